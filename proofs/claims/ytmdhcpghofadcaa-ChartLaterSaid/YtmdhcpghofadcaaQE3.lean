/- Texts put together by program. -/
import Derived.Test.YtmdhcpghofadcaaQE2
namespace Go.Proofs.Ytmdhcpghofadcaa
set_option linter.unusedSimpArgs false
set_option linter.unusedVariables false
set_option maxRecDepth 100000
open Go Go.Ann Go.RowKit
theorem sortnil1 (fv : Value) (w : World) : Ret Try.prog 75 [.slice none 0 0, .int .i64 0, .int .i64 0, fv] w fun u w' => w' = w := by
  refine ent75 _ _ _ _ _ _ ?_
  simp (disch := first | omega | exact okFill_t rfl | exact okSize_t rfl | exact fun h => h | (simp only [World.size_alloc, World.size_drew, World.size_setCell, size_fill, bytesW]; omega)) only [go_sem, c75, c75S0, c75S1, c75S2, c75L0, c75S3, c75S4, c75L1]
  refine ⟨⟨by decide, by decide⟩, ?_⟩
  refine W_loopU (fun _ : Unit => []) (fun _ w' => w' = w) (fun _ => 0) () rfl rfl ?_
  rintro _ _ rfl
  simp (disch := first | omega | exact okFill_t rfl | exact okSize_t rfl | exact fun h => h | (simp only [World.size_alloc, World.size_drew, World.size_setCell, size_fill, bytesW]; omega)) only [go_sem, c75, c75S0, c75S1, c75S2, c75L0, c75S3, c75S4, c75L1]
theorem sortnil2 (fv : Value) (l : Int) (w : World) : Ret Try.prog 60 [.slice none 0 0, .int .i64 0, .int .i64 0, .int .i64 l, fv] w fun u w' => w' = w := by
  refine ent60 _ _ _ _ _ _ _ ?_
  simp (disch := first | omega | exact okFill_t rfl | exact okSize_t rfl | exact fun h => h | (simp only [World.size_alloc, World.size_drew, World.size_setCell, size_fill, bytesW]; omega)) only [go_sem, c60, c60S0, c60S1, c60S2, c60S3, c60S4, c60S5, c60S6, c60S7, c60S8, c60S9, c60S10, c60S11, c60S12, c60S13, c60S14, c60S15, c60S16, c60L0]
  refine W_loopU (fun _ : Unit => []) (fun _ w' => w' = w) (fun _ => 0) () rfl rfl ?_
  rintro _ _ rfl
  simp (disch := first | omega | exact okFill_t rfl | exact okSize_t rfl | exact fun h => h | (simp only [World.size_alloc, World.size_drew, World.size_setCell, size_fill, bytesW]; omega)) only [go_sem, c60, c60S0, c60S1, c60S2, c60S3, c60S4, c60S5, c60S6, c60S7, c60S8, c60S9, c60S10, c60S11, c60S12, c60S13, c60S14, c60S15, c60S16, c60L0]
  refine ⟨⟨by decide, by decide⟩, Ret.mono (sortnil1 _ _) ?_⟩
  rintro _ _ rfl
  simp (disch := first | omega | exact okFill_t rfl | exact okSize_t rfl | exact fun h => h | (simp only [World.size_alloc, World.size_drew, World.size_setCell, size_fill, bytesW]; omega)) only [go_sem, c60, c60S0, c60S1, c60S2, c60S3, c60S4, c60S5, c60S6, c60S7, c60S8, c60S9, c60S10, c60S11, c60S12, c60S13, c60S14, c60S15, c60S16, c60L0]
theorem sortnil (fv : Value) (w : World) : Ret Try.prog 39 [.slice none 0 0, fv] w fun u w' => w' = w := by
  refine ent39 _ _ _ _ ?_
  have gLen : goFunc Try.prog 61 = true := by kernel_rfl
  simp (disch := first | omega | exact okFill_t rfl | exact okSize_t rfl | exact fun h => h | (simp only [World.size_alloc, World.size_drew, World.size_setCell, size_fill, bytesW]; omega)) only [go_sem, c39, gLen]
  have hb := Any.bits_Len (SlLaysF0.n15.bits (P := Try.prog) (ρ := laySortOps_ren) { laySortOps with }) 0 w (by omega) (by omega)
  have hb' : Ret Try.prog 61 [.int .u64 (IntKind.u64.wrap 0)] w fun u w' => u = .int .i64 (Lib.bitLen 0 : Nat) ∧ w' = w := hb.mono fun e w' ⟨h1, h2⟩ => ⟨_, h1, rfl, h2⟩
  refine Ret.mono hb' ?_
  rintro _ _ ⟨rfl, rfl⟩
  simp (disch := first | omega | exact okFill_t rfl | exact okSize_t rfl | exact fun h => h | (simp only [World.size_alloc, World.size_drew, World.size_setCell, size_fill, bytesW]; omega)) only [go_sem, c39]
  refine Ret.mono (sortnil2 _ _ _) ?_
  rintro _ _ rfl
  simp (disch := first | omega | exact okFill_t rfl | exact okSize_t rfl | exact fun h => h | (simp only [World.size_alloc, World.size_drew, World.size_setCell, size_fill, bytesW]; omega)) only [go_sem, c39]
theorem flatK_eq {α : Type} [Inhabited α] {enc : α → List Value} {k : Nat} (hk : ∀ x, (enc x).length = k) (d : Array α) : (Go.Sort.flatK enc k d).toList = d.toList.flatMap enc := by
  have hl : (d.toList.flatMap enc).length = d.size * k := by
    rw [List.length_flatMap, ← Array.length_toList]
    generalize d.toList = l
    induction l with
    | nil => simp
    | cons a l ih => rw [List.map_cons, List.sum_cons, ih, hk, List.length_cons, Nat.add_mul]; omega
  refine List.ext_getElem (by rw [hl, Array.length_toList, Go.Sort.size_flatK]) fun t h1 h2 => ?_
  have ht : t < d.size * k := by omega
  have hk0 : 0 < k := Nat.pos_of_ne_zero fun h => by subst h; omega
  have hi : t / k < d.size := (Nat.div_lt_iff_lt_mul hk0).2 ht
  have hj : t % k < k := Nat.mod_lt _ hk0
  have a := Go.Sort.get_flatK enc k d t ht
  rw [getElem!_pos d _ hi, getElem!_pos (enc _) _ (by rw [hk]; exact hj), getElem!_pos _ _ (by rw [Go.Sort.size_flatK]; exact ht)] at a
  rw [Array.getElem_toList, a]
  have b := flatten_at (sz := k) (d.toList.map enc) (t / k) (t % k) (enc d[t / k]) ((enc d[t / k])[t % k]'(by rw [hk]; exact hj)) (fun c hc => by obtain ⟨x, _, rfl⟩ := List.mem_map.1 hc; exact hk x) (by rw [List.getElem?_map, List.getElem?_eq_getElem (by simpa using hi)]; rfl) (List.getElem?_eq_getElem _)
  rw [show t / k * k + t % k = t by rw [Nat.mul_comm]; exact Nat.div_add_mod t k] at b
  have c : (d.toList.flatMap enc)[t]? = some ((enc d[t / k])[t % k]'(by rw [hk]; exact hj)) := b
  rw [List.getElem?_eq_getElem h2] at c
  exact (Option.some.inj c).symm
theorem own_holdsK {α : Type} [Inhabited α] {enc : α → List Value} {k B e g n cap : Nat} {w : World} {d : Array α} (hk : ∀ x, (enc x).length = k) (hd : d.size = n) (h : w.ownsRow B e k (.slice (some ⟨g, 0, none⟩) n cap) n (d.toList.flatMap enc)) :
    Go.Sort.HoldsK enc k w g 0 d := by
  obtain ⟨hl, ⟨h0, _⟩ | ⟨g', cap', cur, he, hB, hb, hc, hm, hs, hx⟩⟩ := h
  · cases h0
  cases he
  have hblk : Blk w g cur e := hb
  intro j hj
  rw [Go.Sort.size_flatK] at hj
  have hj' : j < (Go.Sort.flatK enc k d).size := by rw [Go.Sort.size_flatK]; exact hj
  refine ⟨?_, hblk.frozen _⟩
  rw [hblk.cell, Nat.zero_add, getElem!_pos (Go.Sort.flatK enc k d) j hj']
  have e1 := flatK_eq hk d
  rw [← hx] at e1
  have e2 : (Go.Sort.flatK enc k d).toList[j]? = (cur.toList.take (n * k))[j]? := by rw [e1]
  rw [List.getElem?_take_of_lt (by rw [← hd]; exact hj), Array.getElem?_toList, Array.getElem?_toList, Array.getElem?_eq_getElem hj'] at e2
  exact e2.symm
theorem own_sorted {α : Type} [Inhabited α] {enc : α → List Value} {k B e g n cap : Nat} {w : World} {d : Array α} (hk : ∀ x, (enc x).length = k) (hd : d.size = n) (h : w.ownsRow B e k (.slice (some ⟨g, 0, none⟩) n cap) n (d.toList.flatMap enc))
    (m : Nat) (d' : Array α) (os : Array Obj) (hd' : d'.size = n) : (sortWorldK enc k w g 0 m d' os).ownsRow B e k (.slice (some ⟨g, 0, none⟩) n cap) n (d'.toList.flatMap enc) ∧ Chg (fun k => k = g) w (sortWorldK enc k w g 0 m d' os) := by
  obtain ⟨hl, ⟨h0, _⟩ | ⟨g', cap', cur, he, hB, hb, hc, hm, hs, hx⟩⟩ := h
  · cases h0
  cases he
  have hg : g < w.heap.size := (Array.getElem?_eq_some_iff.1 hb).1
  have hh : (sortWorldK enc k w g 0 m d' os).heap = w.heap.modify g (Go.Sort.onCells (Go.Sort.putCells id 0 (Go.Sort.flatK enc k d'))) ++ os := rfl
  have hgb : (sortWorldK enc k w g 0 m d' os).heap[g]? = some (.cells (Go.Sort.putCells id 0 (Go.Sort.flatK enc k d') cur) e (0, 0)) := by
    rw [hh, Array.getElem?_append_left (by rw [Array.size_modify]; exact hg), Array.getElem?_modify, if_pos rfl, hb]
    rfl
  have e1 := flatK_eq hk d'
  have hle : n * k ≤ cap * k := Nat.mul_le_mul_right _ hc
  refine ⟨⟨by rw [← e1, Array.length_toList, Go.Sort.size_flatK, hd'], .inr ⟨g, cap, _, rfl, hB, hgb, hc, hm, by unfold Go.Sort.putCells; rw [Array.size_mapIdx]; exact hs, ?_⟩⟩, rfl, rfl, rfl, ?_, fun j hj hne => ?_⟩
  · rw [← e1]
    refine List.ext_getElem (by simp only [Go.Sort.putCells, List.length_take, Array.length_toList, Array.size_mapIdx, Go.Sort.size_flatK, hs, hd']; omega) fun t h1 h2 => ?_
    rw [Array.length_toList, Go.Sort.size_flatK, hd'] at h2
    rw [List.getElem_take, Array.getElem_toList, Array.getElem_toList]
    unfold Go.Sort.putCells
    rw [Array.getElem_mapIdx, if_pos ⟨Nat.zero_le _, by rw [Go.Sort.size_flatK, hd']; omega⟩, Nat.sub_zero, getElem!_pos (Go.Sort.flatK enc k d') t (by rw [Go.Sort.size_flatK, hd']; exact h2)]
    rfl
  · rw [hh, Array.size_append, Array.size_modify]; omega
  · rw [hh, Array.getElem?_append_left (by rw [Array.size_modify]; exact hj), Array.getElem?_modify, if_neg (fun e => hne e.symm)]
instance : Inhabited OpT := ⟨⟨0, 0, 0, 0, 0, 0, 0, false, 0, 0, 0⟩⟩
def Sorts (cf : OpT → OpT → Int) (l l' : List OpT) : Prop := l'.Perm l ∧ l'.Pairwise fun a b => ¬ cf b a < 0
theorem sort_ok (cf : OpT → OpT → Int) (g : Nat) (eg : ∀ args w, (callFunc g args).run Try.prog w = .ok (.enter g args) w) (hO : Go.Sort.SWO (ltOf cf)) (hf : ∀ a b w, Ret Try.prog g [.agg a.enc.toArray, .agg b.enc.toArray] w fun u w' => u = .int .i64 (cf a b) ∧ Gr w w')
    (v : Value) (l : List OpT) (w : World) (B : Nat) (h : w.ownsRow B 23 11 v l.length (l.flatMap OpT.enc)) (hl : l.length ≤ 100) :
    Ret Try.prog 39 [v, .func (.func g) #[] #[]] w fun _ w' => ∃ l', Sorts cf l l' ∧ w'.ownsRow B 23 11 v l.length (l'.flatMap OpT.enc) ∧ Chg (fun k => v.ownBlock = some k) w w' := by
  obtain ⟨hlen, ⟨rfl, h0⟩ | ⟨g', cap, cur, rfl, hB, hb, hc, hm, hs, hx⟩⟩ := id h
  · refine Ret.mono (sortnil _ _) ?_
    rintro _ _ rfl
    have hl0 : l = [] := List.eq_nil_of_length_eq_zero h0
    subst hl0
    exact ⟨[], ⟨List.Perm.refl _, List.Pairwise.nil⟩, h, Chg.refl _ _⟩
  have hcl : CmpLays Try.prog g #[] OpT.enc 11 cf g' 0 l.toArray.size w := fun m os dk hdk x y => by
    have e := hf x y (sortWorldK OpT.enc 11 w g' 0 m dk os)
    unfold Ret at e
    rw [Array.append_empty]
    exact e.mono fun e w' ⟨u, h1, h2, h3⟩ => ⟨by rw [h1, h2], h3⟩
  have hH : Go.Sort.HoldsK OpT.enc 11 w g' 0 l.toArray := own_holdsK OpT.len (by simp) h
  have hs := AnyQ.slices_SortFunc laySortOps 11 Try.isAgg23 Try.sizeOf23 OpT.enc OpT.len OpT.one cf hO g #[] g' 0 cap l.toArray w eg hcl hH (Array.getElem?_eq_some_iff.1 hb).1 (by simp; omega)
  refine hs.mono ?_
  rintro e w' ⟨rfl, d', n, os, hp, hs, rfl⟩
  have hsz : d'.size = l.length := hp.1
  obtain ⟨o1, o2⟩ := own_sorted OpT.len (by simp) (show w.ownsRow B 23 11 (.slice (some ⟨g', 0, none⟩) l.length cap) l.length (l.toArray.toList.flatMap OpT.enc) from h) n d' os hsz
  refine ⟨_, rfl, d'.toList, ⟨?_, ?_⟩, o1, o2.mono fun k _ e => by rw [e]; rfl⟩
  · have := hp.2.2
    simp only [List.size_toArray] at this
    rw [Array.extract_eq_self_of_le (by omega), Array.extract_eq_self_of_le (by simp)] at this
    exact this
  · rw [List.pairwise_iff_getElem]
    intro i j hi hj hij
    have := hs i j (Nat.zero_le _) hij (by simpa [hsz] using hj)
    rw [getElem!_pos d' i (by simpa using hi), getElem!_pos d' j (by simpa using hj)] at this
    simpa [ltOf] using this
end Go.Proofs.Ytmdhcpghofadcaa

namespace Go.Proofs.Ytmdhcpghofadcaa
set_option linter.unusedSimpArgs false
set_option linter.unusedVariables false
set_option maxRecDepth 100000
open Go Go.Ann Go.RowKit
theorem orI2_neg (x y : Int) : decide (orI [x, y] < 0) = decide (x < 0 ∨ x = 0 ∧ y < 0) := by
  unfold orI
  by_cases hx : x = 0
  · subst hx
    by_cases hy : y = 0
    · subst hy; simp
    · simp [List.find?_cons, hy]
  · simp [List.find?_cons, hx]
theorem cmpI_neg (a b : Int) : (cmpI a b < 0) = (a < b) := by
  unfold cmpI
  apply propext
  split
  · omega
  · split <;> omega
theorem cmpI_zero (a b : Int) : (cmpI a b = 0) = (a = b) := by
  unfold cmpI
  apply propext
  split
  · omega
  · split <;> omega
theorem lt_ear (a b : OpT) : ltOf earI a b = decide (a.Invoke < b.Invoke ∨ a.Invoke = b.Invoke ∧ a.ID < b.ID) := by
  unfold ltOf earI
  rw [orI2_neg]
  simp only [cmpI_neg, cmpI_zero]
theorem ear_neg (a b : OpT) : (earI a b < 0) = (a.Invoke < b.Invoke ∨ a.Invoke = b.Invoke ∧ a.ID < b.ID) := by
  have := lt_ear a b
  unfold ltOf at this
  exact propext (decide_eq_decide.1 this)
theorem lt_obj (a b : OpT) : ltOf objI a b = decide (a.Object < b.Object ∨ a.Object = b.Object ∧ (a.Invoke < b.Invoke ∨ a.Invoke = b.Invoke ∧ a.ID < b.ID)) := by
  unfold ltOf objI
  rw [orI2_neg]
  simp only [cmpI_neg, cmpI_zero, ear_neg]
theorem obj_neg (a b : OpT) : (objI a b < 0) = (a.Object < b.Object ∨ a.Object = b.Object ∧ (a.Invoke < b.Invoke ∨ a.Invoke = b.Invoke ∧ a.ID < b.ID)) := by
  have := lt_obj a b
  unfold ltOf at this
  exact propext (decide_eq_decide.1 this)
theorem swo_ear : Go.Sort.SWO (ltOf earI) where
  irrefl x := by rw [lt_ear]; exact decide_eq_false (by omega)
  trans x y z h1 h2 := by rw [lt_ear, decide_eq_true_eq] at *; omega
  ntrans x y z h1 h2 := by rw [lt_ear, decide_eq_false_iff_not] at *; omega
theorem swo_obj : Go.Sort.SWO (ltOf objI) where
  irrefl x := by rw [lt_obj]; exact decide_eq_false (by omega)
  trans x y z h1 h2 := by rw [lt_obj, decide_eq_true_eq] at *; omega
  ntrans x y z h1 h2 := by rw [lt_obj, decide_eq_false_iff_not] at *; omega
def cutStep (q : Seg → OpT → Bool) (mk : OpT → Int × Int) (acc : List Seg) (o : OpT) : List Seg :=
  match acc.getLast? with
  | some s => if q s o then acc ++ [⟨(mk o).1, (mk o).2, [o]⟩] else acc.dropLast ++ [⟨s.obj, s.kind, s.ops ++ [o]⟩]
  | none => [⟨(mk o).1, (mk o).2, [o]⟩]
def segC (s : Seg) (v : Value) : List Value := [.int .i64 s.obj, .int .i64 s.kind, v]
def segCells : List Seg → List Value → List Value
  | s :: l, v :: vs => segC s v ++ segCells l vs
  | _, _ => []
def segInvs : List Seg → List Value → List Inv
  | s :: l, v :: vs => .rd 11 OpT.enc v s.ops :: segInvs l vs
  | _, _ => []
theorem segCells_snoc : ∀ (l : List Seg) (vs : List Value) (s : Seg) (v : Value), vs.length = l.length → segCells (l ++ [s]) (vs ++ [v]) = segCells l vs ++ segC s v
  | [], [], s, v, _ => by simp [segCells]
  | a :: l, b :: vs, s, v, h => by simp only [List.cons_append, segCells, List.append_assoc]; rw [segCells_snoc l vs s v (by simpa using h)]
theorem segCells_length : ∀ (l : List Seg) (vs : List Value), vs.length = l.length → (segCells l vs).length = l.length * 3
  | [], [], _ => rfl
  | a :: l, b :: vs, h => by rw [segCells, List.length_append, segCells_length l vs (by simpa using h), List.length_cons]; simp only [segC, List.length_cons, List.length_nil]; omega
theorem segInvs_mem : ∀ (l : List Seg) (vs : List Value) (i : Nat) (s : Seg) (v : Value), l[i]? = some s → vs[i]? = some v → Inv.rd 11 OpT.enc v s.ops ∈ segInvs l vs
  | a :: l, b :: vs, 0, s, v, h1, h2 => by
    simp only [List.getElem?_cons_zero, Option.some.injEq] at h1 h2; subst h1; subst h2
    exact List.mem_cons_self
  | a :: l, b :: vs, i + 1, s, v, h1, h2 => List.mem_cons_of_mem _ (segInvs_mem l vs i s v (by simpa using h1) (by simpa using h2))
theorem segInvs_snoc : ∀ (l : List Seg) (vs : List Value) (s : Seg) (v : Value), vs.length = l.length → ∀ a, a ∈ segInvs (l ++ [s]) (vs ++ [v]) ↔ a = Inv.rd 11 OpT.enc v s.ops ∨ a ∈ segInvs l vs
  | [], [], s, v, _, a => by simp [segInvs]
  | x :: l, b :: vs, s, v, h, a => by simp only [List.cons_append, segInvs, List.mem_cons, segInvs_snoc l vs s v (by simpa using h)]; exact ⟨fun h => h.elim (fun h => .inr (.inl h)) fun h => h.elim .inl fun h => .inr (.inr h), fun h => h.elim (fun h => .inr (.inl h)) fun h => h.elim .inl fun h => .inr (.inr h)⟩
theorem cutStep_nil (q : Seg → OpT → Bool) (mk : OpT → Int × Int) (o : OpT) : cutStep q mk [] o = [⟨(mk o).1, (mk o).2, [o]⟩] := rfl
theorem cutStep_new {q : Seg → OpT → Bool} (mk : OpT → Int × Int) (ini : List Seg) {s : Seg} {o : OpT} (h : q s o = true) : cutStep q mk (ini ++ [s]) o = ini ++ [s] ++ [⟨(mk o).1, (mk o).2, [o]⟩] := by
  unfold cutStep
  rw [List.getLast?_concat]
  simp only [h, if_true]
theorem cutStep_old {q : Seg → OpT → Bool} (mk : OpT → Int × Int) (ini : List Seg) {s : Seg} {o : OpT} (h : q s o = false) : cutStep q mk (ini ++ [s]) o = ini ++ [⟨s.obj, s.kind, s.ops ++ [o]⟩] := by
  unfold cutStep
  rw [List.getLast?_concat, List.dropLast_concat]
  simp only [h]
  rfl
theorem cutStep_flat (q : Seg → OpT → Bool) (mk : OpT → Int × Int) (acc : List Seg) (o : OpT) : (cutStep q mk acc o).flatMap Seg.ops = acc.flatMap Seg.ops ++ [o] := by
  unfold cutStep
  cases h : acc.getLast? with
  | none => rw [List.getLast?_eq_none_iff.1 h]; rfl
  | some s =>
    obtain ⟨ini, rfl⟩ := List.getLast?_eq_some_iff.1 h
    simp only
    split
    · rw [List.flatMap_append]; rfl
    · rw [List.dropLast_concat, List.flatMap_append, List.flatMap_append, List.append_assoc]; simp
theorem cut_flat (q : Seg → OpT → Bool) (mk : OpT → Int × Int) : ∀ (l : List OpT) (acc : List Seg), (l.foldl (cutStep q mk) acc).flatMap Seg.ops = acc.flatMap Seg.ops ++ l
  | [], acc => by simp
  | o :: l, acc => by rw [List.foldl_cons, cut_flat q mk l, cutStep_flat, List.append_assoc]; rfl
theorem cutStep_ne (q : Seg → OpT → Bool) (mk : OpT → Int × Int) (acc : List Seg) (o : OpT) (h : ∀ s ∈ acc, s.ops ≠ []) : ∀ s ∈ cutStep q mk acc o, s.ops ≠ [] := by
  unfold cutStep
  cases hl : acc.getLast? with
  | none => intro s hs; simp only [List.mem_singleton] at hs; subst hs; simp
  | some x =>
    obtain ⟨ini, rfl⟩ := List.getLast?_eq_some_iff.1 hl
    simp only
    split
    · intro s hs
      rcases List.mem_append.1 hs with hs | hs
      · exact h s hs
      · simp only [List.mem_singleton] at hs; subst hs; simp
    · intro s hs
      rw [List.dropLast_concat] at hs
      rcases List.mem_append.1 hs with hs | hs
      · exact h s (List.mem_append_left _ hs)
      · simp only [List.mem_singleton] at hs; subst hs; simp
theorem cut_ne (q : Seg → OpT → Bool) (mk : OpT → Int × Int) : ∀ (l : List OpT) (acc : List Seg), (∀ s ∈ acc, s.ops ≠ []) → ∀ s ∈ l.foldl (cutStep q mk) acc, s.ops ≠ []
  | [], acc, h => h
  | o :: l, acc, h => by rw [List.foldl_cons]; exact cut_ne q mk l _ (cutStep_ne q mk acc o h)
theorem segs_len : ∀ (acc : List Seg), (∀ s ∈ acc, s.ops ≠ []) → acc.length ≤ (acc.flatMap Seg.ops).length
  | [], _ => Nat.zero_le _
  | a :: l, h => by
    have := segs_len l fun s hs => h s (List.mem_cons_of_mem _ hs)
    have ha := List.length_pos_iff.2 (h a List.mem_cons_self)
    rw [List.flatMap_cons, List.length_append, List.length_cons]; omega
theorem seg_len (acc : List Seg) (s : Seg) (h : s ∈ acc) : s.ops.length ≤ (acc.flatMap Seg.ops).length := by
  induction acc with
  | nil => cases h
  | cons a l ih =>
    rw [List.flatMap_cons, List.length_append]
    rcases List.mem_cons.1 h with rfl | h
    · omega
    · have := ih h; omega
def Cuts (W0 w : World) (more : List Res) (I0 : List Inv) (vo : Value) (acc : List Seg) : Prop :=
  (acc = [] ∧ vo = .slice none 0 0 ∧ St W0 w (fun _ => False) more I0) ∨
  ∃ ini s vs vl, acc = ini ++ [s] ∧ vs.length = ini.length ∧ St W0 w (fun _ => False) (.row vl 23 11 s.ops.length (s.ops.flatMap OpT.enc) :: .row vo 69 3 (ini.length + 1) (segCells ini vs ++ segC s vl) :: more) (segInvs ini vs ++ I0)
theorem Cuts.form {W0 w : World} {more : List Res} {I0 : List Inv} {vo : Value} {acc : List Seg} (h : Cuts W0 w more I0 vo acc) : ∃ a c, vo = .slice a acc.length c := by
  rcases h with ⟨rfl, rfl, _⟩ | ⟨ini, s, vs, vl, rfl, _, h⟩
  · exact ⟨_, _, rfl⟩
  · obtain ⟨a, c, rfl, _⟩ := own_slice (h.row 1 rfl)
    exact ⟨a, c, by rw [List.length_append]; rfl⟩
theorem Cuts.bel {W0 w : World} {more : List Res} {I0 : List Inv} {vo : Value} {acc : List Seg} (h : Cuts W0 w more I0 vo acc) : Below W0.heap.size W0 w := by
  rcases h with ⟨_, _, h⟩ | ⟨_, _, _, _, _, _, h⟩ <;> exact h.bel
theorem Cuts.call {W0 w w' : World} {more : List Res} {I0 : List Inv} {vo : Value} {acc : List Seg} (h : Cuts W0 w more I0 vo acc) (hb : Below w.heap.size w w') : Cuts W0 w' more I0 vo acc := by
  rcases h with ⟨h1, h2, h⟩ | ⟨ini, s, vs, vl, h1, h2, h⟩
  · exact .inl ⟨h1, h2, h.call hb⟩
  · exact .inr ⟨ini, s, vs, vl, h1, h2, h.call hb⟩
theorem Cuts.base {W0 w : World} {more : List Res} {I0 : List Inv} {vo : Value} {acc : List Seg} (h : Cuts W0 w more I0 vo acc) : St W0 w (fun _ => False) more I0 := by
  rcases h with ⟨_, _, h⟩ | ⟨_, _, _, _, _, _, h⟩
  · exact h
  · exact (h.sub ((List.sublist_cons_self _ _).trans (List.sublist_cons_self _ _))).inv_sub fun a ha => List.mem_append_right _ ha
theorem Cuts.box {W0 w : World} {more : List Res} {I0 : List Inv} {vo : Value} {acc : List Seg} (h : Cuts W0 w more I0 vo acc) (cs : Array Value) (t : TypeId) : Cuts W0 (w.alloc (.cells cs t)) (.blk w.heap.size cs t :: more) I0 vo acc := by
  rcases h with ⟨h1, h2, h⟩ | ⟨ini, s, vs, vl, h1, h2, h⟩
  · exact .inl ⟨h1, h2, h.box cs t⟩
  · exact .inr ⟨ini, s, vs, vl, h1, h2, (h.box cs t).perm (((List.Perm.swap _ _ _).cons _).trans (List.Perm.swap _ _ _))⟩
theorem Cuts.grow {W0 w : World} {more : List Res} {I0 : List Inv} {vo x : Value} {acc : List Seg} (h : Cuts W0 w more I0 vo acc) (obj kind : Int) (hn : acc.length ≤ 100) (hx : Rd w 3 x 1 (segC ⟨obj, kind, []⟩ (.slice none 0 0))) {K : Value → World → Prop} {cs : Array Bool} {ty : Nat}
    (hK : ∀ v' w', Cuts W0 w' more I0 v' (acc ++ [⟨obj, kind, []⟩]) → K v' w') : rawB Try.prog .append #[66, 66] ty cs [vo, x] w K := by
  rcases h with ⟨rfl, rfl, h⟩ | ⟨ini, s, vs, vl, rfl, hl, h⟩
  · have s1 := h.nilRow 69 3
    refine s1.append 0 rfl ty66mkI rfl (by decide) hx (by intro u hu; simp only [segC, List.mem_cons, List.not_mem_nil, or_false] at hu; rcases hu with rfl | rfl | rfl <;> rfl) (by omega) (by omega) ?_
    intro v' w' s2 _
    simp only [List.set_cons_zero] at s2
    exact hK _ _ (.inr ⟨[], _, [], .slice none 0 0, rfl, rfl, s2.nilRow 23 11⟩)
  · rw [List.length_append, List.length_singleton] at hn
    have s1 := h.seal (.rd 11 OpT.enc vl s.ops) (RdS.of_own (h.row 0 rfl)) fun k hk => slFoot_own hk
    refine s1.append 0 rfl ty66mkI rfl (by decide) hx (by intro u hu; simp only [segC, List.mem_cons, List.not_mem_nil, or_false] at hu; rcases hu with rfl | rfl | rfl <;> rfl) (by omega) (by omega) ?_
    intro v' w' s2 _
    simp only [List.set_cons_zero] at s2
    have s3 := (s2.nilRow 23 11).inv_sub (I' := segInvs (ini ++ [s]) (vs ++ [vl]) ++ I0) fun a ha => by
      rcases List.mem_append.1 ha with ha | ha
      · rcases (segInvs_snoc ini vs s vl hl a).1 ha with rfl | ha
        · exact List.mem_cons_self
        · exact List.mem_cons_of_mem _ (List.mem_append_left _ ha)
      · exact List.mem_cons_of_mem _ (List.mem_append_right _ ha)
    rw [← segCells_snoc ini vs s vl hl] at s3
    refine hK _ _ (.inr ⟨ini ++ [s], _, vs ++ [vl], .slice none 0 0, rfl, by simp [hl], ?_⟩)
    rw [List.length_append, List.length_singleton]
    exact s3
theorem segCells_flat : ∀ (l : List Seg) (vs : List Value), (List.zipWith segC l vs).flatten = segCells l vs
  | [], vs => by cases vs <;> rfl
  | a :: l, [] => rfl
  | a :: l, b :: vs => by rw [List.zipWith_cons_cons, List.flatten_cons, segCells_flat l vs]; rfl
theorem Cuts.out {W0 w : World} {more : List Res} {I0 : List Inv} {vo : Value} {acc : List Seg} (h : Cuts W0 w more I0 vo acc) (hs : ∀ s ∈ acc, (s.ops.length : Int) ≤ 9223372036854775806) : RdR w 3 segR vo acc := by
  rcases h with ⟨rfl, rfl, _⟩ | ⟨ini, s, vs, vl, rfl, hl, h⟩
  · exact RdR.nil
  refine ⟨List.zipWith segC (ini ++ [s]) (vs ++ [vl]), by simp [hl], ?_, ?_⟩
  · intro i c x hc hx
    rw [List.getElem?_zipWith, hx] at hc
    cases hv : (vs ++ [vl])[i]? with
    | none => rw [hv] at hc; cases hc
    | some v =>
      rw [hv] at hc
      simp only [Option.some.injEq] at hc
      subst hc
      refine ⟨rfl, v, rfl, ?_, hs x (List.mem_of_getElem? hx)⟩
      rcases Nat.lt_or_ge i ini.length with hi | hi
      · rw [List.getElem?_append_left hi] at hx
        rw [List.getElem?_append_left (by omega)] at hv
        exact (h.inv _ (List.mem_append_left _ (segInvs_mem ini vs i x v hx hv))).1
      · rw [List.getElem?_append_right hi] at hx
        rw [List.getElem?_append_right (by omega), hl] at hv
        have hz : i - ini.length = 0 := by
          have := (List.getElem?_eq_some_iff.1 hx).1
          simp only [List.length_singleton] at this; omega
        rw [hz] at hx hv
        simp only [List.getElem?_cons_zero, Option.some.injEq] at hx hv
        subst hx; subst hv
        exact RdS.of_own (h.row 0 rfl)
  · rw [segCells_flat, segCells_snoc ini vs s vl hl, List.length_append, List.length_singleton]
    exact Rd.of_own (h.row 1 rfl)
theorem own_mono {w : World} {B B' e sz n : Nat} {v : Value} {xs : List Value} (h : w.ownsRow B e sz v n xs) (hb : B' ≤ B) : w.ownsRow B' e sz v n xs := by
  obtain ⟨h1, h2 | ⟨g, cap, cur, h3, h4, h5⟩⟩ := h
  · exact ⟨h1, .inl h2⟩
  · exact ⟨h1, .inr ⟨g, cap, cur, h3, by omega, h5⟩⟩
theorem push16 {W0 w : World} {more : List Res} {I0 : List Inv} {vo : Value} {ini : List Seg} {s : Seg} {Q : Post} (o : OpT) (b : Nat) (v1 v13 v14 v15 : Value) (h : Cuts W0 w (.blk b o.enc.toArray 23 :: more) I0 vo (ini ++ [s])) (hn : ini.length ≤ 100) (hs : s.ops.length ≤ 100)
    (hQ : ∀ w', Cuts W0 w' more I0 vo (ini ++ [⟨s.obj, s.kind, s.ops ++ [o]⟩]) → Q .normal [(1, v1), (4, vo), (13, v13), (14, v14), (15, v15)] w') :
    W Try.prog (c33S2 ()) [(1, v1), (4, vo), (6, .pointer (some ⟨b, 0, none⟩)), (7, .int .i64 ini.length), (13, v13), (14, v14), (15, v15)] w Q := by
  rcases h with ⟨h, _⟩ | ⟨ini', s', vs, vl, he, hl, h⟩
  · simp at h
  obtain ⟨rfl, rfl⟩ : ini = ini' ∧ s = s' := by
    have := List.append_inj' he rfl
    exact ⟨this.1, by simpa using this.2⟩
  obtain ⟨a, c, rfl, _⟩ := own_slice (h.row 1 rfl)
  obtain ⟨g, rfl⟩ : ∃ g, a = some ⟨g, 0, none⟩ := by
    obtain ⟨_, ⟨_, h0⟩ | ⟨g, cap, cur, e, _⟩⟩ := h.row 1 rfl
    · omega
    · cases e; exact ⟨g, rfl⟩
  have hrow := (h.row 1 rfl)
  have hlen := segCells_length ini vs hl
  have hc0 : w.cell? ⟨g, ini.length * 3 + 2, none⟩ = some vl := by
    have := hrow.cells rfl (ini.length * 3 + 2) vl (by rw [List.getElem?_append_right (by omega), hlen, show ini.length * 3 + 2 - ini.length * 3 = 2 by omega]; rfl)
    simpa [Addr.add] using this
  have hgl := hrow.lt g rfl
  have hne : vl.ownBlock ≠ some g := h.ne 1 0 rfl rfl (by decide) rfl
  obtain ⟨av, cv, rfl, _⟩ := own_slice (h.row 0 rfl)
  have ho := h.blk 2 rfl
  have hbl := ho.lt
  have hor := ho.rules
  simp (disch := first | omega | exact okFill_t rfl | exact okSize_t rfl | exact fun h => h | (simp only [World.size_alloc, World.size_drew, World.size_setCell, size_fill, bytesW]; omega)) only [go_sem, c33, c33S0, c33S1, c33S2, c33S3, c33S4, c33L0, c33S5, c33S6, c33S7]
  refine c33draw1 (Chg (fun k => (Value.slice av s.ops.length cv).ownBlock = some k) _) (Chg.refl _ _) ?_
  simp (disch := first | omega | exact okFill_t rfl | exact okSize_t rfl | exact fun h => h | (simp only [World.size_alloc, World.size_drew, World.size_setCell, size_fill, bytesW]; omega)) only [go_sem, c33, c33S0, c33S1, c33S2, c33S3, c33S4, c33L0, c33S5, c33S6, c33S7, c33D1, hc0, hor]
  refine ⟨⟨by omega, by omega⟩, bsW_agg ty27mkI rfl (by decide) (by decide) ?_⟩
  have h2 : St W0 (w.alloc (.cells o.enc.toArray 23)).drew _ _ _ := (h.alloc' (.cells o.enc.toArray 23)).drew
  have hrd : Rd (w.alloc (.cells o.enc.toArray 23)).drew 11 (.slice (some ⟨w.heap.size, 0, none⟩) 1 1) 1 o.enc := rd_new (w := w.drew) (t := 23) (sz := 11) (n := 1) (cs := o.enc.toArray) rfl
  simp (disch := first | omega | exact okFill_t rfl | exact okSize_t rfl | exact fun h => h | (simp only [World.size_alloc, World.size_drew, World.size_setCell, size_fill, bytesW]; omega)) only [go_sem, c33, c33S0, c33S1, c33S2, c33S3, c33S4, c33L0, c33S5, c33S6, c33S7, c33D1, hc0, hor]
  refine ⟨chg_da, h2.append 0 rfl ty27mkI rfl (by decide) hrd o.one (by omega) (by omega) ?_⟩
  intro v3 w3 s3 c3
  simp only [List.set_cons_zero] at s3
  obtain ⟨a3, c3', rfl, _⟩ := own_slice (s3.row 0 rfl)
  have s3' := s3.row 1 rfl
  simp (disch := first | omega | exact okFill_t rfl | exact okSize_t rfl | exact fun h => h | (simp only [World.size_alloc, World.size_drew, World.size_setCell, size_fill, bytesW]; omega)) only [go_sem, c33, c33S0, c33S1, c33S2, c33S3, c33S4, c33L0, c33S5, c33S6, c33S7, c33D1, hc0, hor]
  have hc3 : w3.cell? ⟨g, ini.length * 3 + 2, none⟩ = some (.slice av s.ops.length cv) := by
    have := s3'.cells rfl (ini.length * 3 + 2) (.slice av s.ops.length cv) (by rw [List.getElem?_append_right (by omega), hlen, show ini.length * 3 + 2 - ini.length * 3 = 2 by omega]; rfl)
    simpa [Addr.add] using this
  have hf3 : w3.frozen? ⟨g, ini.length * 3 + 2, none⟩ = false := by
    obtain ⟨_, ⟨h0, _⟩ | ⟨g', cap, cur, e, _, hb, _⟩⟩ := s3'
    · cases h0
    · cases e; exact Blk.frozen (show Blk w3 g cur _ from hb) _
  refine ⟨⟨by omega, by omega⟩, ⟨_, hc3⟩, hf3, hQ _ (.inr ⟨ini, _, vs, .slice a3 (s.ops.length + 1) c3', rfl, hl, ?_⟩)⟩
  have s4 := (s3.put 1 rfl (ini.length * 3 + 2) (.slice a3 (s.ops.length + 1) c3')).sub (((List.sublist_cons_self _ _).cons_cons _).cons_cons _)
  rw [List.set_append_right _ _ (by omega), hlen, show ini.length * 3 + 2 - ini.length * 3 = 2 by omega] at s4
  have e1 : (s.ops ++ [o]).flatMap OpT.enc = s.ops.flatMap OpT.enc ++ o.enc := by rw [List.flatMap_append]; simp
  have e2 : (s.ops ++ [o]).length = s.ops.length + 1 := by simp
  show St W0 _ _ (.row _ _ 11 (s.ops ++ [o]).length ((s.ops ++ [o]).flatMap OpT.enc) :: _) _
  rw [e1, e2]
  exact s4
theorem segments_ok (obj kind : Int) (v : Value) (l : List OpT) (w : World) (h : RdS w 11 OpT.enc v l) (hl : l.length ≤ 100) :
    Ret Try.prog 33 [.agg #[.int .i64 obj, .int .i64 kind, v]] w fun u w' => (∃ l', Sorts earI l l' ∧ RdR w' 3 segR u (l'.foldl (cutStep (fun s o => s.ops.all fun x => before x o) fun _ => (obj, kind)) [])) ∧ Below w.heap.size w w' := by
  obtain ⟨a, c, rfl, _⟩ := h.form
  refine ent33 _ _ _ ?_
  simp (disch := first | omega | exact okFill_t rfl | exact okSize_t rfl | exact fun h => h | (simp only [World.size_alloc, World.size_drew, World.size_setCell, size_fill, bytesW]; omega)) only [go_sem, c33, c33S0, c33S1, c33S2, c33S3, c33S4, c33L0, c33S5, c33S6, c33S7]
  have s1 := (St.start (W0 := w)).box #[.int .i64 obj, .int .i64 kind, .slice a l.length c] 69
  have h1 := h.below s1.bel (by decide)
  generalize w.alloc (.cells #[.int .i64 obj, .int .i64 kind, .slice a l.length c] 69) = w1 at s1 h1 ⊢
  refine Ret.mono (clone_ok _ _ _ h1 hl) ?_
  rintro vl w2 ⟨o2, b2⟩
  have s2 := s1.add b2 (.row vl 23 11 l.length (l.flatMap OpT.enc)) (own_mono o2 s1.size) fun k hk => (o2.lt k hk).1
  simp (disch := first | omega | exact okFill_t rfl | exact okSize_t rfl | exact fun h => h | (simp only [World.size_alloc, World.size_drew, World.size_setCell, size_fill, bytesW]; omega)) only [go_sem, c33, c33S0, c33S1, c33S2, c33S3, c33S4, c33L0, c33S5, c33S6, c33S7]
  refine Ret.mono (sort_ok earI _ (enters_of Try.func50 (by kernel_rfl) rfl) swo_ear earlier_ok vl l w2 _ (s2.row 0 rfl) hl) ?_
  rintro _ w3 ⟨l', hs, o3, c3⟩
  have s3 := s2.upd 0 rfl c3 (.row vl 23 11 l.length (l'.flatMap OpT.enc)) o3 fun k hk => .inl hk
  have hll : l'.length = l.length := hs.1.length_eq
  simp only [List.set_cons_zero] at s3
  have s4 := s3.seal (.rd 11 OpT.enc vl l') (RdS.of_own' (s3.row 0 rfl) l' hll.symm rfl) fun k hk => slFoot_own hk
  obtain ⟨al, cl, rfl, _⟩ := own_slice o3
  simp (disch := first | omega | exact okFill_t rfl | exact okSize_t rfl | exact fun h => h | (simp only [World.size_alloc, World.size_drew, World.size_setCell, size_fill, bytesW]; omega)) only [go_sem, c33, c33S0, c33S1, c33S2, c33S3, c33S4, c33L0, c33S5, c33S6, c33S7]
  refine W_loopU (fun x : Nat × Value => [(4, x.2), (15, .int .i64 x.1)]) (fun x w' => x.1 ≤ l'.length ∧ Cuts w w' [.blk w.heap.size #[.int .i64 obj, .int .i64 kind, .slice a l.length c] 69] [.rd 11 OpT.enc (.slice al l.length cl) l'] x.2 ((l'.take x.1).foldl (cutStep (fun s o => s.ops.all fun x => before x o) fun _ => (obj, kind)) [])) (fun x => l'.length - x.1) (0, .slice none 0 0) rfl ⟨Nat.zero_le _, .inl ⟨rfl, rfl, s4⟩⟩ ?_
  rintro ⟨k, vo⟩ w4 ⟨hk, hc⟩
  simp only at hk hc
  generalize ha : (l'.take k).foldl (cutStep (fun s o => s.ops.all fun x => before x o) fun _ => (obj, kind)) [] = acc at hc
  obtain ⟨ao, co, rfl⟩ := hc.form
  by_cases hlt : k < l'.length
  · have hlt' : (k : Int) < l.length := by omega
    have hstep : (l'.take (k + 1)).foldl (cutStep (fun s o => s.ops.all fun x => before x o) fun _ => (obj, kind)) [] = cutStep (fun s o => s.ops.all fun x => before x o) (fun _ => (obj, kind)) acc l'[k] := by
      rw [List.take_succ_eq_append_getElem hlt, List.foldl_append, ha]; rfl
    have s5 : St w w4 (fun _ => False) [.blk w.heap.size #[.int .i64 obj, .int .i64 kind, .slice a l.length c] 69] [.rd 11 OpT.enc (.slice al l.length cl) l'] := hc.base
    have r5 := s5.rules 0 rfl
    have g5 := s5.get 0 rfl
    have g5' : RdS w4 11 OpT.enc (.slice al l.length cl) l' := g5
    obtain ⟨pl, rfl⟩ := RdS.ptr (by rw [← hll] at g5'; exact g5') (by omega)
    have el := g5'.at OpT.len hlt
    simp (disch := first | omega | exact okFill_t rfl | exact okSize_t rfl | exact fun h => h | (simp only [World.size_alloc, World.size_drew, World.size_setCell, size_fill, bytesW]; omega)) only [go_sem, c33, c33S0, c33S3, c33S4, c33L0, c33S5, c33S6, c33S7, hlt', r5, el]
    have hflat := cut_flat (fun s o => s.ops.all fun x => before x o) (fun _ => (obj, kind)) (l'.take k) []
    have hne := cut_ne (fun s o => s.ops.all fun x => before x o) (fun _ => (obj, kind)) (l'.take k) [] (fun s h => by cases h)
    rw [ha] at hflat hne
    simp only [List.flatMap_nil, List.nil_append] at hflat
    have hlen := segs_len acc hne
    have hfl : (acc.flatMap Seg.ops).length = k := by rw [hflat, List.length_take]; omega
    refine ⟨by omega, rfl, ⟨by omega, by omega⟩, ?_⟩
    have hc6 := hc.box l'[k].enc.toArray 23
    have hw6 := hc6.base.size
    have r6 := hc6.base.rules 1 rfl
    have ho := hc6.base.blk 0 rfl
    generalize w4.heap.size = bo at hc6 ho ⊢
    generalize w4.alloc (.cells l'[k].enc.toArray 23) = w6 at hc6 ho r6 hw6 ⊢
    have ro := ho.rules
    have hw7 := ho.lt
    rcases List.eq_nil_or_concat acc with rfl | ⟨ini, s, hacc⟩
    · refine c33draw0 (Chg (fun _ => False) _) (Chg.refl _ _) ?_
      simp (disch := first | omega | exact okFill_t rfl | exact okSize_t rfl | exact fun h => h | (simp only [World.size_alloc, World.size_drew, World.size_setCell, size_fill, bytesW]; omega)) only [go_sem, c33, c33S0, c33S1, c33S3, c33S4, c33L0, c33S5, c33S6, c33S7, c33D0, r6]
      refine bdW_built (cells := (segC ⟨obj, kind, []⟩ (.slice none 0 0)).toArray) (by kernel_rfl) ?_
      simp (disch := first | omega | exact okFill_t rfl | exact okSize_t rfl | exact fun h => h | (simp only [World.size_alloc, World.size_drew, World.size_setCell, size_fill, bytesW]; omega)) only [go_sem, c33, c33S0, c33S1, c33S3, c33S4, c33L0, c33S5, c33S6, c33S7]
      refine bsW_agg ty66mkI rfl (by decide) (by decide) ?_
      simp (disch := first | omega | exact okFill_t rfl | exact okSize_t rfl | exact fun h => h | (simp only [World.size_alloc, World.size_drew, World.size_setCell, size_fill, bytesW]; omega)) only [go_sem, c33, c33S0, c33S1, c33S3, c33S4, c33L0, c33S5, c33S6, c33S7]
      have hrd : Rd (w6.alloc (.cells (segC ⟨obj, kind, []⟩ (.slice none 0 0)).toArray 69)).drew 3 (.slice (some ⟨w6.heap.size, 0, none⟩) 1 1) 1 (segC ⟨obj, kind, []⟩ (.slice none 0 0)) := rd_new (w := w6.drew) (t := 69) (sz := 3) (n := 1) (cs := (segC ⟨obj, kind, []⟩ (.slice none 0 0)).toArray) rfl
      refine (hc6.call (w' := (w6.alloc (.cells (segC ⟨obj, kind, []⟩ (.slice none 0 0)).toArray 69)).drew) ((Below.refl _ w6).alloc (Nat.le_refl _) _).drew).grow obj kind (by simp) hrd ?_
      intro v8 w8 c8
      simp (disch := first | omega | exact okFill_t rfl | exact okSize_t rfl | exact fun h => h | (simp only [World.size_alloc, World.size_drew, World.size_setCell, size_fill, bytesW]; omega)) only [go_sem, c33, c33S0, c33S1, c33S3, c33S4, c33L0, c33S5, c33S6, c33S7]
      refine ⟨⟨by decide, by decide⟩, push16 (ini := []) l'[k] bo _ _ _ _ c8 (by simp) (by simp) ?_⟩
      intro w9 c9
      simp (disch := first | omega | exact okFill_t rfl | exact okSize_t rfl | exact fun h => h | (simp only [World.size_alloc, World.size_drew, World.size_setCell, size_fill, bytesW]; omega)) only [go_sem, c33, c33S0, c33S1, c33S2, c33S3, c33S4, c33L0, c33S5, c33S6, c33S7]
      refine ⟨⟨by omega, by omega⟩, (k + 1, _), rfl, ⟨by simp only; omega, ?_⟩, by simp only; omega⟩
      simp only
      rw [hstep, cutStep_nil]
      exact c9
    · rw [List.concat_eq_append] at hacc
      subst hacc
      rcases id hc6 with ⟨h0, _⟩ | ⟨ini', s', vs, vl, he, hvl, s6⟩
      · simp at h0
      obtain ⟨rfl, rfl⟩ : ini = ini' ∧ s = s' := by
        have := List.append_inj' he rfl
        exact ⟨this.1, by simpa using this.2⟩
      have hnz : ((ini ++ [s]).length : Int) - 1 = ini.length := by simp
      rw [hnz]
      rw [List.length_append, List.length_singleton] at hc6 s6 ⊢
      obtain ⟨g, rfl⟩ : ∃ g, ao = some ⟨g, 0, none⟩ := by
        obtain ⟨_, ⟨_, h0⟩ | ⟨g, cap, cur, e, _⟩⟩ := s6.row 1 rfl
        · omega
        · cases e; exact ⟨g, rfl⟩
      have hrow := s6.row 1 rfl
      have hsl := segCells_length ini vs hvl
      have hc0 : w6.cell? ⟨g, ini.length * 3 + 2, none⟩ = some vl := by
        have := hrow.cells rfl (ini.length * 3 + 2) vl (by rw [List.getElem?_append_right (by omega), hsl, show ini.length * 3 + 2 - ini.length * 3 = 2 by omega]; rfl)
        simpa [Addr.add] using this
      have hgl := hrow.lt g rfl
      have hil := s6.row 0 rfl
      obtain ⟨av, cv, rfl, _⟩ := own_slice (s6.row 0 rfl)
      refine c33draw0 (Chg (fun _ => False) _) (Chg.refl _ _) ?_
      simp (disch := first | omega | exact okFill_t rfl | exact okSize_t rfl | exact fun h => h | (simp only [World.size_alloc, World.size_drew, World.size_setCell, size_fill, bytesW]; omega)) only [go_sem, c33, c33S0, c33S1, c33S3, c33S4, c33L0, c33S5, c33S6, c33S7, c33D0, r6, ro, hc0]
      have hsl' := seg_len (ini ++ [s]) s (by simp)
      refine ⟨fun _ => ⟨⟨by omega, by omega⟩, Ret.mono (quiet_ok _ s.ops l'[k] _ (RdS.of_own (hil.drew)) (by omega)) ?_⟩, fun h => by omega⟩
      rintro _ w8 ⟨rfl, b8⟩
      have hc8 : Cuts w w8 _ _ _ (ini ++ [s]) := (hc6.call ((Below.refl _ w6).drew)).call b8
      have r8 := hc8.base.rules 1 rfl
      simp (disch := first | omega | exact okFill_t rfl | exact okSize_t rfl | exact fun h => h | (simp only [World.size_alloc, World.size_drew, World.size_setCell, size_fill, bytesW]; omega)) only [go_sem, c33, c33S0, c33S1, c33S3, c33S4, c33L0, c33S5, c33S6, c33S7, c33D0, r6, ro, hc0, r8]
      refine ⟨fun hq => ?_, fun hq => ?_⟩
      · refine bdW_built (cells := (segC ⟨obj, kind, []⟩ (.slice none 0 0)).toArray) (by kernel_rfl) ?_
        simp (disch := first | omega | exact okFill_t rfl | exact okSize_t rfl | exact fun h => h | (simp only [World.size_alloc, World.size_drew, World.size_setCell, size_fill, bytesW]; omega)) only [go_sem, c33, c33S0, c33S1, c33S3, c33S4, c33L0, c33S5, c33S6, c33S7]
        refine bsW_agg ty66mkI rfl (by decide) (by decide) ?_
        simp (disch := first | omega | exact okFill_t rfl | exact okSize_t rfl | exact fun h => h | (simp only [World.size_alloc, World.size_drew, World.size_setCell, size_fill, bytesW]; omega)) only [go_sem, c33, c33S0, c33S1, c33S3, c33S4, c33L0, c33S5, c33S6, c33S7]
        have hrd : Rd (w8.alloc (.cells (segC ⟨obj, kind, []⟩ (.slice none 0 0)).toArray 69)) 3 (.slice (some ⟨w8.heap.size, 0, none⟩) 1 1) 1 (segC ⟨obj, kind, []⟩ (.slice none 0 0)) := rd_new (t := 69) (sz := 3) (n := 1) (cs := (segC ⟨obj, kind, []⟩ (.slice none 0 0)).toArray) rfl
        refine (hc8.call (w' := w8.alloc (.cells (segC ⟨obj, kind, []⟩ (.slice none 0 0)).toArray 69)) ((Below.refl _ w8).alloc (Nat.le_refl _) _)).grow obj kind (by simp; omega) hrd ?_
        intro v9 w9 c9
        simp (disch := first | omega | exact okFill_t rfl | exact okSize_t rfl | exact fun h => h | (simp only [World.size_alloc, World.size_drew, World.size_setCell, size_fill, bytesW]; omega)) only [go_sem, c33, c33S0, c33S1, c33S3, c33S4, c33L0, c33S5, c33S6, c33S7]
        refine ⟨⟨by omega, by omega⟩, ?_⟩
        rw [show (ini.length : Int) + 1 = ((ini ++ [s]).length : Nat) by simp]
        refine push16 (ini := ini ++ [s]) l'[k] bo _ _ _ _ c9 (by simp; omega) (by simp) ?_
        intro w10 c10
        simp (disch := first | omega | exact okFill_t rfl | exact okSize_t rfl | exact fun h => h | (simp only [World.size_alloc, World.size_drew, World.size_setCell, size_fill, bytesW]; omega)) only [go_sem, c33, c33S0, c33S1, c33S2, c33S3, c33S4, c33L0, c33S5, c33S6, c33S7]
        refine ⟨⟨by omega, by omega⟩, (k + 1, _), rfl, ⟨by simp only; omega, ?_⟩, by simp only; omega⟩
        simp only
        rw [hstep, cutStep_new _ _ hq]
        exact c10
      · refine push16 l'[k] bo _ _ _ _ hc8 (by omega) (by omega) ?_
        intro w9 c9
        simp (disch := first | omega | exact okFill_t rfl | exact okSize_t rfl | exact fun h => h | (simp only [World.size_alloc, World.size_drew, World.size_setCell, size_fill, bytesW]; omega)) only [go_sem, c33, c33S0, c33S1, c33S2, c33S3, c33S4, c33L0, c33S5, c33S6, c33S7]
        refine ⟨⟨by omega, by omega⟩, (k + 1, _), rfl, ⟨by simp only; omega, ?_⟩, by simp only; omega⟩
        simp only
        rw [hstep, cutStep_old _ _ hq]
        exact c9
  · have hlt' : ¬ (k : Int) < l.length := by omega
    simp (disch := first | omega | exact okFill_t rfl | exact okSize_t rfl | exact fun h => h | (simp only [World.size_alloc, World.size_drew, World.size_setCell, size_fill, bytesW]; omega)) only [go_sem, c33, c33S0, c33S1, c33S2, c33S3, c33S4, c33L0, c33S5, c33S6, c33S7, hlt']
    have hkl : k = l'.length := by omega
    subst hkl
    rw [List.take_length] at ha
    subst ha
    have hflat := cut_flat (fun s o => s.ops.all fun x => before x o) (fun _ => (obj, kind)) l' []
    refine ⟨⟨l', hs, hc.out fun s hs => ?_⟩, hc.bel⟩
    have h1 := seg_len _ s hs
    rw [hflat] at h1
    simp only [List.flatMap_nil, List.nil_append] at h1
    omega
end Go.Proofs.Ytmdhcpghofadcaa

namespace Go.Proofs.Ytmdhcpghofadcaa
set_option linter.unusedSimpArgs false
set_option linter.unusedVariables false
set_option maxRecDepth 100000
open Go Go.Ann Go.RowKit
theorem push18 {W0 w : World} {more : List Res} {I0 : List Inv} {vo : Value} {ini : List Seg} {s : Seg} {Q : Post} (o : OpT) (b : Nat) (v11 v12 v13 : Value) (h : Cuts W0 w (.blk b o.enc.toArray 23 :: more) I0 vo (ini ++ [s])) (hn : ini.length ≤ 100) (hs : s.ops.length ≤ 100)
    (hQ : ∀ w', Cuts W0 w' more I0 vo (ini ++ [⟨s.obj, s.kind, s.ops ++ [o]⟩]) → Q .normal [(3, vo), (11, v11), (12, v12), (13, v13)] w') :
    W Try.prog (c31S2 ()) [(3, vo), (5, .pointer (some ⟨b, 0, none⟩)), (6, .int .i64 ini.length), (11, v11), (12, v12), (13, v13)] w Q := by
  rcases h with ⟨h, _⟩ | ⟨ini', s', vs, vl, he, hl, h⟩
  · simp at h
  obtain ⟨rfl, rfl⟩ : ini = ini' ∧ s = s' := by
    have := List.append_inj' he rfl
    exact ⟨this.1, by simpa using this.2⟩
  obtain ⟨a, c, rfl, _⟩ := own_slice (h.row 1 rfl)
  obtain ⟨g, rfl⟩ : ∃ g, a = some ⟨g, 0, none⟩ := by
    obtain ⟨_, ⟨_, h0⟩ | ⟨g, cap, cur, e, _⟩⟩ := h.row 1 rfl
    · omega
    · cases e; exact ⟨g, rfl⟩
  have hrow := (h.row 1 rfl)
  have hlen := segCells_length ini vs hl
  have hc0 : w.cell? ⟨g, ini.length * 3 + 2, none⟩ = some vl := by
    have := hrow.cells rfl (ini.length * 3 + 2) vl (by rw [List.getElem?_append_right (by omega), hlen, show ini.length * 3 + 2 - ini.length * 3 = 2 by omega]; rfl)
    simpa [Addr.add] using this
  have hgl := hrow.lt g rfl
  have hne : vl.ownBlock ≠ some g := h.ne 1 0 rfl rfl (by decide) rfl
  obtain ⟨av, cv, rfl, _⟩ := own_slice (h.row 0 rfl)
  have ho := h.blk 2 rfl
  have hbl := ho.lt
  have hor := ho.rules
  simp (disch := first | omega | exact okFill_t rfl | exact okSize_t rfl | exact fun h => h | (simp only [World.size_alloc, World.size_drew, World.size_setCell, size_fill, bytesW]; omega)) only [go_sem, c31, c31S0, c31S1, c31S2, c31S3, c31S4, c31L0, c31S5, c31S6, c31S7]
  refine c31draw1 (Chg (fun k => (Value.slice av s.ops.length cv).ownBlock = some k) _) (Chg.refl _ _) ?_
  simp (disch := first | omega | exact okFill_t rfl | exact okSize_t rfl | exact fun h => h | (simp only [World.size_alloc, World.size_drew, World.size_setCell, size_fill, bytesW]; omega)) only [go_sem, c31, c31S0, c31S1, c31S2, c31S3, c31S4, c31L0, c31S5, c31S6, c31S7, c31D1, hc0, hor]
  refine ⟨⟨by omega, by omega⟩, bsW_agg ty27mkI rfl (by decide) (by decide) ?_⟩
  have h2 : St W0 (w.alloc (.cells o.enc.toArray 23)).drew _ _ _ := (h.alloc' (.cells o.enc.toArray 23)).drew
  have hrd : Rd (w.alloc (.cells o.enc.toArray 23)).drew 11 (.slice (some ⟨w.heap.size, 0, none⟩) 1 1) 1 o.enc := rd_new (w := w.drew) (t := 23) (sz := 11) (n := 1) (cs := o.enc.toArray) rfl
  simp (disch := first | omega | exact okFill_t rfl | exact okSize_t rfl | exact fun h => h | (simp only [World.size_alloc, World.size_drew, World.size_setCell, size_fill, bytesW]; omega)) only [go_sem, c31, c31S0, c31S1, c31S2, c31S3, c31S4, c31L0, c31S5, c31S6, c31S7, c31D1, hc0, hor]
  refine ⟨chg_da, h2.append 0 rfl ty27mkI rfl (by decide) hrd o.one (by omega) (by omega) ?_⟩
  intro v3 w3 s3 c3
  simp only [List.set_cons_zero] at s3
  obtain ⟨a3, c3', rfl, _⟩ := own_slice (s3.row 0 rfl)
  have s3' := s3.row 1 rfl
  simp (disch := first | omega | exact okFill_t rfl | exact okSize_t rfl | exact fun h => h | (simp only [World.size_alloc, World.size_drew, World.size_setCell, size_fill, bytesW]; omega)) only [go_sem, c31, c31S0, c31S1, c31S2, c31S3, c31S4, c31L0, c31S5, c31S6, c31S7, c31D1, hc0, hor]
  have hc3 : w3.cell? ⟨g, ini.length * 3 + 2, none⟩ = some (.slice av s.ops.length cv) := by
    have := s3'.cells rfl (ini.length * 3 + 2) (.slice av s.ops.length cv) (by rw [List.getElem?_append_right (by omega), hlen, show ini.length * 3 + 2 - ini.length * 3 = 2 by omega]; rfl)
    simpa [Addr.add] using this
  have hf3 : w3.frozen? ⟨g, ini.length * 3 + 2, none⟩ = false := by
    obtain ⟨_, ⟨h0, _⟩ | ⟨g', cap, cur, e, _, hb, _⟩⟩ := s3'
    · cases h0
    · cases e; exact Blk.frozen (show Blk w3 g cur _ from hb) _
  refine ⟨⟨by omega, by omega⟩, ⟨_, hc3⟩, hf3, hQ _ (.inr ⟨ini, _, vs, .slice a3 (s.ops.length + 1) c3', rfl, hl, ?_⟩)⟩
  have s4 := (s3.put 1 rfl (ini.length * 3 + 2) (.slice a3 (s.ops.length + 1) c3')).sub (((List.sublist_cons_self _ _).cons_cons _).cons_cons _)
  rw [List.set_append_right _ _ (by omega), hlen, show ini.length * 3 + 2 - ini.length * 3 = 2 by omega] at s4
  have e1 : (s.ops ++ [o]).flatMap OpT.enc = s.ops.flatMap OpT.enc ++ o.enc := by rw [List.flatMap_append]; simp
  have e2 : (s.ops ++ [o]).length = s.ops.length + 1 := by simp
  show St W0 _ _ (.row _ _ 11 (s.ops ++ [o]).length ((s.ops ++ [o]).flatMap OpT.enc) :: _) _
  rw [e1, e2]
  exact s4
theorem objects_ok (v : Value) (l : List OpT) (w : World) (h : RdS w 11 OpT.enc v l) (hl : l.length ≤ 100) :
    Ret Try.prog 31 [v] w fun u w' => (∃ l', Sorts objI l l' ∧ RdR w' 3 segR u (l'.foldl (cutStep (fun s o => !decide (s.obj = o.Object)) fun o => (o.Object, o.Kind)) [])) ∧ Below w.heap.size w w' := by
  refine ent31 _ _ _ ?_
  simp (disch := first | omega | exact okFill_t rfl | exact okSize_t rfl | exact fun h => h | (simp only [World.size_alloc, World.size_drew, World.size_setCell, size_fill, bytesW]; omega)) only [go_sem, c31, c31S0, c31S1, c31S2, c31S3, c31S4, c31L0, c31S5, c31S6, c31S7]
  refine Ret.mono (clone_ok _ _ _ h hl) ?_
  rintro vl w2 ⟨o2, b2⟩
  have s2 := (St.start (W0 := w)).add b2 (.row vl 23 11 l.length (l.flatMap OpT.enc)) o2 fun k hk => (o2.lt k hk).1
  simp (disch := first | omega | exact okFill_t rfl | exact okSize_t rfl | exact fun h => h | (simp only [World.size_alloc, World.size_drew, World.size_setCell, size_fill, bytesW]; omega)) only [go_sem, c31, c31S0, c31S1, c31S2, c31S3, c31S4, c31L0, c31S5, c31S6, c31S7]
  refine Ret.mono (sort_ok objI _ (enters_of Try.func49 (by kernel_rfl) rfl) swo_obj object1_ok vl l w2 _ (s2.row 0 rfl) hl) ?_
  rintro _ w3 ⟨l', hs, o3, c3⟩
  have s3 := s2.upd 0 rfl c3 (.row vl 23 11 l.length (l'.flatMap OpT.enc)) o3 fun k hk => .inl hk
  have hll : l'.length = l.length := hs.1.length_eq
  simp only [List.set_cons_zero] at s3
  have s4 := s3.seal (.rd 11 OpT.enc vl l') (RdS.of_own' (s3.row 0 rfl) l' hll.symm rfl) fun k hk => slFoot_own hk
  obtain ⟨al, cl, rfl, _⟩ := own_slice o3
  simp (disch := first | omega | exact okFill_t rfl | exact okSize_t rfl | exact fun h => h | (simp only [World.size_alloc, World.size_drew, World.size_setCell, size_fill, bytesW]; omega)) only [go_sem, c31, c31S0, c31S1, c31S2, c31S3, c31S4, c31L0, c31S5, c31S6, c31S7]
  generalize hq0 : (fun (s : Seg) (o : OpT) => !decide (s.obj = o.Object)) = q
  generalize hm0 : (fun (o : OpT) => (o.Object, o.Kind)) = mk
  refine W_loopU (fun x : Nat × Value => [(3, x.2), (13, .int .i64 x.1)]) (fun x w' => x.1 ≤ l'.length ∧ Cuts w w' [] [.rd 11 OpT.enc (.slice al l.length cl) l'] x.2 ((l'.take x.1).foldl (cutStep q mk) [])) (fun x => l'.length - x.1) (0, .slice none 0 0) rfl ⟨Nat.zero_le _, .inl ⟨rfl, rfl, s4⟩⟩ ?_
  rintro ⟨k, vo⟩ w4 ⟨hk, hc⟩
  simp only at hk hc
  generalize ha : (l'.take k).foldl (cutStep q mk) [] = acc at hc
  obtain ⟨ao, co, rfl⟩ := hc.form
  by_cases hlt : k < l'.length
  · have hlt' : (k : Int) < l.length := by omega
    have hstep : (l'.take (k + 1)).foldl (cutStep q mk) [] = cutStep q mk acc l'[k] := by
      rw [List.take_succ_eq_append_getElem hlt, List.foldl_append, ha]; rfl
    have s5 : St w w4 (fun _ => False) [] [.rd 11 OpT.enc (.slice al l.length cl) l'] := hc.base
    have g5 := s5.get 0 rfl
    have g5' : RdS w4 11 OpT.enc (.slice al l.length cl) l' := g5
    obtain ⟨pl, rfl⟩ := RdS.ptr (by rw [← hll] at g5'; exact g5') (by omega)
    have el := g5'.at OpT.len hlt
    simp (disch := first | omega | exact okFill_t rfl | exact okSize_t rfl | exact fun h => h | (simp only [World.size_alloc, World.size_drew, World.size_setCell, size_fill, bytesW]; omega)) only [go_sem, c31, c31S0, c31S3, c31S4, c31L0, c31S5, c31S6, c31S7, hlt', el]
    have hflat := cut_flat q mk (l'.take k) []
    have hne := cut_ne q mk (l'.take k) [] (fun s h => by cases h)
    rw [ha] at hflat hne
    simp only [List.flatMap_nil, List.nil_append] at hflat
    have hlen := segs_len acc hne
    have hfl : (acc.flatMap Seg.ops).length = k := by rw [hflat, List.length_take]; omega
    refine ⟨by omega, rfl, ⟨by omega, by omega⟩, ?_⟩
    have hc6 := hc.box l'[k].enc.toArray 23
    have ho := hc6.base.blk 0 rfl
    generalize w4.heap.size = bo at hc6 ho ⊢
    generalize w4.alloc (.cells l'[k].enc.toArray 23) = w6 at hc6 ho ⊢
    have ro := ho.rules
    have hat := l'[k].at
    have hw7 := ho.lt
    rcases List.eq_nil_or_concat acc with rfl | ⟨ini, s, hacc⟩
    · refine c31draw0 ?_
      simp (disch := first | omega | exact okFill_t rfl | exact okSize_t rfl | exact fun h => h | (simp only [World.size_alloc, World.size_drew, World.size_setCell, size_fill, bytesW]; omega)) only [go_sem, c31, c31S0, c31S1, c31S3, c31S4, c31L0, c31S5, c31S6, c31S7, c31D0, ro, hat]
      obtain ⟨sc, hsc⟩ : ∃ sc, sc = segC ⟨l'[k].Object, l'[k].Kind, []⟩ (.slice none 0 0) := ⟨_, rfl⟩
      refine bdW_built (cells := (segC ⟨l'[k].Object, l'[k].Kind, []⟩ (.slice none 0 0)).toArray) (by kernel_rfl) ?_
      simp (disch := first | omega | exact okFill_t rfl | exact okSize_t rfl | exact fun h => h | (simp only [World.size_alloc, World.size_drew, World.size_setCell, size_fill, bytesW]; omega)) only [go_sem, c31, c31S0, c31S1, c31S3, c31S4, c31L0, c31S5, c31S6, c31S7]
      refine bsW_agg ty66mkI rfl (by decide) (by decide) ?_
      simp (disch := first | omega | exact okFill_t rfl | exact okSize_t rfl | exact fun h => h | (simp only [World.size_alloc, World.size_drew, World.size_setCell, size_fill, bytesW]; omega)) only [go_sem, c31, c31S0, c31S1, c31S3, c31S4, c31L0, c31S5, c31S6, c31S7]
      rw [← hsc]
      have hrd : Rd (w6.alloc (.cells sc.toArray 69)).drew 3 (.slice (some ⟨w6.heap.size, 0, none⟩) 1 1) 1 (segC ⟨l'[k].Object, l'[k].Kind, []⟩ (.slice none 0 0)) := by rw [hsc]; exact rd_new (w := w6.drew) (t := 69) (sz := 3) (n := 1) (cs := (segC ⟨l'[k].Object, l'[k].Kind, []⟩ (.slice none 0 0)).toArray) rfl
      refine (hc6.call (w' := (w6.alloc (.cells sc.toArray 69)).drew) (((Below.refl _ w6).alloc (Nat.le_refl _) _).drew)).grow l'[k].Object l'[k].Kind (by simp; try omega) hrd ?_
      intro v9 w9 c9
      simp (disch := first | omega | exact okFill_t rfl | exact okSize_t rfl | exact fun h => h | (simp only [World.size_alloc, World.size_drew, World.size_setCell, size_fill, bytesW]; omega)) only [go_sem, c31, c31S0, c31S1, c31S3, c31S4, c31L0, c31S5, c31S6, c31S7]
      refine ⟨⟨by omega, by omega⟩, ?_⟩
      refine push18 (ini := []) l'[k] bo _ _ _ c9 (by simp) (by simp) ?_
      intro w10 c10
      simp (disch := first | omega | exact okFill_t rfl | exact okSize_t rfl | exact fun h => h | (simp only [World.size_alloc, World.size_drew, World.size_setCell, size_fill, bytesW]; omega)) only [go_sem, c31, c31S0, c31S1, c31S2, c31S3, c31S4, c31L0, c31S5, c31S6, c31S7]
      refine ⟨⟨by omega, by omega⟩, (k + 1, _), rfl, ⟨by simp only; omega, ?_⟩, by simp only; omega⟩
      simp only
      rw [hstep, cutStep_nil, ← hm0]
      exact c10
    · rw [List.concat_eq_append] at hacc
      subst hacc
      rcases id hc6 with ⟨h0, _⟩ | ⟨ini', s', vs, vl, he, hvl, s6⟩
      · simp at h0
      obtain ⟨rfl, rfl⟩ : ini = ini' ∧ s = s' := by
        have := List.append_inj' he rfl
        exact ⟨this.1, by simpa using this.2⟩
      have hnz : ((ini ++ [s]).length : Int) - 1 = ini.length := by simp
      rw [hnz]
      rw [List.length_append, List.length_singleton] at hc6 s6 ⊢
      obtain ⟨g, rfl⟩ : ∃ g, ao = some ⟨g, 0, none⟩ := by
        obtain ⟨_, ⟨_, h0⟩ | ⟨g, cap, cur, e, _⟩⟩ := s6.row 1 rfl
        · omega
        · cases e; exact ⟨g, rfl⟩
      have hrow := s6.row 1 rfl
      have hsl := segCells_length ini vs hvl
      have hc0 : w6.cell? ⟨g, ini.length * 3, none⟩ = some (.int .i64 s.obj) := by
        have := hrow.cells rfl (ini.length * 3) (.int .i64 s.obj) (by rw [List.getElem?_append_right (by omega), hsl, show ini.length * 3 - ini.length * 3 = 0 by omega]; rfl)
        rw [show Addr.add ⟨g, 0, none⟩ (ini.length * 3) = ⟨g, ini.length * 3, none⟩ by unfold Addr.add; split <;> simp_all] at this
        exact this
      have hgl := hrow.lt g rfl
      have hsl' := seg_len (ini ++ [s]) s (by simp)
      refine c31draw0 ?_
      simp (disch := first | omega | exact okFill_t rfl | exact okSize_t rfl | exact fun h => h | (simp only [World.size_alloc, World.size_drew, World.size_setCell, size_fill, bytesW]; omega)) only [go_sem, c31, c31S0, c31S1, c31S3, c31S4, c31L0, c31S5, c31S6, c31S7, c31D0, ro, hat, hc0]
      refine ⟨fun _ => ⟨⟨by omega, by omega⟩, fun hq => ?_, fun hq => ?_⟩, fun h => by omega⟩
      · have hq' : q s l'[k] = true := by rw [← hq0]; simp [hq]
        obtain ⟨sc, hsc⟩ : ∃ sc, sc = segC ⟨l'[k].Object, l'[k].Kind, []⟩ (.slice none 0 0) := ⟨_, rfl⟩
        refine bdW_built (cells := (segC ⟨l'[k].Object, l'[k].Kind, []⟩ (.slice none 0 0)).toArray) (by kernel_rfl) ?_
        simp (disch := first | omega | exact okFill_t rfl | exact okSize_t rfl | exact fun h => h | (simp only [World.size_alloc, World.size_drew, World.size_setCell, size_fill, bytesW]; omega)) only [go_sem, c31, c31S0, c31S1, c31S3, c31S4, c31L0, c31S5, c31S6, c31S7]
        refine bsW_agg ty66mkI rfl (by decide) (by decide) ?_
        simp (disch := first | omega | exact okFill_t rfl | exact okSize_t rfl | exact fun h => h | (simp only [World.size_alloc, World.size_drew, World.size_setCell, size_fill, bytesW]; omega)) only [go_sem, c31, c31S0, c31S1, c31S3, c31S4, c31L0, c31S5, c31S6, c31S7]
        rw [← hsc]
        have hrd : Rd (w6.alloc (.cells sc.toArray 69)).drew 3 (.slice (some ⟨w6.heap.size, 0, none⟩) 1 1) 1 (segC ⟨l'[k].Object, l'[k].Kind, []⟩ (.slice none 0 0)) := by rw [hsc]; exact rd_new (w := w6.drew) (t := 69) (sz := 3) (n := 1) (cs := (segC ⟨l'[k].Object, l'[k].Kind, []⟩ (.slice none 0 0)).toArray) rfl
        refine (hc6.call (w' := (w6.alloc (.cells sc.toArray 69)).drew) (((Below.refl _ w6).alloc (Nat.le_refl _) _).drew)).grow l'[k].Object l'[k].Kind (by simp; try omega) hrd ?_
        intro v9 w9 c9
        simp (disch := first | omega | exact okFill_t rfl | exact okSize_t rfl | exact fun h => h | (simp only [World.size_alloc, World.size_drew, World.size_setCell, size_fill, bytesW]; omega)) only [go_sem, c31, c31S0, c31S1, c31S3, c31S4, c31L0, c31S5, c31S6, c31S7]
        refine ⟨⟨by omega, by omega⟩, ?_⟩
        rw [show (ini.length : Int) + 1 = ((ini ++ [s]).length : Nat) by simp]
        refine push18 (ini := ini ++ [s]) l'[k] bo _ _ _ c9 (by simp; omega) (by simp) ?_
        intro w10 c10
        simp (disch := first | omega | exact okFill_t rfl | exact okSize_t rfl | exact fun h => h | (simp only [World.size_alloc, World.size_drew, World.size_setCell, size_fill, bytesW]; omega)) only [go_sem, c31, c31S0, c31S1, c31S2, c31S3, c31S4, c31L0, c31S5, c31S6, c31S7]
        refine ⟨⟨by omega, by omega⟩, (k + 1, _), rfl, ⟨by simp only; omega, ?_⟩, by simp only; omega⟩
        simp only
        rw [hstep, cutStep_new _ _ hq', ← hm0]
        exact c10
      · have hq' : q s l'[k] = false := by rw [← hq0]; simp [hq]
        refine push18 l'[k] bo _ _ _ (hc6.call (Below.refl _ w6).drew) (by omega) (by omega) ?_
        intro w10 c10
        simp (disch := first | omega | exact okFill_t rfl | exact okSize_t rfl | exact fun h => h | (simp only [World.size_alloc, World.size_drew, World.size_setCell, size_fill, bytesW]; omega)) only [go_sem, c31, c31S0, c31S1, c31S2, c31S3, c31S4, c31L0, c31S5, c31S6, c31S7]
        refine ⟨⟨by omega, by omega⟩, (k + 1, _), rfl, ⟨by simp only; omega, ?_⟩, by simp only; omega⟩
        simp only
        rw [hstep, cutStep_old _ _ hq']
        exact c10
  · have hlt' : ¬ (k : Int) < l.length := by omega
    simp (disch := first | omega | exact okFill_t rfl | exact okSize_t rfl | exact fun h => h | (simp only [World.size_alloc, World.size_drew, World.size_setCell, size_fill, bytesW]; omega)) only [go_sem, c31, c31S0, c31S1, c31S2, c31S3, c31S4, c31L0, c31S5, c31S6, c31S7, hlt']
    have hkl : k = l'.length := by omega
    subst hkl
    rw [List.take_length] at ha
    subst ha
    have hflat := cut_flat q mk l' []
    subst hq0; subst hm0
    refine ⟨⟨l', hs, hc.out fun s hs => ?_⟩, hc.bel⟩
    have h1 := seg_len _ s hs
    rw [hflat] at h1
    simp only [List.flatMap_nil, List.nil_append] at h1
    omega
end Go.Proofs.Ytmdhcpghofadcaa

namespace Go.Proofs.Ytmdhcpghofadcaa
set_option linter.unusedSimpArgs false
set_option linter.unusedVariables false
set_option maxRecDepth 100000
open Go Go.Ann Go.RowKit
def leq (a b : OpT) : Bool := decide (a.Invoke < b.Invoke ∨ a.Invoke = b.Invoke ∧ a.ID ≤ b.ID)
theorem rd_drop {w : World} {sz n k cap : Nat} {a : Option Addr} {xs : List Value} (h : Rd w sz (.slice a n cap) n xs) (hk : k ≤ n) : Rd w sz (.slice (offA a cap k sz) (n - k) (cap - k)) (n - k) (xs.drop (k * sz)) := by
  obtain ⟨h1, a', cap', he, h2, h3⟩ := h
  simp only [Value.slice.injEq, true_and] at he
  obtain ⟨rfl, rfl⟩ := he
  refine ⟨by rw [List.length_drop, h1, Nat.sub_mul], _, _, rfl, by omega, fun h => ?_⟩
  obtain ⟨ad, rfl, h4⟩ := h3 (by omega)
  refine ⟨ad.add (k * sz), by unfold offA; rw [if_neg (by omega)]; rfl, fun j u hu => ?_⟩
  rw [add_add]
  rw [List.getElem?_drop] at hu
  exact h4 _ u hu
theorem take_flat {l : List OpT} {k : Nat} : (l.flatMap OpT.enc).take (k * 11) = (l.take k).flatMap OpT.enc := by
  induction l generalizing k with
  | nil => simp
  | cons a l ih =>
    cases k with
    | zero => simp
    | succ k => rw [List.flatMap_cons, List.take_succ_cons, List.flatMap_cons, show (k + 1) * 11 = a.enc.length + k * 11 by rw [OpT.len]; omega, List.take_length_add_append, ih]
theorem drop_flat {l : List OpT} {k : Nat} : (l.flatMap OpT.enc).drop (k * 11) = (l.drop k).flatMap OpT.enc := by
  induction l generalizing k with
  | nil => simp
  | cons a l ih =>
    cases k with
    | zero => simp
    | succ k => rw [List.flatMap_cons, List.drop_succ_cons, show (k + 1) * 11 = a.enc.length + k * 11 by rw [OpT.len]; omega, List.drop_length_add_append, ih]
end Go.Proofs.Ytmdhcpghofadcaa

namespace Go.Proofs.Ytmdhcpghofadcaa
set_option linter.unusedSimpArgs false
set_option linter.unusedVariables false
set_option maxRecDepth 100000
open Go Go.Ann Go.RowKit
def segQ (s : Seg) (o : OpT) : Bool := s.ops.all fun x => before x o
def Piece (r : List OpT) (al : Option Addr) (cl : Nat) (s : Seg) (v : Value) : Prop := ∃ f t, f ≤ t ∧ t ≤ r.length ∧ v = .slice (offA al cl f 11) (t - f) (cl - f) ∧ s.ops = (r.take t).drop f
theorem Piece.rd {w : World} {r : List OpT} {al : Option Addr} {cl : Nat} {s : Seg} {v : Value} (h : Piece r al cl s v) (hr : RdS w 11 OpT.enc (.slice al r.length cl) r) : RdS w 11 OpT.enc v s.ops := by
  obtain ⟨f, t, h1, h2, rfl, h3⟩ := h
  have e1 := rd_drop (Rd.take (k := t) hr h2) h1
  rw [take_flat, drop_flat] at e1
  have e2 : s.ops.length = t - f := by rw [h3, List.length_drop, List.length_take]; omega
  unfold RdS
  rw [e2, h3]
  exact e1
end Go.Proofs.Ytmdhcpghofadcaa

namespace Go.Proofs.Ytmdhcpghofadcaa
set_option linter.unusedSimpArgs false
set_option linter.unusedVariables false
set_option maxRecDepth 100000
open Go Go.Ann Go.RowKit
def ofObj (x : Int) (l : List OpT) : List OpT := l.filter fun o => decide (o.Object = x)
structure ByObj (l : List OpT) (acc : List Seg) : Prop where
  up : acc.Pairwise fun a b => a.obj < b.obj
  sorts : ∀ s ∈ acc, Sorts earI (ofObj s.obj l) s.ops
  kind : ∀ s ∈ acc, ∃ o r, s.ops = o :: r ∧ s.kind = o.Kind
  all : ∀ o ∈ l, ∃ s ∈ acc, s.obj = o.Object
def Next (l : List OpT) (any : Bool) (last : Int) (k : Nat) (found : Bool) (next : Int) : Prop :=
  (found = false ∧ ∀ o ∈ l.take k, any = true ∧ o.Object ≤ last) ∨ (found = true ∧ (∃ o ∈ l.take k, o.Object = next) ∧ (any = true → last < next) ∧ ∀ o ∈ l.take k, (any = true → last < o.Object) → next ≤ o.Object)
theorem mem_take_succ {l : List OpT} {k : Nat} (hk : k < l.length) {o : OpT} : o ∈ l.take (k + 1) ↔ o ∈ l.take k ∨ o = l[k] := by
  rw [List.take_succ_eq_append_getElem hk, List.mem_append, List.mem_singleton]
theorem Next.take {l : List OpT} {any found : Bool} {last next : Int} {k : Nat} (h : Next l any last k found next) (hk : k < l.length) (h1 : any = true → last < l[k].Object) (h2 : found = true → l[k].Object < next) : Next l any last (k + 1) true l[k].Object := by
  refine .inr ⟨rfl, ⟨_, (mem_take_succ hk).2 (.inr rfl), rfl⟩, h1, fun o ho hlo => ?_⟩
  rcases (mem_take_succ hk).1 ho with ho | rfl
  · rcases h with ⟨_, h⟩ | ⟨hf, _, _, h⟩
    · have := h o ho; have := hlo this.1; omega
    · have := h o ho hlo; have := h2 hf; omega
  · exact Int.le_refl _
theorem ofObj_len (x : Int) (l : List OpT) : (ofObj x l).length ≤ l.length := List.length_filter_le _ _
end Go.Proofs.Ytmdhcpghofadcaa

namespace Go.Proofs.Ytmdhcpghofadcaa
set_option linter.unusedSimpArgs false
set_option linter.unusedVariables false
set_option maxRecDepth 100000
open Go Go.Ann Go.RowKit
theorem sorts_unique {l a b : List OpT} (hp : Pure l) (ha : Sorts earI l a) (hb : Sorts earI l b) : a = b := by
  refine List.Perm.eq_of_pairwise ?_ ha.2 hb.2 (ha.1.trans hb.1.symm)
  intro x y hx hy h1 h2
  refine hp x (ha.1.mem_iff.1 hx) y (hb.1.mem_iff.1 hy) ?_
  rw [ear_neg] at h1 h2
  omega
theorem byObj_unique {l : List OpT} (hp : Pure l) : ∀ {a b : List Seg}, ByObj l a → ByObj l b → a = b := by
  intro a b ha hb
  have mem : ∀ {a b : List Seg}, ByObj l a → ByObj l b → ∀ s ∈ a, s ∈ b := by
    intro a b ha hb s hs
    obtain ⟨o, r, e, hk⟩ := ha.kind s hs
    have ho : o ∈ ofObj s.obj l := (ha.sorts s hs).1.mem_iff.1 (by rw [e]; exact List.mem_cons_self)
    unfold ofObj at ho
    rw [List.mem_filter, decide_eq_true_eq] at ho
    obtain ⟨t, ht, hto⟩ := hb.all o ho.1
    have heq : t.obj = s.obj := hto.trans ho.2
    have hops : t.ops = s.ops := by
      have h1 := hb.sorts t ht
      rw [heq] at h1
      refine sorts_unique (l := ofObj s.obj l) (fun x hx y hy => hp x ?_ y ?_) h1 (ha.sorts s hs)
      · exact (List.mem_filter.1 hx).1
      · exact (List.mem_filter.1 hy).1
    obtain ⟨o2, r2, e2, hk2⟩ := hb.kind t ht
    have : t = s := by
      rw [hops, e] at e2
      cases t; cases s
      simp only at heq hops hk hk2 e2 ⊢
      simp only [List.cons.injEq] at e2
      subst heq; subst hops
      rw [hk, hk2, e2.1]
    rw [← this]; exact ht
  have nd : ∀ {a : List Seg}, ByObj l a → a.Nodup := fun h => h.up.imp fun h e => by rw [e] at h; omega
  have hperm : a.Perm b := (List.perm_ext_iff_of_nodup (nd ha) (nd hb)).2 fun s => ⟨mem ha hb s, mem hb ha s⟩
  exact List.Perm.eq_of_pairwise (le := fun x y : Seg => x.obj < y.obj) (fun x y _ _ h1 h2 => by omega) ha.up hb.up hperm
end Go.Proofs.Ytmdhcpghofadcaa

namespace Go.Proofs.Ytmdhcpghofadcaa
set_option linter.unusedSimpArgs false
set_option linter.unusedVariables false
set_option maxRecDepth 100000
open Go Go.Ann Go.RowKit
def objQ (s : Seg) (o : OpT) : Bool := !decide (s.obj = o.Object)
def objMk (o : OpT) : Int × Int := (o.Object, o.Kind)
structure Seen (r : List OpT) (acc : List Seg) : Prop where
  up : acc.Pairwise fun a b => a.obj < b.obj
  ops : ∀ s ∈ acc, s.ops = ofObj s.obj r
  kind : ∀ s ∈ acc, ∃ o r, s.ops = o :: r ∧ s.kind = o.Kind
  all : ∀ o ∈ r, ∃ s ∈ acc, s.obj = o.Object
  top : ∀ s ∈ acc, ∃ o ∈ r, s.obj = o.Object
theorem ofObj_append (x : Int) (a b : List OpT) : ofObj x (a ++ b) = ofObj x a ++ ofObj x b := List.filter_append ..
theorem ofObj_one (x : Int) (o : OpT) : ofObj x [o] = if o.Object = x then [o] else [] := by unfold ofObj; by_cases h : o.Object = x <;> simp [h]
theorem Seen.step {r : List OpT} {acc : List Seg} (h : Seen r acc) (o : OpT) (hle : ∀ x ∈ r, x.Object ≤ o.Object) : Seen (r ++ [o]) (cutStep objQ objMk acc o) := by
  have low : ∀ s ∈ acc, s.obj ≤ o.Object := fun s hs => by obtain ⟨x, hx, e⟩ := h.top s hs; rw [e]; exact hle x hx
  have fresh : (∀ s ∈ acc, s.obj < o.Object) → Seen (r ++ [o]) (acc ++ [⟨o.Object, o.Kind, [o]⟩]) := by
    intro hlt
    have hno : ofObj o.Object r = [] := by
      unfold ofObj
      rw [List.filter_eq_nil_iff]
      intro x hx
      obtain ⟨s, hs, e⟩ := h.all x hx
      have := hlt s hs
      simp; omega
    refine ⟨?_, fun s hs => ?_, fun s hs => ?_, fun x hx => ?_, fun s hs => ?_⟩
    · rw [List.pairwise_append]
      refine ⟨h.up, List.pairwise_singleton _ _, fun a ha b hb => ?_⟩
      simp only [List.mem_singleton] at hb; subst hb
      exact hlt a ha
    · rcases List.mem_append.1 hs with hs | hs
      · rw [ofObj_append, ← h.ops s hs, ofObj_one, if_neg (by have := hlt s hs; omega), List.append_nil]
      · simp only [List.mem_singleton] at hs; subst hs
        rw [ofObj_append, hno, ofObj_one, if_pos rfl]; rfl
    · rcases List.mem_append.1 hs with hs | hs
      · exact h.kind s hs
      · simp only [List.mem_singleton] at hs; subst hs; exact ⟨o, [], rfl, rfl⟩
    · rcases List.mem_append.1 hx with hx | hx
      · obtain ⟨s, hs, e⟩ := h.all x hx
        exact ⟨s, List.mem_append_left _ hs, e⟩
      · simp only [List.mem_singleton] at hx; subst hx
        exact ⟨_, List.mem_append_right _ (List.mem_singleton_self _), rfl⟩
    · rcases List.mem_append.1 hs with hs | hs
      · obtain ⟨x, hx, e⟩ := h.top s hs
        exact ⟨x, List.mem_append_left _ hx, e⟩
      · simp only [List.mem_singleton] at hs; subst hs
        exact ⟨o, List.mem_append_right _ (List.mem_singleton_self _), rfl⟩
  rcases List.eq_nil_or_concat acc with rfl | ⟨ini, s, he⟩
  · exact fresh fun s hs => by cases hs
  · rw [List.concat_eq_append] at he
    subst he
    have hup := List.pairwise_append.1 h.up
    have hslow := low s (by simp)
    by_cases hso : s.obj = o.Object
    · rw [cutStep_old _ _ (by unfold objQ; simp [hso])]
      have hini : ∀ t ∈ ini, t.obj < s.obj := fun t ht => hup.2.2 t ht s (by simp)
      refine ⟨?_, fun t ht => ?_, fun t ht => ?_, fun x hx => ?_, fun t ht => ?_⟩
      · rw [List.pairwise_append]
        refine ⟨hup.1, List.pairwise_singleton _ _, fun a ha b hb => ?_⟩
        simp only [List.mem_singleton] at hb; subst hb
        exact hini a ha
      · rcases List.mem_append.1 ht with ht | ht
        · rw [ofObj_append, ← h.ops t (List.mem_append_left _ ht), ofObj_one, if_neg (by have := hini t ht; omega), List.append_nil]
        · simp only [List.mem_singleton] at ht; subst ht
          simp only
          rw [ofObj_append, ← h.ops s (by simp), ofObj_one, if_pos hso.symm]
      · rcases List.mem_append.1 ht with ht | ht
        · exact h.kind t (List.mem_append_left _ ht)
        · simp only [List.mem_singleton] at ht; subst ht
          obtain ⟨x, y, e, hk⟩ := h.kind s (by simp)
          exact ⟨x, y ++ [o], by simp only; rw [e]; rfl, hk⟩
      · rcases List.mem_append.1 hx with hx | hx
        · obtain ⟨t, ht, e⟩ := h.all x hx
          rcases List.mem_append.1 ht with ht | ht
          · exact ⟨t, List.mem_append_left _ ht, e⟩
          · simp only [List.mem_singleton] at ht; subst ht
            exact ⟨_, List.mem_append_right _ (List.mem_singleton_self _), e⟩
        · simp only [List.mem_singleton] at hx; subst hx
          exact ⟨_, List.mem_append_right _ (List.mem_singleton_self _), hso⟩
      · rcases List.mem_append.1 ht with ht | ht
        · obtain ⟨x, hx, e⟩ := h.top t (List.mem_append_left _ ht)
          exact ⟨x, List.mem_append_left _ hx, e⟩
        · simp only [List.mem_singleton] at ht; subst ht
          exact ⟨o, List.mem_append_right _ (List.mem_singleton_self _), hso⟩
    · rw [cutStep_new _ _ (by unfold objQ; simp [hso])]
      refine fresh fun t ht => ?_
      rcases List.mem_append.1 ht with ht | ht
      · have := hup.2.2 t ht s (by simp); omega
      · simp only [List.mem_singleton] at ht; subst ht; omega
theorem seen_fold : ∀ (b a : List OpT) (acc : List Seg), Seen a acc → (a ++ b).Pairwise (fun x y => x.Object ≤ y.Object) → Seen (a ++ b) (b.foldl (cutStep objQ objMk) acc)
  | [], a, acc, h, _ => by rw [List.append_nil]; exact h
  | o :: b, a, acc, h, hp => by
    have := seen_fold b (a ++ [o]) _ (h.step o fun x hx => (List.pairwise_append.1 hp).2.2 x hx o List.mem_cons_self) (by rw [List.append_assoc]; exact hp)
    rw [List.append_assoc] at this
    exact this
theorem objects_by {l r : List OpT} (h : Sorts objI l r) : ByObj l (r.foldl (cutStep objQ objMk) []) := by
  have hp : r.Pairwise fun x y => x.Object ≤ y.Object := h.2.imp fun {a b} e => by rw [obj_neg] at e; omega
  have s := seen_fold r [] [] ⟨List.Pairwise.nil, (fun s h => by cases h), (fun s h => by cases h), (fun s h => by cases h), (fun s h => by cases h)⟩ hp
  rw [List.nil_append] at s
  refine ⟨s.up, fun t ht => ⟨?_, ?_⟩, s.kind, fun o ho => s.all o (h.1.mem_iff.2 ho)⟩
  · rw [s.ops t ht]; exact h.1.filter _
  · rw [s.ops t ht]
    have h2 : (ofObj t.obj r).Pairwise fun a b => ¬ objI b a < 0 := h.2.sublist List.filter_sublist
    refine List.Pairwise.imp_of_mem ?_ h2
    intro a b ha hb e
    have ea := (List.mem_filter.1 ha).2
    have eb := (List.mem_filter.1 hb).2
    rw [decide_eq_true_eq] at ea eb
    rw [obj_neg] at e
    rw [ear_neg]
    omega
end Go.Proofs.Ytmdhcpghofadcaa

namespace Go.Proofs.Ytmdhcpghofadcaa
set_option linter.unusedSimpArgs false
set_option linter.unusedVariables false
set_option maxRecDepth 100000
open Go Go.Ann Go.RowKit Go.WideShapes
def decL (n : Nat) : List UInt8 := if h : n < 10 then [UInt8.ofNat (48 + n)] else decL (n / 10) ++ [UInt8.ofNat (48 + n % 10)]
termination_by n
decreasing_by omega
def numL (n : Int) : List UInt8 := if n < 0 then 45 :: decL n.natAbs else decL n.natAbs
theorem decL_small {n : Nat} (h : n < 10) : decL n = [UInt8.ofNat (48 + n)] := by rw [decL]; simp [h]
theorem decL_big {n : Nat} (h : 10 ≤ n) : decL n = decL (n / 10) ++ [UInt8.ofNat (48 + n % 10)] := by rw [decL]; simp [show ¬ n < 10 by omega]
theorem decL_len (n : Nat) : ∀ k, n < 10 ^ k → 0 < k → (decL n).length ≤ k := by
  intro k
  induction k generalizing n with
  | zero => intro _ h; exact absurd h (by decide)
  | succ k ih =>
    intro hn _
    by_cases h : n < 10
    · rw [decL_small h]; simp
    · rw [decL_big (by omega), List.length_append, List.length_singleton]
      have hk : 0 < k := by
        rcases Nat.eq_zero_or_pos k with rfl | h'
        · exact absurd hn (by simpa using h)
        · exact h'
      have := ih (n / 10) (by rw [Nat.pow_succ] at hn; exact Nat.div_lt_of_lt_mul (by rw [Nat.mul_comm]; exact hn)) hk
      omega
end Go.Proofs.Ytmdhcpghofadcaa

namespace Go.Ann
open Go Go.RowKit
set_option linter.unusedVariables false
set_option linter.unusedSimpArgs false
def byteV (b : UInt8) : Value := .int .u8 b.toNat
theorem strCells_ofL (l : List UInt8) : Lib.strCells (ofL l) = l.map byteV := by
  unfold Lib.strCells ofL
  simp only [List.map_inj_left]
  intro a _; rfl
section
variable {P : Program} {W0 w w' : World} {F : Nat → Prop} {L : List Res} {I : List Inv} {K : Value → World → Prop}
theorem St.appendS {t u ty e n : Nat} {cs : Array Bool} {v : Value} {xs : List Value} (h : St W0 w F L I) (i : Nat) (hi : L[i]? = some (.row v e 1 n xs))
    (hm : mkI P t = some (e, 1, 1, .int .u8 0)) (hu : P.underlying u = some .string) (l : List UInt8) (hb : n + l.length ≤ 140737488355328)
    (hK : ∀ v' w', St W0 w' F (L.set i (.row v' e 1 (n + l.length) (xs ++ l.map byteV))) I → Chg (fun k => v.ownBlock = some k) w w' → (v' = .slice none 0 0 ↔ v = .slice none 0 0 ∧ l = []) → K v' w') :
    rawB P .append #[t, u] ty cs [v, .string (ofL l)] w K := by
  have hr := h.row i hi
  obtain ⟨inf, ht, hinf, hzz, hsi, hby⟩ := mkI_some hm
  have hsz : (ofL l).size = l.length := by simp [ofL, ByteArray.size]
  obtain ⟨v', w', h1, h2, h3, h4⟩ := Lib.run_append_own_string (P := P) (w := w) W0.heap.size t u ty e inf ht hu hinf hzz (by first | exact hsi | exact hsi.symm) (by first | exact hby | exact hby.symm) v n xs hr (ofL l) (by rw [hsz]; have : maxLen = 9223372036854775807 := (by decide); omega) (by rw [hsz]; exact hb) h.size
  have own : ∀ k, v'.ownBlock = some k → v.ownBlock = some k ∨ w.heap.size ≤ k := by
    have hml : maxLen = 9223372036854775807 := by decide
    rcases hr.2 with ⟨rfl, rfl⟩ | ⟨g, cap, cur, rfl, hbg, hg, hnc, hcm, hcs, htake⟩
    · rcases Nat.eq_zero_or_pos l.length with h0 | h0
      · have := h4.2 ⟨rfl, by rw [hsz]; exact h0⟩
        subst this
        intro k hk; cases hk
      · have hrun := run_append_nil_string (P := P) (w := w) t u ty e inf (.int .u8 0) ht hu hinf hzz (ofL l) (by omega) (by omega) (by rw [hsz]; first | rw [hby] | rw [← hby]; omega)
        rw [h1] at hrun
        simp only [Result.ok.injEq] at hrun
        rw [hrun.1]
        intro k hk
        simp only [Value.ownBlock, Option.some.injEq] at hk
        exact .inr (by omega)
    · by_cases hroom : n + (ofL l).size ≤ cap
      · have hcs' : cur.size = cap := by simpa using hcs
        have hrun := Lib.run_append_room_string (P := P) (w := w) t u ty e inf ht hu hinf (by first | exact hsi | exact hsi.symm) g n cap cur hg (ofL l) hroom (by omega)
        rw [h1] at hrun
        simp only [Result.ok.injEq] at hrun
        rw [hrun.1]
        intro k hk
        exact .inl hk
      · have holds : ∀ j u, xs[j]? = some u → w.cell? ((⟨g, 0, none⟩ : Addr).add j) = some u := hr.cells (g := g) rfl
        have hxl : xs.length = n := by simpa using hr.1
        have hrun := Lib.run_append_grow_string (P := P) (w := w) t u ty e inf (.int .u8 0) ht hu hinf hzz ⟨g, 0, none⟩ n cap xs (by first | rw [hsi] | rw [← hsi]; simpa using hxl) holds (ofL l) (by omega) (by omega) (by first | rw [hby] | rw [← hby]; exact growslice_fits (by omega) (by omega))
        rw [h1] at hrun
        simp only [Result.ok.injEq] at hrun
        rw [hrun.1]
        intro k hk
        simp only [Value.ownBlock, Option.some.injEq] at hk
        exact .inr (by omega)
  rw [hsz, strCells_ofL] at h2
  rw [hsz] at h4
  exact ⟨v', w', by simp only [builtin, Sem.run_bind, h1, Result.andThen_ok, Sem.run_pure], hK v' w' (h.grow i hi h3 h2 own) ((Chg.refl _ w).grown h3 fun k hk _ => hk) (h4.trans (by rw [List.length_eq_zero_iff]))⟩
theorem chg_freeze {S : Nat → Prop} {w0 : World} (h : Chg S w0 w) (g n : Nat) (hg : S g ∨ w0.heap.size ≤ g) : Chg S w0 (w.freeze ⟨g, 0, none⟩ n) := by
  have hf : ∀ k, k ≠ g → (w.freeze ⟨g, 0, none⟩ n).heap[k]? = w.heap[k]? := fun k hk => by
    unfold World.freeze
    split
    · rfl
    · simp only [Array.getElem?_modify]
      rw [if_neg (fun e => hk e.symm)]
  have hs : (w.freeze ⟨g, 0, none⟩ n).heap.size = w.heap.size := by
    unfold World.freeze
    split
    · rfl
    · simp only [Array.size_modify]
  refine ⟨?_, ?_, ?_, by rw [hs]; exact h.size, fun k hk hS => ?_⟩
  · have : (w.freeze ⟨g, 0, none⟩ n).os = w.os := by unfold World.freeze; split <;> rfl
    rw [this]; exact h.os
  · have : (w.freeze ⟨g, 0, none⟩ n).tape = w.tape := by unfold World.freeze; split <;> rfl
    rw [this]; exact h.tape
  · have : (w.freeze ⟨g, 0, none⟩ n).output = w.output := by unfold World.freeze; split <;> rfl
    rw [this]; exact h.output
  · rw [hf k (fun e => ?_)]
    · exact h.block k hk hS
    · subst e
      rcases hg with hg | hg
      · exact hS hg
      · omega
theorem rawB_sliceData {ats : Array TypeId} {ty e : TypeId} {cs : Array Bool} {a : Option Addr} {n c : Nat} (hp : P.underlying ty = some (.pointer e)) (h0 : a = none ∧ c = 0 ∨ 0 < c) (hK : K (.pointer a) w) : rawB P .unsafeSliceData ats ty cs [.slice a n c] w K := by
  refine ⟨_, w, ?_, hK⟩
  have : (Builtin.unsafeSliceData_ ats ty #[.slice a n c]).run P w = .ok (.pointer a) w := by
    rcases h0 with ⟨rfl, rfl⟩ | h0
    · rfl
    · cases a with
      | none => rfl
      | some a => exact Lib.run_unsafeSliceData_row _ _ _ _ _ _ (by omega)
  simp only [builtin, List.toArray, Sem.run_bind, this, Result.andThen_ok, Sem.run_pure]
theorem ofL_toArray (l : List UInt8) : (⟨l.toArray⟩ : ByteArray) = ofL l := by simp [ofL]
theorem St.unsafeS {pt it ty e n : Nat} {cs : Array Bool} {a : Option Addr} {c : Nat} {l : List UInt8} (h : St W0 w F L I) (i : Nat) (hi : L[i]? = some (.row (.slice a n c) e 1 n (l.map byteV)))
    (hp : P.underlying pt = some (.pointer e)) (hc : P.cellsOf e = 1) (hK : ∀ w', St W0 w' F (L.set i (.row (.slice none 0 0) e 1 0 [])) I → Chg (fun k => (Value.slice a n c).ownBlock = some k) w w' → K (.string (ofL l)) w') :
    rawB P .unsafeString #[pt, it] ty cs [.pointer a, .int .i64 n] w K := by
  have hr := h.row i hi
  have hln : l.length = n := by have := hr.1; simpa using this
  have nil : ∀ w', Res.ok w' W0.heap.size (.row (.slice none 0 0) e 1 0 []) := fun w' => ⟨by simp, .inl ⟨rfl, rfl⟩⟩
  rcases Nat.eq_zero_or_pos n with h0 | h0
  · subst h0
    obtain rfl : l = [] := List.eq_nil_of_length_eq_zero hln
    refine ⟨.string (ofL []), w, ?_, hK w (h.upd i hi (Chg.refl _ _) _ (nil w) fun k hk => by cases hk) (Chg.refl _ _)⟩
    have := Lib.run_unsafeString_none (P := P) w pt it ty a
    have e0 : (ofL [] : ByteArray) = .empty := rfl
    simp only [builtin, List.toArray, Sem.run_bind, Result.andThen_ok, Sem.run_pure]
    have e1 : ((0 : Nat) : Int) = 0 := rfl
    rw [e1]
    show Result.andThen ((Builtin.unsafeString_ #[pt, it] ty #[.pointer a, .int .i64 0]).run P w) _ = _
    rw [this, e0]; rfl
  · rcases hr.2 with ⟨_, hz⟩ | ⟨g, cap, cur, hv, hbg, hg, hnc, hcm, hcs, htake⟩
    · omega
    simp only [Value.slice.injEq, true_and] at hv
    obtain ⟨rfl, rfl⟩ := hv
    have hml : maxLen = 9223372036854775807 := by decide
    have hrun := Lib.run_unsafeString_row (P := P) w pt it ty e hp hc g cur.size (by simp [World.shape?, hg]) l (by intro hl; rw [hl] at hln; simp at hln; omega) (by omega) (by omega) (fun j x hx => hr.cells (g := g) rfl j _ (by rw [List.getElem?_map, hx]; rfl))
    rw [hln, ofL_toArray] at hrun
    have hch : Chg (fun k => (Value.slice (some ⟨g, 0, none⟩) n c).ownBlock = some k) w (w.freeze ⟨g, 0, none⟩ n) := chg_freeze (Chg.refl _ _) g n (.inl rfl)
    refine ⟨.string (ofL l), w.freeze ⟨g, 0, none⟩ n, ?_, hK _ (h.upd i hi hch _ (nil _) fun k hk => by cases hk) hch⟩
    simp only [builtin, List.toArray, Sem.run_bind, Result.andThen_ok, Sem.run_pure]
    show Result.andThen ((Builtin.unsafeString_ #[pt, it] ty #[.pointer (some ⟨g, 0, none⟩), .int .i64 n]).run P w) _ = _
    rw [hrun]; rfl
end
end Go.Ann

namespace Go.Ann
open Go Go.RowKit
set_option linter.unusedVariables false
set_option linter.unusedSimpArgs false
section
variable {P : Program} {N : Nat}
theorem RangeW_any {g : Operand} {ps : List Nat} {A B : Cmd} {ρ : Env} {w W0 : World} {Q : Post} {F : Nat → Prop} {L0 : List Res} {I : List Inv} {α β : Type} {gf : Nat} {lb : Array Value}
    (encs : α → List Value) (E : List α → α → Prop) (G : List α → Prop) (L : β → List α → List Res) (y0 : β)
    (hg : ev ρ g = some (.func (.func gf) #[] lb)) (hgo : goFunc P gf = true) (s : St W0 w F L0 I) (hL : L y0 [] = L0) (hlen : ∀ x, (encs x).length = ps.length)
    (hit : ∀ (fv : Value) (J : List Res → List α → World → Prop) (w1 : World), (∀ R pre w', J R pre w' → ∃ l D o y, St W0 w' F (.obj l o :: .obj D (.deferred (some [])) :: (L y pre ++ R)) I) → (∀ R R' pre w' w'', J R pre w' → (∀ X, St W0 w' F (X ++ R) I → St W0 w'' F (X ++ R') I) → J R' pre w'') →
      (∀ R pre x w', J R pre w' → E pre x → callW P fv (encs x) w' fun v w'' => v = .bool true ∧ J R (pre ++ [x]) w'') → J [] [] w1 → Ret P gf (fv :: lb.toList) w1 fun _ w' => ∃ xs, G xs ∧ J [] xs w')
    (hbody : ∀ R y pre x w' l D o o2, E pre x → St W0 w' F (.obj l o :: .obj D (.deferred (some [])) :: (L y pre ++ R)) I → W P A (zipE ps (encs x) (lowE ρ)) w' fun e ρ1 w1 => match e with
      | .normal => ∃ M, St W0 w1 F (.obj l o :: .obj D (.deferred (some [])) :: (M ++ R)) I ∧ ∀ w2, St W0 w2 F (.obj l o2 :: .obj D (.deferred (some [])) :: (M ++ R)) I → W P B ρ1 w2 fun e2 _ w3 => match e2 with
        | .normal => ∃ y', St W0 w3 F (.obj l o2 :: .obj D (.deferred (some [])) :: (L y' (pre ++ [x]) ++ R)) I
        | _ => False
      | _ => False)
    (hdone : ∀ xs y D w', G xs → St W0 w' F (.obj D (.deferred (some [])) :: L y xs) I → Q .normal ((D + 1000000, undef) :: ρ) w') : RangeW P g ps A B ρ w Q := by
  intro N a ca cb hca hcb hra hrb hps hs
  refine wpIn_rangeFunc fun fn _ => ?_
  obtain ⟨rec, hrec⟩ : ∃ rec : LoopState → Option Code → Loop, rec = fun st pe => { state := st, pending := pe, fn, tmps := a.tmps, params := ps.toArray, assign := ca, body := cb, defers := w.heap.size } := ⟨_, rfl⟩
  have hs1 : St W0 ((w.alloc (.deferred (some []))).alloc (.loop (rec .ready none))) F (.obj (w.heap.size + 1) (.loop (rec .ready none)) :: .obj w.heap.size (.deferred (some [])) :: L y0 []) I := by
    rw [hL]
    have := (s.lay (.deferred (some []))).lay (.loop (rec .ready none))
    rw [World.size_alloc] at this
    exact this
  generalize hw1 : (w.alloc (.deferred (some []))).alloc (.loop (rec .ready none)) = w1 at hs1
  refine ⟨w.heap.size + 1, [{ target := .collected w.heap.size, args := #[] }], w1, { target := .fn (.func gf) lb, args := #[.func (.yield (w.heap.size + 1)) #[] #[]] }, w1, gf,
    #[.func (.yield (w.heap.size + 1)) #[] #[]] ++ lb, w1, ?_, ?_, ?_, ?_, fun _ => by decide, ?_⟩
  · rw [← hw1, hrec]; exact run_enterLoop_outer _ _ _ _ _
  · simp only [resolve, hs.eval _ _ hg]
    simp [go_sem]
  · intro f' _; exact trivial
  · simp [invoke, go_sem, callFunc_run hgo]
  · generalize w.heap.size + 1 = l at hs1 ⊢
    generalize w.heap.size = D at hrec hs1 ⊢
    have key := hit (.func (.yield l) #[] #[]) (fun R pre w' => ∃ y, St W0 w' F (.obj l (.loop (rec .ready none)) :: .obj D (.deferred (some [])) :: (L y pre ++ R)) I) w1 (fun R pre w' ⟨y, h⟩ => ⟨_, _, _, y, h⟩) (fun R R' pre w' w'' ⟨y, h⟩ hX => ⟨y, hX (.obj l (.loop (rec .ready none)) :: .obj D (.deferred (some [])) :: L y pre) h⟩) ?_ ⟨y0, by rw [List.append_nil]; exact hs1⟩
    · have e : #[Value.func (.yield l) #[] #[]] ++ lb = (Value.func (.yield l) #[] #[] :: lb.toList).toArray := by simp
      rw [e]
      refine CallsIn.mono (callsIn_wide.2 key) fun e w2 ⟨v, he, xs, hG, y, h2⟩ => ?_
      subst he
      simp only [List.append_nil] at h2
      have hl := h2.obj 0 rfl
      refine ⟨none, w2.putObj l (.loop { rec .ready none with state := .exhausted }), ?_, ?_⟩
      · have := run_endLoop (P := P) hl (by rw [hrec]; simp)
        rw [hrec] at this ⊢
        exact this
      · have h3 := (h2.putObj 0 rfl (.loop { rec .ready none with state := .exhausted })).sub (L' := .obj D (.deferred (some [])) :: L y xs) (by simp)
        exact ⟨_, hs.mark D, hdone xs y D _ hG h3⟩
    · rintro R pre x w' ⟨y, h⟩ hx
      have hl := h.obj 0 rfl
      have hsz : (encs x).toArray.size = (rec .ready none).params.size := by rw [hrec]; simp [hlen]
      have hy := run_yield (P := P) hl hsz
      rw [hrec] at hy
      refine ⟨rfl, rfl, fn, _, ca, cb, hy, ?_⟩
      refine roundIn_of_wpIn trivial ?_
      have hsim : Sim N { tmps := ((ps.toArray.zip (encs x).toArray).foldl (fun t (p, v) => t.setIfInBounds p v) a.tmps), defers := [] } (zipE ps (encs x) (lowE ρ)) := by
        have := Sim.zipE (a := { tmps := a.tmps, defers := [] }) ps (encs x) (lowE ρ) a.tmps hps hs.lowE
        rw [← Array.foldl_toList, Array.toList_zip]
        exact this
      have hA := W_sound (r := some l) (n := 0) ca A hca (.inl hra) _ w' _ _ hsim (hbody R y pre x w' l D _ (.loop { rec .ready none with state := .busy }) hx h)
      refine wpIn_mono hA fun e a1 w1 hh => ?_
      obtain ⟨ρ1, hs1, hq⟩ := hh
      cases e with
      | normal =>
        obtain ⟨M, hM, hB⟩ := hq
        have hl1 := hM.obj 0 rfl
        refine ⟨_, run_beginRound hl1 (by rw [hrec]), ?_⟩
        have hB' := W_sound (r := some l) (n := 0) cb B hcb (.inl hrb) _ _ _ a1 hs1 (hB _ (hM.putObj 0 rfl _))
        refine wpIn_mono hB' fun e2 a2 w2 hh => ?_
        obtain ⟨ρ2, hs2, hq2⟩ := hh
        cases e2 with
        | normal =>
          obtain ⟨y', hq2⟩ := hq2
          have hl2 := St.obj hq2 0 rfl
          have he := run_endRound (P := P) none hl2
          refine ⟨.bool true, w2.putObj l (.loop (rec .ready none)), ?_, .bool true, rfl, rfl, ?_⟩
          · rw [hrec] at he ⊢; exact he
          · exact ⟨y', St.putObj hq2 0 rfl _⟩
        | _ => exact hq2.elim
      | _ => exact hq.elim
end
end Go.Ann

namespace Go.Proofs.Ytmdhcpghofadcaa
set_option linter.unusedSimpArgs false
set_option linter.unusedVariables false
set_option maxRecDepth 100000
open Go Go.Ann Go.RowKit Go.WideShapes
def digB (u : Nat) : UInt8 := UInt8.ofNat (48 + u % 10)
abbrev cellB (b : UInt8) : Value := byteV b
theorem cellB_one (b : UInt8) : ∀ u ∈ [cellB b], u.oneCell' = true := by intro u hu; rw [List.mem_singleton] at hu; subst hu; rfl
theorem dig_nat (u : Nat) : ((digB u).toNat : Int) = 48 + (u % 10 : Nat) := by
  unfold digB
  rw [UInt8.toNat_ofNat']
  omega
theorem dig_wrap (u : Nat) : IntKind.u8.wrap (IntKind.u64.wrap (48 + (u : Int).tmod 10)) = ((digB u).toNat : Int) := by
  rw [show (u : Int).tmod 10 = ((u % 10 : Nat) : Int) from (Int.ofNat_tmod u 10).symm, dig_nat, wrap_u64_id _ (by omega) (by omega), wrap_u8_id _ (by omega) (by omega)]
theorem decL_dig {n : Nat} (h : 10 ≤ n) : decL n = decL (n / 10) ++ [digB n] := decL_big h
theorem decL_one {n : Nat} (h : n < 10) : decL n = [digB n] := by rw [decL_small h]; unfold digB; rw [Nat.mod_eq_of_lt h]
theorem one_cell (w : World) (b : UInt8) (t : TypeId) : ∀ i c, ([b] : List UInt8)[i]? = some c → (w.alloc (.cells #[cellB b] t)).cell? ((⟨w.heap.size, 0, none⟩ : Addr).add i) = some (byteV c) := by
  intro i c hi
  match i, hi with
  | 0, hi =>
    simp only [List.getElem?_cons_zero, Option.some.injEq] at hi; subst hi
    simp only [Addr.add_lit]
    rw [World.cell?_alloc_at _ _ _ _ rfl]; simp
  | i + 1, hi => simp at hi
theorem decL_le {n : Nat} (h : n < 100000000000000000000) : (decL n).length ≤ 20 := decL_len n 20 (by simpa using h) (by decide)
theorem numL_le {n : Int} (h : I64 n) : (numL n).length ≤ 21 := by
  have := decL_le (n := n.natAbs) (by unfold I64 at h; omega)
  unfold numL
  split <;> simp <;> omega
theorem digits_ok (n : Int) (w : World) (hn : I64 n) : Ret Try.prog 20 [.int .i64 n] w fun u w' => u = .string (ofL (numL n)) ∧ Below w.heap.size w w' := by
  refine ent20 _ _ _ ?_
  have hN0 : n.natAbs < 9223372036854775809 := by unfold I64 at hn; omega
  have rest : ∀ N : Nat, N = n.natAbs → W Try.prog (c20S2 ()) [(0, .int .i64 n), (3, .int .u64 N), (4, .string (ofL []))] w (finQ Try.prog [.tmp 2] fun u w' => u = .string (ofL (numL n)) ∧ Below w.heap.size w w') := by
    intro N hN
    have hlN := decL_le (n := N) (by omega)
    simp (disch := first | omega | exact okFill_t rfl | exact okSize_t rfl | exact fun h => h | (simp only [World.size_alloc, World.size_drew, World.size_setCell, size_fill, bytesW]; omega)) only [go_sem, c20, c20S0, c20S2]
    refine W_loopU (fun q : Nat × List UInt8 => [(3, .int .u64 q.1), (4, .string (ofL q.2))]) (fun q w' => Below w.heap.size w w' ∧ decL N = decL q.1 ++ q.2 ∧ q.1 ≤ N) (fun q => q.1) (N, []) rfl ⟨Below.refl _ _, by simp, Nat.le_refl _⟩ ?_
    rintro ⟨u, s⟩ w1 ⟨b1, e1, hu⟩
    simp only at e1 hu
    have hs : s.length ≤ 20 := by have := congrArg List.length e1; rw [List.length_append] at this; omega
    simp (disch := first | omega | exact okFill_t rfl | exact okSize_t rfl | exact fun h => h | (simp only [World.size_alloc, World.size_drew, World.size_setCell, size_fill, bytesW]; omega)) only [go_sem, c20, c20L0, c20S0, c20S2, c20L0]
    rw [dig_wrap]
    refine bsW_ones ty54mkI rfl rfl (by decide) (by decide) (cellB_one (digB u)) ?_
    have e4 : (u : Int).tdiv 10 = ((u / 10 : Nat) : Int) := (Int.ofNat_tdiv u 10).symm
    simp (disch := first | omega | exact okFill_t rfl | exact okSize_t rfl | exact fun h => h | (simp only [World.size_alloc, World.size_drew, World.size_setCell, size_fill, bytesW]; omega)) only [go_sem, c20, c20L0, c20S0, c20S2]
    rw [e4, wrap_u64_id _ (by omega) (by omega)]
    refine ⟨[digB u], rfl, fun i c hi => one_cell w1 (digB u) 5 i c hi, by simp; omega, fun h0 => ?_, fun h0 => ?_⟩
    · have hsz := b1.size
      have hN1 : decL N = [digB u] ++ s := by rw [e1, decL_one (by omega)]
      have hl := congrArg List.length hN1
      rw [List.length_append, List.length_singleton] at hl
      have b2 : Below w.heap.size w (w1.alloc (.cells #[.int .u8 (digB u).toNat] 5)) := b1.alloc hsz _
      generalize w1.alloc (.cells #[.int .u8 (digB u).toNat] 5) = w2 at b2 ⊢
      rw [← hN1]
      simp (disch := first | omega | exact okFill_t rfl | exact okSize_t rfl | exact fun h => h | (simp only [World.size_alloc, World.size_drew, World.size_setCell, size_fill, bytesW]; omega)) only [go_sem, c20, c20L0, c20S0, c20S1, c20S2]
      unfold numL
      subst hN
      refine ⟨fun hneg => ⟨by omega, ?_⟩, fun hneg => ?_⟩
      · rw [if_pos hneg]; exact ⟨rfl, b2⟩
      · rw [if_neg (by omega)]; exact ⟨rfl, b2⟩
    · have hu10 : 10 ≤ u := by omega
      refine ⟨(u / 10, digB u :: s), rfl, ⟨b1.alloc b1.size _, by rw [e1, decL_dig hu10]; simp, by simp only; omega⟩, by simp only; omega⟩
  simp (disch := first | omega | exact okFill_t rfl | exact okSize_t rfl | exact fun h => h | (simp only [World.size_alloc, World.size_drew, World.size_setCell, size_fill, bytesW]; omega)) only [go_sem, c20, c20L0, c20S0, c20S1]
  refine ⟨fun h => ?_, fun h => ?_⟩
  · unfold unV pvW
    refine ⟨trivial, ?_⟩
    simp (disch := first | omega | exact okFill_t rfl | exact okSize_t rfl | exact fun h => h | (simp only [World.size_alloc, World.size_drew, World.size_setCell, size_fill, bytesW]; omega)) only [go_sem, c20, c20L0, c20S0, c20S1]
    have e : IntKind.u64.wrap (0 - IntKind.u64.wrap n) = (n.natAbs : Int) := by
      rw [wrap_u64_mod, wrap_u64_mod]
      omega
    rw [e]
    exact rest _ rfl
  · have e : IntKind.u64.wrap n = (n.natAbs : Int) := by
      rw [wrap_u64_mod]
      omega
    rw [e]
    exact rest _ rfl
end Go.Proofs.Ytmdhcpghofadcaa

namespace Go.Proofs.Ytmdhcpghofadcaa
set_option linter.unusedSimpArgs false
set_option linter.unusedVariables false
set_option maxRecDepth 100000
open Go Go.Ann Go.RowKit Go.WideShapes
def namesT : List (List UInt8) := [[], [114, 100], [119, 114], [99, 97, 115], [105, 110, 99], [100, 101, 99], [101, 110, 113], [100, 101, 113], [112, 115, 104], [112, 111, 112], [97, 100, 100], [114, 101, 109], [104, 97, 115], [108, 99, 107], [117, 108, 107]]
def nameL (m : Int) : List UInt8 := if 0 ≤ m ∧ m < 15 then (namesT[m.toNat]?).getD [] else []
def argL (o : OpT) : List UInt8 := if o.Method = 2 ∨ o.Method = 6 ∨ o.Method = 8 ∨ o.Method = 10 ∨ o.Method = 11 ∨ o.Method = 12 then numL o.Arg else if o.Method = 3 then numL o.Arg ++ 58 :: numL o.Second else []
def resL (o : OpT) : List UInt8 := if o.Done = true ∧ (o.Method = 1 ∨ o.Method = 3 ∨ o.Method = 7 ∨ o.Method = 9 ∨ o.Method = 10 ∨ o.Method = 11 ∨ o.Method = 12) then 61 :: numL o.Result else []
def labelL (o : OpT) : List UInt8 := nameL o.Method ++ argL o ++ resL o
theorem i64_of_k {n : Int} (h : kOk .i64 n) : I64 n := by
  unfold kOk at h
  simp [Lit.wf, IntKind.min, IntKind.max, IntKind.signed, IntKind.bits] at h
  exact ⟨by omega, by omega⟩
theorem nameL_le (m : Int) : (nameL m).length ≤ 3 := by
  unfold nameL
  split
  · rename_i h
    have : ∀ k : Nat, k < 15 → ((namesT[k]?).getD []).length ≤ 3 := by decide
    exact this _ (by omega)
  · simp
theorem names_one : ∀ u ∈ namesT.flatMap (fun l => [Value.string (ofL l)]), u.oneCell' = true := by
  intro u hu
  obtain ⟨l, _, h⟩ := List.mem_flatMap.1 hu
  rw [List.mem_singleton] at h; subst h; rfl
theorem name_ok (m : Int) (w : World) : Ret Try.prog 19 [.int .i64 m] w fun u w' => u = .string (ofL (nameL m)) ∧ Below w.heap.size w w' := by
  refine ent19 _ _ _ ?_
  simp (disch := first | omega | exact okFill_t rfl | exact okSize_t rfl | exact fun h => h | (simp only [World.size_alloc, World.size_drew, World.size_setCell, size_fill, bytesW]; omega)) only [go_sem, c19, c19S0]
  refine bsW_ones ty48mkI rfl rfl (by decide) (by decide) names_one ?_
  have hg : ∀ (h0 : 0 ≤ m) (h1 : m < 15), [Value.string (ofL []), .string (ofL [114, 100]), .string (ofL [119, 114]), .string (ofL [99, 97, 115]), .string (ofL [105, 110, 99]), .string (ofL [100, 101, 99]), .string (ofL [101, 110, 113]), .string (ofL [100, 101, 113]), .string (ofL [112, 115, 104]), .string (ofL [112, 111, 112]), .string (ofL [97, 100, 100]), .string (ofL [114, 101, 109]), .string (ofL [104, 97, 115]), .string (ofL [108, 99, 107]), .string (ofL [117, 108, 107])][m.toNat]? = some (.string (ofL (nameL m))) := by
    intro h0 h1
    show (namesT.map fun l => Value.string (ofL l))[m.toNat]? = _
    have hk : m.toNat < namesT.length := by show m.toNat < 15; omega
    unfold nameL
    rw [if_pos ⟨h0, h1⟩, List.getElem?_map, List.getElem?_eq_getElem hk]
    rfl
  have hb : ∀ cs, Below w.heap.size w (w.alloc (.cells cs 9)) := fun cs => (Below.refl _ _).alloc (Nat.le_refl _) _
  simp (disch := first | omega | exact okFill_t rfl | exact okSize_t rfl | exact fun h => h | (simp only [World.size_alloc, World.size_drew, World.size_setCell, size_fill, bytesW]; omega)) only [go_sem, c19, c19S0]
  refine ⟨fun h0 => ⟨fun h1 => ⟨?_, hb _⟩, fun h1 => ⟨⟨h0, h1⟩, ?_⟩⟩, fun h0 => ⟨?_, hb _⟩⟩
  · unfold nameL; rw [if_neg (by omega)]
  · rw [hg h0 h1]
    simp (disch := first | omega | exact okFill_t rfl | exact okSize_t rfl | exact fun h => h | (simp only [World.size_alloc, World.size_drew, World.size_setCell, size_fill, bytesW]; omega)) only [go_sem, c19, c19S0]
    exact hb _
  · unfold nameL; rw [if_neg (by omega)]
section
variable {o : OpT} {w : World} {b0 : Nat} {s : List UInt8}
theorem label1 {K : Value → World → Prop} (h0 : Blk w b0 o.enc.toArray 23) (ho : o.wf) (hs : s.length ≤ 100) (hK : ∀ w', Below w.heap.size w w' → K (.string (ofL (s ++ resL o))) w') (b : Bool) (hb : resL o = if b = true then 61 :: numL o.Result else []) :
    W Try.prog (c8S1 ()) [(1, .pointer (some ⟨b0, 0, none⟩)), (3, .string (ofL s)), (39, .bool b)] w (blockQ 1 (thenQ Try.prog (sg c8S2) (finQ Try.prog [.tmp 2] K))) := by
  have ao := o.at
  have r0 := h0.rules
  cases b with
  | false =>
    rw [hb] at hK
    simp only [Bool.false_eq_true, if_false, List.append_nil] at hK
    simp (disch := first | omega | exact okFill_t rfl | exact okSize_t rfl | exact fun h => h | (simp only [World.size_alloc, World.size_drew, World.size_setCell, size_fill, bytesW]; omega)) only [go_sem, c8, c8S0, c8S1, c8S2, c8S3, c8S4, c8S5]
    exact hK _ (Below.refl _ _)
  | true =>
    rw [hb] at hK
    simp only [if_true] at hK
    simp (disch := first | omega | exact okFill_t rfl | exact okSize_t rfl | exact fun h => h | (simp only [World.size_alloc, World.size_drew, World.size_setCell, size_fill, bytesW]; omega)) only [go_sem, c8, c8S0, c8S1, c8S2, c8S3, c8S4, c8S5, r0, ao]
    have hR : I64 o.Result := i64_of_k ho.2.2.2.2.2.2.2.1
    have hl := numL_le hR
    refine Ret.mono (digits_ok _ _ hR) ?_
    rintro _ w2 ⟨rfl, b2⟩
    simp (disch := first | omega | exact okFill_t rfl | exact okSize_t rfl | exact fun h => h | (simp only [World.size_alloc, World.size_drew, World.size_setCell, size_fill, bytesW]; omega)) only [go_sem, c8, c8S0, c8S1, c8S2, c8S3, c8S4, c8S5]
    exact ⟨by omega, by omega, hK _ b2⟩
theorem label4 {K : Value → World → Prop} (h0 : Blk w b0 o.enc.toArray 23) (ho : o.wf) (hs : s.length ≤ 100) (hK : ∀ w', Below w.heap.size w w' → K (.string (ofL (s ++ resL o))) w') : W Try.prog (c8S4 ()) [(1, .pointer (some ⟨b0, 0, none⟩)), (3, .string (ofL s))] w (finQ Try.prog [.tmp 2] K) := by
  have ao := o.at
  have r0 := h0.rules
  have L := label1 h0 ho hs hK
  simp (disch := first | omega | exact okFill_t rfl | exact okSize_t rfl | exact fun h => h | (simp only [World.size_alloc, World.size_drew, World.size_setCell, size_fill, bytesW]; omega)) only [go_sem, c8, c8S0, c8S2, c8S3, c8S4, c8S5, r0, ao]
  refine ⟨fun hd => ?_, fun hd => ?_⟩
  · have e : resL o = [] := by unfold resL; rw [hd]; simp
    rw [e, List.append_nil] at hK
    exact hK _ (Below.refl _ _)
  · refine ⟨fun e1 => L _ ?_, fun e1 => ⟨fun e2 => L _ ?_, fun e2 => ⟨fun e3 => L _ ?_, fun e3 => ⟨fun e4 => L _ ?_, fun e4 => ⟨fun e5 => L _ ?_, fun e5 => ⟨fun e6 => L _ ?_, fun e6 => L _ ?_⟩⟩⟩⟩⟩⟩
    all_goals
      unfold resL
      rw [hd]
      simp [*]
theorem label0 {K : Value → World → Prop} (h0 : Blk w b0 o.enc.toArray 23) (ho : o.wf) (hs : s.length ≤ 3) (hK : ∀ w', Below w.heap.size w w' → K (.string (ofL (s ++ argL o ++ resL o))) w') (b : Bool)
    (hb1 : b = true → argL o = numL o.Arg) (hb2 : b = false → argL o = if o.Method = 3 then numL o.Arg ++ 58 :: numL o.Second else []) :
    W Try.prog (c8S0 ()) [(1, .pointer (some ⟨b0, 0, none⟩)), (3, .string (ofL s)), (8, .int .i64 o.Method), (9, .bool b)] w (blockQ 0 (thenQ Try.prog (sg c8S4) (finQ Try.prog [.tmp 2] K))) := by
  have ao := o.at
  have r0 := h0.rules
  have hlt := h0.lt
  have hA : I64 o.Arg := i64_of_k ho.2.2.2.2.2.1
  have hS : I64 o.Second := i64_of_k ho.2.2.2.2.2.2.1
  have hlA := numL_le hA
  have hlS := numL_le hS
  cases b with
  | true =>
    rw [hb1 rfl] at hK
    simp (disch := first | omega | exact okFill_t rfl | exact okSize_t rfl | exact fun h => h | (simp only [World.size_alloc, World.size_drew, World.size_setCell, size_fill, bytesW]; omega)) only [go_sem, c8, c8S0, c8S1, c8S2, c8S3, c8S5, r0, ao]
    refine Ret.mono (digits_ok _ _ hA) ?_
    rintro _ w2 ⟨rfl, b2⟩
    simp (disch := first | omega | exact okFill_t rfl | exact okSize_t rfl | exact fun h => h | (simp only [World.size_alloc, World.size_drew, World.size_setCell, size_fill, bytesW]; omega)) only [go_sem, c8, c8S0, c8S1, c8S2, c8S3, c8S5]
    exact ⟨by omega, label4 (h0.below b2 hlt) ho (by rw [List.length_append]; omega) fun w' b => hK w' (b2.trans (b.mono b2.size))⟩
  | false =>
    rw [hb2 rfl] at hK
    simp (disch := first | omega | exact okFill_t rfl | exact okSize_t rfl | exact fun h => h | (simp only [World.size_alloc, World.size_drew, World.size_setCell, size_fill, bytesW]; omega)) only [go_sem, c8, c8S0, c8S1, c8S2, c8S3, c8S5, r0, ao]
    refine ⟨fun h3 => ?_, fun h3 => ?_⟩
    · rw [if_pos h3] at hK
      refine c8draw0 (Chg (fun _ => False) _) (Chg.refl _ _) ?_
      simp (disch := first | omega | exact okFill_t rfl | exact okSize_t rfl | exact fun h => h | (simp only [World.size_alloc, World.size_drew, World.size_setCell, size_fill, bytesW]; omega)) only [go_sem, c8, c8S0, c8S1, c8S2, c8S3, c8S5, c8D0, r0, ao]
      refine Ret.mono (digits_ok _ _ hA) ?_
      rintro _ w2 ⟨rfl, b2⟩
      have r2 := (h0.below ((Below.refl _ w).drew.trans b2) hlt).rules
      simp (disch := first | omega | exact okFill_t rfl | exact okSize_t rfl | exact fun h => h | (simp only [World.size_alloc, World.size_drew, World.size_setCell, size_fill, bytesW]; omega)) only [go_sem, c8, c8S0, c8S1, c8S2, c8S3, c8S5, c8D0, r0, r2, ao]
      have b02 : Below w.heap.size w w2 := (Below.refl _ w).drew.trans b2
      refine ⟨Chg.of_below b2, by omega, Ret.mono (digits_ok _ _ hS) ?_⟩
      rintro _ w3 ⟨rfl, b3⟩
      have b03 := b02.trans (b3.mono b02.size)
      have c3 : Chg (fun _ => False) w.drew w3 := (Chg.of_below b2).trans (Chg.of_below b3)
      simp (disch := first | omega | exact okFill_t rfl | exact okSize_t rfl | exact fun h => h | (simp only [World.size_alloc, World.size_drew, World.size_setCell, size_fill, bytesW]; omega)) only [go_sem, c8, c8S0, c8S1, c8S2, c8S3, c8S5, c8D0, r0, r2, ao]
      simp only [List.append_assoc, List.singleton_append] at hK
      refine ⟨c3, by simp only [List.length_append, List.length_cons, List.length_nil]; omega, by simp only [List.length_append, List.length_cons, List.length_nil]; omega, ?_⟩
      simp only [List.append_assoc, List.singleton_append]
      refine label4 (h0.below b03 hlt) ho (by simp only [List.length_append, List.length_cons]; omega) fun w' b => ?_
      simp only [List.append_assoc, List.cons_append]
      exact hK w' (b03.trans (b.mono b03.size))
    · rw [if_neg h3, List.append_nil] at hK
      exact label4 h0 ho (by omega) hK
end
theorem label_ok (o : OpT) (ho : o.wf) (w : World) : Ret Try.prog 8 [.agg o.enc.toArray] w fun u w' => u = .string (ofL (labelL o)) ∧ Below w.heap.size w w' := by
  refine ent8 _ _ _ ?_
  have ao := o.at
  simp (disch := first | omega | exact okFill_t rfl | exact okSize_t rfl | exact fun h => h | (simp only [World.size_alloc, World.size_drew, World.size_setCell, size_fill, bytesW]; omega)) only [go_sem, c8, c8S0, c8S1, c8S2, c8S3, c8S4, c8S5, ao]
  have hB := Blk.new (w := w) (cs := o.enc.toArray) (t := 23)
  have b1 : Below w.heap.size w (w.alloc (.cells o.enc.toArray 23)) := (Below.refl _ _).alloc (Nat.le_refl _) _
  have hbl := hB.lt
  generalize w.alloc (.cells o.enc.toArray 23) = w1 at hB b1 hbl ⊢
  generalize w.heap.size = b0 at hB b1 hbl ⊢
  refine Ret.mono (name_ok _ _) ?_
  rintro _ w2 ⟨rfl, b2⟩
  have hB2 := hB.below b2 hbl
  have r2 := hB2.rules
  have hn3 := nameL_le o.Method
  simp (disch := first | omega | exact okFill_t rfl | exact okSize_t rfl | exact fun h => h | (simp only [World.size_alloc, World.size_drew, World.size_setCell, size_fill, bytesW]; omega)) only [go_sem, c8, c8S1, c8S2, c8S3, c8S5, r2, ao]
  have b02 : Below b0 w w2 := b1.trans (b2.mono (by omega))
  have hlt2 := hB2.lt
  have L := label0 hB2 ho hn3 (K := fun u w' => u = .string (ofL (labelL o)) ∧ Below b0 w w') fun w' b => ⟨rfl, b02.trans (b.mono (by omega))⟩
  refine ⟨fun e1 => L _ ?_ ?_, fun e1 => ⟨fun e2 => L _ ?_ ?_, fun e2 => ⟨fun e3 => L _ ?_ ?_, fun e3 => ⟨fun e4 => L _ ?_ ?_, fun e4 => ⟨fun e5 => L _ ?_ ?_, fun e5 => L _ ?_ ?_⟩⟩⟩⟩⟩
  all_goals
    unfold argL
    first
      | (simp [*]; done)
      | (simp [*]; intros; exfalso; omega)
section
variable {o : OpT} {w : World} {b0 : Nat} {s : List UInt8}
end
end Go.Proofs.Ytmdhcpghofadcaa

namespace Go.Proofs.Ytmdhcpghofadcaa
set_option linter.unusedSimpArgs false
set_option linter.unusedVariables false
set_option maxRecDepth 100000
open Go Go.Ann Go.RowKit Go.WideShapes
structure Sc where
  lo : Int
  hi : Int
  wd : Nat
deriving DecidableEq
def Sc.enc (s : Sc) : List Value := [.int .i64 s.lo, .int .i64 s.hi, .int .i64 s.wd]
structure Sc.ok (s : Sc) : Prop where
  lo0 : 0 ≤ s.lo
  le : s.lo ≤ s.hi
  hi1 : s.hi ≤ 2199023255552
  wd8 : 8 ≤ s.wd
  wd1 : s.wd ≤ 200
def Sc.col (s : Sc) (t : Int) : Int := if s.hi = s.lo then 0 else (min t s.hi - s.lo) * (s.wd - 1) / (s.hi - s.lo)
theorem Sc.col_le {s : Sc} (h : s.ok) {t : Int} (ht : s.lo ≤ t) : 0 ≤ s.col t ∧ s.col t ≤ (s.wd : Int) - 1 := by
  obtain ⟨h1, h2, h3, h4, h5⟩ := h
  unfold Sc.col
  split
  · omega
  · have hp : 0 < s.hi - s.lo := by omega
    have hm : 0 ≤ min t s.hi - s.lo := by omega
    refine ⟨Int.ediv_nonneg (Int.mul_nonneg hm (by omega)) (by omega), ?_⟩
    have : (min t s.hi - s.lo) * ((s.wd : Int) - 1) ≤ ((s.wd : Int) - 1) * (s.hi - s.lo) := by
      rw [Int.mul_comm]
      exact Int.mul_le_mul_of_nonneg_left (by omega) (by omega)
    calc (min t s.hi - s.lo) * ((s.wd : Int) - 1) / (s.hi - s.lo) ≤ ((s.wd : Int) - 1) * (s.hi - s.lo) / (s.hi - s.lo) := Int.ediv_le_ediv hp this
      _ = (s.wd : Int) - 1 := Int.mul_ediv_cancel _ (by omega)
theorem Sc.col_mono {s : Sc} (h : s.ok) {t u : Int} (ht : s.lo ≤ t) (hu : t ≤ u) : s.col t ≤ s.col u := by
  obtain ⟨h1, h2, h3, h4, h5⟩ := h
  unfold Sc.col
  split
  · omega
  · exact Int.ediv_le_ediv (by omega) (Int.mul_le_mul_of_nonneg_right (by omega) (by omega))
def Sc.a (s : Sc) (o : OpT) : Nat := (s.col o.Invoke).toNat
def Sc.b (s : Sc) (o : OpT) : Nat := if o.Done = true then (s.col o.Return).toNat else s.wd - 1
structure Sc.has (s : Sc) (o : OpT) : Prop where
  i1 : s.lo ≤ o.Invoke
  i2 : o.Invoke ≤ s.hi
  r1 : o.Done = true → o.Invoke ≤ o.Return
  r2 : o.Return ≤ s.hi
theorem Sc.ab {s : Sc} (h : s.ok) {o : OpT} (ho : s.has o) : s.a o ≤ s.b o ∧ s.b o < s.wd ∧ s.col o.Invoke = s.a o ∧ (if o.Done = true then s.col o.Return else (s.wd : Int) - 1) = s.b o := by
  have h1 := Sc.col_le h ho.i1
  have hw := h.wd8
  by_cases hd : o.Done = true
  · have h2 := Sc.col_le h (Int.le_trans ho.i1 (ho.r1 hd))
    have h3 := Sc.col_mono h ho.i1 (ho.r1 hd)
    unfold Sc.a Sc.b
    simp only [hd, if_true]
    omega
  · unfold Sc.a Sc.b
    simp only [hd, if_false]
    simp only [Bool.not_eq_true] at hd
    simp only [hd, Bool.false_eq_true, if_false]
    omega
def signB (o : OpT) (a b at_ : Nat) : UInt8 := if at_ = b then (if o.Done = true then (if a = b then 124 else 93) else 62) else if at_ = a then 91 else ((labelL o)[at_ - a - 1]?).getD 45
def barF (s : Sc) (o : OpT) (f : Nat → UInt8) (k : Nat) : UInt8 := if s.a o ≤ k ∧ k ≤ s.b o then signB o (s.a o) (s.b o) k else f k
def rowF (s : Sc) (l : List OpT) : Nat → UInt8 := l.foldl (fun f o => barF s o f) fun _ => 46
def bytesF (n : Nat) (f : Nat → UInt8) : List UInt8 := (List.range n).map f
theorem bytesF_len (n : Nat) (f : Nat → UInt8) : (bytesF n f).length = n := by simp [bytesF]
theorem bytesF_get {n : Nat} {f : Nat → UInt8} {k : Nat} (h : k < n) : (bytesF n f)[k]? = some (f k) := by simp [bytesF, h]
theorem bytesF_ext {n : Nat} {f g : Nat → UInt8} (h : ∀ k, k < n → f k = g k) : bytesF n f = bytesF n g := by
  unfold bytesF
  exact List.map_congr_left fun k hk => h k (List.mem_range.1 hk)
theorem bytesF_set {n : Nat} {f g : Nat → UInt8} {k : Nat} {c : UInt8} (hc : g k = c) (h : ∀ j, j < n → j ≠ k → f j = g j) : ((bytesF n f).map byteV).set k (byteV c) = (bytesF n g).map byteV := by
  refine List.ext_getElem (by simp [bytesF]) fun j h1 h2 => ?_
  rw [List.getElem_set]
  by_cases hj : k = j
  · subst hj; simp [bytesF, hc]
  · have hjn : j < n := by simpa [bytesF] using h2
    rw [if_neg hj]
    simp [bytesF, h j hjn fun e => hj e.symm]
def rowL (s : Sc) (l : List OpT) : List UInt8 := bytesF s.wd (rowF s l)
def headL (l : List UInt8) : List UInt8 := l ++ List.replicate (7 - l.length) 32
def procOf (p : List OpT) : Int := match p with | [] => 0 | o :: _ => o.Proc
def lineL (s : Sc) (p : List OpT) : List UInt8 := headL (112 :: numL (procOf p)) ++ rowL s p ++ [10]
def linesL (s : Sc) (P : List (List OpT)) : List UInt8 := P.flatMap (lineL s)
end Go.Proofs.Ytmdhcpghofadcaa

namespace Go.Proofs.Ytmdhcpghofadcaa
set_option linter.unusedSimpArgs false
set_option linter.unusedVariables false
set_option maxRecDepth 100000
open Go Go.Ann Go.RowKit Go.WideShapes Go.Shelf
theorem st_recast {W0 w : World} {F : Nat → Prop} {L L' : List Res} {I : List Inv} (h : St W0 w F L I) (e : L = L') : St W0 w F L' I := e ▸ h
def BuL (b : Nat) (p v : Value) (bs : List UInt8) : List Res := [.blk b #[p, v] 56, .row v 5 1 bs.length (bs.map byteV)]
structure BuOk (b : Nat) (p v : Value) (bs : List UInt8) : Prop where
  ptr : p = .pointer none ∨ p = .pointer (some ⟨b, 0, none⟩)
  nil : bs = [] → v = .slice none 0 0
theorem goCC : goFunc Try.prog 43 = true := by kernel_rfl
theorem x72 : Builder.X72 Try.prog layRepeat_ren := ⟨by kernel_rfl, by kernel_rfl⟩
theorem xBuilder : Builder.Extra Try.prog layRepeat_ren := { x72 with
  t5 := Try.underlying5
  a5 := Try.isAgg5
  z5 := Try.sizeOf5
  v5 := Try.zeroValue5
  infoByte := by kernel_rfl
  cellsByte := by kernel_rfl
  sizeByte := by kernel_rfl
  neB5 := by decide }
section
variable {W0 w : World} {F : Nat → Prop} {L : List Res} {I : List Inv} {b : Nat} {p v : Value} {bs : List UInt8}
theorem copyCheck_ok (h : St W0 w F (BuL b p v bs ++ L) I) (ok : BuOk b p v bs) :
    Ret Try.prog 43 [.pointer (some ⟨b, 0, none⟩)] w fun u w' => u = .tuple #[] ∧ St W0 w' F (BuL b (.pointer (some ⟨b, 0, none⟩)) v bs ++ L) I := by
  have hb := h.blk 0 rfl
  have L240 : Lays.n240 Try.prog layRepeat_ren := { layRepeat with }
  rcases ok.ptr with rfl | rfl
  · refine (Any.Builder_copyCheck_fresh L240 x72 b w (hb.cell 0) (by unfold World.shape?; rw [show w.heap[b]? = _ from hb]; rfl) (hb.frozen 0)).mono ?_
    rintro e w' ⟨rfl, rfl⟩
    exact ⟨_, rfl, rfl, h.set 0 rfl 0 (.pointer (some ⟨b, 0, none⟩))⟩
  · refine (Any.Builder_copyCheck_used L240 x72 b w (hb.cell 0)).mono ?_
    rintro e w' ⟨rfl, rfl⟩
    exact ⟨_, rfl, rfl, h⟩
theorem writeS_ok (s : List UInt8) (h : St W0 w F (BuL b p v bs ++ L) I) (ok : BuOk b p v bs) (hl : bs.length + s.length ≤ 140737488355328) :
    Ret Try.prog 25 [.pointer (some ⟨b, 0, none⟩), .string (ofL s)] w fun u w' => ∃ p' v', BuOk b p' v' (bs ++ s) ∧ St W0 w' F (BuL b p' v' (bs ++ s) ++ L) I := by
  refine ent25 _ _ _ _ ?_
  simp (disch := first | omega | exact okFill_t rfl | exact okSize_t rfl | exact fun h => h | (simp only [World.size_alloc, World.size_drew, World.size_setCell, size_fill, bytesW]; omega)) only [go_sem, c25, c25S0, c25S1, goCC]
  refine Ret.mono (copyCheck_ok h ok) ?_
  rintro _ w2 ⟨rfl, h2⟩
  have r2 := h2.rules 0 rfl
  obtain ⟨a, c, rfl, _⟩ := own_slice (h2.row 1 rfl)
  simp (disch := first | omega | exact okFill_t rfl | exact okSize_t rfl | exact fun h => h | (simp only [World.size_alloc, World.size_drew, World.size_setCell, size_fill, bytesW]; omega)) only [go_sem, c25, c25S0, c25S1, r2]
  refine h2.appendS 1 rfl (by kernel_rfl) Try.underlying9 s hl ?_
  intro v3 w3 h3 c3 hn
  obtain ⟨a3, c3', rfl, _⟩ := own_slice (h3.row 1 rfl)
  have r3 := h3.rules 0 rfl
  simp (disch := first | omega | exact okFill_t rfl | exact okSize_t rfl | exact fun h => h | (simp only [World.size_alloc, World.size_drew, World.size_setCell, size_fill, bytesW]; omega)) only [go_sem, c25, c25S0, c25S1, r3]
  refine ⟨.pointer (some ⟨b, 0, none⟩), .slice a3 (bs.length + s.length) c3', ⟨.inr rfl, fun hnil => ?_⟩, st_recast (h3.set 0 rfl 1 (.slice a3 (bs.length + s.length) c3')) (by simp only [BuL, List.length_append, List.map_append]; rfl)⟩
  rw [List.append_eq_nil_iff] at hnil
  exact hn.2 ⟨ok.nil hnil.1, hnil.2⟩
theorem stringS_ok (h : St W0 w F (BuL b p v bs ++ L) I) (ok : BuOk b p v bs) (hl : bs.length ≤ 140737488355328) :
    Ret Try.prog 28 [.pointer (some ⟨b, 0, none⟩)] w fun u w' => u = .string (ofL bs) ∧ St W0 w' F L I := by
  refine ent28 _ _ _ ?_
  obtain ⟨a, c, rfl, hc⟩ := own_slice (h.row 1 rfl)
  simp (disch := first | omega | exact okFill_t rfl | exact okSize_t rfl | exact fun h => h | (simp only [World.size_alloc, World.size_drew, World.size_setCell, size_fill, bytesW]; omega)) only [go_sem, c28, c28S0]
  refine c28draw0 (Same (fun k => k = b) _) (Same.refl _ _) ?_
  have h2 := h.drew
  have r2 := h2.rules 0 rfl
  have l2 := h2.low 0 rfl
  generalize w.drew = w2 at h2 r2 l2 ⊢
  simp (disch := first | omega | exact okFill_t rfl | exact okSize_t rfl | exact fun h => h | (simp only [World.size_alloc, World.size_drew, World.size_setCell, size_fill, bytesW]; omega)) only [go_sem, c28, c28S0, c28D0, r2]
  have h0 : a = none ∧ c = 0 ∨ 0 < c := by
    rcases Nat.eq_zero_or_pos bs.length with hz | hz
    · have := ok.nil (List.eq_nil_of_length_eq_zero hz)
      simp only [Value.slice.injEq] at this
      exact .inl ⟨this.1, this.2.2⟩
    · exact .inr (by omega)
  have same : ∀ w', Chg (fun k => (Value.slice a bs.length c).ownBlock = some k) w2 w' → Same (fun k => k = b) w2 w' := fun w' hc k hk => by
    subst hk
    exact hc.block k l2.2 fun e => h2.ne 1 0 rfl rfl (by decide) (k := k) e rfl
  refine rawB_sliceData (e := 5) Try.underlying87 h0 ?_
  simp (disch := first | omega | exact okFill_t rfl | exact okSize_t rfl | exact fun h => h | (simp only [World.size_alloc, World.size_drew, World.size_setCell, size_fill, bytesW]; omega)) only [go_sem, c28, c28S0]
  refine ⟨Same.refl _ _, h2.unsafeS 1 rfl Try.underlying87 (by kernel_rfl) ?_⟩
  intro w3 h3 c3
  simp (disch := first | omega | exact okFill_t rfl | exact okSize_t rfl | exact fun h => h | (simp only [World.size_alloc, World.size_drew, World.size_setCell, size_fill, bytesW]; omega)) only [go_sem, c28, c28S0]
  exact ⟨same _ c3, h3.sub ((List.sublist_cons_self _ _).trans (List.sublist_cons_self _ _))⟩
end
theorem repeatL_one (c : UInt8) : ∀ n, Go.Lib.repeatL [c] n = List.replicate n c
  | 0 => rfl
  | n + 1 => by rw [Go.Lib.repeatL, repeatL_one c n]; rfl
theorem repeat_ok (c : UInt8) (n : Nat) (hn : n ≤ 1000) (w : World) : Ret Try.prog 44 [.string (ofL [c]), .int .i64 n] w fun u w' => u = .string (ofL (List.replicate n c)) ∧ Below w.heap.size w w' := by
  have h := Any.strings_Repeat (P := Try.prog) (ρ := layRepeat_ren) { layRepeat with } xBuilder ⟨#[c]⟩ n w (by omega) (by show 1 * n ≤ _; omega)
  refine h.mono ?_
  rintro e w' ⟨rfl, hb⟩
  refine ⟨_, rfl, ?_, hb⟩
  rw [show (⟨#[c]⟩ : ByteArray).data.toList = [c] from rfl, repeatL_one]
  rfl
end Go.Proofs.Ytmdhcpghofadcaa

namespace Go.Proofs.Ytmdhcpghofadcaa
set_option linter.unusedSimpArgs false
set_option linter.unusedVariables false
set_option maxRecDepth 100000
open Go Go.Ann Go.RowKit Go.WideShapes
def ofProc (x : Int) (l : List OpT) : List OpT := l.filter fun o => decide (o.Proc = x)
structure ByProc (l : List OpT) (acc : List Seg) : Prop where
  up : acc.Pairwise fun a b => a.obj < b.obj
  sorts : ∀ s ∈ acc, Sorts earI (ofProc s.obj l) s.ops
  kind : ∀ s ∈ acc, ∃ o r, s.ops = o :: r ∧ s.kind = o.Kind
  all : ∀ o ∈ l, ∃ s ∈ acc, s.obj = o.Proc
def NextP (l : List OpT) (any : Bool) (last : Int) (k : Nat) (found : Bool) (next : Int) : Prop :=
  (found = false ∧ ∀ o ∈ l.take k, any = true ∧ o.Proc ≤ last) ∨ (found = true ∧ (∃ o ∈ l.take k, o.Proc = next) ∧ (any = true → last < next) ∧ ∀ o ∈ l.take k, (any = true → last < o.Proc) → next ≤ o.Proc)
theorem NextP.take {l : List OpT} {any found : Bool} {last next : Int} {k : Nat} (h : NextP l any last k found next) (hk : k < l.length) (h1 : any = true → last < l[k].Proc) (h2 : found = true → l[k].Proc < next) : NextP l any last (k + 1) true l[k].Proc := by
  refine .inr ⟨rfl, ⟨_, (mem_take_succ hk).2 (.inr rfl), rfl⟩, h1, fun o ho hlo => ?_⟩
  rcases (mem_take_succ hk).1 ho with ho | rfl
  · rcases h with ⟨_, h⟩ | ⟨hf, _, _, h⟩
    · have := h o ho; have := hlo this.1; omega
    · have := h o ho hlo; have := h2 hf; omega
  · exact Int.le_refl _
theorem ofProc_len (x : Int) (l : List OpT) : (ofProc x l).length ≤ l.length := List.length_filter_le _ _
theorem byProc_unique {l : List OpT} (hp : Pure l) : ∀ {a b : List Seg}, ByProc l a → ByProc l b → a = b := by
  intro a b ha hb
  have mem : ∀ {a b : List Seg}, ByProc l a → ByProc l b → ∀ s ∈ a, s ∈ b := by
    intro a b ha hb s hs
    obtain ⟨o, r, e, hk⟩ := ha.kind s hs
    have ho : o ∈ ofProc s.obj l := (ha.sorts s hs).1.mem_iff.1 (by rw [e]; exact List.mem_cons_self)
    unfold ofProc at ho
    rw [List.mem_filter, decide_eq_true_eq] at ho
    obtain ⟨t, ht, hto⟩ := hb.all o ho.1
    have heq : t.obj = s.obj := hto.trans ho.2
    have hops : t.ops = s.ops := by
      have h1 := hb.sorts t ht
      rw [heq] at h1
      refine sorts_unique (l := ofProc s.obj l) (fun x hx y hy => hp x ?_ y ?_) h1 (ha.sorts s hs)
      · exact (List.mem_filter.1 hx).1
      · exact (List.mem_filter.1 hy).1
    obtain ⟨o2, r2, e2, hk2⟩ := hb.kind t ht
    have : t = s := by
      rw [hops, e] at e2
      cases t; cases s
      simp only at heq hops hk hk2 e2 ⊢
      simp only [List.cons.injEq] at e2
      subst heq; subst hops
      rw [hk, hk2, e2.1]
    rw [← this]; exact ht
  have nd : ∀ {a : List Seg}, ByProc l a → a.Nodup := fun h => h.up.imp fun h e => by rw [e] at h; omega
  have hperm : a.Perm b := (List.perm_ext_iff_of_nodup (nd ha) (nd hb)).2 fun s => ⟨mem ha hb s, mem hb ha s⟩
  exact List.Perm.eq_of_pairwise (le := fun x y : Seg => x.obj < y.obj) (fun x y _ _ h1 h2 => by omega) ha.up hb.up hperm
end Go.Proofs.Ytmdhcpghofadcaa

namespace Go.Proofs.Ytmdhcpghofadcaa
set_option linter.unusedSimpArgs false
set_option linter.unusedVariables false
set_option maxRecDepth 100000
open Go Go.Ann Go.RowKit Go.WideShapes
def progR (w : World) (s : Seg) (c : List Value) : Prop := ∃ v, c = [v] ∧ RdS w 11 OpT.enc v s.ops ∧ (s.ops.length : Int) ≤ 9223372036854775806
theorem progR.below {w w' : World} (hb : Below w.heap.size w w') (s : Seg) (c : List Value) (h : progR w s c) : progR w' s c := by
  obtain ⟨v, rfl, h1, h2⟩ := h
  exact ⟨v, rfl, h1.below hb (by decide), h2⟩
end Go.Proofs.Ytmdhcpghofadcaa

namespace Go.Proofs.Ytmdhcpghofadcaa
set_option linter.unusedSimpArgs false
set_option linter.unusedVariables false
set_option maxRecDepth 100000
open Go Go.Ann Go.RowKit Go.WideShapes Go.Shelf
def intE (n : Int) : List Value := [.int .i64 n]
def intK (n : Int) : Value := .int .i64 n
def idK (v : Value) : Value := v
theorem int_one (n : Int) : ∀ u ∈ intE n, u.oneCell' = true := by intro u hu; rw [intE, List.mem_singleton] at hu; subst hu; rfl
theorem keyT_i : KeyT Try.prog 3 intK (.int .i64) := keyT_int Try.underlying3
theorem intE_map (l : List Int) : l.flatMap intE = l.map encZ := by
  induction l with
  | nil => rfl
  | cons a l ih => rw [List.flatMap_cons, ih]; rfl
theorem left_in {ν : Type} {evK : ν → Value} {d : List (Int × ν × Nat)} {D : List (Int × ν × Nat)} {e : MapEntry} (h : e ∈ (leftOf (d.map (entG intK evK)).toArray (D.map fun x => x.2.2).toArray).toList) : ∃ x ∈ d, e = entG intK evK x ∧ x.2.2 ∉ D.map fun x => x.2.2 := by
  unfold leftOf at h
  rw [Array.toList_filter, List.mem_filter] at h
  obtain ⟨h1, h2⟩ := h
  obtain ⟨x, hx, rfl⟩ := List.mem_map.1 h1
  refine ⟨x, hx, rfl, ?_⟩
  simpa [entG] using h2
theorem left_none {ν : Type} {evK : ν → Value} {d : List (Int × ν × Nat)} {D : List (Int × ν × Nat)} (h : (leftOf (d.map (entG intK evK)).toArray (D.map fun x => x.2.2).toArray).size = 0) : ∀ x ∈ d, x.2.2 ∈ D.map fun x => x.2.2 := by
  intro x hx
  unfold leftOf at h
  rw [← Array.length_toList, Array.toList_filter, List.length_eq_zero_iff, List.filter_eq_nil_iff] at h
  have := h (entG intK evK x) (List.mem_map_of_mem hx)
  simpa [entG] using this
theorem all_perm {ν : Type} {d D : List (Int × ν × Nat)} (hb : (d.map fun x => x.2.2).Nodup) (hD : (D.map fun x => x.2.2).Nodup) (hs : ∀ x ∈ D, x ∈ d) (ha : ∀ x ∈ d, x.2.2 ∈ D.map fun x => x.2.2) : D.Perm d := by
  have inj : ∀ x ∈ d, ∀ y ∈ d, x.2.2 = y.2.2 → x = y := fun x hx y hy e => by
    obtain ⟨i, hi, rfl⟩ := List.mem_iff_getElem.1 hx
    obtain ⟨j, hj, rfl⟩ := List.mem_iff_getElem.1 hy
    have hp := List.pairwise_iff_getElem.1 hb
    rcases Nat.lt_trichotomy i j with h | h | h
    · exact absurd (by rw [List.getElem_map, List.getElem_map]; exact e) (hp i j (by simpa using hi) (by simpa using hj) h)
    · subst h; rfl
    · exact absurd (by rw [List.getElem_map, List.getElem_map]; exact e.symm) (hp j i (by simpa using hj) (by simpa using hi) h)
  have nd : ∀ l : List (Int × ν × Nat), (l.map fun x => x.2.2).Nodup → l.Nodup := fun l h => by
    unfold List.Nodup at h ⊢
    rw [List.pairwise_map] at h
    exact h.imp fun h e => h (by rw [e])
  refine (List.perm_ext_iff_of_nodup (nd D hD) (nd d hb)).2 fun x => ⟨hs x, fun hx => ?_⟩
  obtain ⟨y, hy, e⟩ := List.mem_map.1 (ha x hx)
  have := inj y (hs y hy) x hx e
  rw [← this]; exact hy
theorem nat_le {D d : List Nat} (nd : D.Nodup) (hs : ∀ x ∈ D, x ∈ d) : D.length ≤ d.length := by
  induction D generalizing d with
  | nil => exact Nat.zero_le _
  | cons a D ih =>
    rw [List.nodup_cons] at nd
    have h1 : ∀ x ∈ D, x ∈ d.erase a := fun x hx => (List.mem_erase_of_ne (fun e => nd.1 (by rw [← e]; exact hx))).2 (hs x (List.mem_cons_of_mem _ hx))
    have := ih nd.2 h1
    have ha := hs a (List.mem_cons_self ..)
    rw [List.length_erase_of_mem ha] at this
    have := List.length_pos_of_mem ha
    rw [List.length_cons]; omega
theorem nodup_le {ν : Type} {d D : List (Int × ν × Nat)} (hD : (D.map fun x => x.2.2).Nodup) (hs : ∀ x ∈ D, x ∈ d) : D.length ≤ d.length := by
  have := nat_le hD (d := d.map fun x => x.2.2) fun x hx => by
    obtain ⟨y, hy, rfl⟩ := List.mem_map.1 hx
    exact List.mem_map_of_mem (f := fun x : Int × ν × Nat => x.2.2) (hs y hy)
  simpa using this
theorem last_get {α : Type} (X : List α) (r : α) : (X ++ [r])[X.length]? = some r := by simp
theorem last_set {α : Type} (X : List α) (r r' : α) : (X ++ [r]).set X.length r' = X ++ [r'] := by simp
theorem not_in {ν : Type} {d D : List (Int × ν × Nat)} {x : Int × ν × Nat} (hk : (d.map Prod.fst).Nodup) (hs : ∀ y ∈ D, y ∈ d) (hx : x ∈ d) (hn : x.2.2 ∉ D.map fun x => x.2.2) : x.1 ∉ D.map Prod.fst := by
  intro h
  obtain ⟨y, hy, e⟩ := List.mem_map.1 h
  obtain ⟨i, hi, ei⟩ := List.mem_iff_getElem.1 (hs y hy)
  obtain ⟨j, hj, ej⟩ := List.mem_iff_getElem.1 hx
  have hp := List.pairwise_iff_getElem.1 hk
  have hij : i = j := by
    rcases Nat.lt_trichotomy i j with h | h | h
    · exact absurd (by rw [List.getElem_map, List.getElem_map, ei, ej]; exact e) (hp i j (by simpa using hi) (by simpa using hj) h)
    · exact h
    · exact absurd (by rw [List.getElem_map, List.getElem_map, ei, ej]; exact e.symm) (hp j i (by simpa using hj) (by simpa using hi) h)
  subst hij
  have : y = x := ei.symm.trans ej
  subst this
  exact hn (List.mem_map_of_mem hy)
section
variable {W0 w : World} {F : Nat → Prop} {L : List Res} {I : List Inv}
theorem sortI_ok {v : Value} {ks : List Int} (h : St W0 w F (.row v 3 1 ks.length (ks.flatMap intE) :: L) I) (hl : ks.length ≤ 100000) :
    Ret Try.prog 58 [v] w fun u w' => u = .tuple #[] ∧ ∃ ts : List Int, (ts.Perm ks ∧ ts.Pairwise (· ≤ ·)) ∧ St W0 w' F (.row v 3 1 ks.length (ts.flatMap intE) :: L) I := by
  have hr := h.row 0 rfl
  obtain ⟨hlen, ⟨rfl, h0⟩ | ⟨g', cap, cur, rfl, hB, hb, hc, hm, hs, hx⟩⟩ := id hr
  · have hn : ks.length = 0 := h0
    refine (Any.slices_Sort_int_none laySortI none 0 w).mono ?_
    rintro e w' ⟨rfl, rfl⟩
    exact ⟨_, rfl, rfl, ks, ⟨List.Perm.refl _, by rw [List.eq_nil_of_length_eq_zero hn]; exact List.Pairwise.nil⟩, h⟩
  · have hx' : cur.toList.take ks.length = ks.map encZ := by rw [← intE_map, ← hx, Nat.mul_one]
    have hb' : w.heap[g']? = some (.cells cur 3 (0, 0)) := hb
    refine (Any.slices_Sort_int laySortI g' 0 cap ks w (holds_of_block_i hb' hx') (Array.getElem?_eq_some_iff.1 hb).1 (by omega)).mono ?_
    rintro e w' ⟨rfl, n, os, rfl⟩
    have hml : (ks.mergeSort fun x y => decide (x ≤ y)).length = ks.length := List.length_mergeSort _
    refine ⟨_, rfl, rfl, ks.mergeSort fun x y => decide (x ≤ y), ⟨List.mergeSort_perm _ _, (List.pairwise_mergeSort (le := fun x y : Int => decide (x ≤ y)) (fun a b c h1 h2 => by simp at h1 h2 ⊢; omega) (fun a b => by simp; omega) ks).imp fun h => by simpa using h⟩, ?_⟩
    have ho := ownsRow_sorted_i (n := n) (os := os) hml hB hb' hc hm hs
    rw [← intE_map] at ho
    exact h.grow 0 rfl (grownBy_sorted_i _) ho fun k hk => .inl hk
end
section
variable {W0 w : World} {F : Nat → Prop} {L : List Res} {I : List Inv} {d : List (Int × Value × Nat)} {c bx mb : Nat}
theorem keys1_ok (fv : Value) (J : List Res → List Int → World → Prop) (w : World) (hJ : ∀ R pre w', J R pre w' → w'.cell? ⟨bx, 0, none⟩ = some (.map (some mb)) ∧ w'.heap[mb]? = some (mapG intK idK d c) ∧ ∃ X, St W0 w' F (X ++ R) I)
    (hJ2 : ∀ R R' pre w' w'', J R pre w' → (∀ X, St W0 w' F (X ++ R) I → St W0 w'' F (X ++ R') I) → J R' pre w'')
    (hf : ∀ R pre x w', J R pre w' → (x ∉ pre ∧ x ∈ d.map Prod.fst ∧ pre.length < d.length) → callW Try.prog fv [.int .i64 x] w' fun v w'' => v = .bool true ∧ J R (pre ++ [x]) w'')
    (hk : (d.map Prod.fst).Nodup) (hb : (d.map fun x => x.2.2).Nodup) (hc : ∀ x ∈ d, x.2.2 < c) (h0 : J [] [] w) :
    Ret Try.prog 59 [fv, .pointer (some ⟨bx, 0, none⟩)] w fun _ w' => ∃ xs, xs.Perm (d.map Prod.fst) ∧ J [] xs w' := by
  refine ent59 _ _ _ _ ?_
  obtain ⟨k1, k2, _⟩ := hJ _ _ _ h0
  simp (disch := first | omega | exact okFill_t rfl | exact okSize_t rfl | exact fun h => h | (simp only [World.size_alloc, World.size_drew, World.size_setCell, size_fill, bytesW]; omega)) only [go_sem, c59, c59S0, c59S1, k1]
  refine rgG Try.underlying75 k2 ?_
  have j1 : J [.obj w.heap.size (.mapIter (some mb) c #[] c)] [] (w.alloc (.mapIter (some mb) c #[] c)) := hJ2 _ _ _ _ _ h0 fun X hX => by
    have := hX.lay (.mapIter (some mb) c #[] c)
    rw [List.append_nil] at this
    exact this.perm (List.perm_append_singleton _ _)
  generalize w.heap.size = q at j1 ⊢
  generalize w.alloc (.mapIter (some mb) c #[] c) = w1 at j1 ⊢
  simp (disch := first | omega | exact okFill_t rfl | exact okSize_t rfl | exact fun h => h | (simp only [World.size_alloc, World.size_drew, World.size_setCell, size_fill, bytesW]; omega)) only [go_sem, c59, c59S0, c59S1]
  refine W_loopU (fun D : List (Int × Value × Nat) => []) (fun D w' => (∀ x ∈ D, x ∈ d) ∧ (D.map fun x => x.2.2).Nodup ∧ J [.obj q (.mapIter (some mb) c (D.map fun x => x.2.2).toArray c)] (D.map Prod.fst) w') (fun D => d.length - D.length) [] rfl ⟨fun _ h => (by cases h), List.Pairwise.nil, j1⟩ ?_
  clear j1 k1 k2 h0
  rintro D w2 ⟨hD1, hD2, j2⟩
  have hle := nodup_le hD2 hD1
  obtain ⟨k1, k2, X, sX⟩ := hJ _ _ _ j2
  simp (disch := first | omega | exact okFill_t rfl | exact okSize_t rfl | exact fun h => h | (simp only [World.size_alloc, World.size_drew, World.size_setCell, size_fill, bytesW]; omega)) only [go_sem, c59, c59S0, c59S1, c59L0, c59L0]
  refine nxG (sX.obj X.length (last_get X _)) k2 (fun e he => ?_) (Nat.le_refl _) (fun h0' => ?_) (fun e he w3 hw3 => ?_)
  · obtain ⟨x, hx, rfl⟩ := List.mem_map.1 he
    exact hc x hx
  · simp (disch := first | omega | exact okFill_t rfl | exact okSize_t rfl | exact fun h => h | (simp only [World.size_alloc, World.size_drew, World.size_setCell, size_fill, bytesW]; omega)) only [go_sem, c59, c59S0, c59S1, c59L0]
    have hperm := all_perm hb hD2 hD1 (left_none h0')
    refine ⟨D.map Prod.fst, hperm.map _, hJ2 _ _ _ _ _ j2 fun Y hY => ?_⟩
    rw [List.append_nil]
    exact hY.sub (List.sublist_append_left _ _)
  · obtain ⟨x, hx, rfl, hxn⟩ := left_in he
    have j3 : J [.obj q (.mapIter (some mb) c ((D.map fun x => x.2.2).toArray.push x.2.2) c)] (D.map Prod.fst) (w3.putObj q (.mapIter (some mb) c ((D.map fun x => x.2.2).toArray.push x.2.2) c)) := hJ2 _ _ _ _ _ j2 fun Y hY => by
      have h3 : St W0 w3 F (Y ++ [.obj q (.mapIter (some mb) c (D.map fun x => x.2.2).toArray c)]) I := by
        rcases hw3 with rfl | rfl
        · exact hY
        · exact hY.drew
      have := h3.putObj Y.length (last_get Y _) (.mapIter (some mb) c ((D.map fun x => x.2.2).toArray.push x.2.2) c)
      rwa [last_set] at this
    have hbn : ((d.map (entG intK idK)).toArray.toList.map (·.born)).Nodup := by
      rw [List.toList_toArray, List.map_map]
      exact hb
    simp (disch := first | omega | exact okFill_t rfl | exact okSize_t rfl | exact fun h => h | (simp only [World.size_alloc, World.size_drew, World.size_setCell, size_fill, bytesW]; omega)) only [go_sem, c59, c59S0, c59S1, c59L0]
    have e1 : (entG intK idK x).born = x.2.2 := rfl
    rw [e1]
    obtain ⟨_, k4, Z, sZ⟩ := hJ _ _ _ j3
    refine enG (sZ.obj Z.length (last_get Z _)) k4 (by rw [List.toList_toArray]; exact List.mem_map_of_mem hx) hbn ?_
    simp (disch := first | omega | exact okFill_t rfl | exact okSize_t rfl | exact fun h => h | (simp only [World.size_alloc, World.size_drew, World.size_setCell, size_fill, bytesW]; omega)) only [go_sem, c59, c59S0, c59S1, c59L0, entG, intK, idK]
    have hnk := not_in hk hD1 hx hxn
    have hn2 : ((x :: D).map fun x => x.2.2).Nodup := by rw [List.map_cons, List.nodup_cons]; exact ⟨hxn, hD2⟩
    have hDl := nodup_le hn2 fun y hy => by
      rcases List.mem_cons.1 hy with rfl | hy
      · exact hx
      · exact hD1 y hy
    rw [List.length_cons] at hDl
    refine callW_mono (hf _ _ x.1 _ j3 ⟨hnk, List.mem_map_of_mem hx, by rw [List.length_map]; omega⟩) ?_
    rintro _ w5 ⟨rfl, j5⟩
    simp (disch := first | omega | exact okFill_t rfl | exact okSize_t rfl | exact fun h => h | (simp only [World.size_alloc, World.size_drew, World.size_setCell, size_fill, bytesW]; omega)) only [go_sem, c59, c59S0, c59S1, c59L0]
    refine ⟨D ++ [x], ⟨fun y hy => ?_, ?_, ?_⟩, by rw [List.length_append, List.length_singleton]; omega⟩
    · rcases List.mem_append.1 hy with hy | hy
      · exact hD1 y hy
      · rw [List.mem_singleton] at hy; subst hy; exact hx
    · rw [List.map_append, List.nodup_append]
      refine ⟨hD2, List.pairwise_singleton _ _, fun a ha e he => ?_⟩
      rw [List.map_cons, List.map_nil, List.mem_singleton] at he
      subst he
      exact fun h => hxn (h ▸ ha)
    · have e2 : ((D ++ [x]).map fun x => x.2.2).toArray = (D.map fun x => x.2.2).toArray.push x.2.2 := by simp
      have e3 : (D ++ [x]).map Prod.fst = D.map Prod.fst ++ [x.1] := by simp
      rw [e2, e3]
      exact j5
theorem keys_ok (w : World) : Ret Try.prog 38 [.map (some mb)] w fun v w' => v = .func (.func 59) #[] #[.pointer (some ⟨w.heap.size, 0, none⟩)] ∧ w' = w.alloc (.cells #[.map (some mb)] 75) := by
  refine ent38 _ _ _ ?_
  simp (disch := first | omega | exact okFill_t rfl | exact okSize_t rfl | exact fun h => h | (simp only [World.size_alloc, World.size_drew, World.size_setCell, size_fill, bytesW]; omega)) only [go_sem, c38]
theorem appendKeys_ok (h : St W0 w F (.blk bx #[.map (some mb)] 75 :: .obj mb (mapG intK idK d c) :: L) I) (hk : (d.map Prod.fst).Nodup) (hb : (d.map fun x => x.2.2).Nodup) (hc : ∀ x ∈ d, x.2.2 < c) (hd : d.length ≤ 100000) :
    Ret Try.prog 73 [.slice none 0 0, .func (.func 59) #[] #[.pointer (some ⟨bx, 0, none⟩)]] w fun u w' => ∃ ks : List Int, ks.Perm (d.map Prod.fst) ∧ St W0 w' F (.row u 3 1 ks.length (ks.flatMap intE) :: .blk bx #[.map (some mb)] 75 :: .obj mb (mapG intK idK d c) :: L) I := by
  refine ent73 _ _ _ _ ?_
  simp (disch := first | omega | exact okFill_t rfl | exact okSize_t rfl | exact fun h => h | (simp only [World.size_alloc, World.size_drew, World.size_setCell, size_fill, bytesW]; omega)) only [go_sem, c73, c73S0]
  have s1 := (h.nilRow 3 1).box #[.slice none 0 0] 76
  generalize w.heap.size = bs at s1 ⊢
  generalize w.alloc (.cells #[.slice none 0 0] 76) = w1 at s1 ⊢
  refine RangeW_any (β := Value) (fun x : Int => [.int .i64 x]) (fun pre x => x ∉ pre ∧ x ∈ d.map Prod.fst ∧ pre.length < d.length) (fun xs => xs.Perm (d.map Prod.fst)) (fun u pre => .blk bs #[u] 76 :: .row u 3 1 pre.length (pre.flatMap intE) :: .blk bx #[.map (some mb)] 75 :: .obj mb (mapG intK idK d c) :: L) (.slice none 0 0) rfl (by kernel_rfl) s1 rfl (fun _ => rfl) ?_ ?_ ?_
  · intro fv J w2 hJ1 hJ2 hf h0
    refine keys1_ok (mb := mb) fv J w2 (fun R pre w' j => ?_) hJ2 (fun R pre x w' j e => hf R pre x w' j e) hk hb hc h0
    obtain ⟨l, D, o, u, hX⟩ := hJ1 R pre w' j
    exact ⟨(hX.blk 4 rfl).cell 0, hX.obj 5 rfl, .obj l o :: .obj D (.deferred (some [])) :: (.blk bs #[u] 76 :: .row u 3 1 pre.length (pre.flatMap intE) :: .blk bx #[.map (some mb)] 75 :: .obj mb (mapG intK idK d c) :: L), hX⟩
  · intro R u pre x w' l D o o2 hx h1
    obtain ⟨e1, e2, e3⟩ := hx
    simp (disch := first | omega | exact okFill_t rfl | exact okSize_t rfl | exact fun h => h | (simp only [World.size_alloc, World.size_drew, World.size_setCell, size_fill, bytesW]; omega)) only [go_sem, c73, c73A0, c73B0, c73S0, c73A0, c73B0]
    refine ⟨_, h1, fun w2 h2 => ?_⟩
    obtain ⟨ao, co, rfl, _⟩ := own_slice (h2.row 3 rfl)
    have r2 := h2.rules 2 rfl
    simp (disch := first | omega | exact okFill_t rfl | exact okSize_t rfl | exact fun h => h | (simp only [World.size_alloc, World.size_drew, World.size_setCell, size_fill, bytesW]; omega)) only [go_sem, c73, c73A0, c73B0, c73S0, r2]
    refine bsW_ones ty76mkI rfl rfl (Nat.le_of_ble_eq_true rfl) (by simp [intE]) (int_one x) ?_
    have hx : Rd (w2.alloc (.cells (intE x).toArray 3)) 1 (.slice (some ⟨w2.heap.size, 0, none⟩) 1 1) 1 (intE x) := rd_new (n := 1) (cs := (intE x).toArray) rfl
    simp (disch := first | omega | exact okFill_t rfl | exact okSize_t rfl | exact fun h => h | (simp only [World.size_alloc, World.size_drew, World.size_setCell, size_fill, bytesW]; omega)) only [go_sem, c73, c73A0, c73B0, c73S0]
    refine (h2.alloc' (.cells (intE x).toArray 3)).append 3 rfl ty76mkI rfl (by decide) hx (int_one x) (by omega) (by omega) ?_
    intro u' w4 s4 _
    obtain ⟨ao', co', rfl, _⟩ := own_slice (s4.row 3 rfl)
    have r4 := s4.rules 2 rfl
    have s5 := s4.set 2 rfl 0 (.slice ao' (pre.length + 1) co')
    simp (disch := first | omega | exact okFill_t rfl | exact okSize_t rfl | exact fun h => h | (simp only [World.size_alloc, World.size_drew, World.size_setCell, size_fill, bytesW]; omega)) only [go_sem, c73, c73A0, c73B0, c73S0, r4]
    refine ⟨.slice ao' (pre.length + 1) co', st_recast s5 ?_⟩
    rw [List.length_append, List.flatMap_append, List.flatMap_singleton]
    rfl
  · intro xs u D w' hG h1
    obtain ⟨ao, co, rfl, _⟩ := own_slice (h1.row 2 rfl)
    have r1 := h1.rules 1 rfl
    have hD := h1.obj 0 rfl
    simp (disch := first | omega | exact okFill_t rfl | exact okSize_t rfl | exact fun h => h | (simp only [World.size_alloc, World.size_drew, World.size_setCell, size_fill, bytesW]; omega)) only [go_sem, c73, c73A0, c73B0, c73S0, r1, hD]
    refine ⟨xs, hG, ?_⟩
    exact ((h1.putObj 0 rfl (.deferred none)).sub (L' := .row (.slice ao xs.length co) 3 1 xs.length (xs.flatMap intE) :: .blk bx #[.map (some mb)] 75 :: .obj mb (mapG intK idK d c) :: L) (by simp))
theorem collect_ok {d : List (Int × Value × Nat)} {c bx : Nat} (h : St W0 w F (.blk bx #[.map (some mb)] 75 :: .obj mb (mapG intK idK d c) :: L) I) (hk : (d.map Prod.fst).Nodup) (hb : (d.map fun x => x.2.2).Nodup) (hc : ∀ x ∈ d, x.2.2 < c) (hd : d.length ≤ 100000) :
    Ret Try.prog 57 [.func (.func 59) #[] #[.pointer (some ⟨bx, 0, none⟩)]] w fun u w' => ∃ ks : List Int, ks.Perm (d.map Prod.fst) ∧ St W0 w' F (.row u 3 1 ks.length (ks.flatMap intE) :: .blk bx #[.map (some mb)] 75 :: .obj mb (mapG intK idK d c) :: L) I := by
  refine ent57 _ _ _ ?_
  simp (disch := first | omega | exact okFill_t rfl | exact okSize_t rfl | exact fun h => h | (simp only [World.size_alloc, World.size_drew, World.size_setCell, size_fill, bytesW]; omega)) only [go_sem, c57, c57S0]
  refine Ret.mono (appendKeys_ok h hk hb hc hd) ?_
  rintro u w2 ⟨ks, hp, s2⟩
  obtain ⟨ao, co, rfl, _⟩ := own_slice (s2.row 0 rfl)
  simp (disch := first | omega | exact okFill_t rfl | exact okSize_t rfl | exact fun h => h | (simp only [World.size_alloc, World.size_drew, World.size_setCell, size_fill, bytesW]; omega)) only [go_sem, c57, c57S0]
  exact ⟨ks, hp, s2⟩
theorem sortedK_ok {d : List (Int × Value × Nat)} {c bx : Nat} (h : St W0 w F (.blk bx #[.map (some mb)] 75 :: .obj mb (mapG intK idK d c) :: L) I) (hk : (d.map Prod.fst).Nodup) (hb : (d.map fun x => x.2.2).Nodup) (hc : ∀ x ∈ d, x.2.2 < c) (hd : d.length ≤ 100000) :
    Ret Try.prog 37 [.func (.func 59) #[] #[.pointer (some ⟨bx, 0, none⟩)]] w fun u w' => ∃ ts : List Int, ts.Perm (d.map Prod.fst) ∧ ts.Pairwise (· ≤ ·) ∧ St W0 w' F (.row u 3 1 ts.length (ts.flatMap intE) :: .blk bx #[.map (some mb)] 75 :: .obj mb (mapG intK idK d c) :: L) I := by
  refine ent37 _ _ _ ?_
  simp (disch := first | omega | exact okFill_t rfl | exact okSize_t rfl | exact fun h => h | (simp only [World.size_alloc, World.size_drew, World.size_setCell, size_fill, bytesW]; omega)) only [go_sem, c37, c37S0, c37S1]
  refine Ret.mono (collect_ok h hk hb hc hd) ?_
  rintro u w2 ⟨ks, hp, s2⟩
  have hkl : ks.length = d.length := by rw [hp.length_eq, List.length_map]
  obtain ⟨ao, co, rfl, _⟩ := own_slice (s2.row 0 rfl)
  have gS : goFunc Try.prog 58 = true := by kernel_rfl
  simp (disch := first | omega | exact okFill_t rfl | exact okSize_t rfl | exact fun h => h | (simp only [World.size_alloc, World.size_drew, World.size_setCell, size_fill, bytesW]; omega)) only [go_sem, c37, c37S0, c37S1, gS]
  refine Ret.mono (sortI_ok s2 (by omega)) ?_
  rintro _ w3 ⟨rfl, ts, ⟨h1, h2⟩, s3⟩
  simp (disch := first | omega | exact okFill_t rfl | exact okSize_t rfl | exact fun h => h | (simp only [World.size_alloc, World.size_drew, World.size_setCell, size_fill, bytesW]; omega)) only [go_sem, c37, c37S0, c37S1]
  exact ⟨ts, h1.trans hp, h2, by rw [h1.length_eq]; exact s3⟩
end
end Go.Proofs.Ytmdhcpghofadcaa

namespace Go.Proofs.Ytmdhcpghofadcaa
set_option linter.unusedSimpArgs false
set_option linter.unusedVariables false
set_option maxRecDepth 100000
open Go Go.Ann Go.RowKit Go.WideShapes Go.Shelf
def rowO (t : List OpT) (p : Int) (v : Value) : Res := .row v 23 11 (ofProc p t).length ((ofProc p t).flatMap OpT.enc)
def rowsO (t : List OpT) (d : List (Int × Value × Nat)) : List Res := d.map fun x => rowO t x.1 x.2.1
theorem ofProc_one (x : Int) (t : List OpT) (o : OpT) : ofProc x (t ++ [o]) = ofProc x t ++ if o.Proc = x then [o] else [] := by
  unfold ofProc
  rw [List.filter_append]
  by_cases h : o.Proc = x <;> simp [h]
theorem rowO_other {t : List OpT} {o : OpT} {p : Int} (h : o.Proc ≠ p) (v : Value) : rowO (t ++ [o]) p v = rowO t p v := by
  unfold rowO
  rw [ofProc_one, if_neg h, List.append_nil]
theorem rows_other {t : List OpT} {o : OpT} {d : List (Int × Value × Nat)} (h : ∀ x ∈ d, o.Proc ≠ x.1) : rowsO (t ++ [o]) d = rowsO t d := by
  unfold rowsO
  exact List.map_congr_left fun x hx => rowO_other (h x hx) _
theorem rows_some {t : List OpT} {o : OpT} {v : Value} : ∀ {d : List (Int × Value × Nat)}, (d.map Prod.fst).Nodup → getM o.Proc d = some v → ∃ R, (rowsO t d).Perm (rowO t o.Proc v :: R) ∧ ∀ v' c, (rowO (t ++ [o]) o.Proc v' :: R).Perm (rowsO (t ++ [o]) (setM o.Proc v' c d))
  | [], _, h => by cases h
  | x :: d, hn, h => by
    rw [List.map_cons, List.nodup_cons] at hn
    simp only [getM] at h
    by_cases e : o.Proc = x.1
    · rw [if_pos e] at h
      simp only [Option.some.injEq] at h
      refine ⟨rowsO t d, by unfold rowsO; rw [List.map_cons, e, h], fun v' c => ?_⟩
      rw [show setM o.Proc v' c (x :: d) = (x.1, v', x.2.2) :: d from if_pos e]
      have : rowsO (t ++ [o]) d = rowsO t d := rows_other fun y hy e2 => hn.1 (by rw [← e, e2]; exact List.mem_map_of_mem hy)
      show (_ :: _).Perm (rowO (t ++ [o]) x.1 v' :: rowsO (t ++ [o]) d)
      rw [this, e]
    · rw [if_neg e] at h
      obtain ⟨R, h1, h2⟩ := rows_some hn.2 h
      refine ⟨rowO t x.1 x.2.1 :: R, (h1.cons _).trans (List.Perm.swap ..), fun v' c => ?_⟩
      rw [show setM o.Proc v' c (x :: d) = x :: setM o.Proc v' c d from if_neg e]
      show (_ :: _).Perm (rowO (t ++ [o]) x.1 x.2.1 :: rowsO (t ++ [o]) (setM o.Proc v' c d))
      rw [rowO_other e]
      exact (List.Perm.swap ..).trans ((h2 v' c).cons _)
theorem getM_none {p : Int} : ∀ {d : List (Int × Value × Nat)}, getM p d = none → ∀ x ∈ d, p ≠ x.1
  | [], _, _, h => by cases h
  | y :: d, h, x, hx => by
    simp only [getM] at h
    by_cases e : p = y.1
    · rw [if_pos e] at h; cases h
    · rw [if_neg e] at h
      rcases List.mem_cons.1 hx with rfl | hx
      · exact e
      · exact getM_none h x hx
theorem setM_none {p : Int} {v : Value} {c : Nat} : ∀ {d : List (Int × Value × Nat)}, getM p d = none → setM p v c d = d ++ [(p, v, c)]
  | [], _ => rfl
  | y :: d, h => by
    simp only [getM] at h
    by_cases e : p = y.1
    · rw [if_pos e] at h; cases h
    · rw [if_neg e] at h
      rw [show setM p v c (y :: d) = y :: setM p v c d from if_neg e, setM_none h]; rfl
theorem rows_none {t : List OpT} {o : OpT} {d : List (Int × Value × Nat)} (h : getM o.Proc d = none) (v' : Value) (c : Nat) : (rowO (t ++ [o]) o.Proc v' :: rowsO t d).Perm (rowsO (t ++ [o]) (setM o.Proc v' c d)) := by
  rw [setM_none h]
  unfold rowsO
  rw [List.map_append]
  have := rows_other (t := t) (o := o) (d := d) (getM_none h)
  unfold rowsO at this
  rw [this]
  exact (List.perm_append_singleton _ _).symm
theorem getM_key {p : Int} {v : Value} : ∀ {d : List (Int × Value × Nat)}, getM p d = some v → ∃ x ∈ d, x.1 = p ∧ x.2.1 = v
  | [], h => by cases h
  | y :: d, h => by
    simp only [getM] at h
    by_cases e : p = y.1
    · rw [if_pos e] at h
      exact ⟨y, List.mem_cons_self, e.symm, Option.some.inj h⟩
    · rw [if_neg e] at h
      obtain ⟨x, hx, h1⟩ := getM_key h
      exact ⟨x, List.mem_cons_of_mem _ hx, h1⟩
theorem getM_mem {d : List (Int × Value × Nat)} (hn : (d.map Prod.fst).Nodup) {x : Int × Value × Nat} (hx : x ∈ d) : getM x.1 d = some x.2.1 := by
  induction d with
  | nil => cases hx
  | cons y d ih =>
    rw [List.map_cons, List.nodup_cons] at hn
    simp only [getM]
    rcases List.mem_cons.1 hx with rfl | hx
    · rw [if_pos rfl]
    · rw [if_neg fun e => hn.1 (by rw [← e]; exact List.mem_map_of_mem hx), ih hn.2 hx]
structure ByM (t : List OpT) (d : List (Int × Value × Nat)) (c : Nat) : Prop where
  nd : (d.map Prod.fst).Nodup
  bn : (d.map fun x => x.2.2).Nodup
  lt : ∀ x ∈ d, x.2.2 < c
  mem : ∀ p, p ∈ d.map Prod.fst ↔ ∃ o ∈ t, o.Proc = p
  few : d.length ≤ t.length
theorem setM_keys {p : Int} {v v0 : Value} {c : Nat} : ∀ {d : List (Int × Value × Nat)}, getM p d = some v0 → (setM p v c d).map Prod.fst = d.map Prod.fst ∧ (setM p v c d).map (fun x => x.2.2) = d.map fun x => x.2.2
  | [], h => by cases h
  | y :: d, h => by
    simp only [getM] at h
    by_cases e : p = y.1
    · rw [show setM p v c (y :: d) = (y.1, v, y.2.2) :: d from if_pos e]; exact ⟨rfl, rfl⟩
    · rw [if_neg e] at h
      obtain ⟨h1, h2⟩ := setM_keys (v := v) (c := c) h
      rw [show setM p v c (y :: d) = y :: setM p v c d from if_neg e]
      simp only [List.map_cons, h1, h2, and_self]
theorem ByM.step {t : List OpT} {d : List (Int × Value × Nat)} {c : Nat} (h : ByM t d c) (o : OpT) (v : Value) : ByM (t ++ [o]) (setM o.Proc v c d) (if (getM o.Proc d).isSome then c else c + 1) := by
  cases hg : getM o.Proc d with
  | some v0 =>
    obtain ⟨h1, h2⟩ := setM_keys (v := v) (c := c) hg
    simp only [Option.isSome_some, if_true]
    obtain ⟨y, hy, hy1, _⟩ := getM_key hg
    refine ⟨by rw [h1]; exact h.nd, by rw [h2]; exact h.bn, fun x hx => ?_, fun p => ?_, ?_⟩
    · have : x.2.2 ∈ (setM o.Proc v c d).map fun x => x.2.2 := List.mem_map_of_mem (f := fun x : Int × Value × Nat => x.2.2) hx
      rw [h2] at this
      obtain ⟨z, hz, e⟩ := List.mem_map.1 this
      rw [← e]; exact h.lt z hz
    · rw [h1, h.mem]
      constructor
      · rintro ⟨a, ha, e⟩; exact ⟨a, List.mem_append_left _ ha, e⟩
      · rintro ⟨a, ha, e⟩
        rcases List.mem_append.1 ha with ha | ha
        · exact ⟨a, ha, e⟩
        · rw [List.mem_singleton] at ha; subst ha
          exact (h.mem p).1 (by rw [← e, ← hy1]; exact List.mem_map_of_mem hy)
    · have := congrArg List.length h1
      rw [List.length_map, List.length_map] at this
      rw [this, List.length_append]; have := h.few; omega
  | none =>
    rw [setM_none hg]
    simp only [Option.isSome_none, Bool.false_eq_true, if_false]
    refine ⟨?_, ?_, fun x hx => ?_, fun p => ?_, by simp only [List.length_append, List.length_singleton]; have := h.few; omega⟩
    · rw [List.map_append, List.nodup_append]
      refine ⟨h.nd, List.pairwise_singleton _ _, fun a ha b hb e => ?_⟩
      simp only [List.map_cons, List.map_nil, List.mem_singleton] at hb
      obtain ⟨x, hx, rfl⟩ := List.mem_map.1 ha
      exact getM_none hg x hx (by rw [e, hb])
    · rw [List.map_append, List.nodup_append]
      refine ⟨h.bn, List.pairwise_singleton _ _, fun a ha b hb e => ?_⟩
      simp only [List.map_cons, List.map_nil, List.mem_singleton] at hb
      obtain ⟨x, hx, rfl⟩ := List.mem_map.1 ha
      have := h.lt x hx
      omega
    · rcases List.mem_append.1 hx with hx | hx
      · have := h.lt x hx; omega
      · rw [List.mem_singleton] at hx; subst hx; exact Nat.lt_succ_self _
    · rw [List.map_append, List.mem_append, h.mem]
      constructor
      · rintro (⟨a, ha, e⟩ | hp)
        · exact ⟨a, List.mem_append_left _ ha, e⟩
        · simp only [List.map_cons, List.map_nil, List.mem_singleton] at hp
          exact ⟨o, by simp, hp.symm⟩
      · rintro ⟨a, ha, e⟩
        rcases List.mem_append.1 ha with ha | ha
        · exact .inl ⟨a, ha, e⟩
        · rw [List.mem_singleton] at ha; subst ha; exact .inr (by simp [e])
end Go.Proofs.Ytmdhcpghofadcaa

namespace Go.Proofs.Ytmdhcpghofadcaa
set_option linter.unusedSimpArgs false
set_option linter.unusedVariables false
set_option maxRecDepth 100000
open Go Go.Ann Go.RowKit Go.WideShapes Go.Shelf
theorem progs1_ok (a b : OpT) (w : World) : Ret Try.prog 40 [.agg a.enc.toArray, .agg b.enc.toArray] w fun u w' => u = .int .i64 (earI a b) ∧ Gr w w' := by
  refine ent40 _ _ _ _ ?_
  have ha := a.at; have hb := b.at
  simp (disch := first | omega | exact okFill_t rfl | exact okSize_t rfl | exact fun h => h | (simp only [World.size_alloc, World.size_drew, World.size_setCell, size_fill, bytesW]; omega)) only [go_sem, c40, c40S0, ha, hb]
  refine c40draw0 (Chg (fun _ => False) _) (Chg.refl _ _) ?_
  simp (disch := first | omega | exact okFill_t rfl | exact okSize_t rfl | exact fun h => h | (simp only [World.size_alloc, World.size_drew, World.size_setCell, size_fill, bytesW]; omega)) only [go_sem, c40, c40S0, c40D0, ha, hb]
  refine Ret.mono (compare_ok _ _ _) ?_
  rintro _ _ ⟨rfl, rfl⟩
  simp (disch := first | omega | exact okFill_t rfl | exact okSize_t rfl | exact fun h => h | (simp only [World.size_alloc, World.size_drew, World.size_setCell, size_fill, bytesW]; omega)) only [go_sem, c40, c40S0, c40D0, ha, hb]
  refine Ret.mono (compare_ok _ _ _) ?_
  rintro _ _ ⟨rfl, rfl⟩
  simp (disch := first | omega | exact okFill_t rfl | exact okSize_t rfl | exact fun h => h | (simp only [World.size_alloc, World.size_drew, World.size_setCell, size_fill, bytesW]; omega)) only [go_sem, c40, c40S0, c40D0, ha, hb]
  refine bsW_ones ty76mkI rfl rfl (by decide) (by decide) (by intro v hv; simp only [List.mem_cons, List.not_mem_nil, or_false] at hv; rcases hv with rfl | rfl <;> rfl) ?_
  simp (disch := first | omega | exact okFill_t rfl | exact okSize_t rfl | exact fun h => h | (simp only [World.size_alloc, World.size_drew, World.size_setCell, size_fill, bytesW]; omega)) only [go_sem, c40, c40S0, c40D0, ha, hb]
  refine ⟨chg_da, Ret.mono (or_ok _ [cmpI a.Invoke b.Invoke, cmpI a.ID b.ID] _ ((ints2_new _ _ (by simp)).below (Below.refl _ _).drew (by decide)) (by simp)) ?_⟩
  rintro _ _ ⟨rfl, rfl⟩
  simp (disch := first | omega | exact okFill_t rfl | exact okSize_t rfl | exact fun h => h | (simp only [World.size_alloc, World.size_drew, World.size_setCell, size_fill, bytesW]; omega)) only [go_sem, c40, c40S0, c40D0, ha, hb]
  exact ⟨chg_da, rfl, (((((Gr.refl w).alloc _).alloc _)).alloc _).drew⟩
def oneE (v : Value) : List Value := [v]
theorem flatMap_one (vs : List Value) : vs.flatMap oneE = vs := by
  induction vs with
  | nil => rfl
  | cons v vs ih => rw [List.flatMap_cons, ih]; rfl
structure Progs (w : World) (B : Nat) (u : Value) (acc : List Seg) (vs : List Value) : Prop where
  len : vs.length = acc.length
  top : RdS w 1 oneE u vs
  elt : ∀ (j : Nat) (s : Seg) (v : Value), acc[j]? = some s → vs[j]? = some v → RdS w 11 OpT.enc v s.ops ∧ s.ops.length ≤ 100
  newT : ∀ k, slFoot u k → B ≤ k
  newE : ∀ v ∈ vs, ∀ k, slFoot v k → B ≤ k
def frz (w1 : World) (B : Nat) : Inv where
  holds w' := ∀ k, B ≤ k → k < w1.heap.size → w'.heap[k]? = w1.heap[k]?
  foot k := B ≤ k ∧ k < w1.heap.size
  loc w w' h hs := fun k h1 h2 => (hs k ⟨h1, h2⟩).trans (h k h1 h2)
theorem Progs.frz {w1 w' : World} {B : Nat} {u : Value} {acc : List Seg} {vs : List Value} (h : Progs w1 B u acc vs) (hf : (frz w1 B).holds w') : Progs w' B u acc vs :=
  ⟨h.len, (Inv.rd 1 oneE u vs).loc w1 w' h.top fun k hk => hf k (h.newT k hk) (h.top.footLt (by decide) hk),
    fun j s v hs hv => ⟨(Inv.rd 11 OpT.enc v s.ops).loc w1 w' (h.elt j s v hs hv).1 fun k hk => hf k (h.newE v (List.mem_of_getElem? hv) k hk) ((h.elt j s v hs hv).1.footLt (by decide) hk), (h.elt j s v hs hv).2⟩, h.newT, h.newE⟩
theorem rowsO_keys {l : List OpT} {d : List (Int × Value × Nat)} {ks : List Int} (hn : (d.map Prod.fst).Nodup) (hp : ks.Perm (d.map Prod.fst)) : (ks.map fun p => rowO l p ((getM p d).getD (.slice none 0 0))).Perm (rowsO l d) := by
  refine (hp.map _).trans ?_
  rw [List.map_map]
  unfold rowsO
  refine List.Perm.of_eq (List.map_congr_left fun x hx => ?_)
  simp only [Function.comp]
  rw [getM_mem hn hx]; rfl
theorem progs7 {W0 w2 : World} {l : List OpT} {mb cl : Nat} {d : List (Int × Value × Nat)} (hM : ByM l d cl) (s2 : St W0 w2 (fun _ => False) (.obj mb (mapG intK idK d cl) :: rowsO l d) []) (hl : l.length ≤ 100) :
    W Try.prog (c24S7 ()) [(3, .map (some mb))] w2 (finQ Try.prog [.tmp 2] fun u w' => (∃ acc vs, ByProc l acc ∧ Progs w' W0.heap.size u acc vs) ∧ Below W0.heap.size W0 w') := by
  simp (disch := first | omega | exact okFill_t rfl | exact okSize_t rfl | exact fun h => h | (simp only [World.size_alloc, World.size_drew, World.size_setCell, size_fill, bytesW]; omega)) only [go_sem, c24, c24S0, c24S1, c24L0, c24S2, c24S3, c24S4, c24L1, c24S6, c24S7]
  refine Ret.mono (keys_ok w2) ?_
  rintro _ _ ⟨rfl, rfl⟩
  have s3 := s2.box #[.map (some mb)] 75
  generalize w2.heap.size = bx at s3 ⊢
  generalize w2.alloc (.cells #[.map (some mb)] 75) = w3 at s3 ⊢
  simp (disch := first | omega | exact okFill_t rfl | exact okSize_t rfl | exact fun h => h | (simp only [World.size_alloc, World.size_drew, World.size_setCell, size_fill, bytesW]; omega)) only [go_sem, c24, c24S0, c24S1, c24L0, c24S2, c24S3, c24S4, c24L1, c24S6, c24S7]
  have hdl := hM.few
  refine Ret.mono (sortedK_ok s3 hM.nd hM.bn hM.lt (by omega)) ?_
  rintro u w4 ⟨ks, hp, hord, s4⟩
  have hkl : ks.length = d.length := by rw [hp.length_eq, List.length_map]
  obtain ⟨au, cu, rfl, _⟩ := own_slice (s4.row 0 rfl)
  have hnd : ks.Nodup := hp.nodup_iff.2 hM.nd
  have hup : ks.Pairwise (· < ·) := by
    have := hord.and hnd
    exact this.imp fun h => by have := h.1; have := h.2; omega
  have hmem : ∀ p, p ∈ ks ↔ ∃ o ∈ l, o.Proc = p := fun p => by rw [hp.mem_iff]; exact hM.mem p
  have s5 := (s4.perm (L' := .blk bx #[.map (some mb)] 75 :: .row (.slice au ks.length cu) 3 1 ks.length (ks.flatMap intE) :: .obj mb (mapG intK idK d cl) :: (ks.map fun p => rowO l p ((getM p d).getD (.slice none 0 0)))) ((List.Perm.swap ..).trans ((((rowsO_keys hM.nd hp).cons _).cons _).cons _))).sub (List.sublist_cons_self ..)
  have s6 := s5.nilRow 27 1
  clear s2 s3 s4 s5
  simp (disch := first | omega | exact okFill_t rfl | exact okSize_t rfl | exact fun h => h | (simp only [World.size_alloc, World.size_drew, World.size_setCell, size_fill, bytesW]; omega)) only [go_sem, c24, c24S0, c24S1, c24L0, c24S2, c24S3, c24S4, c24L1, c24S5, c24S6, c24S7]
  refine W_loopU (fun x : Nat × Value => [(6, x.2), (31, .int .i64 x.1)]) (fun x w' => x.1 ≤ ks.length ∧ ∃ acc vs, vs.length = acc.length ∧ acc.map Seg.obj = ks.take x.1 ∧ (∀ s ∈ acc, Sorts earI (ofProc s.obj l) s.ops) ∧ (∀ s ∈ acc, ∃ o r, s.ops = o :: r ∧ s.kind = o.Kind) ∧ (∀ v ∈ vs, ∀ k, slFoot v k → W0.heap.size ≤ k) ∧ St W0 w' (fun _ => False) (.row x.2 27 1 acc.length vs :: .row (.slice au ks.length cu) 3 1 ks.length (ks.flatMap intE) :: .obj mb (mapG intK idK d cl) :: ((ks.drop x.1).map fun p => rowO l p ((getM p d).getD (.slice none 0 0)))) (segInvs acc vs)) (fun x => ks.length - x.1) (0, .slice none 0 0) rfl ⟨Nat.zero_le _, [], [], rfl, rfl, (fun s h => by cases h), (fun s h => by cases h), (fun v h => by cases h), s6⟩ ?_
  rintro ⟨i, vo⟩ w5 ⟨hi, acc, vs, hvs, hobj, hsorts, hkind, hnew, s7⟩
  simp only at hi hobj s7
  have hal : acc.length = i := by have := congrArg List.length hobj; rw [List.length_map, List.length_take] at this; omega
  by_cases hlt : i < ks.length
  · have hlt' : (i : Int) < ks.length := by omega
    have hR : RdS w5 1 intE (.slice au ks.length cu) ks := RdS.of_own (s7.row 1 rfl)
    obtain ⟨q, rfl⟩ := hR.ptr (by omega)
    have ek := hR.at1 (e1 := fun n => .int .i64 n) hlt
    obtain ⟨p, hpe⟩ : ∃ p, p = ks[i] := ⟨_, rfl⟩
    have hpm : p ∈ ks := by rw [hpe]; exact List.getElem_mem hlt
    obtain ⟨x, hx, hxe⟩ := List.mem_map.1 (hp.mem_iff.1 hpm)
    have hg : getM p d = some x.2.1 := by rw [← hxe]; exact getM_mem hM.nd hx
    obtain ⟨v, hv⟩ : ∃ v, v = x.2.1 := ⟨_, rfl⟩
    rw [← hv] at hg
    rw [← hpe] at ek
    have hdr : ks.drop i = p :: ks.drop (i + 1) := by rw [hpe]; exact List.drop_eq_getElem_cons hlt
    rw [hdr, List.map_cons, hg] at s7
    change St W0 w5 (fun _ => False) (_ :: _ :: _ :: rowO l p v :: _) _ at s7
    have hol := ofProc_len p l
    simp (disch := first | omega | exact okFill_t rfl | exact okSize_t rfl | exact fun h => h | (simp only [World.size_alloc, World.size_drew, World.size_setCell, size_fill, bytesW]; omega)) only [go_sem, c24, c24S0, c24S1, c24L0, c24S2, c24S3, c24S4, c24L1, c24S5, c24S6, c24S7, hlt', ek]
    refine ⟨by omega, luG_map (ek := intK) (ev := idK) keyT_i Try.underlying75 (s7.obj 2 rfl) p (by rfl) ?_⟩
    rw [hg]
    simp (disch := first | omega | exact okFill_t rfl | exact okSize_t rfl | exact fun h => h | (simp only [World.size_alloc, World.size_drew, World.size_setCell, size_fill, bytesW]; omega)) only [go_sem, c24, c24S0, c24S1, c24L0, c24S2, c24S3, c24S4, c24L1, c24S5, c24S6, c24S7, luG, idK]
    refine Ret.mono (sort_ok earI _ (enters_of Try.func40 (by kernel_rfl) rfl) swo_ear progs1_ok v (ofProc p l) w5 _ (s7.row 3 rfl) (by omega)) ?_
    rintro _ w6 ⟨l', hs, o6, c6⟩
    have s8 := s7.upd 3 rfl c6 (.row v 23 11 (ofProc p l).length (l'.flatMap OpT.enc)) o6 fun k hk => .inl hk
    have hll : l'.length = (ofProc p l).length := hs.1.length_eq
    simp only [List.set_cons_succ, List.set_cons_zero] at s8
    have s9 := s8.perm (L' := .row v 23 11 (ofProc p l).length (l'.flatMap OpT.enc) :: .row vo 27 1 acc.length vs :: .row (.slice (some q) ks.length cu) 3 1 ks.length (ks.flatMap intE) :: .obj mb (mapG intK idK d cl) :: ((ks.drop (i + 1)).map fun p => rowO l p ((getM p d).getD (.slice none 0 0)))) ((List.Perm.swap ..).trans (((List.Perm.swap ..).trans ((List.Perm.swap ..).cons _)).cons _))
    have s10 := s9.seal (.rd 11 OpT.enc v l') (RdS.of_own' (s9.row 0 rfl) l' hll.symm rfl) fun k hk => slFoot_own hk
    clear s7 s8 s9 c6
    simp (disch := first | omega | exact okFill_t rfl | exact okSize_t rfl | exact fun h => h | (simp only [World.size_alloc, World.size_drew, World.size_setCell, size_fill, bytesW]; omega)) only [go_sem, c24, c24S0, c24S1, c24L0, c24S2, c24S3, c24S4, c24L1, c24S5, c24S6, c24S7]
    refine luG_map (ek := intK) (ev := idK) keyT_i Try.underlying75 (s10.obj 2 rfl) p (by rfl) ?_
    rw [hg]
    simp (disch := first | omega | exact okFill_t rfl | exact okSize_t rfl | exact fun h => h | (simp only [World.size_alloc, World.size_drew, World.size_setCell, size_fill, bytesW]; omega)) only [go_sem, c24, c24S0, c24S1, c24L0, c24S2, c24S3, c24S4, c24L1, c24S5, c24S6, c24S7, luG, idK]
    refine bsW_ones ty35mkI rfl rfl (by decide) (by decide) (by intro u hu; rw [List.mem_singleton] at hu; subst hu; obtain ⟨a, b, rfl, _⟩ := own_slice o6; rfl) ?_
    have s11 := s10.alloc' (.cells #[v] 27)
    have hrd : Rd (w6.alloc (.cells #[v] 27)) 1 (.slice (some ⟨w6.heap.size, 0, none⟩) 1 1) 1 [v] := rd_new (t := 27) (sz := 1) (n := 1) (cs := #[v]) rfl
    simp (disch := first | omega | exact okFill_t rfl | exact okSize_t rfl | exact fun h => h | (simp only [World.size_alloc, World.size_drew, World.size_setCell, size_fill, bytesW]; omega)) only [go_sem, c24, c24S0, c24S1, c24L0, c24S2, c24S3, c24S4, c24L1, c24S5, c24S6, c24S7]
    generalize w6.alloc (.cells #[v] 27) = w7 at s11 hrd ⊢
    refine s11.append 0 rfl ty35mkI rfl (by decide) hrd (by intro u hu; rw [List.mem_singleton] at hu; subst hu; obtain ⟨a, b, rfl, _⟩ := own_slice o6; rfl) (by omega) (by omega) ?_
    intro v8 w8 s12 _
    simp only [List.set_cons_zero] at s12
    simp (disch := first | omega | exact okFill_t rfl | exact okSize_t rfl | exact fun h => h | (simp only [World.size_alloc, World.size_drew, World.size_setCell, size_fill, bytesW]; omega)) only [go_sem, c24, c24S0, c24S1, c24L0, c24S2, c24S3, c24S4, c24L1, c24S5, c24S6, c24S7]
    obtain ⟨o, ho, hop⟩ := (hmem p).1 hpm
    have hne : l' ≠ [] := fun e => by
      have hm : o ∈ ofProc p l := by unfold ofProc; rw [List.mem_filter]; exact ⟨ho, by simpa using hop⟩
      rw [e] at hll
      rw [List.eq_nil_of_length_eq_zero hll.symm] at hm
      cases hm
    obtain ⟨y, r, rfl⟩ := List.exists_cons_of_ne_nil hne
    refine ⟨⟨by omega, by omega⟩, (i + 1, v8), rfl, ⟨by simp only; omega, acc ++ [⟨p, y.Kind, y :: r⟩], vs ++ [v], by simp [hvs], ?_, fun s hm => ?_, fun s hm => ?_, fun x hm => ?_, ?_⟩, by simp only; omega⟩
    · rw [List.map_append, hobj, List.take_succ_eq_append_getElem hlt, hpe]; rfl
    · rcases List.mem_append.1 hm with hm | hm
      · exact hsorts s hm
      · rw [List.mem_singleton] at hm; subst hm; exact hs
    · rcases List.mem_append.1 hm with hm | hm
      · exact hkind s hm
      · rw [List.mem_singleton] at hm; subst hm; exact ⟨y, r, rfl, rfl⟩
    · rcases List.mem_append.1 hm with hm | hm
      · exact hnew x hm
      · rw [List.mem_singleton] at hm; subst hm
        exact fun k hk => (o6.lt k (slFoot_own hk)).1
    · simp only
      rw [List.length_append, List.length_singleton]
      refine St.inv_sub s12 fun a ha => ?_
      rcases (segInvs_snoc acc vs _ _ hvs a).1 ha with rfl | ha
      · exact List.mem_cons_self
      · exact List.mem_cons_of_mem _ ha
  · have hlt' : ¬ (i : Int) < ks.length := by omega
    have hii : i = ks.length := by omega
    subst hii
    rw [List.take_length] at hobj
    simp (disch := first | omega | exact okFill_t rfl | exact okSize_t rfl | exact fun h => h | (simp only [World.size_alloc, World.size_drew, World.size_setCell, size_fill, bytesW]; omega)) only [go_sem, c24, c24S0, c24S1, c24L0, c24S2, c24S3, c24S4, c24L1, c24S5, c24S6, c24S7, hlt']
    have o7 := s7.row 0 rfl
    rw [← hvs] at o7
    refine ⟨⟨acc, vs, ⟨?_, hsorts, hkind, fun o ho => ?_⟩, hvs, RdS.of_own' o7 vs rfl (flatMap_one vs).symm, fun j s v hs hv => ⟨(s7.inv _ (segInvs_mem acc vs j s v hs hv)).1, ?_⟩, fun k hk => (o7.lt k (slFoot_own hk)).1, hnew⟩, s7.bel⟩
    · rw [← List.pairwise_map (f := Seg.obj) (R := (· < ·)), hobj]; exact hup
    · have := (hmem o.Proc).2 ⟨o, ho, rfl⟩
      rw [← hobj] at this
      obtain ⟨s, hs, e⟩ := List.mem_map.1 this
      exact ⟨s, hs, e⟩
    · have e1 := (hsorts s (List.mem_of_getElem? hs)).1.length_eq
      have e2 := ofProc_len s.obj l
      omega
theorem programs_ok (v : Value) (l : List OpT) (w : World) (h : RdS w 11 OpT.enc v l) (hl : l.length ≤ 100) :
    Ret Try.prog 24 [v] w fun u w' => (∃ acc vs, ByProc l acc ∧ Progs w' w.heap.size u acc vs) ∧ Below w.heap.size w w' := by
  obtain ⟨a, c, rfl, _⟩ := h.form
  refine ent24 _ _ _ ?_
  simp (disch := first | omega | exact okFill_t rfl | exact okSize_t rfl | exact fun h => h | (simp only [World.size_alloc, World.size_drew, World.size_setCell, size_fill, bytesW]; omega)) only [go_sem, c24, c24S0, c24S1, c24S2, c24S3, c24S4, c24L1, c24S5, c24S6]
  refine mmG (ek := intK) (ev := idK) ?_
  have s1 := (St.start (W0 := w)).lay (mapG intK idK [] 0)
  generalize hw1 : w.alloc (mapG intK idK [] 0) = w1 at s1 ⊢
  generalize hmb : w.heap.size = mb at s1 ⊢
  simp (disch := first | omega | exact okFill_t rfl | exact okSize_t rfl | exact fun h => h | (simp only [World.size_alloc, World.size_drew, World.size_setCell, size_fill, bytesW]; omega)) only [go_sem, c24, c24S0, c24S1, c24S2, c24S3, c24S4, c24L1, c24S5, c24S6]
  refine W_loopU (fun k : Nat => [(12, .int .i64 k)]) (fun k w' => k ≤ l.length ∧ ∃ d c, ByM (l.take k) d c ∧ St w w' (fun _ => False) (.obj mb (mapG intK idK d c) :: rowsO (l.take k) d) []) (fun k => l.length - k) 0 rfl ⟨Nat.zero_le _, [], 0, ⟨List.Pairwise.nil, List.Pairwise.nil, (fun x hx => by cases hx), (fun p => by simp), Nat.zero_le _⟩, s1⟩ ?_
  rintro k w2 ⟨hk, d, cl, hM, s2⟩
  by_cases hlt : k < l.length
  · have hlt' : (k : Int) < l.length := by omega
    obtain ⟨q, rfl⟩ := h.ptr (by omega)
    have ek := h.eltB s2.bel OpT.len (by decide) hlt
    have ck := cellsO_below s2.bel (h.at OpT.len hlt)
    have hts : l.take (k + 1) = l.take k ++ [l[k]] := List.take_succ_eq_append_getElem hlt
    generalize l[k] = o at *
    have ao := o.at
    simp (disch := first | omega | exact okFill_t rfl | exact okSize_t rfl | exact fun h => h | (simp only [World.size_alloc, World.size_drew, World.size_setCell, size_fill, bytesW]; omega)) only [go_sem, c24, c24S0, c24S1, c24L0, c24S2, c24S3, c24S4, c24L1, c24S5, c24S6, c24L0, hlt', ck]
    refine ⟨by omega, ?_⟩
    have s3 := s2.box o.enc.toArray 23
    generalize w2.heap.size = b0 at s3 ⊢
    generalize w2.alloc (.cells o.enc.toArray 23) = w3 at s3 ⊢
    refine ⟨by simp [OpT.len], c24draw0 (Same (fun k => k = b0) _) (Same.refl _ _) ?_⟩
    have s4 := s3.drew
    have r4 := s4.rules 0 rfl
    generalize w3.drew = w4 at s4 r4 ⊢
    have sm : ∀ w', Blk w' b0 o.enc.toArray 23 → Same (fun k => k = b0) w4 w' := fun w' hB b hb => by subst hb; exact Eq.trans hB (s4.blk 0 rfl).symm
    obtain ⟨v, R, hv, hperm, s5⟩ : ∃ v R, luG idK (.slice none 0 0) (getM o.Proc d) false = v ∧ (∀ v' c', (rowO (l.take k ++ [o]) o.Proc v' :: R).Perm (rowsO (l.take k ++ [o]) (setM o.Proc v' c' d))) ∧ St w w4 (fun _ => False) (rowO (l.take k) o.Proc v :: .blk b0 o.enc.toArray 23 :: .obj mb (mapG intK idK d cl) :: R) [] := by
      cases hg : getM o.Proc d with
      | some v =>
        obtain ⟨R, h1, h2⟩ := rows_some (t := l.take k) hM.nd hg
        refine ⟨v, R, rfl, h2, s4.perm ?_⟩
        refine List.Perm.trans ?_ (((h1.symm.cons _).cons _))
        exact (List.Perm.swap ..).trans ((List.Perm.swap ..).cons _)
      | none =>
        have e0 : ofProc o.Proc (l.take k) = [] := by
          unfold ofProc
          rw [List.filter_eq_nil_iff]
          intro x hx hp
          rw [decide_eq_true_eq] at hp
          obtain ⟨y, hy, hy1⟩ := List.mem_map.1 ((hM.mem o.Proc).2 ⟨x, hx, hp⟩)
          exact getM_none hg y hy hy1.symm
        refine ⟨_, rowsO (l.take k) d, rfl, rows_none hg, ?_⟩
        unfold rowO
        rw [e0]
        exact s4.nilRow 23 11
    have hol : (ofProc o.Proc (l.take k)).length ≤ 100 := by
      have := ofProc_len o.Proc (l.take k)
      rw [List.length_take] at this; omega
    have hK : ∀ v5 w5 (hs : St w w5 (fun _ => False) (rowO (l.take k ++ [o]) o.Proc v5 :: .blk b0 o.enc.toArray 23 :: .obj mb (mapG intK idK d cl) :: R) []), St w (w5.putObj mb (mapG intK idK (setM o.Proc v5 cl d) (if (getM o.Proc d).isSome then cl else cl + 1))) (fun _ => False) (rowO (l.take k ++ [o]) o.Proc v5 :: .blk b0 o.enc.toArray 23 :: .obj mb (mapG intK idK (setM o.Proc v5 cl d) (if (getM o.Proc d).isSome then cl else cl + 1)) :: R) [] := fun v5 w5 hs => hs.putObj 2 rfl _
    have hK2 : ∀ v5 w5 (hs : St w w5 (fun _ => False) (rowO (l.take k ++ [o]) o.Proc v5 :: .blk b0 o.enc.toArray 23 :: .obj mb (mapG intK idK (setM o.Proc v5 cl d) (if (getM o.Proc d).isSome then cl else cl + 1)) :: R) []), k + 1 ≤ l.length ∧ ∃ d c, ByM (l.take (k + 1)) d c ∧ St w w5 (fun _ => False) (.obj mb (mapG intK idK d c) :: rowsO (l.take (k + 1)) d) [] := by
      intro v5 w5 hs
      rw [hts]
      refine ⟨hlt, _, _, hM.step o v5, ?_⟩
      have hs2 := hs.perm (L' := .blk b0 o.enc.toArray 23 :: .obj mb (mapG intK idK (setM o.Proc v5 cl d) (if (getM o.Proc d).isSome then cl else cl + 1)) :: rowO (l.take k ++ [o]) o.Proc v5 :: R) (((List.Perm.swap ..).cons _).trans (List.Perm.swap ..))
      exact (hs2.sub (List.sublist_cons_self ..)).perm ((hperm v5 cl).symm.cons _)
    have hx : ∀ w', Below w4.heap.size w4 w' → Rd (w'.alloc (.cells o.enc.toArray 23)) 11 (.slice (some ⟨w'.heap.size, 0, none⟩) 1 1) 1 o.enc := fun w' _ => rd_new (t := 23) (sz := 11) (n := 1) (cs := o.enc.toArray) rfl
    have hx0 := hx w4 (Below.refl _ _)
    have s6 := s5.alloc' (.cells o.enc.toArray 23)
    have h0 : Rd (w4.alloc (.cells o.enc.toArray 23)) 11 (.slice (some ⟨w4.heap.size, 0, none⟩) 1 1) 1 o.enc := hx0
    have hcast : ∀ v7 w7, St w w7 (fun _ => False) ((rowO (l.take k) o.Proc v :: .blk b0 o.enc.toArray 23 :: .obj mb (mapG intK idK d cl) :: R).set 0 (.row v7 23 11 ((ofProc o.Proc (l.take k)).length + 1) ((ofProc o.Proc (l.take k)).flatMap OpT.enc ++ o.enc))) [] → St w w7 (fun _ => False) (rowO (l.take k ++ [o]) o.Proc v7 :: .blk b0 o.enc.toArray 23 :: .obj mb (mapG intK idK d cl) :: R) [] := fun v7 w7 hs => st_recast hs (by
      unfold rowO
      rw [ofProc_one, if_pos rfl, List.length_append, List.flatMap_append]
      simp)
    simp (disch := first | omega | exact okFill_t rfl | exact okSize_t rfl | exact fun h => h | (simp only [World.size_alloc, World.size_drew, World.size_setCell, size_fill, bytesW]; omega)) only [go_sem, c24, c24S0, c24S1, c24L0, c24S2, c24S3, c24S4, c24L1, c24S5, c24S6, c24D0, r4, ao]
    refine ⟨luG_map (ek := intK) (ev := idK) keyT_i Try.underlying75 (s5.obj 2 rfl) o.Proc (by rfl) ?_, bsW_agg ty27mkI rfl (by decide) (by decide) ?_⟩
    · rw [hv]
      simp (disch := first | omega | exact okFill_t rfl | exact okSize_t rfl | exact fun h => h | (simp only [World.size_alloc, World.size_drew, World.size_setCell, size_fill, bytesW]; omega)) only [go_sem, c24, c24S0, c24S1, c24L0, c24S2, c24S3, c24S4, c24L1, c24S5, c24S6, c24D0, r4, ao]
      refine ⟨Same.refl _ _, bsW_agg ty27mkI rfl (by decide) (by decide) ?_⟩
      generalize w4.alloc (.cells o.enc.toArray 23) = w6 at s6 h0 ⊢
      simp (disch := first | omega | exact okFill_t rfl | exact okSize_t rfl | exact fun h => h | (simp only [World.size_alloc, World.size_drew, World.size_setCell, size_fill, bytesW]; omega)) only [go_sem, c24, c24S0, c24S1, c24L0, c24S2, c24S3, c24S4, c24L1, c24S5, c24S6, c24D0, r4, ao]
      refine ⟨sm _ (s6.blk 1 rfl), s6.append 0 rfl ty27mkI rfl (by decide) h0 o.one (by omega) (by omega) ?_⟩
      intro v7 w7 s7 _
      have s7' := hcast v7 w7 s7
      simp (disch := first | omega | exact okFill_t rfl | exact okSize_t rfl | exact fun h => h | (simp only [World.size_alloc, World.size_drew, World.size_setCell, size_fill, bytesW]; omega)) only [go_sem, c24, c24S0, c24S1, c24L0, c24S2, c24S3, c24S4, c24L1, c24S5, c24S6, c24D0, r4, ao]
      refine ⟨sm _ (s7'.blk 1 rfl), ?_⟩
      refine muG_map (ek := intK) (ev := idK) keyT_i Try.underlying75 (fun a => by simp [Instr.sameBits, intK]) (s7'.obj 2 rfl) o.Proc v7 ?_
      have s8 := hK v7 w7 s7'
      generalize w7.putObj mb (mapG intK idK (setM o.Proc v7 cl d) (if (getM o.Proc d).isSome then cl else cl + 1)) = w8 at s8 ⊢
      simp (disch := first | omega | exact okFill_t rfl | exact okSize_t rfl | exact fun h => h | (simp only [World.size_alloc, World.size_drew, World.size_setCell, size_fill, bytesW]; omega)) only [go_sem, c24, c24S0, c24S1, c24L0, c24S2, c24S3, c24S4, c24L1, c24S5, c24S6, c24D0, r4, ao]
      exact ⟨sm _ (s8.blk 1 rfl), ⟨by omega, by omega⟩, k + 1, rfl, hK2 _ _ s8, by omega⟩
    · generalize w4.alloc (.cells o.enc.toArray 23) = w6 at s6 h0 ⊢
      simp (disch := first | omega | exact okFill_t rfl | exact okSize_t rfl | exact fun h => h | (simp only [World.size_alloc, World.size_drew, World.size_setCell, size_fill, bytesW]; omega)) only [go_sem, c24, c24S0, c24S1, c24L0, c24S2, c24S3, c24S4, c24L1, c24S5, c24S6, c24D0, r4, ao]
      refine ⟨sm _ (s6.blk 1 rfl), luG_map (ek := intK) (ev := idK) keyT_i Try.underlying75 (s6.obj 2 rfl) o.Proc (by rfl) ?_⟩
      rw [hv]
      simp (disch := first | omega | exact okFill_t rfl | exact okSize_t rfl | exact fun h => h | (simp only [World.size_alloc, World.size_drew, World.size_setCell, size_fill, bytesW]; omega)) only [go_sem, c24, c24S0, c24S1, c24L0, c24S2, c24S3, c24S4, c24L1, c24S5, c24S6, c24D0, r4, ao]
      refine ⟨sm _ (s6.blk 1 rfl), s6.append 0 rfl ty27mkI rfl (by decide) h0 o.one (by omega) (by omega) ?_⟩
      intro v7 w7 s7 _
      have s7' := hcast v7 w7 s7
      simp (disch := first | omega | exact okFill_t rfl | exact okSize_t rfl | exact fun h => h | (simp only [World.size_alloc, World.size_drew, World.size_setCell, size_fill, bytesW]; omega)) only [go_sem, c24, c24S0, c24S1, c24L0, c24S2, c24S3, c24S4, c24L1, c24S5, c24S6, c24D0, r4, ao]
      refine ⟨sm _ (s7'.blk 1 rfl), ?_⟩
      refine muG_map (ek := intK) (ev := idK) keyT_i Try.underlying75 (fun a => by simp [Instr.sameBits, intK]) (s7'.obj 2 rfl) o.Proc v7 ?_
      have s8 := hK v7 w7 s7'
      generalize w7.putObj mb (mapG intK idK (setM o.Proc v7 cl d) (if (getM o.Proc d).isSome then cl else cl + 1)) = w8 at s8 ⊢
      simp (disch := first | omega | exact okFill_t rfl | exact okSize_t rfl | exact fun h => h | (simp only [World.size_alloc, World.size_drew, World.size_setCell, size_fill, bytesW]; omega)) only [go_sem, c24, c24S0, c24S1, c24L0, c24S2, c24S3, c24S4, c24L1, c24S5, c24S6, c24D0, r4, ao]
      exact ⟨sm _ (s8.blk 1 rfl), ⟨by omega, by omega⟩, k + 1, rfl, hK2 _ _ s8, by omega⟩
  · have hlt' : ¬ (k : Int) < l.length := by omega
    have hkk : k = l.length := by omega
    subst hkk
    rw [List.take_length] at hM s2
    simp (disch := first | omega | exact okFill_t rfl | exact okSize_t rfl | exact fun h => h | (simp only [World.size_alloc, World.size_drew, World.size_setCell, size_fill, bytesW]; omega)) only [go_sem, c24, c24S0, c24S1, c24L0, c24S2, c24S3, c24S4, c24L1, c24S5, c24S6, c24L0, hlt']
    have := progs7 hM s2 hl
    rw [hmb] at this
    exact this
end Go.Proofs.Ytmdhcpghofadcaa

namespace Go.Proofs.Ytmdhcpghofadcaa
set_option linter.unusedSimpArgs false
set_option linter.unusedVariables false
set_option maxRecDepth 100000
open Go Go.Ann Go.RowKit Go.WideShapes
theorem snocI {P : List OpT → Prop} (nil : P []) (snoc : ∀ t x, P t → P (t ++ [x])) (l : List OpT) : P l := by
  have : ∀ r : List OpT, P r.reverse := by
    intro r
    induction r with
    | nil => exact nil
    | cons x r ih => rw [List.reverse_cons]; exact snoc _ _ ih
  rw [← List.reverse_reverse l]
  exact this _
def lowT (l : List OpT) : Int := match l with | [] => 0 | o :: r => r.foldl (fun m x => min m x.Invoke) o.Invoke
def endT (l : List OpT) : Int := l.foldl (fun m o => max (if o.Done = true then m else max m 1099511627777) o.Return) 0
def topF (l : List OpT) (m : Int) : Int := l.foldl (fun m o => max (max m o.Invoke) o.Return) m
def topT (l : List OpT) : Int := topF l 0
theorem lowT_snoc (t : List OpT) (o : OpT) : lowT (t ++ [o]) = if t = [] then o.Invoke else min (lowT t) o.Invoke := by
  cases t with
  | nil => rfl
  | cons a t => rw [if_neg (by simp)]; simp [lowT, List.foldl_append]
theorem endT_snoc (t : List OpT) (o : OpT) : endT (t ++ [o]) = max (if o.Done = true then endT t else max (endT t) 1099511627777) o.Return := by
  simp [endT, List.foldl_append]
theorem topF_snoc (t : List OpT) (o : OpT) (m : Int) : topF (t ++ [o]) m = max (max (topF t m) o.Invoke) o.Return := by
  simp [topF, List.foldl_append]
theorem low_le {l : List OpT} : ∀ o ∈ l, lowT l ≤ o.Invoke := by
  induction l using snocI with
  | nil => intro o h; cases h
  | snoc t x ih =>
    intro o h
    rw [lowT_snoc]
    rcases List.mem_append.1 h with h | h
    · rw [if_neg (by intro e; rw [e] at h; cases h)]
      have := ih o h; omega
    · rw [List.mem_singleton] at h; subst h
      split <;> omega
theorem low_in {l : List OpT} (h : l ≠ []) : ∃ o ∈ l, o.Invoke = lowT l := by
  induction l using snocI with
  | nil => exact absurd rfl h
  | snoc t x ih =>
    rw [lowT_snoc]
    by_cases ht : t = []
    · exact ⟨x, by simp, by rw [if_pos ht]⟩
    · rw [if_neg ht]
      obtain ⟨o, ho, e⟩ := ih ht
      rcases Int.le_total (lowT t) x.Invoke with h' | h'
      · exact ⟨o, List.mem_append_left _ ho, by omega⟩
      · exact ⟨x, by simp, by omega⟩
theorem le_top (l : List OpT) (m : Int) : m ≤ topF l m ∧ ∀ o ∈ l, o.Invoke ≤ topF l m ∧ o.Return ≤ topF l m := by
  induction l using snocI with
  | nil => exact ⟨Int.le_refl _, fun o h => by cases h⟩
  | snoc t x ih =>
    rw [topF_snoc]
    refine ⟨by omega, fun o h => ?_⟩
    rcases List.mem_append.1 h with h | h
    · have := ih.2 o h; omega
    · rw [List.mem_singleton] at h; subst h; omega
theorem top_le {l : List OpT} {m b : Int} (hm : m ≤ b) (h : ∀ o ∈ l, o.Invoke ≤ b ∧ o.Return ≤ b) : topF l m ≤ b := by
  induction l using snocI with
  | nil => exact hm
  | snoc t x ih =>
    rw [topF_snoc]
    have := ih fun o ho => h o (List.mem_append_left _ ho)
    have := h x (by simp)
    omega
theorem le_end (l : List OpT) : 0 ≤ endT l ∧ ∀ o ∈ l, o.Return ≤ endT l ∧ (o.Done = false → 1099511627777 ≤ endT l) := by
  induction l using snocI with
  | nil => exact ⟨Int.le_refl _, fun o h => by cases h⟩
  | snoc t x ih =>
    rw [endT_snoc]
    refine ⟨by split <;> omega, fun o h => ?_⟩
    rcases List.mem_append.1 h with h | h
    · have := ih.2 o h
      refine ⟨by split <;> omega, fun hd => by have := this.2 hd; split <;> omega⟩
    · rw [List.mem_singleton] at h; subst h
      refine ⟨by omega, fun hd => by rw [hd]; simp; omega⟩
structure OpG (o : OpT) : Prop where
  p0 : 0 ≤ o.Proc
  p1 : o.Proc ≤ 1023
  b0 : 0 ≤ o.Object
  b1 : o.Object ≤ 1023
  i0 : 0 ≤ o.Invoke
  i1 : o.Invoke ≤ 1099511627776
  rd : o.Done = true → o.Invoke < o.Return ∧ o.Return ≤ 1099511627776
  ro : o.Done = false → o.Return = 0
theorem end_top {l : List OpT} (hg : ∀ o ∈ l, OpG o) (h : endT l ≤ 1099511627776) : endT l = topT l := by
  have hd : ∀ o ∈ l, o.Done = true := fun o ho => by
    cases hx : o.Done with
    | true => rfl
    | false => have := ((le_end l).2 o ho).2 hx; omega
  clear h
  unfold topT
  induction l using snocI with
  | nil => rfl
  | snoc t x ih =>
    rw [endT_snoc, topF_snoc, hd x (by simp), ih (fun o ho => hg o (List.mem_append_left _ ho)) fun o ho => hd o (List.mem_append_left _ ho)]
    have := (hg x (by simp)).rd (hd x (by simp))
    simp only [if_true]
    omega
theorem low_top {l : List OpT} (hg : ∀ o ∈ l, OpG o) (h : l ≠ []) : topF l (lowT l) = topT l := by
  obtain ⟨o, ho, e⟩ := low_in h
  have h0 := (hg o ho).i0
  apply Int.le_antisymm
  · refine top_le ?_ fun x hx => (le_top l 0).2 x hx
    rw [← e]; exact ((le_top l 0).2 o ho).1
  · refine top_le ?_ fun x hx => (le_top l _).2 x hx
    have := (le_top l (lowT l)).1
    omega
def scOf (l : List OpT) (wd : Nat) : Sc := ⟨lowT l, topT l, wd⟩
theorem scOf_ok {l : List OpT} {wd : Nat} (hg : ∀ o ∈ l, OpG o) (h8 : 8 ≤ wd) (h1 : wd ≤ 200) : (scOf l wd).ok ∧ ∀ o ∈ l, (scOf l wd).has o := by
  have ht : topT l ≤ 1099511627776 := top_le (by decide) fun o ho => by
    have := hg o ho
    refine ⟨this.i1, ?_⟩
    cases hd : o.Done with
    | true => exact (this.rd hd).2
    | false => rw [this.ro hd]; decide
  have hlow : 0 ≤ lowT l := by
    by_cases h : l = []
    · rw [h]; decide
    · obtain ⟨o, ho, e⟩ := low_in h; rw [← e]; exact (hg o ho).i0
  have hlt : lowT l ≤ topT l := by
    by_cases h : l = []
    · rw [h]; decide
    · obtain ⟨o, ho, e⟩ := low_in h; rw [← e]; exact ((le_top l 0).2 o ho).1
  refine ⟨⟨hlow, hlt, by show topT l ≤ _; omega, h8, h1⟩, fun o ho => ⟨low_le o ho, ((le_top l 0).2 o ho).1, fun hd => ?_, ((le_top l 0).2 o ho).2⟩⟩
  have := (hg o ho).rd hd
  omega
section
variable {va : Value} {l : List OpT} {w : World}
theorem span_ok (h : RdS w 11 OpT.enc va l) (hl : l.length ≤ 100) (hw : ∀ o ∈ l, o.wf) : Ret Try.prog 36 [va] w fun u w' => u = .tuple #[.int .i64 (lowT l), .int .i64 (endT l)] ∧ Below w.heap.size w w' := by
  obtain ⟨a, c, rfl, _⟩ := h.form
  refine ent36 _ _ _ ?_
  simp (disch := first | omega | exact okFill_t rfl | exact okSize_t rfl | exact fun h => h | (simp only [World.size_alloc, World.size_drew, World.size_setCell, size_fill, bytesW]; omega)) only [go_sem, c36, c36S0, c36S1, c36S2, c36S3, c36L0, c36S4, c36S5]
  refine ⟨fun h0 => ?_, fun h0 => ?_⟩
  · have : l = [] := List.eq_nil_of_length_eq_zero (by omega)
    subst this
    exact ⟨rfl, Below.refl _ _⟩
  have hpos : 0 < l.length := by omega
  obtain ⟨q, rfl⟩ := h.ptr hpos
  have e0 := h.eltB (Below.refl _ _) OpT.len (by decide) hpos
  have a0 := l[0].at
  have e9 : w.cell? ⟨q.block, q.off + 9, none⟩ = some (.int .i64 l[0].Invoke) := by
    have := e0.2 9 (by decide) (by decide)
    simpa [a0] using this
  simp (disch := first | omega | exact okFill_t rfl | exact okSize_t rfl | exact fun h => h | (simp only [World.size_alloc, World.size_drew, World.size_setCell, size_fill, bytesW]; omega)) only [go_sem, c36, c36S0, c36S1, c36S2, c36S3, c36S4, c36S5, e9, a0]
  refine ⟨by omega, ?_⟩
  refine W_loopU (fun x : Nat × Int × Int => [(4, .int .i64 x.2.1), (5, .int .i64 x.2.2), (17, .int .i64 x.1)]) (fun x w' => x.1 ≤ l.length ∧ x.2.1 = (if x.1 = 0 then l[0].Invoke else lowT (l.take x.1)) ∧ x.2.2 = endT (l.take x.1) ∧ Below w.heap.size w w') (fun x => l.length - x.1) (0, l[0].Invoke, 0) rfl ⟨Nat.zero_le _, rfl, rfl, Below.refl _ _⟩ ?_
  rintro ⟨k, f, e⟩ w2 ⟨hk, hf, he, b2⟩
  simp only at hk hf he
  by_cases hlt : k < l.length
  · have hlt' : (k : Int) < l.length := by omega
    have ek := h.eltB b2 OpT.len (by decide) hlt
    have ck := cellsO_below b2 (h.at OpT.len hlt)
    have ak := l[k].at
    have hts := List.take_succ_eq_append_getElem hlt
    have e1 : min f l[k].Invoke = if k + 1 = 0 then l[0].Invoke else lowT (l.take (k + 1)) := by
      rw [if_neg (by omega), hts, lowT_snoc, hf]
      by_cases h0 : k = 0
      · subst h0; simp
      · rw [if_neg h0, if_neg (by intro e; have := congrArg List.length e; rw [List.length_take, List.length_nil] at this; omega)]
    have e2 := endT_snoc (l.take k) l[k]
    rw [← hts, ← he] at e2
    generalize l[k] = o at *
    simp (disch := first | omega | exact okFill_t rfl | exact okSize_t rfl | exact fun h => h | (simp only [World.size_alloc, World.size_drew, World.size_setCell, size_fill, bytesW]; omega)) only [go_sem, c36, c36S0, c36S1, c36S2, c36S3, c36L0, c36S4, c36S5, c36L0, hlt', ck, ak]
    have bb := b2.alloc b2.size (.cells o.enc.toArray 23)
    refine ⟨by omega, OpT.len _ |>.symm, fun hd => ⟨⟨by omega, by omega⟩, (k + 1, min f o.Invoke, max (max e 1099511627777) o.Return), rfl, ⟨by simp only; omega, e1, ?_, bb⟩, by simp only; omega⟩, fun hd => ⟨⟨by omega, by omega⟩, (k + 1, min f o.Invoke, max e o.Return), rfl, ⟨by simp only; omega, e1, ?_, bb⟩, by simp only; omega⟩⟩
    · rw [e2, if_neg (by rw [hd]; decide)]
    · rw [e2, if_pos hd]
  · have hkk : k = l.length := by omega
    have hlt' : ¬ (k : Int) < l.length := by omega
    subst hkk
    rw [if_neg (by omega), List.take_length] at hf
    rw [List.take_length] at he
    subst hf he
    simp (disch := first | omega | exact okFill_t rfl | exact okSize_t rfl | exact fun h => h | (simp only [World.size_alloc, World.size_drew, World.size_setCell, size_fill, bytesW]; omega)) only [go_sem, c36, c36S0, c36S1, c36S2, c36S3, c36L0, c36S4, c36S5, c36L0, hlt']
    exact b2
end
end Go.Proofs.Ytmdhcpghofadcaa

namespace Go.Proofs.Ytmdhcpghofadcaa
set_option linter.unusedSimpArgs false
set_option linter.unusedVariables false
set_option maxRecDepth 100000
open Go Go.Ann Go.RowKit Go.WideShapes
theorem Sc.len (s : Sc) : s.enc.length = 3 := rfl
theorem Sc.one (s : Sc) : ∀ u ∈ s.enc, u.oneCell' = true := by intro u hu; simp only [Sc.enc, List.mem_cons, List.not_mem_nil, or_false] at hu; rcases hu with rfl | rfl | rfl <;> rfl
theorem Sc.at_ (s : Sc) : s.enc[0]? = some (.int .i64 s.lo) ∧ s.enc[1]? = some (.int .i64 s.hi) ∧ s.enc[2]? = some (.int .i64 s.wd) := ⟨rfl, rfl, rfl⟩
theorem blk_okSt {w : World} {b : Nat} {cs : Array Value} {t : TypeId} (h : Blk w b cs t) {vs : List Value} (h1 : ∀ u ∈ vs, u.oneCell' = true) (h2 : vs.length ≤ cs.size) : okSt w b 0 vs := by
  rw [okSt_iff]
  refine ⟨h1, fun j hj => ⟨⟨cs[j]'(by omega), ?_⟩, ?_⟩⟩
  · rw [h.rules.1, Nat.zero_add]; exact Array.getElem?_eq_getElem (by omega)
  · exact h.rules.2.1 _
theorem mul_in {x y : Int} (h0 : 0 ≤ x) (h1 : x ≤ 2199023255552) (h2 : 0 ≤ y) (h3 : y ≤ 199) : 0 ≤ x * y ∧ x * y ≤ 437605627854848 := by
  refine ⟨Int.mul_nonneg h0 h2, ?_⟩
  have := Int.mul_le_mul h1 h3 h2 (by decide : (0 : Int) ≤ 2199023255552)
  exact this
section
variable {va : Value} {l : List OpT} {w : World}
theorem column_ok {s : Sc} (hs : s.ok) (t : Int) (ht : s.lo ≤ t) (ht2 : t ≤ 2199023255552) : Ret Try.prog 51 [.agg s.enc.toArray, .int .i64 t] w fun u w' => u = .int .i64 (s.col t) ∧ Below w.heap.size w w' := by
  refine ent51 _ _ _ _ ?_
  have asc := s.at_
  obtain ⟨h1, h2, h3, h4, h5⟩ := hs
  simp (disch := first | omega | exact okFill_t rfl | exact okSize_t rfl | exact fun h => h | (simp only [World.size_alloc, World.size_drew, World.size_setCell, size_fill, bytesW]; omega)) only [go_sem, c51, c51S0, c51S1, asc]
  have hb : Below w.heap.size w (w.alloc (.cells s.enc.toArray 51)) := (Below.refl _ _).alloc (Nat.le_refl _) _
  obtain ⟨m0, m1⟩ := mul_in (x := min t s.hi - s.lo) (y := (s.wd : Int) - 1) (by omega) (by omega) (by omega) (by omega)
  refine ⟨fun e => ⟨?_, hb⟩, fun e => ⟨by constructor <;> omega, by constructor <;> omega, by constructor <;> omega, by constructor <;> omega, ⟨by omega, by omega, by constructor <;> omega⟩, ?_, hb⟩⟩
  · unfold Sc.col; rw [if_pos e]
  · unfold Sc.col; rw [if_neg e, Int.tdiv_eq_ediv_of_nonneg m0]
theorem over_ok (h : RdS w 11 OpT.enc va l) (hl : l.length ≤ 100) (hw : ∀ o ∈ l, o.wf) (hg : ∀ o ∈ l, OpG o) (wd : Nat) (hwd : wd ≤ 200) : Ret Try.prog 23 [va, .int .i64 wd] w fun u w' => u = .agg (scOf l wd).enc.toArray ∧ Below w.heap.size w w' := by
  obtain ⟨a, c, rfl, _⟩ := h.form
  refine ent23 _ _ _ _ ?_
  simp (disch := first | omega | exact okFill_t rfl | exact okSize_t rfl | exact fun h => h | (simp only [World.size_alloc, World.size_drew, World.size_setCell, size_fill, bytesW]; omega)) only [go_sem, c23, c23S0, c23S1, c23L0, c23S2, c23S3]
  have s1 := (St.start (W0 := w)).box #[.int .i64 0, .int .i64 0, .int .i64 0] 51
  obtain ⟨b0, hb0⟩ : ∃ b, b = w.heap.size := ⟨_, rfl⟩
  rw [← hb0] at s1 ⊢
  have h1 := h.below s1.bel (by decide)
  generalize w.alloc (.cells #[.int .i64 0, .int .i64 0, .int .i64 0] 51) = w1 at s1 h1 ⊢
  refine Ret.mono (span_ok h1 hl hw) ?_
  rintro _ w2 ⟨rfl, b2⟩
  have s2 := s1.call b2
  have h2 := h1.below b2 (by decide)
  have fin : ∀ m w3, m = topT l → St w w3 (fun _ => False) [.blk b0 #[.int .i64 0, .int .i64 0, .int .i64 0] 51] [] → W Try.prog (c23S2 ()) [(1, .int .i64 wd), (4, .pointer (some ⟨b0, 0, none⟩)), (5, .int .i64 (lowT l)), (6, .int .i64 m)] w3 (finQ Try.prog [.cell 4 51] fun u w' => u = .agg (scOf l wd).enc.toArray ∧ Below b0 w w') := by
    intro m w3 hm s3
    subst hm
    have r3 := s3.rules 0 rfl
    simp (disch := first | omega | exact okFill_t rfl | exact okSize_t rfl | exact fun h => h | (simp only [World.size_alloc, World.size_drew, World.size_setCell, size_fill, bytesW]; omega)) only [go_sem, c23, c23S0, c23S1, c23L0, c23S2, c23S3, r3]
    refine bdW_built (cells := (scOf l wd).enc.toArray) (by kernel_rfl) ?_
    have asc := (scOf l wd).at_
    simp (disch := first | omega | exact okFill_t rfl | exact okSize_t rfl | exact fun h => h | (simp only [World.size_alloc, World.size_drew, World.size_setCell, size_fill, bytesW]; omega)) only [go_sem, c23, c23S0, c23S1, c23L0, c23S2, c23S3, r3, asc]
    refine ⟨(scOf l wd).len.symm, blk_okSt (s3.blk 0 rfl) (scOf l wd).one (Nat.le_refl _), ?_⟩
    rw [hb0] at s3 ⊢
    exact ⟨rfl, (s3.fill 0 rfl (cs := (scOf l wd).enc.toArray) rfl).bel⟩
  simp (disch := first | omega | exact okFill_t rfl | exact okSize_t rfl | exact fun h => h | (simp only [World.size_alloc, World.size_drew, World.size_setCell, size_fill, bytesW]; omega)) only [go_sem, c23, c23S0, c23S1, c23L0, c23S3]
  refine ⟨fun ht => ?_, fun ht => fin _ _ (end_top hg ht) s2⟩
  have hne : l ≠ [] := fun e => by subst e; simp [endT] at ht
  refine W_loopU (fun k : Nat => [(6, .int .i64 (topF (l.take k) (lowT l))), (19, .int .i64 k)]) (fun k w' => k ≤ l.length ∧ St w w' (fun _ => False) [.blk b0 #[.int .i64 0, .int .i64 0, .int .i64 0] 51] []) (fun k => l.length - k) 0 rfl ⟨Nat.zero_le _, s2⟩ ?_
  rintro k w3 ⟨hk, s3⟩
  by_cases hlt : k < l.length
  · have hlt' : (k : Int) < l.length := by omega
    obtain ⟨q, rfl⟩ := h.ptr (by omega)
    have ck := cellsO_below s3.bel (h.at OpT.len hlt)
    have ak := l[k].at
    have e1 := topF_snoc (l.take k) l[k] (lowT l)
    rw [← List.take_succ_eq_append_getElem hlt] at e1
    generalize l[k] = o at *
    simp (disch := first | omega | exact okFill_t rfl | exact okSize_t rfl | exact fun h => h | (simp only [World.size_alloc, World.size_drew, World.size_setCell, size_fill, bytesW]; omega)) only [go_sem, c23, c23S0, c23S1, c23L0, c23S3, c23L0, hlt', ck, ak]
    refine ⟨by omega, o.len.symm, ⟨by omega, by omega⟩, k + 1, ?_, ⟨by omega, s3.alloc' _⟩, by omega⟩
    rw [e1]; rfl
  · have hlt' : ¬ (k : Int) < l.length := by omega
    have hkk : k = l.length := by omega
    subst hkk
    rw [List.take_length]
    simp (disch := first | omega | exact okFill_t rfl | exact okSize_t rfl | exact fun h => h | (simp only [World.size_alloc, World.size_drew, World.size_setCell, size_fill, bytesW]; omega)) only [go_sem, c23, c23S0, c23S1, c23L0, c23S3, c23L0, hlt']
    exact fin _ _ (low_top hg hne) s3
end
end Go.Proofs.Ytmdhcpghofadcaa

namespace Go.Proofs.Ytmdhcpghofadcaa
set_option linter.unusedSimpArgs false
set_option linter.unusedVariables false
set_option maxRecDepth 100000
open Go Go.Ann Go.RowKit Go.WideShapes
def BR (b n : Nat) (f : Nat → UInt8) (c : Nat) : Res := .obj b (.cells (byteRow (bytesF n f) c) 5 (c, c + 1))
section
variable {W0 w : World} {F : Nat → Prop} {L : List Res} {I : List Inv} {b n c : Nat} {f g : Nat → UInt8}
theorem st_br (h : St W0 w F L I) (i : Nat) (hi : L[i]? = some (BR b n f c)) : (∀ k, k < n → w.cell? ⟨b, k, none⟩ = some (.int .u8 ((f k).toNat : Int))) ∧ (∀ k, k < c → w.frozen? ⟨b, k, none⟩ = false) := by
  have hb : w.heap[b]? = some (.cells (byteRow (bytesF n f) c) 5 (c, c + 1)) := h.obj i hi
  refine ⟨fun k hk => ?_, fun k hk => ?_⟩
  · simp only [World.cell?, hb, Option.isSome, Bool.false_eq_true, if_false]
    unfold byteRow
    rw [Array.getElem?_append_left (by simpa [bytesF] using hk)]
    simp [bytesF, hk]
  · simp only [World.frozen?, hb]
    simp; omega
theorem byteRow_set (hn : n ≤ c) {k : Nat} {x : UInt8} (hk : k < n) (hx : g k = x) (hg : ∀ j, j < n → j ≠ k → f j = g j) : (byteRow (bytesF n f) c).setIfInBounds k (.int .u8 (x.toNat : Int)) = byteRow (bytesF n g) c := by
  have e := bytesF_set (n := n) (f := f) (g := g) hx hg
  unfold byteRow
  rw [bytesF_len, bytesF_len]
  apply Array.ext'
  simp only [Array.toList_setIfInBounds, Array.toList_append]
  rw [List.set_append_left _ _ (by simp [bytesF, hk])]
  congr 1
theorem st_brSet (h : St W0 w F L I) (i : Nat) (hi : L[i]? = some (BR b n f c)) (hn : n ≤ c) (k : Nat) (hk : k < n) (x : UInt8) (v : Int) (hv : v = (x.toNat : Int)) (g : Nat → UInt8) (hx : g k = x) (hg : ∀ j, j < n → j ≠ k → f j = g j) :
    St W0 (w.setCell ⟨b, k, none⟩ (.int .u8 v)) F (L.set i (BR b n g c)) I := by
  subst hv
  have hb : w.heap[b]? = some (.cells (byteRow (bytesF n f) c) 5 (c, c + 1)) := h.obj i hi
  refine h.upd i hi ((Chg.refl _ w).setCell _ _ fun _ => rfl) _ ⟨?_, (h.res _ (List.mem_of_getElem? hi)).1.2⟩ fun k hk => .inl hk
  unfold World.setCell
  simp only [Array.getElem?_modify, if_true, hb]
  simp only [Option.map_some, Option.isSome_none, Bool.false_eq_true, if_false]
  rw [byteRow_set hn hk hx hg]
theorem st_bytes (h : St W0 w F L I) (l : List UInt8) (c : Nat) : St W0 (bytesW w l c 5) F (BR w.heap.size l.length (fun k => (l[k]?).getD 0) c :: L) I := by
  have e : bytesF l.length (fun k => (l[k]?).getD 0) = l := by
    refine List.ext_getElem (by simp [bytesF]) fun j h1 h2 => ?_
    simp [bytesF, h2]
  have := (h.lay (.cells (byteRow l c) 5 (c, c + 1))).drew
  unfold BR
  rw [e]
  exact this
end
section
variable {W0 w : World} {F : Nat → Prop} {L : List Res} {I : List Inv} {b c : Nat} {f : Nat → UInt8} {s : Sc} {o : OpT} {b4 b5 : Nat}
def midF (s : Sc) (o : OpT) (f : Nat → UInt8) (j : Nat) (k : Nat) : UInt8 := if s.a o < k ∧ k < s.b o then (if k - s.a o - 1 < j then ((labelL o)[k - s.a o - 1]?).getD 45 else 45) else f k
theorem bar4 {K : Value → World → Prop} (hs : s.ok) (ho : s.has o) (hc : s.wd ≤ c) (hK : ∀ w', St W0 w' F (BR b s.wd (barF s o f) c :: L) I → K (.tuple #[]) w') (h : St W0 w F (BR b s.wd (midF s o f (labelL o).length) c :: .blk b5 o.enc.toArray 23 :: L) I) :
    W Try.prog (c45S4 ()) [(0, .slice (some ⟨b, 0, none⟩) s.wd c), (5, .pointer (some ⟨b5, 0, none⟩)), (6, .int .i64 (s.a o)), (7, .int .i64 (s.b o))] w (finQ Try.prog [] K) := by
  obtain ⟨ab, bw, _, _⟩ := Sc.ab hs ho
  have r0 := st_br h 0 rfl
  have r5 := h.rules 1 rfl
  have ao := o.at
  obtain ⟨a, ha⟩ : ∃ a, a = s.a o := ⟨_, rfl⟩
  obtain ⟨e, hb⟩ : ∃ e, e = s.b o := ⟨_, rfl⟩
  rw [← ha, ← hb] at ab
  rw [← hb] at bw
  rw [← ha, ← hb]
  have hlta : (a : Int) < s.wd := by omega
  have hlte : (e : Int) < s.wd := by omega
  have ca := r0.1 a (by omega)
  have fa := r0.2 a (by omega)
  have lab : ∀ j, (if j < (labelL o).length then ((labelL o)[j]?).getD 45 else 45) = ((labelL o)[j]?).getD 45 := fun j => by
    by_cases hj : j < (labelL o).length
    · rw [if_pos hj]
    · rw [if_neg hj, List.getElem?_eq_none (by omega)]; rfl
  have s1 := st_brSet h 0 rfl hc a (by omega) 91 91 rfl (fun k => if k = a then 91 else midF s o f (labelL o).length k) (by simp) (fun j _ hj => by rw [if_neg hj])
  simp only [List.set_cons_zero] at s1
  have r1 := st_br s1 0 rfl
  have r5 := s1.rules 1 rfl
  have ce := r1.1 e (by omega)
  have fe := r1.2 e (by omega)
  have fin : ∀ x, signB o a e e = x → ∀ v : Int, v = (x.toNat : Int) → ∀ w1, St W0 w1 F (BR b s.wd (fun k => if k = a then 91 else midF s o f (labelL o).length k) c :: .blk b5 o.enc.toArray 23 :: L) I → St W0 (w1.setCell ⟨b, e, none⟩ (.int .u8 v)) F (BR b s.wd (barF s o f) c :: L) I := by
    intro x hx v hv w1 h1
    have s2 := st_brSet h1 0 rfl hc e (by omega) x v hv (barF s o f) (by unfold barF; rw [← ha, ← hb, if_pos ⟨ab, Nat.le_refl _⟩, hx]) (fun j _ hj => by
      unfold barF midF signB
      rw [← ha, ← hb, if_neg hj, lab]
      by_cases h1 : j = a
      · subst h1; rw [if_pos rfl, if_pos ⟨Nat.le_refl _, ab⟩, if_pos rfl]
      · rw [if_neg h1, if_neg h1]
        by_cases h2 : a < j ∧ j < e
        · rw [if_pos h2, if_pos ⟨by omega, by omega⟩]
        · rw [if_neg h2, if_neg (by omega)])
    exact s2.sub (by simp)
  clear r0
  simp (disch := first | omega | exact okFill_t rfl | exact okSize_t rfl | exact fun h => h | (simp only [World.size_alloc, World.size_drew, World.size_setCell, size_fill, bytesW]; omega)) only [go_sem, c45, c45L0, c45S1, c45S2, c45L1, c45S3, c45S4, c45S5, c45S6, c45S7, hlta, ca, fa]
  generalize w.setCell ⟨b, a, none⟩ (.int .u8 91) = w1 at *
  simp (disch := first | omega | exact okFill_t rfl | exact okSize_t rfl | exact fun h => h | (simp only [World.size_alloc, World.size_drew, World.size_setCell, size_fill, bytesW]; omega)) only [go_sem, c45, c45S0, c45L0, c45S1, c45S2, c45L1, c45S3, c45S4, c45S5, c45S6, c45S7, hlte, ce, fe, ao, r5]
  refine ⟨by omega, fun hd => ⟨by omega, hK _ (fin 62 (by unfold signB; rw [if_pos rfl, hd]; rfl) 62 rfl _ s1)⟩, fun hd => ⟨fun he => ⟨by omega, hK _ (fin 124 (by unfold signB; rw [if_pos rfl, if_pos hd, if_pos (by omega)]) 124 rfl _ s1)⟩, fun he => ⟨by omega, hK _ (fin 93 (by unfold signB; rw [if_pos rfl, if_pos hd, if_neg (by omega)]) 93 rfl _ s1)⟩⟩⟩
theorem label_len {o : OpT} (hw : o.wf) : (labelL o).length ≤ 100 := by
  have h1 := nameL_le o.Method
  have h2 := numL_le (i64_of_k hw.2.2.2.2.2.1)
  have h3 := numL_le (i64_of_k hw.2.2.2.2.2.2.1)
  have h4 := numL_le (i64_of_k hw.2.2.2.2.2.2.2.1)
  unfold labelL argL resL
  simp only [List.length_append]
  split <;> split <;> (try split) <;> simp only [List.length_append, List.length_cons, List.length_nil] <;> omega
theorem bar6 {K : Value → World → Prop} (hs : s.ok) (ho : s.has o) (hw : o.wf) (hc : s.wd ≤ c) (hK : ∀ w', St W0 w' F (BR b s.wd (barF s o f) c :: L) I → K (.tuple #[]) w') (h : St W0 w F (BR b s.wd f c :: .blk b5 o.enc.toArray 23 :: L) I) :
    W Try.prog (c45S6 ()) [(0, .slice (some ⟨b, 0, none⟩) s.wd c), (5, .pointer (some ⟨b5, 0, none⟩)), (6, .int .i64 (s.a o)), (7, .int .i64 (s.b o))] w (finQ Try.prog [] K) := by
  obtain ⟨ab, bw, _, _⟩ := Sc.ab hs ho
  obtain ⟨a, ha⟩ : ∃ a, a = s.a o := ⟨_, rfl⟩
  obtain ⟨e, hb⟩ : ∃ e, e = s.b o := ⟨_, rfl⟩
  have hwd := hs.wd1
  have hll := label_len hw
  have B4 := fun w' h' => bar4 (W0 := W0) (w := w') (F := F) (L := L) (I := I) (f := f) (b := b) (b5 := b5) (K := K) hs ho hc hK h'
  rw [← ha, ← hb] at ab B4
  rw [← hb] at bw
  rw [← ha, ← hb]
  simp (disch := first | omega | exact okFill_t rfl | exact okSize_t rfl | exact fun h => h | (simp only [World.size_alloc, World.size_drew, World.size_setCell, size_fill, bytesW]; omega)) only [go_sem, c45, c45S0, c45S1, c45S2, c45L1, c45S3, c45S4, c45S6, c45S7]
  refine ⟨by constructor <;> omega, ?_⟩
  refine W_loopU (fun i : Nat => [(8, .int .i64 i)]) (fun i w' => a + 1 ≤ i ∧ i ≤ e + 1 ∧ St W0 w' F (BR b s.wd (fun k => if a < k ∧ k < i ∧ k < e then 45 else f k) c :: .blk b5 o.enc.toArray 23 :: L) I) (fun i => e + 1 - i) (a + 1) rfl ⟨Nat.le_refl _, by omega, ?_⟩ ?_
  · have : (fun k => if a < k ∧ k < a + 1 ∧ k < e then 45 else f k) = f := by
      funext k; rw [if_neg (by omega)]
    rw [this]; exact h
  rintro i w1 ⟨h1, h2, s1⟩
  by_cases hlt : i < e
  · have hlt' : (i : Int) < e := by omega
    have hiw : (i : Int) < s.wd := by omega
    have r1 := st_br s1 0 rfl
    have ci := r1.1 i (by omega)
    have fi := r1.2 i (by omega)
    clear r1
    have s2 := st_brSet s1 0 rfl hc i (by omega) 45 45 rfl (fun k => if a < k ∧ k < i + 1 ∧ k < e then 45 else f k) (by rw [if_pos ⟨by omega, by omega, hlt⟩]) (fun j _ hj => by
      by_cases hx : a < j ∧ j < i ∧ j < e
      · rw [if_pos hx, if_pos ⟨hx.1, by omega, hx.2.2⟩]
      · rw [if_neg hx, if_neg (by omega)])
    simp (disch := first | omega | exact okFill_t rfl | exact okSize_t rfl | exact fun h => h | (simp only [World.size_alloc, World.size_drew, World.size_setCell, size_fill, bytesW]; omega)) only [go_sem, c45, c45S0, c45L0, c45S1, c45S2, c45L1, c45S3, c45S4, c45S6, c45S7, c45L0, hlt', hiw, ci, fi]
    exact ⟨by omega, by constructor <;> omega, i + 1, rfl, ⟨by omega, by omega, s2⟩, by omega⟩
  · have hlt' : ¬ (i : Int) < e := by omega
    simp (disch := first | omega | exact okFill_t rfl | exact okSize_t rfl | exact fun h => h | (simp only [World.size_alloc, World.size_drew, World.size_setCell, size_fill, bytesW]; omega)) only [go_sem, c45, c45S0, c45L0, c45S1, c45S2, c45L1, c45S3, c45S4, c45S6, c45S7, c45L0, hlt']
    have s2 : St W0 w1 F (BR b s.wd (midF s o f 0) c :: .blk b5 o.enc.toArray 23 :: L) I := by
      have : (fun k => if a < k ∧ k < i ∧ k < e then 45 else f k) = midF s o f 0 := by
        funext k
        unfold midF
        rw [← ha, ← hb]
        by_cases hx : a < k ∧ k < e
        · rw [if_pos hx, if_pos ⟨hx.1, by omega, hx.2⟩]; rfl
        · rw [if_neg hx, if_neg (by omega)]
      rw [← this]; exact s1
    clear s1
    have r5 := s2.rules 1 rfl
    simp (disch := first | omega | exact okFill_t rfl | exact okSize_t rfl | exact fun h => h | (simp only [World.size_alloc, World.size_drew, World.size_setCell, size_fill, bytesW]; omega)) only [go_sem, c45, c45S0, c45L0, c45S1, c45S2, c45S3, c45S5, c45S6, c45S7, r5]
    refine Ret.mono (label_ok o hw w1) ?_
    rintro _ w2 ⟨rfl, b2⟩
    have s3 := s2.call b2
    simp (disch := first | omega | exact okFill_t rfl | exact okSize_t rfl | exact fun h => h | (simp only [World.size_alloc, World.size_drew, World.size_setCell, size_fill, bytesW]; omega)) only [go_sem, c45, c45S0, c45L0, c45S1, c45S2, c45S3, c45S5, c45S6, c45S7]
    intro cl hcl
    have s4 := st_bytes s3 (labelL o) cl
    generalize w2.heap.size = bl at s4 ⊢
    generalize bytesW w2 (labelL o) cl 5 = w3 at s4 ⊢
    have s5 := s4.perm (L' := BR b s.wd (midF s o f 0) c :: .blk b5 o.enc.toArray 23 :: BR bl (labelL o).length (fun k => ((labelL o)[k]?).getD 0) cl :: L) ((List.Perm.swap ..).trans ((List.Perm.swap ..).cons _)).symm
    clear s2 s3 s4
    refine W_loopU (fun j : Nat => [(38, .int .i64 j)]) (fun j w' => j ≤ (labelL o).length ∧ St W0 w' F (BR b s.wd (midF s o f j) c :: .blk b5 o.enc.toArray 23 :: BR bl (labelL o).length (fun k => ((labelL o)[k]?).getD 0) cl :: L) I) (fun j => (labelL o).length - j) 0 rfl ⟨Nat.zero_le _, s5⟩ ?_
    clear s5 b2
    rintro j w4 ⟨hj, s6⟩
    by_cases hjl : j < (labelL o).length
    · have hjl' : (j : Int) < (labelL o).length := by omega
      have cj := (st_br s6 2 rfl).1 j hjl
      have ej : ((labelL o)[j]?).getD 0 = (labelL o)[j] := by rw [List.getElem?_eq_getElem hjl]; rfl
      rw [ej] at cj
      by_cases hje : a + 1 + j < e
      · have hje' : (a : Int) + 1 + j < e := by omega
        have hjw : (a : Int) + 1 + j < s.wd := by omega
        have r6 := st_br s6 0 rfl
        have ct := r6.1 (a + 1 + j) (by omega)
        have ft := r6.2 (a + 1 + j) (by omega)
        clear r6
        have s7 := st_brSet s6 0 rfl hc (a + 1 + j) (by omega) (labelL o)[j] _ rfl (midF s o f (j + 1)) (by
          unfold midF
          rw [← ha, ← hb, if_pos ⟨by omega, hje⟩, if_pos (by omega), show a + 1 + j - a - 1 = j by omega, List.getElem?_eq_getElem hjl]; rfl) (fun k _ hk => by
          unfold midF
          rw [← ha, ← hb]
          by_cases hx : a < k ∧ k < e
          · rw [if_pos hx, if_pos hx]
            by_cases hy : k - a - 1 < j
            · rw [if_pos hy, if_pos (by omega)]
            · rw [if_neg hy, if_neg (by omega)]
          · rw [if_neg hx, if_neg hx])
        have et : ((a : Int) + 1 + j).toNat = a + 1 + j := by omega
        simp (disch := first | omega | exact okFill_t rfl | exact okSize_t rfl | exact fun h => h | (simp only [World.size_alloc, World.size_drew, World.size_setCell, size_fill, bytesW]; omega)) only [go_sem, c45, c45S0, c45L0, c45S1, c45S2, c45L1, c45S3, c45S5, c45S6, c45S7, hjl', cj, hje', hjw, et, ct, ft]
        exact ⟨by omega, by constructor <;> omega, by constructor <;> omega, by constructor <;> omega, by constructor <;> omega, by omega, by constructor <;> omega, j + 1, rfl, ⟨by omega, s7⟩, by omega⟩
      · have hje' : ¬ (a : Int) + 1 + j < e := by omega
        have s7 : midF s o f (j + 1) = midF s o f j := by
          funext k
          unfold midF
          rw [← ha, ← hb]
          by_cases hx : a < k ∧ k < e
          · rw [if_pos hx, if_pos hx, if_pos (by omega), if_pos (by omega)]
          · rw [if_neg hx, if_neg hx]
        simp (disch := first | omega | exact okFill_t rfl | exact okSize_t rfl | exact fun h => h | (simp only [World.size_alloc, World.size_drew, World.size_setCell, size_fill, bytesW]; omega)) only [go_sem, c45, c45S0, c45L0, c45S1, c45S2, c45L1, c45S3, c45S5, c45S6, c45S7, hjl', cj, hje']
        exact ⟨by omega, by constructor <;> omega, by constructor <;> omega, by constructor <;> omega, j + 1, rfl, ⟨by omega, by rw [s7]; exact s6⟩, by omega⟩
    · have hjl' : ¬ (j : Int) < (labelL o).length := by omega
      have hjj : j = (labelL o).length := by omega
      subst hjj
      simp (disch := first | omega | exact okFill_t rfl | exact okSize_t rfl | exact fun h => h | (simp only [World.size_alloc, World.size_drew, World.size_setCell, size_fill, bytesW]; omega)) only [go_sem, c45, c45S0, c45L0, c45S1, c45S2, c45L1, c45S3, c45S5, c45S6, c45S7, hjl']
      exact B4 _ (s6.sub (by simp))
theorem bar_ok (hs : s.ok) (ho : s.has o) (hw : o.wf) (hc : s.wd ≤ c) (h : St W0 w F (BR b s.wd f c :: L) I) :
    Ret Try.prog 45 [.slice (some ⟨b, 0, none⟩) s.wd c, .agg s.enc.toArray, .agg o.enc.toArray] w fun u w' => u = .tuple #[] ∧ St W0 w' F (BR b s.wd (barF s o f) c :: L) I := by
  refine ent45 _ _ _ _ _ ?_
  simp (disch := first | omega | exact okFill_t rfl | exact okSize_t rfl | exact fun h => h | (simp only [World.size_alloc, World.size_drew, World.size_setCell, size_fill, bytesW]; omega)) only [go_sem, c45, c45S0, c45L0, c45S1, c45S2, c45L1, c45S3, c45S4, c45S5, c45S6, c45S7]
  have s1 := (h.box s.enc.toArray 51).box o.enc.toArray 23
  simp only [World.size_alloc] at s1
  generalize w.heap.size = b4 at s1 ⊢
  generalize (w.alloc (.cells s.enc.toArray 51)).alloc (.cells o.enc.toArray 23) = w1 at s1 ⊢
  obtain ⟨b5, hb5⟩ : ∃ b, b = b4 + 1 := ⟨_, rfl⟩
  rw [← hb5] at s1 ⊢
  refine c45draw0 (Chg (fun _ => False) _) (Chg.refl _ _) ?_
  have s2 := s1.drew
  have r4 := s2.rules 1 rfl
  have r5 := s2.rules 0 rfl
  have low4 := s2.low 1 rfl
  have low5 := s2.low 0 rfl
  have ao := o.at
  have asc := s.at_
  generalize w1.drew = w2 at s2 r4 r5 low4 low5 ⊢
  simp (disch := first | omega | exact okFill_t rfl | exact okSize_t rfl | exact fun h => h | (simp only [World.size_alloc, World.size_drew, World.size_setCell, size_fill, bytesW]; omega)) only [go_sem, c45, c45S0, c45L0, c45S1, c45S2, c45L1, c45S3, c45S4, c45S5, c45S6, c45D0, r4, r5, ao, asc]
  have hwd := hs.wd1
  have hw8 := hs.wd8
  obtain ⟨ab, bw, e1, e2⟩ := Sc.ab hs ho
  have hr2 : o.Return ≤ 2199023255552 := Int.le_trans ho.r2 hs.hi1
  have hi2 : o.Invoke ≤ 2199023255552 := Int.le_trans ho.i2 hs.hi1
  refine ⟨by constructor <;> omega, Ret.mono (column_ok hs _ ho.i1 hi2) ?_⟩
  rintro _ w3 ⟨rfl, b3⟩
  have s3 := s2.call b3
  have r5 := s3.rules 0 rfl
  have r4 := s3.rules 1 rfl
  have r5' := s2.rules 0 rfl
  simp (disch := first | omega | exact okFill_t rfl | exact okSize_t rfl | exact fun h => h | (simp only [World.size_alloc, World.size_drew, World.size_setCell, size_fill, bytesW]; omega)) only [go_sem, c45, c45S0, c45L0, c45S1, c45S2, c45L1, c45S3, c45S4, c45S5, c45S6, c45D0, r5, ao, asc]
  refine ⟨Chg.of_below b3, ?_⟩
  rw [e1]
  have B6 := fun w' h' => bar6 (W0 := W0) (w := w') (F := F) (L := .blk b4 s.enc.toArray 51 :: L) (I := I) (f := f) (b := b) (b5 := b5) (K := fun u w' => u = .tuple #[] ∧ St W0 w' F (BR b s.wd (barF s o f) c :: L) I) hs ho hw hc (fun w' h => ⟨rfl, h.sub (by simp)⟩) h'
  have pm : ∀ w', St W0 w' F (.blk b5 o.enc.toArray 23 :: .blk b4 s.enc.toArray 51 :: BR b s.wd f c :: L) I → St W0 w' F (BR b s.wd f c :: .blk b5 o.enc.toArray 23 :: .blk b4 s.enc.toArray 51 :: L) I := fun w' h' => h'.perm (((List.Perm.swap ..).trans ((List.Perm.swap ..).cons _)))
  simp (disch := first | omega | exact okFill_t rfl | exact okSize_t rfl | exact fun h => h | (simp only [World.size_alloc, World.size_drew, World.size_setCell, size_fill, bytesW]; omega)) only [go_sem, c45, c45S0, c45L0, c45S1, c45S2, c45L1, c45S3, c45S4, c45S5, c45S7, r4, r5, ao, asc]
  refine ⟨fun hd => ?_, fun hd => ?_⟩
  · rw [if_pos hd] at e2
    refine Ret.mono (column_ok hs _ (Int.le_trans ho.i1 (ho.r1 hd)) hr2) ?_
    rintro _ w4 ⟨rfl, b4'⟩
    simp (disch := first | omega | exact okFill_t rfl | exact okSize_t rfl | exact fun h => h | (simp only [World.size_alloc, World.size_drew, World.size_setCell, size_fill, bytesW]; omega)) only [go_sem, c45, c45S0, c45L0, c45S1, c45S2, c45L1, c45S3, c45S4, c45S5, c45S7]
    rw [e2]
    exact B6 _ (pm _ (s3.call b4'))
  · rw [if_neg (by rw [hd]; decide)] at e2
    rw [e2]
    exact B6 _ (pm _ s3)
end
end Go.Proofs.Ytmdhcpghofadcaa

namespace Go.Proofs.Ytmdhcpghofadcaa
set_option linter.unusedSimpArgs false
set_option linter.unusedVariables false
set_option maxRecDepth 100000
open Go Go.Ann Go.RowKit Go.WideShapes
theorem br_ext {b n c : Nat} {f g : Nat → UInt8} (h : ∀ k, k < n → f k = g k) : BR b n f c = BR b n g c := by
  unfold BR; rw [bytesF_ext h]
theorem rowF_snoc (s : Sc) (t : List OpT) (o : OpT) : rowF s (t ++ [o]) = barF s o (rowF s t) := by
  simp [rowF, List.foldl_append]
theorem br_bytes {W0 w : World} {F : Nat → Prop} {L : List Res} {I : List Inv} {b n c : Nat} {f : Nat → UInt8} (h : St W0 w F (BR b n f c :: L) I) : bytesAt w (some ⟨b, 0, none⟩) (bytesF n f) := by
  intro i x hx
  have hi : i < n := by have := (List.getElem?_eq_some_iff.1 hx).1; rwa [bytesF_len] at this
  rw [bytesF_get hi, Option.some.injEq] at hx
  subst hx
  simp only [Addr.add_lit, Nat.zero_add]
  exact (st_br h 0 rfl).1 i hi
section
variable {va : Value} {l : List OpT} {w : World} {s : Sc}
theorem row_ok (h : RdS w 11 OpT.enc va l) (hl : l.length ≤ 100) (hw : ∀ o ∈ l, o.wf) (hs : s.ok) (ho : ∀ o ∈ l, s.has o) : Ret Try.prog 27 [.agg s.enc.toArray, va] w fun u w' => u = .string (ofL (rowL s l)) ∧ Below w.heap.size w w' := by
  obtain ⟨a, c, rfl, _⟩ := h.form
  have hwd := hs.wd1
  refine ent27 _ _ _ _ ?_
  have s1 := (St.start (W0 := w)).box s.enc.toArray 51
  have asc := s.at_
  have r1 := s1.rules 0 rfl
  obtain ⟨b0, hb0⟩ : ∃ b, b = w.heap.size := ⟨_, rfl⟩
  simp (disch := first | omega | exact okFill_t rfl | exact okSize_t rfl | exact fun h => h | (simp only [World.size_alloc, World.size_drew, World.size_setCell, size_fill, bytesW]; omega)) only [go_sem, c27, c27S0, c27S1, c27L0, c27S2, c27S3, asc]
  refine Ret.mono (repeat_ok 46 s.wd (by omega) _) ?_
  rintro _ w2 ⟨rfl, b2⟩
  have s2 := s1.call b2
  rw [← hb0] at s2 ⊢
  simp (disch := first | omega | exact okFill_t rfl | exact okSize_t rfl | exact fun h => h | (simp only [World.size_alloc, World.size_drew, World.size_setCell, size_fill, bytesW]; omega)) only [go_sem, c27, c27S0, c27S1, c27S2, c27S3]
  intro cl hcl
  rw [List.length_replicate] at hcl
  rw [show (List.replicate s.wd (46 : UInt8)).length = s.wd from List.length_replicate]
  have s3 := st_bytes s2 (List.replicate s.wd 46) cl
  rw [br_ext (g := rowF s []) (fun k hk => by rw [List.length_replicate] at hk; simp [rowF, hk]), List.length_replicate] at s3
  generalize w2.heap.size = b at s3 ⊢
  generalize bytesW w2 (List.replicate s.wd 46) cl 5 = w3 at s3 ⊢
  clear r1
  refine W_loopU (fun k : Nat => [(14, .int .i64 k)]) (fun k w' => k ≤ l.length ∧ St w w' (fun _ => False) [BR b s.wd (rowF s (l.take k)) cl, .blk b0 s.enc.toArray 51] []) (fun k => l.length - k) 0 rfl ⟨Nat.zero_le _, s3⟩ ?_
  clear s3
  rintro k w4 ⟨hk, s4⟩
  by_cases hlt : k < l.length
  · have hlt' : (k : Int) < l.length := by omega
    obtain ⟨q, rfl⟩ := h.ptr (by omega)
    have ck := cellsO_below s4.bel (h.at OpT.len hlt)
    have ak := l[k].at
    have r4 := s4.rules 1 rfl
    have s5 := s4.box l[k].enc.toArray 23
    have e1 := rowF_snoc s (l.take k) l[k]
    rw [← List.take_succ_eq_append_getElem hlt] at e1
    have hm := List.getElem_mem hlt
    simp (disch := first | omega | exact okFill_t rfl | exact okSize_t rfl | exact fun h => h | (simp only [World.size_alloc, World.size_drew, World.size_setCell, size_fill, bytesW]; omega)) only [go_sem, c27, c27S0, c27S1, c27L0, c27S3, c27L0, hlt', ck, ak, r4]
    refine ⟨by omega, l[k].len.symm, ?_⟩
    have r5 := s5.rules 2 rfl
    have r6 := s5.rules 0 rfl
    generalize w4.heap.size = b7 at s5 r6 ⊢
    generalize w4.alloc (.cells l[k].enc.toArray 23) = w5 at s5 r5 r6 ⊢
    simp (disch := first | omega | exact okFill_t rfl | exact okSize_t rfl | exact fun h => h | (simp only [World.size_alloc, World.size_drew, World.size_setCell, size_fill, bytesW]; omega)) only [go_sem, c27, c27S0, c27S1, c27L0, c27S3, r5, r6, asc, ak]
    have s6 := s5.perm (L' := BR b s.wd (rowF s (l.take k)) cl :: .blk b7 l[k].enc.toArray 23 :: [.blk b0 s.enc.toArray 51]) (List.Perm.swap ..)
    refine Ret.mono (bar_ok hs (ho _ hm) (hw _ hm) hcl s6) ?_
    rintro _ w7 ⟨rfl, s7⟩
    simp (disch := first | omega | exact okFill_t rfl | exact okSize_t rfl | exact fun h => h | (simp only [World.size_alloc, World.size_drew, World.size_setCell, size_fill, bytesW]; omega)) only [go_sem, c27, c27S0, c27S1, c27L0, c27S3]
    rw [← e1] at s7
    exact ⟨by constructor <;> omega, k + 1, rfl, ⟨hlt, s7.sub (by simp)⟩, by omega⟩
  · have hlt' : ¬ (k : Int) < l.length := by omega
    have hkk : k = l.length := by omega
    subst hkk
    rw [List.take_length] at s4
    simp (disch := first | omega | exact okFill_t rfl | exact okSize_t rfl | exact fun h => h | (simp only [World.size_alloc, World.size_drew, World.size_setCell, size_fill, bytesW]; omega)) only [go_sem, c27, c27S0, c27S1, c27L0, c27S2, c27S3, c27L0, hlt']
    refine ⟨rowL s l, bytesF_len _ _, br_bytes s4, rfl, ?_⟩
    rw [hb0]; exact s4.bel
end
end Go.Proofs.Ytmdhcpghofadcaa

namespace Go.Proofs.Ytmdhcpghofadcaa
set_option linter.unusedSimpArgs false
set_option linter.unusedVariables false
set_option maxRecDepth 100000
open Go Go.Ann Go.RowKit Go.WideShapes Go.Shelf
theorem headL_len {l : List UInt8} (h : l.length ≤ 7) : (headL l).length = 7 := by unfold headL; simp; omega
theorem head_ok (l : List UInt8) (hl : l.length ≤ 7) (w : World) : Ret Try.prog 26 [.string (ofL l)] w fun u w' => u = .string (ofL (headL l)) ∧ Below w.heap.size w w' := by
  refine ent26 _ _ _ ?_
  simp (disch := first | omega | exact okFill_t rfl | exact okSize_t rfl | exact fun h => h | (simp only [World.size_alloc, World.size_drew, World.size_setCell, size_fill, bytesW]; omega)) only [go_sem, c26, c26S0]
  refine Ret.mono (repeat_ok 32 7 (by decide) w) ?_
  rintro _ w2 ⟨rfl, b2⟩
  simp (disch := first | omega | exact okFill_t rfl | exact okSize_t rfl | exact fun h => h | (simp only [World.size_alloc, World.size_drew, World.size_setCell, size_fill, bytesW]; omega)) only [go_sem, c26, c26S0]
  have e : List.take 7 (l ++ List.replicate 7 32) = headL l := by
    unfold headL
    rw [List.take_append, List.take_of_length_le (by omega), List.take_replicate, Nat.min_eq_left (by omega)]
  rw [e]
  exact ⟨by rw [List.length_replicate]; omega, by rw [List.length_append, List.length_replicate]; omega, rfl, b2⟩
theorem proc_len {n : Int} (h0 : 0 ≤ n) (h1 : n ≤ 1023) : (numL n).length ≤ 4 := by
  unfold numL
  rw [if_neg (by omega)]
  exact decL_len _ 4 (by omega) (by decide)
theorem linesL_snoc (s : Sc) (P : List (List OpT)) (p : List OpT) : linesL s (P ++ [p]) = linesL s P ++ lineL s p := by
  simp [linesL, List.flatMap_append]
theorem lineL_len {s : Sc} {p : List OpT} (h0 : 0 ≤ procOf p) (h1 : procOf p ≤ 1023) : (lineL s p).length = 8 + s.wd := by
  have := proc_len h0 h1
  unfold lineL
  rw [List.length_append, List.length_append, headL_len (by rw [List.length_cons]; omega)]
  unfold rowL
  rw [bytesF_len]; simp; omega
theorem linesL_len {s : Sc} : ∀ {P : List (List OpT)}, (∀ p ∈ P, 0 ≤ procOf p ∧ procOf p ≤ 1023) → (linesL s P).length = P.length * (8 + s.wd)
  | [], _ => by simp [linesL]
  | p :: P, h => by
    have h1 := h p List.mem_cons_self
    have ih := linesL_len (s := s) (P := P) fun q hq => h q (List.mem_cons_of_mem _ hq)
    have e : linesL s (p :: P) = lineL s p ++ linesL s P := by simp [linesL]
    rw [e, List.length_append, ih, lineL_len h1.1 h1.2, List.length_cons, Nat.add_mul]; omega
theorem prog_in {l : List OpT} {acc : List Seg} (h : ByProc l acc) {s : Seg} (hs : s ∈ acc) : (∀ o ∈ s.ops, o ∈ l ∧ o.Proc = s.obj) ∧ s.ops ≠ [] ∧ procOf s.ops = s.obj ∧ s.ops.length ≤ l.length := by
  have h1 : ∀ o ∈ s.ops, o ∈ l ∧ o.Proc = s.obj := fun o ho => by
    have := (h.sorts s hs).1.mem_iff.1 ho
    unfold ofProc at this
    rw [List.mem_filter, decide_eq_true_eq] at this
    exact this
  obtain ⟨o, r, e, _⟩ := h.kind s hs
  refine ⟨h1, by rw [e]; simp, ?_, ?_⟩
  · rw [e]; exact (h1 o (by rw [e]; exact List.mem_cons_self)).2
  · have := (h.sorts s hs).1.length_eq
    have := ofProc_len s.obj l
    omega
theorem prog_few {l : List OpT} {acc : List Seg} (h : ByProc l acc) : acc.length ≤ l.length := by
  have hn : (acc.map Seg.obj).Nodup := by
    unfold List.Nodup
    rw [List.pairwise_map]
    exact h.up.imp fun h => by omega
  have hs : ∀ x ∈ acc.map Seg.obj, x ∈ l.map OpT.Proc := fun x hx => by
    obtain ⟨s, hs, rfl⟩ := List.mem_map.1 hx
    obtain ⟨h1, h2, _, _⟩ := prog_in h hs
    obtain ⟨o, r, e⟩ := List.exists_cons_of_ne_nil h2
    have := h1 o (by rw [e]; exact List.mem_cons_self)
    rw [← this.2]
    exact List.mem_map_of_mem this.1
  have key : ∀ (D d : List Int), D.Nodup → (∀ x ∈ D, x ∈ d) → D.length ≤ d.length := by
    intro D
    induction D with
    | nil => intro d _ _; exact Nat.zero_le _
    | cons a D ih =>
      intro d nd hs
      rw [List.nodup_cons] at nd
      have h1 : ∀ x ∈ D, x ∈ d.erase a := fun x hx => (List.mem_erase_of_ne (fun e => nd.1 (by rw [← e]; exact hx))).2 (hs x (List.mem_cons_of_mem _ hx))
      have := ih _ nd.2 h1
      have ha := hs a (List.mem_cons_self ..)
      rw [List.length_erase_of_mem ha] at this
      have := List.length_pos_of_mem ha
      rw [List.length_cons]; omega
  have := key _ _ hn hs
  simpa using this
structure HistG (l : List OpT) : Prop where
  len : l.length ≤ 100
  wf : ∀ o ∈ l, o.wf
  g : ∀ o ∈ l, OpG o
section
variable {va : Value} {l : List OpT} {w : World} {s : Sc}
end
def DrawR (l : List OpT) (width : Int) (u : Value) : Prop := (¬ (8 ≤ width ∧ width ≤ 200) ∧ u = .tuple #[.string (ofL []), .int .i64 1]) ∨ ((8 ≤ width ∧ width ≤ 200) ∧ ∃ acc, ByProc l acc ∧ u = .tuple #[.string (ofL (linesL (scOf l width.toNat) (acc.map Seg.ops))), .int .i64 0])
section
variable {va : Value} {l : List OpT} {w : World} {s : Sc}
end
end Go.Proofs.Ytmdhcpghofadcaa

namespace Go.Proofs.Ytmdhcpghofadcaa
set_option linter.unusedSimpArgs false
set_option linter.unusedVariables false
set_option maxRecDepth 100000
open Go Go.Ann Go.RowKit Go.WideShapes Go.Shelf
section
variable {va : Value} {l : List OpT} {w : World} {s : Sc}
theorem draw_ok (h : RdS w 11 OpT.enc va l) (hh : HistG l) (width : Int) : Ret Try.prog 12 [va, .int .i64 width] w fun u w' => DrawR l width u ∧ Below w.heap.size w w' := by
  refine ent12 _ _ _ _ ?_
  simp (disch := first | omega | exact okFill_t rfl | exact okSize_t rfl | exact fun h => h | (simp only [World.size_alloc, World.size_drew, World.size_setCell, size_fill, bytesW]; omega)) only [go_sem, c12, c12S0, c12S1, c12L0, c12S2, c12S3, c12S4, c12S5]
  refine ⟨fun h1 => ⟨fun h2 => ⟨.inl ⟨by omega, rfl⟩, Below.refl _ _⟩, fun h2 => ?_⟩, fun h1 => ⟨.inl ⟨by omega, rfl⟩, Below.refl _ _⟩⟩
  obtain ⟨wd, rfl⟩ : ∃ wd : Nat, width = wd := ⟨width.toNat, by omega⟩
  obtain ⟨hs, hho⟩ := scOf_ok hh.g (show 8 ≤ wd by omega) (show wd ≤ 200 by omega)
  simp (disch := first | omega | exact okFill_t rfl | exact okSize_t rfl | exact fun h => h | (simp only [World.size_alloc, World.size_drew, World.size_setCell, size_fill, bytesW]; omega)) only [go_sem, c12, c12S0, c12S1, c12L0, c12S2, c12S3, c12S4, c12S6]
  refine Ret.mono (over_ok h hh.len hh.wf hh.g wd (by omega)) ?_
  rintro _ w2 ⟨rfl, b2⟩
  obtain ⟨sc, hsc⟩ : ∃ sc, sc = scOf l wd := ⟨_, rfl⟩
  have hwde : sc.wd = wd := by rw [hsc]; rfl
  rw [← hsc] at hs hho ⊢
  obtain ⟨hl, hw, hg⟩ := hh
  have s1 := ((((St.start (W0 := w)).call b2).box sc.enc.toArray 51).box #[.pointer none, .slice none 0 0] 56).nilRow 5 1
  simp only [World.size_alloc] at s1
  have asc := sc.at_
  simp (disch := first | omega | exact okFill_t rfl | exact okSize_t rfl | exact fun h => h | (simp only [World.size_alloc, World.size_drew, World.size_setCell, size_fill, bytesW]; omega)) only [go_sem, c12, c12S0, c12S1, c12L0, c12S3, c12S5, c12S6]
  refine ⟨sc.len.symm, ?_⟩
  generalize w2.heap.size = b6 at s1 ⊢
  generalize (w2.alloc (.cells sc.enc.toArray 51)).alloc (.cells #[.pointer none, .slice none 0 0] 56) = w3 at s1 ⊢
  obtain ⟨b7, hb7⟩ : ∃ b, b = b6 + 1 := ⟨_, rfl⟩
  rw [← hb7] at s1 ⊢
  have s2 : St w w3 (fun _ => False) (BuL b7 (.pointer none) (.slice none 0 0) [] ++ [.blk b6 sc.enc.toArray 51]) [] := s1.perm (List.Perm.swap ..)
  refine Ret.mono (programs_ok va l w3 (h.below s2.bel (by decide)) hl) ?_
  rintro u w4 ⟨⟨acc, vls, hacc, hP⟩, b4⟩
  have s3 := s2.made b4 (frz w4 w3.heap.size) (fun k _ _ => rfl) fun k hk => hk
  clear s1 s2
  obtain ⟨pu, cu, rfl, _⟩ := hP.top.form
  have hvl := hP.len
  have few := prog_few hacc
  have hpr : ∀ p ∈ acc.map Seg.ops, 0 ≤ procOf p ∧ procOf p ≤ 1023 := fun p hp => by
    obtain ⟨x, hx, rfl⟩ := List.mem_map.1 hp
    obtain ⟨h1, h2, h3, _⟩ := prog_in hacc hx
    obtain ⟨o, r, e⟩ := List.exists_cons_of_ne_nil h2
    have := h1 o (by rw [e]; exact List.mem_cons_self)
    rw [h3, ← this.2]
    exact ⟨(hg o this.1).p0, (hg o this.1).p1⟩
  have hlen : ∀ k, (linesL sc ((acc.take k).map Seg.ops)).length ≤ 100 * 208 := fun k => by
    rw [linesL_len fun q hq => hpr q (by obtain ⟨x, hx, rfl⟩ := List.mem_map.1 hq; exact List.mem_map_of_mem (List.mem_of_mem_take hx)), List.length_map, List.length_take]
    exact Nat.mul_le_mul (by omega) (by omega)
  simp (disch := first | omega | exact okFill_t rfl | exact okSize_t rfl | exact fun h => h | (simp only [World.size_alloc, World.size_drew, World.size_setCell, size_fill, bytesW]; omega)) only [go_sem, c12, c12S0, c12S1, c12S2, c12S3, c12S5, c12S6]
  refine W_loopU (fun k : Nat => [(22, .int .i64 k)]) (fun k w' => k ≤ acc.length ∧ ∃ p v, BuOk b7 p v (linesL sc ((acc.take k).map Seg.ops)) ∧ St w w' (fun _ => False) (BuL b7 p v (linesL sc ((acc.take k).map Seg.ops)) ++ [.blk b6 sc.enc.toArray 51]) [frz w4 w3.heap.size]) (fun k => acc.length - k) 0 (by rw [hvl]; rfl) ⟨Nat.zero_le _, _, _, ⟨.inl rfl, fun _ => rfl⟩, s3⟩ ?_
  clear s3
  rintro k w5 ⟨hk, bp, bv, bok, s5⟩
  have hP5 := hP.frz (s5.get 0 rfl)
  by_cases hlt : k < acc.length
  · have hlt' : (k : Int) < vls.length := by omega
    obtain ⟨q, rfl⟩ := hP5.top.ptr (by omega)
    have hkv : k < vls.length := by omega
    obtain ⟨p, hp⟩ : ∃ p, p = acc[k] := ⟨_, rfl⟩
    have hm : p ∈ acc := by rw [hp]; exact List.getElem_mem hlt
    have et := List.take_succ_eq_append_getElem hlt
    rw [← hp] at et
    obtain ⟨vp, hvpe⟩ : ∃ v, v = vls[k] := ⟨_, rfl⟩
    have hvm : vp ∈ vls := by rw [hvpe]; exact List.getElem_mem hkv
    have ck := (show RdS w5 1 (fun v : Value => [v]) (.slice (some q) vls.length cu) vls from hP5.top).at1 (e1 := fun v => v) hkv
    rw [← hvpe] at ck
    have hvq : vls[k]? = some vp := by rw [hvpe]; exact List.getElem?_eq_getElem hkv
    have haq : acc[k]? = some p := by rw [hp]; exact List.getElem?_eq_getElem hlt
    obtain ⟨hvp, hpl100⟩ := hP5.elt k p vp haq hvq
    have e1 : linesL sc ((acc.take (k + 1)).map Seg.ops) = linesL sc ((acc.take k).map Seg.ops) ++ lineL sc p.ops := by rw [et, List.map_append]; exact linesL_snoc _ _ _
    obtain ⟨hi1, hi2, hi3, hi4⟩ := prog_in hacc hm
    have hpp := hpr p.ops (List.mem_map_of_mem hm)
    obtain ⟨o, r, e⟩ := List.exists_cons_of_ne_nil hi2
    have hlk := hlen k
    obtain ⟨pp, cp, rfl, _⟩ := hvp.form
    obtain ⟨pp, rfl⟩ := hvp.ptr (by rw [e]; simp)
    have e0 := hvp.elt OpT.len (by decide) (show 0 < p.ops.length by rw [e]; simp)
    have eo : p.ops[0]'(by rw [e]; simp) = o := by simp [e]
    rw [eo] at e0
    have ao := o.at
    have hpo : procOf p.ops = o.Proc := by rw [e]; rfl
    have hlen0 : 0 < p.ops.length := by rw [e]; simp
    have hI : I64 o.Proc := by
      have h0 := (hg o (hi1 o (by rw [e]; exact List.mem_cons_self)).1)
      have := h0.p0; have := h0.p1
      constructor <;> omega
    have hpl4 := proc_len hpp.1 hpp.2
    rw [hpo] at hpl4
    have fnew : w3.heap.size ≤ pp.block ∧ pp.block < w4.heap.size := ⟨hP.newE _ hvm pp.block ⟨pp, _, _, rfl, by omega, rfl⟩, (hP.elt k p _ haq hvq).1.footLt (by decide) ⟨pp, _, _, rfl, by omega, rfl⟩⟩
    simp (disch := first | omega | exact okFill_t rfl | exact okSize_t rfl | exact fun h => h | (simp only [World.size_alloc, World.size_drew, World.size_setCell, size_fill, bytesW]; omega)) only [go_sem, c12, c12S0, c12S1, c12L0, c12S2, c12S3, c12S4, c12S5, c12S6, c12L0, hlt', ck]
    refine ⟨by omega, c12draw0 (Same (fun j => j = b6 ∨ j = pp.block) _) (Same.refl _ _) ?_⟩
    have s6 := s5.drew
    have hP6 := hP.frz (s6.get 0 rfl)
    have hvp6 := (hP6.elt k p _ haq hvq).1
    have e0 := hvp6.elt OpT.len (by decide) hlen0
    rw [eo] at e0
    have r6 := s6.rules 2 rfl
    generalize w5.drew = w6 at s6 hP6 hvp6 e0 r6 ⊢
    have e9 : w6.cell? ⟨pp.block, pp.off + 1, none⟩ = some (.int .i64 o.Proc) := by
      have := e0.2 1 (by decide) (by decide)
      simpa [ao] using this
    have sm : ∀ bp' bv' bs' w', St w w' (fun _ => False) (BuL b7 bp' bv' bs' ++ [.blk b6 sc.enc.toArray 51]) [frz w4 w3.heap.size] → Same (fun j => j = b6 ∨ j = pp.block) w6 w' := by
      intro bp' bv' bs' w' h' j hj
      rcases hj with rfl | rfl
      · exact Eq.trans (h'.blk 2 rfl) (s6.blk 2 rfl).symm
      · exact Eq.trans (h'.get 0 rfl _ fnew.1 fnew.2) (s6.get 0 rfl _ fnew.1 fnew.2).symm
    simp (disch := first | omega | exact okFill_t rfl | exact okSize_t rfl | exact fun h => h | (simp only [World.size_alloc, World.size_drew, World.size_setCell, size_fill, bytesW]; omega)) only [go_sem, c12, c12S0, c12S1, c12L0, c12S2, c12S3, c12S5, c12S6, c12D0, r6, asc, e9]
    refine ⟨by omega, Ret.mono (digits_ok _ w6 hI) ?_⟩
    rintro _ w7 ⟨rfl, b7'⟩
    have s7 := s6.call b7'
    simp (disch := first | omega | exact okFill_t rfl | exact okSize_t rfl | exact fun h => h | (simp only [World.size_alloc, World.size_drew, World.size_setCell, size_fill, bytesW]; omega)) only [go_sem, c12, c12S0, c12S1, c12L0, c12S2, c12S3, c12S5, c12S6, c12D0]
    refine ⟨sm _ _ _ _ s7, by omega, Ret.mono (head_ok (112 :: numL o.Proc) (by rw [List.length_cons]; omega) w7) ?_⟩
    rintro _ w8 ⟨rfl, b8⟩
    have s8 := s7.call b8
    have b68 := b7'.trans (b8.mono b7'.size)
    have hhl : (headL (112 :: numL o.Proc)).length = 7 := headL_len (by rw [List.length_cons]; omega)
    simp (disch := first | omega | exact okFill_t rfl | exact okSize_t rfl | exact fun h => h | (simp only [World.size_alloc, World.size_drew, World.size_setCell, size_fill, bytesW]; omega)) only [go_sem, c12, c12S0, c12S1, c12L0, c12S2, c12S3, c12S5, c12S6, c12D0]
    refine ⟨sm _ _ _ _ s8, Ret.mono (row_ok (hvp6.below b68 (by decide)) (by omega) (fun x hx => hw x (hi1 x hx).1) hs (fun x hx => hho x (hi1 x hx).1)) ?_⟩
    rintro _ w9 ⟨rfl, b9⟩
    have s9 := s8.call b9
    have hrl : (rowL sc p.ops).length = sc.wd := bytesF_len _ _
    have hll : (lineL sc p.ops).length = 8 + sc.wd := lineL_len hpp.1 hpp.2
    have ell : headL (112 :: numL o.Proc) ++ rowL sc p.ops ++ [10] = lineL sc p.ops := by unfold lineL; rw [hpo]
    simp (disch := first | omega | exact okFill_t rfl | exact okSize_t rfl | exact fun h => h | (simp only [World.size_alloc, World.size_drew, World.size_setCell, size_fill, bytesW]; omega)) only [go_sem, c12, c12S0, c12S1, c12L0, c12S2, c12S3, c12S5, c12S6, c12D0]
    refine ⟨sm _ _ _ _ s9, by omega, by rw [List.length_append]; omega, ?_⟩
    rw [ell]
    refine Ret.mono (writeS_ok (lineL sc p.ops) s9 bok (by omega)) ?_
    rintro u10 w10 ⟨bp', bv', bok', s10⟩
    rw [← e1] at bok' s10
    simp (disch := first | omega | exact okFill_t rfl | exact okSize_t rfl | exact fun h => h | (simp only [World.size_alloc, World.size_drew, World.size_setCell, size_fill, bytesW]; omega)) only [go_sem, c12, c12S0, c12S1, c12L0, c12S2, c12S3, c12S5, c12S6, c12D0]
    exact ⟨sm _ _ _ _ s10, by constructor <;> omega, k + 1, rfl, ⟨hlt, bp', bv', bok', s10⟩, by omega⟩
  · have hlt' : ¬ (k : Int) < vls.length := by omega
    have hkk : k = acc.length := by omega
    subst hkk
    have hl0 := hlen acc.length
    rw [List.take_length] at s5 bok hl0
    simp (disch := first | omega | exact okFill_t rfl | exact okSize_t rfl | exact fun h => h | (simp only [World.size_alloc, World.size_drew, World.size_setCell, size_fill, bytesW]; omega)) only [go_sem, c12, c12S0, c12S1, c12L0, c12S2, c12S3, c12S4, c12S5, c12S6, c12L0, hlt']
    refine Ret.mono (stringS_ok s5 bok (by omega)) ?_
    rintro _ w6 ⟨rfl, s6⟩
    simp (disch := first | omega | exact okFill_t rfl | exact okSize_t rfl | exact fun h => h | (simp only [World.size_alloc, World.size_drew, World.size_setCell, size_fill, bytesW]; omega)) only [go_sem, c12, c12S0, c12S1, c12L0, c12S2, c12S3, c12S4, c12S5, c12S6]
    exact ⟨.inr ⟨⟨h1, h2⟩, acc, hacc, by rw [Int.toNat_natCast, ← hsc]⟩, s6.bel⟩
end
end Go.Proofs.Ytmdhcpghofadcaa

namespace Go.Proofs.Ytmdhcpghofadcaa
set_option linter.unusedSimpArgs false
set_option linter.unusedVariables false
set_option maxRecDepth 100000
open Go Go.Ann Go.RowKit
theorem between_ok (a b c : Int) (w : World) : Ret Try.prog 53 [.int .i64 a, .int .i64 b, .int .i64 c] w fun v w' => v = .bool (decide (b ≤ a ∧ a ≤ c)) ∧ Below w.heap.size w w' := by
  refine ent53 _ _ _ _ _ ?_
  simp (disch := first | omega | exact okFill_t rfl | exact okSize_t rfl | exact fun h => h | (simp only [World.size_alloc, World.size_drew, World.size_setCell, size_fill, bytesW]; omega)) only [go_sem, c53]
  refine ⟨fun h => ⟨?_, Below.refl _ _⟩, fun h => ⟨?_, Below.refl _ _⟩⟩
  · rw [Bool.eq_iff_iff]; simp; omega
  · rw [eq_comm, decide_eq_false_iff_not]; omega
theorem answer_ok (a b : Int) (w : World) : Ret Try.prog 55 [.int .i64 a, .int .i64 b] w fun v w' => (∃ r, v = .bool r) ∧ Below w.heap.size w w' := by
  refine ent55 _ _ _ _ ?_
  simp (disch := first | omega | exact okFill_t rfl | exact okSize_t rfl | exact fun h => h | (simp only [World.size_alloc, World.size_drew, World.size_setCell, size_fill, bytesW]; omega)) only [go_sem, c55, c55S0, c55S1, c55S2, c55S3, c55S4, c55S5, c55S6]
  refine ⟨fun _ => by (repeat' (first | with_reducible exact Below.refl _ _ | with_reducible assumption | (with_reducible refine Below.drew ?_) | (with_reducible refine Below.alloc ?_ ?_ _) | (with_reducible refine Below.setCell ?_ ?_ _) | (with_reducible refine Below.fill ?_ ?_) | (with_reducible refine Below.via (by assumption) ?_ ?_) | omega | (simp only [World.size_alloc, World.size_drew, World.size_setCell, size_fill, bytesW]; omega))), fun _ => ⟨fun _ => ⟨fun _ => by (repeat' (first | with_reducible exact Below.refl _ _ | with_reducible assumption | (with_reducible refine Below.drew ?_) | (with_reducible refine Below.alloc ?_ ?_ _) | (with_reducible refine Below.setCell ?_ ?_ _) | (with_reducible refine Below.fill ?_ ?_) | (with_reducible refine Below.via (by assumption) ?_ ?_) | omega | (simp only [World.size_alloc, World.size_drew, World.size_setCell, size_fill, bytesW]; omega))), fun _ => by (repeat' (first | with_reducible exact Below.refl _ _ | with_reducible assumption | (with_reducible refine Below.drew ?_) | (with_reducible refine Below.alloc ?_ ?_ _) | (with_reducible refine Below.setCell ?_ ?_ _) | (with_reducible refine Below.fill ?_ ?_) | (with_reducible refine Below.via (by assumption) ?_ ?_) | omega | (simp only [World.size_alloc, World.size_drew, World.size_setCell, size_fill, bytesW]; omega)))⟩, fun _ => ⟨fun _ => Ret.mono (between_ok _ _ _ _) ?_, fun _ => ⟨fun _ => Ret.mono (between_ok _ _ _ _) ?_, fun _ => Ret.mono (between_ok _ _ _ _) ?_⟩⟩⟩⟩
  all_goals
    rintro _ w2 ⟨rfl, b2⟩
    simp (disch := first | omega | exact okFill_t rfl | exact okSize_t rfl | exact fun h => h | (simp only [World.size_alloc, World.size_drew, World.size_setCell, size_fill, bytesW]; omega)) only [go_sem, c55, c55S0, c55S1, c55S2, c55S3, c55S4, c55S5, c55S6]
    exact b2
structure Row4 where
  kind : Int
  method : Int
  args : Int
  how : Int
def Row4.enc (r : Row4) : List Value := [.int .i64 r.kind, .int .i64 r.method, .int .i64 r.args, .int .i64 r.how]
theorem Row4.len (r : Row4) : r.enc.length = 4 := rfl
theorem Row4.one (r : Row4) : ∀ u ∈ r.enc, u.oneCell' = true := by intro u hu; simp only [Row4.enc, List.mem_cons, List.not_mem_nil, or_false] at hu; rcases hu with rfl | rfl | rfl | rfl <;> rfl
theorem Row4.at (r : Row4) : r.enc[0]? = some (.int .i64 r.kind) ∧ r.enc[1]? = some (.int .i64 r.method) ∧ r.enc[2]? = some (.int .i64 r.args) ∧ r.enc[3]? = some (.int .i64 r.how) := ⟨rfl, rfl, rfl, rfl⟩
def rowsTable : List Row4 := [⟨1, 1, 0, 2⟩, ⟨1, 2, 1, 0⟩, ⟨1, 3, 2, 1⟩, ⟨2, 1, 0, 3⟩, ⟨2, 4, 0, 0⟩, ⟨2, 5, 0, 0⟩, ⟨3, 6, 1, 0⟩, ⟨3, 7, 0, 4⟩, ⟨4, 8, 1, 0⟩, ⟨4, 9, 0, 4⟩, ⟨5, 10, 1, 1⟩, ⟨5, 11, 1, 1⟩, ⟨5, 12, 1, 1⟩, ⟨6, 13, 0, 0⟩, ⟨6, 14, 0, 0⟩]
set_option maxRecDepth 100000 in
theorem rows_ok (w : World) : Ret Try.prog 72 [] w fun v w' => RdS w' 4 Row4.enc v rowsTable ∧ Below w.heap.size w w' := by
  refine ent72 _ _ ?_
  simp (disch := first | omega | exact okFill_t rfl | exact okSize_t rfl | exact fun h => h | (simp only [World.size_alloc, World.size_drew, World.size_setCell, size_fill, bytesW]; omega)) only [go_sem, c72]
  refine bdW_built (cells := (Row4.enc ⟨1, 1, 0, 2⟩).toArray) (by kernel_rfl) ?_
  simp (disch := first | omega | exact okFill_t rfl | exact okSize_t rfl | exact fun h => h | (simp only [World.size_alloc, World.size_drew, World.size_setCell, size_fill, bytesW]; omega)) only [go_sem, c72]
  refine bdW_built (cells := (Row4.enc ⟨1, 2, 1, 0⟩).toArray) (by kernel_rfl) ?_
  simp (disch := first | omega | exact okFill_t rfl | exact okSize_t rfl | exact fun h => h | (simp only [World.size_alloc, World.size_drew, World.size_setCell, size_fill, bytesW]; omega)) only [go_sem, c72]
  refine bdW_built (cells := (Row4.enc ⟨1, 3, 2, 1⟩).toArray) (by kernel_rfl) ?_
  simp (disch := first | omega | exact okFill_t rfl | exact okSize_t rfl | exact fun h => h | (simp only [World.size_alloc, World.size_drew, World.size_setCell, size_fill, bytesW]; omega)) only [go_sem, c72]
  refine bdW_built (cells := (Row4.enc ⟨2, 1, 0, 3⟩).toArray) (by kernel_rfl) ?_
  simp (disch := first | omega | exact okFill_t rfl | exact okSize_t rfl | exact fun h => h | (simp only [World.size_alloc, World.size_drew, World.size_setCell, size_fill, bytesW]; omega)) only [go_sem, c72]
  refine bdW_built (cells := (Row4.enc ⟨2, 4, 0, 0⟩).toArray) (by kernel_rfl) ?_
  simp (disch := first | omega | exact okFill_t rfl | exact okSize_t rfl | exact fun h => h | (simp only [World.size_alloc, World.size_drew, World.size_setCell, size_fill, bytesW]; omega)) only [go_sem, c72]
  refine bdW_built (cells := (Row4.enc ⟨2, 5, 0, 0⟩).toArray) (by kernel_rfl) ?_
  simp (disch := first | omega | exact okFill_t rfl | exact okSize_t rfl | exact fun h => h | (simp only [World.size_alloc, World.size_drew, World.size_setCell, size_fill, bytesW]; omega)) only [go_sem, c72]
  refine bdW_built (cells := (Row4.enc ⟨3, 6, 1, 0⟩).toArray) (by kernel_rfl) ?_
  simp (disch := first | omega | exact okFill_t rfl | exact okSize_t rfl | exact fun h => h | (simp only [World.size_alloc, World.size_drew, World.size_setCell, size_fill, bytesW]; omega)) only [go_sem, c72]
  refine bdW_built (cells := (Row4.enc ⟨3, 7, 0, 4⟩).toArray) (by kernel_rfl) ?_
  simp (disch := first | omega | exact okFill_t rfl | exact okSize_t rfl | exact fun h => h | (simp only [World.size_alloc, World.size_drew, World.size_setCell, size_fill, bytesW]; omega)) only [go_sem, c72]
  refine bdW_built (cells := (Row4.enc ⟨4, 8, 1, 0⟩).toArray) (by kernel_rfl) ?_
  simp (disch := first | omega | exact okFill_t rfl | exact okSize_t rfl | exact fun h => h | (simp only [World.size_alloc, World.size_drew, World.size_setCell, size_fill, bytesW]; omega)) only [go_sem, c72]
  refine bdW_built (cells := (Row4.enc ⟨4, 9, 0, 4⟩).toArray) (by kernel_rfl) ?_
  simp (disch := first | omega | exact okFill_t rfl | exact okSize_t rfl | exact fun h => h | (simp only [World.size_alloc, World.size_drew, World.size_setCell, size_fill, bytesW]; omega)) only [go_sem, c72]
  refine bdW_built (cells := (Row4.enc ⟨5, 10, 1, 1⟩).toArray) (by kernel_rfl) ?_
  simp (disch := first | omega | exact okFill_t rfl | exact okSize_t rfl | exact fun h => h | (simp only [World.size_alloc, World.size_drew, World.size_setCell, size_fill, bytesW]; omega)) only [go_sem, c72]
  refine bdW_built (cells := (Row4.enc ⟨5, 11, 1, 1⟩).toArray) (by kernel_rfl) ?_
  simp (disch := first | omega | exact okFill_t rfl | exact okSize_t rfl | exact fun h => h | (simp only [World.size_alloc, World.size_drew, World.size_setCell, size_fill, bytesW]; omega)) only [go_sem, c72]
  refine bdW_built (cells := (Row4.enc ⟨5, 12, 1, 1⟩).toArray) (by kernel_rfl) ?_
  simp (disch := first | omega | exact okFill_t rfl | exact okSize_t rfl | exact fun h => h | (simp only [World.size_alloc, World.size_drew, World.size_setCell, size_fill, bytesW]; omega)) only [go_sem, c72]
  refine bdW_built (cells := (Row4.enc ⟨6, 13, 0, 0⟩).toArray) (by kernel_rfl) ?_
  simp (disch := first | omega | exact okFill_t rfl | exact okSize_t rfl | exact fun h => h | (simp only [World.size_alloc, World.size_drew, World.size_setCell, size_fill, bytesW]; omega)) only [go_sem, c72]
  refine bdW_built (cells := (Row4.enc ⟨6, 14, 0, 0⟩).toArray) (by kernel_rfl) ?_
  simp (disch := first | omega | exact okFill_t rfl | exact okSize_t rfl | exact fun h => h | (simp only [World.size_alloc, World.size_drew, World.size_setCell, size_fill, bytesW]; omega)) only [go_sem, c72]
  refine bsW_cells (cells := (rowsTable.flatMap Row4.enc).toArray) ty110mkI (by decide) (by decide) (by kernel_rfl) ?_
  simp (disch := first | omega | exact okFill_t rfl | exact okSize_t rfl | exact fun h => h | (simp only [World.size_alloc, World.size_drew, World.size_setCell, size_fill, bytesW]; omega)) only [go_sem, c72]
  exact ⟨rd_new (w := w) (sz := 4) (n := 15) (cs := (rowsTable.flatMap Row4.enc).toArray) rfl, by (repeat' (first | with_reducible exact Below.refl _ _ | with_reducible assumption | (with_reducible refine Below.drew ?_) | (with_reducible refine Below.alloc ?_ ?_ _) | (with_reducible refine Below.setCell ?_ ?_ _) | (with_reducible refine Below.fill ?_ ?_) | (with_reducible refine Below.via (by assumption) ?_ ?_) | omega | (simp only [World.size_alloc, World.size_drew, World.size_setCell, size_fill, bytesW]; omega)))⟩
theorem find_ok (a b : Int) (w : World) : Ret Try.prog 54 [.int .i64 a, .int .i64 b] w fun v w' => (∃ r : Row4, ∃ k, v = .tuple #[.agg r.enc.toArray, .bool k]) ∧ Below w.heap.size w w' := by
  refine ent54 _ _ _ _ ?_
  simp (disch := first | omega | exact okFill_t rfl | exact okSize_t rfl | exact fun h => h | (simp only [World.size_alloc, World.size_drew, World.size_setCell, size_fill, bytesW]; omega)) only [go_sem, c54, c54S0, c54S1, c54L0, c54S2, c54S3]
  obtain ⟨z, hz⟩ : ∃ z : Row4, z = ⟨0, 0, 0, 0⟩ := ⟨_, rfl⟩
  have s1 := (St.start (W0 := w)).box z.enc.toArray 91
  have hzz : #[Value.int .i64 0, .int .i64 0, .int .i64 0, .int .i64 0] = z.enc.toArray := by rw [hz]; rfl
  rw [hzz]
  generalize w.alloc (.cells z.enc.toArray 91) = w1 at s1 ⊢
  obtain ⟨b0, hb0⟩ : ∃ b, b = w.heap.size := ⟨_, rfl⟩
  have hbb : ∀ w', Below w.heap.size w w' → Below b0 w w' := fun _ h => by rw [hb0]; exact h
  rw [← hb0] at s1 ⊢
  have az := z.at
  refine Ret.mono (rows_ok _) ?_
  rintro vt w2 ⟨ht, b2⟩
  obtain ⟨pt, ct, rfl, _⟩ := ht.form
  have s2 := s1.call b2
  simp (disch := first | omega | exact okFill_t rfl | exact okSize_t rfl | exact fun h => h | (simp only [World.size_alloc, World.size_drew, World.size_setCell, size_fill, bytesW]; omega)) only [go_sem, c54, c54S0, c54S1, c54L0, c54S2, c54S3]
  refine W_loopU (fun k : Nat => [(7, .int .i64 k)]) (fun k w' => Below w2.heap.size w2 w' ∧ k ≤ rowsTable.length) (fun k => rowsTable.length - k) 0 rfl ⟨Below.refl _ _, Nat.zero_le _⟩ ?_
  rintro k w3 ⟨b3, hk⟩
  have s3 := s2.call b3
  have r3 := s3.rules 0 rfl
  have h3 := ht.below b3 (by decide)
  have b03 := s3.bel
  have hsz : rowsTable.length = 15 := rfl
  generalize rowsTable = tb at *
  by_cases hlt : k < tb.length
  · have hlt' : (k : Int) < tb.length := by omega
    obtain ⟨p, rfl⟩ := ht.ptr (by omega)
    have ek := h3.eltB (Below.refl _ _) Row4.len (by decide) hlt
    have ck := h3.at Row4.len hlt
    have ak := tb[k].at
    simp (disch := first | omega | exact okFill_t rfl | exact okSize_t rfl | exact fun h => h | (simp only [World.size_alloc, World.size_drew, World.size_setCell, size_fill, bytesW]; omega)) only [go_sem, c54, c54S0, c54S1, c54L0, c54S2, c54S3, hlt', ek, ak, ck, r3, az]
    refine ⟨by omega, fun e1 => ⟨by omega, fun e2 => ⟨by omega, tb[k].len.symm, blk_okSt (s3.blk 0 rfl) tb[k].one (Nat.le_refl _), ⟨tb[k], true, rfl⟩, hbb _ ((s3.fill 0 rfl (cs := tb[k].enc.toArray) rfl).bel)⟩, fun e2 => ⟨⟨by omega, by omega⟩, k + 1, rfl, ⟨b3, by omega⟩, by omega⟩⟩, fun e1 => ⟨⟨by omega, by omega⟩, k + 1, rfl, ⟨b3, by omega⟩, by omega⟩⟩
  · have hlt' : ¬ (k : Int) < tb.length := by omega
    simp (disch := first | omega | exact okFill_t rfl | exact okSize_t rfl | exact fun h => h | (simp only [World.size_alloc, World.size_drew, World.size_setCell, size_fill, bytesW]; omega)) only [go_sem, c54, c54S0, c54S1, c54L0, c54S2, c54S3, hlt', r3]
    refine bdW_built (cells := z.enc.toArray) (by rw [hz]; kernel_rfl) ?_
    simp (disch := first | omega | exact okFill_t rfl | exact okSize_t rfl | exact fun h => h | (simp only [World.size_alloc, World.size_drew, World.size_setCell, size_fill, bytesW]; omega)) only [go_sem, c54, c54S0, c54S1, c54L0, c54S2, c54S3, hlt', r3, az]
    exact ⟨z.len.symm, blk_okSt (s3.blk 0 rfl) z.one (Nat.le_refl _), ⟨z, false, rfl⟩, hbb _ ((s3.fill 0 rfl (cs := z.enc.toArray) rfl).bel)⟩
def TimeG (o : OpT) : Prop := 0 ≤ o.Invoke ∧ o.Invoke ≤ 1099511627776 ∧ (o.Done = true → o.Invoke < o.Return ∧ o.Return ≤ 1099511627776) ∧ (o.Done = false → o.Return = 0)
theorem check6 {o : OpT} {w : World} {K : Value → World → Prop} {b0 : Nat} (hb0 : b0 < w.heap.size) (h0 : Blk w b0 o.enc.toArray 23) (hK : ∀ e w', (e = 0 → TimeG o) → Below w.heap.size w w' → K (.int .i64 e) w') :
    W Try.prog (c34S6 ()) [(1, .pointer (some ⟨b0, 0, none⟩))] w (finQ Try.prog [.tmp 2] K) := by
  have r0 := h0.rules
  have ao := o.at
  simp (disch := first | omega | exact okFill_t rfl | exact okSize_t rfl | exact fun h => h | (simp only [World.size_alloc, World.size_drew, World.size_setCell, size_fill, bytesW]; omega)) only [go_sem, c34, c34S0, c34S1, c34S2, c34S3, c34S4, c34S5, c34S6, c34S7, c34S8, c34S9, c34S10, c34S11, c34S12, r0, ao]
  refine Ret.mono (between_ok _ _ _ _) ?_
  rintro _ w2 ⟨rfl, b2⟩
  clear r0
  have r0 := (h0.below b2 hb0).rules
  have bad : K (.int .i64 31) w2 := hK 31 w2 (fun h => absurd h (by decide)) b2
  have good : TimeG o → K (.int .i64 0) w2 := fun h => hK 0 w2 (fun _ => h) b2
  clear hK
  simp (disch := first | omega | exact okFill_t rfl | exact okSize_t rfl | exact fun h => h | (simp only [World.size_alloc, World.size_drew, World.size_setCell, size_fill, bytesW]; omega)) only [go_sem, c34, c34S0, c34S1, c34S2, c34S3, c34S4, c34S5, c34S6, c34S7, c34S8, c34S9, c34S10, c34S11, c34S12, r0, ao]
  repeat' first | with_reducible apply And.intro | with_reducible intro h
  all_goals first
    | exact bad
    | exact good ⟨by omega, by omega, fun hd => by first | omega | simp_all, fun hd => by first | omega | simp_all⟩
theorem check8 {o : OpT} {r : Row4} {w : World} {K : Value → World → Prop} {b0 b1 : Nat} (m n : Int) (hb0 : b0 < w.heap.size) (h0 : Blk w b0 o.enc.toArray 23) (h1 : Blk w b1 r.enc.toArray 91)
    (hK : ∀ e w', (e = 0 → TimeG o) → Below w.heap.size w w' → K (.int .i64 e) w') :
    W Try.prog (c34S8 ()) [(1, .pointer (some ⟨b0, 0, none⟩)), (3, .pointer (some ⟨b1, 0, none⟩)), (5, .int .i64 m), (6, .int .i64 n)] w (finQ Try.prog [.tmp 2] K) := by
  have hb1 := h1.lt
  have bad : ∀ w', Below w.heap.size w w' → K (.int .i64 33) w' := fun w' b => hK 33 w' (fun h => absurd h (by decide)) b
  have r0 := h0.rules
  have r1 := h1.rules
  have ao := o.at
  have ar := r.at
  simp (disch := first | omega | exact okFill_t rfl | exact okSize_t rfl | exact fun h => h | (simp only [World.size_alloc, World.size_drew, World.size_setCell, size_fill, bytesW]; omega)) only [go_sem, c34, c34S0, c34S1, c34S2, c34S3, c34S4, c34S5, c34S6, c34S7, c34S8, c34S9, c34S10, c34S11, c34S12, r0, r1, ao, ar]
  refine Ret.mono (between_ok _ _ _ _) ?_
  rintro _ w2 ⟨rfl, b2⟩
  clear r0 r1
  have r0 := (h0.below b2 hb0).rules
  have r1 := (h1.below b2 hb1).rules
  simp (disch := first | omega | exact okFill_t rfl | exact okSize_t rfl | exact fun h => h | (simp only [World.size_alloc, World.size_drew, World.size_setCell, size_fill, bytesW]; omega)) only [go_sem, c34, c34S0, c34S1, c34S2, c34S3, c34S4, c34S5, c34S6, c34S7, c34S8, c34S9, c34S10, c34S11, c34S12, r0, r1, ao, ar]
  refine ⟨fun _ => Ret.mono (between_ok _ _ _ _) ?_, fun _ => bad _ b2⟩
  rintro _ w3 ⟨rfl, b3⟩
  have b03 := b2.trans (b3.mono b2.size)
  clear r0 r1
  have r0 := (h0.below b03 hb0).rules
  have r1 := (h1.below b03 hb1).rules
  have t6 : ∀ w', Below w.heap.size w w' → W Try.prog (c34S6 ()) [(1, .pointer (some ⟨b0, 0, none⟩))] w' (finQ Try.prog [.tmp 2] K) := fun w' h => check6 (Nat.lt_of_lt_of_le hb0 h.size) (h0.below h hb0) fun e w'' he b => hK e w'' he (h.trans (b.mono h.size))
  have t63 := t6 _ b03
  have bad3 := bad _ b03
  simp (disch := first | omega | exact okFill_t rfl | exact okSize_t rfl | exact fun h => h | (simp only [World.size_alloc, World.size_drew, World.size_setCell, size_fill, bytesW]; omega)) only [go_sem, c34, c34S0, c34S1, c34S2, c34S3, c34S4, c34S5, c34S7, c34S8, c34S9, c34S10, c34S11, c34S12, r0, r1, ao, ar]
  repeat' first | with_reducible apply And.intro | with_reducible intro h
  all_goals first
    | exact t63
    | exact bad3
    | (refine Ret.mono (answer_ok _ _ _) ?_
       rintro _ w4 ⟨⟨x4, rfl⟩, b4⟩
       have b04 := b03.trans (b4.mono b03.size)
       clear r0 r1
       have r0 := (h0.below b04 hb0).rules
       have t64 := t6 _ b04
       have bad4 := bad _ b04
       simp (disch := first | omega | exact okFill_t rfl | exact okSize_t rfl | exact fun h => h | (simp only [World.size_alloc, World.size_drew, World.size_setCell, size_fill, bytesW]; omega)) only [go_sem, c34, c34S0, c34S1, c34S2, c34S3, c34S4, c34S5, c34S7, c34S8, c34S9, c34S10, c34S11, c34S12, r0, ao]
       repeat' first | with_reducible apply And.intro | with_reducible intro h
       all_goals first
         | exact t64
         | exact bad4)
def ChkR (o : OpT) (v : Value) : Prop := ∃ e, v = .int .i64 e ∧ (e = 0 → OpG o)
theorem ChkR.bad (o : OpT) {e : Int} (h : e ≠ 0) : ChkR o (.int .i64 e) := ⟨e, rfl, fun h' => absurd h' h⟩
theorem checkOp_ok (o : OpT) (w : World) : Ret Try.prog 34 [.agg o.enc.toArray] w fun v w' => ChkR o v ∧ Below w.heap.size w w' := by
  refine ent34 _ _ _ ?_
  simp (disch := first | omega | exact okFill_t rfl | exact okSize_t rfl | exact fun h => h | (simp only [World.size_alloc, World.size_drew, World.size_setCell, size_fill, bytesW]; omega)) only [go_sem, c34, c34S0, c34S1, c34S2, c34S3, c34S4, c34S5, c34S6, c34S7, c34S8, c34S9, c34S10, c34S11, c34S12]
  have s1 := (St.start (W0 := w)).box o.enc.toArray 23
  generalize w.alloc (.cells o.enc.toArray 23) = w1 at s1 ⊢
  obtain ⟨b0, hb0⟩ : ∃ b, b = w.heap.size := ⟨_, rfl⟩
  have hbb : ∀ w', Below w.heap.size w w' → Below b0 w w' := fun _ h => by rw [hb0]; exact h
  rw [← hb0] at s1 ⊢
  have ao := o.at
  simp (disch := first | omega | exact okFill_t rfl | exact okSize_t rfl | exact fun h => h | (simp only [World.size_alloc, World.size_drew, World.size_setCell, size_fill, bytesW]; omega)) only [go_sem, c34, c34S0, c34S1, c34S2, c34S3, c34S4, c34S5, c34S6, c34S7, c34S8, c34S9, c34S10, c34S11, c34S12, ao]
  refine Ret.mono (between_ok _ _ _ _) ?_
  rintro _ w2 ⟨rfl, b2⟩
  have s2 := s1.call b2
  clear s1 b2
  have r2 := s2.rules 0 rfl
  simp (disch := first | omega | exact okFill_t rfl | exact okSize_t rfl | exact fun h => h | (simp only [World.size_alloc, World.size_drew, World.size_setCell, size_fill, bytesW]; omega)) only [go_sem, c34, c34S0, c34S1, c34S2, c34S3, c34S4, c34S5, c34S6, c34S7, c34S8, c34S9, c34S10, c34S11, c34S12, ao, r2]
  refine ⟨fun _ => Ret.mono (between_ok _ _ _ _) ?_, fun _ => ⟨.bad o (by decide), hbb _ s2.bel⟩⟩
  rintro _ w3 ⟨rfl, b3⟩
  have s3 := s2.call b3
  clear s2 b3 r2
  have r3 := s3.rules 0 rfl
  simp (disch := first | omega | exact okFill_t rfl | exact okSize_t rfl | exact fun h => h | (simp only [World.size_alloc, World.size_drew, World.size_setCell, size_fill, bytesW]; omega)) only [go_sem, c34, c34S0, c34S1, c34S2, c34S3, c34S4, c34S5, c34S6, c34S7, c34S8, c34S9, c34S10, c34S11, c34S12, ao, r3]
  refine ⟨fun hp => Ret.mono (between_ok _ _ _ _) ?_, fun _ => ⟨.bad o (by decide), hbb _ s3.bel⟩⟩
  rintro _ w4 ⟨rfl, b4⟩
  have s4 := s3.call b4
  clear s3 b4 r3
  have r4 := s4.rules 0 rfl
  simp (disch := first | omega | exact okFill_t rfl | exact okSize_t rfl | exact fun h => h | (simp only [World.size_alloc, World.size_drew, World.size_setCell, size_fill, bytesW]; omega)) only [go_sem, c34, c34S0, c34S1, c34S2, c34S3, c34S4, c34S5, c34S6, c34S7, c34S8, c34S9, c34S10, c34S11, c34S12, ao, r4]
  refine ⟨fun _ => ⟨.bad o (by decide), hbb _ s4.bel⟩, fun hq => Ret.mono (find_ok _ _ _) ?_⟩
  rintro _ w5 ⟨⟨r, kk, rfl⟩, b5⟩
  have s5 := s4.call b5
  clear s4 b5 r4
  have ar := r.at
  have r5 := s5.rules 0 rfl
  simp (disch := first | omega | exact okFill_t rfl | exact okSize_t rfl | exact fun h => h | (simp only [World.size_alloc, World.size_drew, World.size_setCell, size_fill, bytesW]; omega)) only [go_sem, c34, c34S0, c34S1, c34S2, c34S3, c34S4, c34S5, c34S6, c34S7, c34S9, c34S10, c34S11, c34S12, ao, ar, r5]
  have s6 := s5.box r.enc.toArray 91
  generalize w5.alloc (.cells r.enc.toArray 91) = w6 at s6 ⊢
  have b6 := s6.bel
  have hG : TimeG o → OpG o := fun ht => ⟨by omega, by omega, hq.1, hq.2, ht.1, ht.2.1, ht.2.2.1, ht.2.2.2⟩
  have t6 := fun m n => check8 (o := o) (r := r) m n (s6.low 1 rfl).2 (s6.blk 1 rfl) (s6.blk 0 rfl) (K := fun v w' => ChkR o v ∧ Below b0 w w') fun e w' he b => ⟨⟨e, rfl, fun h => hG (he h)⟩, hbb _ (b6.trans (b.mono b6.size))⟩
  have bad6 : ChkR o (.int .i64 33) ∧ Below b0 w w6 := ⟨.bad o (by decide), hbb _ b6⟩
  exact ⟨r.len.symm, fun _ => bad6, fun _ => ⟨fun _ => ⟨fun _ => t6 _ _, fun _ => t6 _ _⟩, fun _ => ⟨fun _ => t6 _ _, fun _ => t6 _ _⟩⟩⟩
end Go.Proofs.Ytmdhcpghofadcaa

namespace Go.Proofs.Ytmdhcpghofadcaa
set_option linter.unusedSimpArgs false
set_option linter.unusedVariables false
set_option maxRecDepth 100000
open Go Go.Ann Go.RowKit
theorem beside_ok (va : Value) (l : List OpT) (o : OpT) (w : World) (ha : RdS w 11 OpT.enc va l) (hl : (l.length : Int) ≤ 9223372036854775806) :
    Ret Try.prog 35 [va, .agg o.enc.toArray] w fun v w' => (∃ e, v = .int .i64 e ∧ (e = 0 → ∀ x ∈ l, x.ID ≠ o.ID → x.Object = o.Object → x.Kind = o.Kind)) ∧ Below w.heap.size w w' := by
  obtain ⟨pa, ca, rfl, _⟩ := ha.form
  refine ent35 _ _ _ _ ?_
  simp (disch := first | omega | exact okFill_t rfl | exact okSize_t rfl | exact fun h => h | (simp only [World.size_alloc, World.size_drew, World.size_setCell, size_fill, bytesW]; omega)) only [go_sem, c35, c35S0, c35S1, c35S2, c35L0, c35S3, c35S4, c35S5, c35L1, c35S6, c35S7]
  have s1 := (St.start (W0 := w)).box o.enc.toArray 23
  have h1 := ha.below s1.bel (by decide)
  generalize w.alloc (.cells o.enc.toArray 23) = w1 at s1 h1 ⊢
  obtain ⟨b0, hb0⟩ : ∃ b, b = w.heap.size := ⟨_, rfl⟩
  have hbb : ∀ w', Below w.heap.size w w' → Below b0 w w' := fun _ h => by rw [hb0]; exact h
  rw [← hb0] at s1 ⊢
  have ao := o.at
  refine W_loopU (fun k : Nat => [(5, .int .i64 k)]) (fun k w' => Below w1.heap.size w1 w' ∧ k ≤ l.length ∧ ∀ j, (h : j < l.length) → j < k → l[j].ID ≠ o.ID → l[j].Object = o.Object → l[j].Kind = o.Kind) (fun k => l.length - k) 0 rfl ⟨Below.refl _ _, Nat.zero_le _, fun j _ h => by omega⟩ ?_
  rintro k w2 ⟨b2, hk, he⟩
  have s2 := s1.call b2
  have r2 := s2.rules 0 rfl
  have h2 := h1.below b2 (by decide)
  by_cases hlt : k < l.length
  · have hlt' : (k : Int) < l.length := by omega
    obtain ⟨p, rfl⟩ := ha.ptr (by omega)
    have ek := h2.eltB (Below.refl _ _) OpT.len (by decide) hlt
    have ak := l[k].at
    simp (disch := first | omega | exact okFill_t rfl | exact okSize_t rfl | exact fun h => h | (simp only [World.size_alloc, World.size_drew, World.size_setCell, size_fill, bytesW]; omega)) only [go_sem, c35, c35S0, c35S1, c35S2, c35L0, c35S3, c35S4, c35S5, c35L1, c35S6, c35S7, hlt']
    refine c35draw0 ?_
    simp (disch := first | omega | exact okFill_t rfl | exact okSize_t rfl | exact fun h => h | (simp only [World.size_alloc, World.size_drew, World.size_setCell, size_fill, bytesW]; omega)) only [go_sem, c35, c35S0, c35S1, c35S2, c35L0, c35S3, c35S4, c35S5, c35L1, c35S6, c35S7, c35D0, r2, ek, ak, ao]
    have b02 : Below w.heap.size w w2.drew := (s1.bel.trans (b2.mono s1.size)).drew
    have go : (l[k].ID ≠ o.ID → l[k].Object = o.Object → l[k].Kind = o.Kind) → ∀ j, (h : j < l.length) → j < k + 1 → l[j].ID ≠ o.ID → l[j].Object = o.Object → l[j].Kind = o.Kind := fun hx j h1 h3 => by
      rcases Nat.lt_or_ge j k with h' | h'
      · exact he j h1 h'
      · obtain rfl : j = k := by omega
        exact hx
    refine ⟨⟨by omega, by omega⟩, fun e1 => ⟨⟨by omega, by omega⟩, fun e2 => ⟨⟨by omega, by omega⟩, fun e3 => hbb _ (b02), fun e3 => ⟨⟨by omega, by omega⟩, k + 1, rfl, ⟨b2.drew, by omega, go fun _ _ => e3⟩, by omega⟩⟩, fun e2 => ⟨⟨by omega, by omega⟩, k + 1, rfl, ⟨b2.drew, by omega, go fun _ h => absurd h e2⟩, by omega⟩⟩, fun e1 => ⟨⟨by omega, by omega⟩, k + 1, rfl, ⟨b2.drew, by omega, go fun h => absurd e1 h⟩, by omega⟩⟩
  · have hlt' : ¬ (k : Int) < l.length := by omega
    simp (disch := first | omega | exact okFill_t rfl | exact okSize_t rfl | exact fun h => h | (simp only [World.size_alloc, World.size_drew, World.size_setCell, size_fill, bytesW]; omega)) only [go_sem, c35, c35S0, c35S1, c35S2, c35L0, c35S3, c35S4, c35S5, c35L1, c35S6, c35S7, hlt']
    have hall : ∀ x ∈ l, x.ID ≠ o.ID → x.Object = o.Object → x.Kind = o.Kind := fun x hx => by
      obtain ⟨j, hj, rfl⟩ := List.mem_iff_getElem.1 hx
      exact he j hj (by omega)
    clear he
    refine W_loopU (fun k : Nat => [(6, .int .i64 k)]) (fun k w' => Below w1.heap.size w1 w' ∧ k ≤ l.length) (fun k => l.length - k) 0 rfl ⟨b2, Nat.zero_le _⟩ ?_
    clear r2 h2 s2 b2
    rintro k w3 ⟨b3, hk⟩
    have s3 := s1.call b3
    have r3 := s3.rules 0 rfl
    have h3 := h1.below b3 (by decide)
    by_cases hlt : k < l.length
    · have hlt' : (k : Int) < l.length := by omega
      obtain ⟨p, rfl⟩ := ha.ptr (by omega)
      have ek := h3.eltB (Below.refl _ _) OpT.len (by decide) hlt
      have ck := h3.at OpT.len hlt
      have ak := l[k].at
      simp (disch := first | omega | exact okFill_t rfl | exact okSize_t rfl | exact fun h => h | (simp only [World.size_alloc, World.size_drew, World.size_setCell, size_fill, bytesW]; omega)) only [go_sem, c35, c35S0, c35S1, c35S2, c35L0, c35S3, c35S4, c35S5, c35L1, c35S6, c35S7, hlt']
      have hp3 := h3.blt OpT.len (by decide) (by omega)
      have hb3 := s3.low 0 rfl
      have hd3 : w3.drew.heap.size = w3.heap.size := rfl
      refine c35draw1 (Chg (fun _ => False) _) (Chg.refl _ _) ?_
      simp (disch := first | omega | exact okFill_t rfl | exact okSize_t rfl | exact fun h => h | (simp only [World.size_alloc, World.size_drew, World.size_setCell, size_fill, bytesW]; omega)) only [go_sem, c35, c35S0, c35S1, c35S2, c35L0, c35S3, c35S4, c35S5, c35L1, c35S6, c35S7, c35D1, r3, ek, ak, ao, ck]
      have b03 : Below w1.heap.size w1 w3.drew := b3.drew
      refine ⟨⟨by omega, by omega⟩, fun e1 => ⟨⟨by omega, by omega⟩, fun e2 => ⟨⟨by omega, by omega⟩, Ret.mono (rbefore_ok _ _ _) ?_⟩, fun e2 => ⟨⟨by omega, by omega⟩, k + 1, rfl, ⟨b03, by omega⟩, by omega⟩⟩, fun e1 => ⟨⟨by omega, by omega⟩, k + 1, rfl, ⟨b03, by omega⟩, by omega⟩⟩
      rintro _ w4 ⟨rfl, b4⟩
      have b34 : Below w3.heap.size w3 w4 := (Below.refl _ w3).drew.trans b4
      have h4 := h3.below b34 (by decide)
      have ck4 := h4.at OpT.len hlt
      have s4 := s3.call b34
      have r4 := s4.rules 0 rfl
      have b04 : Below w1.heap.size w1 w4 := b3.trans (b34.mono b3.size)
      simp (disch := first | omega | exact okFill_t rfl | exact okSize_t rfl | exact fun h => h | (simp only [World.size_alloc, World.size_drew, World.size_setCell, size_fill, bytesW]; omega)) only [go_sem, c35, c35S0, c35S1, c35S2, c35L0, c35S3, c35S4, c35S5, c35L1, c35S6, c35S7, c35D1, r3, r4, ek, ak, ao, ck, ck4]
      refine ⟨Chg.of_below b4, fun e3 => ⟨⟨by omega, by omega⟩, Chg.of_below b4, Ret.mono (rbefore_ok _ _ _) ?_⟩, fun e3 => ⟨⟨by omega, by omega⟩, k + 1, rfl, ⟨b04, by omega⟩, by omega⟩⟩
      rintro _ w5 ⟨rfl, b5⟩
      have b05 : Below w1.heap.size w1 w5 := b04.trans (b5.mono b04.size)
      simp (disch := first | omega | exact okFill_t rfl | exact okSize_t rfl | exact fun h => h | (simp only [World.size_alloc, World.size_drew, World.size_setCell, size_fill, bytesW]; omega)) only [go_sem, c35, c35S0, c35S1, c35S2, c35L0, c35S3, c35S4, c35S5, c35L1, c35S6, c35S7, c35D1, r3, r4, ek, ak, ao, ck, ck4]
      exact ⟨(Chg.of_below b4).trans (Chg.of_below b5), fun _ => hbb _ (s1.bel.trans (b05.mono s1.size)), fun _ => ⟨⟨by omega, by omega⟩, k + 1, rfl, ⟨b05, by omega⟩, by omega⟩⟩
    · have hlt' : ¬ (k : Int) < l.length := by omega
      simp (disch := first | omega | exact okFill_t rfl | exact okSize_t rfl | exact fun h => h | (simp only [World.size_alloc, World.size_drew, World.size_setCell, size_fill, bytesW]; omega)) only [go_sem, c35, c35S0, c35S1, c35S2, c35L0, c35S3, c35S4, c35S5, c35L1, c35S6, c35S7, hlt']
      exact ⟨hall, hbb _ ((s1.bel.trans (b3.mono s1.size)))⟩
theorem rising_pairwise {l : List OpT} (h : ∀ j, (h : j + 1 < l.length) → l[j].ID < l[j + 1].ID) : l.Pairwise fun a b => a.ID < b.ID := by
  rw [List.pairwise_iff_getElem]
  intro i j hi hj hij
  induction j with
  | zero => omega
  | succ j ih =>
    rcases Nat.lt_or_ge i j with h1 | h1
    · exact Int.lt_trans (ih (by omega) h1) (h j hj)
    · obtain rfl : i = j := by omega
      exact h i hj
theorem pair_id {l : List OpT} (hp : l.Pairwise fun a b => a.ID < b.ID) : Pure l := fun a ha b hb e => by
  obtain ⟨i, hi, rfl⟩ := List.mem_iff_getElem.1 ha
  obtain ⟨j, hj, rfl⟩ := List.mem_iff_getElem.1 hb
  rw [List.pairwise_iff_getElem] at hp
  rcases Nat.lt_trichotomy i j with h | rfl | h
  · have := hp i j hi hj h; omega
  · rfl
  · have := hp j i hj hi h; omega
def Hist (l : List OpT) : Prop := l.Pairwise (fun a b => a.ID < b.ID) ∧ ∀ a ∈ l, ∀ b ∈ l, a.Object = b.Object → a.Kind = b.Kind
def ChkL (l : List OpT) (v : Value) : Prop := ∃ e, v = .int .i64 e ∧ (e = 0 → (Hist l ∧ l.length ≤ 64) ∧ ∀ o ∈ l, OpG o)
theorem ChkL.bad (l : List OpT) {e : Int} (h : e ≠ 0) : ChkL l (.int .i64 e) := ⟨e, rfl, fun h' => absurd h' h⟩
theorem check_ok (va : Value) (l : List OpT) (w : World) (ha : RdS w 11 OpT.enc va l) (hl : (l.length : Int) ≤ 9223372036854775806) :
    Ret Try.prog 22 [va] w fun v w' => ChkL l v ∧ Below w.heap.size w w' := by
  obtain ⟨pa, ca, rfl, _⟩ := ha.form
  refine ent22 _ _ _ ?_
  simp (disch := first | omega | exact okFill_t rfl | exact okSize_t rfl | exact fun h => h | (simp only [World.size_alloc, World.size_drew, World.size_setCell, size_fill, bytesW]; omega)) only [go_sem, c22, c22S0, c22S1, c22S2, c22S3, c22S4, c22L0, c22S5, c22S6, c22S7, c22L1, c22S8, c22S9, c22S10]
  refine ⟨fun _ => ⟨.bad l (by decide), Below.refl _ _⟩, fun h64 => ?_⟩
  refine W_loopU (fun k : Nat => [(3, .int .i64 k)]) (fun k w' => Below w.heap.size w w' ∧ k ≤ l.length ∧ (∀ j, (h : j < l.length) → j < k → OpG l[j]) ∧ ∀ j, (h : j + 1 < l.length) → j + 1 < k → l[j].ID < l[j + 1].ID) (fun k => l.length - k) 0 rfl ⟨Below.refl _ _, Nat.zero_le _, (fun j _ h => by omega), fun j _ h => by omega⟩ ?_
  rintro k w2 ⟨b2, hk, hg, he⟩
  have h2 := ha.below b2 (by decide)
  by_cases hlt : k < l.length
  · have hlt' : (k : Int) < l.length := by omega
    obtain ⟨p, rfl⟩ := ha.ptr (by omega)
    have ek := h2.at OpT.len hlt
    simp (disch := first | omega | exact okFill_t rfl | exact okSize_t rfl | exact fun h => h | (simp only [World.size_alloc, World.size_drew, World.size_setCell, size_fill, bytesW]; omega)) only [go_sem, c22, c22S0, c22S1, c22S2, c22S3, c22S4, c22L0, c22S5, c22S6, c22S7, c22L1, c22S8, c22S9, c22S10, hlt', ek]
    refine ⟨by omega, Ret.mono (checkOp_ok _ _) ?_⟩
    rintro _ w3 ⟨⟨e, rfl, hge⟩, b3⟩
    have b03 := b2.trans (b3.mono b2.size)
    simp (disch := first | omega | exact okFill_t rfl | exact okSize_t rfl | exact fun h => h | (simp only [World.size_alloc, World.size_drew, World.size_setCell, size_fill, bytesW]; omega)) only [go_sem, c22, c22S0, c22S1, c22S2, c22S3, c22S4, c22L0, c22S5, c22S6, c22S7, c22L1, c22S8, c22S9, c22S10]
    refine ⟨fun e0 => ⟨.bad l e0, b03⟩, fun e0 => ?_⟩
    have hg2 : ∀ j, (h : j < l.length) → j < k + 1 → OpG l[j] := fun j h1 h2 => by
      rcases Nat.lt_or_ge j k with h' | h'
      · exact hg j h1 h'
      · obtain rfl : j = k := by omega
        exact hge e0
    have h3 := ha.below b03 (by decide)
    have ek3 := h3.eltB (Below.refl _ _) OpT.len (by decide) hlt
    have ak := l[k].at
    rcases Nat.eq_zero_or_pos k with rfl | hk0
    · refine c22draw0 ?_
      simp (disch := first | omega | exact okFill_t rfl | exact okSize_t rfl | exact fun h => h | (simp only [World.size_alloc, World.size_drew, World.size_setCell, size_fill, bytesW]; omega)) only [go_sem, c22, c22S0, c22S1, c22S2, c22S3, c22S4, c22L0, c22S5, c22S6, c22S7, c22L1, c22S8, c22S9, c22S10, c22D0, hlt', ek3, ak]
      exact ⟨⟨by omega, by omega⟩, 1, rfl, ⟨b03.drew, by omega, hg2, fun j _ h => by omega⟩, by omega⟩
    · have ej3 := h3.eltB (Below.refl _ _) OpT.len (by decide) (show k - 1 < l.length by omega)
      have aj := l[k - 1].at
      have hk1 : (k : Int) - 1 = (k - 1 : Nat) := by omega
      refine c22draw0 ?_
      simp (disch := first | omega | exact okFill_t rfl | exact okSize_t rfl | exact fun h => h | (simp only [World.size_alloc, World.size_drew, World.size_setCell, size_fill, bytesW]; omega)) only [go_sem, c22, c22S0, c22S1, c22S2, c22S3, c22S4, c22L0, c22S5, c22S6, c22S7, c22L1, c22S8, c22S9, c22S10, c22D0, hlt', ek3, ak, hk1, ej3, aj]
      refine ⟨fun _ => ⟨by omega, ⟨by omega, by omega⟩, ⟨by omega, by omega⟩, fun _ => ⟨.bad l (by decide), b03.drew⟩, fun e1 => ⟨⟨by omega, by omega⟩, k + 1, rfl, ⟨b03.drew, by omega, hg2, fun j h1 h3 => ?_⟩, by omega⟩⟩, fun h => by omega⟩
      rcases Nat.lt_or_ge (j + 1) k with h' | h'
      · exact he j h1 h'
      · have h4 : j = k - 1 := by omega
        subst h4
        have h5 : l[k - 1 + 1] = l[k] := by congr 1; omega
        rw [h5]; exact e1
  · have hlt' : ¬ (k : Int) < l.length := by omega
    simp (disch := first | omega | exact okFill_t rfl | exact okSize_t rfl | exact fun h => h | (simp only [World.size_alloc, World.size_drew, World.size_setCell, size_fill, bytesW]; omega)) only [go_sem, c22, c22S0, c22S1, c22S2, c22S3, c22S4, c22L0, c22S5, c22S6, c22S7, c22L1, c22S8, c22S9, c22S10, hlt']
    have hp : l.Pairwise fun a b => a.ID < b.ID := rising_pairwise fun j h => he j h (by omega)
    clear he
    refine W_loopU (fun k : Nat => [(5, .int .i64 k)]) (fun k w' => Below w.heap.size w w' ∧ k ≤ l.length ∧ ∀ j, (h : j < l.length) → j < k → ∀ x ∈ l, x.ID ≠ l[j].ID → x.Object = l[j].Object → x.Kind = l[j].Kind) (fun k => l.length - k) 0 rfl ⟨b2, Nat.zero_le _, fun j _ h => by omega⟩ ?_
    clear h2 b2
    rintro k w3 ⟨b3, hk, he⟩
    have h3 := ha.below b3 (by decide)
    by_cases hlt : k < l.length
    · have hlt' : (k : Int) < l.length := by omega
      obtain ⟨p, rfl⟩ := ha.ptr (by omega)
      have ek := h3.at OpT.len hlt
      simp (disch := first | omega | exact okFill_t rfl | exact okSize_t rfl | exact fun h => h | (simp only [World.size_alloc, World.size_drew, World.size_setCell, size_fill, bytesW]; omega)) only [go_sem, c22, c22S0, c22S1, c22S2, c22S3, c22S4, c22L0, c22S5, c22S6, c22S7, c22L1, c22S8, c22S9, c22S10, hlt', ek]
      refine ⟨by omega, Ret.mono (beside_ok _ _ _ _ h3 hl) ?_⟩
      rintro _ w4 ⟨⟨e, rfl, hee⟩, b4⟩
      simp (disch := first | omega | exact okFill_t rfl | exact okSize_t rfl | exact fun h => h | (simp only [World.size_alloc, World.size_drew, World.size_setCell, size_fill, bytesW]; omega)) only [go_sem, c22, c22S0, c22S1, c22S2, c22S3, c22S4, c22L0, c22S5, c22S6, c22S7, c22L1, c22S8, c22S9, c22S10]
      have b04 := b3.trans (b4.mono b3.size)
      refine ⟨fun e0 => ⟨.bad l e0, b04⟩, fun e0 => ⟨⟨by omega, by omega⟩, k + 1, rfl, ⟨b04, by omega, fun j h1 h3 => ?_⟩, by omega⟩⟩
      rcases Nat.lt_or_ge j k with h' | h'
      · exact he j h1 h'
      · obtain rfl : j = k := by omega
        exact hee e0
    · have hlt' : ¬ (k : Int) < l.length := by omega
      simp (disch := first | omega | exact okFill_t rfl | exact okSize_t rfl | exact fun h => h | (simp only [World.size_alloc, World.size_drew, World.size_setCell, size_fill, bytesW]; omega)) only [go_sem, c22, c22S0, c22S1, c22S2, c22S3, c22S4, c22L0, c22S5, c22S6, c22S7, c22L1, c22S8, c22S9, c22S10, hlt']
      refine ⟨⟨0, rfl, fun _ => ⟨⟨⟨hp, fun a h1 b h2 e => ?_⟩, by omega⟩, fun o ho => by obtain ⟨j, hj, rfl⟩ := List.mem_iff_getElem.1 ho; exact hg j hj (by omega)⟩⟩, b3⟩
      by_cases hid : a.ID = b.ID
      · rw [pair_id hp a h1 b h2 hid]
      · obtain ⟨j, hj, rfl⟩ := List.mem_iff_getElem.1 h2
        exact he j hj (by omega) a h1 hid e
structure Good (l : List OpT) : Prop where
  h : HistG l
  id : l.Pairwise fun a b => a.ID < b.ID
  kind : ∀ a ∈ l, ∀ b ∈ l, a.Object = b.Object → a.Kind = b.Kind
  few : l.length ≤ 64
theorem Good.pure {l : List OpT} (h : Good l) : Pure l := pair_id h.id
def GoodR (l : List OpT) (v : Value) : Prop := ∃ b, v = .bool b ∧ (b = true → Good l)
theorem good_ok (va : Value) (l : List OpT) (w : World) (ha : RdS w 11 OpT.enc va l) (hw : ∀ o ∈ l, o.wf) (hl : (l.length : Int) ≤ 9223372036854775807) : Ret Try.prog 11 [va] w fun v w' => GoodR l v ∧ Below w.heap.size w w' := by
  obtain ⟨pa, ca, rfl, _⟩ := ha.form
  refine ent11 _ _ _ ?_
  simp (disch := first | omega | exact okFill_t rfl | exact okSize_t rfl | exact fun h => h | (simp only [World.size_alloc, World.size_drew, World.size_setCell, size_fill, bytesW]; omega)) only [go_sem, c11, c11S0]
  refine ⟨fun h64 => Ret.mono (check_ok _ l w ha (by omega)) ?_, fun h64 => ⟨⟨false, rfl, fun h => by cases h⟩, Below.refl _ _⟩⟩
  rintro _ w2 ⟨⟨e, rfl, he⟩, b2⟩
  simp (disch := first | omega | exact okFill_t rfl | exact okSize_t rfl | exact fun h => h | (simp only [World.size_alloc, World.size_drew, World.size_setCell, size_fill, bytesW]; omega)) only [go_sem, c11, c11S0]
  refine ⟨⟨decide (e = 0), rfl, fun h => ?_⟩, b2⟩
  obtain ⟨⟨⟨h1, h2⟩, h3⟩, h4⟩ := he (by simpa using h)
  exact ⟨⟨by omega, hw, h4⟩, h1, h2, h3⟩
end Go.Proofs.Ytmdhcpghofadcaa

namespace Go.Proofs.Ytmdhcpghofadcaa
set_option linter.unusedSimpArgs false
set_option linter.unusedVariables false
set_option maxRecDepth 100000
open Go Go.Ann Go.RowKit Go.WideShapes Go.Shelf
def awO : OpT := ⟨1, 1, 0, 3, 6, 5, 0, true, 0, 0, 10⟩
theorem aw_label : labelL awO = [101, 110, 113, 53] := by
  have h : numL 5 = [53] := by unfold numL; rw [if_neg (by decide)]; show decL 5 = _; rw [decL_small (by decide)]; rfl
  unfold labelL argL resL
  show nameL 6 ++ (if _ then numL 5 else _) ++ _ = _
  rw [if_pos (by decide), if_neg (by decide), h]
  rfl
theorem aw_row : rowL (scOf [awO] 12) [awO] = [91, 101, 110, 113, 53, 45, 45, 45, 45, 45, 45, 93] := by
  have ha : (scOf [awO] 12).a awO = 0 := by decide
  have hb : (scOf [awO] 12).b awO = 11 := by decide
  unfold rowL rowF
  simp only [List.foldl_cons, List.foldl_nil]
  unfold barF signB
  rw [ha, hb, aw_label]
  decide
theorem aw_good : Good [awO] where
  h := ⟨by decide, fun o ho => by rw [List.mem_singleton] at ho; subst ho; unfold OpT.wf awO kOk; decide, fun o ho => by rw [List.mem_singleton] at ho; subst ho; exact ⟨by decide, by decide, by decide, by decide, by decide, by decide, fun _ => by decide, fun h => by cases h⟩⟩
  id := List.pairwise_singleton _ _
  kind := fun a ha b hb _ => by rw [List.mem_singleton] at ha hb; rw [ha, hb]
  few := by decide
theorem aw_by {acc : List Seg} (h : ByProc [awO] acc) : acc = [⟨1, 3, [awO]⟩] := by
  refine byProc_unique aw_good.pure h ⟨List.pairwise_singleton _ _, fun s hs => ?_, fun s hs => ?_, fun o ho => ?_⟩
  · rw [List.mem_singleton] at hs; subst hs
    exact ⟨List.Perm.refl _, List.pairwise_singleton _ _⟩
  · rw [List.mem_singleton] at hs; subst hs
    exact ⟨awO, [], rfl, rfl⟩
  · rw [List.mem_singleton] at ho; subst ho
    exact ⟨_, List.mem_singleton_self _, rfl⟩
theorem aw_lines : linesL (scOf [awO] 12) ([⟨1, 3, [awO]⟩].map Seg.ops) = [112, 49, 32, 32, 32, 32, 32, 91, 101, 110, 113, 53, 45, 45, 45, 45, 45, 45, 93, 10] := by
  have h : numL 1 = [49] := by unfold numL; rw [if_neg (by decide)]; show decL 1 = _; rw [decL_small (by decide)]; rfl
  show (lineL (scOf [awO] 12) [awO]) ++ [] = _
  unfold lineL
  rw [aw_row, show procOf [awO] = 1 from rfl, h]
  rfl
theorem awake_ok (w : World) : Ret Try.prog 10 [] w fun u w' => u = .bool true ∧ Below w.heap.size w w' := by
  refine ent10 _ _ ?_
  simp (disch := first | omega | exact okFill_t rfl | exact okSize_t rfl | exact fun h => h | (simp only [World.size_alloc, World.size_drew, World.size_setCell, size_fill, bytesW]; omega)) only [go_sem, c10, c10S0]
  refine bdW_built (cells := awO.enc.toArray) (by kernel_rfl) ?_
  simp (disch := first | omega | exact okFill_t rfl | exact okSize_t rfl | exact fun h => h | (simp only [World.size_alloc, World.size_drew, World.size_setCell, size_fill, bytesW]; omega)) only [go_sem, c10, c10S0]
  refine bsW_agg ty27mkI rfl (by decide) (by decide) ?_
  have hrd : RdS (w.alloc (.cells awO.enc.toArray 23)) 11 OpT.enc (.slice (some ⟨w.heap.size, 0, none⟩) 1 1) [awO] := rd_new (t := 23) (sz := 11) (n := 1) (cs := awO.enc.toArray) rfl
  have b1 : Below w.heap.size w (w.alloc (.cells awO.enc.toArray 23)) := (Below.refl _ _).alloc (Nat.le_refl _) _
  generalize w.alloc (.cells awO.enc.toArray 23) = w1 at hrd b1 ⊢
  simp (disch := first | omega | exact okFill_t rfl | exact okSize_t rfl | exact fun h => h | (simp only [World.size_alloc, World.size_drew, World.size_setCell, size_fill, bytesW]; omega)) only [go_sem, c10, c10S0]
  refine Ret.mono (draw_ok hrd aw_good.h 12) ?_
  rintro u w2 ⟨hu, b2⟩
  have b02 := b1.trans (b2.mono b1.size)
  rcases hu with ⟨h, _⟩ | ⟨_, acc, hacc, rfl⟩
  · exact absurd ⟨by decide, by decide⟩ h
  rw [aw_by hacc, show (12 : Int).toNat = 12 from rfl, aw_lines]
  simp (disch := first | omega | exact okFill_t rfl | exact okSize_t rfl | exact fun h => h | (simp only [World.size_alloc, World.size_drew, World.size_setCell, size_fill, bytesW]; omega)) only [go_sem, c10, c10S0]
  exact ⟨by kernel_rfl, b02⟩
section
variable {va : Value} {l : List OpT} {w : World} {o : OpT}
theorem drawR_one (hp : Pure l) {width : Int} {u v : Value} (hu : DrawR l width u) (hv : DrawR l width v) : u = v := by
  rcases hu with ⟨h1, rfl⟩ | ⟨h1, acc, ha, rfl⟩
  · rcases hv with ⟨_, rfl⟩ | ⟨h2, _⟩
    · rfl
    · exact absurd h2 h1
  · rcases hv with ⟨h2, _⟩ | ⟨_, acc', hb, rfl⟩
    · exact absurd h1 h2
    · rw [byProc_unique hp ha hb]
end
end Go.Proofs.Ytmdhcpghofadcaa

namespace Go.Proofs.Ytmdhcpghofadcaa
set_option linter.unusedSimpArgs false
set_option linter.unusedVariables false
set_option maxRecDepth 100000
open Go Go.Ann Go.RowKit Go.WideShapes Go.Shelf
theorem top_end {l : List OpT} (hg : ∀ o ∈ l, OpG o) : topT l ≤ endT l := by
  obtain ⟨h0, h1⟩ := le_end l
  refine top_le h0 fun o ho => ⟨?_, (h1 o ho).1⟩
  cases hd : o.Done with
  | true => have := (hg o ho).rd hd; have := (h1 o ho).1; omega
  | false => have := (hg o ho).i1; have := (h1 o ho).2 hd; omega
def rulF (s : Sc) (f : Nat → UInt8) (x : Seg) (k : Nat) : UInt8 := if k = (s.col (lowT x.ops)).toNat then 94 else if k = (s.col (endT x.ops)).toNat ∧ f k = 32 then 36 else f k
def rulerF (s : Sc) (l : List Seg) : Nat → UInt8 := l.foldl (rulF s) fun _ => 32
def rulerL (s : Sc) (l : List Seg) : List UInt8 := bytesF s.wd (rulerF s l)
theorem rulerF_snoc (s : Sc) (t : List Seg) (x : Seg) : rulerF s (t ++ [x]) = rulF s (rulerF s t) x := by
  simp [rulerF, List.foldl_append]
structure SegIn (s : Sc) (x : Seg) : Prop where
  ne : x.ops ≠ []
  len : x.ops.length ≤ 100
  wf : ∀ o ∈ x.ops, o.wf
  g : ∀ o ∈ x.ops, OpG o
  has : ∀ o ∈ x.ops, s.has o
theorem SegIn.times {s : Sc} {x : Seg} (hs : s.ok) (h : SegIn s x) : s.lo ≤ lowT x.ops ∧ lowT x.ops ≤ 2199023255552 ∧ s.lo ≤ endT x.ops ∧ endT x.ops ≤ 2199023255552 := by
  obtain ⟨o, ho, e⟩ := low_in h.ne
  have h1 := (h.has o ho).i1
  have h2 := (h.has o ho).i2
  have h3 := hs.hi1
  have h4 := ((le_top x.ops 0).2 o ho).1
  have h5 := top_end h.g
  refine ⟨by omega, by omega, ?_, ?_⟩
  · show s.lo ≤ _
    have : topF x.ops 0 = topT x.ops := rfl
    omega
  · have : ∀ l : List OpT, (∀ o ∈ l, OpG o) → endT l ≤ 1099511627777 := by
      intro l
      induction l using snocI with
      | nil => intro _; decide
      | snoc t y ih =>
        intro hg
        have h6 := ih fun o ho => hg o (List.mem_append_left _ ho)
        have hy := hg y (by simp)
        rw [endT_snoc]
        cases hd : y.Done with
        | true => have := hy.rd hd; simp only [if_true]; omega
        | false => have := hy.ro hd; simp only [Bool.false_eq_true, if_false]; omega
    have := this _ h.g
    omega
section
variable {va : Value} {l : List Seg} {w : World} {s : Sc}
theorem ruler_ok (h : RdR w 3 segR va l) (hl : l.length ≤ 100) (hs : s.ok) (hx : ∀ x ∈ l, SegIn s x) : Ret Try.prog 32 [.agg s.enc.toArray, va] w fun u w' => u = .string (ofL (rulerL s l)) ∧ Below w.heap.size w w' := by
  obtain ⟨a, c, rfl, _⟩ := h.form
  have hwd := hs.wd1
  have hw8 := hs.wd8
  refine ent32 _ _ _ _ ?_
  have s1 := (St.start (W0 := w)).box s.enc.toArray 51
  have asc := s.at_
  obtain ⟨b0, hb0⟩ : ∃ b, b = w.heap.size := ⟨_, rfl⟩
  simp (disch := first | omega | exact okFill_t rfl | exact okSize_t rfl | exact fun h => h | (simp only [World.size_alloc, World.size_drew, World.size_setCell, size_fill, bytesW]; omega)) only [go_sem, c32, c32S0, c32S1, c32S2, c32S3, c32S4, c32L0, c32S5, c32S6, asc]
  refine Ret.mono (repeat_ok 32 s.wd (by omega) _) ?_
  rintro _ w2 ⟨rfl, b2⟩
  have s2 := s1.call b2
  rw [← hb0] at s2 ⊢
  simp (disch := first | omega | exact okFill_t rfl | exact okSize_t rfl | exact fun h => h | (simp only [World.size_alloc, World.size_drew, World.size_setCell, size_fill, bytesW]; omega)) only [go_sem, c32, c32S0, c32S1, c32S2, c32S3, c32S4, c32S5, c32S6]
  intro cl hcl
  rw [List.length_replicate] at hcl
  rw [show (List.replicate s.wd (32 : UInt8)).length = s.wd from List.length_replicate]
  have s3 := st_bytes s2 (List.replicate s.wd 32) cl
  rw [br_ext (g := rulerF s []) (fun k hk => by rw [List.length_replicate] at hk; simp [rulerF, hk]), List.length_replicate] at s3
  generalize w2.heap.size = b at s3 ⊢
  generalize bytesW w2 (List.replicate s.wd 32) cl 5 = w3 at s3 ⊢
  refine W_loopU (fun k : Nat => [(17, .int .i64 k)]) (fun k w' => k ≤ l.length ∧ St w w' (fun _ => False) [BR b s.wd (rulerF s (l.take k)) cl, .blk b0 s.enc.toArray 51] []) (fun k => l.length - k) 0 rfl ⟨Nat.zero_le _, s3⟩ ?_
  clear s3 s2 s1
  rintro k w4 ⟨hk, s4⟩
  by_cases hlt : k < l.length
  · have hlt' : (k : Int) < l.length := by omega
    obtain ⟨q, rfl⟩ := h.ptr (by omega)
    have h4 := h.below s4.bel (by decide) fun x c => segR.below s4.bel x c
    obtain ⟨_, _, ⟨v, rfl, hv, _⟩, ck, _⟩ := h4.elt (by decide) hlt
    have e1 := rulerF_snoc s (l.take k) l[k]
    rw [← List.take_succ_eq_append_getElem hlt] at e1
    have hm := List.getElem_mem hlt
    obtain ⟨x, hxe⟩ : ∃ x, x = l[k] := ⟨_, rfl⟩
    rw [← hxe] at hv e1 hm ck
    obtain ⟨t1, t2, t3, t4⟩ := (hx x hm).times hs
    have ca := Sc.col_le hs t1
    have cb := Sc.col_le hs t3
    obtain ⟨a', ha'⟩ : ∃ a' : Nat, a' = (s.col (lowT x.ops)).toNat := ⟨_, rfl⟩
    obtain ⟨e', he'⟩ : ∃ e' : Nat, e' = (s.col (endT x.ops)).toNat := ⟨_, rfl⟩
    have eca : s.col (lowT x.ops) = a' := by omega
    have ecb : s.col (endT x.ops) = e' := by omega
    obtain ⟨pv, cv, rfl, _⟩ := hv.form
    simp (disch := first | omega | exact okFill_t rfl | exact okSize_t rfl | exact fun h => h | (simp only [World.size_alloc, World.size_drew, World.size_setCell, size_fill, bytesW]; omega)) only [go_sem, c32, c32S0, c32S1, c32S2, c32S3, c32S4, c32L0, c32S6, c32L0, hlt', ck]
    have s5 := s4.alloc' (.cells #[.int .i64 x.obj, .int .i64 x.kind, .slice pv x.ops.length cv] 69)
    have hv5 := hv.below ((Below.refl w4.heap.size w4).alloc (Nat.le_refl _) (.cells #[.int .i64 x.obj, .int .i64 x.kind, .slice pv x.ops.length cv] 69)) (by decide)
    generalize w4.alloc (.cells #[.int .i64 x.obj, .int .i64 x.kind, .slice pv x.ops.length cv] 69) = w5 at s5 hv5 ⊢
    have hX := hx x hm
    refine ⟨by omega, Ret.mono (span_ok hv5 hX.len hX.wf) ?_⟩
    rintro _ w6 ⟨rfl, b6⟩
    have s6 := s5.call b6
    have r6 := s6.rules 1 rfl
    simp (disch := first | omega | exact okFill_t rfl | exact okSize_t rfl | exact fun h => h | (simp only [World.size_alloc, World.size_drew, World.size_setCell, size_fill, bytesW]; omega)) only [go_sem, c32, c32S0, c32S2, c32S3, c32S4, c32L0, c32S6, r6, asc]
    refine Ret.mono (column_ok hs _ t1 t2) ?_
    rintro _ w7 ⟨rfl, b7⟩
    have s7 := s6.call b7
    rw [eca]
    have haw : (a' : Int) < s.wd := by omega
    have hew : (e' : Int) < s.wd := by omega
    have rb := st_br s7 0 rfl
    have c7 := rb.1 a' (by omega)
    have f7 := rb.2 a' (by omega)
    clear rb
    have s8 := st_brSet s7 0 rfl hcl a' (by omega) 94 94 rfl (fun j => if j = a' then 94 else rulerF s (l.take k) j) (by simp) (fun j _ hj => by rw [if_neg hj])
    simp only [List.set_cons_zero] at s8
    simp (disch := first | omega | exact okFill_t rfl | exact okSize_t rfl | exact fun h => h | (simp only [World.size_alloc, World.size_drew, World.size_setCell, size_fill, bytesW]; omega)) only [go_sem, c32, c32S0, c32S2, c32S3, c32S4, c32L0, c32S6, haw, c7, f7]
    refine ⟨by omega, ?_⟩
    generalize w7.setCell ⟨b, a', none⟩ (.int .u8 94) = w8 at s8 ⊢
    have r8 := s8.rules 1 rfl
    simp (disch := first | omega | exact okFill_t rfl | exact okSize_t rfl | exact fun h => h | (simp only [World.size_alloc, World.size_drew, World.size_setCell, size_fill, bytesW]; omega)) only [go_sem, c32, c32S1, c32S2, c32S3, c32S4, c32L0, c32S6, r8, asc]
    refine Ret.mono (column_ok hs _ t3 t4) ?_
    rintro _ w9 ⟨rfl, b9⟩
    have s9 := s8.call b9
    rw [ecb]
    have rb := st_br s9 0 rfl
    have c9 := rb.1 e' (by omega)
    have f9 := rb.2 e' (by omega)
    clear rb
    have e32 : ((if e' = a' then (94 : UInt8) else rulerF s (l.take k) e').toNat : Int) = 32 ↔ (e' ≠ a' ∧ rulerF s (l.take k) e' = 32) := by
      by_cases h1 : e' = a'
      · rw [if_pos h1]
        exact ⟨fun h => absurd h (by decide), fun h => absurd h1 h.1⟩
      · rw [if_neg h1]
        have h32 : (32 : UInt8).toNat = 32 := rfl
        refine ⟨fun h => ⟨h1, UInt8.toNat_inj.1 ?_⟩, fun h => by rw [h.2]; rfl⟩
        omega
    simp (disch := first | omega | exact okFill_t rfl | exact okSize_t rfl | exact fun h => h | (simp only [World.size_alloc, World.size_drew, World.size_setCell, size_fill, bytesW]; omega)) only [go_sem, c32, c32S0, c32S1, c32S2, c32S3, c32S4, c32L0, c32S6, hew, c9, f9]
    have g1 : ∀ j, j ≠ e' → (if j = a' then 94 else rulerF s (l.take k) j) = rulF s (rulerF s (l.take k)) x j := fun j hj => by
      unfold rulF
      rw [← ha', ← he']
      by_cases h1 : j = a'
      · rw [if_pos h1, if_pos h1]
      · rw [if_neg h1, if_neg h1, if_neg (fun h => hj h.1)]
    refine ⟨by omega, fun h1 => ⟨by omega, by constructor <;> omega, k + 1, rfl, ⟨hlt, ?_⟩, by omega⟩, fun h1 => ⟨by constructor <;> omega, k + 1, rfl, ⟨hlt, ?_⟩, by omega⟩⟩
    · obtain ⟨n1, n2⟩ := e32.1 h1
      have s10 := st_brSet s9 0 rfl hcl e' (by omega) 36 36 rfl (rulF s (rulerF s (l.take k)) x) (by unfold rulF; rw [← ha', ← he', if_neg n1, if_pos ⟨rfl, n2⟩]) (fun j _ hj => g1 j hj)
      rw [e1]
      exact s10
    · have hne : ¬ (e' ≠ a' ∧ rulerF s (l.take k) e' = 32) := fun h => h1 (e32.2 h)
      rw [e1, br_ext (g := fun j => if j = a' then 94 else rulerF s (l.take k) j) fun j _ => ?_]
      · exact s9
      · by_cases hj : j = e'
        · subst hj
          unfold rulF
          rw [← ha', ← he']
          by_cases h2 : j = a'
          · rw [if_pos h2, if_pos h2]
          · rw [if_neg h2, if_neg h2, if_neg (fun h => hne ⟨h2, h.2⟩)]
        · exact (g1 j hj).symm
  · have hlt' : ¬ (k : Int) < l.length := by omega
    have hkk : k = l.length := by omega
    subst hkk
    rw [List.take_length] at s4
    simp (disch := first | omega | exact okFill_t rfl | exact okSize_t rfl | exact fun h => h | (simp only [World.size_alloc, World.size_drew, World.size_setCell, size_fill, bytesW]; omega)) only [go_sem, c32, c32S0, c32S1, c32S2, c32S3, c32S4, c32L0, c32S5, c32S6, c32L0, hlt']
    refine ⟨rulerL s l, bytesF_len _ _, br_bytes s4, rfl, ?_⟩
    rw [hb0]; exact s4.bel
end
end Go.Proofs.Ytmdhcpghofadcaa
