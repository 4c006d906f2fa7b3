/- The cutting of an object's operations: what it shows. -/
import Derived.Test.YtobamkckamnmoaaC5
namespace Go.Proofs.Ytobamkckamnmoaa
set_option linter.unusedSimpArgs false
set_option linter.unusedVariables false
set_option maxRecDepth 100000
open Go Go.Ann Go.RowKit
theorem orI2_neg (x y : Int) : decide (orI [x, y] < 0) = decide (x < 0 ∨ x = 0 ∧ y < 0) := by
  unfold orI
  by_cases hx : x = 0
  · subst hx
    by_cases hy : y = 0
    · subst hy; simp
    · simp [List.find?_cons, hy]
  · simp [List.find?_cons, hx]
theorem cmpI_neg (a b : Int) : (cmpI a b < 0) = (a < b) := by
  unfold cmpI
  apply propext
  split
  · omega
  · split <;> omega
theorem cmpI_zero (a b : Int) : (cmpI a b = 0) = (a = b) := by
  unfold cmpI
  apply propext
  split
  · omega
  · split <;> omega
theorem lt_ear (a b : OpT) : ltOf earI a b = decide (a.Invoke < b.Invoke ∨ a.Invoke = b.Invoke ∧ a.ID < b.ID) := by
  unfold ltOf earI
  rw [orI2_neg]
  simp only [cmpI_neg, cmpI_zero]
theorem ear_neg (a b : OpT) : (earI a b < 0) = (a.Invoke < b.Invoke ∨ a.Invoke = b.Invoke ∧ a.ID < b.ID) := by
  have := lt_ear a b
  unfold ltOf at this
  exact propext (decide_eq_decide.1 this)
theorem lt_obj (a b : OpT) : ltOf objI a b = decide (a.Object < b.Object ∨ a.Object = b.Object ∧ (a.Invoke < b.Invoke ∨ a.Invoke = b.Invoke ∧ a.ID < b.ID)) := by
  unfold ltOf objI
  rw [orI2_neg]
  simp only [cmpI_neg, cmpI_zero, ear_neg]
theorem obj_neg (a b : OpT) : (objI a b < 0) = (a.Object < b.Object ∨ a.Object = b.Object ∧ (a.Invoke < b.Invoke ∨ a.Invoke = b.Invoke ∧ a.ID < b.ID)) := by
  have := lt_obj a b
  unfold ltOf at this
  exact propext (decide_eq_decide.1 this)
theorem swo_ear : Go.Sort.SWO (ltOf earI) where
  irrefl x := by rw [lt_ear]; exact decide_eq_false (by omega)
  trans x y z h1 h2 := by rw [lt_ear, decide_eq_true_eq] at *; omega
  ntrans x y z h1 h2 := by rw [lt_ear, decide_eq_false_iff_not] at *; omega
theorem swo_obj : Go.Sort.SWO (ltOf objI) where
  irrefl x := by rw [lt_obj]; exact decide_eq_false (by omega)
  trans x y z h1 h2 := by rw [lt_obj, decide_eq_true_eq] at *; omega
  ntrans x y z h1 h2 := by rw [lt_obj, decide_eq_false_iff_not] at *; omega
/-- One operation more: a new segment where q says so. -/
def cutStep (q : Seg → OpT → Bool) (mk : OpT → Int × Int) (acc : List Seg) (o : OpT) : List Seg :=
  match acc.getLast? with
  | some s => if q s o then acc ++ [⟨(mk o).1, (mk o).2, [o]⟩] else acc.dropLast ++ [⟨s.obj, s.kind, s.ops ++ [o]⟩]
  | none => [⟨(mk o).1, (mk o).2, [o]⟩]
def segC (s : Seg) (v : Value) : List Value := [.int .i64 s.obj, .int .i64 s.kind, v]
def segCells : List Seg → List Value → List Value
  | s :: l, v :: vs => segC s v ++ segCells l vs
  | _, _ => []
def segInvs : List Seg → List Value → List Inv
  | s :: l, v :: vs => .rd 11 OpT.enc v s.ops :: segInvs l vs
  | _, _ => []
theorem segCells_snoc : ∀ (l : List Seg) (vs : List Value) (s : Seg) (v : Value), vs.length = l.length → segCells (l ++ [s]) (vs ++ [v]) = segCells l vs ++ segC s v
  | [], [], s, v, _ => by simp [segCells]
  | a :: l, b :: vs, s, v, h => by simp only [List.cons_append, segCells, List.append_assoc]; rw [segCells_snoc l vs s v (by simpa using h)]
theorem segCells_length : ∀ (l : List Seg) (vs : List Value), vs.length = l.length → (segCells l vs).length = l.length * 3
  | [], [], _ => rfl
  | a :: l, b :: vs, h => by rw [segCells, List.length_append, segCells_length l vs (by simpa using h), List.length_cons]; simp only [segC, List.length_cons, List.length_nil]; omega
theorem segInvs_mem : ∀ (l : List Seg) (vs : List Value) (i : Nat) (s : Seg) (v : Value), l[i]? = some s → vs[i]? = some v → Inv.rd 11 OpT.enc v s.ops ∈ segInvs l vs
  | a :: l, b :: vs, 0, s, v, h1, h2 => by
    simp only [List.getElem?_cons_zero, Option.some.injEq] at h1 h2; subst h1; subst h2
    exact List.mem_cons_self
  | a :: l, b :: vs, i + 1, s, v, h1, h2 => List.mem_cons_of_mem _ (segInvs_mem l vs i s v (by simpa using h1) (by simpa using h2))
theorem segInvs_snoc : ∀ (l : List Seg) (vs : List Value) (s : Seg) (v : Value), vs.length = l.length → ∀ a, a ∈ segInvs (l ++ [s]) (vs ++ [v]) ↔ a = Inv.rd 11 OpT.enc v s.ops ∨ a ∈ segInvs l vs
  | [], [], s, v, _, a => by simp [segInvs]
  | x :: l, b :: vs, s, v, h, a => by simp only [List.cons_append, segInvs, List.mem_cons, segInvs_snoc l vs s v (by simpa using h)]; exact ⟨fun h => h.elim (fun h => .inr (.inl h)) fun h => h.elim .inl fun h => .inr (.inr h), fun h => h.elim (fun h => .inr (.inl h)) fun h => h.elim .inl fun h => .inr (.inr h)⟩
theorem cutStep_nil (q : Seg → OpT → Bool) (mk : OpT → Int × Int) (o : OpT) : cutStep q mk [] o = [⟨(mk o).1, (mk o).2, [o]⟩] := rfl
theorem cutStep_new {q : Seg → OpT → Bool} (mk : OpT → Int × Int) (ini : List Seg) {s : Seg} {o : OpT} (h : q s o = true) : cutStep q mk (ini ++ [s]) o = ini ++ [s] ++ [⟨(mk o).1, (mk o).2, [o]⟩] := by
  unfold cutStep
  rw [List.getLast?_concat]
  simp only [h, if_true]
theorem cutStep_old {q : Seg → OpT → Bool} (mk : OpT → Int × Int) (ini : List Seg) {s : Seg} {o : OpT} (h : q s o = false) : cutStep q mk (ini ++ [s]) o = ini ++ [⟨s.obj, s.kind, s.ops ++ [o]⟩] := by
  unfold cutStep
  rw [List.getLast?_concat, List.dropLast_concat]
  simp only [h]
  rfl
theorem cutStep_flat (q : Seg → OpT → Bool) (mk : OpT → Int × Int) (acc : List Seg) (o : OpT) : (cutStep q mk acc o).flatMap Seg.ops = acc.flatMap Seg.ops ++ [o] := by
  unfold cutStep
  cases h : acc.getLast? with
  | none => rw [List.getLast?_eq_none_iff.1 h]; rfl
  | some s =>
    obtain ⟨ini, rfl⟩ := List.getLast?_eq_some_iff.1 h
    simp only
    split
    · rw [List.flatMap_append]; rfl
    · rw [List.dropLast_concat, List.flatMap_append, List.flatMap_append, List.append_assoc]; simp
theorem cut_flat (q : Seg → OpT → Bool) (mk : OpT → Int × Int) : ∀ (l : List OpT) (acc : List Seg), (l.foldl (cutStep q mk) acc).flatMap Seg.ops = acc.flatMap Seg.ops ++ l
  | [], acc => by simp
  | o :: l, acc => by rw [List.foldl_cons, cut_flat q mk l, cutStep_flat, List.append_assoc]; rfl
theorem cutStep_ne (q : Seg → OpT → Bool) (mk : OpT → Int × Int) (acc : List Seg) (o : OpT) (h : ∀ s ∈ acc, s.ops ≠ []) : ∀ s ∈ cutStep q mk acc o, s.ops ≠ [] := by
  unfold cutStep
  cases hl : acc.getLast? with
  | none => intro s hs; simp only [List.mem_singleton] at hs; subst hs; simp
  | some x =>
    obtain ⟨ini, rfl⟩ := List.getLast?_eq_some_iff.1 hl
    simp only
    split
    · intro s hs
      rcases List.mem_append.1 hs with hs | hs
      · exact h s hs
      · simp only [List.mem_singleton] at hs; subst hs; simp
    · intro s hs
      rw [List.dropLast_concat] at hs
      rcases List.mem_append.1 hs with hs | hs
      · exact h s (List.mem_append_left _ hs)
      · simp only [List.mem_singleton] at hs; subst hs; simp
theorem cut_ne (q : Seg → OpT → Bool) (mk : OpT → Int × Int) : ∀ (l : List OpT) (acc : List Seg), (∀ s ∈ acc, s.ops ≠ []) → ∀ s ∈ l.foldl (cutStep q mk) acc, s.ops ≠ []
  | [], acc, h => h
  | o :: l, acc, h => by rw [List.foldl_cons]; exact cut_ne q mk l _ (cutStep_ne q mk acc o h)
theorem segs_len : ∀ (acc : List Seg), (∀ s ∈ acc, s.ops ≠ []) → acc.length ≤ (acc.flatMap Seg.ops).length
  | [], _ => Nat.zero_le _
  | a :: l, h => by
    have := segs_len l fun s hs => h s (List.mem_cons_of_mem _ hs)
    have ha := List.length_pos_iff.2 (h a List.mem_cons_self)
    rw [List.flatMap_cons, List.length_append, List.length_cons]; omega
theorem seg_len (acc : List Seg) (s : Seg) (h : s ∈ acc) : s.ops.length ≤ (acc.flatMap Seg.ops).length := by
  induction acc with
  | nil => cases h
  | cons a l ih =>
    rw [List.flatMap_cons, List.length_append]
    rcases List.mem_cons.1 h with rfl | h
    · omega
    · have := ih h; omega
/-- What the loop holds. -/
def Cuts (W0 w : World) (more : List Res) (I0 : List Inv) (vo : Value) (acc : List Seg) : Prop :=
  (acc = [] ∧ vo = .slice none 0 0 ∧ St W0 w (fun _ => False) more I0) ∨
  ∃ ini s vs vl, acc = ini ++ [s] ∧ vs.length = ini.length ∧ St W0 w (fun _ => False) (.row vl 35 11 s.ops.length (s.ops.flatMap OpT.enc) :: .row vo 24 3 (ini.length + 1) (segCells ini vs ++ segC s vl) :: more) (segInvs ini vs ++ I0)
theorem Cuts.form {W0 w : World} {more : List Res} {I0 : List Inv} {vo : Value} {acc : List Seg} (h : Cuts W0 w more I0 vo acc) : ∃ a c, vo = .slice a acc.length c := by
  rcases h with ⟨rfl, rfl, _⟩ | ⟨ini, s, vs, vl, rfl, _, h⟩
  · exact ⟨_, _, rfl⟩
  · obtain ⟨a, c, rfl, _⟩ := own_slice (h.row 1 rfl)
    exact ⟨a, c, by rw [List.length_append]; rfl⟩
theorem Cuts.bel {W0 w : World} {more : List Res} {I0 : List Inv} {vo : Value} {acc : List Seg} (h : Cuts W0 w more I0 vo acc) : Below W0.heap.size W0 w := by
  rcases h with ⟨_, _, h⟩ | ⟨_, _, _, _, _, _, h⟩ <;> exact h.bel
theorem Cuts.call {W0 w w' : World} {more : List Res} {I0 : List Inv} {vo : Value} {acc : List Seg} (h : Cuts W0 w more I0 vo acc) (hb : Below w.heap.size w w') : Cuts W0 w' more I0 vo acc := by
  rcases h with ⟨h1, h2, h⟩ | ⟨ini, s, vs, vl, h1, h2, h⟩
  · exact .inl ⟨h1, h2, h.call hb⟩
  · exact .inr ⟨ini, s, vs, vl, h1, h2, h.call hb⟩
/-- What is held beside the segments. -/
theorem Cuts.base {W0 w : World} {more : List Res} {I0 : List Inv} {vo : Value} {acc : List Seg} (h : Cuts W0 w more I0 vo acc) : St W0 w (fun _ => False) more I0 := by
  rcases h with ⟨_, _, h⟩ | ⟨_, _, _, _, _, _, h⟩
  · exact h
  · exact (h.sub ((List.sublist_cons_self _ _).trans (List.sublist_cons_self _ _))).inv_sub fun a ha => List.mem_append_right _ ha
theorem Cuts.box {W0 w : World} {more : List Res} {I0 : List Inv} {vo : Value} {acc : List Seg} (h : Cuts W0 w more I0 vo acc) (cs : Array Value) (t : TypeId) : Cuts W0 (w.alloc (.cells cs t)) (.blk w.heap.size cs t :: more) I0 vo acc := by
  rcases h with ⟨h1, h2, h⟩ | ⟨ini, s, vs, vl, h1, h2, h⟩
  · exact .inl ⟨h1, h2, h.box cs t⟩
  · exact .inr ⟨ini, s, vs, vl, h1, h2, (h.box cs t).perm (((List.Perm.swap _ _ _).cons _).trans (List.Perm.swap _ _ _))⟩
theorem Cuts.drop {W0 w : World} {more : List Res} {r : Res} {I0 : List Inv} {vo : Value} {acc : List Seg} (h : Cuts W0 w (r :: more) I0 vo acc) : Cuts W0 w more I0 vo acc := by
  rcases h with ⟨h1, h2, h⟩ | ⟨ini, s, vs, vl, h1, h2, h⟩
  · exact .inl ⟨h1, h2, h.sub (List.sublist_cons_self _ _)⟩
  · exact .inr ⟨ini, s, vs, vl, h1, h2, h.sub (((List.sublist_cons_self _ _).cons_cons _).cons_cons _)⟩
theorem Cuts.grow {W0 w : World} {more : List Res} {I0 : List Inv} {vo x : Value} {acc : List Seg} (h : Cuts W0 w more I0 vo acc) (obj kind : Int) (hn : acc.length ≤ 100) (hx : Rd w 3 x 1 (segC ⟨obj, kind, []⟩ (.slice none 0 0))) {K : Value → World → Prop} {cs : Array Bool} {ty : Nat}
    (hK : ∀ v' w', Cuts W0 w' more I0 v' (acc ++ [⟨obj, kind, []⟩]) → K v' w') : rawB Try.prog .append #[28, 28] ty cs [vo, x] w K := by
  rcases h with ⟨rfl, rfl, h⟩ | ⟨ini, s, vs, vl, rfl, hl, h⟩
  · have s1 := h.nilRow 24 3
    refine s1.append 0 rfl ty28mkI rfl (by decide) hx (by intro u hu; simp only [segC, List.mem_cons, List.not_mem_nil, or_false] at hu; rcases hu with rfl | rfl | rfl <;> rfl) (by omega) (by omega) ?_
    intro v' w' s2 _
    simp only [List.set_cons_zero] at s2
    exact hK _ _ (.inr ⟨[], _, [], .slice none 0 0, rfl, rfl, s2.nilRow 35 11⟩)
  · rw [List.length_append, List.length_singleton] at hn
    have s1 := h.seal (.rd 11 OpT.enc vl s.ops) (RdS.of_own (h.row 0 rfl)) fun k hk => slFoot_own hk
    refine s1.append 0 rfl ty28mkI rfl (by decide) hx (by intro u hu; simp only [segC, List.mem_cons, List.not_mem_nil, or_false] at hu; rcases hu with rfl | rfl | rfl <;> rfl) (by omega) (by omega) ?_
    intro v' w' s2 _
    simp only [List.set_cons_zero] at s2
    have s3 := (s2.nilRow 35 11).inv_sub (I' := segInvs (ini ++ [s]) (vs ++ [vl]) ++ I0) fun a ha => by
      rcases List.mem_append.1 ha with ha | ha
      · rcases (segInvs_snoc ini vs s vl hl a).1 ha with rfl | ha
        · exact List.mem_cons_self
        · exact List.mem_cons_of_mem _ (List.mem_append_left _ ha)
      · exact List.mem_cons_of_mem _ (List.mem_append_right _ ha)
    rw [← segCells_snoc ini vs s vl hl] at s3
    refine hK _ _ (.inr ⟨ini ++ [s], _, vs ++ [vl], .slice none 0 0, rfl, by simp [hl], ?_⟩)
    rw [List.length_append, List.length_singleton]
    exact s3
theorem segCells_flat : ∀ (l : List Seg) (vs : List Value), (List.zipWith segC l vs).flatten = segCells l vs
  | [], vs => by cases vs <;> rfl
  | a :: l, [] => rfl
  | a :: l, b :: vs => by rw [List.zipWith_cons_cons, List.flatten_cons, segCells_flat l vs]; rfl
/-- What has come out. -/
theorem Cuts.out {W0 w : World} {more : List Res} {I0 : List Inv} {vo : Value} {acc : List Seg} (h : Cuts W0 w more I0 vo acc) (hs : ∀ s ∈ acc, (s.ops.length : Int) ≤ 9223372036854775806) : RdR w 3 segR vo acc := by
  rcases h with ⟨rfl, rfl, _⟩ | ⟨ini, s, vs, vl, rfl, hl, h⟩
  · exact RdR.nil
  refine ⟨List.zipWith segC (ini ++ [s]) (vs ++ [vl]), by simp [hl], ?_, ?_⟩
  · intro i c x hc hx
    rw [List.getElem?_zipWith, hx] at hc
    cases hv : (vs ++ [vl])[i]? with
    | none => rw [hv] at hc; cases hc
    | some v =>
      rw [hv] at hc
      simp only [Option.some.injEq] at hc
      subst hc
      refine ⟨rfl, v, rfl, ?_, hs x (List.mem_of_getElem? hx)⟩
      rcases Nat.lt_or_ge i ini.length with hi | hi
      · rw [List.getElem?_append_left hi] at hx
        rw [List.getElem?_append_left (by omega)] at hv
        exact (h.inv _ (List.mem_append_left _ (segInvs_mem ini vs i x v hx hv))).1
      · rw [List.getElem?_append_right hi] at hx
        rw [List.getElem?_append_right (by omega), hl] at hv
        have hz : i - ini.length = 0 := by
          have := (List.getElem?_eq_some_iff.1 hx).1
          simp only [List.length_singleton] at this; omega
        rw [hz] at hx hv
        simp only [List.getElem?_cons_zero, Option.some.injEq] at hx hv
        subst hx; subst hv
        exact RdS.of_own (h.row 0 rfl)
  · rw [segCells_flat, segCells_snoc ini vs s vl hl, List.length_append, List.length_singleton]
    exact Rd.of_own (h.row 1 rfl)
theorem own_mono {w : World} {B B' e sz n : Nat} {v : Value} {xs : List Value} (h : w.ownsRow B e sz v n xs) (hb : B' ≤ B) : w.ownsRow B' e sz v n xs := by
  obtain ⟨h1, h2 | ⟨g, cap, cur, h3, h4, h5⟩⟩ := h
  · exact ⟨h1, .inl h2⟩
  · exact ⟨h1, .inr ⟨g, cap, cur, h3, by omega, h5⟩⟩
theorem push16 {W0 w : World} {more : List Res} {I0 : List Inv} {vo : Value} {ini : List Seg} {s : Seg} {Q : Post} (o : OpT) (b : Nat) (v1 v13 v14 v15 : Value) (h : Cuts W0 w (.blk b o.enc.toArray 35 :: more) I0 vo (ini ++ [s])) (hn : ini.length ≤ 100) (hs : s.ops.length ≤ 100)
    (hQ : ∀ w', Cuts W0 w' more I0 vo (ini ++ [⟨s.obj, s.kind, s.ops ++ [o]⟩]) → Q .normal [(1, v1), (4, vo), (13, v13), (14, v14), (15, v15)] w') :
    W Try.prog (c16S2 ()) [(1, v1), (4, vo), (6, .pointer (some ⟨b, 0, none⟩)), (7, .int .i64 ini.length), (13, v13), (14, v14), (15, v15)] w Q := by
  rcases h with ⟨h, _⟩ | ⟨ini', s', vs, vl, he, hl, h⟩
  · simp at h
  obtain ⟨rfl, rfl⟩ : ini = ini' ∧ s = s' := by
    have := List.append_inj' he rfl
    exact ⟨this.1, by simpa using this.2⟩
  obtain ⟨a, c, rfl, _⟩ := own_slice (h.row 1 rfl)
  obtain ⟨g, rfl⟩ : ∃ g, a = some ⟨g, 0, none⟩ := by
    obtain ⟨_, ⟨_, h0⟩ | ⟨g, cap, cur, e, _⟩⟩ := h.row 1 rfl
    · omega
    · cases e; exact ⟨g, rfl⟩
  have hrow := (h.row 1 rfl)
  have hlen := segCells_length ini vs hl
  have hc0 : w.cell? ⟨g, ini.length * 3 + 2, none⟩ = some vl := by
    have := hrow.cells rfl (ini.length * 3 + 2) vl (by rw [List.getElem?_append_right (by omega), hlen, show ini.length * 3 + 2 - ini.length * 3 = 2 by omega]; rfl)
    simpa [Addr.add] using this
  have hgl := hrow.lt g rfl
  have hne : vl.ownBlock ≠ some g := h.ne 1 0 rfl rfl (by decide) rfl
  obtain ⟨av, cv, rfl, _⟩ := own_slice (h.row 0 rfl)
  have ho := h.blk 2 rfl
  have hbl := ho.lt
  have hor := ho.rules
  simp (disch := first | omega | exact okFill_t rfl | exact okSize_t rfl | exact fun h => h | (simp only [World.size_alloc, World.size_drew, World.size_setCell, size_fill, bytesW]; omega)) only [go_sem, ↓reduceIte, reduceCtorEq, Nat.reduceBEq, Nat.reduceEqDiff, Nat.reduceAdd, Nat.reduceMul, Int.reduceNe, Int.reduceEq, Int.reduceLT, Int.reduceLE, Int.reduceNeg, Int.reduceAdd, Int.reduceSub, Int.reduceMul, Int.reduceToNat, beq_self_eq_true, c16, c16S0, c16S1, c16S2, c16S3, c16S4, c16L0, c16S5, c16S6, c16S7, storeW_fill, List.setIfInBounds_toArray, List.set_cons_zero, List.set_cons_succ, List.getElem_toArray, List.getElem_cons_zero, List.getElem_cons_succ, Nat.reduceLeDiff, Nat.reduceSub, okSt_nil, okSt_cons, fillO_some, fillO_none, cF_same, cF_blk, fF_any, size_fill, Value.oneCell', Int.toNat_natCast, Int.cast_ofNat_Int, cast0, cast1, Int.natCast_add, add_block, add_off, Classical.not_not, decide_not, Bool.not_eq_false, decide_true, decide_false, Bool.true_beq, Bool.false_beq, beq_true, beq_false, Bool.true_bne, Bool.false_bne, Bool.bne_true, Bool.bne_false, decide_eq_true_eq, Bool.not_eq_eq_eq_not, Nat.mul_one, List.size_toArray, List.length_cons, List.length_nil, Nat.le_refl, ldK_int, ldK_bool, ldK_str, ldK_slice, ldK_ptr, ldK_map, ldK_agg, ldK_other, ldO_int, ldO_bool, ldO_str, ldO_slice, ldO_ptr, ldO_map, ldO_other, ldA_some, cellsO_new, cellsO_nil, cellsC_some, cellsO_drew, cellsO_alloc, cA_add, cS_add, cA_new, cA_old, fA_new, fA_old, setO_some, cS_same, cS_off, cS_blk, World.cell?_drew, World.frozen?_drew, World.frozen?_setCell, World.size_alloc, World.size_drew, World.size_setCell, heldX_eq, heldX_add, chg_refl, chg_drew, ovr_nil, ovr_cons, Option.getD_some, Option.getD_none, Addr.add_lit, Nat.add_zero, Option.some.injEq, exists_eq', exists_eq_left', Value.int.injEq, Value.bool.injEq, Value.pointer.injEq, Value.string.injEq]
  refine c16draw1 (Chg (fun k => (Value.slice av s.ops.length cv).ownBlock = some k) _) (Chg.refl _ _) ?_
  simp (disch := first | omega | exact okFill_t rfl | exact okSize_t rfl | exact fun h => h | (simp only [World.size_alloc, World.size_drew, World.size_setCell, size_fill, bytesW]; omega)) only [go_sem, ↓reduceIte, reduceCtorEq, Nat.reduceBEq, Nat.reduceEqDiff, Nat.reduceAdd, Nat.reduceMul, Int.reduceNe, Int.reduceEq, Int.reduceLT, Int.reduceLE, Int.reduceNeg, Int.reduceAdd, Int.reduceSub, Int.reduceMul, Int.reduceToNat, beq_self_eq_true, c16, c16S0, c16S1, c16S2, c16S3, c16S4, c16L0, c16S5, c16S6, c16S7, c16D1, hc0, hor, storeW_fill, List.setIfInBounds_toArray, List.set_cons_zero, List.set_cons_succ, List.getElem_toArray, List.getElem_cons_zero, List.getElem_cons_succ, Nat.reduceLeDiff, Nat.reduceSub, okSt_nil, okSt_cons, fillO_some, fillO_none, cF_same, cF_blk, fF_any, size_fill, Value.oneCell', Int.toNat_natCast, Int.cast_ofNat_Int, cast0, cast1, Int.natCast_add, add_block, add_off, Classical.not_not, decide_not, Bool.not_eq_false, decide_true, decide_false, Bool.true_beq, Bool.false_beq, beq_true, beq_false, Bool.true_bne, Bool.false_bne, Bool.bne_true, Bool.bne_false, decide_eq_true_eq, Bool.not_eq_eq_eq_not, Nat.mul_one, List.size_toArray, List.length_cons, List.length_nil, Nat.le_refl, ldK_int, ldK_bool, ldK_str, ldK_slice, ldK_ptr, ldK_map, ldK_agg, ldK_other, ldO_int, ldO_bool, ldO_str, ldO_slice, ldO_ptr, ldO_map, ldO_other, ldA_some, cellsO_new, cellsO_nil, cellsC_some, cellsO_drew, cellsO_alloc, cA_add, cS_add, cA_new, cA_old, fA_new, fA_old, setO_some, cS_same, cS_off, cS_blk, World.cell?_drew, World.frozen?_drew, World.frozen?_setCell, World.size_alloc, World.size_drew, World.size_setCell, heldX_eq, heldX_add, chg_refl, chg_drew, ovr_nil, ovr_cons, Option.getD_some, Option.getD_none, Addr.add_lit, Nat.add_zero, Option.some.injEq, exists_eq', exists_eq_left', Value.int.injEq, Value.bool.injEq, Value.pointer.injEq, Value.string.injEq]
  refine ⟨⟨by omega, by omega⟩, bsW_agg ty22mkI rfl (by decide) (by decide) ?_⟩
  have h2 : St W0 (w.alloc (.cells o.enc.toArray 35)).drew _ _ _ := (h.alloc' (.cells o.enc.toArray 35)).drew
  have hrd : Rd (w.alloc (.cells o.enc.toArray 35)).drew 11 (.slice (some ⟨w.heap.size, 0, none⟩) 1 1) 1 o.enc := rd_new (w := w.drew) (t := 35) (sz := 11) (n := 1) (cs := o.enc.toArray) rfl
  simp (disch := first | omega | exact okFill_t rfl | exact okSize_t rfl | exact fun h => h | (simp only [World.size_alloc, World.size_drew, World.size_setCell, size_fill, bytesW]; omega)) only [go_sem, ↓reduceIte, reduceCtorEq, Nat.reduceBEq, Nat.reduceEqDiff, Nat.reduceAdd, Nat.reduceMul, Int.reduceNe, Int.reduceEq, Int.reduceLT, Int.reduceLE, Int.reduceNeg, Int.reduceAdd, Int.reduceSub, Int.reduceMul, Int.reduceToNat, beq_self_eq_true, c16, c16S0, c16S1, c16S2, c16S3, c16S4, c16L0, c16S5, c16S6, c16S7, c16D1, hc0, hor, storeW_fill, List.setIfInBounds_toArray, List.set_cons_zero, List.set_cons_succ, List.getElem_toArray, List.getElem_cons_zero, List.getElem_cons_succ, Nat.reduceLeDiff, Nat.reduceSub, okSt_nil, okSt_cons, fillO_some, fillO_none, cF_same, cF_blk, fF_any, size_fill, Value.oneCell', Int.toNat_natCast, Int.cast_ofNat_Int, cast0, cast1, Int.natCast_add, add_block, add_off, Classical.not_not, decide_not, Bool.not_eq_false, decide_true, decide_false, Bool.true_beq, Bool.false_beq, beq_true, beq_false, Bool.true_bne, Bool.false_bne, Bool.bne_true, Bool.bne_false, decide_eq_true_eq, Bool.not_eq_eq_eq_not, Nat.mul_one, List.size_toArray, List.length_cons, List.length_nil, Nat.le_refl, ldK_int, ldK_bool, ldK_str, ldK_slice, ldK_ptr, ldK_map, ldK_agg, ldK_other, ldO_int, ldO_bool, ldO_str, ldO_slice, ldO_ptr, ldO_map, ldO_other, ldA_some, cellsO_new, cellsO_nil, cellsC_some, cellsO_drew, cellsO_alloc, cA_add, cS_add, cA_new, cA_old, fA_new, fA_old, setO_some, cS_same, cS_off, cS_blk, World.cell?_drew, World.frozen?_drew, World.frozen?_setCell, World.size_alloc, World.size_drew, World.size_setCell, heldX_eq, heldX_add, chg_refl, chg_drew, ovr_nil, ovr_cons, Option.getD_some, Option.getD_none, Addr.add_lit, Nat.add_zero, Option.some.injEq, exists_eq', exists_eq_left', Value.int.injEq, Value.bool.injEq, Value.pointer.injEq, Value.string.injEq]
  refine ⟨chg_da, h2.append 0 rfl ty22mkI rfl (by decide) hrd o.one (by omega) (by omega) ?_⟩
  intro v3 w3 s3 c3
  simp only [List.set_cons_zero] at s3
  obtain ⟨a3, c3', rfl, _⟩ := own_slice (s3.row 0 rfl)
  have s3' := s3.row 1 rfl
  simp (disch := first | omega | exact okFill_t rfl | exact okSize_t rfl | exact fun h => h | (simp only [World.size_alloc, World.size_drew, World.size_setCell, size_fill, bytesW]; omega)) only [go_sem, ↓reduceIte, reduceCtorEq, Nat.reduceBEq, Nat.reduceEqDiff, Nat.reduceAdd, Nat.reduceMul, Int.reduceNe, Int.reduceEq, Int.reduceLT, Int.reduceLE, Int.reduceNeg, Int.reduceAdd, Int.reduceSub, Int.reduceMul, Int.reduceToNat, beq_self_eq_true, c16, c16S0, c16S1, c16S2, c16S3, c16S4, c16L0, c16S5, c16S6, c16S7, c16D1, hc0, hor, storeW_fill, List.setIfInBounds_toArray, List.set_cons_zero, List.set_cons_succ, List.getElem_toArray, List.getElem_cons_zero, List.getElem_cons_succ, Nat.reduceLeDiff, Nat.reduceSub, okSt_nil, okSt_cons, fillO_some, fillO_none, cF_same, cF_blk, fF_any, size_fill, Value.oneCell', Int.toNat_natCast, Int.cast_ofNat_Int, cast0, cast1, Int.natCast_add, add_block, add_off, Classical.not_not, decide_not, Bool.not_eq_false, decide_true, decide_false, Bool.true_beq, Bool.false_beq, beq_true, beq_false, Bool.true_bne, Bool.false_bne, Bool.bne_true, Bool.bne_false, decide_eq_true_eq, Bool.not_eq_eq_eq_not, Nat.mul_one, List.size_toArray, List.length_cons, List.length_nil, Nat.le_refl, ldK_int, ldK_bool, ldK_str, ldK_slice, ldK_ptr, ldK_map, ldK_agg, ldK_other, ldO_int, ldO_bool, ldO_str, ldO_slice, ldO_ptr, ldO_map, ldO_other, ldA_some, cellsO_new, cellsO_nil, cellsC_some, cellsO_drew, cellsO_alloc, cA_add, cS_add, cA_new, cA_old, fA_new, fA_old, setO_some, cS_same, cS_off, cS_blk, World.cell?_drew, World.frozen?_drew, World.frozen?_setCell, World.size_alloc, World.size_drew, World.size_setCell, heldX_eq, heldX_add, chg_refl, chg_drew, ovr_nil, ovr_cons, Option.getD_some, Option.getD_none, Addr.add_lit, Nat.add_zero, Option.some.injEq, exists_eq', exists_eq_left', Value.int.injEq, Value.bool.injEq, Value.pointer.injEq, Value.string.injEq]
  have hc3 : w3.cell? ⟨g, ini.length * 3 + 2, none⟩ = some (.slice av s.ops.length cv) := by
    have := s3'.cells rfl (ini.length * 3 + 2) (.slice av s.ops.length cv) (by rw [List.getElem?_append_right (by omega), hlen, show ini.length * 3 + 2 - ini.length * 3 = 2 by omega]; rfl)
    simpa [Addr.add] using this
  have hf3 : w3.frozen? ⟨g, ini.length * 3 + 2, none⟩ = false := by
    obtain ⟨_, ⟨h0, _⟩ | ⟨g', cap, cur, e, _, hb, _⟩⟩ := s3'
    · cases h0
    · cases e; exact Blk.frozen (show Blk w3 g cur _ from hb) _
  refine ⟨⟨by omega, by omega⟩, ⟨_, hc3⟩, hf3, hQ _ (.inr ⟨ini, _, vs, .slice a3 (s.ops.length + 1) c3', rfl, hl, ?_⟩)⟩
  have s4 := (s3.put 1 rfl (ini.length * 3 + 2) (.slice a3 (s.ops.length + 1) c3')).sub (((List.sublist_cons_self _ _).cons_cons _).cons_cons _)
  rw [List.set_append_right _ _ (by omega), hlen, show ini.length * 3 + 2 - ini.length * 3 = 2 by omega] at s4
  have e1 : (s.ops ++ [o]).flatMap OpT.enc = s.ops.flatMap OpT.enc ++ o.enc := by rw [List.flatMap_append]; simp
  have e2 : (s.ops ++ [o]).length = s.ops.length + 1 := by simp
  show St W0 _ _ (.row _ _ 11 (s.ops ++ [o]).length ((s.ops ++ [o]).flatMap OpT.enc) :: _) _
  rw [e1, e2]
  exact s4
theorem segments_ok (obj kind : Int) (v : Value) (l : List OpT) (w : World) (h : RdS w 11 OpT.enc v l) (hl : l.length ≤ 100) :
    Ret Try.prog 16 [.agg #[.int .i64 obj, .int .i64 kind, v]] w fun u w' => (∃ l', Sorts earI l l' ∧ RdR w' 3 segR u (l'.foldl (cutStep (fun s o => s.ops.all fun x => before x o) fun _ => (obj, kind)) [])) ∧ Below w.heap.size w w' := by
  obtain ⟨a, c, rfl, _⟩ := h.form
  refine ent16 _ _ _ ?_
  simp (disch := first | omega | exact okFill_t rfl | exact okSize_t rfl | exact fun h => h | (simp only [World.size_alloc, World.size_drew, World.size_setCell, size_fill, bytesW]; omega)) only [go_sem, ↓reduceIte, reduceCtorEq, Nat.reduceBEq, Nat.reduceEqDiff, Nat.reduceAdd, Nat.reduceMul, Int.reduceNe, Int.reduceEq, Int.reduceLT, Int.reduceLE, Int.reduceNeg, Int.reduceAdd, Int.reduceSub, Int.reduceMul, Int.reduceToNat, beq_self_eq_true, c16, c16S0, c16S1, c16S2, c16S3, c16S4, c16L0, c16S5, c16S6, c16S7, storeW_fill, List.setIfInBounds_toArray, List.set_cons_zero, List.set_cons_succ, List.getElem_toArray, List.getElem_cons_zero, List.getElem_cons_succ, Nat.reduceLeDiff, Nat.reduceSub, okSt_nil, okSt_cons, fillO_some, fillO_none, cF_same, cF_blk, fF_any, size_fill, Value.oneCell', Int.toNat_natCast, Int.cast_ofNat_Int, cast0, cast1, Int.natCast_add, add_block, add_off, Classical.not_not, decide_not, Bool.not_eq_false, decide_true, decide_false, Bool.true_beq, Bool.false_beq, beq_true, beq_false, Bool.true_bne, Bool.false_bne, Bool.bne_true, Bool.bne_false, decide_eq_true_eq, Bool.not_eq_eq_eq_not, Nat.mul_one, List.size_toArray, List.length_cons, List.length_nil, Nat.le_refl, ldK_int, ldK_bool, ldK_str, ldK_slice, ldK_ptr, ldK_map, ldK_agg, ldK_other, ldO_int, ldO_bool, ldO_str, ldO_slice, ldO_ptr, ldO_map, ldO_other, ldA_some, cellsO_new, cellsO_nil, cellsC_some, cellsO_drew, cellsO_alloc, cA_add, cS_add, cA_new, cA_old, fA_new, fA_old, setO_some, cS_same, cS_off, cS_blk, World.cell?_drew, World.frozen?_drew, World.frozen?_setCell, World.size_alloc, World.size_drew, World.size_setCell, heldX_eq, heldX_add, chg_refl, chg_drew, ovr_nil, ovr_cons, Option.getD_some, Option.getD_none, Addr.add_lit, Nat.add_zero, Option.some.injEq, exists_eq', exists_eq_left', Value.int.injEq, Value.bool.injEq, Value.pointer.injEq, Value.string.injEq]
  have s1 := (St.start (W0 := w)).box #[.int .i64 obj, .int .i64 kind, .slice a l.length c] 24
  have h1 := h.below s1.bel (by decide)
  generalize w.alloc (.cells #[.int .i64 obj, .int .i64 kind, .slice a l.length c] 24) = w1 at s1 h1 ⊢
  refine Ret.mono (clone_ok _ _ _ h1 hl) ?_
  rintro vl w2 ⟨o2, b2⟩
  have s2 := s1.add b2 (.row vl 35 11 l.length (l.flatMap OpT.enc)) (own_mono o2 s1.size) fun k hk => (o2.lt k hk).1
  simp (disch := first | omega | exact okFill_t rfl | exact okSize_t rfl | exact fun h => h | (simp only [World.size_alloc, World.size_drew, World.size_setCell, size_fill, bytesW]; omega)) only [go_sem, ↓reduceIte, reduceCtorEq, Nat.reduceBEq, Nat.reduceEqDiff, Nat.reduceAdd, Nat.reduceMul, Int.reduceNe, Int.reduceEq, Int.reduceLT, Int.reduceLE, Int.reduceNeg, Int.reduceAdd, Int.reduceSub, Int.reduceMul, Int.reduceToNat, beq_self_eq_true, c16, c16S0, c16S1, c16S2, c16S3, c16S4, c16L0, c16S5, c16S6, c16S7, storeW_fill, List.setIfInBounds_toArray, List.set_cons_zero, List.set_cons_succ, List.getElem_toArray, List.getElem_cons_zero, List.getElem_cons_succ, Nat.reduceLeDiff, Nat.reduceSub, okSt_nil, okSt_cons, fillO_some, fillO_none, cF_same, cF_blk, fF_any, size_fill, Value.oneCell', Int.toNat_natCast, Int.cast_ofNat_Int, cast0, cast1, Int.natCast_add, add_block, add_off, Classical.not_not, decide_not, Bool.not_eq_false, decide_true, decide_false, Bool.true_beq, Bool.false_beq, beq_true, beq_false, Bool.true_bne, Bool.false_bne, Bool.bne_true, Bool.bne_false, decide_eq_true_eq, Bool.not_eq_eq_eq_not, Nat.mul_one, List.size_toArray, List.length_cons, List.length_nil, Nat.le_refl, ldK_int, ldK_bool, ldK_str, ldK_slice, ldK_ptr, ldK_map, ldK_agg, ldK_other, ldO_int, ldO_bool, ldO_str, ldO_slice, ldO_ptr, ldO_map, ldO_other, ldA_some, cellsO_new, cellsO_nil, cellsC_some, cellsO_drew, cellsO_alloc, cA_add, cS_add, cA_new, cA_old, fA_new, fA_old, setO_some, cS_same, cS_off, cS_blk, World.cell?_drew, World.frozen?_drew, World.frozen?_setCell, World.size_alloc, World.size_drew, World.size_setCell, heldX_eq, heldX_add, chg_refl, chg_drew, ovr_nil, ovr_cons, Option.getD_some, Option.getD_none, Addr.add_lit, Nat.add_zero, Option.some.injEq, exists_eq', exists_eq_left', Value.int.injEq, Value.bool.injEq, Value.pointer.injEq, Value.string.injEq]
  refine Ret.mono (sort_ok earI _ (enters_of Try.func36 (by kernel_rfl) rfl) swo_ear earlier_ok vl l w2 _ (s2.row 0 rfl) hl) ?_
  rintro _ w3 ⟨l', hs, o3, c3⟩
  have s3 := s2.upd 0 rfl c3 (.row vl 35 11 l.length (l'.flatMap OpT.enc)) o3 fun k hk => .inl hk
  have hll : l'.length = l.length := hs.1.length_eq
  simp only [List.set_cons_zero] at s3
  have s4 := s3.seal (.rd 11 OpT.enc vl l') (RdS.of_own' (s3.row 0 rfl) l' hll.symm rfl) fun k hk => slFoot_own hk
  obtain ⟨al, cl, rfl, _⟩ := own_slice o3
  simp (disch := first | omega | exact okFill_t rfl | exact okSize_t rfl | exact fun h => h | (simp only [World.size_alloc, World.size_drew, World.size_setCell, size_fill, bytesW]; omega)) only [go_sem, ↓reduceIte, reduceCtorEq, Nat.reduceBEq, Nat.reduceEqDiff, Nat.reduceAdd, Nat.reduceMul, Int.reduceNe, Int.reduceEq, Int.reduceLT, Int.reduceLE, Int.reduceNeg, Int.reduceAdd, Int.reduceSub, Int.reduceMul, Int.reduceToNat, beq_self_eq_true, c16, c16S0, c16S1, c16S2, c16S3, c16S4, c16L0, c16S5, c16S6, c16S7, storeW_fill, List.setIfInBounds_toArray, List.set_cons_zero, List.set_cons_succ, List.getElem_toArray, List.getElem_cons_zero, List.getElem_cons_succ, Nat.reduceLeDiff, Nat.reduceSub, okSt_nil, okSt_cons, fillO_some, fillO_none, cF_same, cF_blk, fF_any, size_fill, Value.oneCell', Int.toNat_natCast, Int.cast_ofNat_Int, cast0, cast1, Int.natCast_add, add_block, add_off, Classical.not_not, decide_not, Bool.not_eq_false, decide_true, decide_false, Bool.true_beq, Bool.false_beq, beq_true, beq_false, Bool.true_bne, Bool.false_bne, Bool.bne_true, Bool.bne_false, decide_eq_true_eq, Bool.not_eq_eq_eq_not, Nat.mul_one, List.size_toArray, List.length_cons, List.length_nil, Nat.le_refl, ldK_int, ldK_bool, ldK_str, ldK_slice, ldK_ptr, ldK_map, ldK_agg, ldK_other, ldO_int, ldO_bool, ldO_str, ldO_slice, ldO_ptr, ldO_map, ldO_other, ldA_some, cellsO_new, cellsO_nil, cellsC_some, cellsO_drew, cellsO_alloc, cA_add, cS_add, cA_new, cA_old, fA_new, fA_old, setO_some, cS_same, cS_off, cS_blk, World.cell?_drew, World.frozen?_drew, World.frozen?_setCell, World.size_alloc, World.size_drew, World.size_setCell, heldX_eq, heldX_add, chg_refl, chg_drew, ovr_nil, ovr_cons, Option.getD_some, Option.getD_none, Addr.add_lit, Nat.add_zero, Option.some.injEq, exists_eq', exists_eq_left', Value.int.injEq, Value.bool.injEq, Value.pointer.injEq, Value.string.injEq]
  refine W_loopU (fun x : Nat × Value => [(4, x.2), (15, .int .i64 x.1)]) (fun x w' => x.1 ≤ l'.length ∧ Cuts w w' [.blk w.heap.size #[.int .i64 obj, .int .i64 kind, .slice a l.length c] 24] [.rd 11 OpT.enc (.slice al l.length cl) l'] x.2 ((l'.take x.1).foldl (cutStep (fun s o => s.ops.all fun x => before x o) fun _ => (obj, kind)) [])) (fun x => l'.length - x.1) (0, .slice none 0 0) rfl ⟨Nat.zero_le _, .inl ⟨rfl, rfl, s4⟩⟩ ?_
  rintro ⟨k, vo⟩ w4 ⟨hk, hc⟩
  simp only at hk hc
  generalize ha : (l'.take k).foldl (cutStep (fun s o => s.ops.all fun x => before x o) fun _ => (obj, kind)) [] = acc at hc
  obtain ⟨ao, co, rfl⟩ := hc.form
  by_cases hlt : k < l'.length
  · have hlt' : (k : Int) < l.length := by omega
    have hstep : (l'.take (k + 1)).foldl (cutStep (fun s o => s.ops.all fun x => before x o) fun _ => (obj, kind)) [] = cutStep (fun s o => s.ops.all fun x => before x o) (fun _ => (obj, kind)) acc l'[k] := by
      rw [List.take_succ_eq_append_getElem hlt, List.foldl_append, ha]; rfl
    have s5 : St w w4 (fun _ => False) [.blk w.heap.size #[.int .i64 obj, .int .i64 kind, .slice a l.length c] 24] [.rd 11 OpT.enc (.slice al l.length cl) l'] := hc.base
    have r5 := s5.rules 0 rfl
    have g5 := s5.get 0 rfl
    have g5' : RdS w4 11 OpT.enc (.slice al l.length cl) l' := g5
    obtain ⟨pl, rfl⟩ := RdS.ptr (by rw [← hll] at g5'; exact g5') (by omega)
    have el := g5'.at OpT.len hlt
    simp (disch := first | omega | exact okFill_t rfl | exact okSize_t rfl | exact fun h => h | (simp only [World.size_alloc, World.size_drew, World.size_setCell, size_fill, bytesW]; omega)) only [go_sem, ↓reduceIte, reduceCtorEq, Nat.reduceBEq, Nat.reduceEqDiff, Nat.reduceAdd, Nat.reduceMul, Int.reduceNe, Int.reduceEq, Int.reduceLT, Int.reduceLE, Int.reduceNeg, Int.reduceAdd, Int.reduceSub, Int.reduceMul, Int.reduceToNat, beq_self_eq_true, c16, c16S0, c16S3, c16S4, c16L0, c16S5, c16S6, c16S7, hlt', r5, el, storeW_fill, List.setIfInBounds_toArray, List.set_cons_zero, List.set_cons_succ, List.getElem_toArray, List.getElem_cons_zero, List.getElem_cons_succ, Nat.reduceLeDiff, Nat.reduceSub, okSt_nil, okSt_cons, fillO_some, fillO_none, cF_same, cF_blk, fF_any, size_fill, Value.oneCell', Int.toNat_natCast, Int.cast_ofNat_Int, cast0, cast1, Int.natCast_add, add_block, add_off, Classical.not_not, decide_not, Bool.not_eq_false, decide_true, decide_false, Bool.true_beq, Bool.false_beq, beq_true, beq_false, Bool.true_bne, Bool.false_bne, Bool.bne_true, Bool.bne_false, decide_eq_true_eq, Bool.not_eq_eq_eq_not, Nat.mul_one, List.size_toArray, List.length_cons, List.length_nil, Nat.le_refl, ldK_int, ldK_bool, ldK_str, ldK_slice, ldK_ptr, ldK_map, ldK_agg, ldK_other, ldO_int, ldO_bool, ldO_str, ldO_slice, ldO_ptr, ldO_map, ldO_other, ldA_some, cellsO_new, cellsO_nil, cellsC_some, cellsO_drew, cellsO_alloc, cA_add, cS_add, cA_new, cA_old, fA_new, fA_old, setO_some, cS_same, cS_off, cS_blk, World.cell?_drew, World.frozen?_drew, World.frozen?_setCell, World.size_alloc, World.size_drew, World.size_setCell, heldX_eq, heldX_add, chg_refl, chg_drew, ovr_nil, ovr_cons, Option.getD_some, Option.getD_none, Addr.add_lit, Nat.add_zero, Option.some.injEq, exists_eq', exists_eq_left', Value.int.injEq, Value.bool.injEq, Value.pointer.injEq, Value.string.injEq]
    have hflat := cut_flat (fun s o => s.ops.all fun x => before x o) (fun _ => (obj, kind)) (l'.take k) []
    have hne := cut_ne (fun s o => s.ops.all fun x => before x o) (fun _ => (obj, kind)) (l'.take k) [] (fun s h => by cases h)
    rw [ha] at hflat hne
    simp only [List.flatMap_nil, List.nil_append] at hflat
    have hlen := segs_len acc hne
    have hfl : (acc.flatMap Seg.ops).length = k := by rw [hflat, List.length_take]; omega
    refine ⟨by omega, rfl, ⟨by omega, by omega⟩, ?_⟩
    have hc6 := hc.box l'[k].enc.toArray 35
    have hw6 := hc6.base.size
    have r6 := hc6.base.rules 1 rfl
    have ho := hc6.base.blk 0 rfl
    generalize w4.heap.size = bo at hc6 ho ⊢
    generalize w4.alloc (.cells l'[k].enc.toArray 35) = w6 at hc6 ho r6 hw6 ⊢
    have ro := ho.rules
    have hw7 := ho.lt
    rcases List.eq_nil_or_concat acc with rfl | ⟨ini, s, hacc⟩
    · refine c16draw0 (Chg (fun _ => False) _) (Chg.refl _ _) ?_
      simp (disch := first | omega | exact okFill_t rfl | exact okSize_t rfl | exact fun h => h | (simp only [World.size_alloc, World.size_drew, World.size_setCell, size_fill, bytesW]; omega)) only [go_sem, ↓reduceIte, reduceCtorEq, Nat.reduceBEq, Nat.reduceEqDiff, Nat.reduceAdd, Nat.reduceMul, Int.reduceNe, Int.reduceEq, Int.reduceLT, Int.reduceLE, Int.reduceNeg, Int.reduceAdd, Int.reduceSub, Int.reduceMul, Int.reduceToNat, beq_self_eq_true, c16, c16S0, c16S1, c16S3, c16S4, c16L0, c16S5, c16S6, c16S7, c16D0, r6, storeW_fill, List.setIfInBounds_toArray, List.set_cons_zero, List.set_cons_succ, List.getElem_toArray, List.getElem_cons_zero, List.getElem_cons_succ, Nat.reduceLeDiff, Nat.reduceSub, okSt_nil, okSt_cons, fillO_some, fillO_none, cF_same, cF_blk, fF_any, size_fill, Value.oneCell', Int.toNat_natCast, Int.cast_ofNat_Int, cast0, cast1, Int.natCast_add, add_block, add_off, Classical.not_not, decide_not, Bool.not_eq_false, decide_true, decide_false, Bool.true_beq, Bool.false_beq, beq_true, beq_false, Bool.true_bne, Bool.false_bne, Bool.bne_true, Bool.bne_false, decide_eq_true_eq, Bool.not_eq_eq_eq_not, Nat.mul_one, List.size_toArray, List.length_cons, List.length_nil, Nat.le_refl, ldK_int, ldK_bool, ldK_str, ldK_slice, ldK_ptr, ldK_map, ldK_agg, ldK_other, ldO_int, ldO_bool, ldO_str, ldO_slice, ldO_ptr, ldO_map, ldO_other, ldA_some, cellsO_new, cellsO_nil, cellsC_some, cellsO_drew, cellsO_alloc, cA_add, cS_add, cA_new, cA_old, fA_new, fA_old, setO_some, cS_same, cS_off, cS_blk, World.cell?_drew, World.frozen?_drew, World.frozen?_setCell, World.size_alloc, World.size_drew, World.size_setCell, heldX_eq, heldX_add, chg_refl, chg_drew, ovr_nil, ovr_cons, Option.getD_some, Option.getD_none, Addr.add_lit, Nat.add_zero, Option.some.injEq, exists_eq', exists_eq_left', Value.int.injEq, Value.bool.injEq, Value.pointer.injEq, Value.string.injEq]
      refine bdW_built (cells := (segC ⟨obj, kind, []⟩ (.slice none 0 0)).toArray) (by kernel_rfl) ?_
      simp (disch := first | omega | exact okFill_t rfl | exact okSize_t rfl | exact fun h => h | (simp only [World.size_alloc, World.size_drew, World.size_setCell, size_fill, bytesW]; omega)) only [go_sem, ↓reduceIte, reduceCtorEq, Nat.reduceBEq, Nat.reduceEqDiff, Nat.reduceAdd, Nat.reduceMul, Int.reduceNe, Int.reduceEq, Int.reduceLT, Int.reduceLE, Int.reduceNeg, Int.reduceAdd, Int.reduceSub, Int.reduceMul, Int.reduceToNat, beq_self_eq_true, c16, c16S0, c16S1, c16S3, c16S4, c16L0, c16S5, c16S6, c16S7, storeW_fill, List.setIfInBounds_toArray, List.set_cons_zero, List.set_cons_succ, List.getElem_toArray, List.getElem_cons_zero, List.getElem_cons_succ, Nat.reduceLeDiff, Nat.reduceSub, okSt_nil, okSt_cons, fillO_some, fillO_none, cF_same, cF_blk, fF_any, size_fill, Value.oneCell', Int.toNat_natCast, Int.cast_ofNat_Int, cast0, cast1, Int.natCast_add, add_block, add_off, Classical.not_not, decide_not, Bool.not_eq_false, decide_true, decide_false, Bool.true_beq, Bool.false_beq, beq_true, beq_false, Bool.true_bne, Bool.false_bne, Bool.bne_true, Bool.bne_false, decide_eq_true_eq, Bool.not_eq_eq_eq_not, Nat.mul_one, List.size_toArray, List.length_cons, List.length_nil, Nat.le_refl, ldK_int, ldK_bool, ldK_str, ldK_slice, ldK_ptr, ldK_map, ldK_agg, ldK_other, ldO_int, ldO_bool, ldO_str, ldO_slice, ldO_ptr, ldO_map, ldO_other, ldA_some, cellsO_new, cellsO_nil, cellsC_some, cellsO_drew, cellsO_alloc, cA_add, cS_add, cA_new, cA_old, fA_new, fA_old, setO_some, cS_same, cS_off, cS_blk, World.cell?_drew, World.frozen?_drew, World.frozen?_setCell, World.size_alloc, World.size_drew, World.size_setCell, heldX_eq, heldX_add, chg_refl, chg_drew, ovr_nil, ovr_cons, Option.getD_some, Option.getD_none, Addr.add_lit, Nat.add_zero, Option.some.injEq, exists_eq', exists_eq_left', Value.int.injEq, Value.bool.injEq, Value.pointer.injEq, Value.string.injEq]
      refine bsW_agg ty28mkI rfl (by decide) (by decide) ?_
      simp (disch := first | omega | exact okFill_t rfl | exact okSize_t rfl | exact fun h => h | (simp only [World.size_alloc, World.size_drew, World.size_setCell, size_fill, bytesW]; omega)) only [go_sem, ↓reduceIte, reduceCtorEq, Nat.reduceBEq, Nat.reduceEqDiff, Nat.reduceAdd, Nat.reduceMul, Int.reduceNe, Int.reduceEq, Int.reduceLT, Int.reduceLE, Int.reduceNeg, Int.reduceAdd, Int.reduceSub, Int.reduceMul, Int.reduceToNat, beq_self_eq_true, c16, c16S0, c16S1, c16S3, c16S4, c16L0, c16S5, c16S6, c16S7, storeW_fill, List.setIfInBounds_toArray, List.set_cons_zero, List.set_cons_succ, List.getElem_toArray, List.getElem_cons_zero, List.getElem_cons_succ, Nat.reduceLeDiff, Nat.reduceSub, okSt_nil, okSt_cons, fillO_some, fillO_none, cF_same, cF_blk, fF_any, size_fill, Value.oneCell', Int.toNat_natCast, Int.cast_ofNat_Int, cast0, cast1, Int.natCast_add, add_block, add_off, Classical.not_not, decide_not, Bool.not_eq_false, decide_true, decide_false, Bool.true_beq, Bool.false_beq, beq_true, beq_false, Bool.true_bne, Bool.false_bne, Bool.bne_true, Bool.bne_false, decide_eq_true_eq, Bool.not_eq_eq_eq_not, Nat.mul_one, List.size_toArray, List.length_cons, List.length_nil, Nat.le_refl, ldK_int, ldK_bool, ldK_str, ldK_slice, ldK_ptr, ldK_map, ldK_agg, ldK_other, ldO_int, ldO_bool, ldO_str, ldO_slice, ldO_ptr, ldO_map, ldO_other, ldA_some, cellsO_new, cellsO_nil, cellsC_some, cellsO_drew, cellsO_alloc, cA_add, cS_add, cA_new, cA_old, fA_new, fA_old, setO_some, cS_same, cS_off, cS_blk, World.cell?_drew, World.frozen?_drew, World.frozen?_setCell, World.size_alloc, World.size_drew, World.size_setCell, heldX_eq, heldX_add, chg_refl, chg_drew, ovr_nil, ovr_cons, Option.getD_some, Option.getD_none, Addr.add_lit, Nat.add_zero, Option.some.injEq, exists_eq', exists_eq_left', Value.int.injEq, Value.bool.injEq, Value.pointer.injEq, Value.string.injEq]
      have hrd : Rd (w6.alloc (.cells (segC ⟨obj, kind, []⟩ (.slice none 0 0)).toArray 24)).drew 3 (.slice (some ⟨w6.heap.size, 0, none⟩) 1 1) 1 (segC ⟨obj, kind, []⟩ (.slice none 0 0)) := rd_new (w := w6.drew) (t := 24) (sz := 3) (n := 1) (cs := (segC ⟨obj, kind, []⟩ (.slice none 0 0)).toArray) rfl
      refine (hc6.call (w' := (w6.alloc (.cells (segC ⟨obj, kind, []⟩ (.slice none 0 0)).toArray 24)).drew) ((Below.refl _ w6).alloc (Nat.le_refl _) _).drew).grow obj kind (by simp) hrd ?_
      intro v8 w8 c8
      simp (disch := first | omega | exact okFill_t rfl | exact okSize_t rfl | exact fun h => h | (simp only [World.size_alloc, World.size_drew, World.size_setCell, size_fill, bytesW]; omega)) only [go_sem, ↓reduceIte, reduceCtorEq, Nat.reduceBEq, Nat.reduceEqDiff, Nat.reduceAdd, Nat.reduceMul, Int.reduceNe, Int.reduceEq, Int.reduceLT, Int.reduceLE, Int.reduceNeg, Int.reduceAdd, Int.reduceSub, Int.reduceMul, Int.reduceToNat, beq_self_eq_true, c16, c16S0, c16S1, c16S3, c16S4, c16L0, c16S5, c16S6, c16S7, storeW_fill, List.setIfInBounds_toArray, List.set_cons_zero, List.set_cons_succ, List.getElem_toArray, List.getElem_cons_zero, List.getElem_cons_succ, Nat.reduceLeDiff, Nat.reduceSub, okSt_nil, okSt_cons, fillO_some, fillO_none, cF_same, cF_blk, fF_any, size_fill, Value.oneCell', Int.toNat_natCast, Int.cast_ofNat_Int, cast0, cast1, Int.natCast_add, add_block, add_off, Classical.not_not, decide_not, Bool.not_eq_false, decide_true, decide_false, Bool.true_beq, Bool.false_beq, beq_true, beq_false, Bool.true_bne, Bool.false_bne, Bool.bne_true, Bool.bne_false, decide_eq_true_eq, Bool.not_eq_eq_eq_not, Nat.mul_one, List.size_toArray, List.length_cons, List.length_nil, Nat.le_refl, ldK_int, ldK_bool, ldK_str, ldK_slice, ldK_ptr, ldK_map, ldK_agg, ldK_other, ldO_int, ldO_bool, ldO_str, ldO_slice, ldO_ptr, ldO_map, ldO_other, ldA_some, cellsO_new, cellsO_nil, cellsC_some, cellsO_drew, cellsO_alloc, cA_add, cS_add, cA_new, cA_old, fA_new, fA_old, setO_some, cS_same, cS_off, cS_blk, World.cell?_drew, World.frozen?_drew, World.frozen?_setCell, World.size_alloc, World.size_drew, World.size_setCell, heldX_eq, heldX_add, chg_refl, chg_drew, ovr_nil, ovr_cons, Option.getD_some, Option.getD_none, Addr.add_lit, Nat.add_zero, Option.some.injEq, exists_eq', exists_eq_left', Value.int.injEq, Value.bool.injEq, Value.pointer.injEq, Value.string.injEq]
      refine ⟨⟨by decide, by decide⟩, push16 (ini := []) l'[k] bo _ _ _ _ c8 (by simp) (by simp) ?_⟩
      intro w9 c9
      simp (disch := first | omega | exact okFill_t rfl | exact okSize_t rfl | exact fun h => h | (simp only [World.size_alloc, World.size_drew, World.size_setCell, size_fill, bytesW]; omega)) only [go_sem, ↓reduceIte, reduceCtorEq, Nat.reduceBEq, Nat.reduceEqDiff, Nat.reduceAdd, Nat.reduceMul, Int.reduceNe, Int.reduceEq, Int.reduceLT, Int.reduceLE, Int.reduceNeg, Int.reduceAdd, Int.reduceSub, Int.reduceMul, Int.reduceToNat, beq_self_eq_true, c16, c16S0, c16S1, c16S2, c16S3, c16S4, c16L0, c16S5, c16S6, c16S7, storeW_fill, List.setIfInBounds_toArray, List.set_cons_zero, List.set_cons_succ, List.getElem_toArray, List.getElem_cons_zero, List.getElem_cons_succ, Nat.reduceLeDiff, Nat.reduceSub, okSt_nil, okSt_cons, fillO_some, fillO_none, cF_same, cF_blk, fF_any, size_fill, Value.oneCell', Int.toNat_natCast, Int.cast_ofNat_Int, cast0, cast1, Int.natCast_add, add_block, add_off, Classical.not_not, decide_not, Bool.not_eq_false, decide_true, decide_false, Bool.true_beq, Bool.false_beq, beq_true, beq_false, Bool.true_bne, Bool.false_bne, Bool.bne_true, Bool.bne_false, decide_eq_true_eq, Bool.not_eq_eq_eq_not, Nat.mul_one, List.size_toArray, List.length_cons, List.length_nil, Nat.le_refl, ldK_int, ldK_bool, ldK_str, ldK_slice, ldK_ptr, ldK_map, ldK_agg, ldK_other, ldO_int, ldO_bool, ldO_str, ldO_slice, ldO_ptr, ldO_map, ldO_other, ldA_some, cellsO_new, cellsO_nil, cellsC_some, cellsO_drew, cellsO_alloc, cA_add, cS_add, cA_new, cA_old, fA_new, fA_old, setO_some, cS_same, cS_off, cS_blk, World.cell?_drew, World.frozen?_drew, World.frozen?_setCell, World.size_alloc, World.size_drew, World.size_setCell, heldX_eq, heldX_add, chg_refl, chg_drew, ovr_nil, ovr_cons, Option.getD_some, Option.getD_none, Addr.add_lit, Nat.add_zero, Option.some.injEq, exists_eq', exists_eq_left', Value.int.injEq, Value.bool.injEq, Value.pointer.injEq, Value.string.injEq]
      refine ⟨⟨by omega, by omega⟩, (k + 1, _), rfl, ⟨by simp only; omega, ?_⟩, by simp only; omega⟩
      simp only
      rw [hstep, cutStep_nil]
      exact c9
    · rw [List.concat_eq_append] at hacc
      subst hacc
      rcases id hc6 with ⟨h0, _⟩ | ⟨ini', s', vs, vl, he, hvl, s6⟩
      · simp at h0
      obtain ⟨rfl, rfl⟩ : ini = ini' ∧ s = s' := by
        have := List.append_inj' he rfl
        exact ⟨this.1, by simpa using this.2⟩
      have hnz : ((ini ++ [s]).length : Int) - 1 = ini.length := by simp
      rw [hnz]
      rw [List.length_append, List.length_singleton] at hc6 s6 ⊢
      obtain ⟨g, rfl⟩ : ∃ g, ao = some ⟨g, 0, none⟩ := by
        obtain ⟨_, ⟨_, h0⟩ | ⟨g, cap, cur, e, _⟩⟩ := s6.row 1 rfl
        · omega
        · cases e; exact ⟨g, rfl⟩
      have hrow := s6.row 1 rfl
      have hsl := segCells_length ini vs hvl
      have hc0 : w6.cell? ⟨g, ini.length * 3 + 2, none⟩ = some vl := by
        have := hrow.cells rfl (ini.length * 3 + 2) vl (by rw [List.getElem?_append_right (by omega), hsl, show ini.length * 3 + 2 - ini.length * 3 = 2 by omega]; rfl)
        simpa [Addr.add] using this
      have hgl := hrow.lt g rfl
      have hil := s6.row 0 rfl
      obtain ⟨av, cv, rfl, _⟩ := own_slice (s6.row 0 rfl)
      refine c16draw0 (Chg (fun _ => False) _) (Chg.refl _ _) ?_
      simp (disch := first | omega | exact okFill_t rfl | exact okSize_t rfl | exact fun h => h | (simp only [World.size_alloc, World.size_drew, World.size_setCell, size_fill, bytesW]; omega)) only [go_sem, ↓reduceIte, reduceCtorEq, Nat.reduceBEq, Nat.reduceEqDiff, Nat.reduceAdd, Nat.reduceMul, Int.reduceNe, Int.reduceEq, Int.reduceLT, Int.reduceLE, Int.reduceNeg, Int.reduceAdd, Int.reduceSub, Int.reduceMul, Int.reduceToNat, beq_self_eq_true, c16, c16S0, c16S1, c16S3, c16S4, c16L0, c16S5, c16S6, c16S7, c16D0, r6, ro, hc0, storeW_fill, List.setIfInBounds_toArray, List.set_cons_zero, List.set_cons_succ, List.getElem_toArray, List.getElem_cons_zero, List.getElem_cons_succ, Nat.reduceLeDiff, Nat.reduceSub, okSt_nil, okSt_cons, fillO_some, fillO_none, cF_same, cF_blk, fF_any, size_fill, Value.oneCell', Int.toNat_natCast, Int.cast_ofNat_Int, cast0, cast1, Int.natCast_add, add_block, add_off, Classical.not_not, decide_not, Bool.not_eq_false, decide_true, decide_false, Bool.true_beq, Bool.false_beq, beq_true, beq_false, Bool.true_bne, Bool.false_bne, Bool.bne_true, Bool.bne_false, decide_eq_true_eq, Bool.not_eq_eq_eq_not, Nat.mul_one, List.size_toArray, List.length_cons, List.length_nil, Nat.le_refl, ldK_int, ldK_bool, ldK_str, ldK_slice, ldK_ptr, ldK_map, ldK_agg, ldK_other, ldO_int, ldO_bool, ldO_str, ldO_slice, ldO_ptr, ldO_map, ldO_other, ldA_some, cellsO_new, cellsO_nil, cellsC_some, cellsO_drew, cellsO_alloc, cA_add, cS_add, cA_new, cA_old, fA_new, fA_old, setO_some, cS_same, cS_off, cS_blk, World.cell?_drew, World.frozen?_drew, World.frozen?_setCell, World.size_alloc, World.size_drew, World.size_setCell, heldX_eq, heldX_add, chg_refl, chg_drew, ovr_nil, ovr_cons, Option.getD_some, Option.getD_none, Addr.add_lit, Nat.add_zero, Option.some.injEq, exists_eq', exists_eq_left', Value.int.injEq, Value.bool.injEq, Value.pointer.injEq, Value.string.injEq]
      have hsl' := seg_len (ini ++ [s]) s (by simp)
      refine ⟨fun _ => ⟨⟨by omega, by omega⟩, Ret.mono (quiet_ok _ s.ops l'[k] _ (RdS.of_own (hil.drew)) (by omega)) ?_⟩, fun h => by omega⟩
      rintro _ w8 ⟨rfl, b8⟩
      have hc8 : Cuts w w8 _ _ _ (ini ++ [s]) := (hc6.call ((Below.refl _ w6).drew)).call b8
      have r8 := hc8.base.rules 1 rfl
      simp (disch := first | omega | exact okFill_t rfl | exact okSize_t rfl | exact fun h => h | (simp only [World.size_alloc, World.size_drew, World.size_setCell, size_fill, bytesW]; omega)) only [go_sem, ↓reduceIte, reduceCtorEq, Nat.reduceBEq, Nat.reduceEqDiff, Nat.reduceAdd, Nat.reduceMul, Int.reduceNe, Int.reduceEq, Int.reduceLT, Int.reduceLE, Int.reduceNeg, Int.reduceAdd, Int.reduceSub, Int.reduceMul, Int.reduceToNat, beq_self_eq_true, c16, c16S0, c16S1, c16S3, c16S4, c16L0, c16S5, c16S6, c16S7, c16D0, r6, ro, hc0, r8, storeW_fill, List.setIfInBounds_toArray, List.set_cons_zero, List.set_cons_succ, List.getElem_toArray, List.getElem_cons_zero, List.getElem_cons_succ, Nat.reduceLeDiff, Nat.reduceSub, okSt_nil, okSt_cons, fillO_some, fillO_none, cF_same, cF_blk, fF_any, size_fill, Value.oneCell', Int.toNat_natCast, Int.cast_ofNat_Int, cast0, cast1, Int.natCast_add, add_block, add_off, Classical.not_not, decide_not, Bool.not_eq_false, decide_true, decide_false, Bool.true_beq, Bool.false_beq, beq_true, beq_false, Bool.true_bne, Bool.false_bne, Bool.bne_true, Bool.bne_false, decide_eq_true_eq, Bool.not_eq_eq_eq_not, Nat.mul_one, List.size_toArray, List.length_cons, List.length_nil, Nat.le_refl, ldK_int, ldK_bool, ldK_str, ldK_slice, ldK_ptr, ldK_map, ldK_agg, ldK_other, ldO_int, ldO_bool, ldO_str, ldO_slice, ldO_ptr, ldO_map, ldO_other, ldA_some, cellsO_new, cellsO_nil, cellsC_some, cellsO_drew, cellsO_alloc, cA_add, cS_add, cA_new, cA_old, fA_new, fA_old, setO_some, cS_same, cS_off, cS_blk, World.cell?_drew, World.frozen?_drew, World.frozen?_setCell, World.size_alloc, World.size_drew, World.size_setCell, heldX_eq, heldX_add, chg_refl, chg_drew, ovr_nil, ovr_cons, Option.getD_some, Option.getD_none, Addr.add_lit, Nat.add_zero, Option.some.injEq, exists_eq', exists_eq_left', Value.int.injEq, Value.bool.injEq, Value.pointer.injEq, Value.string.injEq]
      refine ⟨fun hq => ?_, fun hq => ?_⟩
      · refine bdW_built (cells := (segC ⟨obj, kind, []⟩ (.slice none 0 0)).toArray) (by kernel_rfl) ?_
        simp (disch := first | omega | exact okFill_t rfl | exact okSize_t rfl | exact fun h => h | (simp only [World.size_alloc, World.size_drew, World.size_setCell, size_fill, bytesW]; omega)) only [go_sem, ↓reduceIte, reduceCtorEq, Nat.reduceBEq, Nat.reduceEqDiff, Nat.reduceAdd, Nat.reduceMul, Int.reduceNe, Int.reduceEq, Int.reduceLT, Int.reduceLE, Int.reduceNeg, Int.reduceAdd, Int.reduceSub, Int.reduceMul, Int.reduceToNat, beq_self_eq_true, c16, c16S0, c16S1, c16S3, c16S4, c16L0, c16S5, c16S6, c16S7, storeW_fill, List.setIfInBounds_toArray, List.set_cons_zero, List.set_cons_succ, List.getElem_toArray, List.getElem_cons_zero, List.getElem_cons_succ, Nat.reduceLeDiff, Nat.reduceSub, okSt_nil, okSt_cons, fillO_some, fillO_none, cF_same, cF_blk, fF_any, size_fill, Value.oneCell', Int.toNat_natCast, Int.cast_ofNat_Int, cast0, cast1, Int.natCast_add, add_block, add_off, Classical.not_not, decide_not, Bool.not_eq_false, decide_true, decide_false, Bool.true_beq, Bool.false_beq, beq_true, beq_false, Bool.true_bne, Bool.false_bne, Bool.bne_true, Bool.bne_false, decide_eq_true_eq, Bool.not_eq_eq_eq_not, Nat.mul_one, List.size_toArray, List.length_cons, List.length_nil, Nat.le_refl, ldK_int, ldK_bool, ldK_str, ldK_slice, ldK_ptr, ldK_map, ldK_agg, ldK_other, ldO_int, ldO_bool, ldO_str, ldO_slice, ldO_ptr, ldO_map, ldO_other, ldA_some, cellsO_new, cellsO_nil, cellsC_some, cellsO_drew, cellsO_alloc, cA_add, cS_add, cA_new, cA_old, fA_new, fA_old, setO_some, cS_same, cS_off, cS_blk, World.cell?_drew, World.frozen?_drew, World.frozen?_setCell, World.size_alloc, World.size_drew, World.size_setCell, heldX_eq, heldX_add, chg_refl, chg_drew, ovr_nil, ovr_cons, Option.getD_some, Option.getD_none, Addr.add_lit, Nat.add_zero, Option.some.injEq, exists_eq', exists_eq_left', Value.int.injEq, Value.bool.injEq, Value.pointer.injEq, Value.string.injEq]
        refine bsW_agg ty28mkI rfl (by decide) (by decide) ?_
        simp (disch := first | omega | exact okFill_t rfl | exact okSize_t rfl | exact fun h => h | (simp only [World.size_alloc, World.size_drew, World.size_setCell, size_fill, bytesW]; omega)) only [go_sem, ↓reduceIte, reduceCtorEq, Nat.reduceBEq, Nat.reduceEqDiff, Nat.reduceAdd, Nat.reduceMul, Int.reduceNe, Int.reduceEq, Int.reduceLT, Int.reduceLE, Int.reduceNeg, Int.reduceAdd, Int.reduceSub, Int.reduceMul, Int.reduceToNat, beq_self_eq_true, c16, c16S0, c16S1, c16S3, c16S4, c16L0, c16S5, c16S6, c16S7, storeW_fill, List.setIfInBounds_toArray, List.set_cons_zero, List.set_cons_succ, List.getElem_toArray, List.getElem_cons_zero, List.getElem_cons_succ, Nat.reduceLeDiff, Nat.reduceSub, okSt_nil, okSt_cons, fillO_some, fillO_none, cF_same, cF_blk, fF_any, size_fill, Value.oneCell', Int.toNat_natCast, Int.cast_ofNat_Int, cast0, cast1, Int.natCast_add, add_block, add_off, Classical.not_not, decide_not, Bool.not_eq_false, decide_true, decide_false, Bool.true_beq, Bool.false_beq, beq_true, beq_false, Bool.true_bne, Bool.false_bne, Bool.bne_true, Bool.bne_false, decide_eq_true_eq, Bool.not_eq_eq_eq_not, Nat.mul_one, List.size_toArray, List.length_cons, List.length_nil, Nat.le_refl, ldK_int, ldK_bool, ldK_str, ldK_slice, ldK_ptr, ldK_map, ldK_agg, ldK_other, ldO_int, ldO_bool, ldO_str, ldO_slice, ldO_ptr, ldO_map, ldO_other, ldA_some, cellsO_new, cellsO_nil, cellsC_some, cellsO_drew, cellsO_alloc, cA_add, cS_add, cA_new, cA_old, fA_new, fA_old, setO_some, cS_same, cS_off, cS_blk, World.cell?_drew, World.frozen?_drew, World.frozen?_setCell, World.size_alloc, World.size_drew, World.size_setCell, heldX_eq, heldX_add, chg_refl, chg_drew, ovr_nil, ovr_cons, Option.getD_some, Option.getD_none, Addr.add_lit, Nat.add_zero, Option.some.injEq, exists_eq', exists_eq_left', Value.int.injEq, Value.bool.injEq, Value.pointer.injEq, Value.string.injEq]
        have hrd : Rd (w8.alloc (.cells (segC ⟨obj, kind, []⟩ (.slice none 0 0)).toArray 24)) 3 (.slice (some ⟨w8.heap.size, 0, none⟩) 1 1) 1 (segC ⟨obj, kind, []⟩ (.slice none 0 0)) := rd_new (t := 24) (sz := 3) (n := 1) (cs := (segC ⟨obj, kind, []⟩ (.slice none 0 0)).toArray) rfl
        refine (hc8.call (w' := w8.alloc (.cells (segC ⟨obj, kind, []⟩ (.slice none 0 0)).toArray 24)) ((Below.refl _ w8).alloc (Nat.le_refl _) _)).grow obj kind (by simp; omega) hrd ?_
        intro v9 w9 c9
        simp (disch := first | omega | exact okFill_t rfl | exact okSize_t rfl | exact fun h => h | (simp only [World.size_alloc, World.size_drew, World.size_setCell, size_fill, bytesW]; omega)) only [go_sem, ↓reduceIte, reduceCtorEq, Nat.reduceBEq, Nat.reduceEqDiff, Nat.reduceAdd, Nat.reduceMul, Int.reduceNe, Int.reduceEq, Int.reduceLT, Int.reduceLE, Int.reduceNeg, Int.reduceAdd, Int.reduceSub, Int.reduceMul, Int.reduceToNat, beq_self_eq_true, c16, c16S0, c16S1, c16S3, c16S4, c16L0, c16S5, c16S6, c16S7, storeW_fill, List.setIfInBounds_toArray, List.set_cons_zero, List.set_cons_succ, List.getElem_toArray, List.getElem_cons_zero, List.getElem_cons_succ, Nat.reduceLeDiff, Nat.reduceSub, okSt_nil, okSt_cons, fillO_some, fillO_none, cF_same, cF_blk, fF_any, size_fill, Value.oneCell', Int.toNat_natCast, Int.cast_ofNat_Int, cast0, cast1, Int.natCast_add, add_block, add_off, Classical.not_not, decide_not, Bool.not_eq_false, decide_true, decide_false, Bool.true_beq, Bool.false_beq, beq_true, beq_false, Bool.true_bne, Bool.false_bne, Bool.bne_true, Bool.bne_false, decide_eq_true_eq, Bool.not_eq_eq_eq_not, Nat.mul_one, List.size_toArray, List.length_cons, List.length_nil, Nat.le_refl, ldK_int, ldK_bool, ldK_str, ldK_slice, ldK_ptr, ldK_map, ldK_agg, ldK_other, ldO_int, ldO_bool, ldO_str, ldO_slice, ldO_ptr, ldO_map, ldO_other, ldA_some, cellsO_new, cellsO_nil, cellsC_some, cellsO_drew, cellsO_alloc, cA_add, cS_add, cA_new, cA_old, fA_new, fA_old, setO_some, cS_same, cS_off, cS_blk, World.cell?_drew, World.frozen?_drew, World.frozen?_setCell, World.size_alloc, World.size_drew, World.size_setCell, heldX_eq, heldX_add, chg_refl, chg_drew, ovr_nil, ovr_cons, Option.getD_some, Option.getD_none, Addr.add_lit, Nat.add_zero, Option.some.injEq, exists_eq', exists_eq_left', Value.int.injEq, Value.bool.injEq, Value.pointer.injEq, Value.string.injEq]
        refine ⟨⟨by omega, by omega⟩, ?_⟩
        rw [show (ini.length : Int) + 1 = ((ini ++ [s]).length : Nat) by simp]
        refine push16 (ini := ini ++ [s]) l'[k] bo _ _ _ _ c9 (by simp; omega) (by simp) ?_
        intro w10 c10
        simp (disch := first | omega | exact okFill_t rfl | exact okSize_t rfl | exact fun h => h | (simp only [World.size_alloc, World.size_drew, World.size_setCell, size_fill, bytesW]; omega)) only [go_sem, ↓reduceIte, reduceCtorEq, Nat.reduceBEq, Nat.reduceEqDiff, Nat.reduceAdd, Nat.reduceMul, Int.reduceNe, Int.reduceEq, Int.reduceLT, Int.reduceLE, Int.reduceNeg, Int.reduceAdd, Int.reduceSub, Int.reduceMul, Int.reduceToNat, beq_self_eq_true, c16, c16S0, c16S1, c16S2, c16S3, c16S4, c16L0, c16S5, c16S6, c16S7, storeW_fill, List.setIfInBounds_toArray, List.set_cons_zero, List.set_cons_succ, List.getElem_toArray, List.getElem_cons_zero, List.getElem_cons_succ, Nat.reduceLeDiff, Nat.reduceSub, okSt_nil, okSt_cons, fillO_some, fillO_none, cF_same, cF_blk, fF_any, size_fill, Value.oneCell', Int.toNat_natCast, Int.cast_ofNat_Int, cast0, cast1, Int.natCast_add, add_block, add_off, Classical.not_not, decide_not, Bool.not_eq_false, decide_true, decide_false, Bool.true_beq, Bool.false_beq, beq_true, beq_false, Bool.true_bne, Bool.false_bne, Bool.bne_true, Bool.bne_false, decide_eq_true_eq, Bool.not_eq_eq_eq_not, Nat.mul_one, List.size_toArray, List.length_cons, List.length_nil, Nat.le_refl, ldK_int, ldK_bool, ldK_str, ldK_slice, ldK_ptr, ldK_map, ldK_agg, ldK_other, ldO_int, ldO_bool, ldO_str, ldO_slice, ldO_ptr, ldO_map, ldO_other, ldA_some, cellsO_new, cellsO_nil, cellsC_some, cellsO_drew, cellsO_alloc, cA_add, cS_add, cA_new, cA_old, fA_new, fA_old, setO_some, cS_same, cS_off, cS_blk, World.cell?_drew, World.frozen?_drew, World.frozen?_setCell, World.size_alloc, World.size_drew, World.size_setCell, heldX_eq, heldX_add, chg_refl, chg_drew, ovr_nil, ovr_cons, Option.getD_some, Option.getD_none, Addr.add_lit, Nat.add_zero, Option.some.injEq, exists_eq', exists_eq_left', Value.int.injEq, Value.bool.injEq, Value.pointer.injEq, Value.string.injEq]
        refine ⟨⟨by omega, by omega⟩, (k + 1, _), rfl, ⟨by simp only; omega, ?_⟩, by simp only; omega⟩
        simp only
        rw [hstep, cutStep_new _ _ hq]
        exact c10
      · refine push16 l'[k] bo _ _ _ _ hc8 (by omega) (by omega) ?_
        intro w9 c9
        simp (disch := first | omega | exact okFill_t rfl | exact okSize_t rfl | exact fun h => h | (simp only [World.size_alloc, World.size_drew, World.size_setCell, size_fill, bytesW]; omega)) only [go_sem, ↓reduceIte, reduceCtorEq, Nat.reduceBEq, Nat.reduceEqDiff, Nat.reduceAdd, Nat.reduceMul, Int.reduceNe, Int.reduceEq, Int.reduceLT, Int.reduceLE, Int.reduceNeg, Int.reduceAdd, Int.reduceSub, Int.reduceMul, Int.reduceToNat, beq_self_eq_true, c16, c16S0, c16S1, c16S2, c16S3, c16S4, c16L0, c16S5, c16S6, c16S7, storeW_fill, List.setIfInBounds_toArray, List.set_cons_zero, List.set_cons_succ, List.getElem_toArray, List.getElem_cons_zero, List.getElem_cons_succ, Nat.reduceLeDiff, Nat.reduceSub, okSt_nil, okSt_cons, fillO_some, fillO_none, cF_same, cF_blk, fF_any, size_fill, Value.oneCell', Int.toNat_natCast, Int.cast_ofNat_Int, cast0, cast1, Int.natCast_add, add_block, add_off, Classical.not_not, decide_not, Bool.not_eq_false, decide_true, decide_false, Bool.true_beq, Bool.false_beq, beq_true, beq_false, Bool.true_bne, Bool.false_bne, Bool.bne_true, Bool.bne_false, decide_eq_true_eq, Bool.not_eq_eq_eq_not, Nat.mul_one, List.size_toArray, List.length_cons, List.length_nil, Nat.le_refl, ldK_int, ldK_bool, ldK_str, ldK_slice, ldK_ptr, ldK_map, ldK_agg, ldK_other, ldO_int, ldO_bool, ldO_str, ldO_slice, ldO_ptr, ldO_map, ldO_other, ldA_some, cellsO_new, cellsO_nil, cellsC_some, cellsO_drew, cellsO_alloc, cA_add, cS_add, cA_new, cA_old, fA_new, fA_old, setO_some, cS_same, cS_off, cS_blk, World.cell?_drew, World.frozen?_drew, World.frozen?_setCell, World.size_alloc, World.size_drew, World.size_setCell, heldX_eq, heldX_add, chg_refl, chg_drew, ovr_nil, ovr_cons, Option.getD_some, Option.getD_none, Addr.add_lit, Nat.add_zero, Option.some.injEq, exists_eq', exists_eq_left', Value.int.injEq, Value.bool.injEq, Value.pointer.injEq, Value.string.injEq]
        refine ⟨⟨by omega, by omega⟩, (k + 1, _), rfl, ⟨by simp only; omega, ?_⟩, by simp only; omega⟩
        simp only
        rw [hstep, cutStep_old _ _ hq]
        exact c9
  · have hlt' : ¬ (k : Int) < l.length := by omega
    simp (disch := first | omega | exact okFill_t rfl | exact okSize_t rfl | exact fun h => h | (simp only [World.size_alloc, World.size_drew, World.size_setCell, size_fill, bytesW]; omega)) only [go_sem, ↓reduceIte, reduceCtorEq, Nat.reduceBEq, Nat.reduceEqDiff, Nat.reduceAdd, Nat.reduceMul, Int.reduceNe, Int.reduceEq, Int.reduceLT, Int.reduceLE, Int.reduceNeg, Int.reduceAdd, Int.reduceSub, Int.reduceMul, Int.reduceToNat, beq_self_eq_true, c16, c16S0, c16S1, c16S2, c16S3, c16S4, c16L0, c16S5, c16S6, c16S7, hlt', storeW_fill, List.setIfInBounds_toArray, List.set_cons_zero, List.set_cons_succ, List.getElem_toArray, List.getElem_cons_zero, List.getElem_cons_succ, Nat.reduceLeDiff, Nat.reduceSub, okSt_nil, okSt_cons, fillO_some, fillO_none, cF_same, cF_blk, fF_any, size_fill, Value.oneCell', Int.toNat_natCast, Int.cast_ofNat_Int, cast0, cast1, Int.natCast_add, add_block, add_off, Classical.not_not, decide_not, Bool.not_eq_false, decide_true, decide_false, Bool.true_beq, Bool.false_beq, beq_true, beq_false, Bool.true_bne, Bool.false_bne, Bool.bne_true, Bool.bne_false, decide_eq_true_eq, Bool.not_eq_eq_eq_not, Nat.mul_one, List.size_toArray, List.length_cons, List.length_nil, Nat.le_refl, ldK_int, ldK_bool, ldK_str, ldK_slice, ldK_ptr, ldK_map, ldK_agg, ldK_other, ldO_int, ldO_bool, ldO_str, ldO_slice, ldO_ptr, ldO_map, ldO_other, ldA_some, cellsO_new, cellsO_nil, cellsC_some, cellsO_drew, cellsO_alloc, cA_add, cS_add, cA_new, cA_old, fA_new, fA_old, setO_some, cS_same, cS_off, cS_blk, World.cell?_drew, World.frozen?_drew, World.frozen?_setCell, World.size_alloc, World.size_drew, World.size_setCell, heldX_eq, heldX_add, chg_refl, chg_drew, ovr_nil, ovr_cons, Option.getD_some, Option.getD_none, Addr.add_lit, Nat.add_zero, Option.some.injEq, exists_eq', exists_eq_left', Value.int.injEq, Value.bool.injEq, Value.pointer.injEq, Value.string.injEq]
    have hkl : k = l'.length := by omega
    subst hkl
    rw [List.take_length] at ha
    subst ha
    have hflat := cut_flat (fun s o => s.ops.all fun x => before x o) (fun _ => (obj, kind)) l' []
    refine ⟨⟨l', hs, hc.out fun s hs => ?_⟩, hc.bel⟩
    have h1 := seg_len _ s hs
    rw [hflat] at h1
    simp only [List.flatMap_nil, List.nil_append] at h1
    omega
end Go.Proofs.Ytobamkckamnmoaa
