/- Texts put together by program: L34, L36. -/
import Derived.Test.YtbeoedgoikcbpaaP3
import Derived.Test.YtbeoedgoikcbpaaE2
import Derived.Test.YtbeoedgoikcbpaaRows
namespace Go.Proofs.Ytbeoedgoikcbpaa
set_option linter.unusedSimpArgs false
set_option linter.unusedVariables false
set_option maxRecDepth 100000
open Go Go.Ann Go.RowKit Go.WideShapes
theorem bulk_one {H : Type} (d : DataW H) : 1 ≤ Rows.uptoBulk d := by
  cases d with
  | lit l => cases l <;> simp [Rows.uptoBulk]
  | nil => simp [Rows.uptoBulk]
  | ptr d => simp [Rows.uptoBulk]
  | slice elems spare => simp [Rows.uptoBulk]
  | agg parts => simp [Rows.uptoBulk]
  | iface t d => simp [Rows.uptoBulk]
  | map entries => simp [Rows.uptoBulk]
  | held h => simp [Rows.uptoBulk]
theorem bulk_len {H : Type} (l : List (DataW H)) : l.length ≤ Rows.uptoBulkAll l := by
  induction l with
  | nil => simp [Rows.uptoBulkAll]
  | cons x r ih => have := bulk_one x; simp only [Rows.uptoBulkAll, List.length_cons]; omega
theorem opens_ints {H : Type} {enc : TypeId × Value → H} {w : World} {base : Nat} {sp : Nat → Bool} {hd : Bool} {fuel : Nat} {cs : List Value} {x : DataW H × List MemPlace} (h : DataW.trod enc Try.prog w base sp hd fuel 36 cs = some x) :
    ∃ (s : List Int) (v : Value), cs = [v] ∧ RdS w 1 intE v s ∧ Ok64 s ∧ s.length + 1 ≤ Rows.uptoBulk x.1 := by
  obtain ⟨s, v, h1, h2, h3⟩ := opens_slice (opens_int Try.underlying3) Try.underlying36 (show Try.prog.cellsOf 3 = 1 by kernel_rfl) enc w base sp hd fuel cs x h
  have hp := h2.plain (enc := intE) (ok := fun n => kOk .i64 n) fun _ _ h => h
  refine ⟨s, v, h1, hp.1, fun n hn => kOk_i64 (hp.2 n hn), ?_⟩
  obtain ⟨a, c, rfl, _⟩ := hp.1.form
  rcases Go.Deep.open_slice Try.underlying36 h with ⟨e, ex⟩ | ⟨a', len, cap, m, n, D, Pl, e, _, _, _, _, ex, _⟩
  · rw [h1] at e
    simp only [List.cons.injEq, Value.slice.injEq, and_true] at e
    rw [ex, e.2.1]
    exact bulk_one _
  · rw [h1] at e
    simp only [List.cons.injEq, Value.slice.injEq, and_true] at e
    rw [ex, e.2.1]
    have := bulk_len ((List.range len).map D)
    simp only [List.length_map, List.length_range] at this
    simp only [Rows.uptoBulk]
    omega
def bulkS (D : List VS) : Nat := (D.map fun p => p.2.length + 1).sum
theorem opens_sts {H : Type} {enc : TypeId × Value → H} {w : World} {base : Nat} {sp : Nat → Bool} {hd : Bool} {fuel : Nat} {cs : List Value} {x : DataW H × List MemPlace} (h : DataW.trod enc Try.prog w base sp hd fuel 25 cs = some x) :
    ∃ (D : List VS) (v : Value), cs = [v] ∧ RowS w v D ∧ (∀ p ∈ D, Ok64 p.2) ∧ bulkS D + 1 ≤ Rows.uptoBulk x.1 := by
  rcases Go.Deep.open_slice1 Try.underlying25 (show Try.prog.cellsOf 36 = 1 by kernel_rfl) h with ⟨e, ex⟩ | ⟨a, len, cap, m, n, V, D, Pl, e, _, hl, _, hm, ex, hel⟩
  · subst e ex
    exact ⟨[], _, rfl, ⟨⟨by simp, none, 0, rfl, Nat.le_refl _, fun h => absurd rfl h⟩, fun p hp => by cases hp⟩, (fun p hp => by cases hp), by simp [bulkS, Rows.uptoBulk]⟩
  · subst e ex
    have hlm : len ≤ m := by rw [hm]; split <;> omega
    have each : ∀ i, i < len → ∃ s : List Int, RdS w 1 intE (V i) s ∧ Ok64 s ∧ s.length + 1 ≤ Rows.uptoBulk (D i) := fun i hi => by
      obtain ⟨s, v, h1, h2, h3, h4⟩ := opens_ints (hel i (by omega)).2
      simp only [List.cons.injEq, and_true] at h1
      rw [← h1] at h2
      exact ⟨s, h2, h3, h4⟩
    obtain ⟨S, hS⟩ := Go.Deep.choose_lt each
    refine ⟨(List.range len).map fun i => (V i, S i), _, rfl, ⟨⟨by simp, some a, cap, by simp, by simpa using hl, fun _ => ⟨a, rfl, fun j u hj => ?_⟩⟩, fun p hp => ?_⟩, fun p hp => ?_, ?_⟩
    · simp only [List.map_map, List.getElem?_map, Option.map_eq_some_iff] at hj
      obtain ⟨i, hi, rfl⟩ := hj
      have hi2 := List.mem_range.1 (List.mem_of_getElem? hi)
      have : i = j := by
        have := (List.getElem?_eq_some_iff.1 hi)
        obtain ⟨h1, h2⟩ := this
        simpa using h2.symm
      subst this
      exact (hel i (by omega)).1
    · obtain ⟨i, hi, rfl⟩ := List.mem_map.1 hp
      exact (hS i (List.mem_range.1 hi)).1
    · obtain ⟨i, hi, rfl⟩ := List.mem_map.1 hp
      exact (hS i (List.mem_range.1 hi)).2.1
    · have key : ∀ l : List Nat, (∀ i ∈ l, i < len) → bulkS (l.map fun i => (V i, S i)) ≤ Rows.uptoBulkAll (l.map D) := by
        intro l
        induction l with
        | nil => intro _; simp [bulkS, Rows.uptoBulkAll]
        | cons i l ih =>
          intro hh
          have h1 := ih fun j hj => hh j (List.mem_cons_of_mem _ hj)
          have h2 := (hS i (hh i (List.mem_cons_self ..))).2.2
          simp only [bulkS, List.map_cons, List.sum_cons, Rows.uptoBulkAll] at h1 ⊢
          omega
      have := key (List.range len) fun i hi => List.mem_range.1 hi
      simp only [Rows.uptoBulk]
      omega
structure Seg where
  obj : Int
  kind : Int
  ops : List OpT
set_option maxRecDepth 100000 in
theorem opens_Seg : Opens Try.prog 24 (fun w (s : Seg) cs => ∃ v, cs = [.int .i64 s.obj, .int .i64 s.kind, v] ∧ RdS w 11 OpT.enc v s.ops ∧ (∀ x ∈ s.ops, x.wf) ∧ (s.ops.length : Int) ≤ 9223372036854775807) := by
  intro H enc w base sp hd fuel cs x hx
  obtain ⟨hl, hf⟩ := opens_fields Try.underlying24 hx
  rw [show Try.prog.cellsOf 24 = 3 by kernel_rfl] at hl
  have c_0 : Try.prog.cellsOf 3 = 1 := by kernel_rfl
  have c_1 : Try.prog.cellsOf 22 = 1 := by kernel_rfl
  match cs, hl with
  | [v0, v1, v2], _ =>
    obtain ⟨n0, y0, g0⟩ := hf 0 _ rfl
    have h0 : DataW.trod enc Try.prog w base sp hd n0 3 (List.take (Try.prog.cellsOf 3) [v0, v1, v2]) = some y0 := g0
    rw [c_0] at h0
    obtain ⟨a0, e0⟩ := opens_int Try.underlying3 enc w base sp hd n0 [v0] y0 h0
    have r0 : v0 = _ := (List.cons.inj e0.1).1
    obtain ⟨n1, y1, g1⟩ := hf 1 _ rfl
    have h1 : DataW.trod enc Try.prog w base sp hd n1 3 (List.take (Try.prog.cellsOf 3) [v1, v2]) = some y1 := g1
    rw [c_0] at h1
    obtain ⟨a1, e1⟩ := opens_int Try.underlying3 enc w base sp hd n1 [v1] y1 h1
    have r1 : v1 = _ := (List.cons.inj e1.1).1
    obtain ⟨n2, y2, g2⟩ := hf 2 _ rfl
    have h2 : DataW.trod enc Try.prog w base sp hd n2 22 (List.take (Try.prog.cellsOf 22) [v2]) = some y2 := g2
    rw [c_1] at h2
    obtain ⟨a2, w2, e2, q2⟩ := opens_Ops enc w base sp hd n2 [v2] y2 h2
    have r2 : v2 = w2 := (List.cons.inj e2).1
    exact ⟨⟨a0, a1, a2⟩, w2, by rw [r0, r1, r2], q2⟩
theorem sts_arg {H : Type} {enc : TypeId × Value → H} {w : World} {r : Reach} {b base : Nat} {sp : Nat → Bool} {hd : Bool} {v : Value} {d : DataW H} {p : List MemPlace}
    (h : Value.okWide Try.prog w r b 25 v) (k : DataW.Trod enc Try.prog w base sp hd 25 v d p) : ∃ D : List VS, RowS w v D ∧ (∀ p ∈ D, Ok64 p.2) ∧ bulkS D + 1 ≤ Rows.uptoBulk d := by
  obtain ⟨fuel, hk⟩ := k
  obtain ⟨D, v', h1, h2⟩ := opens_sts hk
  obtain ⟨a, n, c, rfl⟩ := okWide_slice Try.underlying25 h
  simp only [Value.cells, List.cons.injEq, and_true] at h1
  subst h1
  exact ⟨D, h2⟩
theorem bulk_mem {D : List VS} {p : VS} (h : p ∈ D) : p.2.length + 1 ≤ bulkS D := by
  unfold bulkS
  induction D with
  | nil => cases h
  | cons x D ih =>
    rw [List.map_cons, List.sum_cons]
    rcases List.mem_cons.1 h with rfl | h
    · omega
    · have := ih h; omega
theorem bulk_length (D : List VS) : D.length ≤ bulkS D := by
  unfold bulkS
  induction D with
  | nil => simp
  | cons x D ih => rw [List.map_cons, List.sum_cons, List.length_cons]; omega
end Go.Proofs.Ytbeoedgoikcbpaa
namespace Go.Proofs.Ytbeoedgoikcbpaa
set_option linter.unusedSimpArgs false
set_option linter.unusedVariables false
set_option maxRecDepth 100000
open Go Go.Ann Go.RowKit
def aw1 : OpT := ⟨1, 0, 0, 1, 2, 1, 0, true, 0, 0, 9⟩
def aw2 (r : Int) : OpT := ⟨2, 0, 0, 1, 1, 0, 0, true, r, 1, 8⟩
theorem pair_ok (r : Int) (w : World) : Ret Try.prog 34 [.int .i64 r] w fun u w' => ∃ v, u = .agg #[.int .i64 0, .int .i64 1, v] ∧ RdS w' 11 OpT.enc v [aw1, aw2 r] ∧ Below w.heap.size w w' := by
  refine ent34 _ _ _ ?_
  have s1 := (St.start (W0 := w)).box #[.int .i64 0, .int .i64 0, .slice none 0 0] 24
  simp (disch := first | omega | exact okFill_t rfl | exact okSize_t rfl | exact fun h => h | (simp only [World.size_alloc, World.size_drew, World.size_setCell, size_fill, bytesW]; omega)) only [go_sem, ↓reduceIte, reduceCtorEq, Nat.reduceBEq, Nat.reduceEqDiff, Nat.reduceAdd, Nat.reduceMul, Int.reduceNe, Int.reduceEq, Int.reduceLT, Int.reduceLE, Int.reduceNeg, Int.reduceAdd, Int.reduceSub, Int.reduceMul, Int.reduceToNat, beq_self_eq_true, c34]
  refine bdW_built (cells := aw1.enc.toArray) (by kernel_rfl) ?_
  simp (disch := first | omega | exact okFill_t rfl | exact okSize_t rfl | exact fun h => h | (simp only [World.size_alloc, World.size_drew, World.size_setCell, size_fill, bytesW]; omega)) only [go_sem, ↓reduceIte, reduceCtorEq, Nat.reduceBEq, Nat.reduceEqDiff, Nat.reduceAdd, Nat.reduceMul, Int.reduceNe, Int.reduceEq, Int.reduceLT, Int.reduceLE, Int.reduceNeg, Int.reduceAdd, Int.reduceSub, Int.reduceMul, Int.reduceToNat, beq_self_eq_true, c34]
  refine bdW_built (cells := (aw2 r).enc.toArray) (by kernel_rfl) ?_
  simp (disch := first | omega | exact okFill_t rfl | exact okSize_t rfl | exact fun h => h | (simp only [World.size_alloc, World.size_drew, World.size_setCell, size_fill, bytesW]; omega)) only [go_sem, ↓reduceIte, reduceCtorEq, Nat.reduceBEq, Nat.reduceEqDiff, Nat.reduceAdd, Nat.reduceMul, Int.reduceNe, Int.reduceEq, Int.reduceLT, Int.reduceLE, Int.reduceNeg, Int.reduceAdd, Int.reduceSub, Int.reduceMul, Int.reduceToNat, beq_self_eq_true, c34]
  refine bsW_cells (cells := ([aw1, aw2 r].flatMap OpT.enc).toArray) ty22mkI (by decide) (by decide) (by kernel_rfl) ?_
  have hrd : RdS ((w.alloc (.cells #[.int .i64 0, .int .i64 0, .slice none 0 0] 24)).alloc (.cells ([aw1, aw2 r].flatMap OpT.enc).toArray 58)) 11 OpT.enc (.slice (some ⟨w.heap.size + 1, 0, none⟩) 2 2) [aw1, aw2 r] := by
    have := rd_new (w := w.alloc (.cells #[.int .i64 0, .int .i64 0, .slice none 0 0] 24)) (t := 58) (sz := 11) (n := 2) (cs := ([aw1, aw2 r].flatMap OpT.enc).toArray) rfl
    rw [World.size_alloc] at this
    exact this
  have s2 := s1.alloc' (.cells ([aw1, aw2 r].flatMap OpT.enc).toArray 58)
  generalize (w.alloc (.cells #[.int .i64 0, .int .i64 0, .slice none 0 0] 24)).alloc (.cells ([aw1, aw2 r].flatMap OpT.enc).toArray 58) = w2 at hrd s2 ⊢
  simp (disch := first | omega | exact okFill_t rfl | exact okSize_t rfl | exact fun h => h | (simp only [World.size_alloc, World.size_drew, World.size_setCell, size_fill, bytesW]; omega)) only [go_sem, ↓reduceIte, reduceCtorEq, Nat.reduceBEq, Nat.reduceEqDiff, Nat.reduceAdd, Nat.reduceMul, Int.reduceNe, Int.reduceEq, Int.reduceLT, Int.reduceLE, Int.reduceNeg, Int.reduceAdd, Int.reduceSub, Int.reduceMul, Int.reduceToNat, beq_self_eq_true, c34]
  refine bdW_built (cells := #[.int .i64 0, .int .i64 1, .slice (some ⟨w.heap.size + 1, 0, none⟩) 2 2]) (by kernel_rfl) ?_
  have r2 := s2.rules 0 rfl
  simp (disch := first | omega | exact okFill_t rfl | exact okSize_t rfl | exact fun h => h | (simp only [World.size_alloc, World.size_drew, World.size_setCell, size_fill, bytesW]; omega)) only [go_sem, ↓reduceIte, reduceCtorEq, Nat.reduceBEq, Nat.reduceEqDiff, Nat.reduceAdd, Nat.reduceMul, Int.reduceNe, Int.reduceEq, Int.reduceLT, Int.reduceLE, Int.reduceNeg, Int.reduceAdd, Int.reduceSub, Int.reduceMul, Int.reduceToNat, beq_self_eq_true, c34, r2]
  have s3 := s2.fill 0 rfl (cs := #[.int .i64 0, .int .i64 1, .slice (some ⟨w.heap.size + 1, 0, none⟩) 2 2]) rfl
  refine ⟨_, rfl, hrd.chg ((Chg.refl (fun k => k = w.heap.size) w2).fill (b := w.heap.size) (cs := #[.int .i64 0, .int .i64 1, .slice (some ⟨w.heap.size + 1, 0, none⟩) 2 2]) fun _ => rfl) (fun q hq e => by cases hq; simp at e), s3.bel⟩
def T0 : List Spot := [([false, false], [0]), ([true, false], [1]), ([false, true], [0]), ([true, true], [1])]
def T2 : List Spot := [([false, false], [0]), ([true, false], [1])]
theorem aw_0 : SearchR [aw1, aw2 0] (startP 2 [[0]]) 9 (some T0) := ⟨⟨4, by kernel_rfl, by decide⟩, by decide⟩
theorem aw_2 : SearchR [aw1, aw2 2] (startP 2 [[0]]) 9 (some T2) := ⟨⟨2, by kernel_rfl, by decide⟩, by decide⟩
theorem uniq_single (s : List Int) : Uniq [s] [s] := ⟨by simp, fun x => Iff.rfl⟩
/-- The list of the one state of 0. -/
theorem row_one {w : World} {s : List Int} {n : Int} (hs : s = [n]) : RowS ((w.alloc (.cells #[.int .i64 n] 3)).alloc (.cells #[.slice (some ⟨w.heap.size, 0, none⟩) 1 1] 36)) (.slice (some ⟨w.heap.size + 1, 0, none⟩) 1 1) [(.slice (some ⟨w.heap.size, 0, none⟩) 1 1, s)] := by
  subst hs
  refine ⟨?_, fun p hp => ?_⟩
  · have := rd_new (w := w.alloc (.cells #[.int .i64 n] 3)) (t := 36) (sz := 1) (n := 1) (cs := #[.slice (some ⟨w.heap.size, 0, none⟩) 1 1]) rfl
    rw [World.size_alloc] at this
    exact this
  · rw [List.mem_singleton] at hp; subst hp
    exact (int_new n rfl).below ((Below.refl _ _).alloc (Nat.le_refl _) _) (by decide)
theorem aw_search {w : World} {lv ev : Value} {r : Int} {T : List Spot} {D : List VS} (h : RdS w 11 OpT.enc lv [aw1, aw2 r]) (hE : RowS w ev D) (hD : D.map Prod.snd = [[0]]) (hr : kOk .i64 r) (hT : SearchR [aw1, aw2 r] (startP 2 [[0]]) 9 (some T)) :
    Ret Try.prog 12 [.agg #[.int .i64 0, .int .i64 1, lv], ev, .int .i64 9] w fun u w' => (∃ uv xv X, u = .tuple #[.agg #[uv, xv, .int .i64 T.length], .int .i64 0] ∧ (∃ a n c, uv = .slice a n c) ∧ RowS w' xv X ∧ Uniq ((T.filter fun p => fullP [aw1, aw2 r] p.1).map Prod.snd) (X.map Prod.snd)) ∧ Below w.heap.size w w' := by
  have hDl : D.length = 1 := by have := congrArg List.length hD; simpa using this
  have hD1 : ∀ p ∈ D, p.2 = [0] := fun p hp => by
    have : p.2 ∈ D.map Prod.snd := List.mem_map.2 ⟨p, hp, rfl⟩
    rw [hD, List.mem_singleton] at this; exact this
  refine Ret.mono (search_ok (K := 1) (M := 10) h (by simp) (fun o ho => ?_) (fun o ho => ?_) hE (by omega) (by decide) (fun p hp => ?_) (by constructor <;> decide)) ?_
  · simp only [List.mem_cons, List.not_mem_nil, or_false] at ho
    rcases ho with rfl | rfl <;> rfl
  · simp only [List.mem_cons, List.not_mem_nil, or_false] at ho
    rcases ho with rfl | rfl
    · exact ⟨rfl, rfl, rfl, rfl, rfl, rfl, rfl, rfl, rfl, rfl⟩
    · exact ⟨rfl, rfl, rfl, rfl, rfl, rfl, rfl, hr, rfl, rfl⟩
  · rw [hD1 p hp]
    exact ⟨fun n hn => by rw [List.mem_singleton] at hn; subst hn; constructor <;> decide, by decide, fun h => by cases h⟩
  · rintro u w2 ⟨⟨U0, r0, hU, hR, hV⟩, b2⟩
    rw [hD] at hU
    have eU := hU.one (uniq_single [0])
    subst eU
    have e : r0 = some T := SearchR.one hR hT
    subst e
    obtain ⟨uv, xv, U, X, e1, e2, _, e4, e5⟩ := hV
    refine ⟨⟨uv, xv, X, e1, ?_, e4, e5⟩, b2⟩
    obtain ⟨a, c, e, _⟩ := e2.form
    exact ⟨_, _, _, e⟩
theorem awake_ok (w : World) : Ret Try.prog 14 [] w fun u w' => u = .bool true ∧ Below w.heap.size w w' := by
  refine ent14 _ _ ?_
  simp (disch := first | omega | exact okFill_t rfl | exact okSize_t rfl | exact fun h => h | (simp only [World.size_alloc, World.size_drew, World.size_setCell, size_fill, bytesW]; omega)) only [go_sem, ↓reduceIte, reduceCtorEq, Nat.reduceBEq, Nat.reduceEqDiff, Nat.reduceAdd, Nat.reduceMul, Int.reduceNe, Int.reduceEq, Int.reduceLT, Int.reduceLE, Int.reduceNeg, Int.reduceAdd, Int.reduceSub, Int.reduceMul, Int.reduceToNat, beq_self_eq_true, c14, c14S0, c14S1, c14S2]
  refine Ret.mono (pair_ok 0 w) ?_
  rintro _ w1 ⟨v, rfl, h1, b1⟩
  obtain ⟨pa, pc, rfl, _⟩ := h1.form
  simp (disch := first | omega | exact okFill_t rfl | exact okSize_t rfl | exact fun h => h | (simp only [World.size_alloc, World.size_drew, World.size_setCell, size_fill, bytesW]; omega)) only [go_sem, ↓reduceIte, reduceCtorEq, Nat.reduceBEq, Nat.reduceEqDiff, Nat.reduceAdd, Nat.reduceMul, Int.reduceNe, Int.reduceEq, Int.reduceLT, Int.reduceLE, Int.reduceNeg, Int.reduceAdd, Int.reduceSub, Int.reduceMul, Int.reduceToNat, beq_self_eq_true, c14, c14S0, c14S1, c14S2]
  refine bsW_ones ty36mkI rfl rfl (by decide) (by decide) (intE_one _) ?_
  simp (disch := first | omega | exact okFill_t rfl | exact okSize_t rfl | exact fun h => h | (simp only [World.size_alloc, World.size_drew, World.size_setCell, size_fill, bytesW]; omega)) only [go_sem, ↓reduceIte, reduceCtorEq, Nat.reduceBEq, Nat.reduceEqDiff, Nat.reduceAdd, Nat.reduceMul, Int.reduceNe, Int.reduceEq, Int.reduceLT, Int.reduceLE, Int.reduceNeg, Int.reduceAdd, Int.reduceSub, Int.reduceMul, Int.reduceToNat, beq_self_eq_true, c14, c14S0, c14S1, c14S2]
  refine bsW_ones ty25mkI rfl rfl (by decide) (by decide) (by intro v hv; rw [List.mem_singleton] at hv; subst hv; rfl) ?_
  have e1 := row_one (w := w1) (n := 0) rfl
  have c1 : Below w1.heap.size w1 ((w1.alloc (.cells #[.int .i64 0] 3)).alloc (.cells #[.slice (some ⟨w1.heap.size, 0, none⟩) 1 1] 36)) := Below.next ((Below.refl _ _).alloc (Nat.le_refl _) _) ((Below.refl _ _).alloc (Nat.le_refl _) _)
  simp (disch := first | omega | exact okFill_t rfl | exact okSize_t rfl | exact fun h => h | (simp only [World.size_alloc, World.size_drew, World.size_setCell, size_fill, bytesW]; omega)) only [go_sem, ↓reduceIte, reduceCtorEq, Nat.reduceBEq, Nat.reduceEqDiff, Nat.reduceAdd, Nat.reduceMul, Int.reduceNe, Int.reduceEq, Int.reduceLT, Int.reduceLE, Int.reduceNeg, Int.reduceAdd, Int.reduceSub, Int.reduceMul, Int.reduceToNat, beq_self_eq_true, c14, c14S0, c14S1, c14S2]
  refine Ret.mono (aw_search (r := 0) (h1.below c1 (by decide)) e1 rfl rfl aw_0) ?_
  rintro _ w2 ⟨⟨uv, xv, X, rfl, ⟨ua, un, uc, rfl⟩, hX, eX⟩, b2⟩
  have bb2 := Below.next (Below.next b1 c1) b2
  obtain ⟨xa, xc, rfl, _⟩ := hX.form
  have s2 := ((St.start (W0 := w)).call bb2).box #[.slice ua un uc, .slice xa X.length xc, .int .i64 T0.length] 27
  simp (disch := first | omega | exact okFill_t rfl | exact okSize_t rfl | exact fun h => h | (simp only [World.size_alloc, World.size_drew, World.size_setCell, size_fill, bytesW]; omega)) only [go_sem, ↓reduceIte, reduceCtorEq, Nat.reduceBEq, Nat.reduceEqDiff, Nat.reduceAdd, Nat.reduceMul, Int.reduceNe, Int.reduceEq, Int.reduceLT, Int.reduceLE, Int.reduceNeg, Int.reduceAdd, Int.reduceSub, Int.reduceMul, Int.reduceToNat, beq_self_eq_true, c14, c14S0, c14S1]
  have hX2 := hX.below ((Below.refl _ w2).alloc (Nat.le_refl _) (.cells #[.slice ua un uc, .slice xa X.length xc, .int .i64 T0.length] 27))
  generalize w2.alloc (.cells #[.slice ua un uc, .slice xa X.length xc, .int .i64 T0.length] 27) = w3 at s2 hX2 ⊢
  generalize w2.heap.size = y at s2 ⊢
  simp (disch := first | omega | exact okFill_t rfl | exact okSize_t rfl | exact fun h => h | (simp only [World.size_alloc, World.size_drew, World.size_setCell, size_fill, bytesW]; omega)) only [go_sem, ↓reduceIte, reduceCtorEq, Nat.reduceBEq, Nat.reduceEqDiff, Nat.reduceAdd, Nat.reduceMul, Int.reduceNe, Int.reduceEq, Int.reduceLT, Int.reduceLE, Int.reduceNeg, Int.reduceAdd, Int.reduceSub, Int.reduceMul, Int.reduceToNat, beq_self_eq_true, c14, c14S0, c14S2]
  refine Ret.mono (pair_ok 2 w3) ?_
  rintro _ w4 ⟨v, rfl, h4, b4⟩
  obtain ⟨qa, qc, rfl, _⟩ := h4.form
  simp (disch := first | omega | exact okFill_t rfl | exact okSize_t rfl | exact fun h => h | (simp only [World.size_alloc, World.size_drew, World.size_setCell, size_fill, bytesW]; omega)) only [go_sem, ↓reduceIte, reduceCtorEq, Nat.reduceBEq, Nat.reduceEqDiff, Nat.reduceAdd, Nat.reduceMul, Int.reduceNe, Int.reduceEq, Int.reduceLT, Int.reduceLE, Int.reduceNeg, Int.reduceAdd, Int.reduceSub, Int.reduceMul, Int.reduceToNat, beq_self_eq_true, c14, c14S0, c14S1, c14S2]
  refine bsW_ones ty36mkI rfl rfl (by decide) (by decide) (intE_one _) ?_
  simp (disch := first | omega | exact okFill_t rfl | exact okSize_t rfl | exact fun h => h | (simp only [World.size_alloc, World.size_drew, World.size_setCell, size_fill, bytesW]; omega)) only [go_sem, ↓reduceIte, reduceCtorEq, Nat.reduceBEq, Nat.reduceEqDiff, Nat.reduceAdd, Nat.reduceMul, Int.reduceNe, Int.reduceEq, Int.reduceLT, Int.reduceLE, Int.reduceNeg, Int.reduceAdd, Int.reduceSub, Int.reduceMul, Int.reduceToNat, beq_self_eq_true, c14, c14S0, c14S1, c14S2]
  refine bsW_ones ty25mkI rfl rfl (by decide) (by decide) (by intro v hv; rw [List.mem_singleton] at hv; subst hv; rfl) ?_
  have e4 := row_one (w := w4) (n := 0) rfl
  have c4 : Below w4.heap.size w4 ((w4.alloc (.cells #[.int .i64 0] 3)).alloc (.cells #[.slice (some ⟨w4.heap.size, 0, none⟩) 1 1] 36)) := Below.next ((Below.refl _ _).alloc (Nat.le_refl _) _) ((Below.refl _ _).alloc (Nat.le_refl _) _)
  simp (disch := first | omega | exact okFill_t rfl | exact okSize_t rfl | exact fun h => h | (simp only [World.size_alloc, World.size_drew, World.size_setCell, size_fill, bytesW]; omega)) only [go_sem, ↓reduceIte, reduceCtorEq, Nat.reduceBEq, Nat.reduceEqDiff, Nat.reduceAdd, Nat.reduceMul, Int.reduceNe, Int.reduceEq, Int.reduceLT, Int.reduceLE, Int.reduceNeg, Int.reduceAdd, Int.reduceSub, Int.reduceMul, Int.reduceToNat, beq_self_eq_true, c14, c14S0, c14S1, c14S2]
  refine Ret.mono (aw_search (r := 2) (h4.below c4 (by decide)) e4 rfl rfl aw_2) ?_
  rintro _ w5 ⟨⟨uv', xv', Y, rfl, ⟨ub, um, ud, rfl⟩, hY, eY⟩, b5⟩
  have bb5 := Below.next (Below.next b4 c4) b5
  obtain ⟨ya, yc, rfl, _⟩ := hY.form
  have hX5 := hX2.below bb5
  have s5 := (s2.call bb5).box #[.slice ub um ud, .slice ya Y.length yc, .int .i64 T2.length] 27
  simp (disch := first | omega | exact okFill_t rfl | exact okSize_t rfl | exact fun h => h | (simp only [World.size_alloc, World.size_drew, World.size_setCell, size_fill, bytesW]; omega)) only [go_sem, ↓reduceIte, reduceCtorEq, Nat.reduceBEq, Nat.reduceEqDiff, Nat.reduceAdd, Nat.reduceMul, Int.reduceNe, Int.reduceEq, Int.reduceLT, Int.reduceLE, Int.reduceNeg, Int.reduceAdd, Int.reduceSub, Int.reduceMul, Int.reduceToNat, beq_self_eq_true, c14, c14S0, c14S2]
  have hX6 := hX5.below ((Below.refl _ w5).alloc (Nat.le_refl _) (.cells #[.slice ub um ud, .slice ya Y.length yc, .int .i64 T2.length] 27))
  generalize w5.alloc (.cells #[.slice ub um ud, .slice ya Y.length yc, .int .i64 T2.length] 27) = w6 at s5 hX6 ⊢
  generalize w5.heap.size = y2 at s5 ⊢
  have r5 := s5.rules 1 rfl
  have l0 : T0.length = 4 := rfl
  have l2 : T2.length = 2 := rfl
  have fx : X.map Prod.snd = [[1]] := by
    have : ((T0.filter fun p => fullP [aw1, aw2 0] p.1).map Prod.snd) = [[1]] := by decide
    rw [this] at eX
    exact eX.one (uniq_single [1])
  have fy : Y.length = 0 := by
    have : ((T2.filter fun p => fullP [aw1, aw2 2] p.1).map Prod.snd) = [] := by decide
    rw [this] at eY
    have := eY.one (show Uniq [] [] from ⟨List.Pairwise.nil, fun x => Iff.rfl⟩)
    have := congrArg List.length this
    simpa using this
  simp (disch := first | omega | exact okFill_t rfl | exact okSize_t rfl | exact fun h => h | (simp only [World.size_alloc, World.size_drew, World.size_setCell, size_fill, bytesW]; omega)) only [go_sem, ↓reduceIte, reduceCtorEq, Nat.reduceBEq, Nat.reduceEqDiff, Nat.reduceAdd, Nat.reduceMul, Int.reduceNe, Int.reduceEq, Int.reduceLT, Int.reduceLE, Int.reduceNeg, Int.reduceAdd, Int.reduceSub, Int.reduceMul, Int.reduceToNat, beq_self_eq_true, c14, c14S0, c14S1, c14S2, r5, l0]
  refine bsW_ones ty36mkI rfl rfl (by decide) (by decide) (intE_one _) ?_
  simp (disch := first | omega | exact okFill_t rfl | exact okSize_t rfl | exact fun h => h | (simp only [World.size_alloc, World.size_drew, World.size_setCell, size_fill, bytesW]; omega)) only [go_sem, ↓reduceIte, reduceCtorEq, Nat.reduceBEq, Nat.reduceEqDiff, Nat.reduceAdd, Nat.reduceMul, Int.reduceNe, Int.reduceEq, Int.reduceLT, Int.reduceLE, Int.reduceNeg, Int.reduceAdd, Int.reduceSub, Int.reduceMul, Int.reduceToNat, beq_self_eq_true, c14, c14S0, c14S1, c14S2]
  refine bsW_ones ty25mkI rfl rfl (by decide) (by decide) (by intro v hv; rw [List.mem_singleton] at hv; subst hv; rfl) ?_
  have e7 := row_one (w := w6) (n := 1) rfl
  have c7 : Below w6.heap.size w6 ((w6.alloc (.cells #[.int .i64 1] 3)).alloc (.cells #[.slice (some ⟨w6.heap.size, 0, none⟩) 1 1] 36)) := Below.next ((Below.refl _ _).alloc (Nat.le_refl _) _) ((Below.refl _ _).alloc (Nat.le_refl _) _)
  have s7 := s5.call c7
  simp (disch := first | omega | exact okFill_t rfl | exact okSize_t rfl | exact fun h => h | (simp only [World.size_alloc, World.size_drew, World.size_setCell, size_fill, bytesW]; omega)) only [go_sem, ↓reduceIte, reduceCtorEq, Nat.reduceBEq, Nat.reduceEqDiff, Nat.reduceAdd, Nat.reduceMul, Int.reduceNe, Int.reduceEq, Int.reduceLT, Int.reduceLE, Int.reduceNeg, Int.reduceAdd, Int.reduceSub, Int.reduceMul, Int.reduceToNat, beq_self_eq_true, c14, c14S0, c14S1, c14S2]
  generalize (w6.alloc (.cells #[.int .i64 1] 3)).alloc (.cells #[.slice (some ⟨w6.heap.size, 0, none⟩) 1 1] 36) = w7 at s7 e7 c7 ⊢
  refine Ret.mono (states_ok _ _ X _ w7 (hX6.below c7) e7 (fun p hp => ?_) (by have := congrArg List.length fx; simp at this; omega)) ?_
  · have : p.2 ∈ X.map Prod.snd := List.mem_map.2 ⟨p, hp, rfl⟩
    rw [fx, List.mem_singleton] at this
    rw [this]; decide
  rintro _ w8 ⟨rfl, b8⟩
  have s8 := s7.call b8
  have r8 := s8.rules 0 rfl
  have hdx : decide (X.map Prod.snd = [((Value.slice (some ⟨w6.heap.size, 0, none⟩) 1 1 : Value), ([1] : List Int))].map Prod.snd) = true := decide_eq_true fx
  rw [hdx]
  simp (disch := first | omega | exact okFill_t rfl | exact okSize_t rfl | exact fun h => h | (simp only [World.size_alloc, World.size_drew, World.size_setCell, size_fill, bytesW]; omega)) only [go_sem, ↓reduceIte, reduceCtorEq, Nat.reduceBEq, Nat.reduceEqDiff, Nat.reduceAdd, Nat.reduceMul, Int.reduceNe, Int.reduceEq, Int.reduceLT, Int.reduceLE, Int.reduceNeg, Int.reduceAdd, Int.reduceSub, Int.reduceMul, Int.reduceToNat, beq_self_eq_true, c14, c14S0, c14S1, c14S2, r8, l2, fy]
  exact s8.bel
end Go.Proofs.Ytbeoedgoikcbpaa
