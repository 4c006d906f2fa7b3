/- Contracts over the disk's functions: writes, and what makes a disk. -/
import Derived.Test.YtlaflmkgfafhpaaB1
namespace Go.Proofs.Ytlaflmkgfafhpaa
set_option linter.unusedSimpArgs false
set_option linter.unusedVariables false
open Go Go.Ann Go.RowKit

/-- A write. -/
def writeN (m : Dk) (i : Int) (data : List UInt8) : Dk × Int :=
  if readyN m i ≠ 0 then (m, readyN m i) else if 256 < data.length then (m, 21) else
  if (useN m).2 = 0 then ({ (useN m).1 with late := (useN m).1.late ++ [(i, filledL data)] }, 0) else useN m
/-- What follows of the blocks that are the disk's. -/
def Grew (w w' : World) (g : Nat) (vb vl vb' vl' : Value) : Prop := Chg (foot g vb vl) w w' ∧ ∀ k, k < w.heap.size → foot g vb' vl' k → foot g vb vl k
theorem Grew.of_chg {w w' : World} {g : Nat} {vb vl : Value} (h : Chg (fun k => k = g) w w') : Grew w w' g vb vl vb vl := ⟨h.mono fun i _ h => .inl h, fun _ _ h => h⟩
theorem DiskAt.grow {w w4 : World} {g : Nat} {vb vl v' : Value} {m : Dk} {late' : List (Int × List UInt8)} (h : DiskAt w g vb vl m) (ch : Chg (fun k => vl.ownBlock = some k) w w4)
    (hown : w4.ownsRow 0 88 2 v' late'.length (lateV late')) (hg : ∀ k, v'.ownBlock = some k → vl.ownBlock = some k ∨ w.heap.size ≤ k)
    (hok : ∀ x ∈ late', 0 ≤ x.1 ∧ x.1 < m.safe.length ∧ x.2.length = 256) (hless : late'.length ≤ 1048576) :
    DiskAt (w4.setCell ⟨g, 1, none⟩ v') g vb v' { m with late := late' } ∧ Grew w (w4.setCell ⟨g, 1, none⟩ v') g vb vl vb v' := by
  have hng : ¬ vl.ownBlock = some g := h.nl
  have hng' : v'.ownBlock ≠ some g := fun e => by
    rcases hg g e with h1 | h1
    · exact hng h1
    · have := h.lt; omega
  refine ⟨⟨(cell_set_ne (by decide)).trans (ch.cell h.cb hng), cell_set_eq (ch.cell h.cl hng), (cell_set_ne (by decide)).trans (ch.cell h.cleft hng), (cell_set_ne (by decide)).trans (ch.cell h.cgone hng), (cell_set_ne (by decide)).trans (ch.cell h.czero hng),
    fun i hi => by rw [World.frozen?_setCell]; exact (ch.frozen h.lt hng).trans (h.fz i hi), ownsRow_setCell_other (ch.own h.rb h.nbl) h.nb _, ownsRow_setCell_other hown hng' _, h.nb, hng', ?_, ⟨h.ok.safe, hok, h.ok.left, h.ok.some, h.ok.few, hless⟩⟩, ?_, ?_⟩
  · intro k hk hk'
    rcases hg k hk' with h1 | h1
    · exact h.nbl k hk h1
    · have := (h.rb.lt k hk).2; omega
  · exact (ch.mono fun i _ hi => .inr (.inr hi)).setCell _ _ fun _ => .inl rfl
  · rintro k hk (rfl | hk' | hk')
    · exact .inl rfl
    · exact .inr (.inl hk')
    · rcases hg k hk' with h1 | h1
      · exact .inr (.inr h1)
      · omega
theorem Grew.trans {w w1 w2 : World} {g : Nat} {vb vl vb1 vl1 vb2 vl2 : Value} (h : Grew w w1 g vb vl vb1 vl1) (k : Grew w1 w2 g vb1 vl1 vb2 vl2) : Grew w w2 g vb vl vb2 vl2 :=
  ⟨h.1.next k.1 h.2, fun i hi hf => h.2 i hi (k.2 i (Nat.lt_of_lt_of_le hi h.1.size) hf)⟩
theorem useN_late (m : Dk) : (useN m).1.late = m.late ∧ (useN m).1.safe = m.safe := by
  unfold useN; repeat' split
  all_goals exact ⟨rfl, rfl⟩
theorem write_ok (g : Nat) (vb vl : Value) (m : Dk) (i : Int) (data : List UInt8) (w : World) (h : DiskAt w g vb vl m) (hless : m.late.length < 1000000) :
    Ret Try.prog 14 [.pointer (some ⟨g, 0, none⟩), .int .i64 i, .string (ofL data)] w fun v w' => v = .int .i64 (writeN m i data).2 ∧
      ∃ vl', DiskAt w' g vb vl' (writeN m i data).1 ∧ Grew w w' g vb vl vb vl' := by
  have stay : ∀ w', w' = w → ∃ vl', DiskAt w' g vb vl' m ∧ Grew w w' g vb vl vb vl' := by
    rintro w' rfl
    exact ⟨vl, h, Grew.of_chg (Chg.refl _ _)⟩
  refine ent14 _ _ _ _ _ ?_
  simp only [go_sem, ↓reduceIte, reduceCtorEq, Nat.reduceBEq, Nat.reduceEqDiff, Nat.reduceAdd, Nat.reduceMul, Int.reduceNe, Int.reduceEq, Int.reduceLT, Int.reduceLE, Int.reduceNeg, Int.reduceAdd, Int.reduceSub, Int.reduceMul, Int.reduceToNat, beq_self_eq_true, c14, c14S0, c14S1, c14S2, c14S3, loadK_int, loadK_bool, loadK_str, loadK_slice, loadK_ptr, loadK_map, loadK_agg, loadK_other, heldW]
  refine Ret.mono (ready_ok g vb vl m i w h) ?_
  rintro _ w2 ⟨rfl, rfl⟩
  by_cases hr : readyN m i = 0
  · rw [hr]
    simp only [go_sem, ↓reduceIte, reduceCtorEq, Nat.reduceBEq, Nat.reduceEqDiff, Nat.reduceAdd, Nat.reduceMul, Int.reduceNe, Int.reduceEq, Int.reduceLT, Int.reduceLE, Int.reduceNeg, Int.reduceAdd, Int.reduceSub, Int.reduceMul, Int.reduceToNat, beq_self_eq_true, c14, c14S0, c14S1, c14S2, c14S3, loadK_int, loadK_bool, loadK_str, loadK_slice, loadK_ptr, loadK_map, loadK_agg, loadK_other, heldW]
    refine ⟨fun hb => ?_, fun hb => ?_⟩
    · have e : writeN m i data = (m, 21) := by unfold writeN; rw [if_neg (by omega), if_pos (by omega)]
      rw [e]; exact ⟨rfl, stay _ rfl⟩
    refine Ret.mono (use_ok g vb vl m w2 h) ?_
    rintro _ w3 ⟨rfl, h3, hc3⟩
    by_cases hu : (useN m).2 = 0
    · have e : writeN m i data = ({ (useN m).1 with late := (useN m).1.late ++ [(i, filledL data)] }, 0) := by unfold writeN; rw [if_neg (by omega), if_neg (by omega), if_pos hu]
      rw [hu, e]
      simp only [go_sem, ↓reduceIte, reduceCtorEq, Nat.reduceBEq, Nat.reduceEqDiff, Nat.reduceAdd, Nat.reduceMul, Int.reduceNe, Int.reduceEq, Int.reduceLT, Int.reduceLE, Int.reduceNeg, Int.reduceAdd, Int.reduceSub, Int.reduceMul, Int.reduceToNat, beq_self_eq_true, c14, c14S0, c14S1, c14S2, c14S3, loadK_int, loadK_bool, loadK_str, loadK_slice, loadK_ptr, loadK_map, loadK_agg, loadK_other, heldW]
      refine c14draw0 (fun w' => w'.cell? ⟨g, 1, none⟩ = some vl ∧ w'.cell? ⟨g, 4, none⟩ = some (.string (ofL zeroB))) ⟨h3.cl, h3.czero⟩ ?_
      simp only [go_sem, ↓reduceIte, reduceCtorEq, Nat.reduceBEq, Nat.reduceEqDiff, Nat.reduceAdd, Nat.reduceMul, Int.reduceNe, Int.reduceEq, Int.reduceLT, Int.reduceLE, Int.reduceNeg, Int.reduceAdd, Int.reduceSub, Int.reduceMul, Int.reduceToNat, beq_self_eq_true, c14, c14S0, c14S1, c14S2, c14S3, c14D0, loadK_int, loadK_bool, loadK_str, loadK_slice, loadK_ptr, loadK_map, loadK_agg, loadK_other, heldW]
      obtain ⟨hl1, al, capl, hvl, hcl, hlr⟩ := Rd.of_own h3.rl
      refine ⟨vl, fun w' hw => ⟨al, _, capl, by rw [hw.1, hvl], hvl.symm⟩, zeroB, h3.czero, ⟨h3.cl, h3.czero⟩, ⟨by omega, by rw [show zeroB.length = 256 from List.length_replicate]; omega⟩, ?_, ?_⟩
      · rw [List.length_drop, show zeroB.length = 256 from List.length_replicate]; omega
      have ed : data ++ List.drop (data.length : Int).toNat zeroB = filledL data := by
        unfold filledL zeroB; rw [List.drop_replicate]; simp
      rw [ed]
      refine bdW_built (cells := #[.int .i64 i, .string (ofL (filledL data))]) (by kernel_rfl) ?_
      simp only [go_sem, ↓reduceIte, reduceCtorEq, Nat.reduceBEq, Nat.reduceEqDiff, Nat.reduceAdd, Nat.reduceMul, Int.reduceNe, Int.reduceEq, Int.reduceLT, Int.reduceLE, Int.reduceNeg, Int.reduceAdd, Int.reduceSub, Int.reduceMul, Int.reduceToNat, beq_self_eq_true, c14, c14S0, c14S1, c14S2, c14S3, c14D0, loadK_int, loadK_bool, loadK_str, loadK_slice, loadK_ptr, loadK_map, loadK_agg, loadK_other, heldW]
      refine ⟨⟨h3.cl, h3.czero⟩, bsW_agg ty56mkI rfl (by decide) (by decide) ?_⟩
      simp only [go_sem, ↓reduceIte, reduceCtorEq, Nat.reduceBEq, Nat.reduceEqDiff, Nat.reduceAdd, Nat.reduceMul, Int.reduceNe, Int.reduceEq, Int.reduceLT, Int.reduceLE, Int.reduceNeg, Int.reduceAdd, Int.reduceSub, Int.reduceMul, Int.reduceToNat, beq_self_eq_true, c14, c14S0, c14S1, c14S2, c14S3, c14D0, loadK_int, loadK_bool, loadK_str, loadK_slice, loadK_ptr, loadK_map, loadK_agg, loadK_other, heldW]
      have hlg := h3.lt
      have hne : ∀ o : Obj, ∀ j, (w3.alloc o).drew.cell? ⟨g, j, none⟩ = w3.cell? ⟨g, j, none⟩ := fun o j => by
        rw [World.cell?_drew]; exact World.cell?_alloc_past (hn := hlg) ..
      refine ⟨⟨(hne _ 1).trans h3.cl, (hne _ 4).trans h3.czero⟩, ?_⟩
      change rawB _ _ _ _ _ _ _ _
      have ul := useN_late m
      rw [ul.1]
      refine rawB_append (base := 0) (news := pendV (i, filledL data)) (xs := lateV m.late) (n := m.late.length) ty56mkI rfl (by decide) ?_ rfl ?_ ?_ (by decide) (by omega) (by omega) (Nat.zero_le _) ?_
      · have := h3.rl; rw [(useN_late m).1] at this; exact (this.alloc _).drew
      · intro j u hu
        rw [World.cell?_drew, Addr.add_lit, Nat.zero_add, World.cell?_alloc_at (w := w3) (n := w3.drew.heap.size) (hn := rfl)]
        simpa [pendV] using hu
      · intro u hu; simp only [pendV, List.mem_cons, List.not_mem_nil, or_false] at hu; rcases hu with rfl | rfl <;> rfl
      intro g4 cap4 w4 hown4 hgr4 hg4 hlt4
      simp only [go_sem, ↓reduceIte, reduceCtorEq, Nat.reduceBEq, Nat.reduceEqDiff, Nat.reduceAdd, Nat.reduceMul, Int.reduceNe, Int.reduceEq, Int.reduceLT, Int.reduceLE, Int.reduceNeg, Int.reduceAdd, Int.reduceSub, Int.reduceMul, Int.reduceToNat, beq_self_eq_true, c14, c14S0, c14S1, c14S2, c14S3, c14D0, loadK_int, loadK_bool, loadK_str, loadK_slice, loadK_ptr, loadK_map, loadK_agg, loadK_other, heldW]
      have ch : Chg (fun k => vl.ownBlock = some k) w3 w4 := ((Chg.refl _ w3).alloc _).drew.grown hgr4 fun k hk _ => hk
      have hlate : m.late = (useN m).1.late := ul.1.symm
      have gr := h3.grow ch (v' := .slice (some ⟨g4, 0, none⟩) (m.late.length + 1) cap4) (late' := m.late ++ [(i, filledL data)]) (by
          rw [List.length_append]; unfold lateV at hown4 ⊢; rw [List.flatMap_append]; simpa using hown4) (by
          intro k hk
          simp only [Value.ownBlock, Option.some.injEq] at hk
          subst hk
          rcases hg4 with h1 | h1
          · exact .inl h1
          · right; rw [h1]; simp) (by
          intro x hx
          rw [ul.2]
          rcases List.mem_append.1 hx with hx | hx
          · exact h.ok.late x hx
          · simp only [List.mem_singleton] at hx
            subst hx
            have : 0 ≤ i ∧ i < m.safe.length := by
              unfold readyN at hr
              split at hr
              · cases hr
              · split at hr
                · assumption
                · cases hr
            exact ⟨this.1, this.2, filledL_length data (by omega)⟩) (by rw [List.length_append]; simp only [List.length_singleton]; omega)
      exact ⟨⟨_, ch.cell h3.cl h3.nl⟩, (ch.frozen hlg h3.nl).trans (h3.fz 1 (by decide)), _, gr.1, (Grew.of_chg hc3).trans gr.2⟩
    · have e : writeN m i data = useN m := by unfold writeN; rw [if_neg (by omega), if_neg (by omega), if_neg hu]
      rw [e]
      simp only [go_sem, ↓reduceIte, reduceCtorEq, Nat.reduceBEq, Nat.reduceEqDiff, Nat.reduceAdd, Nat.reduceMul, Int.reduceNe, Int.reduceEq, Int.reduceLT, Int.reduceLE, Int.reduceNeg, Int.reduceAdd, Int.reduceSub, Int.reduceMul, Int.reduceToNat, beq_self_eq_true, c14, c14S0, c14S1, c14S2, c14S3, loadK_int, loadK_bool, loadK_str, loadK_slice, loadK_ptr, loadK_map, loadK_agg, loadK_other, heldW]
      exact ⟨fun h => absurd h hu, fun _ => ⟨vl, h3, Grew.of_chg hc3⟩⟩
  · have e : writeN m i data = (m, readyN m i) := by unfold writeN; rw [if_pos hr]
    rw [e]
    simp only [go_sem, ↓reduceIte, reduceCtorEq, Nat.reduceBEq, Nat.reduceEqDiff, Nat.reduceAdd, Nat.reduceMul, Int.reduceNe, Int.reduceEq, Int.reduceLT, Int.reduceLE, Int.reduceNeg, Int.reduceAdd, Int.reduceSub, Int.reduceMul, Int.reduceToNat, beq_self_eq_true, c14, c14S0, c14S1, c14S2, c14S3, loadK_int, loadK_bool, loadK_str, loadK_slice, loadK_ptr, loadK_map, loadK_agg, loadK_other, heldW]
    exact ⟨fun h => absurd h hr, fun _ => ⟨fun h => absurd h hr, fun _ => ⟨fun h => absurd h hr, fun _ => stay _ rfl⟩⟩⟩
theorem limit_ok (g : Nat) (vb vl : Value) (m : Dk) (n : Int) (w : World) (h : DiskAt w g vb vl m) (hn : I64 n) :
    Ret Try.prog 20 [.pointer (some ⟨g, 0, none⟩), .int .i64 n] w fun _ w' => DiskAt w' g vb vl { m with left := n } ∧ Grew w w' g vb vl vb vl := by
  refine ent20 _ _ _ _ ?_
  simp only [go_sem, ↓reduceIte, reduceCtorEq, Nat.reduceBEq, Nat.reduceEqDiff, Nat.reduceAdd, Nat.reduceMul, Int.reduceNe, Int.reduceEq, Int.reduceLT, Int.reduceLE, Int.reduceNeg, Int.reduceAdd, Int.reduceSub, Int.reduceMul, Int.reduceToNat, beq_self_eq_true, c20, loadK_int, loadK_bool, loadK_str, loadK_slice, loadK_ptr, loadK_map, loadK_agg, loadK_other, heldW]
  exact ⟨⟨_, h.cleft⟩, h.fz 2 (by decide), h.setLeft n hn, Grew.of_chg ((Chg.refl _ _).setCell _ _ fun _ => rfl)⟩
theorem len_ok (g : Nat) (vb vl : Value) (m : Dk) (w : World) (h : DiskAt w g vb vl m) :
    Ret Try.prog 23 [.pointer (some ⟨g, 0, none⟩)] w fun v w' => v = .int .i64 m.safe.length ∧ w' = w := by
  refine ent23 _ _ _ ?_
  simp only [go_sem, ↓reduceIte, reduceCtorEq, Nat.reduceBEq, Nat.reduceEqDiff, Nat.reduceAdd, Nat.reduceMul, Int.reduceNe, Int.reduceEq, Int.reduceLT, Int.reduceLE, Int.reduceNeg, Int.reduceAdd, Int.reduceSub, Int.reduceMul, Int.reduceToNat, beq_self_eq_true, c23, c23S0, loadK_int, loadK_bool, loadK_str, loadK_slice, loadK_ptr, loadK_map, loadK_agg, loadK_other, heldW]
  obtain ⟨gb, cb, hvb, _, _⟩ := h.rb.form h.ok.some
  exact ⟨_, _, _, by rw [h.cb, hvb], rfl⟩
/-- The safe blocks, the late writes being done. -/
def doneL (safe : List (List UInt8)) (late : List (Int × List UInt8)) : List (List UInt8) := late.foldl (fun s x => s.set x.1.toNat x.2) safe
theorem doneL_length (safe : List (List UInt8)) : ∀ late, (doneL safe late).length = safe.length := by
  intro late
  unfold doneL
  induction late generalizing safe with
  | nil => rfl
  | cons x l ih => rw [List.foldl_cons, ih]; simp
theorem DiskAt.setSafe {w : World} {g gb cb n : Nat} {vl : Value} {m : Dk} (h : DiskAt w g (.slice (some ⟨gb, 0, none⟩) n cb) vl m) (hn : n = m.safe.length) (j : Nat) (hj : j < m.safe.length) (s : List UInt8) (hs : s.length = 256) :
    DiskAt (w.setCell ⟨gb, j, none⟩ (.string (ofL s))) g (.slice (some ⟨gb, 0, none⟩) n cb) vl { m with safe := m.safe.set j s } := by
  subst hn
  have hne : gb ≠ g := fun e => h.nb (by rw [e]; rfl)
  have far : ∀ i v, (w.setCell ⟨gb, j, none⟩ v).cell? ⟨g, i, none⟩ = w.cell? ⟨g, i, none⟩ := fun i v => World.cell?_setCell_other w _ _ _ (fun e => hne (congrArg Addr.block e))
  have row := h.rb.stored j (.string (ofL s))
  refine ⟨(far _ _).trans h.cb, (far _ _).trans h.cl, (far _ _).trans h.cleft, (far _ _).trans h.cgone, (far _ _).trans h.czero, fun i hi => by rw [World.frozen?_setCell]; exact h.fz i hi,
    ?_, ownsRow_setCell_other h.rl (h.nbl gb rfl) _, h.nb, h.nl, h.nbl, ⟨?_, ?_, h.ok.left, by simpa using h.ok.some, by simpa using h.ok.few, h.ok.less⟩⟩
  · simp only [List.length_set]
    have e : strsV (m.safe.set j s) = (strsV m.safe).set j (.string (ofL s)) := by unfold strsV; rw [List.map_set]
    rw [e]
    exact row.1
  · intro x hx
    rcases List.mem_or_eq_of_mem_set hx with hx | rfl
    · exact h.ok.safe x hx
    · exact hs
  · simpa using h.ok.late
def flushN (m : Dk) : Dk × Int :=
  if readyN m 0 ≠ 0 then (m, readyN m 0) else if (useN m).2 ≠ 0 then useN m else ({ (useN m).1 with safe := doneL m.safe m.late, late := [] }, 0)
theorem flush_ok (g : Nat) (vb vl : Value) (m : Dk) (w : World) (h : DiskAt w g vb vl m) :
    Ret Try.prog 15 [.pointer (some ⟨g, 0, none⟩)] w fun v w' => v = .int .i64 (flushN m).2 ∧ ∃ vl', DiskAt w' g vb vl' (flushN m).1 ∧ Grew w w' g vb vl vb vl' := by
  refine ent15 _ _ _ ?_
  simp only [go_sem, ↓reduceIte, reduceCtorEq, Nat.reduceBEq, Nat.reduceEqDiff, Nat.reduceAdd, Nat.reduceMul, Int.reduceNe, Int.reduceEq, Int.reduceLT, Int.reduceLE, Int.reduceNeg, Int.reduceAdd, Int.reduceSub, Int.reduceMul, Int.reduceToNat, beq_self_eq_true, c15, c15S0, c15S1, c15L0, c15S2, c15S3, c15S4, c15S5, loadK_int, loadK_bool, loadK_str, loadK_slice, loadK_ptr, loadK_map, loadK_agg, loadK_other, heldW]
  refine Ret.mono (ready_ok g vb vl m 0 w h) ?_
  rintro _ w2 ⟨rfl, rfl⟩
  by_cases hr : readyN m 0 = 0
  · rw [hr]
    simp only [go_sem, ↓reduceIte, reduceCtorEq, Nat.reduceBEq, Nat.reduceEqDiff, Nat.reduceAdd, Nat.reduceMul, Int.reduceNe, Int.reduceEq, Int.reduceLT, Int.reduceLE, Int.reduceNeg, Int.reduceAdd, Int.reduceSub, Int.reduceMul, Int.reduceToNat, beq_self_eq_true, c15, c15S0, c15S1, c15L0, c15S2, c15S3, c15S4, c15S5, loadK_int, loadK_bool, loadK_str, loadK_slice, loadK_ptr, loadK_map, loadK_agg, loadK_other, heldW]
    refine Ret.mono (use_ok g vb vl m w2 h) ?_
    rintro _ w3 ⟨rfl, h3, hc3⟩
    by_cases hu : (useN m).2 = 0
    · have e : flushN m = ({ (useN m).1 with safe := doneL m.safe m.late, late := [] }, 0) := by unfold flushN; rw [if_neg (by omega), if_neg (by omega)]
      have ul := useN_late m
      rw [hu, e]
      generalize (useN m).1 = m1 at h3 ul ⊢
      obtain ⟨ul1, ul2⟩ := ul
      simp only [go_sem, ↓reduceIte, reduceCtorEq, Nat.reduceBEq, Nat.reduceEqDiff, Nat.reduceAdd, Nat.reduceMul, Int.reduceNe, Int.reduceEq, Int.reduceLT, Int.reduceLE, Int.reduceNeg, Int.reduceAdd, Int.reduceSub, Int.reduceMul, Int.reduceToNat, beq_self_eq_true, c15, c15S0, c15S1, c15L0, c15S2, c15S3, c15S4, c15S5, loadK_int, loadK_bool, loadK_str, loadK_slice, loadK_ptr, loadK_map, loadK_agg, loadK_other, heldW]
      obtain ⟨hl1, al, capl, hvl, hcl, hlr⟩ := Rd.of_own h3.rl
      obtain ⟨gb, cb, hvb, _, _⟩ := h3.rb.form h3.ok.some
      subst hvb
      refine ⟨al, _, capl, by rw [h3.cl, hvl], ?_⟩
      refine W_loop (fun k : Nat => [(0, .pointer (some ⟨g, 0, none⟩)), (3, .int .i64 0), (17, .slice al m1.late.length capl), (18, .int .i64 m1.late.length), (19, .int .i64 (k : Int))])
        (fun k w' => k ≤ m1.late.length ∧ DiskAt w' g (.slice (some ⟨gb, 0, none⟩) m1.safe.length cb) vl { m1 with safe := doneL m1.safe (m1.late.take k) } ∧ Chg (fun k => k = gb) w3 w') (fun k => m1.late.length - k) 0 (by rfl) ⟨Nat.zero_le _, h3, Chg.refl _ _⟩ ?_
      rintro k w4 ⟨hk, h4, hc4⟩
      by_cases hlt : k < m1.late.length
      · obtain ⟨ad, rfl, hcell⟩ := hlr (by omega)
        simp only [go_sem, ↓reduceIte, reduceCtorEq, Nat.reduceBEq, Nat.reduceEqDiff, Nat.reduceAdd, Nat.reduceMul, Int.reduceNe, Int.reduceEq, Int.reduceLT, Int.reduceLE, Int.reduceNeg, Int.reduceAdd, Int.reduceSub, Int.reduceMul, Int.reduceToNat, beq_self_eq_true, c15, c15S0, c15S1, c15L0, c15S2, c15S3, c15S4, c15S5, c15L0, loadK_int, loadK_bool, loadK_str, loadK_slice, loadK_ptr, loadK_map, loadK_agg, loadK_other, heldW]
        have hx := h3.ok.late m1.late[k] (List.getElem_mem hlt)
        have hbel : Below w3.heap.size w3 w4 ∨ True := .inr trivial
        have hcell4 : cellsAt w4 (ad.add (k * 2)) (pendV m1.late[k]) := by
          have h5 := cellsAt_flat (els := m1.late) (enc := pendV) (sz := 2) (fun _ => rfl) hcell (List.getElem?_eq_getElem hlt)
          intro i v hv
          refine hc4.cell (h5 i v hv) ?_
          intro e
          have e2 : ((ad.add (k * 2)).add i).block = ad.block := by
            rw [add_add]; unfold Addr.add; split <;> rfl
          rw [e2] at e
          exact h3.nbl gb rfl (by rw [hvl]; simp only [Value.ownBlock]; rw [e])
        refine ⟨fun _ => ⟨⟨by omega, by omega⟩, pendV m1.late[k], hcell4, rfl, ?_⟩, fun h => by omega⟩
        refine storeW_new rfl ty88sizeT rfl (by simp [Value.cells, Value.oneCell', pendV]) ?_
        simp only [go_sem, ↓reduceIte, reduceCtorEq, Nat.reduceBEq, Nat.reduceEqDiff, Nat.reduceAdd, Nat.reduceMul, Int.reduceNe, Int.reduceEq, Int.reduceLT, Int.reduceLE, Int.reduceNeg, Int.reduceAdd, Int.reduceSub, Int.reduceMul, Int.reduceToNat, beq_self_eq_true, c15, c15S0, c15S1, c15L0, c15S2, c15S3, c15S4, c15S5, loadK_int, loadK_bool, loadK_str, loadK_slice, loadK_ptr, loadK_map, loadK_agg, loadK_other, heldW]
        have c0 : (pendV m1.late[k]).toArray = #[.int .i64 m1.late[k].1, .string (ofL m1.late[k].2)] := rfl
        rw [c0]
        have ha : ∀ j, j < 5 → (w4.alloc (.cells #[.int .i64 m1.late[k].1, .string (ofL m1.late[k].2)] 88)).cell? ⟨g, j, none⟩ = w4.cell? ⟨g, j, none⟩ := fun j _ => World.cell?_alloc_past (hn := h4.lt) ..
        have hSS : (w4.alloc (.cells #[.int .i64 m1.late[k].1, .string (ofL m1.late[k].2)] 88)).drew.cell? ⟨g, 0, none⟩ = some (.slice (some ⟨gb, 0, none⟩) m1.safe.length cb) ∧ (w4.alloc (.cells #[.int .i64 m1.late[k].1, .string (ofL m1.late[k].2)] 88)).drew.cell? ⟨w4.heap.size, 0, none⟩ = some (.int .i64 m1.late[k].1) ∧ (w4.alloc (.cells #[.int .i64 m1.late[k].1, .string (ofL m1.late[k].2)] 88)).drew.cell? ⟨w4.heap.size, 1, none⟩ = some (.string (ofL m1.late[k].2)) :=
          ⟨(ha 0 (by decide)).trans h4.cb, by rw [World.cell?_drew, World.cell?_alloc_at (hn := rfl)]; rfl, by rw [World.cell?_drew, World.cell?_alloc_at (hn := rfl)]; rfl⟩
        refine c15draw0 (fun w' => w'.cell? ⟨g, 0, none⟩ = some (.slice (some ⟨gb, 0, none⟩) m1.safe.length cb) ∧ w'.cell? ⟨w4.heap.size, 0, none⟩ = some (.int .i64 m1.late[k].1) ∧ w'.cell? ⟨w4.heap.size, 1, none⟩ = some (.string (ofL m1.late[k].2)))
          hSS ?_
        simp only [go_sem, ↓reduceIte, reduceCtorEq, Nat.reduceBEq, Nat.reduceEqDiff, Nat.reduceAdd, Nat.reduceMul, Int.reduceNe, Int.reduceEq, Int.reduceLT, Int.reduceLE, Int.reduceNeg, Int.reduceAdd, Int.reduceSub, Int.reduceMul, Int.reduceToNat, beq_self_eq_true, c15, c15S0, c15S1, c15L0, c15S2, c15S3, c15S4, c15S5, c15D0, loadK_int, loadK_bool, loadK_str, loadK_slice, loadK_ptr, loadK_map, loadK_agg, loadK_other, heldW]
        have hat : (m1.late[k].1.toNat : Int) = m1.late[k].1 := by have := hx.1; omega
        have hlen := doneL_length m1.safe (m1.late.take k)
        have hc5 : Chg (fun _ => False) w4 (w4.alloc (.cells #[.int .i64 m1.late[k].1, .string (ofL m1.late[k].2)] 88)).drew := ((Chg.refl _ w4).alloc _).drew
        have hst := (h4.keep hc5 (fun _ _ h => h)).setSafe (by simp only; rw [hlen]) m1.late[k].1.toNat (by simp only; rw [hlen]; have := hx.2.1; omega) m1.late[k].2 hx.2.2
        have hin : m1.late[k].1.toNat < m1.safe.length := by have := hx.2.1; omega
        refine ⟨_, fun w' hw => ⟨_, _, _, hw.1, rfl⟩, _, fun w' hw => ⟨_, hw.2.1, rfl⟩, _, hSS.2.2, hSS, ?_⟩
        simp only [go_sem, ↓reduceIte, reduceCtorEq, Nat.reduceBEq, Nat.reduceEqDiff, Nat.reduceAdd, Nat.reduceMul, Int.reduceNe, Int.reduceEq, Int.reduceLT, Int.reduceLE, Int.reduceNeg, Int.reduceAdd, Int.reduceSub, Int.reduceMul, Int.reduceToNat, beq_self_eq_true, c15, c15S0, c15S1, c15L0, c15S2, c15S3, c15S4, c15S5, c15D0, loadK_int, loadK_bool, loadK_str, loadK_slice, loadK_ptr, loadK_map, loadK_agg, loadK_other, heldW]
        rw [Nat.mul_one]
        have h5 := h4.keep hc5 (fun _ _ h => h)
        have hrow := h5.rb
        simp only [hlen] at hrow
        have hless := h3.ok.less
        have hdone : doneL m1.safe (m1.late.take (k + 1)) = (doneL m1.safe (m1.late.take k)).set m1.late[k].1.toNat m1.late[k].2 := by
          rw [List.take_succ_eq_append_getElem hlt]; unfold doneL; rw [List.foldl_append]; rfl
        refine ⟨⟨hx.1, hx.2.1⟩, ⟨_, (hrow.cellAt _ (by omega)).trans (List.getElem?_eq_getElem (by unfold strsV; rw [List.length_map, hlen]; exact hin))⟩, hrow.frozenAt _, ⟨by omega, by omega⟩, k + 1, rfl, ⟨by omega, ?_, ?_⟩, by omega⟩
        · rw [hdone]; exact hst
        · exact (((hc4.trans (hc5.mono fun _ _ h => h.elim)).setCell ⟨gb, m1.late[k].1.toNat, none⟩ (.string (ofL m1.late[k].2)) fun _ => rfl))
      · simp only [go_sem, ↓reduceIte, reduceCtorEq, Nat.reduceBEq, Nat.reduceEqDiff, Nat.reduceAdd, Nat.reduceMul, Int.reduceNe, Int.reduceEq, Int.reduceLT, Int.reduceLE, Int.reduceNeg, Int.reduceAdd, Int.reduceSub, Int.reduceMul, Int.reduceToNat, beq_self_eq_true, c15, c15S0, c15S1, c15L0, c15S2, c15S3, c15S4, c15S5, c15L0, loadK_int, loadK_bool, loadK_str, loadK_slice, loadK_ptr, loadK_map, loadK_agg, loadK_other, heldW]
        refine ⟨fun h => by omega, fun _ => ⟨⟨_, h4.cl⟩, h4.fz 1 (by decide), .slice none 0 0, ?_⟩⟩
        have hk' : k = m1.late.length := by omega
        subst hk'
        rw [List.take_length] at h4
        have gr := h4.grow (v' := .slice none 0 0) (late' := []) (Chg.refl _ _) (World.ownsRow_nil _ _ _ _) (fun k hk => by simp [Value.ownBlock] at hk) (fun x hx => by cases hx) (by simp)
        refine ⟨?_, (Grew.of_chg hc3).trans (Grew.trans ⟨hc4.mono fun i _ hi => .inr (.inl (by rw [hi]; rfl)), fun _ _ h => h⟩ gr.2)⟩
        rw [← ul1, ← ul2]
        exact gr.1
    · have e : flushN m = useN m := by unfold flushN; rw [if_neg (by omega), if_pos hu]
      rw [e]
      simp only [go_sem, ↓reduceIte, reduceCtorEq, Nat.reduceBEq, Nat.reduceEqDiff, Nat.reduceAdd, Nat.reduceMul, Int.reduceNe, Int.reduceEq, Int.reduceLT, Int.reduceLE, Int.reduceNeg, Int.reduceAdd, Int.reduceSub, Int.reduceMul, Int.reduceToNat, beq_self_eq_true, c15, c15S0, c15S1, c15L0, c15S2, c15S3, c15S4, c15S5, loadK_int, loadK_bool, loadK_str, loadK_slice, loadK_ptr, loadK_map, loadK_agg, loadK_other, heldW]
      exact ⟨fun h => absurd h hu, fun _ => ⟨vl, h3, Grew.of_chg hc3⟩⟩
  · have e : flushN m = (m, readyN m 0) := by unfold flushN; rw [if_pos hr]
    rw [e]
    simp only [go_sem, ↓reduceIte, reduceCtorEq, Nat.reduceBEq, Nat.reduceEqDiff, Nat.reduceAdd, Nat.reduceMul, Int.reduceNe, Int.reduceEq, Int.reduceLT, Int.reduceLE, Int.reduceNeg, Int.reduceAdd, Int.reduceSub, Int.reduceMul, Int.reduceToNat, beq_self_eq_true, c15, c15S0, c15S1, c15L0, c15S2, c15S3, c15S4, c15S5, loadK_int, loadK_bool, loadK_str, loadK_slice, loadK_ptr, loadK_map, loadK_agg, loadK_other, heldW]
    exact ⟨fun h => absurd h hr, fun _ => ⟨fun h => absurd h hr, fun _ => ⟨vl, h, Grew.of_chg (Chg.refl _ _)⟩⟩⟩
end Go.Proofs.Ytlaflmkgfafhpaa
