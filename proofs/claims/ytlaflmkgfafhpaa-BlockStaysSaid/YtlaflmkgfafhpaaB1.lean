/- Contracts over the disk's functions: what the disk holds. -/
import Derived.Test.YtlaflmkgfafhpaaAnn15
import Derived.Test.YtlaflmkgfafhpaaCode
namespace Go.Proofs.Ytlaflmkgfafhpaa
set_option linter.unusedSimpArgs false
set_option linter.unusedVariables false
open Go Go.Ann Go.RowKit

def zeroB : List UInt8 := List.replicate 256 0
/-- A text with bytes 0 up to a block's. -/
def filledL (l : List UInt8) : List UInt8 := l ++ List.replicate (256 - l.length) 0
theorem filledL_length (l : List UInt8) (h : l.length ≤ 256) : (filledL l).length = 256 := by
  unfold filledL; rw [List.length_append, List.length_replicate]; omega

theorem zeros_ok (w : World) :
    Ret Try.prog 44 [] w fun v w' => v = .string (ofL zeroB) ∧ Below w.heap.size w w' := by
  refine ent44 _ _ ?_
  simp only [go_sem, ↓reduceIte, reduceCtorEq, Nat.reduceBEq, Nat.reduceEqDiff, Nat.reduceAdd, Nat.reduceMul, Int.reduceNe, Int.reduceEq, Int.reduceLT, Int.reduceLE, Int.reduceNeg, Int.reduceAdd, Int.reduceSub, Int.reduceMul, Int.reduceToNat, beq_self_eq_true, c44, loadK_int, loadK_bool, loadK_str, loadK_slice, loadK_ptr, loadK_map, loadK_agg, loadK_other, heldW]
  refine msW_one ty89mkI rfl (by omega) (by omega) (by omega) (by omega) ?_
  simp only [go_sem, ↓reduceIte, reduceCtorEq, Nat.reduceBEq, Nat.reduceEqDiff, Nat.reduceAdd, Nat.reduceMul, Int.reduceNe, Int.reduceEq, Int.reduceLT, Int.reduceLE, Int.reduceNeg, Int.reduceAdd, Int.reduceSub, Int.reduceMul, Int.reduceToNat, beq_self_eq_true, c44, loadK_int, loadK_bool, loadK_str, loadK_slice, loadK_ptr, loadK_map, loadK_agg, loadK_other, heldW]
  exact ⟨zeroB, List.length_replicate, bytesAt_new w 256 _, rfl, (Below.refl _ _).alloc (Nat.le_refl _) _⟩
theorem filled_ok (l : List UInt8) (w : World) (h : l.length ≤ 256) :
    Ret Try.prog 17 [.string (ofL l)] w fun v w' => v = .string (ofL (filledL l)) ∧ Below w.heap.size w w' := by
  refine ent17 _ _ _ ?_
  simp only [go_sem, ↓reduceIte, reduceCtorEq, Nat.reduceBEq, Nat.reduceEqDiff, Nat.reduceAdd, Nat.reduceMul, Int.reduceNe, Int.reduceEq, Int.reduceLT, Int.reduceLE, Int.reduceNeg, Int.reduceAdd, Int.reduceSub, Int.reduceMul, Int.reduceToNat, beq_self_eq_true, c17, loadK_int, loadK_bool, loadK_str, loadK_slice, loadK_ptr, loadK_map, loadK_agg, loadK_other, heldW]
  refine ⟨⟨by omega, by omega⟩, ?_⟩
  refine msW_one ty89mkI rfl (by omega) (by omega) (by omega) (by omega) ?_
  simp only [go_sem, ↓reduceIte, reduceCtorEq, Nat.reduceBEq, Nat.reduceEqDiff, Nat.reduceAdd, Nat.reduceMul, Int.reduceNe, Int.reduceEq, Int.reduceLT, Int.reduceLE, Int.reduceNeg, Int.reduceAdd, Int.reduceSub, Int.reduceMul, Int.reduceToNat, beq_self_eq_true, c17, loadK_int, loadK_bool, loadK_str, loadK_slice, loadK_ptr, loadK_map, loadK_agg, loadK_other, heldW]
  have e : ((256 : Int) - (l.length : Int)).toNat = 256 - l.length := by omega
  rw [e]
  exact ⟨_, List.length_replicate, bytesAt_new w (256 - l.length) _, by rw [List.length_replicate]; omega, rfl, (Below.refl _ _).alloc (Nat.le_refl _) _⟩

/-- What a disk holds. -/
structure Dk where
  safe : List (List UInt8)
  late : List (Int × List UInt8)
  left : Int
  gone : Bool
structure Dk.ok (m : Dk) : Prop where
  safe : ∀ s ∈ m.safe, s.length = 256
  late : ∀ x ∈ m.late, 0 ≤ x.1 ∧ x.1 < m.safe.length ∧ x.2.length = 256
  left : I64 m.left
  some : 0 < m.safe.length
  few : m.safe.length ≤ 2048
  less : m.late.length ≤ 1048576
def strsV (l : List (List UInt8)) : List Value := l.map fun s => .string (ofL s)
def pendV (x : Int × List UInt8) : List Value := [.int .i64 x.1, .string (ofL x.2)]
def lateV (l : List (Int × List UInt8)) : List Value := l.flatMap pendV

/-- A disk in memory: its block is g, its two rows are vb and vl. -/
structure DiskAt (w : World) (g : Nat) (vb vl : Value) (m : Dk) : Prop where
  cb : w.cell? ⟨g, 0, none⟩ = some vb
  cl : w.cell? ⟨g, 1, none⟩ = some vl
  cleft : w.cell? ⟨g, 2, none⟩ = some (.int .i64 m.left)
  cgone : w.cell? ⟨g, 3, none⟩ = some (.bool m.gone)
  czero : w.cell? ⟨g, 4, none⟩ = some (.string (ofL zeroB))
  fz : ∀ i, i < 5 → w.frozen? ⟨g, i, none⟩ = false
  rb : w.ownsRow 0 9 1 vb m.safe.length (strsV m.safe)
  rl : w.ownsRow 0 88 2 vl m.late.length (lateV m.late)
  nb : vb.ownBlock ≠ some g
  nl : vl.ownBlock ≠ some g
  nbl : ∀ k, vb.ownBlock = some k → vl.ownBlock ≠ some k
  ok : m.ok
/-- The blocks that are the disk's. -/
def foot (g : Nat) (vb vl : Value) (k : Nat) : Prop := k = g ∨ vb.ownBlock = some k ∨ vl.ownBlock = some k

section
variable {w : World} {g : Nat} {vb vl : Value} {m : Dk}
theorem cell_set_ne {i j : Nat} {v : Value} (h : i ≠ j) : (w.setCell ⟨g, i, none⟩ v).cell? ⟨g, j, none⟩ = w.cell? ⟨g, j, none⟩ :=
  World.cell?_setCell_other w _ _ _ (fun e => h (congrArg Addr.off e))
theorem cell_set_eq {i : Nat} {u v : Value} (h : w.cell? ⟨g, i, none⟩ = some u) : (w.setCell ⟨g, i, none⟩ v).cell? ⟨g, i, none⟩ = some v :=
  World.cell?_setCell_same w _ _ h
theorem DiskAt.setGone (h : DiskAt w g vb vl m) (b : Bool) : DiskAt (w.setCell ⟨g, 3, none⟩ (.bool b)) g vb vl { m with gone := b } :=
  ⟨(cell_set_ne (by decide)).trans h.cb, (cell_set_ne (by decide)).trans h.cl, (cell_set_ne (by decide)).trans h.cleft, cell_set_eq h.cgone, (cell_set_ne (by decide)).trans h.czero,
    fun i hi => by rw [World.frozen?_setCell]; exact h.fz i hi, ownsRow_setCell_other h.rb h.nb _, ownsRow_setCell_other h.rl h.nl _, h.nb, h.nl, h.nbl, ⟨h.ok.safe, h.ok.late, h.ok.left, h.ok.some, h.ok.few, h.ok.less⟩⟩
theorem DiskAt.setLeft (h : DiskAt w g vb vl m) (n : Int) (hn : I64 n) : DiskAt (w.setCell ⟨g, 2, none⟩ (.int .i64 n)) g vb vl { m with left := n } :=
  ⟨(cell_set_ne (by decide)).trans h.cb, (cell_set_ne (by decide)).trans h.cl, cell_set_eq h.cleft, (cell_set_ne (by decide)).trans h.cgone, (cell_set_ne (by decide)).trans h.czero,
    fun i hi => by rw [World.frozen?_setCell]; exact h.fz i hi, ownsRow_setCell_other h.rb h.nb _, ownsRow_setCell_other h.rl h.nl _, h.nb, h.nl, h.nbl, ⟨h.ok.safe, h.ok.late, hn, h.ok.some, h.ok.few, h.ok.less⟩⟩
theorem DiskAt.lt (h : DiskAt w g vb vl m) : g < w.heap.size := World.block_lt_of_cell? w _ h.cb
/-- What is written elsewhere leaves a disk as it is. -/
theorem DiskAt.keep (h : DiskAt w g vb vl m) {S : Nat → Prop} {w' : World} (hc : Chg S w w') (hS : ∀ k, foot g vb vl k → ¬ S k) : DiskAt w' g vb vl m :=
  ⟨hc.cell h.cb (hS _ (.inl rfl)), hc.cell h.cl (hS _ (.inl rfl)), hc.cell h.cleft (hS _ (.inl rfl)), hc.cell h.cgone (hS _ (.inl rfl)), hc.cell h.czero (hS _ (.inl rfl)),
    fun i hi => (hc.frozen h.lt (hS _ (.inl rfl))).trans (h.fz i hi), hc.own h.rb fun k hk => hS _ (.inr (.inl hk)), hc.own h.rl fun k hk => hS _ (.inr (.inr hk)), h.nb, h.nl, h.nbl, h.ok⟩
end

def readyN (m : Dk) (i : Int) : Int := if m.gone = true then 11 else if 0 ≤ i ∧ i < m.safe.length then 0 else 10
theorem ready_ok (g : Nat) (vb vl : Value) (m : Dk) (i : Int) (w : World) (h : DiskAt w g vb vl m) :
    Ret Try.prog 42 [.pointer (some ⟨g, 0, none⟩), .int .i64 i] w fun v w' => v = .int .i64 (readyN m i) ∧ w' = w := by
  obtain ⟨gb, cb, rfl, _, _⟩ := h.rb.form h.ok.some
  refine ent42 _ _ _ _ ?_
  simp only [go_sem, ↓reduceIte, reduceCtorEq, Nat.reduceBEq, Nat.reduceEqDiff, Nat.reduceAdd, Nat.reduceMul, Int.reduceNe, Int.reduceEq, Int.reduceLT, Int.reduceLE, Int.reduceNeg, Int.reduceAdd, Int.reduceSub, Int.reduceMul, Int.reduceToNat, beq_self_eq_true, c42, c42S0, loadK_int, loadK_bool, loadK_str, loadK_slice, loadK_ptr, loadK_map, loadK_agg, loadK_other, heldW]
  refine ⟨_, _, _, h.cb, fun h => by simp at h, fun _ => ⟨_, h.cgone, ?_, ?_⟩⟩
  · intro hg; unfold readyN; rw [if_pos hg]
  · intro hg
    unfold readyN
    rw [if_neg (by rw [hg]; decide)]
    refine ⟨fun h0 => ⟨_, _, _, h.cb, fun h1 => ?_, fun h1 => ?_⟩, fun h0 => ?_⟩
    · rw [if_neg (by omega)]
    · rw [if_pos (by omega)]
    · rw [if_neg (by omega)]
/-- Behind a write, or a flush. -/
def useN (m : Dk) : Dk × Int := if m.left = 0 then ({ m with gone := true }, 11) else if 0 < m.left then ({ m with left := m.left - 1 }, 0) else (m, 0)
theorem use_ok (g : Nat) (vb vl : Value) (m : Dk) (w : World) (h : DiskAt w g vb vl m) :
    Ret Try.prog 43 [.pointer (some ⟨g, 0, none⟩)] w fun v w' => v = .int .i64 (useN m).2 ∧ DiskAt w' g vb vl (useN m).1 ∧ Chg (fun k => k = g) w w' := by
  refine ent43 _ _ _ ?_
  simp only [go_sem, ↓reduceIte, reduceCtorEq, Nat.reduceBEq, Nat.reduceEqDiff, Nat.reduceAdd, Nat.reduceMul, Int.reduceNe, Int.reduceEq, Int.reduceLT, Int.reduceLE, Int.reduceNeg, Int.reduceAdd, Int.reduceSub, Int.reduceMul, Int.reduceToNat, beq_self_eq_true, c43, c43S0, c43S1, loadK_int, loadK_bool, loadK_str, loadK_slice, loadK_ptr, loadK_map, loadK_agg, loadK_other, heldW]
  unfold useN
  refine ⟨_, h.cleft, fun h0 => ?_, fun h0 => ⟨_, h.cleft, fun h1 => ⟨_, h.cleft, ?_⟩, fun h1 => ?_⟩⟩
  · rw [if_pos h0]
    exact ⟨⟨_, h.cgone⟩, h.fz 3 (by decide), rfl, h.setGone true, (Chg.refl _ _).setCell _ _ fun _ => rfl⟩
  · rw [if_neg h0, if_pos h1]
    have hl := h.ok.left
    have hi : I64 (m.left - 1) := ⟨by have := hl.1; omega, by have := hl.2; omega⟩
    exact ⟨hi, ⟨_, h.cleft⟩, h.fz 2 (by decide), rfl, h.setLeft _ hi, (Chg.refl _ _).setCell _ _ fun _ => rfl⟩
  · rw [if_neg h0, if_neg (by omega)]
    exact ⟨rfl, h, Chg.refl _ _⟩
def lastL (l : List (Int × List UInt8)) (i : Int) (s : List UInt8) : List UInt8 := l.foldl (fun s x => if x.1 = i then x.2 else s) s
def readN (m : Dk) (i : Int) : List UInt8 × Int := if readyN m i = 0 then (lastL m.late i (m.safe.getD i.toNat []), 0) else ([], readyN m i)
theorem read_ok (g : Nat) (vb vl : Value) (m : Dk) (i : Int) (w : World) (h : DiskAt w g vb vl m) :
    Ret Try.prog 16 [.pointer (some ⟨g, 0, none⟩), .int .i64 i] w fun v w' => v = .tuple #[.string (ofL (readN m i).1), .int .i64 (readN m i).2] ∧ Below w.heap.size w w' := by
  refine ent16 _ _ _ _ ?_
  simp only [go_sem, ↓reduceIte, reduceCtorEq, Nat.reduceBEq, Nat.reduceEqDiff, Nat.reduceAdd, Nat.reduceMul, Int.reduceNe, Int.reduceEq, Int.reduceLT, Int.reduceLE, Int.reduceNeg, Int.reduceAdd, Int.reduceSub, Int.reduceMul, Int.reduceToNat, beq_self_eq_true, c16, c16S0, c16S1, c16S2, c16L0, c16S3, c16S4, loadK_int, loadK_bool, loadK_str, loadK_slice, loadK_ptr, loadK_map, loadK_agg, loadK_other, heldW]
  refine Ret.mono (ready_ok g vb vl m i w h) ?_
  rintro _ w2 ⟨rfl, rfl⟩
  simp only [go_sem, ↓reduceIte, reduceCtorEq, Nat.reduceBEq, Nat.reduceEqDiff, Nat.reduceAdd, Nat.reduceMul, Int.reduceNe, Int.reduceEq, Int.reduceLT, Int.reduceLE, Int.reduceNeg, Int.reduceAdd, Int.reduceSub, Int.reduceMul, Int.reduceToNat, beq_self_eq_true, c16, c16S0, c16S1, c16S2, c16L0, c16S3, c16S4, loadK_int, loadK_bool, loadK_str, loadK_slice, loadK_ptr, loadK_map, loadK_agg, loadK_other, heldW]
  unfold readN
  refine ⟨fun hr => ?_, fun hr => ?_⟩
  · rw [if_neg hr]
    exact ⟨rfl, Below.refl _ _⟩
  have hr : readyN m i = 0 := Decidable.not_not.1 hr
  rw [if_pos hr]
  have hin : 0 ≤ i ∧ i < m.safe.length := by
    unfold readyN at hr
    split at hr
    · cases hr
    · split at hr
      · assumption
      · cases hr
  obtain ⟨gb, cb, hvb, _, _⟩ := h.rb.form h.ok.some
  obtain ⟨hl1, al, capl, hvl, hcl, hlr⟩ := Rd.of_own h.rl
  refine ⟨some ⟨gb, 0, none⟩, m.safe.length, cb, by rw [h.cb, hvb], ?_⟩
  simp only [go_sem, ↓reduceIte, reduceCtorEq, Nat.reduceBEq, Nat.reduceEqDiff, Nat.reduceAdd, Nat.reduceMul, Int.reduceNe, Int.reduceEq, Int.reduceLT, Int.reduceLE, Int.reduceNeg, Int.reduceAdd, Int.reduceSub, Int.reduceMul, Int.reduceToNat, beq_self_eq_true, c16, c16S0, c16S1, c16S2, c16L0, c16S3, c16S4, loadK_int, loadK_bool, loadK_str, loadK_slice, loadK_ptr, loadK_map, loadK_agg, loadK_other, heldW]
  have hs : m.safe[i.toNat]? = some (m.safe.getD i.toNat []) := by
    rw [List.getD_eq_getElem?_getD, List.getElem?_eq_getElem (by omega)]; rfl
  refine ⟨hin, m.safe.getD i.toNat [], ?_, al, m.late.length, capl, by rw [h.cl, hvl], ?_⟩
  · rw [Nat.mul_one]
    have := h.rb.cells (g := gb) (by rw [hvb]; rfl) i.toNat (.string (ofL (m.safe.getD i.toNat []))) (by unfold strsV; rw [List.getElem?_map, hs]; rfl)
    rwa [Addr.add_lit, Nat.zero_add] at this
  refine W_loop (fun k : Nat => [(1, .int .i64 i), (7, .string (ofL (lastL (m.late.take k) i (m.safe.getD i.toNat [])))), (26, .slice al m.late.length capl), (27, .int .i64 m.late.length), (28, .int .i64 (k : Int))])
    (fun k w' => k ≤ m.late.length ∧ Below w2.heap.size w2 w') (fun k => m.late.length - k) 0 (by rfl) ⟨Nat.zero_le _, Below.refl _ _⟩ ?_
  rintro k w3 ⟨hk, hb⟩
  by_cases hlt : k < m.late.length
  · obtain ⟨ad, rfl, hcell⟩ := hlr (by omega)
    simp only [go_sem, ↓reduceIte, reduceCtorEq, Nat.reduceBEq, Nat.reduceEqDiff, Nat.reduceAdd, Nat.reduceMul, Int.reduceNe, Int.reduceEq, Int.reduceLT, Int.reduceLE, Int.reduceNeg, Int.reduceAdd, Int.reduceSub, Int.reduceMul, Int.reduceToNat, beq_self_eq_true, c16, c16S0, c16S1, c16S2, c16L0, c16S3, c16S4, c16L0, loadK_int, loadK_bool, loadK_str, loadK_slice, loadK_ptr, loadK_map, loadK_agg, loadK_other, heldW]
    refine ⟨fun _ => ⟨⟨by omega, by omega⟩, [.int .i64 m.late[k].1, .string (ofL m.late[k].2)], ?_, rfl, ?_⟩, fun h => by omega⟩
    · exact (cellsAt_flat (els := m.late) (enc := pendV) (sz := 2) (fun _ => rfl) hcell (List.getElem?_eq_getElem hlt)).below hb
    refine storeW_new rfl ty88sizeT rfl (by simp [Value.cells, Value.oneCell']) ?_
    simp only [go_sem, ↓reduceIte, reduceCtorEq, Nat.reduceBEq, Nat.reduceEqDiff, Nat.reduceAdd, Nat.reduceMul, Int.reduceNe, Int.reduceEq, Int.reduceLT, Int.reduceLE, Int.reduceNeg, Int.reduceAdd, Int.reduceSub, Int.reduceMul, Int.reduceToNat, beq_self_eq_true, c16, c16S0, c16S1, c16S2, c16L0, c16S3, c16S4, loadK_int, loadK_bool, loadK_str, loadK_slice, loadK_ptr, loadK_map, loadK_agg, loadK_other, heldW]
    have hb' : Below w2.heap.size w2 (w3.alloc (Obj.cells #[Value.int IntKind.i64 m.late[k].fst, Value.string (ofL m.late[k].snd)] 88)) := hb.alloc hb.size _
    have hstep : lastL (m.late.take (k + 1)) i (m.safe.getD i.toNat []) = if m.late[k].1 = i then m.late[k].2 else lastL (m.late.take k) i (m.safe.getD i.toNat []) := by
      rw [List.take_succ_eq_append_getElem hlt]
      unfold lastL
      rw [List.foldl_append]; rfl
    have hless := h.ok.less
    refine ⟨_, rfl, fun he => ⟨_, rfl, ⟨by omega, by omega⟩, k + 1, ?_, ⟨by omega, hb'⟩, by omega⟩, fun he => ⟨⟨by omega, by omega⟩, k + 1, ?_, ⟨by omega, hb'⟩, by omega⟩⟩
    · rw [hstep, if_pos he]; rfl
    · rw [hstep, if_neg he]; rfl
  · simp only [go_sem, ↓reduceIte, reduceCtorEq, Nat.reduceBEq, Nat.reduceEqDiff, Nat.reduceAdd, Nat.reduceMul, Int.reduceNe, Int.reduceEq, Int.reduceLT, Int.reduceLE, Int.reduceNeg, Int.reduceAdd, Int.reduceSub, Int.reduceMul, Int.reduceToNat, beq_self_eq_true, c16, c16S0, c16S1, c16S2, c16L0, c16S3, c16S4, c16L0, loadK_int, loadK_bool, loadK_str, loadK_slice, loadK_ptr, loadK_map, loadK_agg, loadK_other, heldW]
    refine ⟨fun h => by omega, fun _ => ?_⟩
    rw [List.take_of_length_le (by omega)]
    exact ⟨rfl, hb⟩
end Go.Proofs.Ytlaflmkgfafhpaa
