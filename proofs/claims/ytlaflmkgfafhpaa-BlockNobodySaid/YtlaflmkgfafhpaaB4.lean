/- Contracts over the disk's functions: what makes a disk; the chapter's example. -/
import Derived.Test.YtlaflmkgfafhpaaB3
namespace Go.Proofs.Ytlaflmkgfafhpaa
set_option linter.unusedSimpArgs false
set_option linter.unusedVariables false
open Go Go.Ann Go.RowKit

def newDk (n : Nat) : Dk := { safe := List.replicate n zeroB, late := [], left := -1, gone := false }
/-- A disk while it is made. -/
structure Making (w0 w : World) (g : Nat) (v : Value) (k : Nat) : Prop where
  low : w0.heap.size ≤ g
  cb : w.cell? ⟨g, 0, none⟩ = some v
  cl : w.cell? ⟨g, 1, none⟩ = some (.slice none 0 0)
  cleft : w.cell? ⟨g, 2, none⟩ = some (.int .i64 (-1))
  cgone : w.cell? ⟨g, 3, none⟩ = some (.bool false)
  czero : w.cell? ⟨g, 4, none⟩ = some (.string (ofL zeroB))
  fz : ∀ i, w.frozen? ⟨g, i, none⟩ = false
  rb : w.ownsRow w0.heap.size 9 1 v k (strsV (List.replicate k zeroB))
  nb : v.ownBlock ≠ some g
  bel : Below w0.heap.size w0 w
theorem own_base {w : World} {B B' e size n : Nat} {v : Value} {xs : List Value} (h : w.ownsRow B e size v n xs) (hB : B' ≤ B) : w.ownsRow B' e size v n xs :=
  ⟨h.1, h.2.imp id fun ⟨g, cap, cur, h1, h2, h3⟩ => ⟨g, cap, cur, h1, Nat.le_trans hB h2, h3⟩⟩
theorem newDk_ok (n : Nat) (h0 : 0 < n) (h1 : n ≤ 2048) : (newDk n).ok :=
  ⟨fun s hs => by have := List.eq_of_mem_replicate (show s ∈ List.replicate n zeroB from hs); rw [this]; exact List.length_replicate, fun x hx => (by cases hx), ⟨(by simp only [newDk]; omega), (by simp only [newDk]; omega)⟩,
    (by simpa [newDk] using h0), (by simpa [newDk] using h1), (by simp [newDk])⟩
theorem Making.done {w0 w : World} {g : Nat} {v : Value} {k : Nat} (h : Making w0 w g v k) (h0 : 0 < k) (h1 : k ≤ 2048) : DiskAt w g v (.slice none 0 0) (newDk k) :=
  ⟨h.cb, h.cl, h.cleft, h.cgone, h.czero, fun i _ => h.fz i, by
    have := own_base h.rb (Nat.zero_le _)
    simpa [newDk] using this, World.ownsRow_nil _ _ _ _, h.nb, by simp [Value.ownBlock], by simp [Value.ownBlock], newDk_ok k h0 h1⟩
theorem new_ok (n : Int) (w : World) (hn : I64 n) :
    Ret Try.prog 21 [.int .i64 n] w fun v w' =>
      (¬ (1 ≤ n ∧ n ≤ 2048) ∧ v = .tuple #[.pointer none, .int .i64 1] ∧ w' = w) ∨
      (1 ≤ n ∧ n ≤ 2048 ∧ ∃ g vb vl, v = .tuple #[.pointer (some ⟨g, 0, none⟩), .int .i64 0] ∧ DiskAt w' g vb vl (newDk n.toNat) ∧ Below w.heap.size w w' ∧ ∀ k, foot g vb vl k → w.heap.size ≤ k) := by
  refine ent21 _ _ _ ?_
  simp only [go_sem, ↓reduceIte, reduceCtorEq, Nat.reduceBEq, Nat.reduceEqDiff, Nat.reduceAdd, Nat.reduceMul, Int.reduceNe, Int.reduceEq, Int.reduceLT, Int.reduceLE, Int.reduceNeg, Int.reduceAdd, Int.reduceSub, Int.reduceMul, Int.reduceToNat, beq_self_eq_true, c21, c21S0, c21S1, c21L0, c21S2, c21S3, c21S4, loadK_int, loadK_bool, loadK_str, loadK_slice, loadK_ptr, loadK_map, loadK_agg, loadK_other, heldW]
  have bad : ¬ (1 ≤ n ∧ n ≤ 2048) → (¬ (1 ≤ n ∧ n ≤ 2048) ∧ Value.tuple #[.pointer none, .int .i64 1] = .tuple #[.pointer none, .int .i64 1] ∧ w = w) := fun h => ⟨h, rfl, rfl⟩
  refine ⟨fun h1 => ⟨fun h2 => ?_, fun h2 => ?_⟩, fun h1 => ?_⟩
  · exact .inl (by omega)
  · refine Ret.mono (zeros_ok w) ?_
    rintro _ w2 ⟨rfl, hb2⟩
    simp only [go_sem, ↓reduceIte, reduceCtorEq, Nat.reduceBEq, Nat.reduceEqDiff, Nat.reduceAdd, Nat.reduceMul, Int.reduceNe, Int.reduceEq, Int.reduceLT, Int.reduceLE, Int.reduceNeg, Int.reduceAdd, Int.reduceSub, Int.reduceMul, Int.reduceToNat, beq_self_eq_true, c21, c21S0, c21S1, c21L0, c21S2, c21S3, c21S4, loadK_int, loadK_bool, loadK_str, loadK_slice, loadK_ptr, loadK_map, loadK_agg, loadK_other, heldW]
    refine bdW_built (cells := #[.slice none 0 0, .slice none 0 0, .int .i64 (-1), .bool false, .string (ofL zeroB)]) (by kernel_rfl) ?_
    simp only [go_sem, ↓reduceIte, reduceCtorEq, Nat.reduceBEq, Nat.reduceEqDiff, Nat.reduceAdd, Nat.reduceMul, Int.reduceNe, Int.reduceEq, Int.reduceLT, Int.reduceLE, Int.reduceNeg, Int.reduceAdd, Int.reduceSub, Int.reduceMul, Int.reduceToNat, beq_self_eq_true, c21, c21S0, c21S1, c21L0, c21S2, c21S3, c21S4, loadK_int, loadK_bool, loadK_str, loadK_slice, loadK_ptr, loadK_map, loadK_agg, loadK_other, heldW]
    refine W_loop (fun k : Nat => [(4, .pointer (some ⟨w2.heap.size, 0, none⟩)), (14, .int .i64 n), (15, .int .i64 (k : Int))])
      (fun k w' => (k : Int) ≤ n ∧ ∃ v, Making w w' w2.heap.size v k) (fun k => n.toNat - k) 0 (by rfl) ⟨by omega, .slice none 0 0, ?_⟩ ?_
    · exact ⟨hb2.size, World.cell?_alloc_at (hn := rfl) .., World.cell?_alloc_at (hn := rfl) .., World.cell?_alloc_at (hn := rfl) .., World.cell?_alloc_at (hn := rfl) .., World.cell?_alloc_at (hn := rfl) ..,
        fun i => World.frozen?_alloc_at (hn := rfl) .., World.ownsRow_nil _ _ _ _, by simp [Value.ownBlock], hb2.alloc hb2.size _⟩
    rintro k w3 ⟨hk, v, h3⟩
    simp only [go_sem, ↓reduceIte, reduceCtorEq, Nat.reduceBEq, Nat.reduceEqDiff, Nat.reduceAdd, Nat.reduceMul, Int.reduceNe, Int.reduceEq, Int.reduceLT, Int.reduceLE, Int.reduceNeg, Int.reduceAdd, Int.reduceSub, Int.reduceMul, Int.reduceToNat, beq_self_eq_true, c21, c21S0, c21S1, c21L0, c21S2, c21S3, c21S4, c21L0, loadK_int, loadK_bool, loadK_str, loadK_slice, loadK_ptr, loadK_map, loadK_agg, loadK_other, heldW]
    refine ⟨fun hlt => ?_, fun hge => ?_⟩
    · have hSS : w3.drew.cell? ⟨w2.heap.size, 0, none⟩ = some v ∧ w3.drew.cell? ⟨w2.heap.size, 4, none⟩ = some (.string (ofL zeroB)) := ⟨h3.cb, h3.czero⟩
      refine c21draw0 (fun w' => w'.cell? ⟨w2.heap.size, 0, none⟩ = some v ∧ w'.cell? ⟨w2.heap.size, 4, none⟩ = some (.string (ofL zeroB))) hSS ?_
      simp only [go_sem, ↓reduceIte, reduceCtorEq, Nat.reduceBEq, Nat.reduceEqDiff, Nat.reduceAdd, Nat.reduceMul, Int.reduceNe, Int.reduceEq, Int.reduceLT, Int.reduceLE, Int.reduceNeg, Int.reduceAdd, Int.reduceSub, Int.reduceMul, Int.reduceToNat, beq_self_eq_true, c21, c21S0, c21S1, c21L0, c21S2, c21S3, c21S4, c21D0, loadK_int, loadK_bool, loadK_str, loadK_slice, loadK_ptr, loadK_map, loadK_agg, loadK_other, heldW]
      obtain ⟨_, al, capl, hvl, hcl, _⟩ := Rd.of_own h3.rb
      refine ⟨v, fun w' hw => ⟨al, _, capl, by rw [hw.1, hvl], hvl.symm⟩, zeroB, h3.czero, hSS, ?_⟩
      refine bsW_ones ty45mkI rfl rfl (by decide) (by decide) (by intro v hv; simp only [List.mem_singleton] at hv; subst hv; rfl) ?_
      simp only [go_sem, ↓reduceIte, reduceCtorEq, Nat.reduceBEq, Nat.reduceEqDiff, Nat.reduceAdd, Nat.reduceMul, Int.reduceNe, Int.reduceEq, Int.reduceLT, Int.reduceLE, Int.reduceNeg, Int.reduceAdd, Int.reduceSub, Int.reduceMul, Int.reduceToNat, beq_self_eq_true, c21, c21S0, c21S1, c21L0, c21S2, c21S3, c21S4, c21D0, loadK_int, loadK_bool, loadK_str, loadK_slice, loadK_ptr, loadK_map, loadK_agg, loadK_other, heldW]
      have hlg : w2.heap.size < w3.heap.size := World.block_lt_of_cell? w3 _ h3.cb
      have hne : ∀ o : Obj, ∀ j, (w3.alloc o).drew.cell? ⟨w2.heap.size, j, none⟩ = w3.cell? ⟨w2.heap.size, j, none⟩ := fun o j => by
        rw [World.cell?_drew]; exact World.cell?_alloc_past (hn := hlg) ..
      refine ⟨⟨(hne _ 0).trans h3.cb, (hne _ 4).trans h3.czero⟩, ?_⟩
      change rawB _ _ _ _ _ _ _ _
      refine rawB_append (base := w.heap.size) (news := [.string (ofL zeroB)]) (xs := strsV (List.replicate k zeroB)) (n := k) ty45mkI rfl (by decide) (h3.rb.alloc _).drew rfl ?_ ?_ (by decide) (by omega) (by omega) (by have := h3.bel.size; simp; omega) ?_
      · intro j u hu
        match j, hu with
        | 0, hu =>
          simp only [List.getElem?_cons_zero, Option.some.injEq] at hu; subst hu
          rw [World.cell?_drew, Addr.add_lit, Nat.zero_add, World.cell?_alloc_at (w := w3) (n := w3.drew.heap.size) (hn := rfl)]; rfl
        | j + 1, hu => simp at hu
      · intro u hu; simp only [List.mem_singleton] at hu; subst hu; rfl
      intro g4 cap4 w4 hown4 hgr4 hg4 hlt4
      simp only [go_sem, ↓reduceIte, reduceCtorEq, Nat.reduceBEq, Nat.reduceEqDiff, Nat.reduceAdd, Nat.reduceMul, Int.reduceNe, Int.reduceEq, Int.reduceLT, Int.reduceLE, Int.reduceNeg, Int.reduceAdd, Int.reduceSub, Int.reduceMul, Int.reduceToNat, beq_self_eq_true, c21, c21S0, c21S1, c21L0, c21S2, c21S3, c21S4, c21D0, loadK_int, loadK_bool, loadK_str, loadK_slice, loadK_ptr, loadK_map, loadK_agg, loadK_other, heldW]
      have ch : Chg (fun k => v.ownBlock = some k) w3 w4 := ((Chg.refl _ w3).alloc _).drew.grown hgr4 fun k hk _ => hk
      have hng : ¬ v.ownBlock = some w2.heap.size := h3.nb
      have hg4n : g4 ≠ w2.heap.size := by
        rintro rfl
        rcases hg4 with e | e
        · exact hng e
        · have e' : w2.heap.size = w3.heap.size + 1 := e.trans (by simp)
          omega
      have hbel4 : Below w.heap.size w w4 := h3.bel.trans (ch.below h3.bel.size fun k hk e => by have := (h3.rb.lt k e).1; omega)
      refine ⟨⟨_, ch.cell h3.cb hng⟩, (ch.frozen hlg hng).trans (h3.fz 0), ⟨by omega, by omega⟩, k + 1, rfl, ⟨by omega, .slice (some ⟨g4, 0, none⟩) (k + 1) cap4, ?_⟩, by omega⟩
      refine ⟨h3.low, cell_set_eq (ch.cell h3.cb hng), (cell_set_ne (by decide)).trans (ch.cell h3.cl hng), (cell_set_ne (by decide)).trans (ch.cell h3.cleft hng), (cell_set_ne (by decide)).trans (ch.cell h3.cgone hng), (cell_set_ne (by decide)).trans (ch.cell h3.czero hng),
        fun i => by rw [World.frozen?_setCell]; exact (ch.frozen hlg hng).trans (h3.fz i), ?_, by simp only [Value.ownBlock, ne_eq, Option.some.injEq]; exact hg4n, hbel4.setCell h3.low _⟩
      refine ownsRow_setCell_other ?_ (by simp only [Value.ownBlock, ne_eq, Option.some.injEq]; exact hg4n) _
      have e : strsV (List.replicate (k + 1) zeroB) = strsV (List.replicate k zeroB) ++ [.string (ofL zeroB)] := by unfold strsV; rw [List.replicate_succ', List.map_append]; rfl
      rw [e]; exact hown4
    · obtain rfl : n = k := by omega
      refine .inr ⟨h1, h2, w2.heap.size, v, .slice none 0 0, rfl, ?_, h3.bel, ?_⟩
      · exact h3.done (by omega) (by omega)
      · rintro j (rfl | hj | hj)
        · exact h3.low
        · exact (h3.rb.lt j hj).1
        · simp [Value.ownBlock] at hj
  · exact .inl (by omega)
theorem some_ok (w : World) :
    Ret Try.prog 13 [] w fun v w' => ∃ g vb vl, v = .pointer (some ⟨g, 0, none⟩) ∧ DiskAt w' g vb vl (newDk 6) ∧ Below w.heap.size w w' ∧ ∀ k, foot g vb vl k → w.heap.size ≤ k := by
  refine ent13 _ _ ?_
  simp only [go_sem, ↓reduceIte, reduceCtorEq, Nat.reduceBEq, Nat.reduceEqDiff, Nat.reduceAdd, Nat.reduceMul, Int.reduceNe, Int.reduceEq, Int.reduceLT, Int.reduceLE, Int.reduceNeg, Int.reduceAdd, Int.reduceSub, Int.reduceMul, Int.reduceToNat, beq_self_eq_true, c13, c13S0, c13S1, loadK_int, loadK_bool, loadK_str, loadK_slice, loadK_ptr, loadK_map, loadK_agg, loadK_other, heldW]
  refine Ret.mono (new_ok 6 w ⟨by omega, by omega⟩) ?_
  rintro v w2 (⟨h, _⟩ | ⟨_, _, g, vb, vl, rfl, hd, hb, hf⟩)
  · omega
  simp only [go_sem, ↓reduceIte, reduceCtorEq, Nat.reduceBEq, Nat.reduceEqDiff, Nat.reduceAdd, Nat.reduceMul, Int.reduceNe, Int.reduceEq, Int.reduceLT, Int.reduceLE, Int.reduceNeg, Int.reduceAdd, Int.reduceSub, Int.reduceMul, Int.reduceToNat, beq_self_eq_true, c13, c13S0, c13S1, loadK_int, loadK_bool, loadK_str, loadK_slice, loadK_ptr, loadK_map, loadK_agg, loadK_other, heldW]
  exact ⟨g, vb, vl, rfl, hd, hb, hf⟩
end Go.Proofs.Ytlaflmkgfafhpaa
