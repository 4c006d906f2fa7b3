/- An engine for walks. Part 16: slices that are read, slices that the walk owns, append. -/
import Derived.Test.YtnhgafpoonnamaaAnn14
import Derived.Deep.AppendLies
import Derived.Deep.DeepAppendWide
namespace Go.Ann
open Go Go.RowKit
set_option linter.unusedVariables false

/-- A slice that can be read: its elements' cells, one after the other. -/
def Rd (w : World) (size : Nat) (v : Value) (n : Nat) (xs : List Value) : Prop :=
  xs.length = n * size ∧ ∃ a cap, v = .slice a n cap ∧ n ≤ cap ∧ (n ≠ 0 → ∃ ad, a = some ad ∧ ∀ j u, xs[j]? = some u → w.cell? (ad.add j) = some u)

theorem Rd.of_own {w : World} {B e size n : Nat} {v : Value} {xs : List Value} (h : w.ownsRow B e size v n xs) : Rd w size v n xs := by
  refine ⟨h.1, ?_⟩
  rcases h.2 with ⟨rfl, rfl⟩ | ⟨g, cap, cur, rfl, hb, hg, hn, hc, hs, ht⟩
  · exact ⟨none, 0, rfl, Nat.le_refl _, fun h => absurd rfl h⟩
  · exact ⟨some ⟨g, 0, none⟩, cap, rfl, hn, fun _ => ⟨_, rfl, h.cells rfl⟩⟩

theorem Rd.below {w w' : World} {size n : Nat} {v : Value} {xs : List Value} (h : Rd w size v n xs) (hb : Below w.heap.size w w') (hs : 0 < size) : Rd w' size v n xs := by
  obtain ⟨h1, a, cap, rfl, h2, h3⟩ := h
  refine ⟨h1, a, cap, rfl, h2, fun h => ?_⟩
  obtain ⟨ad, rfl, h4⟩ := h3 h
  refine ⟨ad, rfl, fun j u hu => ?_⟩
  have hc := h4 j u hu
  rw [hb.cell (World.block_lt_of_cell? w _ hc), hc]

/-- The first k elements. -/
theorem Rd.take {w : World} {size n k cap : Nat} {a : Option Addr} {xs : List Value} (h : Rd w size (.slice a n cap) n xs) (hk : k ≤ n) : Rd w size (.slice a k cap) k (xs.take (k * size)) := by
  obtain ⟨h1, a', cap', he, h2, h3⟩ := h
  simp only [Value.slice.injEq, true_and] at he
  obtain ⟨rfl, rfl⟩ := he
  refine ⟨?_, a, cap, rfl, by omega, fun h => ?_⟩
  · rw [List.length_take, h1]
    exact Nat.min_eq_left (Nat.mul_le_mul_right _ hk)
  · obtain ⟨ad, rfl, h4⟩ := h3 (by omega)
    refine ⟨ad, rfl, fun j u hu => h4 j u ?_⟩
    rw [List.getElem?_take] at hu
    split at hu
    · exact hu
    · cases hu

theorem Below.of_grown {w w' : World} {B : Nat} {row : Option Nat} (h : w.grownBy w' row) (hB : B ≤ w.heap.size) (hr : ∀ k, row = some k → B ≤ k) : Below B w w' :=
  (Below.refl B w).grown h hB hr

/-- What was there before is as it was, but for the blocks of S. -/
structure Chg (S : Nat → Prop) (w w' : World) : Prop where
  os : w'.os = w.os
  tape : w'.tape = w.tape
  output : w'.output = w.output
  size : w.heap.size ≤ w'.heap.size
  block : ∀ k, k < w.heap.size → ¬ S k → w'.heap[k]? = w.heap[k]?
theorem Chg.refl (S : Nat → Prop) (w : World) : Chg S w w := ⟨rfl, rfl, rfl, Nat.le_refl _, fun _ _ _ => rfl⟩
theorem Chg.trans {S : Nat → Prop} {a b c : World} (h : Chg S a b) (k : Chg S b c) : Chg S a c :=
  ⟨k.os.trans h.os, k.tape.trans h.tape, k.output.trans h.output, Nat.le_trans h.size k.size, fun i hi hs => (k.block i (Nat.lt_of_lt_of_le hi h.size) hs).trans (h.block i hi hs)⟩
/-- What follows may also change what is new. -/
theorem Chg.next {S T : Nat → Prop} {a b c : World} (h : Chg S a b) (k : Chg T b c) (hT : ∀ i, i < a.heap.size → T i → S i) : Chg S a c :=
  ⟨k.os.trans h.os, k.tape.trans h.tape, k.output.trans h.output, Nat.le_trans h.size k.size, fun i hi hs => (k.block i (Nat.lt_of_lt_of_le hi h.size) (fun t => hs (hT i hi t))).trans (h.block i hi hs)⟩
theorem Chg.mono {S T : Nat → Prop} {w w' : World} (h : Chg S w w') (hT : ∀ i, i < w.heap.size → S i → T i) : Chg T w w' :=
  ⟨h.os, h.tape, h.output, h.size, fun i hi ht => h.block i hi fun s => ht (hT i hi s)⟩
theorem Chg.drew {S : Nat → Prop} {a w : World} (h : Chg S a w) : Chg S a w.drew := ⟨h.os, h.tape, h.output, h.size, h.block⟩
theorem Chg.alloc {S : Nat → Prop} {a w : World} (h : Chg S a w) (o : Obj) : Chg S a (w.alloc o) :=
  ⟨h.os, h.tape, h.output, by have := h.size; simp; omega, fun k hk hs => (Below.heap_alloc w o k (Nat.lt_of_lt_of_le hk h.size)).trans (h.block k hk hs)⟩
theorem Chg.setCell {S : Nat → Prop} {a w : World} (h : Chg S a w) (p : Addr) (v : Value) (hp : p.block < a.heap.size → S p.block) : Chg S a (w.setCell p v) :=
  have b := (Below.refl 0 w).setCell (p := p) (Nat.zero_le _) v
  ⟨b.os.trans h.os, b.tape.trans h.tape, b.output.trans h.output, Nat.le_trans h.size b.size, fun k hk hs => (Below.heap_setCell w p v k (by rintro rfl; exact hs (hp hk))).trans (h.block k hk hs)⟩
theorem Chg.grown {S : Nat → Prop} {a w w' : World} {row : Option Nat} (h : Chg S a w) (hg : w.grownBy w' row) (hr : ∀ k, row = some k → k < a.heap.size → S k) : Chg S a w' :=
  ⟨hg.os.trans h.os, hg.tape.trans h.tape, hg.output.trans h.output, Nat.le_trans h.size hg.size,
    fun k hk hs => (hg.block k (Nat.lt_of_lt_of_le hk h.size) (fun e => hs (hr k e.symm hk))).trans (h.block k hk hs)⟩
theorem Chg.below {S : Nat → Prop} {w w' : World} {B : Nat} (h : Chg S w w') (hB : B ≤ w.heap.size) (hS : ∀ k, k < B → ¬ S k) : Below B w w' :=
  ⟨h.os, h.tape, h.output, h.size, fun k hk => h.block k (Nat.lt_of_lt_of_le hk hB) (hS k hk)⟩
theorem Chg.of_below {S : Nat → Prop} {w w' : World} (h : Below w.heap.size w w') : Chg S w w' := ⟨h.os, h.tape, h.output, h.size, fun k hk _ => h.block k hk⟩
theorem Chg.cell {S : Nat → Prop} {w w' : World} (h : Chg S w w') {p : Addr} {v : Value} (hc : w.cell? p = some v) (hp : ¬ S p.block) : w'.cell? p = some v :=
  (World.cell?_of_block (h.block p.block (World.block_lt_of_cell? w p hc) hp)).trans hc
theorem Chg.frozen {S : Nat → Prop} {w w' : World} (h : Chg S w w') {p : Addr} (hl : p.block < w.heap.size) (hp : ¬ S p.block) : w'.frozen? p = w.frozen? p :=
  World.frozen?_of_block (h.block p.block hl hp)
theorem Chg.own {S : Nat → Prop} {w w' : World} (h : Chg S w w') {B e size n : Nat} {v : Value} {xs : List Value} (hv : w.ownsRow B e size v n xs) (hS : ∀ k, v.ownBlock = some k → ¬ S k) : w'.ownsRow B e size v n xs := by
  refine ⟨hv.1, hv.2.imp id ?_⟩
  rintro ⟨g, cap, cur, rfl, h2, h3, h4⟩
  refine ⟨g, cap, cur, rfl, h2, (h.block g ?_ (hS g rfl)).trans h3, h4⟩
  rcases Nat.lt_or_ge g w.heap.size with hlt | hge
  · exact hlt
  · rw [Array.getElem?_eq_none hge] at h3; cases h3
theorem Chg.rd {S : Nat → Prop} {w w' : World} (h : Chg S w w') {size n : Nat} {a : Option Addr} {cap : Nat} {xs : List Value} (hv : Rd w size (.slice a n cap) n xs) (hS : ∀ p, a = some p → ¬ S p.block) : Rd w' size (.slice a n cap) n xs := by
  obtain ⟨h1, a', cap', he, h2, h3⟩ := hv
  simp only [Value.slice.injEq, true_and] at he
  obtain ⟨rfl, rfl⟩ := he
  refine ⟨h1, a, cap, rfl, h2, fun hn => ?_⟩
  obtain ⟨ad, rfl, h4⟩ := h3 hn
  refine ⟨ad, rfl, fun j u hu => h.cell (h4 j u hu) ?_⟩
  rw [show (ad.add j).block = ad.block by unfold Addr.add; split <;> rfl]
  exact hS ad rfl

/-- Nothing was written or made; the order may have been drawn. -/
def Still (w w' : World) : Prop := ∀ B, Below B w w'
theorem Still.refl (w : World) : Still w w := fun B => Below.refl B w
theorem Still.trans {a b c : World} (h : Still a b) (k : Still b c) : Still a c := fun B => (h B).trans (k B)
theorem Still.drew {a w : World} (h : Still a w) : Still a w.drew := fun B => (h B).drew
theorem Still.cell {w w' : World} (h : Still w w') (p : Addr) : w'.cell? p = w.cell? p := (h (p.block + 1)).cell (Nat.lt_succ_self _)
theorem Still.heap {w w' : World} (h : Still w w') (k : Nat) : w'.heap[k]? = w.heap[k]? := (h (k + 1)).block k (Nat.lt_succ_self _)
theorem Still.size {w w' : World} (h : Still w w') : w'.heap.size = w.heap.size := by
  refine Nat.le_antisymm ?_ (h 0).size
  apply Nat.le_of_not_lt
  intro hlt
  have := h.heap w.heap.size
  rw [Array.getElem?_eq_getElem hlt, Array.getElem?_eq_none (Nat.le_refl _)] at this
  cases this
theorem Still.own {w w' : World} (h : Still w w') {B e size n : Nat} {v : Value} {xs : List Value} (hv : w.ownsRow B e size v n xs) : w'.ownsRow B e size v n xs := by
  refine ⟨hv.1, hv.2.imp id ?_⟩
  rintro ⟨g, cap, cur, h1, h2, h3, h4⟩
  exact ⟨g, cap, cur, h1, h2, (h.heap g).trans h3, h4⟩
theorem Still.rd {w w' : World} (h : Still w w') {size n : Nat} {v : Value} {xs : List Value} (hv : Rd w size v n xs) : Rd w' size v n xs := by
  obtain ⟨h1, a, cap, rfl, h2, h3⟩ := hv
  refine ⟨h1, a, cap, rfl, h2, fun hn => ?_⟩
  obtain ⟨ad, rfl, h4⟩ := h3 hn
  exact ⟨ad, rfl, fun j u hu => (h.cell _).trans (h4 j u hu)⟩

section
variable {P : Program} {w : World} {K : Value → World → Prop}

theorem callW_mono {f : Value} {args : List Value} {K K' : Value → World → Prop} (h : callW P f args w K) (hk : ∀ v w', K v w' → K' v w') : callW P f args w K' := by
  cases f with
  | func g a b => cases g with
    | func n => exact ⟨h.1, h.2.mono hk⟩
    | _ => exact h.elim
  | _ => exact h.elim

/-- append, of cells that can be read, onto a row of one's own. -/
theorem rawB_append {t ty e size bytes : Nat} {z : Value} {cs : Array Bool} {base n m c : Nat} {v : Value} {xs news : List Value} {ad : Addr}
    (hm : mkI P t = some (e, size, bytes, z)) (hzs : z.cells.size = size) (hsz : 0 < size)
    (hown : w.ownsRow base e size v n xs) (hl : news.length = m * size) (hnews : ∀ j u, news[j]? = some u → w.cell? (ad.add j) = some u)
    (h1 : ∀ u ∈ news, u.oneCell' = true) (h0 : 0 < m) (hbytes : (n + m) * bytes ≤ 140737488355328) (h63 : n + m ≤ 9223372036854775807) (hbase : base ≤ w.heap.size)
    (hK : ∀ g cap w', w'.ownsRow base e size (.slice (some ⟨g, 0, none⟩) (n + m) cap) (n + m) (xs ++ news) → w.grownBy w' v.ownBlock → (v.ownBlock = some g ∨ g = w.heap.size) → g < w'.heap.size →
      K (.slice (some ⟨g, 0, none⟩) (n + m) cap) w') :
    rawB P .append #[t, t] ty cs [v, .slice (some ad) m c] w K := by
  obtain ⟨i, hu, hi, hzz, hsi, hby⟩ := mkI_some hm
  obtain ⟨g, cap, w', hr, h2, h3, h4, h5⟩ := run_append_lies (P := P) w t ty base e i z size bytes hu hi hzz hsi.symm hby.symm hzs hsz v n xs hown ad m c news hl hnews h1 h0 (by have : maxLen = 9223372036854775807 := (by decide); omega) hbytes hbase w.heap.size rfl
  refine ⟨_, w', ?_, hK g cap w' h2 h3 h4 h5⟩
  simp only [builtin, Sem.run_bind, hr, Result.andThen_ok, Sem.run_pure]

/-- append of nothing. -/
theorem rawB_append_nil {t ty e size bytes : Nat} {z : Value} {cs : Array Bool} {v : Value} {a : Option Addr} {n cap c : Nat}
    (hm : mkI P t = some (e, size, bytes, z)) (hle : n ≤ cap)
    (hK : K (.slice a n cap) w) : rawB P .append #[t, t] ty cs [.slice a n cap, .slice none 0 c] w K := by
  obtain ⟨i, hu, hi, hzz, hsi, hby⟩ := mkI_some hm
  refine ⟨_, w, ?_, hK⟩
  cases a <;> simp [builtin, Builtin.append_, run_underlying hu, sizeOf, typeInfo, hi, Builtin.lenOf, Builtin.firstCells, loadCells, loadCellsFrom, hle, storeCells]
end
end Go.Ann
