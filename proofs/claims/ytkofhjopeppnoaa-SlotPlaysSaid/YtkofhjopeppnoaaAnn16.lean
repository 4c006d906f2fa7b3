/- An engine for walks. Part 16: slices that are read, slices that the walk owns, append. -/
import Derived.Test.YtkofhjopeppnoaaAnn14
import Derived.Deep.AppendLies
import Derived.Deep.DeepAppendWide
import Derived.Laws.Tables
namespace Go.Ann
set_option linter.unusedSimpArgs false
open Go Go.RowKit
set_option linter.unusedVariables false

theorem and_one_u64 (x : Int) (h0 : 0 ≤ x) (h1 : x ≤ 18446744073709551615) : bits .and .u64 x 1 = x % 2 := by
  obtain ⟨a, rfl⟩ := Int.eq_ofNat_of_zero_le h0
  have e : (BitVec.ofInt 64 (a : Int) &&& BitVec.ofInt 64 1).toNat = a % 2 := by
    rw [BitVec.toNat_and]
    have h2 : (BitVec.ofInt 64 (a : Int)).toNat = a := by
      rw [BitVec.ofInt_natCast, BitVec.toNat_ofNat]; exact Nat.mod_eq_of_lt (by omega)
    have h3 : (BitVec.ofInt 64 1).toNat = 1 := by decide
    rw [h2, h3, Nat.and_one_is_mod]
  show IntKind.u64.wrap (((BitVec.ofInt 64 (a : Int) &&& BitVec.ofInt 64 1).toNat : Nat) : Int) = _
  rw [e, wrap_u64_id _ (by omega) (by omega)]
  omega
theorem and_63_i64 (k : Nat) (h1 : (k : Int) ≤ 9223372036854775807) : bits .and .i64 (k : Int) 63 = ((k % 64 : Nat) : Int) := by
  have e : (BitVec.ofInt 64 (k : Int) &&& BitVec.ofInt 64 63).toNat = k % 64 := by
    rw [BitVec.toNat_and]
    have h2 : (BitVec.ofInt 64 (k : Int)).toNat = k := by
      rw [BitVec.ofInt_natCast, BitVec.toNat_ofNat]; exact Nat.mod_eq_of_lt (by omega)
    have h3 : (BitVec.ofInt 64 63).toNat = 2 ^ 6 - 1 := by decide
    rw [h2, h3, Nat.and_two_pow_sub_one_eq_mod]
  show IntKind.i64.wrap (((BitVec.ofInt 64 (k : Int) &&& BitVec.ofInt 64 63).toNat : Nat) : Int) = _
  rw [e]
  have hm := Nat.mod_lt k (show 64 > 0 by decide)
  simp only [IntKind.wrap, IntKind.signed, IntKind.bits]
  simp
  omega

/-- A slice that can be read: its elements' cells, one after the other. -/
def Rd (w : World) (size : Nat) (v : Value) (n : Nat) (xs : List Value) : Prop :=
  xs.length = n * size ∧ ∃ a cap, v = .slice a n cap ∧ n ≤ cap ∧ (n ≠ 0 → ∃ ad, a = some ad ∧ ∀ j u, xs[j]? = some u → w.cell? (ad.add j) = some u)

theorem Rd.of_own {w : World} {B e size n : Nat} {v : Value} {xs : List Value} (h : w.ownsRow B e size v n xs) : Rd w size v n xs := by
  refine ⟨h.1, ?_⟩
  rcases h.2 with ⟨rfl, rfl⟩ | ⟨g, cap, cur, rfl, hb, hg, hn, hc, hs, ht⟩
  · exact ⟨none, 0, rfl, Nat.le_refl _, fun h => absurd rfl h⟩
  · exact ⟨some ⟨g, 0, none⟩, cap, rfl, hn, fun _ => ⟨_, rfl, h.cells rfl⟩⟩

theorem Rd.below {w w' : World} {size n : Nat} {v : Value} {xs : List Value} (h : Rd w size v n xs) (hb : Below w.heap.size w w') (hs : 0 < size) : Rd w' size v n xs := by
  obtain ⟨h1, a, cap, rfl, h2, h3⟩ := h
  refine ⟨h1, a, cap, rfl, h2, fun h => ?_⟩
  obtain ⟨ad, rfl, h4⟩ := h3 h
  refine ⟨ad, rfl, fun j u hu => ?_⟩
  have hc := h4 j u hu
  rw [hb.cell (World.block_lt_of_cell? w _ hc), hc]

/-- The first k elements. -/
theorem Rd.take {w : World} {size n k cap : Nat} {a : Option Addr} {xs : List Value} (h : Rd w size (.slice a n cap) n xs) (hk : k ≤ n) : Rd w size (.slice a k cap) k (xs.take (k * size)) := by
  obtain ⟨h1, a', cap', he, h2, h3⟩ := h
  simp only [Value.slice.injEq, true_and] at he
  obtain ⟨rfl, rfl⟩ := he
  refine ⟨?_, a, cap, rfl, by omega, fun h => ?_⟩
  · rw [List.length_take, h1]
    exact Nat.min_eq_left (Nat.mul_le_mul_right _ hk)
  · obtain ⟨ad, rfl, h4⟩ := h3 (by omega)
    refine ⟨ad, rfl, fun j u hu => h4 j u ?_⟩
    rw [List.getElem?_take] at hu
    split at hu
    · exact hu
    · cases hu

theorem Below.of_grown {w w' : World} {B : Nat} {row : Option Nat} (h : w.grownBy w' row) (hB : B ≤ w.heap.size) (hr : ∀ k, row = some k → B ≤ k) : Below B w w' :=
  (Below.refl B w).grown h hB hr

/-- What was there before is as it was, but for the blocks of S. -/
structure Chg (S : Nat → Prop) (w w' : World) : Prop where
  os : w'.os = w.os
  tape : w'.tape = w.tape
  output : w'.output = w.output
  size : w.heap.size ≤ w'.heap.size
  block : ∀ k, k < w.heap.size → ¬ S k → w'.heap[k]? = w.heap[k]?
theorem Chg.refl (S : Nat → Prop) (w : World) : Chg S w w := ⟨rfl, rfl, rfl, Nat.le_refl _, fun _ _ _ => rfl⟩
theorem Chg.trans {S : Nat → Prop} {a b c : World} (h : Chg S a b) (k : Chg S b c) : Chg S a c :=
  ⟨k.os.trans h.os, k.tape.trans h.tape, k.output.trans h.output, Nat.le_trans h.size k.size, fun i hi hs => (k.block i (Nat.lt_of_lt_of_le hi h.size) hs).trans (h.block i hi hs)⟩
/-- What follows may also change what is new. -/
theorem Chg.next {S T : Nat → Prop} {a b c : World} (h : Chg S a b) (k : Chg T b c) (hT : ∀ i, i < a.heap.size → T i → S i) : Chg S a c :=
  ⟨k.os.trans h.os, k.tape.trans h.tape, k.output.trans h.output, Nat.le_trans h.size k.size, fun i hi hs => (k.block i (Nat.lt_of_lt_of_le hi h.size) (fun t => hs (hT i hi t))).trans (h.block i hi hs)⟩
theorem Chg.mono {S T : Nat → Prop} {w w' : World} (h : Chg S w w') (hT : ∀ i, i < w.heap.size → S i → T i) : Chg T w w' :=
  ⟨h.os, h.tape, h.output, h.size, fun i hi ht => h.block i hi fun s => ht (hT i hi s)⟩
theorem Chg.drew {S : Nat → Prop} {a w : World} (h : Chg S a w) : Chg S a w.drew := ⟨h.os, h.tape, h.output, h.size, h.block⟩
theorem Chg.alloc {S : Nat → Prop} {a w : World} (h : Chg S a w) (o : Obj) : Chg S a (w.alloc o) :=
  ⟨h.os, h.tape, h.output, by have := h.size; simp; omega, fun k hk hs => (Below.heap_alloc w o k (Nat.lt_of_lt_of_le hk h.size)).trans (h.block k hk hs)⟩
theorem Chg.setCell {S : Nat → Prop} {a w : World} (h : Chg S a w) (p : Addr) (v : Value) (hp : p.block < a.heap.size → S p.block) : Chg S a (w.setCell p v) :=
  have b := (Below.refl 0 w).setCell (p := p) (Nat.zero_le _) v
  ⟨b.os.trans h.os, b.tape.trans h.tape, b.output.trans h.output, Nat.le_trans h.size b.size, fun k hk hs => (Below.heap_setCell w p v k (by rintro rfl; exact hs (hp hk))).trans (h.block k hk hs)⟩
theorem Chg.grown {S : Nat → Prop} {a w w' : World} {row : Option Nat} (h : Chg S a w) (hg : w.grownBy w' row) (hr : ∀ k, row = some k → k < a.heap.size → S k) : Chg S a w' :=
  ⟨hg.os.trans h.os, hg.tape.trans h.tape, hg.output.trans h.output, Nat.le_trans h.size hg.size,
    fun k hk hs => (hg.block k (Nat.lt_of_lt_of_le hk h.size) (fun e => hs (hr k e.symm hk))).trans (h.block k hk hs)⟩
theorem Chg.below {S : Nat → Prop} {w w' : World} {B : Nat} (h : Chg S w w') (hB : B ≤ w.heap.size) (hS : ∀ k, k < B → ¬ S k) : Below B w w' :=
  ⟨h.os, h.tape, h.output, h.size, fun k hk => h.block k (Nat.lt_of_lt_of_le hk hB) (hS k hk)⟩
theorem Chg.of_below {S : Nat → Prop} {w w' : World} (h : Below w.heap.size w w') : Chg S w w' := ⟨h.os, h.tape, h.output, h.size, fun k hk _ => h.block k hk⟩
theorem Chg.cell {S : Nat → Prop} {w w' : World} (h : Chg S w w') {p : Addr} {v : Value} (hc : w.cell? p = some v) (hp : ¬ S p.block) : w'.cell? p = some v :=
  (World.cell?_of_block (h.block p.block (World.block_lt_of_cell? w p hc) hp)).trans hc
theorem Chg.frozen {S : Nat → Prop} {w w' : World} (h : Chg S w w') {p : Addr} (hl : p.block < w.heap.size) (hp : ¬ S p.block) : w'.frozen? p = w.frozen? p :=
  World.frozen?_of_block (h.block p.block hl hp)
theorem Chg.own {S : Nat → Prop} {w w' : World} (h : Chg S w w') {B e size n : Nat} {v : Value} {xs : List Value} (hv : w.ownsRow B e size v n xs) (hS : ∀ k, v.ownBlock = some k → ¬ S k) : w'.ownsRow B e size v n xs := by
  refine ⟨hv.1, hv.2.imp id ?_⟩
  rintro ⟨g, cap, cur, rfl, h2, h3, h4⟩
  refine ⟨g, cap, cur, rfl, h2, (h.block g ?_ (hS g rfl)).trans h3, h4⟩
  rcases Nat.lt_or_ge g w.heap.size with hlt | hge
  · exact hlt
  · rw [Array.getElem?_eq_none hge] at h3; cases h3
theorem Chg.rd {S : Nat → Prop} {w w' : World} (h : Chg S w w') {size n : Nat} {a : Option Addr} {cap : Nat} {xs : List Value} (hv : Rd w size (.slice a n cap) n xs) (hS : ∀ p, a = some p → ¬ S p.block) : Rd w' size (.slice a n cap) n xs := by
  obtain ⟨h1, a', cap', he, h2, h3⟩ := hv
  simp only [Value.slice.injEq, true_and] at he
  obtain ⟨rfl, rfl⟩ := he
  refine ⟨h1, a, cap, rfl, h2, fun hn => ?_⟩
  obtain ⟨ad, rfl, h4⟩ := h3 hn
  refine ⟨ad, rfl, fun j u hu => h.cell (h4 j u hu) ?_⟩
  rw [show (ad.add j).block = ad.block by unfold Addr.add; split <;> rfl]
  exact hS ad rfl

/-- Nothing was written or made; the order may have been drawn. -/
def Still (w w' : World) : Prop := ∀ B, Below B w w'
theorem Still.refl (w : World) : Still w w := fun B => Below.refl B w
theorem Still.trans {a b c : World} (h : Still a b) (k : Still b c) : Still a c := fun B => (h B).trans (k B)
theorem Still.drew {a w : World} (h : Still a w) : Still a w.drew := fun B => (h B).drew
theorem Still.cell {w w' : World} (h : Still w w') (p : Addr) : w'.cell? p = w.cell? p := (h (p.block + 1)).cell (Nat.lt_succ_self _)
theorem Still.heap {w w' : World} (h : Still w w') (k : Nat) : w'.heap[k]? = w.heap[k]? := (h (k + 1)).block k (Nat.lt_succ_self _)
theorem Still.size {w w' : World} (h : Still w w') : w'.heap.size = w.heap.size := by
  refine Nat.le_antisymm ?_ (h 0).size
  apply Nat.le_of_not_lt
  intro hlt
  have := h.heap w.heap.size
  rw [Array.getElem?_eq_getElem hlt, Array.getElem?_eq_none (Nat.le_refl _)] at this
  cases this
theorem Still.own {w w' : World} (h : Still w w') {B e size n : Nat} {v : Value} {xs : List Value} (hv : w.ownsRow B e size v n xs) : w'.ownsRow B e size v n xs := by
  refine ⟨hv.1, hv.2.imp id ?_⟩
  rintro ⟨g, cap, cur, h1, h2, h3, h4⟩
  exact ⟨g, cap, cur, h1, h2, (h.heap g).trans h3, h4⟩
theorem Still.rd {w w' : World} (h : Still w w') {size n : Nat} {v : Value} {xs : List Value} (hv : Rd w size v n xs) : Rd w' size v n xs := by
  obtain ⟨h1, a, cap, rfl, h2, h3⟩ := hv
  refine ⟨h1, a, cap, rfl, h2, fun hn => ?_⟩
  obtain ⟨ad, rfl, h4⟩ := h3 hn
  exact ⟨ad, rfl, fun j u hu => (h.cell _).trans (h4 j u hu)⟩

theorem add_add (a : Addr) (m n : Nat) : (a.add m).add n = a.add (m + n) := by
  unfold Addr.add
  by_cases hm : m = 0
  · subst hm; simp
  · by_cases hn : n = 0
    · subst hn; simp
    · rw [if_neg hm, if_neg hn, if_neg (by omega)]
      simp [Nat.add_assoc]
/-- The cells of values of several cells each, one after the other. -/
theorem flat_get {α : Type} (enc : α → List Value) (sz : Nat) (h : ∀ a, (enc a).length = sz) : ∀ (els : List α) (k i : Nat), i < sz → (els.flatMap enc)[k * sz + i]? = (els[k]?).bind fun a => (enc a)[i]?
  | [], k, i, _ => by simp
  | a :: els, 0, i, hi => by
    rw [List.flatMap_cons, Nat.zero_mul, Nat.zero_add, List.getElem?_append_left (by rw [h]; exact hi)]
    rfl
  | a :: els, k + 1, i, hi => by
    have e : (k + 1) * sz + i = sz + (k * sz + i) := by rw [Nat.add_mul]; omega
    rw [List.flatMap_cons, e, List.getElem?_append_right (by rw [h]; omega), h, Nat.add_sub_cancel_left, flat_get enc sz h els k i hi]
    rfl
theorem cellsAt_flat {α : Type} {enc : α → List Value} {sz : Nat} (h : ∀ a, (enc a).length = sz) {els : List α} {w : World} {ad : Addr} {k : Nat} {a : α}
    (hcell : ∀ j u, (els.flatMap enc)[j]? = some u → w.cell? (ad.add j) = some u) (hk : els[k]? = some a) : cellsAt w (ad.add (k * sz)) (enc a) := by
  intro i v hv
  rw [add_add]
  refine hcell _ _ ?_
  have hi : i < sz := by
    have := (List.getElem?_eq_some_iff.1 hv).1
    rwa [h] at this
  rw [flat_get enc sz h els k i hi, hk]
  exact hv
theorem flat_length {α : Type} (enc : α → List Value) (sz : Nat) (h : ∀ a, (enc a).length = sz) : ∀ els : List α, (els.flatMap enc).length = els.length * sz
  | [] => by simp
  | a :: els => by rw [List.flatMap_cons, List.length_append, h, flat_length enc sz h els, List.length_cons, Nat.add_mul]; omega
theorem cellsAt.below {w w' : World} {p : Addr} {cs : List Value} (h : cellsAt w p cs) (hb : Below w.heap.size w w') : cellsAt w' p cs := by
  intro i v hv
  have hc := h i v hv
  rw [hb.cell (World.block_lt_of_cell? w _ hc), hc]

/-- Bytes just made are noughts. -/
theorem bytesAt_new (w : World) (n : Nat) (e : Nat) : bytesAt (w.alloc (.cells (zerosA (.int .u8 0) n) e)) (some ⟨w.heap.size, 0, none⟩) (List.replicate n 0) := by
  intro i b h
  simp only [Addr.add_lit, Nat.zero_add]
  obtain ⟨hi, hb⟩ := List.getElem?_eq_some_iff.1 h
  simp only [List.length_replicate] at hi
  simp only [List.getElem_replicate] at hb
  subst hb
  rw [World.cell?_alloc_at _ _ _ _ rfl]
  simp [zerosA, hi]
theorem Below.next {a b c : World} (h : Below a.heap.size a b) (k : Below b.heap.size b c) : Below a.heap.size a c := h.trans (k.mono h.size)

section
variable {P : Program} {w : World} {K : Value → World → Prop}

theorem setCells_new (n : Nat) (hn : n = w.heap.size) (t : TypeId) : ∀ (vs : List Value) (k : Nat) (z : Array Value), setCellsW (w.alloc (.cells z t)) ⟨n, 0, none⟩ k vs = w.alloc (.cells (setFrom z k vs) t)
  | [], _, _ => rfl
  | v :: vs, k, z => by
    rw [setCellsW, Addr.add_lit, Nat.zero_add, World.setCell_alloc_at (hn := hn), setCells_new n hn t vs (k + 1)]
    rfl
/-- A variable just made, and written whole. -/
theorem storeW_new {n : Nat} {t t' : TypeId} {z : Array Value} {v : Value} (hn : n = w.heap.size) (hz : sizeT P t = some v.cells.size) (hs : z.size = v.cells.size) (h1 : ∀ u ∈ v.cells.toList, u.oneCell' = true)
    (hK : K undef (w.alloc (.cells v.cells t'))) : storeW P t ⟨n, 0, none⟩ v (w.alloc (.cells z t')) K := by
  refine ⟨hz, h1, fun i hi => ⟨?_, ?_⟩, ?_⟩
  · rw [Addr.add_lit, Nat.zero_add, World.cell?_alloc_at (hn := hn)]
    exact ⟨z[i]'(by omega), Array.getElem?_eq_getElem (by omega)⟩
  · rw [Addr.add_lit, World.frozen?_alloc_at (hn := hn)]
  · rw [setCells_new n hn t' _ 0 z, setFrom_all _ _ (by simpa using hs)]
    simpa using hK
theorem fold_set (off : Nat) : ∀ (l : List Value) (k : Nat) (acc : Array Value), (l.zipIdx k).foldl (fun cs (x : Value × Nat) => cs.setIfInBounds (off + x.2) x.1) acc = setFrom acc (off + k) l
  | [], _, _ => rfl
  | v :: l, k, acc => by
    rw [List.zipIdx_cons, List.foldl_cons, fold_set off l (k + 1)]
    rfl
theorem fill_whole {cs z : Array Value} {size : Nat} (hz : z.size = cs.size) (hs : cs.size = size) : Instr.fill (fun i => some (i * size, size)) z [(0, .agg cs)] = some cs := by
  have hc : (Value.agg cs).cells = cs := rfl
  simp only [Instr.fill, hc, Nat.zero_mul, hs, ne_eq, not_true, decide_false, Bool.false_or]
  rw [if_neg (by simp; omega)]
  have := fold_set 0 cs.toList 0 z
  rw [setFrom_all _ _ (by simpa using hz)] at this
  simp only [Option.some.injEq]
  rw [← Array.foldl_toList, Array.toList_zipIdx]
  simpa using this
/-- A slice of one struct, written out. -/
theorem bsW_agg {t e size bytes : Nat} {z : Value} {cs : Array Value} (hm : mkI P t = some (e, size, bytes, z)) (hs : cs.size = size) (h0 : size ≤ 16777216) (h1 : size ≠ 0)
    (hK : K (.slice (some ⟨w.heap.size, 0, none⟩) 1 1) (w.alloc (.cells cs e))) : bsW P t 1 [0] [.agg cs] w K :=
  bsW_cells hm (by omega) (by omega) (fill_whole (by simp [size_madeCells, hs]) hs) hK
theorem bdW_built {t : TypeId} {is : List Nat} {vs : List Value} {cells : Array Value} (h : P.built t (zipP is vs) = some cells) (hK : K (.agg cells) w) : bdW P t is vs w K :=
  ⟨_, _, run_build w t (zipP is vs).toArray cells (by simpa using h), hK⟩
theorem callW_mono {f : Value} {args : List Value} {K K' : Value → World → Prop} (h : callW P f args w K) (hk : ∀ v w', K v w' → K' v w') : callW P f args w K' := by
  cases f with
  | func g a b => cases g with
    | func n => exact ⟨h.1, h.2.mono hk⟩
    | yield l =>
      obtain ⟨h1, h2, fn, tmps, as, bd, hr, hR⟩ := h
      exact ⟨h1, h2, fn, tmps, as, bd, hr, RoundIn.mono hR fun e w' ⟨v, he, hv⟩ => ⟨v, he, hk v w' hv⟩⟩
    | _ => exact h.elim
  | _ => exact h.elim

/-- append, of cells that can be read, onto a row of one's own. -/
theorem rawB_append {t ty e size bytes : Nat} {z : Value} {cs : Array Bool} {base n m c : Nat} {v : Value} {xs news : List Value} {ad : Addr}
    (hm : mkI P t = some (e, size, bytes, z)) (hzs : z.cells.size = size) (hsz : 0 < size)
    (hown : w.ownsRow base e size v n xs) (hl : news.length = m * size) (hnews : ∀ j u, news[j]? = some u → w.cell? (ad.add j) = some u)
    (h1 : ∀ u ∈ news, u.oneCell' = true) (h0 : 0 < m) (hbytes : (n + m) * bytes ≤ 140737488355328) (h63 : n + m ≤ 9223372036854775807) (hbase : base ≤ w.heap.size)
    (hK : ∀ g cap w', w'.ownsRow base e size (.slice (some ⟨g, 0, none⟩) (n + m) cap) (n + m) (xs ++ news) → w.grownBy w' v.ownBlock → (v.ownBlock = some g ∨ g = w.heap.size) → g < w'.heap.size →
      K (.slice (some ⟨g, 0, none⟩) (n + m) cap) w') :
    rawB P .append #[t, t] ty cs [v, .slice (some ad) m c] w K := by
  obtain ⟨i, hu, hi, hzz, hsi, hby⟩ := mkI_some hm
  obtain ⟨g, cap, w', hr, h2, h3, h4, h5⟩ := run_append_lies (P := P) w t ty base e i z size bytes hu hi hzz hsi.symm hby.symm hzs hsz v n xs hown ad m c news hl hnews h1 h0 (by have : maxLen = 9223372036854775807 := (by decide); omega) hbytes hbase w.heap.size rfl
  refine ⟨_, w', ?_, hK g cap w' h2 h3 h4 h5⟩
  simp only [builtin, Sem.run_bind, hr, Result.andThen_ok, Sem.run_pure]

/-- append of nothing. -/
theorem rawB_append_nil {t ty e size bytes : Nat} {z : Value} {cs : Array Bool} {v : Value} {a : Option Addr} {n cap c : Nat}
    (hm : mkI P t = some (e, size, bytes, z)) (hle : n ≤ cap)
    (hK : K (.slice a n cap) w) : rawB P .append #[t, t] ty cs [.slice a n cap, .slice none 0 c] w K := by
  obtain ⟨i, hu, hi, hzz, hsi, hby⟩ := mkI_some hm
  refine ⟨_, w, ?_, hK⟩
  cases a <;> simp [builtin, Builtin.append_, run_underlying hu, sizeOf, typeInfo, hi, Builtin.lenOf, Builtin.firstCells, loadCells, loadCellsFrom, hle, storeCells]

/-- Where a struct's fields lie, and how many cells each has. -/
def plcT (P : Program) (t : TypeId) : Option (List (Nat × Nat)) :=
  match P.underlying t with
  | some (.struct fields) => fields.toList.mapM fun f => (P.info? f.type).map fun i => (f.offset, i.size)
  | _ => none
/-- The parts, each in its place. -/
def fillS (pl : List (Nat × Nat)) : Array Value → List (Nat × Value) → Option (Array Value)
  | cs, [] => some cs
  | cs, (i, v) :: r => match pl[i]? with
    | some (off, size) => if v.cells.size = size ∧ off + size ≤ cs.size then fillS pl (setFrom cs off v.cells.toList) r else none
    | none => none
theorem fillS_fill (pl : List (Nat × Nat)) : ∀ (parts : List (Nat × Value)) (cs cells : Array Value), fillS pl cs parts = some cells → Instr.fill (pl.toArray[·]?) cs parts = some cells
  | [], cs, cells, h => h
  | (i, v) :: r, cs, cells, h => by
    simp only [fillS] at h
    split at h
    · rename_i off size hp
      split at h
      · rename_i hc
        have hp' : pl.toArray[i]? = some (off, size) := by simpa using hp
        simp only [Instr.fill, hp']
        rw [if_neg (by simp; omega)]
        have := fillS_fill pl r _ cells h
        have e : v.cells.zipIdx.foldl (fun cs (x : Value × Nat) => cs.setIfInBounds (off + x.2) x.1) cs = setFrom cs off v.cells.toList := by
          rw [← Array.foldl_toList, Array.toList_zipIdx]
          have := fold_set off v.cells.toList 0 cs
          simpa using this
        rw [← e] at this
        exact this
      · cases h
    · cases h
def bdD (pl : Option (List (Nat × Nat))) (z : Option Value) (parts : List (Nat × Value)) (w : World) (K : Value → World → Prop) : Prop :=
  match pl, z with
  | some pl, some z => (match fillS pl z.cells parts with
    | some cells => K (.agg cells) w
    | none => False)
  | _, _ => False
theorem bdW_go {t : TypeId} {is : List Nat} {vs : List Value} (h : bdD (plcT P t) (zeroT P t) (zipP is vs) w K) : bdW P t is vs w K := by
  unfold bdD at h
  split at h
  · rename_i pl z hpl hz
    split at h
    · rename_i cells hf
      refine bdW_built ?_ h
      unfold plcT at hpl
      unfold zeroT at hz
      split at hpl
      · rename_i fields hu
        split at hz
        · rename_i it hi
          unfold Program.built
          rw [hi, hu]
          simp only [hz, hpl]
          exact fillS_fill pl _ _ _ hf
        · cases hz
      · cases hpl
    · exact h.elim
  · exact h.elim
def fillD (c : Prop) [Decidable c] (a : Option (Array Value)) : Option (Array Value) := if c then a else none
def agW (o : Option (Array Value)) (w : World) (K : Value → World → Prop) : Prop :=
  match o with
  | some cells => K (.agg cells) w
  | none => False
theorem bdD_some {pl : List (Nat × Nat)} {z : Value} {parts : List (Nat × Value)} : bdD (some pl) (some z) parts w K = agW (fillS pl z.cells parts) w K := by
  simp only [bdD, agW]
theorem agW_some {cs : Array Value} : agW (some cs) w K = K (.agg cs) w := rfl
theorem fillS_nil {pl : List (Nat × Nat)} {cs : Array Value} : fillS pl cs [] = some cs := rfl
def plD (o : Option (Nat × Nat)) (f : Nat → Nat → Option (Array Value)) : Option (Array Value) := match o with | some (a, b) => f a b | none => none
theorem plD_some {a b : Nat} {f : Nat → Nat → Option (Array Value)} : plD (some (a, b)) f = f a b := rfl
theorem fillS_cons {pl : List (Nat × Nat)} {cs : Array Value} {i : Nat} {v : Value} {r : List (Nat × Value)} : fillS pl cs ((i, v) :: r) = plD pl[i]? fun off size => if v.cells.size = size ∧ off + size ≤ cs.size then fillS pl (setFrom cs off v.cells.toList) r else none := by
  simp only [fillS, plD]
theorem cells_agg {cs : Array Value} : (Value.agg cs).cells = cs := rfl
theorem cells_int {k : IntKind} {n : Int} : (Value.int k n).cells = #[.int k n] := rfl
theorem cells_bool {b : Bool} : (Value.bool b).cells = #[.bool b] := rfl
theorem cells_string {b : ByteArray} : (Value.string b).cells = #[.string b] := rfl
theorem cells_slice {a : Option Addr} {n c : Nat} : (Value.slice a n c).cells = #[.slice a n c] := rfl
theorem cells_ptr {a : Option Addr} : (Value.pointer a).cells = #[.pointer a] := rfl
theorem cells_map {a : Option Nat} : (Value.map a).cells = #[.map a] := rfl
theorem cells_func {f : Fn} {a c : Array Value} : (Value.func f a c).cells = #[.func f a c] := rfl
theorem cells_nilFunc : Value.nilFunc.cells = #[.nilFunc] := rfl
theorem setFrom_nil {cs : Array Value} {k : Nat} : setFrom cs k [] = cs := rfl
theorem setFrom_cons {cs : Array Value} {k : Nat} {v : Value} {vs : List Value} : setFrom cs k (v :: vs) = setFrom (cs.setIfInBounds k v) (k + 1) vs := rfl
end
attribute [go_sem] bdD_some agW_some fillS_nil plD_some fillS_cons cells_agg cells_int cells_bool cells_string cells_slice cells_ptr cells_map cells_func cells_nilFunc setFrom_nil setFrom_cons
end Go.Ann
