/- An engine for walks. Part 18: reads that are reckoned, worlds that are looked through, loops by the slots that change. -/
import Derived.Test.YtkofhjopeppnoaaAnn17
namespace Go.Ann
open Go Go.RowKit
set_option linter.unusedVariables false
set_option linter.unusedSimpArgs false
section
variable {P : Program} {w : World} {K : Value → World → Prop} {t : TypeId}

/-- A read of one cell, by what the cell holds. -/
def ldO (k : TyK) (o : Option Value) (w : World) (K : Value → World → Prop) : Prop :=
  match k, o with
  | .int k, some (.int k' n) => k = k' ∧ K (.int k' n) w
  | .bool, some (.bool b) => K (.bool b) w
  | .str, some (.string s) => K (.string s) w
  | .slice _ _, some (.slice a n c) => K (.slice a n c) w
  | .ptr, some (.pointer q) => K (.pointer q) w
  | .map, some (.map r) => K (.map r) w
  | .other, some v => K v w
  | _, _ => False
/-- The cells from a place on. -/
def cellsO (w : World) (p : Addr) : Nat → Nat → Option (List Value)
  | _, 0 => some []
  | i, n + 1 => match w.cell? (p.add i), cellsO w p (i + 1) n with
    | some v, some l => some (v :: l)
    | _, _ => none
def ldA (o : Option (List Value)) (w : World) (K : Value → World → Prop) : Prop :=
  match o with
  | some cs => K (.agg cs.toArray) w
  | none => False

theorem ldK_int {k : IntKind} {p : Addr} : loadK (.int k) p w K = ldO (.int k) (w.cell? p) w K := by
  apply propext
  constructor
  · rintro ⟨n, h, hk⟩; rw [h]; exact ⟨rfl, hk⟩
  · intro h
    cases hc : w.cell? p with
    | none => rw [hc] at h; exact h.elim
    | some v =>
      rw [hc] at h
      cases v <;> first | exact h.elim | skip
      obtain ⟨rfl, hk⟩ := h
      exact ⟨_, hc, hk⟩
theorem ldK_bool {p : Addr} : loadK .bool p w K = ldO .bool (w.cell? p) w K := by
  apply propext
  constructor
  · rintro ⟨n, h, hk⟩; rw [h]; exact hk
  · intro h
    cases hc : w.cell? p with
    | none => rw [hc] at h; exact h.elim
    | some v =>
      rw [hc] at h
      cases v <;> first | exact h.elim | exact ⟨_, hc, h⟩
theorem ldK_str {p : Addr} : loadK .str p w K = ldO .str (w.cell? p) w K := by
  apply propext
  constructor
  · rintro ⟨n, h, hk⟩; rw [h]; exact hk
  · intro h
    cases hc : w.cell? p with
    | none => rw [hc] at h; exact h.elim
    | some v =>
      rw [hc] at h
      cases v <;> first | exact h.elim | skip
      rename_i s
      exact ⟨toL s, hc, h⟩
theorem ldK_slice {p : Addr} {b : Bool} {e : TypeId} : loadK (.slice b e) p w K = ldO (.slice b e) (w.cell? p) w K := by
  apply propext
  constructor
  · rintro ⟨a, n, c, h, hk⟩; rw [h]; exact hk
  · intro h
    cases hc : w.cell? p with
    | none => rw [hc] at h; exact h.elim
    | some v =>
      rw [hc] at h
      cases v <;> first | exact h.elim | exact ⟨_, _, _, hc, h⟩
theorem ldK_ptr {p : Addr} : loadK .ptr p w K = ldO .ptr (w.cell? p) w K := by
  apply propext
  constructor
  · rintro ⟨n, h, hk⟩; rw [h]; exact hk
  · intro h
    cases hc : w.cell? p with
    | none => rw [hc] at h; exact h.elim
    | some v =>
      rw [hc] at h
      cases v <;> first | exact h.elim | exact ⟨_, hc, h⟩
theorem ldK_map {p : Addr} : loadK .map p w K = ldO .map (w.cell? p) w K := by
  apply propext
  constructor
  · rintro ⟨n, h, hk⟩; rw [h]; exact hk
  · intro h
    cases hc : w.cell? p with
    | none => rw [hc] at h; exact h.elim
    | some v =>
      rw [hc] at h
      cases v <;> first | exact h.elim | exact ⟨_, hc, h⟩
theorem ldK_other {p : Addr} : loadK .other p w K = ldO .other (w.cell? p) w K := by
  apply propext
  constructor
  · rintro ⟨n, h, hk⟩; rw [h]; exact hk
  · intro h
    cases hc : w.cell? p with
    | none => rw [hc] at h; exact h.elim
    | some v => rw [hc] at h; exact ⟨_, hc, h⟩

theorem cellsO_of {w : World} {p : Addr} : ∀ {n i : Nat} {cs : List Value}, cs.length = n → (∀ j v, cs[j]? = some v → w.cell? (p.add (i + j)) = some v) → cellsO w p i n = some cs
  | 0, i, cs, hl, _ => by
    have : cs = [] := List.eq_nil_of_length_eq_zero hl
    subst this; rfl
  | n + 1, i, [], hl, _ => by simp at hl
  | n + 1, i, c :: cs, hl, h => by
    have h0 := h 0 c rfl
    have hr := cellsO_of (w := w) (p := p) (n := n) (i := i + 1) (cs := cs) (by simpa using hl) (fun j v hv => by
      have := h (j + 1) v (by simpa using hv)
      rwa [show i + 1 + j = i + (j + 1) by omega])
    simp only [Nat.add_zero] at h0
    simp only [cellsO, h0, hr]
theorem of_cellsO {w : World} {p : Addr} : ∀ {n i : Nat} {cs : List Value}, cellsO w p i n = some cs → cs.length = n ∧ ∀ j v, cs[j]? = some v → w.cell? (p.add (i + j)) = some v
  | 0, i, cs, h => by
    simp only [cellsO, Option.some.injEq] at h; subst h
    exact ⟨rfl, fun j v hv => by simp at hv⟩
  | n + 1, i, cs, h => by
    simp only [cellsO] at h
    split at h
    · rename_i v l hv hl
      simp only [Option.some.injEq] at h; subst h
      obtain ⟨h1, h2⟩ := of_cellsO hl
      refine ⟨by simp [h1], fun j u hu => ?_⟩
      match j, hu with
      | 0, hu => simpa using (by simpa using hu) ▸ hv
      | j + 1, hu =>
        have := h2 j u (by simpa using hu)
        rwa [show i + (j + 1) = i + 1 + j by omega]
    · cases h
theorem cellsAt_iff {p : Addr} {cs : List Value} {n : Nat} : (cellsAt w p cs ∧ cs.length = n) ↔ cellsO w p 0 n = some cs := by
  constructor
  · rintro ⟨h1, h2⟩
    exact cellsO_of h2 fun j v hv => by rw [Nat.zero_add]; exact h1 j v hv
  · intro h
    obtain ⟨h1, h2⟩ := of_cellsO h
    exact ⟨fun j v hv => by have := h2 j v hv; rwa [Nat.zero_add] at this, h1⟩
theorem ldK_agg {n : Nat} {p : Addr} : loadK (.agg n) p w K = ldA (cellsO w p 0 n) w K := by
  apply propext
  constructor
  · rintro ⟨cs, h1, h2, hk⟩
    rw [cellsAt_iff.1 ⟨h1, h2⟩]; exact hk
  · intro h
    cases hc : cellsO w p 0 n with
    | none => rw [hc] at h; exact h.elim
    | some cs =>
      rw [hc] at h
      obtain ⟨h1, h2⟩ := cellsAt_iff.2 hc
      exact ⟨cs, h1, h2, h⟩
theorem ldO_int {k : IntKind} {n : Int} : ldO (.int k) (some (.int k n)) w K = K (.int k n) w := by simp [ldO]
theorem ldO_bool {n : Bool} : ldO .bool (some (.bool n)) w K = K (.bool n) w := (rfl)
theorem ldO_str {n : ByteArray} : ldO .str (some (.string n)) w K = K (.string n) w := (rfl)
theorem ldO_slice {b : Bool} {e : TypeId} {a : Option Addr} {n c : Nat} : ldO (.slice b e) (some (.slice a n c)) w K = K (.slice a n c) w := (rfl)
theorem ldO_ptr {q : Option Addr} : ldO .ptr (some (.pointer q)) w K = K (.pointer q) w := (rfl)
theorem ldO_map {q : Option Nat} : ldO .map (some (.map q)) w K = K (.map q) w := (rfl)
theorem ldO_other {v : Value} : ldO .other (some v) w K = K v w := (rfl)
theorem ldA_some {cs : List Value} : ldA (some cs) w K = K (.agg cs.toArray) w := (rfl)
def cellsC (a : Option Value) (b : Option (List Value)) : Option (List Value) :=
  match a, b with
  | some v, some l => some (v :: l)
  | _, _ => none
theorem cellsO_nil {p : Addr} {i : Nat} : cellsO w p i 0 = some [] := rfl
theorem cellsO_cons {b o i n : Nat} : cellsO w ⟨b, o, none⟩ i (n + 1) = cellsC (w.cell? ⟨b, o + i, none⟩) (cellsO w ⟨b, o, none⟩ (i + 1) n) := by
  have : (⟨b, o, none⟩ : Addr).add i = ⟨b, o + i, none⟩ := Addr.add_lit ..
  simp only [cellsO, this, cellsC]
theorem cellsC_some {v : Value} {l : List Value} : cellsC (some v) (some l) = some (v :: l) := rfl

theorem cast0 : ((0 : Nat) : Int) = 0 := rfl
theorem cast1 : ((1 : Nat) : Int) = 1 := rfl
theorem cast_lit (n : Nat) : ((OfNat.ofNat n : Nat) : Int) = OfNat.ofNat n := rfl
/-! ### Looking through worlds. -/
section
variable {a : World} {o : Obj} {cs : Array Value} {b i : Nat} {n : Nat}
theorem cA_new (h : b = w.heap.size) : (w.alloc (.cells cs t)).cell? ⟨b, i, none⟩ = cs[i]? := World.cell?_alloc_at cs t b i h
theorem cA_old (h : b < w.heap.size) : (w.alloc o).cell? ⟨b, i, none⟩ = w.cell? ⟨b, i, none⟩ := World.cell?_alloc_past o b i h
theorem fA_new (h : b = w.heap.size) : (w.alloc (.cells cs t)).frozen? ⟨b, i, none⟩ = false := World.frozen?_alloc_at cs t b i h
theorem fA_old (h : b < w.heap.size) : (w.alloc o).frozen? ⟨b, i, none⟩ = w.frozen? ⟨b, i, none⟩ := World.frozen?_alloc_past o b i h
def setO (o : Option Value) (v : Value) : Option Value :=
  match o with
  | some _ => some v
  | none => none
theorem setO_some {u v : Value} : setO (some u) v = some v := rfl
theorem cS_same {v : Value} {p : Addr} : (w.setCell p v).cell? p = setO (w.cell? p) v := by
  cases h : w.cell? p with
  | some u => rw [World.cell?_setCell_same _ _ _ h]; rfl
  | none =>
    show (w.setCell p v).cell? p = none
    unfold World.cell? World.setCell at *
    simp only [Array.getElem?_modify, if_true]
    cases hb : w.heap[p.block]? with
    | none => rfl
    | some o =>
      rw [hb] at h
      cases o <;> try rfl
      simp only [Option.map_some]
      simp only at h
      by_cases hs : p.spot.isSome = true
      · simp only [hs, if_true]
      · simp only [hs, Bool.false_eq_true, if_false] at h ⊢
        rw [Array.getElem?_setIfInBounds, if_pos rfl, if_neg]
        intro hlt
        rw [Array.getElem?_eq_getElem hlt] at h
        cases h
theorem cS_off {v : Value} {j : Nat} (h : i ≠ j) : (w.setCell ⟨b, i, none⟩ v).cell? ⟨b, j, none⟩ = w.cell? ⟨b, j, none⟩ :=
  World.cell?_setCell_other w _ _ _ (fun e => h (congrArg Addr.off e))
theorem cS_blk {v : Value} {b' j : Nat} (h : b ≠ b') : (w.setCell ⟨b, i, none⟩ v).cell? ⟨b', j, none⟩ = w.cell? ⟨b', j, none⟩ :=
  World.cell?_setCell_other w _ _ _ (fun e => h (congrArg Addr.block e))
theorem cellsO_drew {p : Addr} : ∀ (n i : Nat), cellsO w.drew p i n = cellsO w p i n
  | 0, _ => rfl
  | n + 1, i => by simp only [cellsO, cellsO_drew n, World.cell?_drew]
theorem cell_alloc_old {p : Addr} (h : p.block < w.heap.size) : (w.alloc o).cell? p = w.cell? p := World.cell?_of_block (Below.heap_alloc w o _ h)
theorem cellsO_alloc {p : Addr} (h : p.block < w.heap.size) : ∀ (n i : Nat), cellsO (w.alloc o) p i n = cellsO w p i n
  | 0, _ => rfl
  | n + 1, i => by
    have e : (p.add i).block = p.block := by unfold Addr.add; split <;> rfl
    simp only [cellsO, cellsO_alloc h n, cell_alloc_old (show (p.add i).block < w.heap.size by rw [e]; exact h)]
theorem cA_add {p : Addr} {m : Nat} (h : p.block < w.heap.size) : (w.alloc o).cell? (p.add m) = w.cell? (p.add m) := by
  have e : (p.add m).block = p.block := by unfold Addr.add; split <;> rfl
  exact cell_alloc_old (by rw [e]; exact h)
theorem cS_add {p : Addr} {m : Nat} {v : Value} (h : b ≠ p.block) : (w.setCell ⟨b, i, none⟩ v).cell? (p.add m) = w.cell? (p.add m) := by
  have e : (p.add m).block = p.block := by unfold Addr.add; split <;> rfl
  exact World.cell?_setCell_other w _ _ _ (fun e' => h (by rw [← e, ← e']))
/-- What a block's cells are. -/
def Blk (w : World) (b : Nat) (cs : Array Value) (t : TypeId) : Prop := w.heap[b]? = some (.cells cs t (0, 0))
theorem Blk.cell (h : Blk w b cs t) (i : Nat) : w.cell? ⟨b, i, none⟩ = cs[i]? := by unfold World.cell?; rw [h]; rfl
theorem Blk.frozen (h : Blk w b cs t) (i : Nat) : w.frozen? ⟨b, i, none⟩ = false := by
  unfold World.frozen?; rw [h]; simp
/-- How many cells. -/
def okSize (cs : Array Value) (n : Nat) : Bool := cs.toList.length == n
theorem okSize_t {cs : Array Value} {n : Nat} (h : okSize cs n = true) : okSize cs n = true := h
theorem Blk.all (h : Blk w b cs t) (n : Nat) (hn : okSize cs n = true) : cellsO w ⟨b, 0, none⟩ 0 n = some cs.toList := by
  simp only [okSize, beq_iff_eq] at hn
  refine cellsO_of hn fun j v hv => ?_
  rw [Addr.add_lit, h.cell]
  simpa using hv
/-- Its cells, and that they may be written: rules. -/
theorem Blk.rules (h : Blk w b cs t) : (∀ i, w.cell? ⟨b, i, none⟩ = cs[i]?) ∧ (∀ i, w.frozen? ⟨b, i, none⟩ = false) ∧ (∀ n, okSize cs n = true → cellsO w ⟨b, 0, none⟩ 0 n = some cs.toList) := ⟨h.cell, h.frozen, h.all⟩
theorem Blk.lt (h : Blk w b cs t) : b < w.heap.size := (Array.getElem?_eq_some_iff.1 h).1
theorem Blk.new : Blk (w.alloc (.cells cs t)) w.heap.size cs t := by
  show (w.heap.push _)[w.heap.size]? = _
  rw [Array.getElem?_push, if_pos rfl]
theorem cellsO_new (hb : b = w.heap.size) {n : Nat} (hn : okSize cs n = true) : cellsO (w.alloc (.cells cs t)) ⟨b, 0, none⟩ 0 n = some cs.toList := by
  subst hb; exact Blk.all Blk.new n hn
theorem Blk.alloc (h : Blk w b cs t) (o : Obj) : Blk (w.alloc o) b cs t := (Below.heap_alloc w o b h.lt).trans h
theorem Blk.drew (h : Blk w b cs t) : Blk w.drew b cs t := h
theorem Blk.set (h : Blk w b cs t) (i : Nat) (v : Value) : Blk (w.setCell ⟨b, i, none⟩ v) b (cs.setIfInBounds i v) t := by
  unfold Blk World.setCell at *
  simp only [Array.getElem?_modify, if_true, h]; rfl
theorem Blk.other (h : Blk w b cs t) {p : Addr} (hp : p.block ≠ b) (v : Value) : Blk (w.setCell p v) b cs t := (Below.heap_setCell w p v b (Ne.symm hp)).trans h
theorem Blk.chg {S : Nat → Prop} {w' : World} (h : Blk w b cs t) (hc : Chg S w w') (hS : ¬ S b) : Blk w' b cs t := (hc.block b h.lt hS).trans h
theorem Blk.below {w' : World} {B : Nat} (h : Blk w b cs t) (hb : Below B w w') (hB : b < B) : Blk w' b cs t := (hb.block b hB).trans h
theorem Blk.own {n cap e size : Nat} {xs : List Value} (h : Blk w b cs e) {base : Nat} (hb : base ≤ b) (hc : n ≤ cap) (hm : cap ≤ maxLen) (hs : cs.size = cap * size) (hx : cs.toList.take (n * size) = xs) :
    w.ownsRow base e size (.slice (some ⟨b, 0, none⟩) n cap) n xs := by
  refine ⟨?_, .inr ⟨b, cap, cs, rfl, hb, h, hc, hm, hs, hx⟩⟩
  rw [← hx, List.length_take, Array.length_toList, hs]
  exact Nat.min_eq_left (Nat.mul_le_mul_right _ hc)

/-! As rules: what old cells hold behind a call. -/
theorem Below.rules {w1 w2 : World} {B : Nat} (h : Below B w1 w2) : (∀ b i, b < B → w2.cell? ⟨b, i, none⟩ = w1.cell? ⟨b, i, none⟩) ∧ (∀ b i, b < B → w2.frozen? ⟨b, i, none⟩ = w1.frozen? ⟨b, i, none⟩) ∧
    (∀ n a, n ≤ B → Below n a w1 → Below n a w2 = True) :=
  ⟨fun b i hb => h.cell (p := ⟨b, i, none⟩) hb, fun b i hb => h.frozen (p := ⟨b, i, none⟩) hb, fun n a hn ha => eq_true (ha.trans (h.mono hn))⟩
theorem Chg.rules {S : Nat → Prop} {w1 w2 : World} (h : Chg S w1 w2) : (∀ b i, b < w1.heap.size → ¬ S b → w2.cell? ⟨b, i, none⟩ = w1.cell? ⟨b, i, none⟩) ∧ (∀ b i, b < w1.heap.size → ¬ S b → w2.frozen? ⟨b, i, none⟩ = w1.frozen? ⟨b, i, none⟩) :=
  ⟨fun b i hb hs => World.cell?_of_block (h.block b hb hs), fun b i hb hs => h.frozen (p := ⟨b, i, none⟩) hb hs⟩
theorem bel_refl {n : Nat} : Below n w w = True := eq_true (Below.refl _ _)
theorem bel_drew {n : Nat} (h : Below n a w) : Below n a w.drew = True := eq_true h.drew
theorem bel_alloc {n : Nat} (h : Below n a w) (hn : n ≤ w.heap.size) : Below n a (w.alloc o) = True := eq_true (h.alloc hn o)
theorem bel_set {n : Nat} {p : Addr} {v : Value} (h : Below n a w) (hn : n ≤ p.block) : Below n a (w.setCell p v) = True := eq_true (h.setCell hn v)
theorem chg_refl {S : Nat → Prop} : Chg S w w = True := eq_true (Chg.refl _ _)
theorem chg_drew {S : Nat → Prop} (h : Chg S a w) : Chg S a w.drew = True := eq_true h.drew
theorem chg_alloc {S : Nat → Prop} (h : Chg S a w) : Chg S a (w.alloc o) = True := eq_true (h.alloc o)
theorem chg_set {S : Nat → Prop} {p : Addr} {v : Value} (h : Chg S a w) (hp : p.block < a.heap.size → S p.block) : Chg S a (w.setCell p v) = True := eq_true (h.setCell p v hp)
end

theorem Below.via {a b c : World} {n B : Nat} (k : Below B b c) (hB : n ≤ B) (h : Below n a b) : Below n a c := h.trans (k.mono hB)

/-! ### Statements that leave their order open: what the held reads read is as it was at the start, but for the blocks of X. -/
theorem add_block (p : Addr) (j : Nat) : (p.add j).block = p.block := by unfold Addr.add; split <;> rfl
theorem heldX_held {X : Nat → Prop} {w0 : World} {p : Addr} (h1 : p.block < w0.heap.size) (h2 : ¬ X p.block) (h3 : loadW P t p w0 fun v _ => K v w) : heldW P (Chg X w0) t p w K := by
  have key : ∀ w' j, Chg X w0 w' → w'.cell? (p.add j) = w0.cell? (p.add j) := fun w' j hc => by
    have e : (p.add j).block = p.block := by unfold Addr.add; split <;> rfl
    exact World.cell?_of_block (hc.block _ (by rw [e]; exact h1) (by rw [e]; exact h2))
  have key0 : ∀ w', Chg X w0 w' → w'.cell? p = w0.cell? p := fun w' hc => by have := key w' 0 hc; simpa only [Addr.add_zero'] using this
  unfold heldW
  unfold loadW at h3 ⊢
  cases hk : tyK P t with
  | int k => rw [hk] at h3; obtain ⟨n, hc, hK⟩ := h3; exact ⟨_, fun w' hw => ⟨n, (key0 w' hw).trans hc, rfl, rfl⟩, hK⟩
  | bool => rw [hk] at h3; obtain ⟨n, hc, hK⟩ := h3; exact ⟨_, fun w' hw => ⟨n, (key0 w' hw).trans hc, rfl, rfl⟩, hK⟩
  | str => rw [hk] at h3; obtain ⟨n, hc, hK⟩ := h3; exact ⟨_, fun w' hw => ⟨n, (key0 w' hw).trans hc, rfl, rfl⟩, hK⟩
  | slice u e => rw [hk] at h3; obtain ⟨x, n, c, hc, hK⟩ := h3; exact ⟨_, fun w' hw => ⟨x, n, c, (key0 w' hw).trans hc, rfl, rfl⟩, hK⟩
  | ptr => rw [hk] at h3; obtain ⟨n, hc, hK⟩ := h3; exact ⟨_, fun w' hw => ⟨n, (key0 w' hw).trans hc, rfl, rfl⟩, hK⟩
  | map => rw [hk] at h3; obtain ⟨n, hc, hK⟩ := h3; exact ⟨_, fun w' hw => ⟨n, (key0 w' hw).trans hc, rfl, rfl⟩, hK⟩
  | agg n => rw [hk] at h3; obtain ⟨cs, hc, hl, hK⟩ := h3; exact ⟨_, fun w' hw => ⟨cs, fun i v hv => (key w' i hw).trans (hc i v hv), hl, rfl, rfl⟩, hK⟩
  | other => rw [hk] at h3; obtain ⟨n, hc, hK⟩ := h3; exact ⟨_, fun w' hw => ⟨n, (key0 w' hw).trans hc, rfl, rfl⟩, hK⟩
  | none => rw [hk] at h3; exact h3.elim
theorem loadW_mono {w : World} {p : Addr} {K K' : Value → World → Prop} (h : loadW P t p w K) (hk : ∀ v, K v w → K' v w) : loadW P t p w K' := by
  unfold loadW at h ⊢
  cases hc : tyK P t with
  | int k => rw [hc] at h; obtain ⟨n, h1, h2⟩ := h; exact ⟨n, h1, hk _ h2⟩
  | bool => rw [hc] at h; obtain ⟨n, h1, h2⟩ := h; exact ⟨n, h1, hk _ h2⟩
  | str => rw [hc] at h; obtain ⟨n, h1, h2⟩ := h; exact ⟨n, h1, hk _ h2⟩
  | slice u e => rw [hc] at h; obtain ⟨x, n, c, h1, h2⟩ := h; exact ⟨x, n, c, h1, hk _ h2⟩
  | ptr => rw [hc] at h; obtain ⟨n, h1, h2⟩ := h; exact ⟨n, h1, hk _ h2⟩
  | map => rw [hc] at h; obtain ⟨n, h1, h2⟩ := h; exact ⟨n, h1, hk _ h2⟩
  | agg n => rw [hc] at h; obtain ⟨n, h1, h0, h2⟩ := h; exact ⟨n, h1, h0, hk _ h2⟩
  | other => rw [hc] at h; obtain ⟨n, h1, h2⟩ := h; exact ⟨n, h1, hk _ h2⟩
  | none => rw [hc] at h; exact h.elim
theorem heldX_eq {X : Nat → Prop} {w0 : World} {b i : Nat} (h1 : b < w0.heap.size) (h2 : ¬ X b) : heldW P (Chg X w0) t ⟨b, i, none⟩ w K = loadW P t ⟨b, i, none⟩ w0 fun v _ => K v w := by
  apply propext
  refine ⟨fun ⟨v, h, hk⟩ => loadW_mono (h w0 (Chg.refl _ _)) fun u hu => by rw [hu.1]; exact hk, heldX_held h1 h2⟩
theorem heldX_add {X : Nat → Prop} {w0 : World} {p : Addr} {m : Nat} (h1 : p.block < w0.heap.size) (h2 : ¬ X p.block) : heldW P (Chg X w0) t (p.add m) w K = loadW P t (p.add m) w0 fun v _ => K v w := by
  apply propext
  refine ⟨fun ⟨v, h, hk⟩ => loadW_mono (h w0 (Chg.refl _ _)) fun u hu => by rw [hu.1]; exact hk, heldX_held (by rw [add_block]; exact h1) (by rw [add_block]; exact h2)⟩

/-- What is stored fits what is there. -/
def okFill (z cs : Array Value) : Bool := z.toList.length == cs.toList.length && cs.toList.all Value.oneCell'
theorem okFill_t {z cs : Array Value} (h : okFill z cs = true) : okFill z cs = true := h
/-- A struct, or an array, stored into memory that was just made. -/
theorem storeW_fill {b : Nat} {t' : TypeId} {z cs : Array Value} (hb : b = w.heap.size) (h : okFill z cs = true) : storeW P t ⟨b, 0, none⟩ (.agg cs) (w.alloc (.cells z t')) K = (sizeT P t = some cs.size ∧ K undef (w.alloc (.cells cs t'))) := by
  simp only [okFill, Bool.and_eq_true, beq_iff_eq, Array.length_toList] at h
  subst hb
  apply propext
  constructor
  · rintro ⟨h1, h2, h3, h4⟩
    refine ⟨h1, ?_⟩
    have e : setCellsW (w.alloc (.cells z t')) ⟨w.heap.size, 0, none⟩ 0 (Value.agg cs).cells.toList = w.alloc (.cells cs t') := by
      rw [setCells_new _ rfl, setFrom_all _ _ (by simpa [Value.cells] using h.1)]; rfl
    rwa [e] at h4
  · rintro ⟨h1, h2⟩
    exact storeW_new (v := .agg cs) rfl h1 h.1 (fun u hu => List.all_eq_true.1 h.2 u (by simpa [Value.cells] using hu)) h2

/-- A block that is written from its start on. -/
def _root_.Go.World.fill (w : World) (b : Nat) (cs : Array Value) : World := setCellsW w ⟨b, 0, none⟩ 0 cs.toList
def fillO (o n : Option Value) : Option Value :=
  match o, n with
  | some _, some v => some v
  | some u, none => some u
  | none, _ => none
theorem fillO_some {u v : Value} : fillO (some u) (some v) = some v := rfl
theorem fillO_none {u : Value} : fillO (some u) none = some u := rfl
theorem setCellsW_size {b : Nat} : ∀ (l : List Value) (i : Nat) (w : World), (setCellsW w ⟨b, 0, none⟩ i l).heap.size = w.heap.size
  | [], _, _ => rfl
  | v :: r, i, w => by rw [setCellsW, setCellsW_size r]; simp
theorem setCellsW_other {b b' j : Nat} (h : b ≠ b') : ∀ (l : List Value) (i : Nat) (w : World), (setCellsW w ⟨b, 0, none⟩ i l).cell? ⟨b', j, none⟩ = w.cell? ⟨b', j, none⟩
  | [], _, _ => rfl
  | v :: r, i, w => by rw [setCellsW, setCellsW_other h r, Addr.add_lit, Nat.zero_add, cS_blk h]
theorem setCellsW_frozen {b : Nat} {p : Addr} : ∀ (l : List Value) (i : Nat) (w : World), (setCellsW w ⟨b, 0, none⟩ i l).frozen? p = w.frozen? p
  | [], _, _ => rfl
  | v :: r, i, w => by rw [setCellsW, setCellsW_frozen r, World.frozen?_setCell]
theorem setCellsW_cell {b j : Nat} : ∀ (l : List Value) (i : Nat) (w : World), (setCellsW w ⟨b, 0, none⟩ i l).cell? ⟨b, j, none⟩ = if i ≤ j then fillO (w.cell? ⟨b, j, none⟩) l[j - i]? else w.cell? ⟨b, j, none⟩
  | [], i, w => by
    simp only [setCellsW]
    split
    · cases w.cell? ⟨b, j, none⟩ <;> rfl
    · rfl
  | v :: r, i, w => by
    rw [setCellsW, setCellsW_cell r, Addr.add_lit, Nat.zero_add]
    by_cases h : i = j
    · subst h
      rw [if_neg (by omega), if_pos (Nat.le_refl _), cS_same, Nat.sub_self]
      cases w.cell? ⟨b, i, none⟩ <;> rfl
    · rw [cS_off h]
      by_cases h1 : i ≤ j
      · rw [if_pos (by omega), if_pos h1, show j - i = (j - (i + 1)) + 1 by omega]; rfl
      · rw [if_neg (by omega), if_neg h1]
theorem cF_same {b j : Nat} {cs : Array Value} : (w.fill b cs).cell? ⟨b, j, none⟩ = fillO (w.cell? ⟨b, j, none⟩) cs[j]? := by
  unfold World.fill
  rw [setCellsW_cell, if_pos (Nat.zero_le _), Nat.sub_zero]; simp
theorem cF_blk {b b' j : Nat} {cs : Array Value} (h : b ≠ b') : (w.fill b cs).cell? ⟨b', j, none⟩ = w.cell? ⟨b', j, none⟩ := setCellsW_other h _ _ _
theorem fF_any {b : Nat} {cs : Array Value} {p : Addr} : (w.fill b cs).frozen? p = w.frozen? p := setCellsW_frozen _ _ _
theorem size_fill {b : Nat} {cs : Array Value} : (w.fill b cs).heap.size = w.heap.size := setCellsW_size _ _ _
theorem Below.fill {a : World} {n b : Nat} {cs : Array Value} (h : Below n a w) (hb : n ≤ b) : Below n a (w.fill b cs) := by
  have : ∀ (l : List Value) (i : Nat) (w : World), Below n a w → Below n a (setCellsW w ⟨b, 0, none⟩ i l) := by
    intro l
    induction l with
    | nil => intro i w h; exact h
    | cons v r ih => intro i w h; rw [setCellsW, Addr.add_lit]; exact ih _ _ (h.setCell hb v)
  exact this _ _ _ h
theorem Chg.fill {S : Nat → Prop} {a : World} {b : Nat} {cs : Array Value} (h : Chg S a w) (hb : b < a.heap.size → S b) : Chg S a (w.fill b cs) := by
  have : ∀ (l : List Value) (i : Nat) (w : World), Chg S a w → Chg S a (setCellsW w ⟨b, 0, none⟩ i l) := by
    intro l
    induction l with
    | nil => intro i w h; exact h
    | cons v r ih => intro i w h; rw [setCellsW, Addr.add_lit]; exact ih _ _ (h.setCell _ v hb)
  exact this _ _ _ h
theorem Blk.fill {b : Nat} {z cs : Array Value} (h : Blk w b z t) (hs : z.size = cs.size) : Blk (w.fill b cs) b cs t := by
  have : ∀ (l : List Value) (i : Nat) (z : Array Value) (w : World), Blk w b z t → Blk (setCellsW w ⟨b, 0, none⟩ i l) b (setFrom z i l) t := by
    intro l
    induction l with
    | nil => intro i z w h; exact h
    | cons v r ih => intro i z w h; rw [setCellsW, Addr.add_lit, setFrom, Nat.zero_add]; exact ih _ _ _ (h.set i v)
  have h1 := this cs.toList 0 z w h
  rw [setFrom_all _ _ (by simpa using hs)] at h1
  exact h1
/-- That a struct can be stored into what is there. -/
def okSt (w : World) (b : Nat) : Nat → List Value → Prop
  | _, [] => True
  | i, v :: r => v.oneCell' = true ∧ (∃ old, w.cell? ⟨b, i, none⟩ = some old) ∧ w.frozen? ⟨b, i, none⟩ = false ∧ okSt w b (i + 1) r
theorem okSt_nil {b i : Nat} : okSt w b i [] = True := rfl
theorem okSt_cons {b i : Nat} {v : Value} {r : List Value} : okSt w b i (v :: r) = (v.oneCell' = true ∧ (∃ old, w.cell? ⟨b, i, none⟩ = some old) ∧ w.frozen? ⟨b, i, none⟩ = false ∧ okSt w b (i + 1) r) := rfl
theorem okSt_iff {b : Nat} : ∀ (l : List Value) (i : Nat), okSt w b i l ↔ (∀ u ∈ l, u.oneCell' = true) ∧ ∀ j, j < l.length → (∃ old, w.cell? ⟨b, i + j, none⟩ = some old) ∧ w.frozen? ⟨b, i + j, none⟩ = false
  | [], i => by simp [okSt]
  | v :: r, i => by
    rw [okSt, okSt_iff r (i + 1)]
    constructor
    · rintro ⟨h1, h2, h3, h4, h5⟩
      refine ⟨fun u hu => ?_, fun j hj => ?_⟩
      · rcases List.mem_cons.1 hu with rfl | hu
        · exact h1
        · exact h4 u hu
      · match j, hj with
        | 0, _ => exact ⟨h2, h3⟩
        | j + 1, hj => have := h5 j (by simpa using hj); rwa [show i + 1 + j = i + (j + 1) by omega] at this
    · rintro ⟨h1, h2⟩
      refine ⟨h1 v List.mem_cons_self, (h2 0 (by simp)).1, (h2 0 (by simp)).2, fun u hu => h1 u (List.mem_cons_of_mem _ hu), fun j hj => ?_⟩
      have := h2 (j + 1) (by simpa using hj)
      rwa [show i + (j + 1) = i + 1 + j by omega] at this
theorem storeW_agg {b : Nat} {cs : Array Value} : storeW P t ⟨b, 0, none⟩ (.agg cs) w K = (sizeT P t = some cs.size ∧ okSt w b 0 cs.toList ∧ K undef (w.fill b cs)) := by
  apply propext
  rw [okSt_iff]
  have e : (Value.agg cs).cells = cs := rfl
  unfold storeW
  rw [e]
  constructor
  · rintro ⟨h1, h2, h3, h4⟩
    exact ⟨h1, ⟨h2, fun j hj => by have := h3 j (by simpa using hj); rwa [Addr.add_lit] at this⟩, h4⟩
  · rintro ⟨h1, ⟨h2, h3⟩, h4⟩
    exact ⟨h1, h2, fun j hj => by have := h3 j (by simpa using hj); rwa [Addr.add_lit], h4⟩
theorem bV_aeql {xs ys : Array Value} : binV P .eql t (.agg xs) (.agg ys) = agV P .eql (flatT P t) xs.toList ys.toList := rfl
theorem bV_aneq {xs ys : Array Value} : binV P .neq t (.agg xs) (.agg ys) = agV P .neq (flatT P t) xs.toList ys.toList := rfl
theorem agV_eql {ks : List FK} {xs ys : List Value} : agV P .eql (some ks) xs ys = agPV (aggEq ks xs ys) id := rfl
theorem agV_neq {ks : List FK} {xs ys : List Value} : agV P .neq (some ks) xs ys = agPV (aggEq ks xs ys) not := rfl
theorem agPV_some {b : Bool} {f : Bool → Bool} : agPV (some b) f = some (True, .bool (f b)) := rfl
attribute [go_sem] bV_aeql bV_aneq agV_eql agV_neq agPV_some id_eq List.toList_toArray
attribute [go_sem low] storeW_agg cellsO_cons

/-! ### Loops: the slots that change. -/
/-- The slots, with what the first list says in their place. -/
def ovr (ch : Env) : Env → Env
  | [] => []
  | (n, v) :: ρ => (n, (lk ch n).getD v) :: ovr ch ρ
theorem ovr_nil {ch : Env} : ovr ch [] = [] := rfl
theorem ovr_cons {ch : Env} {n : Nat} {v : Value} {ρ : Env} : ovr ch ((n, v) :: ρ) = (n, (lk ch n).getD v) :: ovr ch ρ := rfl
theorem W_loopU {σ : Type} {c : Cmd} {ρ : Env} {Q : Post} (ch : σ → Env) (R : σ → World → Prop) (μ : σ → Nat) (s0 : σ) (h0 : ρ = ovr (ch s0) ρ) (hR : R s0 w)
    (round : ∀ s w, R s w → W P c (ovr (ch s) ρ) w (loopS (fun s => ovr (ch s) ρ) R μ s Q)) : W P (.loop c) ρ w Q :=
  W_loop (fun s => ovr (ch s) ρ) R μ s0 h0 hR round
end
end Go.Ann
