/- An engine for walks. Part 20: what a walk holds: blocks and rows that are its own, things that stay as they are. -/
import Derived.Test.YtkofhjopeppnoaaAnn19
namespace Go.Ann
open Go Go.RowKit Go.WideShapes
set_option linter.unusedVariables false
set_option linter.unusedSimpArgs false

/-- A thing of the walk's own: a block, whole; or a slice that may be appended to. -/
inductive Res where
  | blk (b : Nat) (cs : Array Value) (t : TypeId)
  | row (v : Value) (e sz n : Nat) (xs : List Value)
  | obj (b : Nat) (o : Obj)
def Res.own : Res → Option Nat
  | .blk b _ _ => some b
  | .row v _ _ _ _ => v.ownBlock
  | .obj b _ => some b
def Res.ok (w : World) (base : Nat) : Res → Prop
  | .blk b cs t => Blk w b cs t ∧ base ≤ b
  | .row v e sz n xs => w.ownsRow base e sz v n xs
  | .obj b o => w.heap[b]? = some o ∧ base ≤ b
/-- A thing that nobody writes: it leans on some blocks alone. -/
structure Inv where
  holds : World → Prop
  foot : Nat → Prop
  loc : ∀ w w' : World, holds w → (∀ k, foot k → w'.heap[k]? = w.heap[k]?) → holds w'
/-- What a walk from W0 holds in w: F the blocks of other things of its own, L its own ones, I what stays. -/
structure St (W0 w : World) (F : Nat → Prop) (L : List Res) (I : List Inv) : Prop where
  bel : Below W0.heap.size W0 w
  foot : ∀ k, F k → W0.heap.size ≤ k ∧ k < w.heap.size
  res : ∀ r ∈ L, r.ok w W0.heap.size ∧ ∀ k, r.own = some k → ¬ F k
  nd : (L.filterMap Res.own).Nodup
  inv : ∀ a ∈ I, a.holds w ∧ ∀ k, a.foot k → k < w.heap.size ∧ ¬ F k ∧ ∀ r ∈ L, r.own ≠ some k

theorem Res.ok.lt {w : World} {base : Nat} {r : Res} (h : r.ok w base) : ∀ k, r.own = some k → base ≤ k ∧ k < w.heap.size := by
  intro k hk
  cases r with
  | blk b cs t => simp only [Res.own, Option.some.injEq] at hk; subst hk; exact ⟨h.2, h.1.lt⟩
  | row v e sz n xs => exact World.ownsRow.lt h k hk
  | obj b o => simp only [Res.own, Option.some.injEq] at hk; subst hk; exact ⟨h.2, (Array.getElem?_eq_some_iff.1 h.1).1⟩
theorem Res.ok.chg {S : Nat → Prop} {w w' : World} {base : Nat} {r : Res} (h : r.ok w base) (hc : Chg S w w') (hS : ∀ k, r.own = some k → ¬ S k) : r.ok w' base := by
  cases r with
  | blk b cs t => exact ⟨h.1.chg hc (hS b rfl), h.2⟩
  | row v e sz n xs => exact hc.own h hS
  | obj b o => exact ⟨(hc.block b (Array.getElem?_eq_some_iff.1 h.1).1 (hS b rfl)).trans h.1, h.2⟩

section
variable {W0 w w' : World} {F F' : Nat → Prop} {L : List Res} {I : List Inv}
theorem St.start : St W0 W0 (fun _ => False) [] [] := ⟨Below.refl _ _, fun _ h => h.elim, fun _ h => (by cases h), List.Pairwise.nil, fun _ h => (by cases h)⟩
theorem St.size (h : St W0 w F L I) : W0.heap.size ≤ w.heap.size := h.bel.size
/-- Nothing that is old is turned. -/
theorem St.below (h : St W0 w F L I) {B : Nat} (hb : Below B w w') (hB : w.heap.size ≤ B) : St W0 w' F L I :=
  have hc : Chg (fun _ => False) w w' := Chg.of_below (hb.mono hB)
  ⟨h.bel.trans (hb.mono (Nat.le_trans h.size hB)), fun k hk => ⟨(h.foot k hk).1, Nat.lt_of_lt_of_le (h.foot k hk).2 hb.size⟩, fun r hr => ⟨(h.res r hr).1.chg hc fun _ _ h => h, (h.res r hr).2⟩, h.nd,
    fun a ha => ⟨a.loc _ _ (h.inv a ha).1 fun k hk => hb.block k (Nat.lt_of_lt_of_le ((h.inv a ha).2 k hk).1 hB), fun k hk => ⟨Nat.lt_of_lt_of_le ((h.inv a ha).2 k hk).1 hb.size, ((h.inv a ha).2 k hk).2⟩⟩⟩
theorem St.call (h : St W0 w F L I) (hb : Below w.heap.size w w') : St W0 w' F L I := h.below hb (Nat.le_refl _)
theorem St.drew (h : St W0 w F L I) : St W0 w.drew F L I := h.below ((Below.refl _ w).drew) (Nat.le_refl _)
theorem St.alloc' (h : St W0 w F L I) (o : Obj) : St W0 (w.alloc o) F L I := h.below ((Below.refl w.heap.size w).alloc (Nat.le_refl _) o) (Nat.le_refl _)
theorem fresh_nd {L : List Res} {r : Res} (hn : (L.filterMap Res.own).Nodup) (hr : ∀ k, r.own = some k → ∀ x ∈ L, x.own ≠ some k) : ((r :: L).filterMap Res.own).Nodup := by
  cases hk : r.own with
  | none => rw [List.filterMap_cons_none hk]; exact hn
  | some k =>
    rw [List.filterMap_cons_some hk]
    refine List.nodup_cons.2 ⟨fun hm => ?_, hn⟩
    obtain ⟨x, hx, hxk⟩ := List.mem_filterMap.1 hm
    exact hr k hk x hx hxk
/-- One thing more, that is new. -/
theorem St.add (h : St W0 w F L I) (hb : Below w.heap.size w w') (r : Res) (hr : r.ok w' W0.heap.size) (hn : ∀ k, r.own = some k → w.heap.size ≤ k) : St W0 w' F (r :: L) I := by
  have h' := h.call hb
  refine ⟨h'.bel, h'.foot, ?_, fresh_nd h.nd fun k hk x hx hxk => ?_, fun a ha => ⟨(h'.inv a ha).1, fun k hk => ⟨((h'.inv a ha).2 k hk).1, ((h'.inv a ha).2 k hk).2.1, ?_⟩⟩⟩
  · intro x hx
    rcases List.mem_cons.1 hx with rfl | hx
    · exact ⟨hr, fun k hk hF => by have := (h.foot k hF).2; have := hn k hk; omega⟩
    · exact h'.res x hx
  · have := ((h.res x hx).1.lt k hxk).2; have := hn k hk; omega
  · intro x hx
    rcases List.mem_cons.1 hx with rfl | hx
    · intro e
      have := hn k e
      have := ((h.inv a ha).2 k hk).1
      omega
    · exact ((h'.inv a ha).2 k hk).2.2 x hx
theorem St.box (h : St W0 w F L I) (cs : Array Value) (t : TypeId) : St W0 (w.alloc (.cells cs t)) F (.blk w.heap.size cs t :: L) I :=
  h.add ((Below.refl _ w).alloc (Nat.le_refl _) _) _ ⟨Blk.new, h.size⟩ fun k hk => by simp only [Res.own, Option.some.injEq] at hk; omega
theorem St.nilRow (h : St W0 w F L I) (e sz : Nat) : St W0 w F (.row (.slice none 0 0) e sz 0 [] :: L) I :=
  h.add (Below.refl _ w) _ (World.ownsRow_nil _ _ _ _) fun k hk => by simp [Res.own, Value.ownBlock] at hk
/-- Some things less, or in another order. -/
theorem St.sub (h : St W0 w F L I) {L' : List Res} (hs : L'.Sublist L) : St W0 w F L' I :=
  ⟨h.bel, h.foot, fun r hr => h.res r (hs.subset hr), h.nd.sublist (hs.filterMap _), fun a ha => ⟨(h.inv a ha).1, fun k hk => ⟨((h.inv a ha).2 k hk).1, ((h.inv a ha).2 k hk).2.1, fun r hr => ((h.inv a ha).2 k hk).2.2 r (hs.subset hr)⟩⟩⟩
theorem St.perm (h : St W0 w F L I) {L' : List Res} (hs : L'.Perm L) : St W0 w F L' I :=
  ⟨h.bel, h.foot, fun r hr => h.res r (hs.subset hr), (hs.filterMap _).nodup_iff.2 h.nd, fun a ha => ⟨(h.inv a ha).1, fun k hk => ⟨((h.inv a ha).2 k hk).1, ((h.inv a ha).2 k hk).2.1, fun r hr => ((h.inv a ha).2 k hk).2.2 r (hs.subset hr)⟩⟩⟩
theorem St.inv_sub (h : St W0 w F L I) {I' : List Inv} (hs : ∀ a ∈ I', a ∈ I) : St W0 w F L I' := ⟨h.bel, h.foot, h.res, h.nd, fun a ha => h.inv a (hs a ha)⟩
/-- The other things of the walk's own are turned. -/
theorem St.chg (h : St W0 w F L I) (hc : Chg F w w') (h1 : ∀ k, k < w.heap.size → F' k → F k) (h2 : ∀ k, F' k → k < w'.heap.size) : St W0 w' F' L I := by
  have fl : ∀ k, F' k → W0.heap.size ≤ k := fun k hk => by
    rcases Nat.lt_or_ge k w.heap.size with h' | h'
    · exact (h.foot k (h1 k h' hk)).1
    · have := h.size; omega
  refine ⟨h.bel.trans (hc.below h.size fun k hk hF => by have := (h.foot k hF).1; omega), fun k hk => ⟨fl k hk, h2 k hk⟩,
    fun r hr => ⟨(h.res r hr).1.chg hc (h.res r hr).2, fun k hk hF => (h.res r hr).2 k hk (h1 k ((h.res r hr).1.lt k hk).2 hF)⟩, h.nd,
    fun a ha => ⟨a.loc _ _ (h.inv a ha).1 fun k hk => hc.block k ((h.inv a ha).2 k hk).1 ((h.inv a ha).2 k hk).2.1, fun k hk => ⟨Nat.lt_of_lt_of_le ((h.inv a ha).2 k hk).1 hc.size, fun hF => ((h.inv a ha).2 k hk).2.1 (h1 k ((h.inv a ha).2 k hk).1 hF), ((h.inv a ha).2 k hk).2.2⟩⟩⟩
theorem nd_other {L : List Res} (hn : (L.filterMap Res.own).Nodup) {i j : Nat} {r x : Res} (hi : L[i]? = some r) (hj : L[j]? = some x) (hij : i ≠ j) {k : Nat} (hr : r.own = some k) : x.own ≠ some k := by
  intro hx
  induction L generalizing i j with
  | nil => simp at hi
  | cons y l ih =>
    match i, j, hi, hj, hij with
    | 0, 0, _, _, h => exact h rfl
    | 0, j + 1, hi, hj, _ =>
      simp only [List.getElem?_cons_zero, Option.some.injEq] at hi; subst hi
      simp only [List.getElem?_cons_succ] at hj
      rw [List.filterMap_cons_some hr] at hn
      exact (List.nodup_cons.1 hn).1 (List.mem_filterMap.2 ⟨x, List.mem_of_getElem? hj, hx⟩)
    | i + 1, 0, hi, hj, _ =>
      simp only [List.getElem?_cons_zero, Option.some.injEq] at hj; subst hj
      simp only [List.getElem?_cons_succ] at hi
      rw [List.filterMap_cons_some hx] at hn
      exact (List.nodup_cons.1 hn).1 (List.mem_filterMap.2 ⟨r, List.mem_of_getElem? hi, hr⟩)
    | i + 1, j + 1, hi, hj, h =>
      simp only [List.getElem?_cons_succ] at hi hj
      refine ih ?_ hi hj (by omega)
      cases hy : y.own with
      | none => rw [List.filterMap_cons_none hy] at hn; exact hn
      | some m => rw [List.filterMap_cons_some hy] at hn; exact (List.nodup_cons.1 hn).2
theorem nd_set {L : List Res} {i : Nat} {r r' : Res} (hn : (L.filterMap Res.own).Nodup) (hi : L[i]? = some r) (h : ∀ k, r'.own = some k → r.own = some k ∨ ∀ x ∈ L, x.own ≠ some k) : ((L.set i r').filterMap Res.own).Nodup := by
  induction L generalizing i with
  | nil => simp at hi
  | cons y l ih =>
    match i, hi with
    | 0, hi =>
      simp only [List.getElem?_cons_zero, Option.some.injEq] at hi; subst hi
      simp only [List.set_cons_zero]
      have hl : (l.filterMap Res.own).Nodup := by
        cases hy : y.own with
        | none => rw [List.filterMap_cons_none hy] at hn; exact hn
        | some m => rw [List.filterMap_cons_some hy] at hn; exact (List.nodup_cons.1 hn).2
      refine fresh_nd hl fun k hk x hx => ?_
      rcases h k hk with h1 | h1
      · intro e
        rw [List.filterMap_cons_some h1] at hn
        exact (List.nodup_cons.1 hn).1 (List.mem_filterMap.2 ⟨x, hx, e⟩)
      · exact h1 x (List.mem_cons_of_mem _ hx)
    | i + 1, hi =>
      simp only [List.getElem?_cons_succ] at hi
      simp only [List.set_cons_succ]
      have hl : (l.filterMap Res.own).Nodup := by
        cases hy : y.own with
        | none => rw [List.filterMap_cons_none hy] at hn; exact hn
        | some m => rw [List.filterMap_cons_some hy] at hn; exact (List.nodup_cons.1 hn).2
      refine fresh_nd (ih hl hi fun k hk => (h k hk).imp id fun h1 x hx => h1 x (List.mem_cons_of_mem _ hx)) fun k hk x hx => ?_
      intro e
      obtain ⟨j, hj, hjx⟩ := List.mem_iff_getElem.1 hx
      rw [List.getElem_set] at hjx
      split at hjx
      · subst hjx
        rcases h k e with h1 | h1
        · have : (y :: l)[0]? = some y := rfl
          exact nd_other hn (i := i + 1) (j := 0) (by simpa using hi) this (by omega) h1 hk
        · exact h1 y List.mem_cons_self hk
      · rw [List.filterMap_cons_some hk] at hn
        subst hjx
        exact (List.nodup_cons.1 hn).1 (List.mem_filterMap.2 ⟨_, List.getElem_mem _, e⟩)
/-- One thing is turned. -/
theorem St.upd (h : St W0 w F L I) (i : Nat) {r : Res} (hi : L[i]? = some r) (hc : Chg (fun k => r.own = some k) w w') (r' : Res) (hr : r'.ok w' W0.heap.size) (hn : ∀ k, r'.own = some k → r.own = some k ∨ w.heap.size ≤ k) : St W0 w' F (L.set i r') I := by
  have hm := List.mem_of_getElem? hi
  have hlow := fun k hk => ((h.res r hm).1.lt k hk)
  have hset : ∀ x ∈ L.set i r', x = r' ∨ ∃ j, j ≠ i ∧ L[j]? = some x := by
    intro x hx
    obtain ⟨j, hj, hjx⟩ := List.mem_iff_getElem.1 hx
    rw [List.getElem_set] at hjx
    split at hjx
    · exact .inl hjx.symm
    · rename_i hij
      exact .inr ⟨j, fun e => hij e.symm, by rw [← hjx]; exact List.getElem?_eq_getElem (by simpa using hj)⟩
  have hF : ∀ k, r'.own = some k → ¬ F k := fun k hk hF => by
    rcases hn k hk with h1 | h1
    · exact (h.res r hm).2 k h1 hF
    · have := (h.foot k hF).2; omega
  refine ⟨h.bel.trans (hc.below h.size fun k hk hS => by have := (hlow k hS).1; omega), fun k hk => ⟨(h.foot k hk).1, Nat.lt_of_lt_of_le (h.foot k hk).2 hc.size⟩, ?_, nd_set h.nd hi fun k hk => ?_, ?_⟩
  · intro x hx
    rcases hset x hx with rfl | ⟨j, hji, hj⟩
    · exact ⟨hr, hF⟩
    · have hx' := List.mem_of_getElem? hj
      exact ⟨(h.res x hx').1.chg hc fun k hk hrk => nd_other h.nd hi hj (Ne.symm hji) hrk hk, (h.res x hx').2⟩
  · rcases hn k hk with h1 | h1
    · exact .inl h1
    · exact .inr fun x hx hxk => by have := ((h.res x hx).1.lt k hxk).2; omega
  · intro a ha
    refine ⟨a.loc _ _ (h.inv a ha).1 fun k hk => hc.block k ((h.inv a ha).2 k hk).1 (((h.inv a ha).2 k hk).2.2 r hm), fun k hk => ⟨Nat.lt_of_lt_of_le ((h.inv a ha).2 k hk).1 hc.size, ((h.inv a ha).2 k hk).2.1, fun x hx => ?_⟩⟩
    rcases hset x hx with rfl | ⟨j, hji, hj⟩
    · intro e
      rcases hn k e with h1 | h1
      · exact ((h.inv a ha).2 k hk).2.2 r hm h1
      · have := ((h.inv a ha).2 k hk).1; omega
    · exact ((h.inv a ha).2 k hk).2.2 x (List.mem_of_getElem? hj)
theorem St.blk (h : St W0 w F L I) (i : Nat) {b : Nat} {cs : Array Value} {t : TypeId} (hi : L[i]? = some (.blk b cs t)) : Blk w b cs t := (h.res _ (List.mem_of_getElem? hi)).1.1
theorem St.low (h : St W0 w F L I) (i : Nat) {b : Nat} {cs : Array Value} {t : TypeId} (hi : L[i]? = some (.blk b cs t)) : W0.heap.size ≤ b ∧ b < w.heap.size := ⟨(h.res _ (List.mem_of_getElem? hi)).1.2, (h.blk i hi).lt⟩
theorem St.row (h : St W0 w F L I) (i : Nat) {v : Value} {e sz n : Nat} {xs : List Value} (hi : L[i]? = some (.row v e sz n xs)) : w.ownsRow W0.heap.size e sz v n xs := (h.res _ (List.mem_of_getElem? hi)).1
theorem St.obj (h : St W0 w F L I) (i : Nat) {b : Nat} {o : Obj} (hi : L[i]? = some (.obj b o)) : w.heap[b]? = some o := (h.res _ (List.mem_of_getElem? hi)).1.1
/-- An object more, that is new. -/
theorem St.lay (h : St W0 w F L I) (o : Obj) : St W0 (w.alloc o) F (.obj w.heap.size o :: L) I :=
  h.add ((Below.refl _ w).alloc (Nat.le_refl _) _) _ ⟨World.alloc_heap_new w o, h.size⟩ fun k hk => by simp only [Res.own, Option.some.injEq] at hk; omega
/-- An object is turned. -/
theorem St.putObj (h : St W0 w F L I) (i : Nat) {b : Nat} {o : Obj} (hi : L[i]? = some (.obj b o)) (o' : Obj) : St W0 (w.putObj b o') F (L.set i (.obj b o')) I :=
  h.upd i hi ((Chg.refl _ w).grown (grownBy_putObj' w b o') fun k hk _ => hk) (.obj b o')
    ⟨World.putObj_heap_same (Array.getElem?_eq_some_iff.1 (h.obj i hi)).1, (h.res _ (List.mem_of_getElem? hi)).1.2⟩ fun k hk => .inl hk
theorem St.ne (h : St W0 w F L I) (i j : Nat) {r x : Res} (hi : L[i]? = some r) (hj : L[j]? = some x) (hij : i ≠ j) {k : Nat} (hr : r.own = some k) : x.own ≠ some k := nd_other h.nd hi hj hij hr
theorem St.rules (h : St W0 w F L I) (i : Nat) {b : Nat} {cs : Array Value} {t : TypeId} (hi : L[i]? = some (.blk b cs t)) : (∀ i, w.cell? ⟨b, i, none⟩ = cs[i]?) ∧ (∀ i, w.frozen? ⟨b, i, none⟩ = false) ∧ (∀ n, okSize cs n = true → cellsO w ⟨b, 0, none⟩ 0 n = some cs.toList) := (h.blk i hi).rules
/-- A store into a block. -/
theorem St.set (h : St W0 w F L I) (i : Nat) {b : Nat} {cs : Array Value} {t : TypeId} (hi : L[i]? = some (.blk b cs t)) (j : Nat) (v : Value) : St W0 (w.setCell ⟨b, j, none⟩ v) F (L.set i (.blk b (cs.setIfInBounds j v) t)) I :=
  h.upd i hi ((Chg.refl _ w).setCell _ _ fun _ => rfl) _ ⟨(h.blk i hi).set j v, (h.low i hi).1⟩ fun k hk => .inl hk
/-- An append. -/
theorem St.grow (h : St W0 w F L I) (i : Nat) {v v' : Value} {e sz n n' : Nat} {xs xs' : List Value} (hi : L[i]? = some (.row v e sz n xs)) (hg : w.grownBy w' v.ownBlock) (hr : w'.ownsRow W0.heap.size e sz v' n' xs')
    (hn : ∀ k, v'.ownBlock = some k → v.ownBlock = some k ∨ w.heap.size ≤ k) : St W0 w' F (L.set i (.row v' e sz n' xs')) I :=
  h.upd i hi ((Chg.refl _ w).grown hg fun k hk _ => hk) (.row v' e sz n' xs') hr hn
/-- A store into a row. -/
theorem St.put (h : St W0 w F L I) (i : Nat) {g cap : Nat} {e sz n : Nat} {xs : List Value} (hi : L[i]? = some (.row (.slice (some ⟨g, 0, none⟩) n cap) e sz n xs)) (j : Nat) (u : Value) :
    St W0 (w.setCell ⟨g, j, none⟩ u) F (L.set i (.row (.slice (some ⟨g, 0, none⟩) n cap) e sz n (xs.set j u))) I :=
  h.upd i hi ((Chg.refl _ w).setCell ⟨g, j, none⟩ u fun _ => rfl) (.row (.slice (some ⟨g, 0, none⟩) n cap) e sz n (xs.set j u)) ((h.row i hi).stored j u).1 fun k hk => .inl hk
/-- A thing that stays, more. -/
theorem St.keep (h : St W0 w F L I) (a : Inv) (ha : a.holds w) (hf : ∀ k, a.foot k → k < w.heap.size ∧ ¬ F k ∧ ∀ r ∈ L, r.own ≠ some k) : St W0 w F L (a :: I) :=
  ⟨h.bel, h.foot, h.res, h.nd, fun x hx => by
    rcases List.mem_cons.1 hx with rfl | hx
    · exact ⟨ha, hf⟩
    · exact h.inv x hx⟩
/-- .. what a call has made. -/
theorem St.made (h : St W0 w F L I) (hb : Below w.heap.size w w') (a : Inv) (ha : a.holds w') (hf : ∀ k, a.foot k → w.heap.size ≤ k ∧ k < w'.heap.size) : St W0 w' F L (a :: I) := by
  refine (h.call hb).keep a ha fun k hk => ⟨(hf k hk).2, fun hF => ?_, fun r hr e => ?_⟩
  · have := (h.foot k hF).2; have := (hf k hk).1; omega
  · have := ((h.res r hr).1.lt k e).2; have := (hf k hk).1; omega
/-- A row that is not written any more. -/
theorem St.seal {r : Res} (h : St W0 w F (r :: L) I) (a : Inv) (ha : a.holds w) (hf : ∀ k, a.foot k → r.own = some k) : St W0 w F L (a :: I) := by
  have hr := h.res r List.mem_cons_self
  refine (h.sub (List.sublist_cons_self r L)).keep a ha fun k hk => ?_
  have e := hf k hk
  refine ⟨(hr.1.lt k e).2, hr.2 k e, fun x hx hxk => ?_⟩
  obtain ⟨j, hj, rfl⟩ := List.mem_iff_getElem.1 hx
  exact nd_other h.nd (i := 0) (j := j + 1) rfl (by simp [List.getElem?_eq_getElem hj]) (by omega) e hxk
theorem St.get (h : St W0 w F L I) (i : Nat) {a : Inv} (hi : I[i]? = some a) : a.holds w := (h.inv a (List.mem_of_getElem? hi)).1
end

section
variable {P : Program} {W0 w : World} {F : Nat → Prop} {L : List Res} {I : List Inv} {K : Value → World → Prop}
theorem St.fill (h : St W0 w F L I) (i : Nat) {b : Nat} {z cs : Array Value} {t : TypeId} (hi : L[i]? = some (.blk b z t)) (hs : z.size = cs.size) : St W0 (w.fill b cs) F (L.set i (.blk b cs t)) I :=
  h.upd i hi ((Chg.refl _ w).fill fun _ => rfl) _ ⟨(h.blk i hi).fill hs, (h.low i hi).1⟩ fun k hk => .inl hk
/-- An empty slice, written out. -/
theorem bsW_none {t e size bytes : Nat} {z : Value} (hm : mkI P t = some (e, size, bytes, z)) (hK : K (.slice (some ⟨w.heap.size, 0, none⟩) 0 0) (w.alloc (.cells #[] e))) : bsW P t 0 [] [] w K := by
  obtain ⟨i, hu, hi, hzz, rfl, rfl⟩ := mkI_some hm
  refine ⟨_, _, ?_, hK⟩
  simp [Instr.buildSlice, Sem.run_bind, run_underlying hu, Result.andThen, run_sizeOf w hi, zipP, Instr.fill, newRow, run_newObj_alloc]
  congr 2
  exact Array.eq_empty_of_size_eq_zero (by simp)
theorem St.emptyRow (h : St W0 w F L I) (e sz : Nat) : St W0 (w.alloc (.cells #[] e)) F (.row (.slice (some ⟨w.heap.size, 0, none⟩) 0 0) e sz 0 [] :: L) I :=
  h.add ((Below.refl _ w).alloc (Nat.le_refl _) _) _ (by
    refine ⟨by simp, .inr ⟨w.heap.size, 0, #[], rfl, h.size, Blk.new, Nat.le_refl _, Nat.zero_le _, by simp, by simp⟩⟩) fun k hk => by simp only [Res.own, Value.ownBlock, Option.some.injEq] at hk; omega
theorem own_slice {base e sz n : Nat} {v : Value} {xs : List Value} (h : w.ownsRow base e sz v n xs) : ∃ a cap, v = .slice a n cap ∧ n ≤ cap := by
  rcases h.2 with ⟨rfl, rfl⟩ | ⟨g, cap, cur, rfl, _, _, hn, _⟩
  · exact ⟨none, 0, rfl, Nat.le_refl _⟩
  · exact ⟨_, cap, rfl, hn⟩
theorem rawB_append0 {t ty e size bytes : Nat} {z : Value} {cs : Array Bool} {a a' : Option Addr} {n cap c : Nat}
    (hm : mkI P t = some (e, size, bytes, z)) (hle : n ≤ cap) (hK : K (.slice a n cap) w) : rawB P .append #[t, t] ty cs [.slice a n cap, .slice a' 0 c] w K := by
  obtain ⟨i, hu, hi, hzz, hsi, hby⟩ := mkI_some hm
  refine ⟨_, w, ?_, hK⟩
  cases a <;> cases a' <;> simp [builtin, Builtin.append_, run_underlying hu, sizeOf, typeInfo, hi, Builtin.lenOf, Builtin.firstCells, loadCells, loadCellsFrom, hle, storeCells]
/-- An append of what can be read onto a row of the walk's own. -/
theorem St.append {t ty e sz bytes : Nat} {z : Value} {cs : Array Bool} {n m : Nat} {v x : Value} {xs ys : List Value} (h : St W0 w F L I) (i : Nat) (hi : L[i]? = some (.row v e sz n xs))
    (hm : mkI P t = some (e, sz, bytes, z)) (hzs : z.cells.size = sz) (hsz : 0 < sz) (hx : Rd w sz x m ys) (h1 : ∀ u ∈ ys, u.oneCell' = true) (hbytes : (n + m) * bytes ≤ 140737488355328) (h63 : n + m ≤ 9223372036854775807)
    (hK : ∀ v' w', St W0 w' F (L.set i (.row v' e sz (n + m) (xs ++ ys))) I → Chg (fun k => v.ownBlock = some k) w w' → K v' w') : rawB P .append #[t, t] ty cs [v, x] w K := by
  have hr := h.row i hi
  obtain ⟨hl, a, c, rfl, hac, hcell⟩ := hx
  obtain ⟨a', cap', rfl, hac'⟩ := own_slice hr
  rcases Nat.eq_zero_or_pos m with hm0 | hm0
  · subst hm0
    have hy : ys = [] := List.eq_nil_of_length_eq_zero (by rw [hl]; simp)
    subst hy
    refine rawB_append0 hm hac' (hK _ _ ?_ (Chg.refl _ _))
    rw [List.append_nil, Nat.add_zero]
    have : L.set i (.row (.slice a' n cap') e sz n xs) = L := by
      apply List.ext_getElem?
      intro j
      rw [List.getElem?_set]
      split
      · rename_i e; subst e; rw [hi]; simp [(List.getElem?_eq_some_iff.1 hi).1]
      · rfl
    rw [this]; exact h
  · obtain ⟨ad, rfl, hc⟩ := hcell (by omega)
    refine rawB_append hm hzs hsz hr hl hc h1 hm0 hbytes h63 h.size ?_
    intro g cap w' hown hgr hg hlt
    refine hK _ _ (h.grow i hi hgr hown fun k hk => ?_) ((Chg.refl _ w).grown hgr fun k hk _ => hk)
    simp only [Value.ownBlock, Option.some.injEq] at hk
    subst hk
    exact hg.imp id fun e => Nat.le_of_eq e.symm
/-- A slice that was just written out. -/
theorem rd_new {t : TypeId} {sz n : Nat} {cs : Array Value} (hs : cs.size = n * sz) : Rd (w.alloc (.cells cs t)) sz (.slice (some ⟨w.heap.size, 0, none⟩) n n) n cs.toList :=
  ⟨by simpa using hs, _, n, rfl, Nat.le_refl _, fun _ => ⟨_, rfl, fun j u hu => by rw [Addr.add_lit, Nat.zero_add, cA_new rfl]; simpa using hu⟩⟩
end

theorem RdS.of_own' {α : Type} {w : World} {B e sz n : Nat} {enc : α → List Value} {v : Value} {ys : List Value} (h : w.ownsRow B e sz v n ys) (xs : List α) (hn : n = xs.length) (hy : ys = xs.flatMap enc) : RdS w sz enc v xs := by
  subst hn hy; exact RdS.of_own h
/-- The block that a slice with elements lies in. -/
def slFoot (v : Value) (k : Nat) : Prop := ∃ a n c, v = .slice (some a) n c ∧ n ≠ 0 ∧ k = a.block
theorem slFoot_none {n c k : Nat} : ¬ slFoot (.slice none n c) k := by rintro ⟨_, _, _, h, _⟩; cases h
theorem slFoot_zero {a : Option Addr} {c k : Nat} : ¬ slFoot (.slice a 0 c) k := by
  rintro ⟨_, _, _, h, h0, _⟩
  simp only [Value.slice.injEq] at h
  exact h0 h.2.1.symm
theorem slFoot_own {v : Value} {k : Nat} (h : slFoot v k) : v.ownBlock = some k := by
  obtain ⟨a, n, c, rfl, _, rfl⟩ := h; rfl
theorem Rd.loc {w w' : World} {sz n : Nat} {v : Value} {xs : List Value} (h : Rd w sz v n xs) (hk : ∀ k, slFoot v k → w'.heap[k]? = w.heap[k]?) : Rd w' sz v n xs := by
  obtain ⟨h1, a, cap, rfl, h2, h3⟩ := h
  refine ⟨h1, a, cap, rfl, h2, fun hn => ?_⟩
  obtain ⟨ad, rfl, h4⟩ := h3 hn
  exact ⟨ad, rfl, fun j u hu => (World.cell?_of_block (hk _ (by rw [add_block]; exact ⟨_, _, _, rfl, hn, rfl⟩))).trans (h4 j u hu)⟩
theorem Rd.footLt {w : World} {sz n : Nat} {v : Value} {xs : List Value} (h : Rd w sz v n xs) (hs : 0 < sz) {k : Nat} (hk : slFoot v k) : k < w.heap.size := by
  obtain ⟨h1, a, cap, rfl, h2, h3⟩ := h
  obtain ⟨a', n', c', e, hn, rfl⟩ := hk
  simp only [Value.slice.injEq] at e
  obtain ⟨rfl, rfl, rfl⟩ := e
  obtain ⟨ad, e, h4⟩ := h3 hn
  simp only [Option.some.injEq] at e; subst e
  have h0 : 0 < xs.length := by rw [h1]; exact Nat.mul_pos (Nat.pos_of_ne_zero hn) hs
  have := World.block_lt_of_cell? w _ (h4 0 xs[0] (List.getElem?_eq_getElem h0))
  rwa [add_block] at this
theorem RdS.footLt {α : Type} {w : World} {sz : Nat} {enc : α → List Value} {v : Value} {xs : List α} (h : RdS w sz enc v xs) (hs : 0 < sz) {k : Nat} (hk : slFoot v k) : k < w.heap.size := Rd.footLt h hs hk
theorem RdS.loc {α : Type} {w w' : World} {sz : Nat} {enc : α → List Value} {v : Value} {xs : List α} (h : RdS w sz enc v xs) (hk : ∀ k, slFoot v k → w'.heap[k]? = w.heap[k]?) : RdS w' sz enc v xs := Rd.loc h hk
/-- A slice that can be read, and that nobody writes. -/
def Inv.rd {α : Type} (sz : Nat) (enc : α → List Value) (v : Value) (xs : List α) : Inv := ⟨fun w => RdS w sz enc v xs, slFoot v, fun _ _ h hk => Rd.loc h hk⟩
section
variable {W0 w w' : World} {F : Nat → Prop} {L : List Res} {I : List Inv} {α : Type} {sz : Nat} {enc : α → List Value} {v : Value} {xs : List α}
/-- A slice that was handed in, or made by a call, or part of what stays. -/
theorem St.addRd (h : St W0 w F L I) (hb : Below w.heap.size w w') (hr : RdS w' sz enc v xs) (hs : 0 < sz) (hf : ∀ k, slFoot v k → k < W0.heap.size ∨ (∃ a ∈ I, a.foot k) ∨ w.heap.size ≤ k) : St W0 w' F L (.rd sz enc v xs :: I) := by
  refine (h.call hb).keep _ hr fun k hk => ⟨hr.footLt hs hk, fun hF => ?_, fun r hr' e => ?_⟩
  · have hF' := h.foot k hF
    rcases hf k hk with h1 | ⟨a, ha, h1⟩ | h1
    · omega
    · exact ((h.inv a ha).2 k h1).2.1 hF
    · omega
  · have hl := (h.res r hr').1.lt k e
    rcases hf k hk with h1 | ⟨a, ha, h1⟩ | h1
    · omega
    · exact ((h.inv a ha).2 k h1).2.2 r hr' e
    · omega
/-- A slice that was handed in. -/
theorem St.old (h : St W0 w F L I) (hr : RdS W0 sz enc v xs) (hs : 0 < sz) : St W0 w F L (.rd sz enc v xs :: I) :=
  h.addRd (Below.refl _ _) (hr.below h.bel hs) hs fun k hk => .inl (hr.footLt hs hk)
theorem St.rd (h : St W0 w F L I) (i : Nat) (hi : I[i]? = some (.rd sz enc v xs)) : RdS w sz enc v xs := h.get i hi
end
end Go.Ann
