/- Texts put together by program. -/
import Derived.Test.YtmdhcpghofadcaaQE1
namespace Go.Ann
open Go Go.RowKit Go.WideShapes
set_option linter.unusedVariables false
set_option linter.unusedSimpArgs false
inductive Res where
  | blk (b : Nat) (cs : Array Value) (t : TypeId)
  | row (v : Value) (e sz n : Nat) (xs : List Value)
  | obj (b : Nat) (o : Obj)
def Res.own : Res → Option Nat
  | .blk b _ _ => some b
  | .row v _ _ _ _ => v.ownBlock
  | .obj b _ => some b
def Res.ok (w : World) (base : Nat) : Res → Prop
  | .blk b cs t => Blk w b cs t ∧ base ≤ b
  | .row v e sz n xs => w.ownsRow base e sz v n xs
  | .obj b o => w.heap[b]? = some o ∧ base ≤ b
structure Inv where
  holds : World → Prop
  foot : Nat → Prop
  loc : ∀ w w' : World, holds w → (∀ k, foot k → w'.heap[k]? = w.heap[k]?) → holds w'
structure St (W0 w : World) (F : Nat → Prop) (L : List Res) (I : List Inv) : Prop where
  bel : Below W0.heap.size W0 w
  foot : ∀ k, F k → W0.heap.size ≤ k ∧ k < w.heap.size
  res : ∀ r ∈ L, r.ok w W0.heap.size ∧ ∀ k, r.own = some k → ¬ F k
  nd : (L.filterMap Res.own).Nodup
  inv : ∀ a ∈ I, a.holds w ∧ ∀ k, a.foot k → k < w.heap.size ∧ ¬ F k ∧ ∀ r ∈ L, r.own ≠ some k
theorem Res.ok.lt {w : World} {base : Nat} {r : Res} (h : r.ok w base) : ∀ k, r.own = some k → base ≤ k ∧ k < w.heap.size := by
  intro k hk
  cases r with
  | blk b cs t => simp only [Res.own, Option.some.injEq] at hk; subst hk; exact ⟨h.2, h.1.lt⟩
  | row v e sz n xs => exact World.ownsRow.lt h k hk
  | obj b o => simp only [Res.own, Option.some.injEq] at hk; subst hk; exact ⟨h.2, (Array.getElem?_eq_some_iff.1 h.1).1⟩
theorem Res.ok.chg {S : Nat → Prop} {w w' : World} {base : Nat} {r : Res} (h : r.ok w base) (hc : Chg S w w') (hS : ∀ k, r.own = some k → ¬ S k) : r.ok w' base := by
  cases r with
  | blk b cs t => exact ⟨h.1.chg hc (hS b rfl), h.2⟩
  | row v e sz n xs => exact hc.own h hS
  | obj b o => exact ⟨(hc.block b (Array.getElem?_eq_some_iff.1 h.1).1 (hS b rfl)).trans h.1, h.2⟩
section
variable {W0 w w' : World} {F F' : Nat → Prop} {L : List Res} {I : List Inv}
theorem St.start : St W0 W0 (fun _ => False) [] [] := ⟨Below.refl _ _, fun _ h => h.elim, fun _ h => (by cases h), List.Pairwise.nil, fun _ h => (by cases h)⟩
theorem St.size (h : St W0 w F L I) : W0.heap.size ≤ w.heap.size := h.bel.size
theorem St.below (h : St W0 w F L I) {B : Nat} (hb : Below B w w') (hB : w.heap.size ≤ B) : St W0 w' F L I :=
  have hc : Chg (fun _ => False) w w' := Chg.of_below (hb.mono hB)
  ⟨h.bel.trans (hb.mono (Nat.le_trans h.size hB)), fun k hk => ⟨(h.foot k hk).1, Nat.lt_of_lt_of_le (h.foot k hk).2 hb.size⟩, fun r hr => ⟨(h.res r hr).1.chg hc fun _ _ h => h, (h.res r hr).2⟩, h.nd,
    fun a ha => ⟨a.loc _ _ (h.inv a ha).1 fun k hk => hb.block k (Nat.lt_of_lt_of_le ((h.inv a ha).2 k hk).1 hB), fun k hk => ⟨Nat.lt_of_lt_of_le ((h.inv a ha).2 k hk).1 hb.size, ((h.inv a ha).2 k hk).2⟩⟩⟩
theorem St.call (h : St W0 w F L I) (hb : Below w.heap.size w w') : St W0 w' F L I := h.below hb (Nat.le_refl _)
theorem St.drew (h : St W0 w F L I) : St W0 w.drew F L I := h.below ((Below.refl _ w).drew) (Nat.le_refl _)
theorem St.alloc' (h : St W0 w F L I) (o : Obj) : St W0 (w.alloc o) F L I := h.below ((Below.refl w.heap.size w).alloc (Nat.le_refl _) o) (Nat.le_refl _)
theorem fresh_nd {L : List Res} {r : Res} (hn : (L.filterMap Res.own).Nodup) (hr : ∀ k, r.own = some k → ∀ x ∈ L, x.own ≠ some k) : ((r :: L).filterMap Res.own).Nodup := by
  cases hk : r.own with
  | none => rw [List.filterMap_cons_none hk]; exact hn
  | some k =>
    rw [List.filterMap_cons_some hk]
    refine List.nodup_cons.2 ⟨fun hm => ?_, hn⟩
    obtain ⟨x, hx, hxk⟩ := List.mem_filterMap.1 hm
    exact hr k hk x hx hxk
theorem St.add (h : St W0 w F L I) (hb : Below w.heap.size w w') (r : Res) (hr : r.ok w' W0.heap.size) (hn : ∀ k, r.own = some k → w.heap.size ≤ k) : St W0 w' F (r :: L) I := by
  have h' := h.call hb
  refine ⟨h'.bel, h'.foot, ?_, fresh_nd h.nd fun k hk x hx hxk => ?_, fun a ha => ⟨(h'.inv a ha).1, fun k hk => ⟨((h'.inv a ha).2 k hk).1, ((h'.inv a ha).2 k hk).2.1, ?_⟩⟩⟩
  · intro x hx
    rcases List.mem_cons.1 hx with rfl | hx
    · exact ⟨hr, fun k hk hF => by have := (h.foot k hF).2; have := hn k hk; omega⟩
    · exact h'.res x hx
  · have := ((h.res x hx).1.lt k hxk).2; have := hn k hk; omega
  · intro x hx
    rcases List.mem_cons.1 hx with rfl | hx
    · intro e
      have := hn k e
      have := ((h.inv a ha).2 k hk).1
      omega
    · exact ((h'.inv a ha).2 k hk).2.2 x hx
theorem St.box (h : St W0 w F L I) (cs : Array Value) (t : TypeId) : St W0 (w.alloc (.cells cs t)) F (.blk w.heap.size cs t :: L) I :=
  h.add ((Below.refl _ w).alloc (Nat.le_refl _) _) _ ⟨Blk.new, h.size⟩ fun k hk => by simp only [Res.own, Option.some.injEq] at hk; omega
theorem St.nilRow (h : St W0 w F L I) (e sz : Nat) : St W0 w F (.row (.slice none 0 0) e sz 0 [] :: L) I :=
  h.add (Below.refl _ w) _ (World.ownsRow_nil _ _ _ _) fun k hk => by simp [Res.own, Value.ownBlock] at hk
theorem St.sub (h : St W0 w F L I) {L' : List Res} (hs : L'.Sublist L) : St W0 w F L' I :=
  ⟨h.bel, h.foot, fun r hr => h.res r (hs.subset hr), h.nd.sublist (hs.filterMap _), fun a ha => ⟨(h.inv a ha).1, fun k hk => ⟨((h.inv a ha).2 k hk).1, ((h.inv a ha).2 k hk).2.1, fun r hr => ((h.inv a ha).2 k hk).2.2 r (hs.subset hr)⟩⟩⟩
theorem St.perm (h : St W0 w F L I) {L' : List Res} (hs : L'.Perm L) : St W0 w F L' I :=
  ⟨h.bel, h.foot, fun r hr => h.res r (hs.subset hr), (hs.filterMap _).nodup_iff.2 h.nd, fun a ha => ⟨(h.inv a ha).1, fun k hk => ⟨((h.inv a ha).2 k hk).1, ((h.inv a ha).2 k hk).2.1, fun r hr => ((h.inv a ha).2 k hk).2.2 r (hs.subset hr)⟩⟩⟩
theorem St.inv_sub (h : St W0 w F L I) {I' : List Inv} (hs : ∀ a ∈ I', a ∈ I) : St W0 w F L I' := ⟨h.bel, h.foot, h.res, h.nd, fun a ha => h.inv a (hs a ha)⟩
theorem nd_other {L : List Res} (hn : (L.filterMap Res.own).Nodup) {i j : Nat} {r x : Res} (hi : L[i]? = some r) (hj : L[j]? = some x) (hij : i ≠ j) {k : Nat} (hr : r.own = some k) : x.own ≠ some k := by
  intro hx
  induction L generalizing i j with
  | nil => simp at hi
  | cons y l ih =>
    match i, j, hi, hj, hij with
    | 0, 0, _, _, h => exact h rfl
    | 0, j + 1, hi, hj, _ =>
      simp only [List.getElem?_cons_zero, Option.some.injEq] at hi; subst hi
      simp only [List.getElem?_cons_succ] at hj
      rw [List.filterMap_cons_some hr] at hn
      exact (List.nodup_cons.1 hn).1 (List.mem_filterMap.2 ⟨x, List.mem_of_getElem? hj, hx⟩)
    | i + 1, 0, hi, hj, _ =>
      simp only [List.getElem?_cons_zero, Option.some.injEq] at hj; subst hj
      simp only [List.getElem?_cons_succ] at hi
      rw [List.filterMap_cons_some hx] at hn
      exact (List.nodup_cons.1 hn).1 (List.mem_filterMap.2 ⟨r, List.mem_of_getElem? hi, hr⟩)
    | i + 1, j + 1, hi, hj, h =>
      simp only [List.getElem?_cons_succ] at hi hj
      refine ih ?_ hi hj (by omega)
      cases hy : y.own with
      | none => rw [List.filterMap_cons_none hy] at hn; exact hn
      | some m => rw [List.filterMap_cons_some hy] at hn; exact (List.nodup_cons.1 hn).2
theorem nd_set {L : List Res} {i : Nat} {r r' : Res} (hn : (L.filterMap Res.own).Nodup) (hi : L[i]? = some r) (h : ∀ k, r'.own = some k → r.own = some k ∨ ∀ x ∈ L, x.own ≠ some k) : ((L.set i r').filterMap Res.own).Nodup := by
  induction L generalizing i with
  | nil => simp at hi
  | cons y l ih =>
    match i, hi with
    | 0, hi =>
      simp only [List.getElem?_cons_zero, Option.some.injEq] at hi; subst hi
      simp only [List.set_cons_zero]
      have hl : (l.filterMap Res.own).Nodup := by
        cases hy : y.own with
        | none => rw [List.filterMap_cons_none hy] at hn; exact hn
        | some m => rw [List.filterMap_cons_some hy] at hn; exact (List.nodup_cons.1 hn).2
      refine fresh_nd hl fun k hk x hx => ?_
      rcases h k hk with h1 | h1
      · intro e
        rw [List.filterMap_cons_some h1] at hn
        exact (List.nodup_cons.1 hn).1 (List.mem_filterMap.2 ⟨x, hx, e⟩)
      · exact h1 x (List.mem_cons_of_mem _ hx)
    | i + 1, hi =>
      simp only [List.getElem?_cons_succ] at hi
      simp only [List.set_cons_succ]
      have hl : (l.filterMap Res.own).Nodup := by
        cases hy : y.own with
        | none => rw [List.filterMap_cons_none hy] at hn; exact hn
        | some m => rw [List.filterMap_cons_some hy] at hn; exact (List.nodup_cons.1 hn).2
      refine fresh_nd (ih hl hi fun k hk => (h k hk).imp id fun h1 x hx => h1 x (List.mem_cons_of_mem _ hx)) fun k hk x hx => ?_
      intro e
      obtain ⟨j, hj, hjx⟩ := List.mem_iff_getElem.1 hx
      rw [List.getElem_set] at hjx
      split at hjx
      · subst hjx
        rcases h k e with h1 | h1
        · have : (y :: l)[0]? = some y := rfl
          exact nd_other hn (i := i + 1) (j := 0) (by simpa using hi) this (by omega) h1 hk
        · exact h1 y List.mem_cons_self hk
      · rw [List.filterMap_cons_some hk] at hn
        subst hjx
        exact (List.nodup_cons.1 hn).1 (List.mem_filterMap.2 ⟨_, List.getElem_mem _, e⟩)
theorem St.upd (h : St W0 w F L I) (i : Nat) {r : Res} (hi : L[i]? = some r) (hc : Chg (fun k => r.own = some k) w w') (r' : Res) (hr : r'.ok w' W0.heap.size) (hn : ∀ k, r'.own = some k → r.own = some k ∨ w.heap.size ≤ k) : St W0 w' F (L.set i r') I := by
  have hm := List.mem_of_getElem? hi
  have hlow := fun k hk => ((h.res r hm).1.lt k hk)
  have hset : ∀ x ∈ L.set i r', x = r' ∨ ∃ j, j ≠ i ∧ L[j]? = some x := by
    intro x hx
    obtain ⟨j, hj, hjx⟩ := List.mem_iff_getElem.1 hx
    rw [List.getElem_set] at hjx
    split at hjx
    · exact .inl hjx.symm
    · rename_i hij
      exact .inr ⟨j, fun e => hij e.symm, by rw [← hjx]; exact List.getElem?_eq_getElem (by simpa using hj)⟩
  have hF : ∀ k, r'.own = some k → ¬ F k := fun k hk hF => by
    rcases hn k hk with h1 | h1
    · exact (h.res r hm).2 k h1 hF
    · have := (h.foot k hF).2; omega
  refine ⟨h.bel.trans (hc.below h.size fun k hk hS => by have := (hlow k hS).1; omega), fun k hk => ⟨(h.foot k hk).1, Nat.lt_of_lt_of_le (h.foot k hk).2 hc.size⟩, ?_, nd_set h.nd hi fun k hk => ?_, ?_⟩
  · intro x hx
    rcases hset x hx with rfl | ⟨j, hji, hj⟩
    · exact ⟨hr, hF⟩
    · have hx' := List.mem_of_getElem? hj
      exact ⟨(h.res x hx').1.chg hc fun k hk hrk => nd_other h.nd hi hj (Ne.symm hji) hrk hk, (h.res x hx').2⟩
  · rcases hn k hk with h1 | h1
    · exact .inl h1
    · exact .inr fun x hx hxk => by have := ((h.res x hx).1.lt k hxk).2; omega
  · intro a ha
    refine ⟨a.loc _ _ (h.inv a ha).1 fun k hk => hc.block k ((h.inv a ha).2 k hk).1 (((h.inv a ha).2 k hk).2.2 r hm), fun k hk => ⟨Nat.lt_of_lt_of_le ((h.inv a ha).2 k hk).1 hc.size, ((h.inv a ha).2 k hk).2.1, fun x hx => ?_⟩⟩
    rcases hset x hx with rfl | ⟨j, hji, hj⟩
    · intro e
      rcases hn k e with h1 | h1
      · exact ((h.inv a ha).2 k hk).2.2 r hm h1
      · have := ((h.inv a ha).2 k hk).1; omega
    · exact ((h.inv a ha).2 k hk).2.2 x (List.mem_of_getElem? hj)
theorem St.blk (h : St W0 w F L I) (i : Nat) {b : Nat} {cs : Array Value} {t : TypeId} (hi : L[i]? = some (.blk b cs t)) : Blk w b cs t := (h.res _ (List.mem_of_getElem? hi)).1.1
theorem St.low (h : St W0 w F L I) (i : Nat) {b : Nat} {cs : Array Value} {t : TypeId} (hi : L[i]? = some (.blk b cs t)) : W0.heap.size ≤ b ∧ b < w.heap.size := ⟨(h.res _ (List.mem_of_getElem? hi)).1.2, (h.blk i hi).lt⟩
theorem St.row (h : St W0 w F L I) (i : Nat) {v : Value} {e sz n : Nat} {xs : List Value} (hi : L[i]? = some (.row v e sz n xs)) : w.ownsRow W0.heap.size e sz v n xs := (h.res _ (List.mem_of_getElem? hi)).1
theorem St.obj (h : St W0 w F L I) (i : Nat) {b : Nat} {o : Obj} (hi : L[i]? = some (.obj b o)) : w.heap[b]? = some o := (h.res _ (List.mem_of_getElem? hi)).1.1
theorem St.lay (h : St W0 w F L I) (o : Obj) : St W0 (w.alloc o) F (.obj w.heap.size o :: L) I :=
  h.add ((Below.refl _ w).alloc (Nat.le_refl _) _) _ ⟨World.alloc_heap_new w o, h.size⟩ fun k hk => by simp only [Res.own, Option.some.injEq] at hk; omega
theorem St.putObj (h : St W0 w F L I) (i : Nat) {b : Nat} {o : Obj} (hi : L[i]? = some (.obj b o)) (o' : Obj) : St W0 (w.putObj b o') F (L.set i (.obj b o')) I :=
  h.upd i hi ((Chg.refl _ w).grown (grownBy_putObj' w b o') fun k hk _ => hk) (.obj b o')
    ⟨World.putObj_heap_same (Array.getElem?_eq_some_iff.1 (h.obj i hi)).1, (h.res _ (List.mem_of_getElem? hi)).1.2⟩ fun k hk => .inl hk
theorem St.ne (h : St W0 w F L I) (i j : Nat) {r x : Res} (hi : L[i]? = some r) (hj : L[j]? = some x) (hij : i ≠ j) {k : Nat} (hr : r.own = some k) : x.own ≠ some k := nd_other h.nd hi hj hij hr
theorem St.rules (h : St W0 w F L I) (i : Nat) {b : Nat} {cs : Array Value} {t : TypeId} (hi : L[i]? = some (.blk b cs t)) : (∀ i, w.cell? ⟨b, i, none⟩ = cs[i]?) ∧ (∀ i, w.frozen? ⟨b, i, none⟩ = false) ∧ (∀ n, okSize cs n = true → cellsO w ⟨b, 0, none⟩ 0 n = some cs.toList) := (h.blk i hi).rules
theorem St.set (h : St W0 w F L I) (i : Nat) {b : Nat} {cs : Array Value} {t : TypeId} (hi : L[i]? = some (.blk b cs t)) (j : Nat) (v : Value) : St W0 (w.setCell ⟨b, j, none⟩ v) F (L.set i (.blk b (cs.setIfInBounds j v) t)) I :=
  h.upd i hi ((Chg.refl _ w).setCell _ _ fun _ => rfl) _ ⟨(h.blk i hi).set j v, (h.low i hi).1⟩ fun k hk => .inl hk
theorem St.grow (h : St W0 w F L I) (i : Nat) {v v' : Value} {e sz n n' : Nat} {xs xs' : List Value} (hi : L[i]? = some (.row v e sz n xs)) (hg : w.grownBy w' v.ownBlock) (hr : w'.ownsRow W0.heap.size e sz v' n' xs')
    (hn : ∀ k, v'.ownBlock = some k → v.ownBlock = some k ∨ w.heap.size ≤ k) : St W0 w' F (L.set i (.row v' e sz n' xs')) I :=
  h.upd i hi ((Chg.refl _ w).grown hg fun k hk _ => hk) (.row v' e sz n' xs') hr hn
theorem St.put (h : St W0 w F L I) (i : Nat) {g cap : Nat} {e sz n : Nat} {xs : List Value} (hi : L[i]? = some (.row (.slice (some ⟨g, 0, none⟩) n cap) e sz n xs)) (j : Nat) (u : Value) :
    St W0 (w.setCell ⟨g, j, none⟩ u) F (L.set i (.row (.slice (some ⟨g, 0, none⟩) n cap) e sz n (xs.set j u))) I :=
  h.upd i hi ((Chg.refl _ w).setCell ⟨g, j, none⟩ u fun _ => rfl) (.row (.slice (some ⟨g, 0, none⟩) n cap) e sz n (xs.set j u)) ((h.row i hi).stored j u).1 fun k hk => .inl hk
theorem St.keep (h : St W0 w F L I) (a : Inv) (ha : a.holds w) (hf : ∀ k, a.foot k → k < w.heap.size ∧ ¬ F k ∧ ∀ r ∈ L, r.own ≠ some k) : St W0 w F L (a :: I) :=
  ⟨h.bel, h.foot, h.res, h.nd, fun x hx => by
    rcases List.mem_cons.1 hx with rfl | hx
    · exact ⟨ha, hf⟩
    · exact h.inv x hx⟩
theorem St.made (h : St W0 w F L I) (hb : Below w.heap.size w w') (a : Inv) (ha : a.holds w') (hf : ∀ k, a.foot k → w.heap.size ≤ k ∧ k < w'.heap.size) : St W0 w' F L (a :: I) := by
  refine (h.call hb).keep a ha fun k hk => ⟨(hf k hk).2, fun hF => ?_, fun r hr e => ?_⟩
  · have := (h.foot k hF).2; have := (hf k hk).1; omega
  · have := ((h.res r hr).1.lt k e).2; have := (hf k hk).1; omega
theorem St.seal {r : Res} (h : St W0 w F (r :: L) I) (a : Inv) (ha : a.holds w) (hf : ∀ k, a.foot k → r.own = some k) : St W0 w F L (a :: I) := by
  have hr := h.res r List.mem_cons_self
  refine (h.sub (List.sublist_cons_self r L)).keep a ha fun k hk => ?_
  have e := hf k hk
  refine ⟨(hr.1.lt k e).2, hr.2 k e, fun x hx hxk => ?_⟩
  obtain ⟨j, hj, rfl⟩ := List.mem_iff_getElem.1 hx
  exact nd_other h.nd (i := 0) (j := j + 1) rfl (by simp [List.getElem?_eq_getElem hj]) (by omega) e hxk
theorem St.get (h : St W0 w F L I) (i : Nat) {a : Inv} (hi : I[i]? = some a) : a.holds w := (h.inv a (List.mem_of_getElem? hi)).1
end
section
variable {P : Program} {W0 w : World} {F : Nat → Prop} {L : List Res} {I : List Inv} {K : Value → World → Prop}
theorem St.fill (h : St W0 w F L I) (i : Nat) {b : Nat} {z cs : Array Value} {t : TypeId} (hi : L[i]? = some (.blk b z t)) (hs : z.size = cs.size) : St W0 (w.fill b cs) F (L.set i (.blk b cs t)) I :=
  h.upd i hi ((Chg.refl _ w).fill fun _ => rfl) _ ⟨(h.blk i hi).fill hs, (h.low i hi).1⟩ fun k hk => .inl hk
theorem bsW_none {t e size bytes : Nat} {z : Value} (hm : mkI P t = some (e, size, bytes, z)) (hK : K (.slice (some ⟨w.heap.size, 0, none⟩) 0 0) (w.alloc (.cells #[] e))) : bsW P t 0 [] [] w K := by
  obtain ⟨i, hu, hi, hzz, rfl, rfl⟩ := mkI_some hm
  refine ⟨_, _, ?_, hK⟩
  simp [Instr.buildSlice, Sem.run_bind, run_underlying hu, Result.andThen, run_sizeOf w hi, zipP, Instr.fill, newRow, run_newObj_alloc]
  congr 2
  exact Array.eq_empty_of_size_eq_zero (by simp)
theorem St.emptyRow (h : St W0 w F L I) (e sz : Nat) : St W0 (w.alloc (.cells #[] e)) F (.row (.slice (some ⟨w.heap.size, 0, none⟩) 0 0) e sz 0 [] :: L) I :=
  h.add ((Below.refl _ w).alloc (Nat.le_refl _) _) _ (by
    refine ⟨by simp, .inr ⟨w.heap.size, 0, #[], rfl, h.size, Blk.new, Nat.le_refl _, Nat.zero_le _, by simp, by simp⟩⟩) fun k hk => by simp only [Res.own, Value.ownBlock, Option.some.injEq] at hk; omega
theorem own_slice {base e sz n : Nat} {v : Value} {xs : List Value} (h : w.ownsRow base e sz v n xs) : ∃ a cap, v = .slice a n cap ∧ n ≤ cap := by
  rcases h.2 with ⟨rfl, rfl⟩ | ⟨g, cap, cur, rfl, _, _, hn, _⟩
  · exact ⟨none, 0, rfl, Nat.le_refl _⟩
  · exact ⟨_, cap, rfl, hn⟩
theorem rawB_append0 {t ty e size bytes : Nat} {z : Value} {cs : Array Bool} {a a' : Option Addr} {n cap c : Nat}
    (hm : mkI P t = some (e, size, bytes, z)) (hle : n ≤ cap) (hK : K (.slice a n cap) w) : rawB P .append #[t, t] ty cs [.slice a n cap, .slice a' 0 c] w K := by
  obtain ⟨i, hu, hi, hzz, hsi, hby⟩ := mkI_some hm
  refine ⟨_, w, ?_, hK⟩
  cases a <;> cases a' <;> simp [builtin, Builtin.append_, run_underlying hu, sizeOf, typeInfo, hi, Builtin.lenOf, Builtin.firstCells, loadCells, loadCellsFrom, hle, storeCells]
theorem St.append {t ty e sz bytes : Nat} {z : Value} {cs : Array Bool} {n m : Nat} {v x : Value} {xs ys : List Value} (h : St W0 w F L I) (i : Nat) (hi : L[i]? = some (.row v e sz n xs))
    (hm : mkI P t = some (e, sz, bytes, z)) (hzs : z.cells.size = sz) (hsz : 0 < sz) (hx : Rd w sz x m ys) (h1 : ∀ u ∈ ys, u.oneCell' = true) (hbytes : (n + m) * bytes ≤ 140737488355328) (h63 : n + m ≤ 9223372036854775807)
    (hK : ∀ v' w', St W0 w' F (L.set i (.row v' e sz (n + m) (xs ++ ys))) I → Chg (fun k => v.ownBlock = some k) w w' → K v' w') : rawB P .append #[t, t] ty cs [v, x] w K := by
  have hr := h.row i hi
  obtain ⟨hl, a, c, rfl, hac, hcell⟩ := hx
  obtain ⟨a', cap', rfl, hac'⟩ := own_slice hr
  rcases Nat.eq_zero_or_pos m with hm0 | hm0
  · subst hm0
    have hy : ys = [] := List.eq_nil_of_length_eq_zero (by rw [hl]; simp)
    subst hy
    refine rawB_append0 hm hac' (hK _ _ ?_ (Chg.refl _ _))
    rw [List.append_nil, Nat.add_zero]
    have : L.set i (.row (.slice a' n cap') e sz n xs) = L := by
      apply List.ext_getElem?
      intro j
      rw [List.getElem?_set]
      split
      · rename_i e; subst e; rw [hi]; simp [(List.getElem?_eq_some_iff.1 hi).1]
      · rfl
    rw [this]; exact h
  · obtain ⟨ad, rfl, hc⟩ := hcell (by omega)
    refine rawB_append hm hzs hsz hr hl hc h1 hm0 hbytes h63 h.size ?_
    intro g cap w' hown hgr hg hlt
    refine hK _ _ (h.grow i hi hgr hown fun k hk => ?_) ((Chg.refl _ w).grown hgr fun k hk _ => hk)
    simp only [Value.ownBlock, Option.some.injEq] at hk
    subst hk
    exact hg.imp id fun e => Nat.le_of_eq e.symm
theorem rd_new {t : TypeId} {sz n : Nat} {cs : Array Value} (hs : cs.size = n * sz) : Rd (w.alloc (.cells cs t)) sz (.slice (some ⟨w.heap.size, 0, none⟩) n n) n cs.toList :=
  ⟨by simpa using hs, _, n, rfl, Nat.le_refl _, fun _ => ⟨_, rfl, fun j u hu => by rw [Addr.add_lit, Nat.zero_add, cA_new rfl]; simpa using hu⟩⟩
end
theorem RdS.of_own' {α : Type} {w : World} {B e sz n : Nat} {enc : α → List Value} {v : Value} {ys : List Value} (h : w.ownsRow B e sz v n ys) (xs : List α) (hn : n = xs.length) (hy : ys = xs.flatMap enc) : RdS w sz enc v xs := by
  subst hn hy; exact RdS.of_own h
def slFoot (v : Value) (k : Nat) : Prop := ∃ a n c, v = .slice (some a) n c ∧ n ≠ 0 ∧ k = a.block
theorem slFoot_own {v : Value} {k : Nat} (h : slFoot v k) : v.ownBlock = some k := by
  obtain ⟨a, n, c, rfl, _, rfl⟩ := h; rfl
theorem Rd.loc {w w' : World} {sz n : Nat} {v : Value} {xs : List Value} (h : Rd w sz v n xs) (hk : ∀ k, slFoot v k → w'.heap[k]? = w.heap[k]?) : Rd w' sz v n xs := by
  obtain ⟨h1, a, cap, rfl, h2, h3⟩ := h
  refine ⟨h1, a, cap, rfl, h2, fun hn => ?_⟩
  obtain ⟨ad, rfl, h4⟩ := h3 hn
  exact ⟨ad, rfl, fun j u hu => (World.cell?_of_block (hk _ (by rw [add_block]; exact ⟨_, _, _, rfl, hn, rfl⟩))).trans (h4 j u hu)⟩
theorem Rd.footLt {w : World} {sz n : Nat} {v : Value} {xs : List Value} (h : Rd w sz v n xs) (hs : 0 < sz) {k : Nat} (hk : slFoot v k) : k < w.heap.size := by
  obtain ⟨h1, a, cap, rfl, h2, h3⟩ := h
  obtain ⟨a', n', c', e, hn, rfl⟩ := hk
  simp only [Value.slice.injEq] at e
  obtain ⟨rfl, rfl, rfl⟩ := e
  obtain ⟨ad, e, h4⟩ := h3 hn
  simp only [Option.some.injEq] at e; subst e
  have h0 : 0 < xs.length := by rw [h1]; exact Nat.mul_pos (Nat.pos_of_ne_zero hn) hs
  have := World.block_lt_of_cell? w _ (h4 0 xs[0] (List.getElem?_eq_getElem h0))
  rwa [add_block] at this
theorem RdS.footLt {α : Type} {w : World} {sz : Nat} {enc : α → List Value} {v : Value} {xs : List α} (h : RdS w sz enc v xs) (hs : 0 < sz) {k : Nat} (hk : slFoot v k) : k < w.heap.size := Rd.footLt h hs hk
def Inv.rd {α : Type} (sz : Nat) (enc : α → List Value) (v : Value) (xs : List α) : Inv := ⟨fun w => RdS w sz enc v xs, slFoot v, fun _ _ h hk => Rd.loc h hk⟩
section
variable {W0 w w' : World} {F : Nat → Prop} {L : List Res} {I : List Inv} {α : Type} {sz : Nat} {enc : α → List Value} {v : Value} {xs : List α}
end
end Go.Ann

namespace Go.Ann
open Go Go.RowKit
set_option linter.unusedVariables false
set_option linter.unusedSimpArgs false
section
variable {P : Program} {N : Nat}
def lowE : Env → Env
  | [] => []
  | (m, v) :: ρ => if m < 1000000 then (m, v) :: lowE ρ else lowE ρ
theorem lowE_nil : lowE [] = [] := rfl
theorem lowE_cons {m : Nat} {v : Value} {ρ : Env} : lowE ((m, v) :: ρ) = if m < 1000000 then (m, v) :: lowE ρ else lowE ρ := rfl
def zipE : List Nat → List Value → Env → Env
  | p :: ps, v :: vs, ρ => zipE ps vs ((p, v) :: ρ)
  | _, _, ρ => ρ
theorem zipE_nil {vs : List Value} {ρ : Env} : zipE [] vs ρ = ρ := by cases vs <;> rfl
theorem zipE_none {ps : List Nat} {ρ : Env} : zipE ps [] ρ = ρ := by cases ps <;> rfl
theorem zipE_cons {p : Nat} {ps : List Nat} {v : Value} {vs : List Value} {ρ : Env} : zipE (p :: ps) (v :: vs) ρ = zipE ps vs ((p, v) :: ρ) := rfl
attribute [go_sem] lowE_nil lowE_cons zipE_nil zipE_none zipE_cons
theorem marksD_lowE : ∀ ρ : Env, marksD (lowE ρ) = []
  | [] => rfl
  | (m, v) :: ρ => by
    simp only [lowE]
    split
    · rename_i h; simp only [marksD, if_pos h]; exact marksD_lowE ρ
    · exact marksD_lowE ρ
theorem lk_lowE : ∀ (ρ : Env) (n : Nat) (v : Value), lk (lowE ρ) n = some v → lk ρ n = some v
  | [], _, _, h => h
  | (m, u) :: ρ, n, v, h => by
    have low : ∀ (ρ : Env) (n : Nat) (v : Value), lk (lowE ρ) n = some v → n < 1000000 := by
      intro ρ
      induction ρ with
      | nil => intro n v h; simp [lowE, lk_emp] at h
      | cons x ρ ih =>
        obtain ⟨m, u⟩ := x
        intro n v h
        simp only [lowE] at h
        split at h
        · simp only [lk_if] at h
          split at h
          · omega
          · exact ih n v h
        · exact ih n v h
    simp only [lowE] at h
    split at h
    · simp only [lk_if] at h ⊢
      split at h
      · rename_i e; rw [if_pos e]; exact h
      · rename_i e; rw [if_neg e]; exact lk_lowE ρ n v h
    · rename_i hm
      have := low ρ n v h
      rw [lk_if, if_neg (by omega)]
      exact lk_lowE ρ n v h
theorem Sim.lowE {a : Act} {ρ : Env} (h : Sim N a ρ) : Sim N { tmps := a.tmps, defers := [] } (lowE ρ) :=
  ⟨h.size, h.small, by rw [marksD_lowE]; rfl, fun n v hv => h.slot n v (lk_lowE ρ n v hv)⟩
theorem Sim.zipE {a : Act} : ∀ (ps : List Nat) (vs : List Value) (ρ : Env) (t : Array Value), (∀ p ∈ ps, p < N) → Sim N { tmps := t, defers := a.defers } ρ → Sim N { tmps := (ps.zip vs).foldl (fun t (p, v) => t.setIfInBounds p v) t, defers := a.defers } (zipE ps vs ρ)
  | [], vs, ρ, t, _, h => by cases vs <;> exact h
  | p :: ps, [], ρ, t, _, h => h
  | p :: ps, v :: vs, ρ, t, hp, h => by
    simp only [List.zip_cons_cons, List.foldl_cons, Ann.zipE]
    exact Sim.zipE ps vs _ _ (fun q hq => hp q (List.mem_cons_of_mem _ hq)) (h.put (d := some p) (by simpa [okDst] using hp p List.mem_cons_self) v)
theorem Sim.mark {a : Act} {ρ : Env} (h : Sim N a ρ) (D : Nat) : Sim N { a with defers := { target := .collected D, args := #[] } :: a.defers } ((D + 1000000, undef) :: ρ) := by
  refine ⟨h.size, h.small, ?_, fun n v hv => ?_⟩
  · show _ :: a.defers = _
    rw [h.defers]
    simp only [marksD, if_neg (show ¬ D + 1000000 < 1000000 by omega), Nat.add_sub_cancel]
    rfl
  · simp only [lk_if] at hv
    split at hv
    · rename_i e
      simp only [Option.some.injEq] at hv; subst hv
      show a.tmps.getD n undef = undef
      rw [Array.getD_eq_getD_getElem?, Array.getElem?_eq_none (by rw [h.size]; have := h.small; omega)]; rfl
    · exact h.slot n v hv
theorem W_rangeF {g : Operand} {ps L : List Nat} {a b : Cmd} {ρ : Env} {w : World} {Q : Post} : W P (.rangeF g ps a b L) ρ w Q = RangeW P g ps a b ρ w (keepQ L Q) := (rfl)
theorem keepQ_normal {L : List Nat} {ρ : Env} {w : World} {Q : Post} : keepQ L Q .normal ρ w = Q .normal (restr L ρ) w := (rfl)
theorem keepQ_ret {L : List Nat} {ρ : Env} {w : World} {Q : Post} : keepQ L Q .ret ρ w = Q .ret ρ w := (rfl)
theorem keepQ_exit {L : List Nat} {ρ : Env} {w : World} {Q : Post} {i : Nat} : keepQ L Q (.exit i) ρ w = Q (.exit i) ρ w := (rfl)
theorem mark_beq {D n : Nat} : (D + 1000000 == n) = decide (D + 1000000 = n) := by rw [Bool.eq_iff_iff, beq_iff_eq, decide_eq_true_eq]
theorem marks_one {D : Nat} {v : Value} : marksD [(D + 1000000, v)] = [D] := by simp [marksD]
attribute [go_sem] W_rangeF mark_beq marks_one keepQ_normal keepQ_ret keepQ_exit
end
end Go.Ann

namespace Go.Ann
open Go Go.RowKit
def Gr (w w' : World) : Prop := Below w.heap.size w w' ∧ w.drawn ≤ w'.drawn
theorem Gr.refl (w : World) : Gr w w := ⟨Below.refl _ _, Nat.le_refl _⟩
theorem Gr.below {w w' : World} (h : Gr w w') : Below w.heap.size w w' := h.1
theorem Gr.trans {a b c : World} (h : Gr a b) (k : Gr b c) : Gr a c := ⟨Below.next h.1 k.1, Nat.le_trans h.2 k.2⟩
end Go.Ann

namespace Go.Ann
set_option linter.unusedSimpArgs false
set_option linter.unusedVariables false
open Go Go.RowKit
inductive ST where
  | nil
  | one (k i : Nat) (r : ST)
  | alt (i : Nat) (r q : ST)
  | stop
inductive GT where
  | nil
  | one (k : Nat) (x : Ins) (r : GT)
  | alt (x : Ins) (r q : GT)
  | stop
def insOf (l : List Oper) (i : Nat) : Option Ins :=
  match l[i]? with
  | none => none
  | some o => match stripG l o.guard with
    | some g => some ⟨o.dst, o.op, o.type, g⟩
    | none => none
def insT (l : List Oper) : ST → Option GT
  | .nil => some .nil
  | .stop => some .stop
  | .one k i r => match insOf l i, insT l r with
    | some x, some t => some (.one k x t)
    | _, _ => none
  | .alt i r q => match insOf l i, insT l r, insT l q with
    | some x, some t, some u => some (.alt x t u)
    | _, _, _ => none
def ST.heads : ST → List Nat
  | .alt i _ q => i :: q.heads
  | _ => []
def schedT (ops : Array Oper) (hb : List Nat) : ST → Nat → Bool → Array Bool → Bool
  | .nil, n, top, listed => top && n == 0 && (Region.ready .any ops listed).isEmpty
  | .one 0 i r, n, top, listed => top && n != 0 && (Region.ready .any ops listed).contains i && Region.free .any ops listed i && schedT ops hb r (n - 1) true (listed.setIfInBounds i true)
  | .one 1 i r, n, top, listed => top && n != 0 && hb.contains i && (Region.ready .any ops listed).contains i && Region.free .any ops listed i && schedT ops hb r (n - 1) true (listed.setIfInBounds i true)
  | .one 2 i r, n, top, listed => top && n != 0 && (Region.ready .any ops listed == [i]) && schedT ops hb r (n - 1) true (listed.setIfInBounds i true)
  | .one (_ + 3) _ _, _, _, _ => false
  | .alt i r q, n, top, listed => (!top || Region.ready .any ops listed == i :: q.heads) && n != 0 && schedT ops hb r (n - 1) true (listed.setIfInBounds i true) && schedT ops hb q n false listed
  | .stop, _, top, _ => !top
def stepX (P : Program) (S : World → Prop) (k : Nat) (x : Ins) (ρ : Env) (w : World) (C : Env → World → Prop) : Prop :=
  match x.g with
  | none => opG P S k x.op x.ty ρ w fun v w' => C (put ρ x.dst v) w'
  | some (s, b) => match lk ρ s with
    | some (.bool c) => (c = b → opG P S k x.op x.ty ((s, .bool b) :: ρ) w fun v w' => C (put ((s, .bool b) :: ρ) x.dst v) w') ∧ (c = !b → C (put ((s, .bool !b) :: ρ) x.dst undef) w)
    | some (.tuple _) => C (put ρ x.dst undef) w
    | _ => False
def DT (P : Program) (S : World → Prop) : GT → List Nat → Env → World → Post → Prop
  | .nil, L, ρ, w, Q => Q .normal (restr L ρ) w
  | .one k x r, L, ρ, w, Q => stepX P S k x ρ w fun ρ' w' => DT P S r L ρ' w' Q
  | .alt x r q, L, ρ, w, Q => (stepX P S 2 x ρ w fun ρ' w' => DT P S r L ρ' w' Q) ∧ DT P S q L ρ w Q
  | .stop, _, _, _, _ => True
theorem stepX_cases {P : Program} {S : World → Prop} {N : Nat} {l : List Oper} {k i : Nat} {x : Ins} {o : Oper} {ρ : Env} {w : World} {a : Act} {C : Env → World → Prop} (ho : l[i]? = some o) (hx : insOf l i = some x) (hs : Sim N a ρ) (h : stepX P S k x ρ w C) :
    x.dst = o.dst ∧ x.op = o.op ∧ x.ty = o.type ∧ ((∃ ρ', Sim N a ρ' ∧ Region.wanted o (yielded l.toArray a.tmps) = true ∧ opG P S k o.op o.type ρ' w fun v w' => C (put ρ' o.dst v) w') ∨
      (∃ ρ', Sim N a ρ' ∧ Region.wanted o (yielded l.toArray a.tmps) = false ∧ C (put ρ' o.dst undef) w)) := by
  unfold insOf at hx
  rw [ho] at hx
  simp only at hx
  split at hx
  case h_2 => cases hx
  rename_i g hg
  simp only [Option.some.injEq] at hx
  subst hx
  refine ⟨rfl, rfl, rfl, ?_⟩
  unfold stepX at h
  simp only at h
  cases hgo : o.guard with
  | none =>
    rw [hgo] at hg
    simp only [stripG, Option.some.injEq] at hg; subst hg
    exact .inl ⟨ρ, hs, by simp only [Region.wanted, hgo], h⟩
  | some jb =>
    obtain ⟨j, b⟩ := jb
    rw [hgo] at hg
    simp only [stripG] at hg
    split at hg
    case h_2 => cases hg
    rename_i s hs0
    simp only [Option.some.injEq] at hg; subst hg
    simp only at h
    split at h
    · rename_i c hc
      have hy := yielded_of hs hs0 hc
      by_cases hcb : c = b
      · subst hcb
        exact .inl ⟨_, hs.know hc, by simp only [Region.wanted, hgo, hy, beq_self_eq_true], h.1 rfl⟩
      · have hcb' : c = !b := bool_ne hcb
        have hc' : lk ρ s = some (.bool !b) := by rw [← hcb']; exact hc
        exact .inr ⟨_, hs.know hc', by simp only [Region.wanted, hgo, hy]; simpa using hcb, h.2 hcb'⟩
    · rename_i u hc
      exact .inr ⟨ρ, hs, by simp only [Region.wanted, hgo, yielded_undef hs hs0 hc]; rfl, h⟩
    · exact h.elim
theorem stepX_op {P : Program} {S : World → Prop} {N : Nat} {l : List Oper} (hall : l.all (fun o => okDst N o.dst) = true) {hb : List Nat} {L : List Nat} {Q : Post} {i n : Nat} {x : Ins} {ρ : Env} {w : World} {a : Act} {listed : Array Bool} {C : Env → World → Prop}
    (hx : insOf l i = some x) (hs : Sim N a ρ) (hSw : S w) (h : stepX P S 2 x ρ w C)
    (hC : ∀ ρ' a' w', Sim N a' ρ' → S w' → C ρ' w' → wpAnyG P .any l.toArray (drawQ N L Q) S hb n (listed.setIfInBounds i true) a' w') :
    wpOp P l.toArray (drawQ N L Q) i (fun a' w' => (needB .any l.toArray hb i = true → S w → S w') ∧ wpAnyG P .any l.toArray (drawQ N L Q) S hb n (listed.setIfInBounds i true) a' w') a w := by
  obtain ⟨o, ho⟩ : ∃ o, l[i]? = some o := by
    unfold insOf at hx
    split at hx
    · cases hx
    · exact ⟨_, by assumption⟩
  have ho' : l.toArray[i]? = some o := by simpa using ho
  have hd : okDst N o.dst = true := List.all_eq_true.1 hall o (List.mem_of_getElem? ho)
  obtain ⟨_, _, _, ⟨ρ', hs', hw, h⟩ | ⟨ρ', hs', hw, h⟩⟩ := stepX_cases ho hx hs h
  · exact wpOp_doneG ho' hw (opW_done (show opW P o.op o.type ρ' w _ from h.2) h.1 a.eval hs'.eval) fun v w' hk => ⟨fun _ _ => hk.1, hC _ _ _ (hs'.put hd v) hk.1 hk.2⟩
  · exact wpOp_skip ho' hw ⟨fun _ h => h, hC _ _ _ (hs'.put hd undef) hSw h⟩
theorem DT_sound {P : Program} {S : World → Prop} {N : Nat} {l : List Oper} (hall : l.all (fun o => okDst N o.dst) = true) (hns : Region.noSelect l.toArray = true) (hb : List Nat) (L : List Nat) (Q : Post) : ∀ st : ST,
    (∀ (n : Nat) (gt : GT) (ρ : Env) (w : World) (a : Act) (listed : Array Bool), insT l st = some gt → schedT l.toArray hb st n true listed = true → Sim N a ρ → S w → DT P S gt L ρ w Q → wpAnyG P .any l.toArray (drawQ N L Q) S hb n listed a w) ∧
    (∀ (n : Nat) (gt : GT) (ρ : Env) (w : World) (a : Act) (listed : Array Bool), insT l st = some gt → schedT l.toArray hb st (n + 1) false listed = true → Sim N a ρ → S w → DT P S gt L ρ w Q →
      ∀ j ∈ st.heads, wpOp P l.toArray (drawQ N L Q) j (fun a' w' => (needB .any l.toArray hb j = true → S w → S w') ∧ wpAnyG P .any l.toArray (drawQ N L Q) S hb n (listed.setIfInBounds j true) a' w') a w) := by
  have hpan : ∀ (d : Option Nat) (v : Value) c (a : Act) (w : World), drawQ N L Q (.panic c) (a.put d v) w → drawQ N L Q (.panic c) a w := by
    rintro d v c a w ⟨_, _, hn, _⟩; cases hn
  intro st
  induction st with
  | nil =>
    refine ⟨fun n gt ρ w a listed hi hok hs hSw h => ?_, fun n gt ρ w a listed hi hok hs hSw h j hj => by cases hj⟩
    simp only [insT, Option.some.injEq] at hi; subst hi
    simp only [schedT, Bool.and_eq_true, beq_iff_eq, List.isEmpty_iff, true_and] at hok
    obtain ⟨rfl, hr⟩ := hok
    exact ⟨hr, ρ, hs, rfl, h⟩
  | stop =>
    refine ⟨fun n gt ρ w a listed hi hok hs hSw h => ?_, fun n gt ρ w a listed hi hok hs hSw h j hj => by cases hj⟩
    simp [schedT] at hok
  | one k i r ih =>
    refine ⟨fun n gt ρ w a listed hi hok hs hSw h => ?_, fun n gt ρ w a listed hi hok hs hSw h j hj => by cases hj⟩
    simp only [insT] at hi
    split at hi
    case h_2 => cases hi
    rename_i x t hx ht
    simp only [Option.some.injEq] at hi; subst hi
    obtain ⟨o, ho⟩ : ∃ o, l[i]? = some o := by
      unfold insOf at hx
      split at hx
      · cases hx
      · exact ⟨_, by assumption⟩
    have ho' : l.toArray[i]? = some o := by simpa using ho
    have hd : okDst N o.dst = true := List.all_eq_true.1 hall o (List.mem_of_getElem? ho)
    simp only [DT] at h
    match k, hok, h with
    | 0, hok, h =>
      simp only [schedT, Bool.and_eq_true, bne_iff_ne, ne_eq, true_and] at hok
      obtain ⟨m, rfl⟩ : ∃ m, n = m + 1 := ⟨n - 1, by omega⟩
      rw [Nat.add_sub_cancel] at hok
      obtain ⟨_, _, _, ⟨ρ', hs', hw, h⟩ | ⟨ρ', hs', hw, h⟩⟩ := stepX_cases ho hx hs h
      · obtain ⟨v, hv, hk⟩ := pureW_runs (show pureW P o.op o.type ρ' w _ from h)
        refine wpAnyG_take (T := fun _ => True) ho' hns hok.1.2 hok.1.1.2 (.inl fun _ => trivial) (hpan _ _) (.inl ⟨hw, fun w' _ => ?_⟩) trivial (ih.1 m t _ w _ _ ht hok.2 (hs'.put hd v) hSw hk)
        rw [execOp_raw]; exact hv a.eval hs'.eval w'
      · exact wpAnyG_take (T := fun _ => True) ho' hns hok.1.2 hok.1.1.2 (.inl fun _ => trivial) (hpan _ _) (.inr ⟨hw, rfl⟩) trivial (ih.1 m t _ w _ _ ht hok.2 (hs'.put hd undef) hSw h)
    | 1, hok, h =>
      simp only [schedT, Bool.and_eq_true, bne_iff_ne, ne_eq, true_and, List.contains_iff_mem] at hok
      obtain ⟨m, rfl⟩ : ∃ m, n = m + 1 := ⟨n - 1, by omega⟩
      rw [Nat.add_sub_cancel] at hok
      obtain ⟨_, _, _, ⟨ρ', hs', hw, h⟩ | ⟨ρ', hs', hw, h⟩⟩ := stepX_cases ho hx hs h
      · obtain ⟨v, hv, hk⟩ := opH_runs (show opH P S o.op o.type ρ' w _ from h)
        refine wpAnyG_take (T := S) ho' hns hok.1.2 (by simpa using hok.1.1.2) (.inr ⟨hok.1.1.1.2, rfl⟩) (hpan _ _) (.inl ⟨hw, fun w' hw' => ?_⟩) hSw (ih.1 m t _ w _ _ ht hok.2 (hs'.put hd v) hSw hk)
        rw [execOp_raw]; exact hv a.eval hs'.eval w' hw'
      · exact wpAnyG_take (T := fun _ => True) ho' hns hok.1.2 (by simpa using hok.1.1.2) (.inl fun _ => trivial) (hpan _ _) (.inr ⟨hw, rfl⟩) trivial (ih.1 m t _ w _ _ ht hok.2 (hs'.put hd undef) hSw h)
    | 2, hok, h =>
      simp only [schedT, Bool.and_eq_true, bne_iff_ne, ne_eq, true_and, beq_iff_eq] at hok
      obtain ⟨m, rfl⟩ : ∃ m, n = m + 1 := ⟨n - 1, by omega⟩
      rw [Nat.add_sub_cancel] at hok
      refine wpAnyG_all hok.1.2 (by simp) fun j hj => ?_
      simp only [List.mem_singleton] at hj; subst hj
      exact stepX_op hall hx hs hSw h fun ρ' a' w' hs' hSw' hC => ih.1 m t ρ' w' a' _ ht hok.2 hs' hSw' hC
    | k + 3, hok, h => simp [schedT] at hok
  | alt i r q ihr ihq =>
    have step : ∀ (n : Nat) (top : Bool) (gt : GT) (ρ : Env) (w : World) (a : Act) (listed : Array Bool), insT l (.alt i r q) = some gt → schedT l.toArray hb (.alt i r q) (n + 1) top listed = true → Sim N a ρ → S w → DT P S gt L ρ w Q →
        ∀ j ∈ (ST.alt i r q).heads, wpOp P l.toArray (drawQ N L Q) j (fun a' w' => (needB .any l.toArray hb j = true → S w → S w') ∧ wpAnyG P .any l.toArray (drawQ N L Q) S hb n (listed.setIfInBounds j true) a' w') a w := by
      intro n top gt ρ w a listed hi hok hs hSw h j hj
      simp only [insT] at hi
      split at hi
      case h_2 => cases hi
      rename_i x t u hx ht hu
      simp only [Option.some.injEq] at hi; subst hi
      simp only [schedT, Bool.and_eq_true, Nat.add_sub_cancel] at hok
      obtain ⟨h1, h2⟩ := h
      rcases List.mem_cons.1 hj with rfl | hj
      · exact stepX_op hall hx hs hSw h1 fun ρ' a' w' hs' hSw' hC => ihr.1 n t ρ' w' a' _ ht hok.1.2 hs' hSw' hC
      · exact ihq.2 n u ρ w a listed hu hok.2 hs hSw h2 j hj
    refine ⟨fun n gt ρ w a listed hi hok hs hSw h => ?_, fun n gt ρ w a listed hi hok hs hSw h j hj => step n false gt ρ w a listed hi hok hs hSw h j hj⟩
    have hok2 := hok
    simp only [schedT, Bool.and_eq_true, bne_iff_ne, ne_eq, Bool.not_true, Bool.false_or, beq_iff_eq] at hok2
    obtain ⟨m, rfl⟩ : ∃ m, n = m + 1 := ⟨n - 1, by omega⟩
    exact wpAnyG_all hok2.1.1.1 (by simp) fun j hj => step m true gt ρ w a listed hi hok hs hSw h j hj
theorem drawW_tree {P : Program} {l : List Oper} {L : List Nat} {ρ : Env} {w : World} {Q : Post} (hb : List Nat) (st : ST) (gt : GT) (hm : P.follows .mixedOrders = true)
    (hi : insT l st = some gt) (hok : (Region.noSelect l.toArray && schedT l.toArray hb st l.length true (Array.replicate l.length false)) = true)
    (S : World → Prop) (hS : S w.drew) (h : DT P S gt L ρ w.drew Q) : drawW P l L ρ w Q := by
  intro N a hall hs
  simp only [Bool.and_eq_true] at hok
  refine ops_of_any hm (wpAny_of_G (S := S) (hb := hb) _ _ _ _ ?_)
  have := (DT_sound (S := S) hall hok.1 hb L Q st).1 l.length gt ρ w.drew a (Array.replicate l.length false) hi hok.2 hs hS h
  have e : l.toArray.size = l.length := by simp
  rw [e]
  exact this
section
variable {P : Program} {S : World → Prop} {w : World} {ρ : Env} {Q : Post} {r q : GT} {L : List Nat} {d : Option Nat} {ty : TypeId} {k : Nat} {op : Op} {s : Nat} {b c : Bool} {x : Ins}
def DTn (P : Program) (S : World → Prop) (r : GT) (L : List Nat) (ρ : Env) (d : Option Nat) (Q : Post) : Value → World → Prop := fun v w => DT P S r L (put ρ d v) w Q
def DTs (P : Program) (S : World → Prop) (r : GT) (L : List Nat) (ρ : Env) (d : Option Nat) (Q : Post) : Value → World → Prop := fun v w => S w ∧ DT P S r L (put ρ d v) w Q
def opT (P : Program) (S : World → Prop) (k : Nat) (op : Op) (ty : TypeId) (r : GT) (L : List Nat) (ρ : Env) (d : Option Nat) (w : World) (Q : Post) : Prop := opG P S k op ty ρ w (DTn P S r L ρ d Q)
def dT (P : Program) (S : World → Prop) (o : Option Value) (s : Nat) (b : Bool) (k : Nat) (d : Option Nat) (op : Op) (ty : TypeId) (r : GT) (L : List Nat) (ρ : Env) (w : World) (Q : Post) : Prop :=
  match o with
  | some (.bool c) => (c = b → opT P S k op ty r L ((s, .bool b) :: ρ) d w Q) ∧ (c = !b → DT P S r L (put ((s, .bool !b) :: ρ) d undef) w Q)
  | some (.tuple _) => DT P S r L (put ρ d undef) w Q
  | _ => False
def nxT (P : Program) (S : World → Prop) (k : Nat) (x : Ins) (r : GT) (L : List Nat) (ρ : Env) (w : World) (Q : Post) : Prop := stepX P S k x ρ w fun ρ' w' => DT P S r L ρ' w' Q
theorem DT_nil : DT P S .nil L ρ w Q = Q .normal (restr L ρ) w := (rfl)
theorem DT_stop : DT P S .stop L ρ w Q = True := (rfl)
theorem DT_one : DT P S (.one k x r) L ρ w Q = nxT P S k x r L ρ w Q := (rfl)
theorem DT_alt : DT P S (.alt x r q) L ρ w Q = (nxT P S 2 x r L ρ w Q ∧ DT P S q L ρ w Q) := (rfl)
theorem nxT_plain : nxT P S k ⟨d, op, ty, none⟩ r L ρ w Q = opT P S k op ty r L ρ d w Q := (rfl)
theorem nxT_guard : nxT P S k ⟨d, op, ty, some (s, b)⟩ r L ρ w Q = dT P S (lk ρ s) s b k d op ty r L ρ w Q := by
  simp only [nxT, stepX, dT]; rfl
theorem DTn_app {v : Value} : DTn P S r L ρ d Q v w = DT P S r L (put ρ d v) w Q := (rfl)
theorem DTs_app {v : Value} : DTs P S r L ρ d Q v w = (S w ∧ DT P S r L (put ρ d v) w Q) := (rfl)
theorem opT_0 : opT P S 0 op ty r L ρ d w Q = pureW P op ty ρ w (DTn P S r L ρ d Q) := (rfl)
theorem opT_1 {t : TypeId} {x : Operand} : opT P S 1 (.load t x) ty r L ρ d w Q = ptrW (fun p => heldW P S t p w (DTn P S r L ρ d Q)) (ev ρ x) := (rfl)
theorem opT_2 : opT P S 2 op ty r L ρ d w Q = (noY ρ op ∧ opW P op ty ρ w (DTs P S r L ρ d Q)) := (rfl)
theorem dT_t : dT P S (some (.bool true)) s true k d op ty r L ρ w Q = opT P S k op ty r L ((s, .bool true) :: ρ) d w Q := by simp [dT]
theorem dT_f : dT P S (some (.bool false)) s false k d op ty r L ρ w Q = opT P S k op ty r L ((s, .bool false) :: ρ) d w Q := by simp [dT]
theorem dT_tf : dT P S (some (.bool true)) s false k d op ty r L ρ w Q = DT P S r L (put ((s, .bool true) :: ρ) d undef) w Q := by simp [dT]
theorem dT_ft : dT P S (some (.bool false)) s true k d op ty r L ρ w Q = DT P S r L (put ((s, .bool false) :: ρ) d undef) w Q := by simp [dT]
theorem dT_gen : dT P S (some (.bool c)) s b k d op ty r L ρ w Q = ((c = b → opT P S k op ty r L ((s, .bool b) :: ρ) d w Q) ∧ (c = !b → DT P S r L (put ((s, .bool !b) :: ρ) d undef) w Q)) := (rfl)
theorem dT_undef : dT P S (some undef) s b k d op ty r L ρ w Q = DT P S r L (put ρ d undef) w Q := (rfl)
end
attribute [go_sem low] dT_gen
attribute [go_sem] DT_nil DT_stop DT_one DT_alt nxT_plain nxT_guard DTn_app DTs_app opT_0 opT_1 opT_2 dT_t dT_f dT_tf dT_ft dT_undef
end Go.Ann

namespace Go.Ann
open Go Go.RowKit
set_option linter.unusedVariables false
set_option linter.unusedSimpArgs false
section
variable {κ : Type} {P : Program} {enc : κ → Value} {t : TypeId}
variable [DecidableEq κ]
structure KeyT (P : Program) (t : TypeId) (enc : κ → Value) (d : TypeDesc) : Prop where
  und : P.underlying t = some d
  chk' : ∀ (n : Nat) (w : World) (em : Bool) (a : κ), (Instr.checkKey em (n + 2) t (enc a)).run P w = .ok () w
  now : ∀ a b : κ, Instr.sameNow d (enc a) (enc b) = none ∨ Instr.sameNow d (enc a) (enc b) = some (decide (a = b))
  eq : ∀ (w : World) (a b : κ), (Op.equal t (enc a) (enc b)).run P w = .ok (decide (a = b)) w
theorem KeyT.chk {d : TypeDesc} (h : KeyT P t enc d) (w : World) (em : Bool) (a : κ) : (Instr.checkKey em 10000 t (enc a)).run P w = .ok () w := h.chk' 9998 w em a
variable {d : TypeDesc}
end
section
variable {P : Program} {t : TypeId}
end
end Go.Ann

namespace Go.Ann
open Go Go.RowKit
attribute [go_sem] storeW_fill List.setIfInBounds_toArray List.set_cons_zero List.set_cons_succ List.getElem_toArray List.getElem_cons_zero List.getElem_cons_succ Nat.reduceLeDiff Nat.reduceSub okSt_nil okSt_cons fillO_some fillO_none cF_same cF_blk fF_any size_fill Value.oneCell' Int.toNat_natCast Int.cast_ofNat_Int cast0 cast1 Int.natCast_add add_block add_off Classical.not_not decide_not Bool.not_eq_false decide_true decide_false Bool.true_beq Bool.false_beq beq_true beq_false Bool.true_bne Bool.false_bne Bool.bne_true Bool.bne_false decide_eq_true_eq Bool.not_eq_eq_eq_not Nat.mul_one List.size_toArray List.length_cons List.length_nil Nat.le_refl ldK_int ldK_bool ldK_str ldK_slice ldK_ptr ldK_map ldK_agg ldK_other ldO_int ldO_bool ldO_str ldO_slice ldO_ptr ldO_map ldO_other ldA_some cellsO_new cellsO_nil cellsC_some cellsO_drew cellsO_alloc cA_add cS_add cA_new cA_old fA_new fA_old setO_some cS_same cS_off cS_blk World.cell?_drew World.frozen?_drew World.frozen?_setCell World.size_alloc World.size_drew World.size_setCell heldX_eq heldX_add chg_refl chg_drew ovr_nil ovr_cons Option.getD_some Option.getD_none Addr.add_lit Nat.add_zero Option.some.injEq exists_eq' exists_eq_left' Value.int.injEq Value.bool.injEq Value.pointer.injEq Value.string.injEq
end Go.Ann
section
attribute [go_sem_proc] reduceCtorEq Nat.reduceBEq Nat.reduceEqDiff Nat.reduceAdd Nat.reduceMul Int.reduceNe Int.reduceEq Int.reduceLT Int.reduceLE Int.reduceNeg Int.reduceAdd Int.reduceSub Int.reduceMul Int.reduceToNat
attribute [go_sem_proc ↓] reduceIte
attribute [go_sem] beq_self_eq_true
end

namespace Go.Ann
open Go Go.RowKit
set_option linter.unusedVariables false
set_option linter.unusedSimpArgs false
attribute [go_sem_proc] reduceCtorEq Nat.reduceBEq Nat.reduceEqDiff Nat.reduceAdd Nat.reduceMul Int.reduceNe Int.reduceEq Int.reduceLT Int.reduceLE Int.reduceNeg Int.reduceAdd Int.reduceSub Int.reduceMul Int.reduceToNat
attribute [go_sem_proc ↓] reduceIte
attribute [go_sem] beq_self_eq_true
section
variable {κ ν : Type} {P : Program} {ek : κ → Value} {ev : ν → Value} {t : TypeId}
def entG (ek : κ → Value) (ev : ν → Value) (x : κ × ν × Nat) : MapEntry := { key := ek x.1, val := ev x.2.1, born := x.2.2 }
def mapG (ek : κ → Value) (ev : ν → Value) (l : List (κ × ν × Nat)) (c : Nat) : Obj := .map (l.map (entG ek ev)).toArray c
theorem mmG {m : TypeId} {w : World} {K : Value → World → Prop} (hK : K (.map (some w.heap.size)) (w.alloc (mapG ek ev [] 0))) : mmW P m w K := by
  refine ⟨_, _, ?_, hK⟩
  unfold Instr.makeMap
  simp [Sem.run_bind, Result.andThen, run_newObj_alloc]
  rfl
variable [DecidableEq κ]
def getM (a : κ) : List (κ × ν × Nat) → Option ν
  | [] => none
  | x :: l => if a = x.1 then some x.2.1 else getM a l
def setM (a : κ) (v : ν) (c : Nat) : List (κ × ν × Nat) → List (κ × ν × Nat)
  | [] => [(a, v, c)]
  | x :: l => if a = x.1 then (x.1, v, x.2.2) :: l else x :: setM a v c l
def whereM (ev : ν → Value) (a : κ) : List (κ × ν × Nat) → Nat → Option (Nat × Value)
  | [], _ => none
  | x :: l, i => if a = x.1 then some (i, ev x.2.1) else whereM ev a l (i + 1)
theorem whereM_get (a : κ) : ∀ (l : List (κ × ν × Nat)) (i : Nat), (whereM ev a l i).map Prod.snd = (getM a l).map ev
  | [], _ => rfl
  | x :: l, i => by
    simp only [whereM, getM]
    split
    · rfl
    · exact whereM_get a l (i + 1)
variable {d : TypeDesc}
theorem findNow_G (hk : KeyT P t ek d) (a : κ) : ∀ (l : List (κ × ν × Nat)) (i : Nat), Instr.findNow d (ek a) (l.map (entG ek ev)) i = none ∨ Instr.findNow d (ek a) (l.map (entG ek ev)) i = some (whereM ev a l i)
  | [], i => .inr rfl
  | b :: l, i => by
    simp only [List.map_cons, entG, Instr.findNow, whereM]
    rcases hk.now a b.1 with h | h
    · exact .inl (by rw [h])
    · rw [h]
      by_cases e : a = b.1
      · rw [decide_eq_true e, if_pos e]; exact .inr rfl
      · rw [decide_eq_false e, if_neg e]; exact findNow_G hk a l _
theorem findAsk_G (hk : KeyT P t ek d) (w : World) (a : κ) : ∀ (l : List (κ × ν × Nat)) (i : Nat), (Instr.findAsking t (ek a) (l.map (entG ek ev)) i).run P w = .ok (whereM ev a l i) w
  | [], i => rfl
  | b :: l, i => by
    simp only [List.map_cons, entG, Instr.findAsking, whereM, Sem.run_bind, hk.eq w a b.1, Result.andThen_ok]
    by_cases e : a = b.1
    · rw [decide_eq_true e, if_pos e]; rfl
    · rw [decide_eq_false e, if_neg e]
      simp only [Bool.false_eq_true, if_false]
      exact findAsk_G hk w a l _
theorem findKey_G (hk : KeyT P t ek d) (w : World) (a : κ) (l : List (κ × ν × Nat)) : (Instr.findKey t (ek a) (l.map (entG ek ev))).run P w = .ok (whereM ev a l 0) w := by
  unfold Instr.findKey
  simp only [Sem.run_bind, run_underlying hk.und, Result.andThen_ok]
  rcases findNow_G (ev := ev) hk a l 0 with h | h
  · rw [h]; exact findAsk_G hk w a l 0
  · rw [h]; rfl
def luG (ev : ν → Value) (z : Value) : Option ν → Bool → Value
  | some v, true => .tuple #[ev v, .bool true]
  | none, true => .tuple #[z, .bool false]
  | some v, false => ev v
  | none, false => z
theorem luG_map {m e : TypeId} {w : World} {K : Value → World → Prop} {r c : Nat} {ok : Bool} {z : Value} (hk : KeyT P t ek d) (hm : P.underlying m = some (.map t e)) {l : List (κ × ν × Nat)} (hr : w.heap[r]? = some (mapG ek ev l c)) (a : κ)
    (hz : (zeroValue e).run P w = .ok z w) (hK : K (luG ev z (getM a l) ok) w) : luW P m (.map (some r)) (ek a) ok w K := by
  refine ⟨_, _, ?_, hK⟩
  unfold Instr.lookup
  have hg : (getObj r).run P w = .ok (.map (l.map (entG ek ev)).toArray c) w := run_getObj_map w r _ _ hr
  simp only [Sem.run_bind, run_underlying hm, Result.andThen_ok, hg, Sem.run_pure, hk.chk, findKey_G hk, List.toList_toArray]
  have h := whereM_get (ev := ev) a l 0
  cases hw : whereM ev a l 0 with
  | some p =>
    rw [hw] at h
    cases hg2 : getM a l with
    | none => rw [hg2] at h; cases h
    | some v =>
      rw [hg2] at h
      obtain ⟨pj, pv⟩ := p
      simp only [Option.map_some, Option.some.injEq] at h
      subst h
      cases ok <;> rfl
  | none =>
    rw [hw] at h
    cases hg2 : getM a l with
    | some v => rw [hg2] at h; cases h
    | none =>
      simp only [Sem.run_bind, hz, Result.andThen_ok]
      cases ok <;> rfl
theorem whereM_set (a : κ) (v : ν) (c : Nat) : ∀ (l : List (κ × ν × Nat)) (i j : Nat) (u : Value), whereM ev a l i = some (j, u) → i ≤ j ∧ j - i < l.length ∧ (∃ x, (l.map (entG ek ev))[j - i]? = some (entG ek ev x) ∧ x.1 = a) ∧ (setM a v c l).map (entG ek ev) = (l.map (entG ek ev)).modify (j - i) (fun e => { e with key := ek a, val := ev v })
  | [], _, _, _, h => by cases h
  | x :: l, i, j, u, h => by
    simp only [whereM] at h
    split at h
    · rename_i e
      simp only [Option.some.injEq, Prod.mk.injEq] at h
      obtain ⟨rfl, rfl⟩ := h
      refine ⟨Nat.le_refl _, by simp, ⟨x, by simp, e.symm⟩, ?_⟩
      rw [show setM a v c (x :: l) = (x.1, v, x.2.2) :: l from if_pos e]
      simp only [Nat.sub_self, List.map_cons, List.modify_zero_cons, entG, e]
    · rename_i e
      obtain ⟨h1, h2, ⟨y, h3, h4⟩, h5⟩ := whereM_set a v c l (i + 1) j u h
      have e1 : j - i = (j - (i + 1)) + 1 := by omega
      refine ⟨by omega, by simp only [List.length_cons]; omega, ⟨y, ?_, h4⟩, ?_⟩
      · rw [e1, List.map_cons, List.getElem?_cons_succ]; exact h3
      · rw [e1]
        simp only [setM, if_neg e, List.map_cons, List.modify_succ_cons, h5]
theorem whereM_none {a : κ} (v : ν) (c : Nat) : ∀ {l : List (κ × ν × Nat)} {i : Nat}, whereM ev a l i = none → setM a v c l = l ++ [(a, v, c)] ∧ getM a l = none
  | [], _, _ => ⟨rfl, rfl⟩
  | x :: l, i, h => by
    simp only [whereM] at h
    split at h
    · cases h
    · rename_i e
      obtain ⟨h1, h2⟩ := whereM_none v c h
      exact ⟨by simp only [setM, if_neg e, h1, List.cons_append], by simp only [getM, if_neg e, h2]⟩
theorem muG_map {m e : TypeId} {w : World} {K : Value → World → Prop} {r c : Nat} (hk : KeyT P t ek d) (hm : P.underlying m = some (.map t e)) (hs : ∀ a : κ, Instr.sameBits 10000 (ek a) (ek a) = true) {l : List (κ × ν × Nat)} (hr : w.heap[r]? = some (mapG ek ev l c)) (a : κ) (v : ν)
    (hK : K undef (w.putObj r (mapG ek ev (setM a v c l) (if (getM a l).isSome then c else c + 1)))) : muW P m (.map (some r)) (ek a) (ev v) w K := by
  have hg : (getObj r).run P w = .ok (.map (l.map (entG ek ev)).toArray c) w := run_getObj_map w r _ _ hr
  have hs' : ∀ o, (setObj r o).run P w = .ok () (w.putObj r o) := fun o => by simp [setObj, Sem.run, hr, mapG, World.putObj]
  cases hw : whereM ev a l 0 with
  | none =>
    obtain ⟨h1, h2⟩ := whereM_none v c hw
    refine ⟨_, ?_, hK⟩
    unfold Instr.mapUpdate
    simp only [Sem.run_bind, run_underlying hm, Result.andThen_ok, hg, Sem.run_pure, hk.chk, findKey_G hk, List.toList_toArray, hw]
    rw [hs', h1]
    have e : (l.map (entG ek ev)).toArray.push { key := ek a, val := ev v, born := c } = ((l ++ [(a, v, c)]).map (entG ek ev)).toArray := by
      rw [List.map_append]; simp [entG]
    rw [e, h2]; rfl
  | some p =>
    obtain ⟨j, u⟩ := p
    obtain ⟨_, h2, ⟨x, h3, h4⟩, h5⟩ := whereM_set (ek := ek) a v c l 0 j u hw
    rw [Nat.sub_zero] at h2 h3 h5
    have hsome : (getM a l).isSome = true := by
      have := whereM_get (ev := ev) a l 0
      rw [hw] at this
      cases h : getM a l with
      | none => rw [h] at this; cases this
      | some _ => rfl
    rw [if_pos hsome] at hK
    refine ⟨_, ?_, hK⟩
    unfold Instr.mapUpdate
    simp only [Sem.run_bind, run_underlying hm, Result.andThen_ok, hg, Sem.run_pure, hk.chk, findKey_G hk, List.toList_toArray, hw]
    have e0 : ((((l.map (entG ek ev)).toArray)[j]?).map (·.key)).getD (ek a) = ek a := by
      rw [List.getElem?_toArray, h3]; simp [entG, h4]
    have e1 : (Instr.keyThatStays ((((l.map (entG ek ev)).toArray)[j]?).map (·.key)|>.getD (ek a)) (ek a)).run P w = .ok (ek a) w := by
      rw [e0]; unfold Instr.keyThatStays; rw [if_pos (hs a)]; rfl
    rw [e1]
    simp only [Result.andThen_ok]
    rw [hs']
    unfold mapG
    rw [h5]
    congr 3
    apply Array.ext'
    simp [Array.toList_modify]
theorem keyT_int {ki : IntKind} (ht : P.underlying t = some (.int ki)) : KeyT P t (fun n : Int => .int ki n) (.int ki) := by
  refine ⟨ht, fun n w em a => ?_, fun a b => .inr ?_, fun w a b => ?_⟩
  · simp only [Instr.checkKey, Sem.run_bind, run_underlying ht, Result.andThen_ok]; rfl
  · simp [Instr.sameNow]; rfl
  · show (Op.equalIn 10000 t _ _).run P w = _
    rw [run_equalIn_int w 9999 t ki ki a b ht]
    rfl
end
section
variable {P : Program} {w : World} {K : Value → World → Prop}
theorem rgG {m t e : TypeId} {r clock : Nat} {es : Array MapEntry} (hm : P.underlying m = some (.map t e)) (hr : w.heap[r]? = some (.map es clock)) (hK : K (.pointer (some ⟨w.heap.size, 0, none⟩)) (w.alloc (.mapIter (some r) clock #[] clock))) : rgW P m (.map (some r)) w K := by
  refine ⟨_, _, ?_, hK⟩
  unfold Instr.range
  have hg : (getObj r).run P w = .ok (.map es clock) w := run_getObj_map w r _ _ hr
  simp only [Sem.run_bind, run_underlying hm, Result.andThen_ok, hg, Sem.run_pure, run_newObj_alloc]
theorem nxG {ty q r since c0 clock : Nat} {seen : Array Nat} {es : Array MapEntry} (hq : w.heap[q]? = some (.mapIter (some r) since seen c0)) (hr : w.heap[r]? = some (.map es clock)) (hold : ∀ x ∈ es.toList, x.born < since) (hsc : since ≤ c0)
    (h0 : (leftOf es seen).size = 0 → K (.tuple #[.bool false]) w) (h1 : ∀ e ∈ (leftOf es seen).toList, ∀ w1, (w1 = w ∨ w1 = w.drew) → K (.tuple #[.bool true, e.key, e.val]) (w1.putObj q (.mapIter (some r) since (seen.push e.born) clock))) :
    nxW P (.pointer (some ⟨q, 0, none⟩)) false ty w K := by
  rcases run_next_at w ty q r since c0 seen es clock hq hr hold hsc with ⟨h, hrun⟩ | ⟨e, he, w1, hw1, hrun⟩
  · exact ⟨_, _, hrun, h0 h⟩
  · exact ⟨_, _, hrun, h1 e he w1 hw1⟩
theorem enG {q r since clock : Nat} {seen : Array Nat} {es : Array MapEntry} {e : MapEntry} (hq : w.heap[q]? = some (.mapIter (some r) since (seen.push e.born) clock)) (hr : w.heap[r]? = some (.map es clock)) (he : e ∈ es.toList) (hn : (es.toList.map (·.born)).Nodup)
    (hK : K (.tuple #[e.key, e.val]) w) : enW P (.pointer (some ⟨q, 0, none⟩)) w K := ⟨_, _, run_entry_at w q r since seen es clock e hq hr he hn, hK⟩
def Same (X : Nat → Prop) (w0 w' : World) : Prop := ∀ b, X b → w'.heap[b]? = w0.heap[b]?
theorem Same.refl (X : Nat → Prop) (w : World) : Same X w w := fun _ _ => rfl
theorem heldS_held {X : Nat → Prop} {t : TypeId} {w0 : World} {p : Addr} (h2 : X p.block) (h3 : loadW P t p w0 fun v _ => K v w) : heldW P (Same X w0) t p w K := by
  have key : ∀ w' j, Same X w0 w' → w'.cell? (p.add j) = w0.cell? (p.add j) := fun w' j hc => by
    have e : (p.add j).block = p.block := by unfold Addr.add; split <;> rfl
    exact World.cell?_of_block (hc _ (by rw [e]; exact h2))
  have key0 : ∀ w', Same X w0 w' → w'.cell? p = w0.cell? p := fun w' hc => by have := key w' 0 hc; simpa only [Addr.add_zero'] using this
  unfold heldW
  unfold loadW at h3 ⊢
  cases hk : tyK P t with
  | int k => rw [hk] at h3; obtain ⟨n, hc, hK⟩ := h3; exact ⟨_, fun w' hw => ⟨n, (key0 w' hw).trans hc, rfl, rfl⟩, hK⟩
  | bool => rw [hk] at h3; obtain ⟨n, hc, hK⟩ := h3; exact ⟨_, fun w' hw => ⟨n, (key0 w' hw).trans hc, rfl, rfl⟩, hK⟩
  | str => rw [hk] at h3; obtain ⟨n, hc, hK⟩ := h3; exact ⟨_, fun w' hw => ⟨n, (key0 w' hw).trans hc, rfl, rfl⟩, hK⟩
  | slice u e => rw [hk] at h3; obtain ⟨x, n, c, hc, hK⟩ := h3; exact ⟨_, fun w' hw => ⟨x, n, c, (key0 w' hw).trans hc, rfl, rfl⟩, hK⟩
  | ptr => rw [hk] at h3; obtain ⟨n, hc, hK⟩ := h3; exact ⟨_, fun w' hw => ⟨n, (key0 w' hw).trans hc, rfl, rfl⟩, hK⟩
  | map => rw [hk] at h3; obtain ⟨n, hc, hK⟩ := h3; exact ⟨_, fun w' hw => ⟨n, (key0 w' hw).trans hc, rfl, rfl⟩, hK⟩
  | agg n => rw [hk] at h3; obtain ⟨cs, hc, hl, hK⟩ := h3; exact ⟨_, fun w' hw => ⟨cs, fun i v hv => (key w' i hw).trans (hc i v hv), hl, rfl, rfl⟩, hK⟩
  | other => rw [hk] at h3; obtain ⟨n, hc, hK⟩ := h3; exact ⟨_, fun w' hw => ⟨n, (key0 w' hw).trans hc, rfl, rfl⟩, hK⟩
  | none => rw [hk] at h3; exact h3.elim
@[go_sem] theorem heldS_eq {X : Nat → Prop} {t : TypeId} {w0 : World} {b i : Nat} (h2 : X b) : heldW P (Same X w0) t ⟨b, i, none⟩ w K = loadW P t ⟨b, i, none⟩ w0 fun v _ => K v w := by
  apply propext
  exact ⟨fun ⟨v, h, hk⟩ => loadW_mono (h w0 (Same.refl _ _)) fun u hu => by rw [hu.1]; exact hk, heldS_held h2⟩
end
end Go.Ann

namespace Go.Proofs.Ytmdhcpghofadcaa
open Go Go.Ann
@[go_sem] theorem ty3tyK : tyK Try.prog 3 = .int .i64 := by kernel_rfl
@[go_sem] theorem ty3sizeT : sizeT Try.prog 3 = some 1 := by kernel_rfl
@[go_sem] theorem ty3zeroT : zeroT Try.prog 3 = some (.int .i64 0) := by kernel_rfl
@[go_sem] theorem ty3conc : Program.concrete Try.prog 3 = true := by kernel_rfl
@[go_sem] theorem ty4tyK : tyK Try.prog 4 = .bool := by kernel_rfl
@[go_sem] theorem ty4isBoolT : isBoolT Try.prog 4 = true := by kernel_rfl
@[go_sem] theorem ty4sizeT : sizeT Try.prog 4 = some 1 := by kernel_rfl
@[go_sem] theorem ty4zeroT : zeroT Try.prog 4 = some (.bool false) := by kernel_rfl
@[go_sem] theorem ty4conc : Program.concrete Try.prog 4 = true := by kernel_rfl
@[go_sem] theorem ty5tyK : tyK Try.prog 5 = .int .u8 := by kernel_rfl
@[go_sem] theorem ty5sizeT : sizeT Try.prog 5 = some 1 := by kernel_rfl
@[go_sem] theorem ty5zeroT : zeroT Try.prog 5 = some (.int .u8 0) := by kernel_rfl
@[go_sem] theorem ty5conc : Program.concrete Try.prog 5 = true := by kernel_rfl
@[go_sem] theorem ty9tyK : tyK Try.prog 9 = .str := by kernel_rfl
@[go_sem] theorem ty9isStrT : isStrT Try.prog 9 = true := by kernel_rfl
@[go_sem] theorem ty9sizeT : sizeT Try.prog 9 = some 1 := by kernel_rfl
@[go_sem] theorem ty9zeroT : zeroT Try.prog 9 = some (.string (ofL [])) := by kernel_rfl
@[go_sem] theorem ty9conc : Program.concrete Try.prog 9 = true := by kernel_rfl
@[go_sem] theorem ty23tyK : tyK Try.prog 23 = .agg 11 := by kernel_rfl
@[go_sem] theorem ty23sizeT : sizeT Try.prog 23 = some 11 := by kernel_rfl
@[go_sem] theorem ty23zeroT : zeroT Try.prog 23 = some (.agg #[(.int .i64 0), (.int .i64 0), (.int .i64 0), (.int .i64 0), (.int .i64 0), (.int .i64 0), (.int .i64 0), (.bool false), (.int .i64 0), (.int .i64 0), (.int .i64 0)]) := by kernel_rfl
@[go_sem] theorem ty23conc : Program.concrete Try.prog 23 = true := by kernel_rfl
@[go_sem] theorem ty23plc : plcT Try.prog 23 = some [(0, 1), (1, 1), (2, 1), (3, 1), (4, 1), (5, 1), (6, 1), (7, 1), (8, 1), (9, 1), (10, 1)] := by kernel_rfl
@[go_sem] theorem ty23flat : flatT Try.prog 23 = some [.int, .int, .int, .int, .int, .int, .int, .bool, .int, .int, .int] := by kernel_rfl
@[go_sem] theorem ty23fld0 : fldI Try.prog 23 0 = some (0, 1, false) := by kernel_rfl
@[go_sem] theorem ty23fld1 : fldI Try.prog 23 1 = some (1, 1, false) := by kernel_rfl
@[go_sem] theorem ty23fld2 : fldI Try.prog 23 2 = some (2, 1, false) := by kernel_rfl
@[go_sem] theorem ty23fld3 : fldI Try.prog 23 3 = some (3, 1, false) := by kernel_rfl
@[go_sem] theorem ty23fld4 : fldI Try.prog 23 4 = some (4, 1, false) := by kernel_rfl
@[go_sem] theorem ty23fld5 : fldI Try.prog 23 5 = some (5, 1, false) := by kernel_rfl
@[go_sem] theorem ty23fld6 : fldI Try.prog 23 6 = some (6, 1, false) := by kernel_rfl
@[go_sem] theorem ty23fld7 : fldI Try.prog 23 7 = some (7, 1, false) := by kernel_rfl
@[go_sem] theorem ty23fld8 : fldI Try.prog 23 8 = some (8, 1, false) := by kernel_rfl
@[go_sem] theorem ty23fld9 : fldI Try.prog 23 9 = some (9, 1, false) := by kernel_rfl
@[go_sem] theorem ty23fld10 : fldI Try.prog 23 10 = some (10, 1, false) := by kernel_rfl
@[go_sem] theorem ty27tyK : tyK Try.prog 27 = .slice false 23 := by kernel_rfl
@[go_sem] theorem ty27isSliceT : isSliceT Try.prog 27 = true := by kernel_rfl
@[go_sem] theorem ty27sliI : sliI Try.prog 27 = some 11 := by kernel_rfl
@[go_sem] theorem ty27mkI : mkI Try.prog 27 = some (23, 11, 88, (.agg #[(.int .i64 0), (.int .i64 0), (.int .i64 0), (.int .i64 0), (.int .i64 0), (.int .i64 0), (.int .i64 0), (.bool false), (.int .i64 0), (.int .i64 0), (.int .i64 0)])) := by kernel_rfl
@[go_sem] theorem ty27sizeT : sizeT Try.prog 27 = some 1 := by kernel_rfl
@[go_sem] theorem ty27zeroT : zeroT Try.prog 27 = some (.slice none 0 0) := by kernel_rfl
@[go_sem] theorem ty27conc : Program.concrete Try.prog 27 = true := by kernel_rfl
@[go_sem] theorem ty29tyK : tyK Try.prog 29 = .int .i64 := by kernel_rfl
@[go_sem] theorem ty29sizeT : sizeT Try.prog 29 = some 1 := by kernel_rfl
@[go_sem] theorem ty29zeroT : zeroT Try.prog 29 = some (.int .i64 0) := by kernel_rfl
@[go_sem] theorem ty29conc : Program.concrete Try.prog 29 = true := by kernel_rfl
@[go_sem] theorem ty35tyK : tyK Try.prog 35 = .slice false 27 := by kernel_rfl
@[go_sem] theorem ty35isSliceT : isSliceT Try.prog 35 = true := by kernel_rfl
@[go_sem] theorem ty35sliI : sliI Try.prog 35 = some 1 := by kernel_rfl
@[go_sem] theorem ty35mkI : mkI Try.prog 35 = some (27, 1, 24, (.slice none 0 0)) := by kernel_rfl
@[go_sem] theorem ty35sizeT : sizeT Try.prog 35 = some 1 := by kernel_rfl
@[go_sem] theorem ty35zeroT : zeroT Try.prog 35 = some (.slice none 0 0) := by kernel_rfl
@[go_sem] theorem ty35conc : Program.concrete Try.prog 35 = true := by kernel_rfl
@[go_sem] theorem ty41tyK : tyK Try.prog 41 = .agg 3 := by kernel_rfl
@[go_sem] theorem ty41sizeT : sizeT Try.prog 41 = some 3 := by kernel_rfl
@[go_sem] theorem ty41zeroT : zeroT Try.prog 41 = some (.agg #[(.int .i64 0), (.int .i64 0), (.int .i64 0)]) := by kernel_rfl
@[go_sem] theorem ty41conc : Program.concrete Try.prog 41 = true := by kernel_rfl
@[go_sem] theorem ty41plc : plcT Try.prog 41 = some [(0, 1), (1, 1), (2, 1)] := by kernel_rfl
@[go_sem] theorem ty41flat : flatT Try.prog 41 = some [.int, .int, .int] := by kernel_rfl
@[go_sem] theorem ty41fld0 : fldI Try.prog 41 0 = some (0, 1, false) := by kernel_rfl
@[go_sem] theorem ty41fld1 : fldI Try.prog 41 1 = some (1, 1, false) := by kernel_rfl
@[go_sem] theorem ty41fld2 : fldI Try.prog 41 2 = some (2, 1, false) := by kernel_rfl
@[go_sem] theorem ty45tyK : tyK Try.prog 45 = .int .u32 := by kernel_rfl
@[go_sem] theorem ty45sizeT : sizeT Try.prog 45 = some 1 := by kernel_rfl
@[go_sem] theorem ty45zeroT : zeroT Try.prog 45 = some (.int .u32 0) := by kernel_rfl
@[go_sem] theorem ty45conc : Program.concrete Try.prog 45 = true := by kernel_rfl
@[go_sem] theorem ty48tyK : tyK Try.prog 48 = .slice false 9 := by kernel_rfl
@[go_sem] theorem ty48isSliceT : isSliceT Try.prog 48 = true := by kernel_rfl
@[go_sem] theorem ty48sliI : sliI Try.prog 48 = some 1 := by kernel_rfl
@[go_sem] theorem ty48mkI : mkI Try.prog 48 = some (9, 1, 16, (.string (ofL []))) := by kernel_rfl
@[go_sem] theorem ty48sizeT : sizeT Try.prog 48 = some 1 := by kernel_rfl
@[go_sem] theorem ty48zeroT : zeroT Try.prog 48 = some (.slice none 0 0) := by kernel_rfl
@[go_sem] theorem ty48conc : Program.concrete Try.prog 48 = true := by kernel_rfl
@[go_sem] theorem ty51tyK : tyK Try.prog 51 = .agg 3 := by kernel_rfl
@[go_sem] theorem ty51sizeT : sizeT Try.prog 51 = some 3 := by kernel_rfl
@[go_sem] theorem ty51zeroT : zeroT Try.prog 51 = some (.agg #[(.int .i64 0), (.int .i64 0), (.int .i64 0)]) := by kernel_rfl
@[go_sem] theorem ty51conc : Program.concrete Try.prog 51 = true := by kernel_rfl
@[go_sem] theorem ty51plc : plcT Try.prog 51 = some [(0, 1), (1, 1), (2, 1)] := by kernel_rfl
@[go_sem] theorem ty51flat : flatT Try.prog 51 = some [.int, .int, .int] := by kernel_rfl
@[go_sem] theorem ty51fld0 : fldI Try.prog 51 0 = some (0, 1, false) := by kernel_rfl
@[go_sem] theorem ty51fld1 : fldI Try.prog 51 1 = some (1, 1, false) := by kernel_rfl
@[go_sem] theorem ty51fld2 : fldI Try.prog 51 2 = some (2, 1, false) := by kernel_rfl
@[go_sem] theorem ty54tyK : tyK Try.prog 54 = .slice true 5 := by kernel_rfl
@[go_sem] theorem ty54isSliceT : isSliceT Try.prog 54 = true := by kernel_rfl
@[go_sem] theorem ty54sliI : sliI Try.prog 54 = some 1 := by kernel_rfl
@[go_sem] theorem ty54mkI : mkI Try.prog 54 = some (5, 1, 1, (.int .u8 0)) := by kernel_rfl
@[go_sem] theorem ty54sizeT : sizeT Try.prog 54 = some 1 := by kernel_rfl
@[go_sem] theorem ty54zeroT : zeroT Try.prog 54 = some (.slice none 0 0) := by kernel_rfl
@[go_sem] theorem ty54conc : Program.concrete Try.prog 54 = true := by kernel_rfl
@[go_sem] theorem ty56tyK : tyK Try.prog 56 = .agg 2 := by kernel_rfl
@[go_sem] theorem ty56sizeT : sizeT Try.prog 56 = some 2 := by kernel_rfl
@[go_sem] theorem ty56zeroT : zeroT Try.prog 56 = some (.agg #[(.pointer none), (.slice none 0 0)]) := by kernel_rfl
@[go_sem] theorem ty56conc : Program.concrete Try.prog 56 = true := by kernel_rfl
@[go_sem] theorem ty56plc : plcT Try.prog 56 = some [(0, 1), (1, 1)] := by kernel_rfl
@[go_sem] theorem ty56fld0 : fldI Try.prog 56 0 = some (0, 1, false) := by kernel_rfl
@[go_sem] theorem ty56fld1 : fldI Try.prog 56 1 = some (1, 1, false) := by kernel_rfl
@[go_sem] theorem ty66tyK : tyK Try.prog 66 = .slice false 69 := by kernel_rfl
@[go_sem] theorem ty66isSliceT : isSliceT Try.prog 66 = true := by kernel_rfl
@[go_sem] theorem ty66sliI : sliI Try.prog 66 = some 3 := by kernel_rfl
@[go_sem] theorem ty66mkI : mkI Try.prog 66 = some (69, 3, 40, (.agg #[(.int .i64 0), (.int .i64 0), (.slice none 0 0)])) := by kernel_rfl
@[go_sem] theorem ty66sizeT : sizeT Try.prog 66 = some 1 := by kernel_rfl
@[go_sem] theorem ty66zeroT : zeroT Try.prog 66 = some (.slice none 0 0) := by kernel_rfl
@[go_sem] theorem ty66conc : Program.concrete Try.prog 66 = true := by kernel_rfl
@[go_sem] theorem ty69tyK : tyK Try.prog 69 = .agg 3 := by kernel_rfl
@[go_sem] theorem ty69sizeT : sizeT Try.prog 69 = some 3 := by kernel_rfl
@[go_sem] theorem ty69zeroT : zeroT Try.prog 69 = some (.agg #[(.int .i64 0), (.int .i64 0), (.slice none 0 0)]) := by kernel_rfl
@[go_sem] theorem ty69conc : Program.concrete Try.prog 69 = true := by kernel_rfl
@[go_sem] theorem ty69plc : plcT Try.prog 69 = some [(0, 1), (1, 1), (2, 1)] := by kernel_rfl
@[go_sem] theorem ty69fld0 : fldI Try.prog 69 0 = some (0, 1, false) := by kernel_rfl
@[go_sem] theorem ty69fld1 : fldI Try.prog 69 1 = some (1, 1, false) := by kernel_rfl
@[go_sem] theorem ty69fld2 : fldI Try.prog 69 2 = some (2, 1, false) := by kernel_rfl
@[go_sem] theorem ty72tyK : tyK Try.prog 72 = .int .u64 := by kernel_rfl
@[go_sem] theorem ty72sizeT : sizeT Try.prog 72 = some 1 := by kernel_rfl
@[go_sem] theorem ty72zeroT : zeroT Try.prog 72 = some (.int .u64 0) := by kernel_rfl
@[go_sem] theorem ty72conc : Program.concrete Try.prog 72 = true := by kernel_rfl
@[go_sem] theorem ty75tyK : tyK Try.prog 75 = .map := by kernel_rfl
@[go_sem] theorem ty75isMapT : isMapT Try.prog 75 = true := by kernel_rfl
@[go_sem] theorem ty75sizeT : sizeT Try.prog 75 = some 1 := by kernel_rfl
@[go_sem] theorem ty75zeroT : zeroT Try.prog 75 = some (.map none) := by kernel_rfl
@[go_sem] theorem ty75conc : Program.concrete Try.prog 75 = true := by kernel_rfl
@[go_sem] theorem ty76tyK : tyK Try.prog 76 = .slice false 3 := by kernel_rfl
@[go_sem] theorem ty76isSliceT : isSliceT Try.prog 76 = true := by kernel_rfl
@[go_sem] theorem ty76sliI : sliI Try.prog 76 = some 1 := by kernel_rfl
@[go_sem] theorem ty76mkI : mkI Try.prog 76 = some (3, 1, 8, (.int .i64 0)) := by kernel_rfl
@[go_sem] theorem ty76sizeT : sizeT Try.prog 76 = some 1 := by kernel_rfl
@[go_sem] theorem ty76zeroT : zeroT Try.prog 76 = some (.slice none 0 0) := by kernel_rfl
@[go_sem] theorem ty76conc : Program.concrete Try.prog 76 = true := by kernel_rfl
@[go_sem] theorem ty87tyK : tyK Try.prog 87 = .ptr := by kernel_rfl
@[go_sem] theorem ty87isPtrT : isPtrT Try.prog 87 = true := by kernel_rfl
@[go_sem] theorem ty87sizeT : sizeT Try.prog 87 = some 1 := by kernel_rfl
@[go_sem] theorem ty87zeroT : zeroT Try.prog 87 = some (.pointer none) := by kernel_rfl
@[go_sem] theorem ty87conc : Program.concrete Try.prog 87 = true := by kernel_rfl
@[go_sem] theorem ty91tyK : tyK Try.prog 91 = .agg 4 := by kernel_rfl
@[go_sem] theorem ty91sizeT : sizeT Try.prog 91 = some 4 := by kernel_rfl
@[go_sem] theorem ty91zeroT : zeroT Try.prog 91 = some (.agg #[(.int .i64 0), (.int .i64 0), (.int .i64 0), (.int .i64 0)]) := by kernel_rfl
@[go_sem] theorem ty91conc : Program.concrete Try.prog 91 = true := by kernel_rfl
@[go_sem] theorem ty91plc : plcT Try.prog 91 = some [(0, 1), (1, 1), (2, 1), (3, 1)] := by kernel_rfl
@[go_sem] theorem ty91flat : flatT Try.prog 91 = some [.int, .int, .int, .int] := by kernel_rfl
@[go_sem] theorem ty91fld0 : fldI Try.prog 91 0 = some (0, 1, false) := by kernel_rfl
@[go_sem] theorem ty91fld1 : fldI Try.prog 91 1 = some (1, 1, false) := by kernel_rfl
@[go_sem] theorem ty91fld2 : fldI Try.prog 91 2 = some (2, 1, false) := by kernel_rfl
@[go_sem] theorem ty91fld3 : fldI Try.prog 91 3 = some (3, 1, false) := by kernel_rfl
@[go_sem] theorem ty100tyK : tyK Try.prog 100 = .int .u64 := by kernel_rfl
@[go_sem] theorem ty100sizeT : sizeT Try.prog 100 = some 1 := by kernel_rfl
@[go_sem] theorem ty100zeroT : zeroT Try.prog 100 = some (.int .u64 0) := by kernel_rfl
@[go_sem] theorem ty100conc : Program.concrete Try.prog 100 = true := by kernel_rfl
@[go_sem] theorem ty110tyK : tyK Try.prog 110 = .slice false 91 := by kernel_rfl
@[go_sem] theorem ty110isSliceT : isSliceT Try.prog 110 = true := by kernel_rfl
@[go_sem] theorem ty110sliI : sliI Try.prog 110 = some 4 := by kernel_rfl
@[go_sem] theorem ty110mkI : mkI Try.prog 110 = some (91, 4, 32, (.agg #[(.int .i64 0), (.int .i64 0), (.int .i64 0), (.int .i64 0)])) := by kernel_rfl
@[go_sem] theorem ty110sizeT : sizeT Try.prog 110 = some 1 := by kernel_rfl
@[go_sem] theorem ty110zeroT : zeroT Try.prog 110 = some (.slice none 0 0) := by kernel_rfl
@[go_sem] theorem ty110conc : Program.concrete Try.prog 110 = true := by kernel_rfl
@[go_sem] theorem ty115tyK : tyK Try.prog 115 = .int .i64 := by kernel_rfl
@[go_sem] theorem ty115sizeT : sizeT Try.prog 115 = some 1 := by kernel_rfl
@[go_sem] theorem ty115zeroT : zeroT Try.prog 115 = some (.int .i64 0) := by kernel_rfl
@[go_sem] theorem ty115conc : Program.concrete Try.prog 115 = true := by kernel_rfl
noncomputable def c3code : Code := match Try.f3.body with | some c => c | none => .skip
noncomputable def c3S0 (_ : Unit) : Cmd := .ret
noncomputable def c3 : Cmd := (.seq (.ops [
 ⟨some 1, .box 23 (.tmp 0), 0, none⟩,
 ⟨some 2, .assign (.const (.bool false)), 4, none⟩] [1])
 (.seq (.draw (drawOps 0 c3code) [2]) (sg c3S0)))
@[go_sem] theorem go3 : goFunc Try.prog 3 = true := by kernel_rfl
@[go_sem] theorem go4 : goFunc Try.prog 4 = true := by kernel_rfl
@[go_sem] theorem go5 : goFunc Try.prog 5 = true := by kernel_rfl
noncomputable def c6S0 (_ : Unit) : Cmd := .ret
noncomputable def c6S1 (_ : Unit) : Cmd := (.cond (.tmp 41)
  (.seq (.ops [
  ⟨some 42, .call ⟨.value (.func 10), #[], #[]⟩, 4, none⟩,
  ⟨some 6, .assign (.tmp 42), 4, none⟩] [6]) (sg c6S0))
  (.skip [3, 7, 8]))
noncomputable def c6S2 (_ : Unit) : Cmd := (.ops [
 ⟨some 86, .move (.tmp 17), 3, none⟩,
 ⟨some 87, .binOp .add 3 (.tmp 86) (.const (.int .i64 1)) 3, 3, none⟩,
 ⟨some 17, .assign (.tmp 87), 3, none⟩] [7, 11, 12, 13, 14, 15, 16, 17])
noncomputable def c6S3 (_ : Unit) : Cmd := (.seq (.block 1 (.seq (.ops [
 ⟨some 88, .move (.tmp 16), 9, none⟩,
 ⟨some 89, .move (.tmp 17), 3, none⟩,
 ⟨some 90, .index 9 (.tmp 88) (.tmp 89), 5, none⟩,
 ⟨some 91, .binOp .eql 5 (.tmp 90) (.const (.int .u8 46)) 5, 4, none⟩,
 ⟨some 92, .move (.tmp 17), 3, none⟩,
 ⟨some 93, .move (.tmp 14), 3, none⟩,
 ⟨some 94, .binOp .lss 3 (.tmp 92) (.tmp 93) 3, 4, none⟩,
 ⟨some 95, .move (.tmp 94), 4, none⟩,
 ⟨some 96, .move (.tmp 17), 3, (some (95, false))⟩,
 ⟨some 97, .move (.tmp 15), 3, (some (95, false))⟩,
 ⟨some 98, .binOp .gtr 3 (.tmp 96) (.tmp 97) 3, 4, (some (95, false))⟩,
 ⟨some 99, .pick (.tmp 95) (.const (.bool true)) (.tmp 98), 4, none⟩,
 ⟨some 100, .binOp .neq 4 (.tmp 91) (.tmp 99) 4, 4, none⟩] [7, 11, 12, 13, 14, 15, 16, 17, 100])
 (.cond (.tmp 100)
  (.seq (.ops [
  ⟨some 6, .assign (.const (.bool false)), 4, none⟩] [6])
  .ret)
  (.skip [7, 11, 12, 13, 14, 15, 16, 17])))) (sg c6S2))
noncomputable def c6L0 (_ : Unit) : Cmd := (.seq (.seq (.ops [
 ⟨some 83, .move (.tmp 17), 3, none⟩,
 ⟨some 84, .move (.tmp 7), 3, none⟩,
 ⟨some 85, .binOp .lss 3 (.tmp 83) (.tmp 84) 3, 4, none⟩] [7, 11, 12, 13, 14, 15, 16, 17, 85])
 (.cond (.tmp 85)
  (.skip [7, 11, 12, 13, 14, 15, 16, 17])
  (.exit 0 [11, 12, 13]))) (sg c6S3))
noncomputable def c6S4 (_ : Unit) : Cmd := .ret
noncomputable def c6S5 (_ : Unit) : Cmd := (.seq (.ops [
 ⟨some 101, .move (.tmp 11), 3, none⟩,
 ⟨some 102, .fieldAddr 41 (.tmp 13) 0, 0, none⟩,
 ⟨some 103, .load 3 (.tmp 102), 3, none⟩,
 ⟨some 104, .binOp .eql 3 (.tmp 101) (.tmp 103) 3, 4, none⟩,
 ⟨some 105, .move (.tmp 104), 4, none⟩,
 ⟨some 106, .move (.tmp 12), 3, (some (105, true))⟩,
 ⟨some 107, .fieldAddr 41 (.tmp 13) 1, 0, (some (105, true))⟩,
 ⟨some 108, .load 3 (.tmp 107), 3, (some (105, true))⟩,
 ⟨some 109, .binOp .geq 3 (.tmp 106) (.tmp 108) 3, 4, (some (105, true))⟩,
 ⟨some 110, .pick (.tmp 105) (.tmp 109) (.const (.bool false)), 4, none⟩,
 ⟨some 111, .move (.tmp 110), 4, none⟩,
 ⟨some 112, .call ⟨.value (.func 10), #[], #[]⟩, 4, (some (111, true))⟩,
 ⟨some 113, .pick (.tmp 111) (.tmp 112) (.const (.bool false)), 4, none⟩,
 ⟨some 6, .assign (.tmp 113), 4, none⟩] [6]) (sg c6S4))
noncomputable def c6S6 (_ : Unit) : Cmd := (.seq (.ops [
 ⟨some 79, .move (.tmp 9), 9, none⟩,
 ⟨some 80, .move (.tmp 7), 3, none⟩,
 ⟨some 81, .binOp .add 3 (.const (.int .i64 7)) (.tmp 80) 3, 3, none⟩,
 ⟨some 82, .slice 9 (.tmp 79) (some (.const (.int .i64 7))) (some (.tmp 81)) none, 9, none⟩,
 ⟨some 16, .assign (.tmp 82), 9, none⟩] [7, 11, 12, 13, 14, 15, 16])
 (.seq (.seq (.ops [
 ⟨some 17, .assign (.const (.int .i64 0)), 3, none⟩] [7, 11, 12, 13, 14, 15, 16, 17])
 (.block 0 (.loop (sg c6L0)))) (sg c6S5)))
noncomputable def c6S7 (_ : Unit) : Cmd := (.seq (.seq (.ops [
 ⟨some 73, .fieldAddr 23 (.tmp 3) 7, 0, none⟩,
 ⟨some 74, .load 4 (.tmp 73), 4, none⟩] [3, 7, 9, 11, 12, 13, 14, 15, 74])
 (.cond (.tmp 74)
  (.ops [
  ⟨some 75, .load 41 (.tmp 13), 41, none⟩,
  ⟨some 76, .fieldAddr 23 (.tmp 3) 10, 0, none⟩,
  ⟨some 77, .load 3 (.tmp 76), 3, none⟩,
  ⟨some 78, .call ⟨.value (.func 17), #[(.tmp 75), (.tmp 77)], #[41, 3]⟩, 3, none⟩,
  ⟨some 15, .assign (.tmp 78), 3, none⟩] [7, 9, 11, 12, 13, 14, 15])
  (.skip [7, 9, 11, 12, 13, 14, 15]))) (sg c6S6))
noncomputable def c6S8 (_ : Unit) : Cmd := (.seq (.ops [
 ⟨some 67, .load 41 (.tmp 13), 41, none⟩,
 ⟨some 68, .fieldAddr 23 (.tmp 3) 9, 0, none⟩,
 ⟨some 69, .load 3 (.tmp 68), 3, none⟩,
 ⟨some 70, .call ⟨.value (.func 17), #[(.tmp 67), (.tmp 69)], #[41, 3]⟩, 3, none⟩,
 ⟨some 71, .move (.tmp 7), 3, none⟩,
 ⟨some 72, .binOp .sub 3 (.tmp 71) (.const (.int .i64 1)) 3, 3, none⟩,
 ⟨some 14, .assign (.tmp 70), 3, none⟩,
 ⟨some 15, .assign (.tmp 72), 3, none⟩] [3, 7, 9, 11, 12, 13, 14, 15]) (sg c6S7))
noncomputable def c6S9 (_ : Unit) : Cmd := (.seq (.ops [
 ⟨some 64, .move (.tmp 8), 27, none⟩,
 ⟨some 65, .move (.tmp 7), 3, none⟩,
 ⟨some 66, .call ⟨.value (.func 16), #[(.tmp 64), (.tmp 65)], #[27, 3]⟩, 41, none⟩,
 ⟨some 13, .alloc 41, 0, none⟩,
 ⟨none, .store 41 (.tmp 13) (.tmp 66), 0, none⟩] [3, 7, 9, 11, 12, 13]) (sg c6S8))
noncomputable def c6S10 (_ : Unit) : Cmd := (.seq (.ops [
 ⟨some 60, .move (.tmp 8), 27, none⟩,
 ⟨some 61, .call ⟨.value (.func 15), #[(.tmp 60)], #[27]⟩, 38, none⟩,
 ⟨some 59, .move (.tmp 61), 38, none⟩,
 ⟨some 62, .extract (.tmp 59) 0, 3, none⟩,
 ⟨some 63, .extract (.tmp 59) 1, 3, none⟩,
 ⟨some 11, .assign (.tmp 62), 3, none⟩,
 ⟨some 12, .assign (.tmp 63), 3, none⟩] [3, 7, 8, 9, 11, 12]) (sg c6S9))
noncomputable def c6S11 (_ : Unit) : Cmd := (.seq (.seq (.ops [
 ⟨some 49, .move (.tmp 10), 29, none⟩,
 ⟨some 50, .binOp .neq 29 (.tmp 49) (.const (.int .i64 0)) 29, 4, none⟩,
 ⟨some 51, .move (.tmp 50), 4, none⟩,
 ⟨some 52, .move (.tmp 9), 9, (some (51, false))⟩,
 ⟨some 53, .call ⟨.builtin .len, #[(.tmp 52)], #[9]⟩, 3, (some (51, false))⟩,
 ⟨some 54, .move (.tmp 7), 3, (some (51, false))⟩,
 ⟨some 55, .binOp .add 3 (.tmp 54) (.const (.int .i64 8)) 3, 3, (some (51, false))⟩,
 ⟨some 56, .binOp .mul 3 (.const (.int .i64 2)) (.tmp 55) 3, 3, (some (51, false))⟩,
 ⟨some 57, .binOp .neq 3 (.tmp 53) (.tmp 56) 3, 4, (some (51, false))⟩,
 ⟨some 58, .pick (.tmp 51) (.const (.bool true)) (.tmp 57), 4, none⟩] [3, 7, 8, 9, 58])
 (.cond (.tmp 58)
  (.seq (.ops [
  ⟨some 6, .assign (.const (.bool false)), 4, none⟩] [6])
  .ret)
  (.skip [3, 7, 8, 9]))) (sg c6S10))
noncomputable def c6S12 (_ : Unit) : Cmd := (.seq (.ops [
 ⟨some 44, .move (.tmp 8), 27, none⟩,
 ⟨some 45, .move (.tmp 7), 3, none⟩,
 ⟨some 46, .call ⟨.value (.func 12), #[(.tmp 44), (.tmp 45)], #[27, 3]⟩, 30, none⟩,
 ⟨some 43, .move (.tmp 46), 30, none⟩,
 ⟨some 47, .extract (.tmp 43) 0, 9, none⟩,
 ⟨some 48, .extract (.tmp 43) 1, 29, none⟩,
 ⟨some 9, .assign (.tmp 47), 9, none⟩,
 ⟨some 10, .assign (.tmp 48), 29, none⟩] [3, 7, 8, 9, 10]) (sg c6S11))
noncomputable def c6 : Cmd := (.seq (.ops [
 ⟨some 3, .box 23 (.tmp 0), 0, none⟩,
 ⟨some 4, .box 23 (.tmp 1), 0, none⟩,
 ⟨some 6, .assign (.const (.bool false)), 4, none⟩] [2, 3, 4])
 (.seq (.ops [
 ⟨some 18, .move (.tmp 2), 5, none⟩,
 ⟨some 19, .convert 5 3 (.tmp 18), 3, none⟩,
 ⟨some 20, .binOp .rem 3 (.tmp 19) (.const (.int .i64 193)) 3, 3, none⟩,
 ⟨some 21, .binOp .add 3 (.tmp 20) (.const (.int .i64 8)) 3, 3, none⟩,
 ⟨some 7, .assign (.tmp 21), 3, none⟩] [3, 4, 7])
 (.seq (.ops [
 ⟨some 22, .load 23 (.tmp 3), 23, none⟩,
 ⟨some 23, .load 23 (.tmp 4), 23, none⟩,
 ⟨some 24, .buildSlice 27 2 #[(0, (.tmp 22)), (1, (.tmp 23))], 27, none⟩,
 ⟨some 8, .assign (.tmp 24), 27, none⟩] [3, 4, 7, 8])
 (.seq (.seq (.ops [
 ⟨some 25, .move (.tmp 8), 27, none⟩,
 ⟨some 26, .call ⟨.value (.func 11), #[(.tmp 25)], #[27]⟩, 4, none⟩,
 ⟨some 27, .unOp .not 4 (.tmp 26), 4, none⟩,
 ⟨some 28, .move (.tmp 27), 4, none⟩,
 ⟨some 29, .fieldAddr 23 (.tmp 3) 1, 0, (some (28, false))⟩,
 ⟨some 30, .load 3 (.tmp 29), 3, (some (28, false))⟩,
 ⟨some 31, .fieldAddr 23 (.tmp 4) 1, 0, (some (28, false))⟩,
 ⟨some 32, .load 3 (.tmp 31), 3, (some (28, false))⟩,
 ⟨some 33, .binOp .eql 3 (.tmp 30) (.tmp 32) 3, 4, (some (28, false))⟩,
 ⟨some 34, .pick (.tmp 28) (.const (.bool true)) (.tmp 33), 4, none⟩,
 ⟨some 35, .move (.tmp 34), 4, none⟩,
 ⟨some 36, .fieldAddr 23 (.tmp 3) 1, 0, (some (35, false))⟩,
 ⟨some 37, .load 3 (.tmp 36), 3, (some (35, false))⟩,
 ⟨some 38, .fieldAddr 23 (.tmp 4) 1, 0, (some (35, false))⟩,
 ⟨some 39, .load 3 (.tmp 38), 3, (some (35, false))⟩,
 ⟨some 40, .binOp .gtr 3 (.tmp 37) (.tmp 39) 3, 4, (some (35, false))⟩,
 ⟨some 41, .pick (.tmp 35) (.const (.bool true)) (.tmp 40), 4, none⟩] [3, 7, 8, 41]) (sg c6S1)) (sg c6S12)))))
@[go_sem] theorem go6 : goFunc Try.prog 6 = true := by kernel_rfl
noncomputable def c7code : Code := match Try.f7.body with | some c => c | none => .skip
noncomputable def c7S0 (_ : Unit) : Cmd := .ret
noncomputable def c7S1 (_ : Unit) : Cmd := (.cond (.tmp 20)
  (.seq (.ops [
  ⟨some 21, .call ⟨.value (.func 10), #[], #[]⟩, 4, none⟩,
  ⟨some 6, .assign (.tmp 21), 4, none⟩] [6]) (sg c7S0))
  (.skip [0, 1, 2]))
noncomputable def c7S2 (_ : Unit) : Cmd := (.ops [
 ⟨some 46, .move (.tmp 7), 27, none⟩,
 ⟨some 47, .load 23 (.tmp 9), 23, none⟩,
 ⟨some 48, .buildSlice 27 1 #[(0, (.tmp 47))], 27, none⟩,
 ⟨some 49, .call ⟨.builtin .append, #[(.tmp 46), (.tmp 48)], #[27, 27]⟩, 27, none⟩,
 ⟨some 7, .assign (.tmp 49), 27, none⟩] [0, 1, 2, 7, 8])
noncomputable def c7S3 (_ : Unit) : Cmd := (.ops [
 ⟨some 26, .move (.tmp 8), 3, none⟩,
 ⟨some 27, .binOp .add 3 (.tmp 26) (.const (.int .i64 1)) 3, 3, none⟩,
 ⟨some 8, .assign (.tmp 27), 3, none⟩] [0, 1, 2, 7, 8])
noncomputable def c7S4 (_ : Unit) : Cmd := (.seq (.block 1 (.seq (.ops [
 ⟨some 28, .move (.tmp 0), 27, none⟩,
 ⟨some 29, .move (.tmp 8), 3, none⟩,
 ⟨some 30, .indexAddr 27 (.tmp 28) (.tmp 29), 0, none⟩,
 ⟨some 31, .load 23 (.tmp 30), 23, none⟩,
 ⟨some 9, .alloc 23, 0, none⟩,
 ⟨none, .store 23 (.tmp 9) (.tmp 31), 0, none⟩] [0, 1, 2, 7, 8, 9])
 (.seq (.ops [
 ⟨some 32, .fieldAddr 23 (.tmp 9) 9, 0, none⟩,
 ⟨some 33, .load 3 (.tmp 32), 3, none⟩,
 ⟨some 34, .move (.tmp 1), 45, none⟩,
 ⟨some 35, .convert 45 3 (.tmp 34), 3, none⟩,
 ⟨some 36, .binOp .add 3 (.tmp 33) (.tmp 35) 3, 3, none⟩,
 ⟨some 37, .fieldAddr 23 (.tmp 9) 9, 0, none⟩,
 ⟨none, .store 3 (.tmp 37) (.tmp 36), 0, none⟩] [0, 1, 2, 7, 8, 9])
 (.seq (.seq (.ops [
 ⟨some 38, .fieldAddr 23 (.tmp 9) 7, 0, none⟩,
 ⟨some 39, .load 4 (.tmp 38), 4, none⟩] [0, 1, 2, 7, 8, 9, 39])
 (.cond (.tmp 39)
  (.ops [
  ⟨some 40, .fieldAddr 23 (.tmp 9) 10, 0, none⟩,
  ⟨some 41, .load 3 (.tmp 40), 3, none⟩,
  ⟨some 42, .move (.tmp 1), 45, none⟩,
  ⟨some 43, .convert 45 3 (.tmp 42), 3, none⟩,
  ⟨some 44, .binOp .add 3 (.tmp 41) (.tmp 43) 3, 3, none⟩,
  ⟨some 45, .fieldAddr 23 (.tmp 9) 10, 0, none⟩,
  ⟨none, .store 3 (.tmp 45) (.tmp 44), 0, none⟩] [0, 1, 2, 7, 8, 9])
  (.skip [0, 1, 2, 7, 8, 9]))) (sg c7S2))))) (sg c7S3))
noncomputable def c7L0 (_ : Unit) : Cmd := (.seq (.seq (.ops [
 ⟨some 22, .move (.tmp 8), 3, none⟩,
 ⟨some 23, .move (.tmp 0), 27, none⟩,
 ⟨some 24, .call ⟨.builtin .len, #[(.tmp 23)], #[27]⟩, 3, none⟩,
 ⟨some 25, .binOp .lss 3 (.tmp 22) (.tmp 24) 3, 4, none⟩] [0, 1, 2, 7, 8, 25])
 (.cond (.tmp 25)
  (.skip [0, 1, 2, 7, 8])
  (.exit 0 [0, 2, 7]))) (sg c7S4))
noncomputable def c7S5 (_ : Unit) : Cmd := .ret
noncomputable def c7S6 (_ : Unit) : Cmd := (.cond (.tmp 52)
  (.seq (.ops [
  ⟨some 53, .call ⟨.value (.func 10), #[], #[]⟩, 4, none⟩,
  ⟨some 6, .assign (.tmp 53), 4, none⟩] [6]) (sg c7S5))
  (.skip [0, 2, 7]))
noncomputable def c7S7 (_ : Unit) : Cmd := .ret
noncomputable def c7S8 (_ : Unit) : Cmd := (.seq (.ops [
 ⟨some 78, .move (.tmp 10), 9, none⟩,
 ⟨some 79, .move (.tmp 12), 9, none⟩,
 ⟨some 80, .binOp .eql 9 (.tmp 78) (.tmp 79) 9, 4, none⟩,
 ⟨some 81, .move (.tmp 80), 4, none⟩,
 ⟨some 82, .move (.tmp 14), 9, (some (81, true))⟩,
 ⟨some 83, .move (.tmp 16), 9, (some (81, true))⟩,
 ⟨some 84, .binOp .eql 9 (.tmp 82) (.tmp 83) 9, 4, (some (81, true))⟩,
 ⟨some 85, .pick (.tmp 81) (.tmp 84) (.const (.bool false)), 4, none⟩,
 ⟨some 86, .move (.tmp 85), 4, none⟩,
 ⟨some 87, .move (.tmp 11), 29, (some (86, true))⟩,
 ⟨some 88, .move (.tmp 13), 29, (some (86, true))⟩,
 ⟨some 89, .binOp .eql 29 (.tmp 87) (.tmp 88) 29, 4, (some (86, true))⟩,
 ⟨some 90, .pick (.tmp 86) (.tmp 89) (.const (.bool false)), 4, none⟩,
 ⟨some 91, .move (.tmp 90), 4, none⟩,
 ⟨some 92, .move (.tmp 15), 29, (some (91, true))⟩,
 ⟨some 93, .move (.tmp 17), 29, (some (91, true))⟩,
 ⟨some 94, .binOp .eql 29 (.tmp 92) (.tmp 93) 29, 4, (some (91, true))⟩,
 ⟨some 95, .pick (.tmp 91) (.tmp 94) (.const (.bool false)), 4, none⟩,
 ⟨some 96, .move (.tmp 95), 4, none⟩,
 ⟨some 97, .move (.tmp 11), 29, (some (96, true))⟩,
 ⟨some 98, .move (.tmp 15), 29, (some (96, true))⟩,
 ⟨some 99, .binOp .eql 29 (.tmp 97) (.tmp 98) 29, 4, (some (96, true))⟩,
 ⟨some 100, .pick (.tmp 96) (.tmp 99) (.const (.bool false)), 4, none⟩,
 ⟨some 101, .move (.tmp 100), 4, none⟩,
 ⟨some 102, .call ⟨.value (.func 10), #[], #[]⟩, 4, (some (101, true))⟩,
 ⟨some 103, .pick (.tmp 101) (.tmp 102) (.const (.bool false)), 4, none⟩,
 ⟨some 6, .assign (.tmp 103), 4, none⟩] [6]) (sg c7S7))
noncomputable def c7S9 (_ : Unit) : Cmd := (.seq (.ops [
 ⟨some 73, .move (.tmp 7), 27, none⟩,
 ⟨some 74, .move (.tmp 2), 3, none⟩,
 ⟨some 75, .call ⟨.value (.func 18), #[(.tmp 73), (.tmp 74)], #[27, 3]⟩, 30, none⟩,
 ⟨some 72, .move (.tmp 75), 30, none⟩,
 ⟨some 76, .extract (.tmp 72) 0, 9, none⟩,
 ⟨some 77, .extract (.tmp 72) 1, 29, none⟩,
 ⟨some 16, .assign (.tmp 76), 9, none⟩,
 ⟨some 17, .assign (.tmp 77), 29, none⟩] [10, 11, 12, 13, 14, 15, 16, 17]) (sg c7S8))
noncomputable def c7S10 (_ : Unit) : Cmd := (.seq (.ops [
 ⟨some 67, .move (.tmp 0), 27, none⟩,
 ⟨some 68, .move (.tmp 2), 3, none⟩,
 ⟨some 69, .call ⟨.value (.func 18), #[(.tmp 67), (.tmp 68)], #[27, 3]⟩, 30, none⟩,
 ⟨some 66, .move (.tmp 69), 30, none⟩,
 ⟨some 70, .extract (.tmp 66) 0, 9, none⟩,
 ⟨some 71, .extract (.tmp 66) 1, 29, none⟩,
 ⟨some 14, .assign (.tmp 70), 9, none⟩,
 ⟨some 15, .assign (.tmp 71), 29, none⟩] [2, 7, 10, 11, 12, 13, 14, 15]) (sg c7S9))
noncomputable def c7S11 (_ : Unit) : Cmd := (.seq (.ops [
 ⟨some 61, .move (.tmp 7), 27, none⟩,
 ⟨some 62, .move (.tmp 2), 3, none⟩,
 ⟨some 63, .call ⟨.value (.func 12), #[(.tmp 61), (.tmp 62)], #[27, 3]⟩, 30, none⟩,
 ⟨some 60, .move (.tmp 63), 30, none⟩,
 ⟨some 64, .extract (.tmp 60) 0, 9, none⟩,
 ⟨some 65, .extract (.tmp 60) 1, 29, none⟩,
 ⟨some 12, .assign (.tmp 64), 9, none⟩,
 ⟨some 13, .assign (.tmp 65), 29, none⟩] [0, 2, 7, 10, 11, 12, 13]) (sg c7S10))
noncomputable def c7S12 (_ : Unit) : Cmd := (.seq (.ops [
 ⟨some 55, .move (.tmp 0), 27, none⟩,
 ⟨some 56, .move (.tmp 2), 3, none⟩,
 ⟨some 57, .call ⟨.value (.func 12), #[(.tmp 55), (.tmp 56)], #[27, 3]⟩, 30, none⟩,
 ⟨some 54, .move (.tmp 57), 30, none⟩,
 ⟨some 58, .extract (.tmp 54) 0, 9, none⟩,
 ⟨some 59, .extract (.tmp 54) 1, 29, none⟩,
 ⟨some 10, .assign (.tmp 58), 9, none⟩,
 ⟨some 11, .assign (.tmp 59), 29, none⟩] [0, 2, 7, 10, 11]) (sg c7S11))
noncomputable def c7S13 (_ : Unit) : Cmd := (.seq (.seq (.ops [
 ⟨some 50, .move (.tmp 7), 27, none⟩,
 ⟨some 51, .call ⟨.value (.func 11), #[(.tmp 50)], #[27]⟩, 4, none⟩,
 ⟨some 52, .unOp .not 4 (.tmp 51), 4, none⟩] [0, 2, 7, 52]) (sg c7S6)) (sg c7S12))
noncomputable def c7S14 (_ : Unit) : Cmd := (.seq (.ops [
 ⟨some 7, .assign (.const (.slice none 0 0)), 27, none⟩] [0, 1, 2, 7])
 (.seq (.seq (.ops [
 ⟨some 8, .assign (.const (.int .i64 0)), 3, none⟩] [0, 1, 2, 7, 8])
 (.block 0 (.loop (sg c7L0)))) (sg c7S13)))
noncomputable def c7 : Cmd := (.seq (.ops [
 ⟨some 6, .assign (.const (.bool false)), 4, none⟩] [0, 1, 2])
 (.seq (.seq (.ops [
 ⟨some 18, .move (.tmp 0), 27, none⟩,
 ⟨some 19, .call ⟨.value (.func 11), #[(.tmp 18)], #[27]⟩, 4, none⟩,
 ⟨some 20, .unOp .not 4 (.tmp 19), 4, none⟩] [0, 1, 2, 20]) (sg c7S1)) (sg c7S14)))
set_option maxRecDepth 100000 in
theorem ent7 (a0 a1 a2 : Value) (w : World) (K : Value → World → Prop) (h : W Try.prog c7 [(0, a0), (1, a1), (2, a2)] w (finQ Try.prog [.tmp 6] K)) : Ret Try.prog 7 [a0, a1, a2] w K :=
  Ret_of_W (code := c7code) Try.func7 (by kernel_rfl) (by kernel_rfl) (of_decide_eq_true (by kernel_rfl)) h
@[go_sem] theorem go7 : goFunc Try.prog 7 = true := by kernel_rfl
noncomputable def c8code : Code := match Try.f8.body with | some c => c | none => .skip
noncomputable def c8S0 (_ : Unit) : Cmd := (.cond (.tmp 9)
  (.ops [
  ⟨some 16, .move (.tmp 3), 9, none⟩,
  ⟨some 17, .fieldAddr 23 (.tmp 1) 5, 0, none⟩,
  ⟨some 18, .load 3 (.tmp 17), 3, none⟩,
  ⟨some 19, .call ⟨.value (.func 20), #[(.tmp 18)], #[3]⟩, 9, none⟩,
  ⟨some 20, .binOp .add 9 (.tmp 16) (.tmp 19) 9, 9, none⟩,
  ⟨some 3, .assign (.tmp 20), 9, none⟩] [1, 3])
  (.seq (.ops [
  ⟨some 22, .binOp .eql 3 (.tmp 8) (.const (.int .i64 3)) 3, 4, none⟩,
  ⟨some 21, .assign (.tmp 22), 4, none⟩] [1, 3, 21])
  (.cond (.tmp 21)
   (.draw (drawOps 0 c8code) [1, 3])
   (.skip [1, 3]))))
noncomputable def c8S1 (_ : Unit) : Cmd := (.cond (.tmp 39)
  (.ops [
  ⟨some 47, .move (.tmp 3), 9, none⟩,
  ⟨some 48, .fieldAddr 23 (.tmp 1) 8, 0, none⟩,
  ⟨some 49, .load 3 (.tmp 48), 3, none⟩,
  ⟨some 50, .call ⟨.value (.func 20), #[(.tmp 49)], #[3]⟩, 9, none⟩,
  ⟨some 51, .binOp .add 9 (.const (.string (ofL [61]))) (.tmp 50) 9, 9, none⟩,
  ⟨some 52, .binOp .add 9 (.tmp 47) (.tmp 51) 9, 9, none⟩,
  ⟨some 3, .assign (.tmp 52), 9, none⟩] [3])
  (.skip [3]))
noncomputable def c8S2 (_ : Unit) : Cmd := (.seq (.ops [
 ⟨some 53, .move (.tmp 3), 9, none⟩,
 ⟨some 2, .assign (.tmp 53), 9, none⟩] [2])
 .ret)
noncomputable def c8S3 (_ : Unit) : Cmd := (.seq (.seq (.ops [
 ⟨some 37, .fieldAddr 23 (.tmp 1) 4, 0, none⟩,
 ⟨some 38, .load 3 (.tmp 37), 3, none⟩] [1, 3, 38])
 (.block 1 (.seq (.seq (.ops [
 ⟨some 40, .binOp .eql 3 (.tmp 38) (.const (.int .i64 1)) 3, 4, none⟩,
 ⟨some 39, .assign (.tmp 40), 4, none⟩] [1, 3, 38, 39])
 (.cond (.tmp 39)
  (.skip [1, 3, 39])
  (.seq (.ops [
  ⟨some 41, .binOp .eql 3 (.tmp 38) (.const (.int .i64 3)) 3, 4, none⟩,
  ⟨some 39, .assign (.tmp 41), 4, none⟩] [1, 3, 38, 39])
  (.cond (.tmp 39)
   (.skip [1, 3, 39])
   (.seq (.ops [
   ⟨some 42, .binOp .eql 3 (.tmp 38) (.const (.int .i64 7)) 3, 4, none⟩,
   ⟨some 39, .assign (.tmp 42), 4, none⟩] [1, 3, 38, 39])
   (.cond (.tmp 39)
    (.skip [1, 3, 39])
    (.seq (.ops [
    ⟨some 43, .binOp .eql 3 (.tmp 38) (.const (.int .i64 9)) 3, 4, none⟩,
    ⟨some 39, .assign (.tmp 43), 4, none⟩] [1, 3, 38, 39])
    (.cond (.tmp 39)
     (.skip [1, 3, 39])
     (.seq (.ops [
     ⟨some 44, .binOp .eql 3 (.tmp 38) (.const (.int .i64 10)) 3, 4, none⟩,
     ⟨some 39, .assign (.tmp 44), 4, none⟩] [1, 3, 38, 39])
     (.cond (.tmp 39)
      (.skip [1, 3, 39])
      (.seq (.ops [
      ⟨some 45, .binOp .eql 3 (.tmp 38) (.const (.int .i64 11)) 3, 4, none⟩,
      ⟨some 39, .assign (.tmp 45), 4, none⟩] [1, 3, 38, 39])
      (.cond (.tmp 39)
       (.skip [1, 3, 39])
       (.ops [
       ⟨some 46, .binOp .eql 3 (.tmp 38) (.const (.int .i64 12)) 3, 4, none⟩,
       ⟨some 39, .assign (.tmp 46), 4, none⟩] [1, 3, 39]))))))))))))) (sg c8S1)))) (sg c8S2))
noncomputable def c8S4 (_ : Unit) : Cmd := (.seq (.seq (.ops [
 ⟨some 33, .fieldAddr 23 (.tmp 1) 7, 0, none⟩,
 ⟨some 34, .load 4 (.tmp 33), 4, none⟩,
 ⟨some 35, .unOp .not 4 (.tmp 34), 4, none⟩] [1, 3, 35])
 (.cond (.tmp 35)
  (.seq (.ops [
  ⟨some 36, .move (.tmp 3), 9, none⟩,
  ⟨some 2, .assign (.tmp 36), 9, none⟩] [2])
  .ret)
  (.skip [1, 3]))) (sg c8S3))
noncomputable def c8S5 (_ : Unit) : Cmd := (.seq (.seq (.ops [
 ⟨some 7, .fieldAddr 23 (.tmp 1) 4, 0, none⟩,
 ⟨some 8, .load 3 (.tmp 7), 3, none⟩] [1, 3, 8])
 (.block 0 (.seq (.seq (.ops [
 ⟨some 10, .binOp .eql 3 (.tmp 8) (.const (.int .i64 2)) 3, 4, none⟩,
 ⟨some 9, .assign (.tmp 10), 4, none⟩] [1, 3, 8, 9])
 (.cond (.tmp 9)
  (.skip [1, 3, 8, 9])
  (.seq (.ops [
  ⟨some 11, .binOp .eql 3 (.tmp 8) (.const (.int .i64 6)) 3, 4, none⟩,
  ⟨some 9, .assign (.tmp 11), 4, none⟩] [1, 3, 8, 9])
  (.cond (.tmp 9)
   (.skip [1, 3, 8, 9])
   (.seq (.ops [
   ⟨some 12, .binOp .eql 3 (.tmp 8) (.const (.int .i64 8)) 3, 4, none⟩,
   ⟨some 9, .assign (.tmp 12), 4, none⟩] [1, 3, 8, 9])
   (.cond (.tmp 9)
    (.skip [1, 3, 8, 9])
    (.seq (.ops [
    ⟨some 13, .binOp .eql 3 (.tmp 8) (.const (.int .i64 10)) 3, 4, none⟩,
    ⟨some 9, .assign (.tmp 13), 4, none⟩] [1, 3, 8, 9])
    (.cond (.tmp 9)
     (.skip [1, 3, 8, 9])
     (.seq (.ops [
     ⟨some 14, .binOp .eql 3 (.tmp 8) (.const (.int .i64 11)) 3, 4, none⟩,
     ⟨some 9, .assign (.tmp 14), 4, none⟩] [1, 3, 8, 9])
     (.cond (.tmp 9)
      (.skip [1, 3, 8, 9])
      (.ops [
      ⟨some 15, .binOp .eql 3 (.tmp 8) (.const (.int .i64 12)) 3, 4, none⟩,
      ⟨some 9, .assign (.tmp 15), 4, none⟩] [1, 3, 8, 9]))))))))))) (sg c8S0)))) (sg c8S4))
noncomputable def c8 : Cmd := (.seq (.ops [
 ⟨some 1, .box 23 (.tmp 0), 0, none⟩,
 ⟨some 2, .assign (.const (.string (ofL []))), 9, none⟩] [1])
 (.seq (.ops [
 ⟨some 4, .fieldAddr 23 (.tmp 1) 4, 0, none⟩,
 ⟨some 5, .load 3 (.tmp 4), 3, none⟩,
 ⟨some 6, .call ⟨.value (.func 19), #[(.tmp 5)], #[3]⟩, 9, none⟩,
 ⟨some 3, .assign (.tmp 6), 9, none⟩] [1, 3]) (sg c8S5)))
noncomputable def c8D0 : List (Nat × Ins) := [
 (0, ⟨some 23, .move (.tmp 3), 9, none⟩),
 (0, ⟨some 24, .fieldAddr 23 (.tmp 1) 5, 0, none⟩),
 (0, ⟨some 28, .fieldAddr 23 (.tmp 1) 6, 0, none⟩),
 (1, ⟨some 25, .load 3 (.tmp 24), 3, none⟩),
 (1, ⟨some 29, .load 3 (.tmp 28), 3, none⟩),
 (2, ⟨some 26, .call ⟨.value (.func 20), #[(.tmp 25)], #[3]⟩, 9, none⟩),
 (0, ⟨some 27, .binOp .add 9 (.tmp 26) (.const (.string (ofL [58]))) 9, 9, none⟩),
 (2, ⟨some 30, .call ⟨.value (.func 20), #[(.tmp 29)], #[3]⟩, 9, none⟩),
 (0, ⟨some 31, .binOp .add 9 (.tmp 27) (.tmp 30) 9, 9, none⟩),
 (0, ⟨some 32, .binOp .add 9 (.tmp 23) (.tmp 31) 9, 9, none⟩),
 (0, ⟨some 3, .assign (.tmp 32), 9, none⟩)]
theorem c8draw0 {L : List Nat} {ρ : Env} {w : World} {Q : Post} (S : World → Prop) (hS : S w.drew) (h : DG Try.prog S c8D0 L ρ w.drew Q) : drawW Try.prog (drawOps 0 c8code) L ρ w Q :=
  drawW_held [2, 6] [(0, 0), (0, 1), (0, 5), (1, 2), (1, 6), (2, 3), (0, 4), (2, 7), (0, 8), (0, 9), (0, 10)] c8D0 (by kernel_rfl) (by kernel_rfl) (by kernel_rfl) S hS h
set_option maxRecDepth 100000 in
theorem ent8 (a0 : Value) (w : World) (K : Value → World → Prop) (h : W Try.prog c8 [(0, a0)] w (finQ Try.prog [.tmp 2] K)) : Ret Try.prog 8 [a0] w K :=
  Ret_of_W (code := c8code) Try.func8 (by kernel_rfl) (by kernel_rfl) (of_decide_eq_true (by kernel_rfl)) h
@[go_sem] theorem go8 : goFunc Try.prog 8 = true := by kernel_rfl
noncomputable def c9code : Code := match Try.f9.body with | some c => c | none => .skip
noncomputable def c9S0 (_ : Unit) : Cmd := (.seq (.ops [
 ⟨some 89, .move (.tmp 5), 9, none⟩,
 ⟨some 2, .assign (.tmp 89), 9, none⟩] [2])
 .ret)
noncomputable def c9S1 (_ : Unit) : Cmd := (.seq (.seq (.ops [
 ⟨some 57, .fieldAddr 23 (.tmp 1) 7, 0, none⟩,
 ⟨some 58, .load 4 (.tmp 57), 4, none⟩,
 ⟨some 59, .move (.tmp 58), 4, none⟩,
 ⟨some 60, .move (.tmp 4), 3, (some (59, true))⟩,
 ⟨some 61, .binOp .eql 3 (.tmp 60) (.const (.int .i64 1)) 3, 4, (some (59, true))⟩,
 ⟨some 62, .move (.tmp 61), 4, (some (59, true))⟩,
 ⟨some 63, .move (.tmp 4), 3, (some (62, false))⟩,
 ⟨some 64, .binOp .eql 3 (.tmp 63) (.const (.int .i64 3)) 3, 4, (some (62, false))⟩,
 ⟨some 65, .pick (.tmp 62) (.const (.bool true)) (.tmp 64), 4, (some (59, true))⟩,
 ⟨some 66, .move (.tmp 65), 4, (some (59, true))⟩,
 ⟨some 67, .move (.tmp 4), 3, (some (66, false))⟩,
 ⟨some 68, .binOp .eql 3 (.tmp 67) (.const (.int .i64 7)) 3, 4, (some (66, false))⟩,
 ⟨some 69, .pick (.tmp 66) (.const (.bool true)) (.tmp 68), 4, (some (59, true))⟩,
 ⟨some 70, .move (.tmp 69), 4, (some (59, true))⟩,
 ⟨some 71, .move (.tmp 4), 3, (some (70, false))⟩,
 ⟨some 72, .binOp .eql 3 (.tmp 71) (.const (.int .i64 9)) 3, 4, (some (70, false))⟩,
 ⟨some 73, .pick (.tmp 70) (.const (.bool true)) (.tmp 72), 4, (some (59, true))⟩,
 ⟨some 74, .move (.tmp 73), 4, (some (59, true))⟩,
 ⟨some 75, .move (.tmp 4), 3, (some (74, false))⟩,
 ⟨some 76, .binOp .geq 3 (.tmp 75) (.const (.int .i64 10)) 3, 4, (some (74, false))⟩,
 ⟨some 77, .move (.tmp 76), 4, (some (74, false))⟩,
 ⟨some 78, .move (.tmp 4), 3, (some (77, true))⟩,
 ⟨some 79, .binOp .leq 3 (.tmp 78) (.const (.int .i64 12)) 3, 4, (some (77, true))⟩,
 ⟨some 80, .pick (.tmp 77) (.tmp 79) (.const (.bool false)), 4, (some (74, false))⟩,
 ⟨some 81, .pick (.tmp 74) (.const (.bool true)) (.tmp 80), 4, (some (59, true))⟩,
 ⟨some 82, .pick (.tmp 59) (.tmp 81) (.const (.bool false)), 4, none⟩] [1, 5, 82])
 (.cond (.tmp 82)
  (.ops [
  ⟨some 83, .move (.tmp 5), 9, none⟩,
  ⟨some 84, .binOp .add 9 (.tmp 83) (.const (.string (ofL [61]))) 9, 9, none⟩,
  ⟨some 85, .fieldAddr 23 (.tmp 1) 8, 0, none⟩,
  ⟨some 86, .load 3 (.tmp 85), 3, none⟩,
  ⟨some 87, .call ⟨.value (.func 21), #[(.tmp 86)], #[3]⟩, 9, none⟩,
  ⟨some 88, .binOp .add 9 (.tmp 84) (.tmp 87) 9, 9, none⟩,
  ⟨some 5, .assign (.tmp 88), 9, none⟩] [5])
  (.skip [5]))) (sg c9S0))
noncomputable def c9S2 (_ : Unit) : Cmd := (.seq (.seq (.ops [
 ⟨some 34, .move (.tmp 4), 3, none⟩,
 ⟨some 35, .binOp .eql 3 (.tmp 34) (.const (.int .i64 2)) 3, 4, none⟩,
 ⟨some 36, .move (.tmp 35), 4, none⟩,
 ⟨some 37, .move (.tmp 4), 3, (some (36, false))⟩,
 ⟨some 38, .binOp .eql 3 (.tmp 37) (.const (.int .i64 6)) 3, 4, (some (36, false))⟩,
 ⟨some 39, .pick (.tmp 36) (.const (.bool true)) (.tmp 38), 4, none⟩,
 ⟨some 40, .move (.tmp 39), 4, none⟩,
 ⟨some 41, .move (.tmp 4), 3, (some (40, false))⟩,
 ⟨some 42, .binOp .eql 3 (.tmp 41) (.const (.int .i64 8)) 3, 4, (some (40, false))⟩,
 ⟨some 43, .pick (.tmp 40) (.const (.bool true)) (.tmp 42), 4, none⟩,
 ⟨some 44, .move (.tmp 43), 4, none⟩,
 ⟨some 45, .move (.tmp 4), 3, (some (44, false))⟩,
 ⟨some 46, .binOp .geq 3 (.tmp 45) (.const (.int .i64 10)) 3, 4, (some (44, false))⟩,
 ⟨some 47, .move (.tmp 46), 4, (some (44, false))⟩,
 ⟨some 48, .move (.tmp 4), 3, (some (47, true))⟩,
 ⟨some 49, .binOp .leq 3 (.tmp 48) (.const (.int .i64 12)) 3, 4, (some (47, true))⟩,
 ⟨some 50, .pick (.tmp 47) (.tmp 49) (.const (.bool false)), 4, (some (44, false))⟩,
 ⟨some 51, .pick (.tmp 44) (.const (.bool true)) (.tmp 50), 4, none⟩] [1, 4, 5, 51])
 (.cond (.tmp 51)
  (.ops [
  ⟨some 52, .move (.tmp 5), 9, none⟩,
  ⟨some 53, .fieldAddr 23 (.tmp 1) 5, 0, none⟩,
  ⟨some 54, .load 3 (.tmp 53), 3, none⟩,
  ⟨some 55, .call ⟨.value (.func 21), #[(.tmp 54)], #[3]⟩, 9, none⟩,
  ⟨some 56, .binOp .add 9 (.tmp 52) (.tmp 55) 9, 9, none⟩,
  ⟨some 5, .assign (.tmp 56), 9, none⟩] [1, 4, 5])
  (.skip [1, 4, 5]))) (sg c9S1))
noncomputable def c9S3 (_ : Unit) : Cmd := (.seq (.ops [
 ⟨some 15, .fieldAddr 23 (.tmp 1) 4, 0, none⟩,
 ⟨some 16, .load 3 (.tmp 15), 3, none⟩,
 ⟨some 4, .assign (.tmp 16), 3, none⟩] [1, 3, 4])
 (.seq (.ops [
 ⟨some 17, .move (.tmp 3), 48, none⟩,
 ⟨some 18, .move (.tmp 4), 3, none⟩,
 ⟨some 19, .binOp .sub 3 (.tmp 18) (.const (.int .i64 1)) 3, 3, none⟩,
 ⟨some 20, .indexAddr 48 (.tmp 17) (.tmp 19), 0, none⟩,
 ⟨some 21, .load 9 (.tmp 20), 9, none⟩,
 ⟨some 5, .assign (.tmp 21), 9, none⟩] [1, 4, 5])
 (.seq (.seq (.ops [
 ⟨some 22, .move (.tmp 4), 3, none⟩,
 ⟨some 23, .binOp .eql 3 (.tmp 22) (.const (.int .i64 3)) 3, 4, none⟩] [1, 4, 5, 23])
 (.cond (.tmp 23)
  (.draw (drawOps 0 c9code) [1, 4, 5])
  (.skip [1, 4, 5]))) (sg c9S2))))
noncomputable def c9 : Cmd := (.seq (.ops [
 ⟨some 1, .box 23 (.tmp 0), 0, none⟩,
 ⟨some 2, .assign (.const (.string (ofL []))), 9, none⟩] [1])
 (.seq (.ops [
 ⟨some 6, .buildSlice 48 14 #[(0, (.const (.string (ofL [114, 100])))), (1, (.const (.string (ofL [119, 114])))), (2, (.const (.string (ofL [99, 97, 115])))), (3, (.const (.string (ofL [105, 110, 99])))), (4, (.const (.string (ofL [100, 101, 99])))), (5, (.const (.string (ofL [101, 110, 113])))), (6, (.const (.string (ofL [100, 101, 113])))), (7, (.const (.string (ofL [112, 115, 104])))), (8, (.const (.string (ofL [112, 111, 112])))), (9, (.const (.string (ofL [97, 100, 100])))), (10, (.const (.string (ofL [114, 101, 109])))), (11, (.const (.string (ofL [104, 97, 115])))), (12, (.const (.string (ofL [108, 99, 107])))), (13, (.const (.string (ofL [117, 108, 107]))))], 48, none⟩,
 ⟨some 3, .assign (.tmp 6), 48, none⟩] [1, 3])
 (.seq (.seq (.ops [
 ⟨some 7, .fieldAddr 23 (.tmp 1) 4, 0, none⟩,
 ⟨some 8, .load 3 (.tmp 7), 3, none⟩,
 ⟨some 9, .binOp .lss 3 (.tmp 8) (.const (.int .i64 1)) 3, 4, none⟩,
 ⟨some 10, .move (.tmp 9), 4, none⟩,
 ⟨some 11, .fieldAddr 23 (.tmp 1) 4, 0, (some (10, false))⟩,
 ⟨some 12, .load 3 (.tmp 11), 3, (some (10, false))⟩,
 ⟨some 13, .binOp .gtr 3 (.tmp 12) (.const (.int .i64 14)) 3, 4, (some (10, false))⟩,
 ⟨some 14, .pick (.tmp 10) (.const (.bool true)) (.tmp 13), 4, none⟩] [1, 3, 14])
 (.cond (.tmp 14)
  (.seq (.ops [
  ⟨some 2, .assign (.const (.string (ofL []))), 9, none⟩] [2])
  .ret)
  (.skip [1, 3]))) (sg c9S3))))
@[go_sem] theorem go9 : goFunc Try.prog 9 = true := by kernel_rfl
noncomputable def str20x336475878 : List UInt8 := [112, 49, 32, 32, 32, 32, 32, 91, 101, 110, 113, 53, 45, 45, 45, 45, 45, 45, 93, 10]
noncomputable def c10code : Code := match Try.f10.body with | some c => c | none => .skip
noncomputable def c10S0 (_ : Unit) : Cmd := (.seq (.ops [
 ⟨some 9, .move (.tmp 2), 29, none⟩,
 ⟨some 10, .binOp .eql 29 (.tmp 9) (.const (.int .i64 0)) 29, 4, none⟩,
 ⟨some 11, .move (.tmp 10), 4, none⟩,
 ⟨some 12, .move (.tmp 1), 9, (some (11, true))⟩,
 ⟨some 13, .binOp .eql 9 (.tmp 12) (.const (.string (ofL str20x336475878))) 9, 4, (some (11, true))⟩,
 ⟨some 14, .pick (.tmp 11) (.tmp 13) (.const (.bool false)), 4, none⟩,
 ⟨some 0, .assign (.tmp 14), 4, none⟩] [0])
 .ret)
noncomputable def c10 : Cmd := (.seq (.ops [
 ⟨some 0, .assign (.const (.bool false)), 4, none⟩] [])
 (.seq (.ops [
 ⟨some 4, .build 23 #[(0, (.const (.int .i64 1))), (1, (.const (.int .i64 1))), (3, (.const (.int .i64 3))), (4, (.const (.int .i64 6))), (5, (.const (.int .i64 5))), (7, (.const (.bool true))), (10, (.const (.int .i64 10)))], 23, none⟩,
 ⟨some 5, .buildSlice 27 1 #[(0, (.tmp 4))], 27, none⟩,
 ⟨some 6, .call ⟨.value (.func 12), #[(.tmp 5), (.const (.int .i64 12))], #[27, 3]⟩, 30, none⟩,
 ⟨some 3, .move (.tmp 6), 30, none⟩,
 ⟨some 7, .extract (.tmp 3) 0, 9, none⟩,
 ⟨some 8, .extract (.tmp 3) 1, 29, none⟩,
 ⟨some 1, .assign (.tmp 7), 9, none⟩,
 ⟨some 2, .assign (.tmp 8), 29, none⟩] [1, 2]) (sg c10S0)))
set_option maxRecDepth 100000 in
theorem ent10 (w : World) (K : Value → World → Prop) (h : W Try.prog c10 [] w (finQ Try.prog [.tmp 0] K)) : Ret Try.prog 10 [] w K :=
  Ret_of_W (code := c10code) Try.func10 (by kernel_rfl) (by kernel_rfl) (of_decide_eq_true (by kernel_rfl)) h
@[go_sem] theorem go10 : goFunc Try.prog 10 = true := by kernel_rfl
noncomputable def c11code : Code := match Try.f11.body with | some c => c | none => .skip
noncomputable def c11S0 (_ : Unit) : Cmd := .ret
noncomputable def c11 : Cmd := (.seq (.ops [
 ⟨some 2, .assign (.const (.bool false)), 4, none⟩] [0])
 (.seq (.ops [
 ⟨some 3, .move (.tmp 0), 27, none⟩,
 ⟨some 4, .call ⟨.builtin .len, #[(.tmp 3)], #[27]⟩, 3, none⟩,
 ⟨some 5, .binOp .leq 3 (.tmp 4) (.const (.int .i64 64)) 3, 4, none⟩,
 ⟨some 6, .move (.tmp 5), 4, none⟩,
 ⟨some 7, .move (.tmp 0), 27, (some (6, true))⟩,
 ⟨some 8, .call ⟨.value (.func 22), #[(.tmp 7)], #[27]⟩, 3, (some (6, true))⟩,
 ⟨some 9, .binOp .eql 3 (.tmp 8) (.const (.int .i64 0)) 3, 4, (some (6, true))⟩,
 ⟨some 10, .pick (.tmp 6) (.tmp 9) (.const (.bool false)), 4, none⟩,
 ⟨some 2, .assign (.tmp 10), 4, none⟩] [2]) (sg c11S0)))
set_option maxRecDepth 100000 in
theorem ent11 (a0 : Value) (w : World) (K : Value → World → Prop) (h : W Try.prog c11 [(0, a0)] w (finQ Try.prog [.tmp 2] K)) : Ret Try.prog 11 [a0] w K :=
  Ret_of_W (code := c11code) Try.func11 (by kernel_rfl) (by kernel_rfl) (of_decide_eq_true (by kernel_rfl)) h
@[go_sem] theorem go11 : goFunc Try.prog 11 = true := by kernel_rfl
noncomputable def c12code : Code := match Try.f12.body with | some c => c | none => .skip
noncomputable def c12S0 (_ : Unit) : Cmd := (.ops [
 ⟨some 39, .binOp .add 3 (.tmp 22) (.const (.int .i64 1)) 3, 3, none⟩,
 ⟨some 22, .move (.tmp 39), 3, none⟩] [6, 7, 20, 21, 22])
noncomputable def c12S1 (_ : Unit) : Cmd := (.seq (.block 1 (.seq (.ops [
 ⟨some 24, .indexAddr 35 (.tmp 20) (.tmp 22), 0, none⟩,
 ⟨some 25, .load 27 (.tmp 24), 27, none⟩,
 ⟨some 9, .assign (.tmp 25), 27, none⟩] [6, 7, 9, 20, 21, 22])
 (.draw (drawOps 0 c12code) [6, 7, 20, 21, 22]))) (sg c12S0))
noncomputable def c12L0 (_ : Unit) : Cmd := (.seq (.ops [
 ⟨some 23, .binOp .lss 3 (.tmp 22) (.tmp 21) 3, 0, none⟩] [6, 7, 20, 21, 22, 23])
 (.seq (.cond (.tmp 23)
  (.skip [6, 7, 20, 21, 22])
  (.exit 0 [7])) (sg c12S1)))
noncomputable def c12S2 (_ : Unit) : Cmd := (.block 0 (.loop (sg c12L0)))
noncomputable def c12S3 (_ : Unit) : Cmd := .ret
noncomputable def c12S4 (_ : Unit) : Cmd := (.seq (.ops [
 ⟨some 40, .call ⟨.value (.func 28), #[(.tmp 7)], #[56]⟩, 9, none⟩,
 ⟨some 4, .assign (.tmp 40), 9, none⟩,
 ⟨some 5, .assign (.const (.int .i64 0)), 29, none⟩] [4, 5]) (sg c12S3))
noncomputable def c12S5 (_ : Unit) : Cmd := (.seq (.ops [
 ⟨some 7, .alloc 56, 0, none⟩] [0, 6, 7])
 (.seq (.seq (.ops [
 ⟨some 19, .move (.tmp 0), 27, none⟩,
 ⟨some 20, .call ⟨.value (.func 24), #[(.tmp 19)], #[27]⟩, 35, none⟩,
 ⟨some 21, .call ⟨.builtin .len, #[(.tmp 20)], #[35]⟩, 3, none⟩,
 ⟨some 22, .move (.const (.int .i64 0)), 3, none⟩] [6, 7, 20, 21, 22]) (sg c12S2)) (sg c12S4)))
noncomputable def c12S6 (_ : Unit) : Cmd := (.seq (.ops [
 ⟨some 16, .move (.tmp 0), 27, none⟩,
 ⟨some 17, .move (.tmp 1), 3, none⟩,
 ⟨some 18, .call ⟨.value (.func 23), #[(.tmp 16), (.tmp 17)], #[27, 3]⟩, 51, none⟩,
 ⟨some 6, .alloc 51, 0, none⟩,
 ⟨none, .store 51 (.tmp 6) (.tmp 18), 0, none⟩] [0, 6]) (sg c12S5))
noncomputable def c12 : Cmd := (.seq (.ops [
 ⟨some 4, .assign (.const (.string (ofL []))), 9, none⟩,
 ⟨some 5, .assign (.const (.int .i64 0)), 29, none⟩] [0, 1])
 (.seq (.seq (.ops [
 ⟨some 10, .move (.tmp 1), 3, none⟩,
 ⟨some 11, .binOp .lss 3 (.tmp 10) (.const (.int .i64 8)) 3, 4, none⟩,
 ⟨some 12, .move (.tmp 11), 4, none⟩,
 ⟨some 13, .move (.tmp 1), 3, (some (12, false))⟩,
 ⟨some 14, .binOp .gtr 3 (.tmp 13) (.const (.int .i64 200)) 3, 4, (some (12, false))⟩,
 ⟨some 15, .pick (.tmp 12) (.const (.bool true)) (.tmp 14), 4, none⟩] [0, 1, 15])
 (.cond (.tmp 15)
  (.seq (.ops [
  ⟨some 4, .assign (.const (.string (ofL []))), 9, none⟩,
  ⟨some 5, .assign (.const (.int .i64 1)), 29, none⟩] [4, 5])
  .ret)
  (.skip [0, 1]))) (sg c12S6)))
noncomputable def c12D0 : List (Nat × Ins) := [
 (0, ⟨some 26, .move (.tmp 9), 27, none⟩),
 (0, ⟨some 27, .indexAddr 27 (.tmp 26) (.const (.int .i64 0)), 0, none⟩),
 (0, ⟨some 28, .fieldAddr 23 (.tmp 27) 1, 0, none⟩),
 (0, ⟨some 34, .move (.tmp 9), 27, none⟩),
 (1, ⟨some 29, .load 3 (.tmp 28), 3, none⟩),
 (1, ⟨some 33, .load 51 (.tmp 6), 51, none⟩),
 (2, ⟨some 30, .call ⟨.value (.func 20), #[(.tmp 29)], #[3]⟩, 9, none⟩),
 (0, ⟨some 31, .binOp .add 9 (.const (.string (ofL [112]))) (.tmp 30) 9, 9, none⟩),
 (2, ⟨some 32, .call ⟨.value (.func 26), #[(.tmp 31)], #[9]⟩, 9, none⟩),
 (2, ⟨some 35, .call ⟨.value (.func 27), #[(.tmp 33), (.tmp 34)], #[51, 27]⟩, 9, none⟩),
 (0, ⟨some 36, .binOp .add 9 (.tmp 32) (.tmp 35) 9, 9, none⟩),
 (0, ⟨some 37, .binOp .add 9 (.tmp 36) (.const (.string (ofL [10]))) 9, 9, none⟩),
 (2, ⟨some 38, .call ⟨.value (.func 25), #[(.tmp 7), (.tmp 37)], #[56, 9]⟩, 59, none⟩)]
theorem c12draw0 {L : List Nat} {ρ : Env} {w : World} {Q : Post} (S : World → Prop) (hS : S w.drew) (h : DG Try.prog S c12D0 L ρ w.drew Q) : drawW Try.prog (drawOps 0 c12code) L ρ w Q :=
  drawW_held [3, 7] [(0, 0), (0, 1), (0, 2), (0, 8), (1, 3), (1, 7), (2, 4), (0, 5), (2, 6), (2, 9), (0, 10), (0, 11), (2, 12)] c12D0 (by kernel_rfl) (by kernel_rfl) (by kernel_rfl) S hS h
set_option maxRecDepth 100000 in
theorem ent12 (a0 a1 : Value) (w : World) (K : Value → World → Prop) (h : W Try.prog c12 [(0, a0), (1, a1)] w (finQ Try.prog [.tmp 4, .tmp 5] K)) : Ret Try.prog 12 [a0, a1] w K :=
  Ret_of_W (code := c12code) Try.func12 (by kernel_rfl) (by kernel_rfl) (of_decide_eq_true (by kernel_rfl)) h
@[go_sem] theorem go12 : goFunc Try.prog 12 = true := by kernel_rfl
@[go_sem] theorem go13 : goFunc Try.prog 13 = true := by kernel_rfl
@[go_sem] theorem go14 : goFunc Try.prog 14 = true := by kernel_rfl
@[go_sem] theorem go15 : goFunc Try.prog 15 = true := by kernel_rfl
@[go_sem] theorem go16 : goFunc Try.prog 16 = true := by kernel_rfl
@[go_sem] theorem go17 : goFunc Try.prog 17 = true := by kernel_rfl
noncomputable def c18code : Code := match Try.f18.body with | some c => c | none => .skip
noncomputable def c18S0 (_ : Unit) : Cmd := (.ops [
 ⟨some 55, .binOp .add 3 (.tmp 38) (.const (.int .i64 1)) 3, 3, none⟩,
 ⟨some 38, .move (.tmp 55), 3, none⟩] [6, 7, 9, 22, 23, 24, 36, 37, 38])
noncomputable def c18S1 (_ : Unit) : Cmd := (.seq (.block 3 (.seq (.ops [
 ⟨some 40, .indexAddr 35 (.tmp 36) (.tmp 38), 0, none⟩,
 ⟨some 41, .load 27 (.tmp 40), 27, none⟩,
 ⟨some 11, .assign (.tmp 41), 27, none⟩] [6, 7, 9, 11, 22, 23, 24, 36, 37, 38])
 (.draw (drawOps 0 c18code) [6, 7, 9, 22, 23, 24, 36, 37, 38]))) (sg c18S0))
noncomputable def c18L0 (_ : Unit) : Cmd := (.seq (.ops [
 ⟨some 39, .binOp .lss 3 (.tmp 38) (.tmp 37) 3, 0, none⟩] [6, 7, 9, 22, 23, 24, 36, 37, 38, 39])
 (.seq (.cond (.tmp 39)
  (.skip [6, 7, 9, 22, 23, 24, 36, 37, 38])
  (.exit 2 [6, 7, 9, 22, 23, 24])) (sg c18S1)))
noncomputable def c18S2 (_ : Unit) : Cmd := (.block 2 (.loop (sg c18L0)))
noncomputable def c18S3 (_ : Unit) : Cmd := (.draw (drawOps 1 c18code) [6, 7, 22, 23, 24])
noncomputable def c18S4 (_ : Unit) : Cmd := (.seq (.seq (.ops [
 ⟨some 34, .fieldAddr 69 (.tmp 9) 2, 0, none⟩,
 ⟨some 35, .load 27 (.tmp 34), 27, none⟩,
 ⟨some 36, .call ⟨.value (.func 24), #[(.tmp 35)], #[27]⟩, 35, none⟩,
 ⟨some 37, .call ⟨.builtin .len, #[(.tmp 36)], #[35]⟩, 3, none⟩,
 ⟨some 38, .move (.const (.int .i64 0)), 3, none⟩] [6, 7, 9, 22, 23, 24, 36, 37, 38]) (sg c18S2)) (sg c18S3))
noncomputable def c18S5 (_ : Unit) : Cmd := (.ops [
 ⟨some 64, .binOp .add 3 (.tmp 24) (.const (.int .i64 1)) 3, 3, none⟩,
 ⟨some 24, .move (.tmp 64), 3, none⟩] [6, 7, 22, 23, 24])
noncomputable def c18S6 (_ : Unit) : Cmd := (.seq (.block 1 (.seq (.ops [
 ⟨some 26, .indexAddr 66 (.tmp 22) (.tmp 24), 0, none⟩,
 ⟨some 27, .load 69 (.tmp 26), 69, none⟩,
 ⟨some 9, .alloc 69, 0, none⟩,
 ⟨none, .store 69 (.tmp 9) (.tmp 27), 0, none⟩] [6, 7, 9, 22, 23, 24])
 (.seq (.ops [
 ⟨some 28, .fieldAddr 69 (.tmp 9) 0, 0, none⟩,
 ⟨some 29, .load 3 (.tmp 28), 3, none⟩,
 ⟨some 30, .call ⟨.value (.func 20), #[(.tmp 29)], #[3]⟩, 9, none⟩,
 ⟨some 31, .binOp .add 9 (.const (.string (ofL [111, 98, 106, 101, 99, 116, 32]))) (.tmp 30) 9, 9, none⟩,
 ⟨some 32, .binOp .add 9 (.tmp 31) (.const (.string (ofL [10]))) 9, 9, none⟩,
 ⟨some 33, .call ⟨.value (.func 25), #[(.tmp 7), (.tmp 32)], #[56, 9]⟩, 59, none⟩] [6, 7, 9, 22, 23, 24]) (sg c18S4)))) (sg c18S5))
noncomputable def c18L1 (_ : Unit) : Cmd := (.seq (.ops [
 ⟨some 25, .binOp .lss 3 (.tmp 24) (.tmp 23) 3, 0, none⟩] [6, 7, 22, 23, 24, 25])
 (.seq (.cond (.tmp 25)
  (.skip [6, 7, 22, 23, 24])
  (.exit 0 [7])) (sg c18S6)))
noncomputable def c18S7 (_ : Unit) : Cmd := (.block 0 (.loop (sg c18L1)))
noncomputable def c18S8 (_ : Unit) : Cmd := .ret
noncomputable def c18S9 (_ : Unit) : Cmd := (.seq (.ops [
 ⟨some 65, .call ⟨.value (.func 28), #[(.tmp 7)], #[56]⟩, 9, none⟩,
 ⟨some 4, .assign (.tmp 65), 9, none⟩,
 ⟨some 5, .assign (.const (.int .i64 0)), 29, none⟩] [4, 5]) (sg c18S8))
noncomputable def c18S10 (_ : Unit) : Cmd := (.seq (.ops [
 ⟨some 7, .alloc 56, 0, none⟩] [0, 6, 7])
 (.seq (.seq (.ops [
 ⟨some 21, .move (.tmp 0), 27, none⟩,
 ⟨some 22, .call ⟨.value (.func 31), #[(.tmp 21)], #[27]⟩, 66, none⟩,
 ⟨some 23, .call ⟨.builtin .len, #[(.tmp 22)], #[66]⟩, 3, none⟩,
 ⟨some 24, .move (.const (.int .i64 0)), 3, none⟩] [6, 7, 22, 23, 24]) (sg c18S7)) (sg c18S9)))
noncomputable def c18S11 (_ : Unit) : Cmd := (.seq (.ops [
 ⟨some 18, .move (.tmp 0), 27, none⟩,
 ⟨some 19, .move (.tmp 1), 3, none⟩,
 ⟨some 20, .call ⟨.value (.func 23), #[(.tmp 18), (.tmp 19)], #[27, 3]⟩, 51, none⟩,
 ⟨some 6, .alloc 51, 0, none⟩,
 ⟨none, .store 51 (.tmp 6) (.tmp 20), 0, none⟩] [0, 6]) (sg c18S10))
noncomputable def c18 : Cmd := (.seq (.ops [
 ⟨some 4, .assign (.const (.string (ofL []))), 9, none⟩,
 ⟨some 5, .assign (.const (.int .i64 0)), 29, none⟩] [0, 1])
 (.seq (.seq (.ops [
 ⟨some 12, .move (.tmp 1), 3, none⟩,
 ⟨some 13, .binOp .lss 3 (.tmp 12) (.const (.int .i64 8)) 3, 4, none⟩,
 ⟨some 14, .move (.tmp 13), 4, none⟩,
 ⟨some 15, .move (.tmp 1), 3, (some (14, false))⟩,
 ⟨some 16, .binOp .gtr 3 (.tmp 15) (.const (.int .i64 200)) 3, 4, (some (14, false))⟩,
 ⟨some 17, .pick (.tmp 14) (.const (.bool true)) (.tmp 16), 4, none⟩] [0, 1, 17])
 (.cond (.tmp 17)
  (.seq (.ops [
  ⟨some 4, .assign (.const (.string (ofL []))), 9, none⟩,
  ⟨some 5, .assign (.const (.int .i64 1)), 29, none⟩] [4, 5])
  .ret)
  (.skip [0, 1]))) (sg c18S11)))
noncomputable def c18D0 : List (Nat × Ins) := [
 (0, ⟨some 42, .move (.tmp 11), 27, none⟩),
 (0, ⟨some 43, .indexAddr 27 (.tmp 42) (.const (.int .i64 0)), 0, none⟩),
 (0, ⟨some 44, .fieldAddr 23 (.tmp 43) 1, 0, none⟩),
 (0, ⟨some 50, .move (.tmp 11), 27, none⟩),
 (1, ⟨some 45, .load 3 (.tmp 44), 3, none⟩),
 (1, ⟨some 49, .load 51 (.tmp 6), 51, none⟩),
 (2, ⟨some 46, .call ⟨.value (.func 20), #[(.tmp 45)], #[3]⟩, 9, none⟩),
 (0, ⟨some 47, .binOp .add 9 (.const (.string (ofL [112]))) (.tmp 46) 9, 9, none⟩),
 (2, ⟨some 48, .call ⟨.value (.func 26), #[(.tmp 47)], #[9]⟩, 9, none⟩),
 (2, ⟨some 51, .call ⟨.value (.func 27), #[(.tmp 49), (.tmp 50)], #[51, 27]⟩, 9, none⟩),
 (0, ⟨some 52, .binOp .add 9 (.tmp 48) (.tmp 51) 9, 9, none⟩),
 (0, ⟨some 53, .binOp .add 9 (.tmp 52) (.const (.string (ofL [10]))) 9, 9, none⟩),
 (2, ⟨some 54, .call ⟨.value (.func 25), #[(.tmp 7), (.tmp 53)], #[56, 9]⟩, 59, none⟩)]
theorem c18draw0 {L : List Nat} {ρ : Env} {w : World} {Q : Post} (S : World → Prop) (hS : S w.drew) (h : DG Try.prog S c18D0 L ρ w.drew Q) : drawW Try.prog (drawOps 0 c18code) L ρ w Q :=
  drawW_held [3, 7] [(0, 0), (0, 1), (0, 2), (0, 8), (1, 3), (1, 7), (2, 4), (0, 5), (2, 6), (2, 9), (0, 10), (0, 11), (2, 12)] c18D0 (by kernel_rfl) (by kernel_rfl) (by kernel_rfl) S hS h
noncomputable def c18D1 : List (Nat × Ins) := [
 (1, ⟨some 57, .load 51 (.tmp 6), 51, none⟩),
 (1, ⟨some 58, .load 69 (.tmp 9), 69, none⟩),
 (2, ⟨some 56, .call ⟨.value (.func 26), #[(.const (.string (ofL [])))], #[9]⟩, 9, none⟩),
 (2, ⟨some 59, .call ⟨.value (.func 33), #[(.tmp 58)], #[69]⟩, 66, none⟩),
 (2, ⟨some 60, .call ⟨.value (.func 32), #[(.tmp 57), (.tmp 59)], #[51, 66]⟩, 9, none⟩),
 (0, ⟨some 61, .binOp .add 9 (.tmp 56) (.tmp 60) 9, 9, none⟩),
 (0, ⟨some 62, .binOp .add 9 (.tmp 61) (.const (.string (ofL [10]))) 9, 9, none⟩),
 (2, ⟨some 63, .call ⟨.value (.func 25), #[(.tmp 7), (.tmp 62)], #[56, 9]⟩, 59, none⟩)]
theorem c18draw1 {L : List Nat} {ρ : Env} {w : World} {Q : Post} (S : World → Prop) (hS : S w.drew) (h : DG Try.prog S c18D1 L ρ w.drew Q) : drawW Try.prog (drawOps 1 c18code) L ρ w Q :=
  drawW_held [1, 2] [(1, 1), (1, 2), (2, 0), (2, 3), (2, 4), (0, 5), (0, 6), (2, 7)] c18D1 (by kernel_rfl) (by kernel_rfl) (by kernel_rfl) S hS h
set_option maxRecDepth 100000 in
theorem ent18 (a0 a1 : Value) (w : World) (K : Value → World → Prop) (h : W Try.prog c18 [(0, a0), (1, a1)] w (finQ Try.prog [.tmp 4, .tmp 5] K)) : Ret Try.prog 18 [a0, a1] w K :=
  Ret_of_W (code := c18code) Try.func18 (by kernel_rfl) (by kernel_rfl) (of_decide_eq_true (by kernel_rfl)) h
@[go_sem] theorem go18 : goFunc Try.prog 18 = true := by kernel_rfl
noncomputable def c19code : Code := match Try.f19.body with | some c => c | none => .skip
noncomputable def c19S0 (_ : Unit) : Cmd := (.seq (.ops [
 ⟨some 13, .move (.tmp 3), 48, none⟩,
 ⟨some 14, .move (.tmp 0), 3, none⟩,
 ⟨some 15, .indexAddr 48 (.tmp 13) (.tmp 14), 0, none⟩,
 ⟨some 16, .load 9 (.tmp 15), 9, none⟩,
 ⟨some 2, .assign (.tmp 16), 9, none⟩] [2])
 .ret)
noncomputable def c19 : Cmd := (.seq (.ops [
 ⟨some 2, .assign (.const (.string (ofL []))), 9, none⟩] [0])
 (.seq (.ops [
 ⟨some 4, .buildSlice 48 15 #[(0, (.const (.string (ofL [])))), (1, (.const (.string (ofL [114, 100])))), (2, (.const (.string (ofL [119, 114])))), (3, (.const (.string (ofL [99, 97, 115])))), (4, (.const (.string (ofL [105, 110, 99])))), (5, (.const (.string (ofL [100, 101, 99])))), (6, (.const (.string (ofL [101, 110, 113])))), (7, (.const (.string (ofL [100, 101, 113])))), (8, (.const (.string (ofL [112, 115, 104])))), (9, (.const (.string (ofL [112, 111, 112])))), (10, (.const (.string (ofL [97, 100, 100])))), (11, (.const (.string (ofL [114, 101, 109])))), (12, (.const (.string (ofL [104, 97, 115])))), (13, (.const (.string (ofL [108, 99, 107])))), (14, (.const (.string (ofL [117, 108, 107]))))], 48, none⟩,
 ⟨some 3, .assign (.tmp 4), 48, none⟩] [0, 3])
 (.seq (.seq (.ops [
 ⟨some 5, .move (.tmp 0), 3, none⟩,
 ⟨some 6, .binOp .lss 3 (.tmp 5) (.const (.int .i64 0)) 3, 4, none⟩,
 ⟨some 7, .move (.tmp 6), 4, none⟩,
 ⟨some 8, .move (.tmp 0), 3, (some (7, false))⟩,
 ⟨some 9, .move (.tmp 3), 48, (some (7, false))⟩,
 ⟨some 10, .call ⟨.builtin .len, #[(.tmp 9)], #[48]⟩, 3, (some (7, false))⟩,
 ⟨some 11, .binOp .geq 3 (.tmp 8) (.tmp 10) 3, 4, (some (7, false))⟩,
 ⟨some 12, .pick (.tmp 7) (.const (.bool true)) (.tmp 11), 4, none⟩] [0, 3, 12])
 (.cond (.tmp 12)
  (.seq (.ops [
  ⟨some 2, .assign (.const (.string (ofL []))), 9, none⟩] [2])
  .ret)
  (.skip [0, 3]))) (sg c19S0))))
set_option maxRecDepth 100000 in
theorem ent19 (a0 : Value) (w : World) (K : Value → World → Prop) (h : W Try.prog c19 [(0, a0)] w (finQ Try.prog [.tmp 2] K)) : Ret Try.prog 19 [a0] w K :=
  Ret_of_W (code := c19code) Try.func19 (by kernel_rfl) (by kernel_rfl) (of_decide_eq_true (by kernel_rfl)) h
@[go_sem] theorem go19 : goFunc Try.prog 19 = true := by kernel_rfl
noncomputable def c20code : Code := match Try.f20.body with | some c => c | none => .skip
noncomputable def c20L0 (_ : Unit) : Cmd := (.block 1 (.seq (.ops [
 ⟨some 11, .move (.tmp 3), 72, none⟩,
 ⟨some 12, .binOp .rem 72 (.tmp 11) (.const (.int .u64 10)) 72, 72, none⟩,
 ⟨some 13, .binOp .add 72 (.const (.int .u64 48)) (.tmp 12) 72, 72, none⟩,
 ⟨some 14, .convert 72 5 (.tmp 13), 5, none⟩,
 ⟨some 15, .buildSlice 54 1 #[(0, (.tmp 14))], 54, none⟩,
 ⟨some 16, .convert 54 9 (.tmp 15), 9, none⟩,
 ⟨some 17, .move (.tmp 4), 9, none⟩,
 ⟨some 18, .binOp .add 9 (.tmp 16) (.tmp 17) 9, 9, none⟩,
 ⟨some 4, .assign (.tmp 18), 9, none⟩] [0, 3, 4])
 (.seq (.ops [
 ⟨some 19, .move (.tmp 3), 72, none⟩,
 ⟨some 20, .binOp .quo 72 (.tmp 19) (.const (.int .u64 10)) 72, 72, none⟩,
 ⟨some 3, .assign (.tmp 20), 72, none⟩] [0, 3, 4])
 (.seq (.ops [
 ⟨some 21, .move (.tmp 3), 72, none⟩,
 ⟨some 22, .binOp .eql 72 (.tmp 21) (.const (.int .u64 0)) 72, 4, none⟩] [0, 3, 4, 22])
 (.cond (.tmp 22)
  (.exit 0 [0, 4])
  (.skip [0, 3, 4]))))))
noncomputable def c20S0 (_ : Unit) : Cmd := (.seq (.ops [
 ⟨some 27, .move (.tmp 4), 9, none⟩,
 ⟨some 2, .assign (.tmp 27), 9, none⟩] [2])
 .ret)
noncomputable def c20S1 (_ : Unit) : Cmd := (.seq (.seq (.ops [
 ⟨some 23, .move (.tmp 0), 3, none⟩,
 ⟨some 24, .binOp .lss 3 (.tmp 23) (.const (.int .i64 0)) 3, 4, none⟩] [4, 24])
 (.cond (.tmp 24)
  (.seq (.ops [
  ⟨some 25, .move (.tmp 4), 9, none⟩,
  ⟨some 26, .binOp .add 9 (.const (.string (ofL [45]))) (.tmp 25) 9, 9, none⟩,
  ⟨some 2, .assign (.tmp 26), 9, none⟩] [2])
  .ret)
  (.skip [4]))) (sg c20S0))
noncomputable def c20S2 (_ : Unit) : Cmd := (.seq (.block 0 (.loop (sg c20L0))) (sg c20S1))
noncomputable def c20 : Cmd := (.seq (.ops [
 ⟨some 2, .assign (.const (.string (ofL []))), 9, none⟩] [0])
 (.seq (.ops [
 ⟨some 5, .move (.tmp 0), 3, none⟩,
 ⟨some 6, .convert 3 72 (.tmp 5), 72, none⟩,
 ⟨some 3, .assign (.tmp 6), 72, none⟩,
 ⟨some 4, .assign (.const (.string (ofL []))), 9, none⟩] [0, 3, 4])
 (.seq (.seq (.ops [
 ⟨some 7, .move (.tmp 0), 3, none⟩,
 ⟨some 8, .binOp .lss 3 (.tmp 7) (.const (.int .i64 0)) 3, 4, none⟩] [0, 3, 4, 8])
 (.cond (.tmp 8)
  (.ops [
  ⟨some 9, .move (.tmp 3), 72, none⟩,
  ⟨some 10, .unOp .neg 72 (.tmp 9), 72, none⟩,
  ⟨some 3, .assign (.tmp 10), 72, none⟩] [0, 3, 4])
  (.skip [0, 3, 4]))) (sg c20S2))))
set_option maxRecDepth 100000 in
theorem ent20 (a0 : Value) (w : World) (K : Value → World → Prop) (h : W Try.prog c20 [(0, a0)] w (finQ Try.prog [.tmp 2] K)) : Ret Try.prog 20 [a0] w K :=
  Ret_of_W (code := c20code) Try.func20 (by kernel_rfl) (by kernel_rfl) (of_decide_eq_true (by kernel_rfl)) h
@[go_sem] theorem go20 : goFunc Try.prog 20 = true := by kernel_rfl
@[go_sem] theorem go21 : goFunc Try.prog 21 = true := by kernel_rfl
noncomputable def c22code : Code := match Try.f22.body with | some c => c | none => .skip
noncomputable def c22S0 (_ : Unit) : Cmd := (.cond (.tmp 39)
  (.seq (.ops [
  ⟨some 2, .assign (.const (.int .i64 7)), 3, none⟩] [2])
  .ret)
  (.skip [0, 3]))
noncomputable def c22S1 (_ : Unit) : Cmd := (.seq (.draw (drawOps 0 c22code) [0, 3, 39]) (sg c22S0))
noncomputable def c22S2 (_ : Unit) : Cmd := (.seq (.seq (.ops [
 ⟨some 21, .move (.tmp 4), 3, none⟩,
 ⟨some 22, .binOp .neq 3 (.tmp 21) (.const (.int .i64 0)) 3, 4, none⟩] [0, 3, 4, 22])
 (.cond (.tmp 22)
  (.seq (.ops [
  ⟨some 23, .move (.tmp 4), 3, none⟩,
  ⟨some 2, .assign (.tmp 23), 3, none⟩] [2])
  .ret)
  (.skip [0, 3]))) (sg c22S1))
noncomputable def c22S3 (_ : Unit) : Cmd := (.ops [
 ⟨some 14, .move (.tmp 3), 3, none⟩,
 ⟨some 15, .binOp .add 3 (.tmp 14) (.const (.int .i64 1)) 3, 3, none⟩,
 ⟨some 3, .assign (.tmp 15), 3, none⟩] [0, 3])
noncomputable def c22S4 (_ : Unit) : Cmd := (.seq (.block 1 (.seq (.ops [
 ⟨some 16, .move (.tmp 0), 27, none⟩,
 ⟨some 17, .move (.tmp 3), 3, none⟩,
 ⟨some 18, .indexAddr 27 (.tmp 16) (.tmp 17), 0, none⟩,
 ⟨some 19, .load 23 (.tmp 18), 23, none⟩,
 ⟨some 20, .call ⟨.value (.func 34), #[(.tmp 19)], #[23]⟩, 3, none⟩,
 ⟨some 4, .assign (.tmp 20), 3, none⟩] [0, 3, 4]) (sg c22S2))) (sg c22S3))
noncomputable def c22L0 (_ : Unit) : Cmd := (.seq (.seq (.ops [
 ⟨some 10, .move (.tmp 3), 3, none⟩,
 ⟨some 11, .move (.tmp 0), 27, none⟩,
 ⟨some 12, .call ⟨.builtin .len, #[(.tmp 11)], #[27]⟩, 3, none⟩,
 ⟨some 13, .binOp .lss 3 (.tmp 10) (.tmp 12) 3, 4, none⟩] [0, 3, 13])
 (.cond (.tmp 13)
  (.skip [0, 3])
  (.exit 0 [0]))) (sg c22S4))
noncomputable def c22S5 (_ : Unit) : Cmd := (.seq (.ops [
 ⟨some 52, .move (.tmp 6), 3, none⟩,
 ⟨some 53, .binOp .neq 3 (.tmp 52) (.const (.int .i64 0)) 3, 4, none⟩] [0, 5, 6, 53])
 (.cond (.tmp 53)
  (.seq (.ops [
  ⟨some 54, .move (.tmp 6), 3, none⟩,
  ⟨some 2, .assign (.tmp 54), 3, none⟩] [2])
  .ret)
  (.skip [0, 5])))
noncomputable def c22S6 (_ : Unit) : Cmd := (.ops [
 ⟨some 44, .move (.tmp 5), 3, none⟩,
 ⟨some 45, .binOp .add 3 (.tmp 44) (.const (.int .i64 1)) 3, 3, none⟩,
 ⟨some 5, .assign (.tmp 45), 3, none⟩] [0, 5])
noncomputable def c22S7 (_ : Unit) : Cmd := (.seq (.block 3 (.seq (.ops [
 ⟨some 46, .move (.tmp 0), 27, none⟩,
 ⟨some 47, .move (.tmp 0), 27, none⟩,
 ⟨some 48, .move (.tmp 5), 3, none⟩,
 ⟨some 49, .indexAddr 27 (.tmp 47) (.tmp 48), 0, none⟩,
 ⟨some 50, .load 23 (.tmp 49), 23, none⟩,
 ⟨some 51, .call ⟨.value (.func 35), #[(.tmp 46), (.tmp 50)], #[27, 23]⟩, 3, none⟩,
 ⟨some 6, .assign (.tmp 51), 3, none⟩] [0, 5, 6]) (sg c22S5))) (sg c22S6))
noncomputable def c22L1 (_ : Unit) : Cmd := (.seq (.seq (.ops [
 ⟨some 40, .move (.tmp 5), 3, none⟩,
 ⟨some 41, .move (.tmp 0), 27, none⟩,
 ⟨some 42, .call ⟨.builtin .len, #[(.tmp 41)], #[27]⟩, 3, none⟩,
 ⟨some 43, .binOp .lss 3 (.tmp 40) (.tmp 42) 3, 4, none⟩] [0, 5, 43])
 (.cond (.tmp 43)
  (.skip [0, 5])
  (.exit 2 []))) (sg c22S7))
noncomputable def c22S8 (_ : Unit) : Cmd := (.seq (.ops [
 ⟨some 2, .assign (.const (.int .i64 0)), 3, none⟩] [2])
 .ret)
noncomputable def c22S9 (_ : Unit) : Cmd := (.seq (.seq (.ops [
 ⟨some 5, .assign (.const (.int .i64 0)), 3, none⟩] [0, 5])
 (.block 2 (.loop (sg c22L1)))) (sg c22S8))
noncomputable def c22S10 (_ : Unit) : Cmd := (.seq (.seq (.ops [
 ⟨some 3, .assign (.const (.int .i64 0)), 3, none⟩] [0, 3])
 (.block 0 (.loop (sg c22L0)))) (sg c22S9))
noncomputable def c22 : Cmd := (.seq (.ops [
 ⟨some 2, .assign (.const (.int .i64 0)), 3, none⟩] [0])
 (.seq (.seq (.ops [
 ⟨some 7, .move (.tmp 0), 27, none⟩,
 ⟨some 8, .call ⟨.builtin .len, #[(.tmp 7)], #[27]⟩, 3, none⟩,
 ⟨some 9, .binOp .gtr 3 (.tmp 8) (.const (.int .i64 64)) 3, 4, none⟩] [0, 9])
 (.cond (.tmp 9)
  (.seq (.ops [
  ⟨some 2, .assign (.const (.int .i64 34)), 3, none⟩] [2])
  .ret)
  (.skip [0]))) (sg c22S10)))
noncomputable def c22D0 : List (Bool × Ins) := [
 (true, ⟨some 24, .move (.tmp 3), 3, none⟩),
 (true, ⟨some 25, .binOp .gtr 3 (.tmp 24) (.const (.int .i64 0)) 3, 4, none⟩),
 (true, ⟨some 26, .move (.tmp 25), 4, none⟩),
 (true, ⟨some 27, .move (.tmp 0), 27, (some (26, true))⟩),
 (true, ⟨some 28, .move (.tmp 3), 3, (some (26, true))⟩),
 (true, ⟨some 29, .indexAddr 27 (.tmp 27) (.tmp 28), 0, (some (26, true))⟩),
 (true, ⟨some 30, .fieldAddr 23 (.tmp 29) 0, 0, (some (26, true))⟩),
 (false, ⟨some 31, .load 3 (.tmp 30), 3, (some (26, true))⟩),
 (true, ⟨some 32, .move (.tmp 0), 27, (some (26, true))⟩),
 (true, ⟨some 33, .move (.tmp 3), 3, (some (26, true))⟩),
 (true, ⟨some 34, .binOp .sub 3 (.tmp 33) (.const (.int .i64 1)) 3, 3, (some (26, true))⟩),
 (true, ⟨some 35, .indexAddr 27 (.tmp 32) (.tmp 34), 0, (some (26, true))⟩),
 (true, ⟨some 36, .fieldAddr 23 (.tmp 35) 0, 0, (some (26, true))⟩),
 (false, ⟨some 37, .load 3 (.tmp 36), 3, (some (26, true))⟩),
 (true, ⟨some 38, .binOp .leq 3 (.tmp 31) (.tmp 37) 3, 4, (some (26, true))⟩),
 (true, ⟨some 39, .pick (.tmp 26) (.tmp 38) (.const (.bool false)), 4, none⟩)]
theorem c22draw0 {L : List Nat} {ρ : Env} {w : World} {Q : Post} (h : DL Try.prog c22D0 L ρ w.drew Q) : drawW Try.prog (drawOps 0 c22code) L ρ w Q :=
  drawW_still [true, true, true, true, true, true, true, false, true, true, true, true, true, false, true, true] c22D0 (by kernel_rfl) (by kernel_rfl) (by kernel_rfl) h
set_option maxRecDepth 100000 in
theorem ent22 (a0 : Value) (w : World) (K : Value → World → Prop) (h : W Try.prog c22 [(0, a0)] w (finQ Try.prog [.tmp 2] K)) : Ret Try.prog 22 [a0] w K :=
  Ret_of_W (code := c22code) Try.func22 (by kernel_rfl) (by kernel_rfl) (of_decide_eq_true (by kernel_rfl)) h
@[go_sem] theorem go22 : goFunc Try.prog 22 = true := by kernel_rfl
noncomputable def c23code : Code := match Try.f23.body with | some c => c | none => .skip
noncomputable def c23S0 (_ : Unit) : Cmd := (.ops [
 ⟨some 29, .binOp .add 3 (.tmp 19) (.const (.int .i64 1)) 3, 3, none⟩,
 ⟨some 19, .move (.tmp 29), 3, none⟩] [1, 4, 5, 6, 17, 18, 19])
noncomputable def c23S1 (_ : Unit) : Cmd := (.seq (.block 1 (.seq (.ops [
 ⟨some 21, .indexAddr 27 (.tmp 17) (.tmp 19), 0, none⟩,
 ⟨some 22, .load 23 (.tmp 21), 23, none⟩,
 ⟨some 8, .alloc 23, 0, none⟩,
 ⟨none, .store 23 (.tmp 8) (.tmp 22), 0, none⟩] [1, 4, 5, 6, 8, 17, 18, 19])
 (.ops [
 ⟨some 23, .move (.tmp 6), 3, none⟩,
 ⟨some 24, .fieldAddr 23 (.tmp 8) 9, 0, none⟩,
 ⟨some 25, .load 3 (.tmp 24), 3, none⟩,
 ⟨some 26, .fieldAddr 23 (.tmp 8) 10, 0, none⟩,
 ⟨some 27, .load 3 (.tmp 26), 3, none⟩,
 ⟨some 28, .call ⟨.builtin .max, #[(.tmp 23), (.tmp 25), (.tmp 27)], #[3, 3, 3]⟩, 3, none⟩,
 ⟨some 6, .assign (.tmp 28), 3, none⟩] [1, 4, 5, 6, 17, 18, 19]))) (sg c23S0))
noncomputable def c23L0 (_ : Unit) : Cmd := (.seq (.ops [
 ⟨some 20, .binOp .lss 3 (.tmp 19) (.tmp 18) 3, 0, none⟩] [1, 4, 5, 6, 17, 18, 19, 20])
 (.seq (.cond (.tmp 20)
  (.skip [1, 4, 5, 6, 17, 18, 19])
  (.exit 0 [1, 4, 5, 6])) (sg c23S1)))
noncomputable def c23S2 (_ : Unit) : Cmd := (.seq (.ops [
 ⟨some 30, .move (.tmp 5), 3, none⟩,
 ⟨some 31, .move (.tmp 6), 3, none⟩,
 ⟨some 32, .move (.tmp 1), 3, none⟩,
 ⟨some 33, .build 51 #[(0, (.tmp 30)), (1, (.tmp 31)), (2, (.tmp 32))], 51, none⟩,
 ⟨none, .store 51 (.tmp 4) (.tmp 33), 0, none⟩] [4])
 .ret)
noncomputable def c23S3 (_ : Unit) : Cmd := (.seq (.seq (.ops [
 ⟨some 14, .move (.tmp 6), 3, none⟩,
 ⟨some 15, .binOp .gtr 3 (.tmp 14) (.const (.int .i64 1099511627776)) 3, 4, none⟩] [0, 1, 4, 5, 6, 15])
 (.cond (.tmp 15)
  (.seq (.ops [
  ⟨some 16, .move (.tmp 5), 3, none⟩,
  ⟨some 6, .assign (.tmp 16), 3, none⟩] [0, 1, 4, 5, 6])
  (.seq (.ops [
  ⟨some 17, .move (.tmp 0), 27, none⟩,
  ⟨some 18, .call ⟨.builtin .len, #[(.tmp 17)], #[27]⟩, 3, none⟩,
  ⟨some 19, .move (.const (.int .i64 0)), 3, none⟩] [1, 4, 5, 6, 17, 18, 19])
  (.block 0 (.loop (sg c23L0)))))
  (.skip [1, 4, 5, 6]))) (sg c23S2))
noncomputable def c23 : Cmd := (.seq (.ops [
 ⟨some 4, .alloc 51, 0, none⟩] [0, 1, 4])
 (.seq (.ops [
 ⟨some 10, .move (.tmp 0), 27, none⟩,
 ⟨some 11, .call ⟨.value (.func 36), #[(.tmp 10)], #[27]⟩, 38, none⟩,
 ⟨some 9, .move (.tmp 11), 38, none⟩,
 ⟨some 12, .extract (.tmp 9) 0, 3, none⟩,
 ⟨some 13, .extract (.tmp 9) 1, 3, none⟩,
 ⟨some 5, .assign (.tmp 12), 3, none⟩,
 ⟨some 6, .assign (.tmp 13), 3, none⟩] [0, 1, 4, 5, 6]) (sg c23S3)))
set_option maxRecDepth 100000 in
theorem ent23 (a0 a1 : Value) (w : World) (K : Value → World → Prop) (h : W Try.prog c23 [(0, a0), (1, a1)] w (finQ Try.prog [.cell 4 51] K)) : Ret Try.prog 23 [a0, a1] w K :=
  Ret_of_W (code := c23code) Try.func23 (by kernel_rfl) (by kernel_rfl) (of_decide_eq_true (by kernel_rfl)) h
@[go_sem] theorem go23 : goFunc Try.prog 23 = true := by kernel_rfl
noncomputable def c24code : Code := match Try.f24.body with | some c => c | none => .skip
noncomputable def c24S0 (_ : Unit) : Cmd := (.ops [
 ⟨some 26, .binOp .add 3 (.tmp 12) (.const (.int .i64 1)) 3, 3, none⟩,
 ⟨some 12, .move (.tmp 26), 3, none⟩] [3, 10, 11, 12])
noncomputable def c24S1 (_ : Unit) : Cmd := (.seq (.block 1 (.seq (.ops [
 ⟨some 14, .indexAddr 27 (.tmp 10) (.tmp 12), 0, none⟩,
 ⟨some 15, .load 23 (.tmp 14), 23, none⟩,
 ⟨some 5, .alloc 23, 0, none⟩,
 ⟨none, .store 23 (.tmp 5) (.tmp 15), 0, none⟩] [3, 5, 10, 11, 12])
 (.draw (drawOps 0 c24code) [3, 10, 11, 12]))) (sg c24S0))
noncomputable def c24L0 (_ : Unit) : Cmd := (.seq (.ops [
 ⟨some 13, .binOp .lss 3 (.tmp 12) (.tmp 11) 3, 0, none⟩] [3, 10, 11, 12, 13])
 (.seq (.cond (.tmp 13)
  (.skip [3, 10, 11, 12])
  (.exit 0 [3])) (sg c24S1)))
noncomputable def c24S2 (_ : Unit) : Cmd := (.ops [
 ⟨some 39, .move (.tmp 6), 35, none⟩,
 ⟨some 40, .move (.tmp 3), 75, none⟩,
 ⟨some 41, .move (.tmp 8), 3, none⟩,
 ⟨some 42, .lookup 75 (.tmp 40) (.tmp 41) false, 27, none⟩,
 ⟨some 43, .buildSlice 35 1 #[(0, (.tmp 42))], 35, none⟩,
 ⟨some 44, .call ⟨.builtin .append, #[(.tmp 39), (.tmp 43)], #[35, 35]⟩, 35, none⟩,
 ⟨some 6, .assign (.tmp 44), 35, none⟩] [3, 6, 29, 30, 31])
noncomputable def c24S3 (_ : Unit) : Cmd := (.ops [
 ⟨some 45, .binOp .add 3 (.tmp 31) (.const (.int .i64 1)) 3, 3, none⟩,
 ⟨some 31, .move (.tmp 45), 3, none⟩] [3, 6, 29, 30, 31])
noncomputable def c24S4 (_ : Unit) : Cmd := (.seq (.block 3 (.seq (.ops [
 ⟨some 33, .indexAddr 76 (.tmp 29) (.tmp 31), 0, none⟩,
 ⟨some 34, .load 3 (.tmp 33), 3, none⟩,
 ⟨some 8, .assign (.tmp 34), 3, none⟩] [3, 6, 8, 29, 30, 31])
 (.seq (.ops [
 ⟨some 35, .move (.tmp 3), 75, none⟩,
 ⟨some 36, .move (.tmp 8), 3, none⟩,
 ⟨some 37, .lookup 75 (.tmp 35) (.tmp 36) false, 27, none⟩,
 ⟨some 38, .call ⟨.value (.func 39), #[(.tmp 37), (.func 40)], #[27, 84]⟩, 0, none⟩] [3, 6, 8, 29, 30, 31]) (sg c24S2)))) (sg c24S3))
noncomputable def c24L1 (_ : Unit) : Cmd := (.seq (.ops [
 ⟨some 32, .binOp .lss 3 (.tmp 31) (.tmp 30) 3, 0, none⟩] [3, 6, 29, 30, 31, 32])
 (.seq (.cond (.tmp 32)
  (.skip [3, 6, 29, 30, 31])
  (.exit 2 [6])) (sg c24S4)))
noncomputable def c24S5 (_ : Unit) : Cmd := (.block 2 (.loop (sg c24L1)))
noncomputable def c24S6 (_ : Unit) : Cmd := (.seq (.ops [
 ⟨some 46, .move (.tmp 6), 35, none⟩,
 ⟨some 2, .assign (.tmp 46), 35, none⟩] [2])
 .ret)
noncomputable def c24S7 (_ : Unit) : Cmd := (.seq (.ops [
 ⟨some 6, .assign (.const (.slice none 0 0)), 35, none⟩] [3, 6])
 (.seq (.seq (.ops [
 ⟨some 27, .move (.tmp 3), 75, none⟩,
 ⟨some 28, .call ⟨.value (.func 38), #[(.tmp 27)], #[75]⟩, 79, none⟩,
 ⟨some 29, .call ⟨.value (.func 37), #[(.tmp 28)], #[79]⟩, 76, none⟩,
 ⟨some 30, .call ⟨.builtin .len, #[(.tmp 29)], #[76]⟩, 3, none⟩,
 ⟨some 31, .move (.const (.int .i64 0)), 3, none⟩] [3, 6, 29, 30, 31]) (sg c24S5)) (sg c24S6)))
noncomputable def c24 : Cmd := (.seq (.ops [
 ⟨some 2, .assign (.const (.slice none 0 0)), 35, none⟩] [0])
 (.seq (.ops [
 ⟨some 9, .makeMap 75 none, 75, none⟩,
 ⟨some 3, .assign (.tmp 9), 75, none⟩] [0, 3])
 (.seq (.seq (.ops [
 ⟨some 10, .move (.tmp 0), 27, none⟩,
 ⟨some 11, .call ⟨.builtin .len, #[(.tmp 10)], #[27]⟩, 3, none⟩,
 ⟨some 12, .move (.const (.int .i64 0)), 3, none⟩] [3, 10, 11, 12])
 (.block 0 (.loop (sg c24L0)))) (sg c24S7))))
noncomputable def c24D0 : GT := (.one 0 ⟨some 16, .move (.tmp 3), 75, none⟩
 (.one 0 ⟨some 17, .fieldAddr 23 (.tmp 5) 1, 0, none⟩
 (.one 0 ⟨some 19, .move (.tmp 3), 75, none⟩
 (.one 0 ⟨some 20, .fieldAddr 23 (.tmp 5) 1, 0, none⟩
 (.one 1 ⟨some 18, .load 3 (.tmp 17), 3, none⟩
 (.one 1 ⟨some 21, .load 3 (.tmp 20), 3, none⟩
 (.one 1 ⟨some 23, .load 23 (.tmp 5), 23, none⟩
 (.alt ⟨some 22, .lookup 75 (.tmp 19) (.tmp 21) false, 27, none⟩
 (.one 2 ⟨some 24, .buildSlice 27 1 #[(0, (.tmp 23))], 27, none⟩
 (.one 2 ⟨some 25, .call ⟨.builtin .append, #[(.tmp 22), (.tmp 24)], #[27, 27]⟩, 27, none⟩
 (.one 2 ⟨none, .mapUpdate 75 (.tmp 16) (.tmp 18) (.tmp 25), 0, none⟩
 .nil)))
 (.alt ⟨some 24, .buildSlice 27 1 #[(0, (.tmp 23))], 27, none⟩
 (.one 2 ⟨some 22, .lookup 75 (.tmp 19) (.tmp 21) false, 27, none⟩
 (.one 2 ⟨some 25, .call ⟨.builtin .append, #[(.tmp 22), (.tmp 24)], #[27, 27]⟩, 27, none⟩
 (.one 2 ⟨none, .mapUpdate 75 (.tmp 16) (.tmp 18) (.tmp 25), 0, none⟩
 .nil)))
 .stop)))))))))
theorem c24draw0 {L : List Nat} {ρ : Env} {w : World} {Q : Post} (S : World → Prop) (hS : S w.drew) (h : DT Try.prog S c24D0 L ρ w.drew Q) : drawW Try.prog (drawOps 0 c24code) L ρ w Q :=
  drawW_tree [2, 5, 7] (.one 0 0 (.one 0 1 (.one 0 3 (.one 0 4 (.one 1 2 (.one 1 5 (.one 1 7 (.alt 6 (.one 2 8 (.one 2 9 (.one 2 10 .nil))) (.alt 8 (.one 2 6 (.one 2 9 (.one 2 10 .nil))) .stop))))))))) c24D0 (by kernel_rfl) (by kernel_rfl) (by kernel_rfl) S hS h
set_option maxRecDepth 100000 in
theorem ent24 (a0 : Value) (w : World) (K : Value → World → Prop) (h : W Try.prog c24 [(0, a0)] w (finQ Try.prog [.tmp 2] K)) : Ret Try.prog 24 [a0] w K :=
  Ret_of_W (code := c24code) Try.func24 (by kernel_rfl) (by kernel_rfl) (of_decide_eq_true (by kernel_rfl)) h
@[go_sem] theorem go24 : goFunc Try.prog 24 = true := by kernel_rfl
noncomputable def c25code : Code := match Try.f25.body with | some c => c | none => .skip
noncomputable def c25S0 (_ : Unit) : Cmd := (.seq (.ops [
 ⟨some 17, .move (.tmp 1), 9, none⟩,
 ⟨some 18, .call ⟨.builtin .len, #[(.tmp 17)], #[9]⟩, 3, none⟩,
 ⟨some 4, .assign (.tmp 18), 3, none⟩,
 ⟨some 5, .assign (.const .nilIface), 58, none⟩] [4, 5])
 .ret)
noncomputable def c25S1 (_ : Unit) : Cmd := (.seq (.ops [
 ⟨some 8, .move (.tmp 0), 53, none⟩,
 ⟨some 9, .move (.tmp 0), 53, none⟩,
 ⟨some 10, .nilCheck (.tmp 9), 0, none⟩,
 ⟨some 11, .fieldAddr 56 (.tmp 10) 1, 0, none⟩,
 ⟨some 12, .load 54 (.tmp 11), 54, none⟩,
 ⟨some 13, .move (.tmp 1), 9, none⟩,
 ⟨some 14, .call ⟨.builtin .append, #[(.tmp 12), (.tmp 13)], #[54, 9]⟩, 54, none⟩,
 ⟨some 15, .nilCheck (.tmp 8), 0, none⟩,
 ⟨some 16, .fieldAddr 56 (.tmp 15) 1, 0, none⟩,
 ⟨none, .store 54 (.tmp 16) (.tmp 14), 0, none⟩] [1]) (sg c25S0))
noncomputable def c25 : Cmd := (.seq (.ops [
 ⟨some 4, .assign (.const (.int .i64 0)), 3, none⟩,
 ⟨some 5, .assign (.const .nilIface), 58, none⟩] [0, 1])
 (.seq (.ops [
 ⟨some 6, .move (.tmp 0), 53, none⟩,
 ⟨some 7, .call ⟨.value (.func 43), #[(.tmp 6)], #[53]⟩, 0, none⟩] [0, 1]) (sg c25S1)))
set_option maxRecDepth 100000 in
theorem ent25 (a0 a1 : Value) (w : World) (K : Value → World → Prop) (h : W Try.prog c25 [(0, a0), (1, a1)] w (finQ Try.prog [.tmp 4, .tmp 5] K)) : Ret Try.prog 25 [a0, a1] w K :=
  Ret_of_W (code := c25code) Try.func25 (by kernel_rfl) (by kernel_rfl) (of_decide_eq_true (by kernel_rfl)) h
@[go_sem] theorem go25 : goFunc Try.prog 25 = true := by kernel_rfl
noncomputable def c26code : Code := match Try.f26.body with | some c => c | none => .skip
noncomputable def c26S0 (_ : Unit) : Cmd := (.seq (.ops [
 ⟨some 6, .move (.tmp 0), 9, none⟩,
 ⟨some 7, .slice 9 (.tmp 6) none (some (.const (.int .i64 7))) none, 9, none⟩,
 ⟨some 2, .assign (.tmp 7), 9, none⟩] [2])
 .ret)
noncomputable def c26 : Cmd := (.seq (.ops [
 ⟨some 2, .assign (.const (.string (ofL []))), 9, none⟩] [0])
 (.seq (.ops [
 ⟨some 3, .move (.tmp 0), 9, none⟩,
 ⟨some 4, .call ⟨.value (.func 44), #[(.const (.string (ofL [32]))), (.const (.int .i64 7))], #[9, 3]⟩, 9, none⟩,
 ⟨some 5, .binOp .add 9 (.tmp 3) (.tmp 4) 9, 9, none⟩,
 ⟨some 0, .assign (.tmp 5), 9, none⟩] [0]) (sg c26S0)))
set_option maxRecDepth 100000 in
theorem ent26 (a0 : Value) (w : World) (K : Value → World → Prop) (h : W Try.prog c26 [(0, a0)] w (finQ Try.prog [.tmp 2] K)) : Ret Try.prog 26 [a0] w K :=
  Ret_of_W (code := c26code) Try.func26 (by kernel_rfl) (by kernel_rfl) (of_decide_eq_true (by kernel_rfl)) h
@[go_sem] theorem go26 : goFunc Try.prog 26 = true := by kernel_rfl
noncomputable def c27code : Code := match Try.f27.body with | some c => c | none => .skip
noncomputable def c27S0 (_ : Unit) : Cmd := (.ops [
 ⟨some 22, .binOp .add 3 (.tmp 14) (.const (.int .i64 1)) 3, 3, none⟩,
 ⟨some 14, .move (.tmp 22), 3, none⟩] [2, 5, 12, 13, 14])
noncomputable def c27S1 (_ : Unit) : Cmd := (.seq (.block 1 (.seq (.ops [
 ⟨some 16, .indexAddr 27 (.tmp 12) (.tmp 14), 0, none⟩,
 ⟨some 17, .load 23 (.tmp 16), 23, none⟩,
 ⟨some 7, .alloc 23, 0, none⟩,
 ⟨none, .store 23 (.tmp 7) (.tmp 17), 0, none⟩] [2, 5, 7, 12, 13, 14])
 (.ops [
 ⟨some 18, .move (.tmp 5), 54, none⟩,
 ⟨some 19, .load 51 (.tmp 2), 51, none⟩,
 ⟨some 20, .load 23 (.tmp 7), 23, none⟩,
 ⟨some 21, .call ⟨.value (.func 45), #[(.tmp 18), (.tmp 19), (.tmp 20)], #[54, 51, 23]⟩, 0, none⟩] [2, 5, 12, 13, 14]))) (sg c27S0))
noncomputable def c27L0 (_ : Unit) : Cmd := (.seq (.ops [
 ⟨some 15, .binOp .lss 3 (.tmp 14) (.tmp 13) 3, 0, none⟩] [2, 5, 12, 13, 14, 15])
 (.seq (.cond (.tmp 15)
  (.skip [2, 5, 12, 13, 14])
  (.exit 0 [5])) (sg c27S1)))
noncomputable def c27S2 (_ : Unit) : Cmd := (.seq (.ops [
 ⟨some 23, .move (.tmp 5), 54, none⟩,
 ⟨some 24, .convert 54 9 (.tmp 23), 9, none⟩,
 ⟨some 4, .assign (.tmp 24), 9, none⟩] [4])
 .ret)
noncomputable def c27S3 (_ : Unit) : Cmd := (.seq (.seq (.ops [
 ⟨some 12, .move (.tmp 1), 27, none⟩,
 ⟨some 13, .call ⟨.builtin .len, #[(.tmp 12)], #[27]⟩, 3, none⟩,
 ⟨some 14, .move (.const (.int .i64 0)), 3, none⟩] [2, 5, 12, 13, 14])
 (.block 0 (.loop (sg c27L0)))) (sg c27S2))
noncomputable def c27 : Cmd := (.seq (.ops [
 ⟨some 2, .box 51 (.tmp 0), 0, none⟩,
 ⟨some 4, .assign (.const (.string (ofL []))), 9, none⟩] [1, 2])
 (.seq (.ops [
 ⟨some 8, .fieldAddr 51 (.tmp 2) 2, 0, none⟩,
 ⟨some 9, .load 3 (.tmp 8), 3, none⟩,
 ⟨some 10, .call ⟨.value (.func 44), #[(.const (.string (ofL [46]))), (.tmp 9)], #[9, 3]⟩, 9, none⟩,
 ⟨some 11, .convert 9 54 (.tmp 10), 54, none⟩,
 ⟨some 5, .assign (.tmp 11), 54, none⟩] [1, 2, 5]) (sg c27S3)))
set_option maxRecDepth 100000 in
theorem ent27 (a0 a1 : Value) (w : World) (K : Value → World → Prop) (h : W Try.prog c27 [(0, a0), (1, a1)] w (finQ Try.prog [.tmp 4] K)) : Ret Try.prog 27 [a0, a1] w K :=
  Ret_of_W (code := c27code) Try.func27 (by kernel_rfl) (by kernel_rfl) (of_decide_eq_true (by kernel_rfl)) h
@[go_sem] theorem go27 : goFunc Try.prog 27 = true := by kernel_rfl
noncomputable def c28code : Code := match Try.f28.body with | some c => c | none => .skip
noncomputable def c28S0 (_ : Unit) : Cmd := .ret
noncomputable def c28 : Cmd := (.seq (.ops [
 ⟨some 2, .assign (.const (.string (ofL []))), 9, none⟩] [0])
 (.seq (.draw (drawOps 0 c28code) [2]) (sg c28S0)))
noncomputable def c28D0 : List (Nat × Ins) := [
 (0, ⟨some 3, .move (.tmp 0), 53, none⟩),
 (0, ⟨some 4, .nilCheck (.tmp 3), 0, none⟩),
 (0, ⟨some 5, .fieldAddr 56 (.tmp 4) 1, 0, none⟩),
 (0, ⟨some 8, .move (.tmp 0), 53, none⟩),
 (0, ⟨some 9, .nilCheck (.tmp 8), 0, none⟩),
 (0, ⟨some 10, .fieldAddr 56 (.tmp 9) 1, 0, none⟩),
 (1, ⟨some 6, .load 54 (.tmp 5), 54, none⟩),
 (1, ⟨some 11, .load 54 (.tmp 10), 54, none⟩),
 (0, ⟨some 12, .call ⟨.builtin .len, #[(.tmp 11)], #[54]⟩, 3, none⟩),
 (2, ⟨some 7, .call ⟨.builtin .unsafeSliceData, #[(.tmp 6)], #[54]⟩, 87, none⟩),
 (2, ⟨some 13, .call ⟨.builtin .unsafeString, #[(.tmp 7), (.tmp 12)], #[87, 3]⟩, 9, none⟩),
 (0, ⟨some 2, .assign (.tmp 13), 9, none⟩)]
theorem c28draw0 {L : List Nat} {ρ : Env} {w : World} {Q : Post} (S : World → Prop) (hS : S w.drew) (h : DG Try.prog S c28D0 L ρ w.drew Q) : drawW Try.prog (drawOps 0 c28code) L ρ w Q :=
  drawW_held [3, 8] [(0, 0), (0, 1), (0, 2), (0, 5), (0, 6), (0, 7), (1, 3), (1, 8), (0, 9), (2, 4), (2, 10), (0, 11)] c28D0 (by kernel_rfl) (by kernel_rfl) (by kernel_rfl) S hS h
set_option maxRecDepth 100000 in
theorem ent28 (a0 : Value) (w : World) (K : Value → World → Prop) (h : W Try.prog c28 [(0, a0)] w (finQ Try.prog [.tmp 2] K)) : Ret Try.prog 28 [a0] w K :=
  Ret_of_W (code := c28code) Try.func28 (by kernel_rfl) (by kernel_rfl) (of_decide_eq_true (by kernel_rfl)) h
@[go_sem] theorem go28 : goFunc Try.prog 28 = true := by kernel_rfl
@[go_sem] theorem go29 : goFunc Try.prog 29 = true := by kernel_rfl
@[go_sem] theorem go30 : goFunc Try.prog 30 = true := by kernel_rfl
noncomputable def c31code : Code := match Try.f31.body with | some c => c | none => .skip
noncomputable def c31S0 (_ : Unit) : Cmd := (.ops [
  ⟨some 40, .move (.tmp 6), 3, none⟩,
  ⟨some 41, .binOp .add 3 (.tmp 40) (.const (.int .i64 1)) 3, 3, none⟩,
  ⟨some 6, .assign (.tmp 41), 3, none⟩] [3, 5, 6, 11, 12, 13])
noncomputable def c31S1 (_ : Unit) : Cmd := (.cond (.tmp 31)
  (.seq (.ops [
  ⟨some 32, .move (.tmp 3), 66, none⟩,
  ⟨some 33, .fieldAddr 23 (.tmp 5) 2, 0, none⟩,
  ⟨some 34, .load 3 (.tmp 33), 3, none⟩,
  ⟨some 35, .fieldAddr 23 (.tmp 5) 3, 0, none⟩,
  ⟨some 36, .load 3 (.tmp 35), 3, none⟩,
  ⟨some 37, .build 69 #[(0, (.tmp 34)), (1, (.tmp 36))], 69, none⟩,
  ⟨some 38, .buildSlice 66 1 #[(0, (.tmp 37))], 66, none⟩,
  ⟨some 39, .call ⟨.builtin .append, #[(.tmp 32), (.tmp 38)], #[66, 66]⟩, 66, none⟩,
  ⟨some 3, .assign (.tmp 39), 66, none⟩] [3, 5, 6, 11, 12, 13]) (sg c31S0))
  (.skip [3, 5, 6, 11, 12, 13]))
noncomputable def c31S2 (_ : Unit) : Cmd := (.draw (drawOps 1 c31code) [3, 11, 12, 13])
noncomputable def c31S3 (_ : Unit) : Cmd := (.ops [
 ⟨some 54, .binOp .add 3 (.tmp 13) (.const (.int .i64 1)) 3, 3, none⟩,
 ⟨some 13, .move (.tmp 54), 3, none⟩] [3, 11, 12, 13])
noncomputable def c31S4 (_ : Unit) : Cmd := (.seq (.block 1 (.seq (.ops [
 ⟨some 15, .indexAddr 27 (.tmp 11) (.tmp 13), 0, none⟩,
 ⟨some 16, .load 23 (.tmp 15), 23, none⟩,
 ⟨some 5, .alloc 23, 0, none⟩,
 ⟨none, .store 23 (.tmp 5) (.tmp 16), 0, none⟩] [3, 5, 11, 12, 13])
 (.seq (.ops [
 ⟨some 17, .move (.tmp 3), 66, none⟩,
 ⟨some 18, .call ⟨.builtin .len, #[(.tmp 17)], #[66]⟩, 3, none⟩,
 ⟨some 19, .binOp .sub 3 (.tmp 18) (.const (.int .i64 1)) 3, 3, none⟩,
 ⟨some 6, .assign (.tmp 19), 3, none⟩] [3, 5, 6, 11, 12, 13])
 (.seq (.seq (.draw (drawOps 0 c31code) [3, 5, 6, 11, 12, 13, 31]) (sg c31S1)) (sg c31S2))))) (sg c31S3))
noncomputable def c31L0 (_ : Unit) : Cmd := (.seq (.ops [
 ⟨some 14, .binOp .lss 3 (.tmp 13) (.tmp 12) 3, 0, none⟩] [3, 11, 12, 13, 14])
 (.seq (.cond (.tmp 14)
  (.skip [3, 11, 12, 13])
  (.exit 0 [3])) (sg c31S4)))
noncomputable def c31S5 (_ : Unit) : Cmd := (.seq (.ops [
 ⟨some 55, .move (.tmp 3), 66, none⟩,
 ⟨some 2, .assign (.tmp 55), 66, none⟩] [2])
 .ret)
noncomputable def c31S6 (_ : Unit) : Cmd := (.seq (.ops [
 ⟨some 3, .assign (.const (.slice none 0 0)), 66, none⟩] [0, 3])
 (.seq (.seq (.ops [
 ⟨some 11, .move (.tmp 0), 27, none⟩,
 ⟨some 12, .call ⟨.builtin .len, #[(.tmp 11)], #[27]⟩, 3, none⟩,
 ⟨some 13, .move (.const (.int .i64 0)), 3, none⟩] [3, 11, 12, 13])
 (.block 0 (.loop (sg c31L0)))) (sg c31S5)))
noncomputable def c31S7 (_ : Unit) : Cmd := (.seq (.ops [
 ⟨some 9, .move (.tmp 0), 27, none⟩,
 ⟨some 10, .call ⟨.value (.func 39), #[(.tmp 9), (.func 49)], #[27, 84]⟩, 0, none⟩] [0]) (sg c31S6))
noncomputable def c31 : Cmd := (.seq (.ops [
 ⟨some 2, .assign (.const (.slice none 0 0)), 66, none⟩] [0])
 (.seq (.ops [
 ⟨some 7, .move (.tmp 0), 27, none⟩,
 ⟨some 8, .call ⟨.value (.func 48), #[(.tmp 7)], #[27]⟩, 27, none⟩,
 ⟨some 0, .assign (.tmp 8), 27, none⟩] [0]) (sg c31S7)))
noncomputable def c31D0 : List (Bool × Ins) := [
 (true, ⟨some 20, .move (.tmp 6), 3, none⟩),
 (true, ⟨some 21, .binOp .lss 3 (.tmp 20) (.const (.int .i64 0)) 3, 4, none⟩),
 (true, ⟨some 22, .move (.tmp 21), 4, none⟩),
 (true, ⟨some 23, .move (.tmp 3), 66, (some (22, false))⟩),
 (true, ⟨some 24, .move (.tmp 6), 3, (some (22, false))⟩),
 (true, ⟨some 25, .indexAddr 66 (.tmp 23) (.tmp 24), 0, (some (22, false))⟩),
 (true, ⟨some 26, .fieldAddr 69 (.tmp 25) 0, 0, (some (22, false))⟩),
 (false, ⟨some 27, .load 3 (.tmp 26), 3, (some (22, false))⟩),
 (true, ⟨some 28, .fieldAddr 23 (.tmp 5) 2, 0, (some (22, false))⟩),
 (false, ⟨some 29, .load 3 (.tmp 28), 3, (some (22, false))⟩),
 (true, ⟨some 30, .binOp .neq 3 (.tmp 27) (.tmp 29) 3, 4, (some (22, false))⟩),
 (true, ⟨some 31, .pick (.tmp 22) (.const (.bool true)) (.tmp 30), 4, none⟩)]
theorem c31draw0 {L : List Nat} {ρ : Env} {w : World} {Q : Post} (h : DL Try.prog c31D0 L ρ w.drew Q) : drawW Try.prog (drawOps 0 c31code) L ρ w Q :=
  drawW_still [true, true, true, true, true, true, true, false, true, false, true, true] c31D0 (by kernel_rfl) (by kernel_rfl) (by kernel_rfl) h
noncomputable def c31D1 : List (Nat × Ins) := [
 (0, ⟨some 42, .move (.tmp 3), 66, none⟩),
 (0, ⟨some 43, .move (.tmp 6), 3, none⟩),
 (0, ⟨some 44, .move (.tmp 3), 66, none⟩),
 (0, ⟨some 45, .move (.tmp 6), 3, none⟩),
 (0, ⟨some 46, .indexAddr 66 (.tmp 44) (.tmp 45), 0, none⟩),
 (0, ⟨some 47, .fieldAddr 69 (.tmp 46) 2, 0, none⟩),
 (1, ⟨some 48, .load 27 (.tmp 47), 27, none⟩),
 (2, ⟨some 49, .load 23 (.tmp 5), 23, none⟩),
 (2, ⟨some 50, .buildSlice 27 1 #[(0, (.tmp 49))], 27, none⟩),
 (3, ⟨some 51, .call ⟨.builtin .append, #[(.tmp 48), (.tmp 50)], #[27, 27]⟩, 27, none⟩),
 (0, ⟨some 52, .indexAddr 66 (.tmp 42) (.tmp 43), 0, none⟩),
 (0, ⟨some 53, .fieldAddr 69 (.tmp 52) 2, 0, none⟩),
 (3, ⟨none, .store 27 (.tmp 53) (.tmp 51), 0, none⟩)]
theorem c31draw1 {L : List Nat} {ρ : Env} {w : World} {Q : Post} (S : World → Prop) (hS : S w.drew) (h : DG Try.prog S c31D1 L ρ w.drew Q) : drawW Try.prog (drawOps 1 c31code) L ρ w Q :=
  drawW_held [6] [(0, 0), (0, 1), (0, 2), (0, 3), (0, 4), (0, 5), (1, 6), (2, 7), (2, 8), (3, 9), (0, 10), (0, 11), (3, 12)] c31D1 (by kernel_rfl) (by kernel_rfl) (by kernel_rfl) S hS h
set_option maxRecDepth 100000 in
theorem ent31 (a0 : Value) (w : World) (K : Value → World → Prop) (h : W Try.prog c31 [(0, a0)] w (finQ Try.prog [.tmp 2] K)) : Ret Try.prog 31 [a0] w K :=
  Ret_of_W (code := c31code) Try.func31 (by kernel_rfl) (by kernel_rfl) (of_decide_eq_true (by kernel_rfl)) h
@[go_sem] theorem go31 : goFunc Try.prog 31 = true := by kernel_rfl
noncomputable def c32code : Code := match Try.f32.body with | some c => c | none => .skip
noncomputable def c32S0 (_ : Unit) : Cmd := (.seq (.ops [
 ⟨some 35, .move (.tmp 5), 54, none⟩,
 ⟨some 36, .move (.tmp 10), 3, none⟩,
 ⟨some 37, .indexAddr 54 (.tmp 35) (.tmp 36), 0, none⟩,
 ⟨some 38, .load 5 (.tmp 37), 5, none⟩,
 ⟨some 39, .binOp .eql 5 (.tmp 38) (.const (.int .u8 32)) 5, 4, none⟩] [2, 5, 10, 15, 16, 17, 39])
 (.cond (.tmp 39)
  (.ops [
  ⟨some 40, .move (.tmp 5), 54, none⟩,
  ⟨some 41, .move (.tmp 10), 3, none⟩,
  ⟨some 42, .indexAddr 54 (.tmp 40) (.tmp 41), 0, none⟩,
  ⟨none, .store 5 (.tmp 42) (.const (.int .u8 36)), 0, none⟩] [2, 5, 15, 16, 17])
  (.skip [2, 5, 15, 16, 17])))
noncomputable def c32S1 (_ : Unit) : Cmd := (.seq (.ops [
 ⟨some 32, .load 51 (.tmp 2), 51, none⟩,
 ⟨some 33, .move (.tmp 9), 3, none⟩,
 ⟨some 34, .call ⟨.value (.func 51), #[(.tmp 32), (.tmp 33)], #[51, 3]⟩, 3, none⟩,
 ⟨some 10, .assign (.tmp 34), 3, none⟩] [2, 5, 10, 15, 16, 17]) (sg c32S0))
noncomputable def c32S2 (_ : Unit) : Cmd := (.seq (.ops [
 ⟨some 27, .move (.tmp 5), 54, none⟩,
 ⟨some 28, .load 51 (.tmp 2), 51, none⟩,
 ⟨some 29, .move (.tmp 8), 3, none⟩,
 ⟨some 30, .call ⟨.value (.func 51), #[(.tmp 28), (.tmp 29)], #[51, 3]⟩, 3, none⟩,
 ⟨some 31, .indexAddr 54 (.tmp 27) (.tmp 30), 0, none⟩,
 ⟨none, .store 5 (.tmp 31) (.const (.int .u8 94)), 0, none⟩] [2, 5, 9, 15, 16, 17]) (sg c32S1))
noncomputable def c32S3 (_ : Unit) : Cmd := (.ops [
 ⟨some 43, .binOp .add 3 (.tmp 17) (.const (.int .i64 1)) 3, 3, none⟩,
 ⟨some 17, .move (.tmp 43), 3, none⟩] [2, 5, 15, 16, 17])
noncomputable def c32S4 (_ : Unit) : Cmd := (.seq (.block 1 (.seq (.ops [
 ⟨some 19, .indexAddr 66 (.tmp 15) (.tmp 17), 0, none⟩,
 ⟨some 20, .load 69 (.tmp 19), 69, none⟩,
 ⟨some 7, .alloc 69, 0, none⟩,
 ⟨none, .store 69 (.tmp 7) (.tmp 20), 0, none⟩] [2, 5, 7, 15, 16, 17])
 (.seq (.ops [
 ⟨some 22, .fieldAddr 69 (.tmp 7) 2, 0, none⟩,
 ⟨some 23, .load 27 (.tmp 22), 27, none⟩,
 ⟨some 24, .call ⟨.value (.func 36), #[(.tmp 23)], #[27]⟩, 38, none⟩,
 ⟨some 21, .move (.tmp 24), 38, none⟩,
 ⟨some 25, .extract (.tmp 21) 0, 3, none⟩,
 ⟨some 26, .extract (.tmp 21) 1, 3, none⟩,
 ⟨some 8, .assign (.tmp 25), 3, none⟩,
 ⟨some 9, .assign (.tmp 26), 3, none⟩] [2, 5, 8, 9, 15, 16, 17]) (sg c32S2)))) (sg c32S3))
noncomputable def c32L0 (_ : Unit) : Cmd := (.seq (.ops [
 ⟨some 18, .binOp .lss 3 (.tmp 17) (.tmp 16) 3, 0, none⟩] [2, 5, 15, 16, 17, 18])
 (.seq (.cond (.tmp 18)
  (.skip [2, 5, 15, 16, 17])
  (.exit 0 [5])) (sg c32S4)))
noncomputable def c32S5 (_ : Unit) : Cmd := (.seq (.ops [
 ⟨some 44, .move (.tmp 5), 54, none⟩,
 ⟨some 45, .convert 54 9 (.tmp 44), 9, none⟩,
 ⟨some 4, .assign (.tmp 45), 9, none⟩] [4])
 .ret)
noncomputable def c32S6 (_ : Unit) : Cmd := (.seq (.seq (.ops [
 ⟨some 15, .move (.tmp 1), 66, none⟩,
 ⟨some 16, .call ⟨.builtin .len, #[(.tmp 15)], #[66]⟩, 3, none⟩,
 ⟨some 17, .move (.const (.int .i64 0)), 3, none⟩] [2, 5, 15, 16, 17])
 (.block 0 (.loop (sg c32L0)))) (sg c32S5))
noncomputable def c32 : Cmd := (.seq (.ops [
 ⟨some 2, .box 51 (.tmp 0), 0, none⟩,
 ⟨some 4, .assign (.const (.string (ofL []))), 9, none⟩] [1, 2])
 (.seq (.ops [
 ⟨some 11, .fieldAddr 51 (.tmp 2) 2, 0, none⟩,
 ⟨some 12, .load 3 (.tmp 11), 3, none⟩,
 ⟨some 13, .call ⟨.value (.func 44), #[(.const (.string (ofL [32]))), (.tmp 12)], #[9, 3]⟩, 9, none⟩,
 ⟨some 14, .convert 9 54 (.tmp 13), 54, none⟩,
 ⟨some 5, .assign (.tmp 14), 54, none⟩] [1, 2, 5]) (sg c32S6)))
set_option maxRecDepth 100000 in
theorem ent32 (a0 a1 : Value) (w : World) (K : Value → World → Prop) (h : W Try.prog c32 [(0, a0), (1, a1)] w (finQ Try.prog [.tmp 4] K)) : Ret Try.prog 32 [a0, a1] w K :=
  Ret_of_W (code := c32code) Try.func32 (by kernel_rfl) (by kernel_rfl) (of_decide_eq_true (by kernel_rfl)) h
@[go_sem] theorem go32 : goFunc Try.prog 32 = true := by kernel_rfl
noncomputable def c33code : Code := match Try.f33.body with | some c => c | none => .skip
noncomputable def c33S0 (_ : Unit) : Cmd := (.ops [
  ⟨some 41, .move (.tmp 7), 3, none⟩,
  ⟨some 42, .binOp .add 3 (.tmp 41) (.const (.int .i64 1)) 3, 3, none⟩,
  ⟨some 7, .assign (.tmp 42), 3, none⟩] [1, 4, 6, 7, 13, 14, 15])
noncomputable def c33S1 (_ : Unit) : Cmd := (.cond (.tmp 32)
  (.seq (.ops [
  ⟨some 33, .move (.tmp 4), 66, none⟩,
  ⟨some 34, .fieldAddr 69 (.tmp 1) 0, 0, none⟩,
  ⟨some 35, .load 3 (.tmp 34), 3, none⟩,
  ⟨some 36, .fieldAddr 69 (.tmp 1) 1, 0, none⟩,
  ⟨some 37, .load 3 (.tmp 36), 3, none⟩,
  ⟨some 38, .build 69 #[(0, (.tmp 35)), (1, (.tmp 37))], 69, none⟩,
  ⟨some 39, .buildSlice 66 1 #[(0, (.tmp 38))], 66, none⟩,
  ⟨some 40, .call ⟨.builtin .append, #[(.tmp 33), (.tmp 39)], #[66, 66]⟩, 66, none⟩,
  ⟨some 4, .assign (.tmp 40), 66, none⟩] [1, 4, 6, 7, 13, 14, 15]) (sg c33S0))
  (.skip [1, 4, 6, 7, 13, 14, 15]))
noncomputable def c33S2 (_ : Unit) : Cmd := (.draw (drawOps 1 c33code) [1, 4, 13, 14, 15])
noncomputable def c33S3 (_ : Unit) : Cmd := (.ops [
 ⟨some 55, .binOp .add 3 (.tmp 15) (.const (.int .i64 1)) 3, 3, none⟩,
 ⟨some 15, .move (.tmp 55), 3, none⟩] [1, 4, 13, 14, 15])
noncomputable def c33S4 (_ : Unit) : Cmd := (.seq (.block 1 (.seq (.ops [
 ⟨some 17, .indexAddr 27 (.tmp 13) (.tmp 15), 0, none⟩,
 ⟨some 18, .load 23 (.tmp 17), 23, none⟩,
 ⟨some 6, .alloc 23, 0, none⟩,
 ⟨none, .store 23 (.tmp 6) (.tmp 18), 0, none⟩] [1, 4, 6, 13, 14, 15])
 (.seq (.ops [
 ⟨some 19, .move (.tmp 4), 66, none⟩,
 ⟨some 20, .call ⟨.builtin .len, #[(.tmp 19)], #[66]⟩, 3, none⟩,
 ⟨some 21, .binOp .sub 3 (.tmp 20) (.const (.int .i64 1)) 3, 3, none⟩,
 ⟨some 7, .assign (.tmp 21), 3, none⟩] [1, 4, 6, 7, 13, 14, 15])
 (.seq (.seq (.draw (drawOps 0 c33code) [1, 4, 6, 7, 13, 14, 15, 32]) (sg c33S1)) (sg c33S2))))) (sg c33S3))
noncomputable def c33L0 (_ : Unit) : Cmd := (.seq (.ops [
 ⟨some 16, .binOp .lss 3 (.tmp 15) (.tmp 14) 3, 0, none⟩] [1, 4, 13, 14, 15, 16])
 (.seq (.cond (.tmp 16)
  (.skip [1, 4, 13, 14, 15])
  (.exit 0 [4])) (sg c33S4)))
noncomputable def c33S5 (_ : Unit) : Cmd := (.seq (.ops [
 ⟨some 56, .move (.tmp 4), 66, none⟩,
 ⟨some 2, .assign (.tmp 56), 66, none⟩] [2])
 .ret)
noncomputable def c33S6 (_ : Unit) : Cmd := (.seq (.ops [
 ⟨some 4, .assign (.const (.slice none 0 0)), 66, none⟩] [1, 3, 4])
 (.seq (.seq (.ops [
 ⟨some 13, .move (.tmp 3), 27, none⟩,
 ⟨some 14, .call ⟨.builtin .len, #[(.tmp 13)], #[27]⟩, 3, none⟩,
 ⟨some 15, .move (.const (.int .i64 0)), 3, none⟩] [1, 4, 13, 14, 15])
 (.block 0 (.loop (sg c33L0)))) (sg c33S5)))
noncomputable def c33S7 (_ : Unit) : Cmd := (.seq (.ops [
 ⟨some 11, .move (.tmp 3), 27, none⟩,
 ⟨some 12, .call ⟨.value (.func 39), #[(.tmp 11), (.func 50)], #[27, 84]⟩, 0, none⟩] [1, 3]) (sg c33S6))
noncomputable def c33 : Cmd := (.seq (.ops [
 ⟨some 1, .box 69 (.tmp 0), 0, none⟩,
 ⟨some 2, .assign (.const (.slice none 0 0)), 66, none⟩] [1])
 (.seq (.ops [
 ⟨some 8, .fieldAddr 69 (.tmp 1) 2, 0, none⟩,
 ⟨some 9, .load 27 (.tmp 8), 27, none⟩,
 ⟨some 10, .call ⟨.value (.func 48), #[(.tmp 9)], #[27]⟩, 27, none⟩,
 ⟨some 3, .assign (.tmp 10), 27, none⟩] [1, 3]) (sg c33S7)))
noncomputable def c33D0 : List (Nat × Ins) := [
 (0, ⟨some 22, .move (.tmp 7), 3, none⟩),
 (0, ⟨some 23, .binOp .lss 3 (.tmp 22) (.const (.int .i64 0)) 3, 4, none⟩),
 (0, ⟨some 24, .move (.tmp 23), 4, none⟩),
 (0, ⟨some 25, .move (.tmp 4), 66, (some (24, false))⟩),
 (0, ⟨some 26, .move (.tmp 7), 3, (some (24, false))⟩),
 (0, ⟨some 27, .indexAddr 66 (.tmp 25) (.tmp 26), 0, (some (24, false))⟩),
 (0, ⟨some 28, .fieldAddr 69 (.tmp 27) 2, 0, (some (24, false))⟩),
 (1, ⟨some 29, .load 27 (.tmp 28), 27, (some (24, false))⟩),
 (2, ⟨some 30, .load 23 (.tmp 6), 23, (some (24, false))⟩),
 (3, ⟨some 31, .call ⟨.value (.func 52), #[(.tmp 29), (.tmp 30)], #[27, 23]⟩, 4, (some (24, false))⟩),
 (0, ⟨some 32, .pick (.tmp 24) (.const (.bool true)) (.tmp 31), 4, none⟩)]
theorem c33draw0 {L : List Nat} {ρ : Env} {w : World} {Q : Post} (S : World → Prop) (hS : S w.drew) (h : DG Try.prog S c33D0 L ρ w.drew Q) : drawW Try.prog (drawOps 0 c33code) L ρ w Q :=
  drawW_held [7] [(0, 0), (0, 1), (0, 2), (0, 3), (0, 4), (0, 5), (0, 6), (1, 7), (2, 8), (3, 9), (0, 10)] c33D0 (by kernel_rfl) (by kernel_rfl) (by kernel_rfl) S hS h
noncomputable def c33D1 : List (Nat × Ins) := [
 (0, ⟨some 43, .move (.tmp 4), 66, none⟩),
 (0, ⟨some 44, .move (.tmp 7), 3, none⟩),
 (0, ⟨some 45, .move (.tmp 4), 66, none⟩),
 (0, ⟨some 46, .move (.tmp 7), 3, none⟩),
 (0, ⟨some 47, .indexAddr 66 (.tmp 45) (.tmp 46), 0, none⟩),
 (0, ⟨some 48, .fieldAddr 69 (.tmp 47) 2, 0, none⟩),
 (1, ⟨some 49, .load 27 (.tmp 48), 27, none⟩),
 (2, ⟨some 50, .load 23 (.tmp 6), 23, none⟩),
 (2, ⟨some 51, .buildSlice 27 1 #[(0, (.tmp 50))], 27, none⟩),
 (3, ⟨some 52, .call ⟨.builtin .append, #[(.tmp 49), (.tmp 51)], #[27, 27]⟩, 27, none⟩),
 (0, ⟨some 53, .indexAddr 66 (.tmp 43) (.tmp 44), 0, none⟩),
 (0, ⟨some 54, .fieldAddr 69 (.tmp 53) 2, 0, none⟩),
 (3, ⟨none, .store 27 (.tmp 54) (.tmp 52), 0, none⟩)]
theorem c33draw1 {L : List Nat} {ρ : Env} {w : World} {Q : Post} (S : World → Prop) (hS : S w.drew) (h : DG Try.prog S c33D1 L ρ w.drew Q) : drawW Try.prog (drawOps 1 c33code) L ρ w Q :=
  drawW_held [6] [(0, 0), (0, 1), (0, 2), (0, 3), (0, 4), (0, 5), (1, 6), (2, 7), (2, 8), (3, 9), (0, 10), (0, 11), (3, 12)] c33D1 (by kernel_rfl) (by kernel_rfl) (by kernel_rfl) S hS h
set_option maxRecDepth 100000 in
theorem ent33 (a0 : Value) (w : World) (K : Value → World → Prop) (h : W Try.prog c33 [(0, a0)] w (finQ Try.prog [.tmp 2] K)) : Ret Try.prog 33 [a0] w K :=
  Ret_of_W (code := c33code) Try.func33 (by kernel_rfl) (by kernel_rfl) (of_decide_eq_true (by kernel_rfl)) h
@[go_sem] theorem go33 : goFunc Try.prog 33 = true := by kernel_rfl
noncomputable def c34code : Code := match Try.f34.body with | some c => c | none => .skip
noncomputable def c34S0 (_ : Unit) : Cmd := (.cond (.tmp 22)
  (.seq (.ops [
  ⟨some 2, .assign (.const (.int .i64 30)), 3, none⟩] [2])
  .ret)
  (.skip [1]))
noncomputable def c34S1 (_ : Unit) : Cmd := (.cond (.tmp 50)
  (.seq (.ops [
  ⟨some 2, .assign (.const (.int .i64 33)), 3, none⟩] [2])
  .ret)
  (.skip [1, 3]))
noncomputable def c34S2 (_ : Unit) : Cmd := (.cond (.tmp 70)
  (.seq (.ops [
  ⟨some 2, .assign (.const (.int .i64 33)), 3, none⟩] [2])
  .ret)
  (.skip [1]))
noncomputable def c34S3 (_ : Unit) : Cmd := (.cond (.tmp 84)
  (.seq (.ops [
  ⟨some 2, .assign (.const (.int .i64 31)), 3, none⟩] [2])
  .ret)
  (.skip [1]))
noncomputable def c34S4 (_ : Unit) : Cmd := (.seq (.ops [
 ⟨some 2, .assign (.const (.int .i64 0)), 3, none⟩] [2])
 .ret)
noncomputable def c34S5 (_ : Unit) : Cmd := (.seq (.seq (.ops [
 ⟨some 85, .fieldAddr 23 (.tmp 1) 7, 0, none⟩,
 ⟨some 86, .load 4 (.tmp 85), 4, none⟩,
 ⟨some 87, .move (.tmp 86), 4, none⟩,
 ⟨some 88, .fieldAddr 23 (.tmp 1) 10, 0, (some (87, true))⟩,
 ⟨some 89, .load 3 (.tmp 88), 3, (some (87, true))⟩,
 ⟨some 90, .fieldAddr 23 (.tmp 1) 9, 0, (some (87, true))⟩,
 ⟨some 91, .load 3 (.tmp 90), 3, (some (87, true))⟩,
 ⟨some 92, .binOp .leq 3 (.tmp 89) (.tmp 91) 3, 4, (some (87, true))⟩,
 ⟨some 93, .move (.tmp 92), 4, (some (87, true))⟩,
 ⟨some 94, .fieldAddr 23 (.tmp 1) 10, 0, (some (93, false))⟩,
 ⟨some 95, .load 3 (.tmp 94), 3, (some (93, false))⟩,
 ⟨some 96, .binOp .gtr 3 (.tmp 95) (.const (.int .i64 1099511627776)) 3, 4, (some (93, false))⟩,
 ⟨some 97, .pick (.tmp 93) (.const (.bool true)) (.tmp 96), 4, (some (87, true))⟩,
 ⟨some 98, .pick (.tmp 87) (.tmp 97) (.const (.bool false)), 4, none⟩] [98])
 (.cond (.tmp 98)
  (.seq (.ops [
  ⟨some 2, .assign (.const (.int .i64 31)), 3, none⟩] [2])
  .ret)
  (.skip []))) (sg c34S4))
noncomputable def c34S6 (_ : Unit) : Cmd := (.seq (.seq (.ops [
 ⟨some 71, .fieldAddr 23 (.tmp 1) 9, 0, none⟩,
 ⟨some 72, .load 3 (.tmp 71), 3, none⟩,
 ⟨some 73, .call ⟨.value (.func 53), #[(.tmp 72), (.const (.int .i64 0)), (.const (.int .i64 1099511627776))], #[3, 3, 3]⟩, 4, none⟩,
 ⟨some 74, .unOp .not 4 (.tmp 73), 4, none⟩,
 ⟨some 75, .move (.tmp 74), 4, none⟩,
 ⟨some 76, .fieldAddr 23 (.tmp 1) 7, 0, (some (75, false))⟩,
 ⟨some 77, .load 4 (.tmp 76), 4, (some (75, false))⟩,
 ⟨some 78, .unOp .not 4 (.tmp 77), 4, (some (75, false))⟩,
 ⟨some 79, .move (.tmp 78), 4, (some (75, false))⟩,
 ⟨some 80, .fieldAddr 23 (.tmp 1) 10, 0, (some (79, true))⟩,
 ⟨some 81, .load 3 (.tmp 80), 3, (some (79, true))⟩,
 ⟨some 82, .binOp .neq 3 (.tmp 81) (.const (.int .i64 0)) 3, 4, (some (79, true))⟩,
 ⟨some 83, .pick (.tmp 79) (.tmp 82) (.const (.bool false)), 4, (some (75, false))⟩,
 ⟨some 84, .pick (.tmp 75) (.const (.bool true)) (.tmp 83), 4, none⟩] [1, 84]) (sg c34S3)) (sg c34S5))
noncomputable def c34S7 (_ : Unit) : Cmd := (.seq (.seq (.ops [
 ⟨some 51, .fieldAddr 23 (.tmp 1) 7, 0, none⟩,
 ⟨some 52, .load 4 (.tmp 51), 4, none⟩,
 ⟨some 53, .move (.tmp 52), 4, none⟩,
 ⟨some 54, .fieldAddr 23 (.tmp 1) 8, 0, (some (53, true))⟩,
 ⟨some 55, .load 3 (.tmp 54), 3, (some (53, true))⟩,
 ⟨some 56, .fieldAddr 91 (.tmp 3) 3, 0, (some (53, true))⟩,
 ⟨some 57, .load 3 (.tmp 56), 3, (some (53, true))⟩,
 ⟨some 58, .call ⟨.value (.func 55), #[(.tmp 55), (.tmp 57)], #[3, 3]⟩, 4, (some (53, true))⟩,
 ⟨some 59, .unOp .not 4 (.tmp 58), 4, (some (53, true))⟩,
 ⟨some 60, .pick (.tmp 53) (.tmp 59) (.const (.bool false)), 4, none⟩,
 ⟨some 61, .move (.tmp 60), 4, none⟩,
 ⟨some 62, .fieldAddr 23 (.tmp 1) 7, 0, (some (61, false))⟩,
 ⟨some 63, .load 4 (.tmp 62), 4, (some (61, false))⟩,
 ⟨some 64, .unOp .not 4 (.tmp 63), 4, (some (61, false))⟩,
 ⟨some 65, .move (.tmp 64), 4, (some (61, false))⟩,
 ⟨some 66, .fieldAddr 23 (.tmp 1) 8, 0, (some (65, true))⟩,
 ⟨some 67, .load 3 (.tmp 66), 3, (some (65, true))⟩,
 ⟨some 68, .binOp .neq 3 (.tmp 67) (.const (.int .i64 0)) 3, 4, (some (65, true))⟩,
 ⟨some 69, .pick (.tmp 65) (.tmp 68) (.const (.bool false)), 4, (some (61, false))⟩,
 ⟨some 70, .pick (.tmp 61) (.const (.bool true)) (.tmp 69), 4, none⟩] [1, 70]) (sg c34S2)) (sg c34S6))
noncomputable def c34S8 (_ : Unit) : Cmd := (.seq (.seq (.ops [
 ⟨some 39, .fieldAddr 23 (.tmp 1) 5, 0, none⟩,
 ⟨some 40, .load 3 (.tmp 39), 3, none⟩,
 ⟨some 41, .move (.tmp 5), 3, none⟩,
 ⟨some 42, .call ⟨.value (.func 53), #[(.tmp 40), (.const (.int .i64 0)), (.tmp 41)], #[3, 3, 3]⟩, 4, none⟩,
 ⟨some 43, .unOp .not 4 (.tmp 42), 4, none⟩,
 ⟨some 44, .move (.tmp 43), 4, none⟩,
 ⟨some 45, .fieldAddr 23 (.tmp 1) 6, 0, (some (44, false))⟩,
 ⟨some 46, .load 3 (.tmp 45), 3, (some (44, false))⟩,
 ⟨some 47, .move (.tmp 6), 3, (some (44, false))⟩,
 ⟨some 48, .call ⟨.value (.func 53), #[(.tmp 46), (.const (.int .i64 0)), (.tmp 47)], #[3, 3, 3]⟩, 4, (some (44, false))⟩,
 ⟨some 49, .unOp .not 4 (.tmp 48), 4, (some (44, false))⟩,
 ⟨some 50, .pick (.tmp 44) (.const (.bool true)) (.tmp 49), 4, none⟩] [1, 3, 50]) (sg c34S1)) (sg c34S7))
noncomputable def c34S9 (_ : Unit) : Cmd := (.seq (.seq (.ops [
 ⟨some 36, .fieldAddr 91 (.tmp 3) 2, 0, none⟩,
 ⟨some 37, .load 3 (.tmp 36), 3, none⟩,
 ⟨some 38, .binOp .geq 3 (.tmp 37) (.const (.int .i64 2)) 3, 4, none⟩] [1, 3, 5, 6, 38])
 (.cond (.tmp 38)
  (.ops [
  ⟨some 6, .assign (.const (.int .i64 1073741824)), 3, none⟩] [1, 3, 5, 6])
  (.skip [1, 3, 5, 6]))) (sg c34S8))
noncomputable def c34S10 (_ : Unit) : Cmd := (.seq (.ops [
 ⟨some 5, .assign (.const (.int .i64 0)), 3, none⟩,
 ⟨some 6, .assign (.const (.int .i64 0)), 3, none⟩] [1, 3, 5, 6])
 (.seq (.seq (.ops [
 ⟨some 33, .fieldAddr 91 (.tmp 3) 2, 0, none⟩,
 ⟨some 34, .load 3 (.tmp 33), 3, none⟩,
 ⟨some 35, .binOp .geq 3 (.tmp 34) (.const (.int .i64 1)) 3, 4, none⟩] [1, 3, 5, 6, 35])
 (.cond (.tmp 35)
  (.ops [
  ⟨some 5, .assign (.const (.int .i64 1073741824)), 3, none⟩] [1, 3, 5, 6])
  (.skip [1, 3, 5, 6]))) (sg c34S9)))
noncomputable def c34S11 (_ : Unit) : Cmd := (.seq (.seq (.ops [
 ⟨some 31, .move (.tmp 4), 4, none⟩,
 ⟨some 32, .unOp .not 4 (.tmp 31), 4, none⟩] [1, 3, 32])
 (.cond (.tmp 32)
  (.seq (.ops [
  ⟨some 2, .assign (.const (.int .i64 33)), 3, none⟩] [2])
  .ret)
  (.skip [1, 3]))) (sg c34S10))
noncomputable def c34S12 (_ : Unit) : Cmd := (.seq (.ops [
 ⟨some 24, .fieldAddr 23 (.tmp 1) 3, 0, none⟩,
 ⟨some 25, .load 3 (.tmp 24), 3, none⟩,
 ⟨some 26, .fieldAddr 23 (.tmp 1) 4, 0, none⟩,
 ⟨some 27, .load 3 (.tmp 26), 3, none⟩,
 ⟨some 28, .call ⟨.value (.func 54), #[(.tmp 25), (.tmp 27)], #[3, 3]⟩, 92, none⟩,
 ⟨some 23, .move (.tmp 28), 92, none⟩,
 ⟨some 29, .extract (.tmp 23) 0, 91, none⟩,
 ⟨some 30, .extract (.tmp 23) 1, 4, none⟩,
 ⟨some 3, .alloc 91, 0, none⟩,
 ⟨none, .store 91 (.tmp 3) (.tmp 29), 0, none⟩,
 ⟨some 4, .assign (.tmp 30), 4, none⟩] [1, 3, 4]) (sg c34S11))
noncomputable def c34 : Cmd := (.seq (.ops [
 ⟨some 1, .box 23 (.tmp 0), 0, none⟩,
 ⟨some 2, .assign (.const (.int .i64 0)), 3, none⟩] [1])
 (.seq (.seq (.ops [
 ⟨some 7, .fieldAddr 23 (.tmp 1) 0, 0, none⟩,
 ⟨some 8, .load 3 (.tmp 7), 3, none⟩,
 ⟨some 9, .call ⟨.value (.func 53), #[(.tmp 8), (.const (.int .i64 1)), (.const (.int .i64 1073741824))], #[3, 3, 3]⟩, 4, none⟩,
 ⟨some 10, .unOp .not 4 (.tmp 9), 4, none⟩,
 ⟨some 11, .move (.tmp 10), 4, none⟩,
 ⟨some 12, .fieldAddr 23 (.tmp 1) 1, 0, (some (11, false))⟩,
 ⟨some 13, .load 3 (.tmp 12), 3, (some (11, false))⟩,
 ⟨some 14, .call ⟨.value (.func 53), #[(.tmp 13), (.const (.int .i64 0)), (.const (.int .i64 1023))], #[3, 3, 3]⟩, 4, (some (11, false))⟩,
 ⟨some 15, .unOp .not 4 (.tmp 14), 4, (some (11, false))⟩,
 ⟨some 16, .pick (.tmp 11) (.const (.bool true)) (.tmp 15), 4, none⟩,
 ⟨some 17, .move (.tmp 16), 4, none⟩,
 ⟨some 18, .fieldAddr 23 (.tmp 1) 2, 0, (some (17, false))⟩,
 ⟨some 19, .load 3 (.tmp 18), 3, (some (17, false))⟩,
 ⟨some 20, .call ⟨.value (.func 53), #[(.tmp 19), (.const (.int .i64 0)), (.const (.int .i64 1023))], #[3, 3, 3]⟩, 4, (some (17, false))⟩,
 ⟨some 21, .unOp .not 4 (.tmp 20), 4, (some (17, false))⟩,
 ⟨some 22, .pick (.tmp 17) (.const (.bool true)) (.tmp 21), 4, none⟩] [1, 22]) (sg c34S0)) (sg c34S12)))
set_option maxRecDepth 100000 in
theorem ent34 (a0 : Value) (w : World) (K : Value → World → Prop) (h : W Try.prog c34 [(0, a0)] w (finQ Try.prog [.tmp 2] K)) : Ret Try.prog 34 [a0] w K :=
  Ret_of_W (code := c34code) Try.func34 (by kernel_rfl) (by kernel_rfl) (of_decide_eq_true (by kernel_rfl)) h
@[go_sem] theorem go34 : goFunc Try.prog 34 = true := by kernel_rfl
noncomputable def c35code : Code := match Try.f35.body with | some c => c | none => .skip
noncomputable def c35S0 (_ : Unit) : Cmd := (.cond (.tmp 40)
  (.seq (.ops [
  ⟨some 4, .assign (.const (.int .i64 33)), 3, none⟩] [4])
  .ret)
  (.skip [0, 3, 5]))
noncomputable def c35S1 (_ : Unit) : Cmd := (.ops [
 ⟨some 11, .move (.tmp 5), 3, none⟩,
 ⟨some 12, .binOp .add 3 (.tmp 11) (.const (.int .i64 1)) 3, 3, none⟩,
 ⟨some 5, .assign (.tmp 12), 3, none⟩] [0, 3, 5])
noncomputable def c35S2 (_ : Unit) : Cmd := (.seq (.block 1 (.seq (.draw (drawOps 0 c35code) [0, 3, 5, 40]) (sg c35S0))) (sg c35S1))
noncomputable def c35L0 (_ : Unit) : Cmd := (.seq (.seq (.ops [
 ⟨some 7, .move (.tmp 5), 3, none⟩,
 ⟨some 8, .move (.tmp 0), 27, none⟩,
 ⟨some 9, .call ⟨.builtin .len, #[(.tmp 8)], #[27]⟩, 3, none⟩,
 ⟨some 10, .binOp .lss 3 (.tmp 7) (.tmp 9) 3, 4, none⟩] [0, 3, 5, 10])
 (.cond (.tmp 10)
  (.skip [0, 3, 5])
  (.exit 0 [0, 3]))) (sg c35S2))
noncomputable def c35S3 (_ : Unit) : Cmd := (.cond (.tmp 82)
  (.seq (.ops [
  ⟨some 4, .assign (.const (.int .i64 32)), 3, none⟩] [4])
  .ret)
  (.skip [0, 3, 6]))
noncomputable def c35S4 (_ : Unit) : Cmd := (.ops [
 ⟨some 45, .move (.tmp 6), 3, none⟩,
 ⟨some 46, .binOp .add 3 (.tmp 45) (.const (.int .i64 1)) 3, 3, none⟩,
 ⟨some 6, .assign (.tmp 46), 3, none⟩] [0, 3, 6])
noncomputable def c35S5 (_ : Unit) : Cmd := (.seq (.block 3 (.seq (.draw (drawOps 1 c35code) [0, 3, 6, 82]) (sg c35S3))) (sg c35S4))
noncomputable def c35L1 (_ : Unit) : Cmd := (.seq (.seq (.ops [
 ⟨some 41, .move (.tmp 6), 3, none⟩,
 ⟨some 42, .move (.tmp 0), 27, none⟩,
 ⟨some 43, .call ⟨.builtin .len, #[(.tmp 42)], #[27]⟩, 3, none⟩,
 ⟨some 44, .binOp .lss 3 (.tmp 41) (.tmp 43) 3, 4, none⟩] [0, 3, 6, 44])
 (.cond (.tmp 44)
  (.skip [0, 3, 6])
  (.exit 2 []))) (sg c35S5))
noncomputable def c35S6 (_ : Unit) : Cmd := (.seq (.ops [
 ⟨some 4, .assign (.const (.int .i64 0)), 3, none⟩] [4])
 .ret)
noncomputable def c35S7 (_ : Unit) : Cmd := (.seq (.seq (.ops [
 ⟨some 6, .assign (.const (.int .i64 0)), 3, none⟩] [0, 3, 6])
 (.block 2 (.loop (sg c35L1)))) (sg c35S6))
noncomputable def c35 : Cmd := (.seq (.ops [
 ⟨some 3, .box 23 (.tmp 1), 0, none⟩,
 ⟨some 4, .assign (.const (.int .i64 0)), 3, none⟩] [0, 3])
 (.seq (.seq (.ops [
 ⟨some 5, .assign (.const (.int .i64 0)), 3, none⟩] [0, 3, 5])
 (.block 0 (.loop (sg c35L0)))) (sg c35S7)))
noncomputable def c35D0 : List (Bool × Ins) := [
 (true, ⟨some 13, .move (.tmp 0), 27, none⟩),
 (true, ⟨some 14, .move (.tmp 5), 3, none⟩),
 (true, ⟨some 15, .indexAddr 27 (.tmp 13) (.tmp 14), 0, none⟩),
 (true, ⟨some 16, .fieldAddr 23 (.tmp 15) 0, 0, none⟩),
 (false, ⟨some 17, .load 3 (.tmp 16), 3, none⟩),
 (true, ⟨some 18, .fieldAddr 23 (.tmp 3) 0, 0, none⟩),
 (false, ⟨some 19, .load 3 (.tmp 18), 3, none⟩),
 (true, ⟨some 20, .binOp .neq 3 (.tmp 17) (.tmp 19) 3, 4, none⟩),
 (true, ⟨some 21, .move (.tmp 20), 4, none⟩),
 (true, ⟨some 22, .move (.tmp 0), 27, (some (21, true))⟩),
 (true, ⟨some 23, .move (.tmp 5), 3, (some (21, true))⟩),
 (true, ⟨some 24, .indexAddr 27 (.tmp 22) (.tmp 23), 0, (some (21, true))⟩),
 (true, ⟨some 25, .fieldAddr 23 (.tmp 24) 2, 0, (some (21, true))⟩),
 (false, ⟨some 26, .load 3 (.tmp 25), 3, (some (21, true))⟩),
 (true, ⟨some 27, .fieldAddr 23 (.tmp 3) 2, 0, (some (21, true))⟩),
 (false, ⟨some 28, .load 3 (.tmp 27), 3, (some (21, true))⟩),
 (true, ⟨some 29, .binOp .eql 3 (.tmp 26) (.tmp 28) 3, 4, (some (21, true))⟩),
 (true, ⟨some 30, .pick (.tmp 21) (.tmp 29) (.const (.bool false)), 4, none⟩),
 (true, ⟨some 31, .move (.tmp 30), 4, none⟩),
 (true, ⟨some 32, .move (.tmp 0), 27, (some (31, true))⟩),
 (true, ⟨some 33, .move (.tmp 5), 3, (some (31, true))⟩),
 (true, ⟨some 34, .indexAddr 27 (.tmp 32) (.tmp 33), 0, (some (31, true))⟩),
 (true, ⟨some 35, .fieldAddr 23 (.tmp 34) 3, 0, (some (31, true))⟩),
 (false, ⟨some 36, .load 3 (.tmp 35), 3, (some (31, true))⟩),
 (true, ⟨some 37, .fieldAddr 23 (.tmp 3) 3, 0, (some (31, true))⟩),
 (false, ⟨some 38, .load 3 (.tmp 37), 3, (some (31, true))⟩),
 (true, ⟨some 39, .binOp .neq 3 (.tmp 36) (.tmp 38) 3, 4, (some (31, true))⟩),
 (true, ⟨some 40, .pick (.tmp 31) (.tmp 39) (.const (.bool false)), 4, none⟩)]
theorem c35draw0 {L : List Nat} {ρ : Env} {w : World} {Q : Post} (h : DL Try.prog c35D0 L ρ w.drew Q) : drawW Try.prog (drawOps 0 c35code) L ρ w Q :=
  drawW_still [true, true, true, true, false, true, false, true, true, true, true, true, true, false, true, false, true, true, true, true, true, true, true, false, true, false, true, true] c35D0 (by kernel_rfl) (by kernel_rfl) (by kernel_rfl) h
noncomputable def c35D1 : List (Nat × Ins) := [
 (0, ⟨some 47, .move (.tmp 0), 27, none⟩),
 (0, ⟨some 48, .move (.tmp 6), 3, none⟩),
 (0, ⟨some 49, .indexAddr 27 (.tmp 47) (.tmp 48), 0, none⟩),
 (0, ⟨some 50, .fieldAddr 23 (.tmp 49) 0, 0, none⟩),
 (0, ⟨some 52, .fieldAddr 23 (.tmp 3) 0, 0, none⟩),
 (1, ⟨some 51, .load 3 (.tmp 50), 3, none⟩),
 (2, ⟨some 53, .load 3 (.tmp 52), 3, none⟩),
 (0, ⟨some 54, .binOp .neq 3 (.tmp 51) (.tmp 53) 3, 4, none⟩),
 (0, ⟨some 55, .move (.tmp 54), 4, none⟩),
 (0, ⟨some 56, .move (.tmp 0), 27, (some (55, true))⟩),
 (0, ⟨some 57, .move (.tmp 6), 3, (some (55, true))⟩),
 (0, ⟨some 58, .indexAddr 27 (.tmp 56) (.tmp 57), 0, (some (55, true))⟩),
 (0, ⟨some 59, .fieldAddr 23 (.tmp 58) 1, 0, (some (55, true))⟩),
 (0, ⟨some 61, .fieldAddr 23 (.tmp 3) 1, 0, (some (55, true))⟩),
 (1, ⟨some 60, .load 3 (.tmp 59), 3, (some (55, true))⟩),
 (2, ⟨some 62, .load 3 (.tmp 61), 3, (some (55, true))⟩),
 (0, ⟨some 63, .binOp .eql 3 (.tmp 60) (.tmp 62) 3, 4, (some (55, true))⟩),
 (0, ⟨some 64, .pick (.tmp 55) (.tmp 63) (.const (.bool false)), 4, none⟩),
 (0, ⟨some 65, .move (.tmp 64), 4, none⟩),
 (0, ⟨some 66, .move (.tmp 0), 27, (some (65, true))⟩),
 (0, ⟨some 67, .move (.tmp 6), 3, (some (65, true))⟩),
 (0, ⟨some 68, .indexAddr 27 (.tmp 66) (.tmp 67), 0, (some (65, true))⟩),
 (1, ⟨some 69, .load 23 (.tmp 68), 23, (some (65, true))⟩),
 (2, ⟨some 70, .load 23 (.tmp 3), 23, (some (65, true))⟩),
 (2, ⟨some 71, .call ⟨.value (.func 56), #[(.tmp 69), (.tmp 70)], #[23, 23]⟩, 4, (some (65, true))⟩),
 (0, ⟨some 72, .unOp .not 4 (.tmp 71), 4, (some (65, true))⟩),
 (0, ⟨some 73, .pick (.tmp 65) (.tmp 72) (.const (.bool false)), 4, none⟩),
 (0, ⟨some 74, .move (.tmp 73), 4, none⟩),
 (0, ⟨some 76, .move (.tmp 0), 27, (some (74, true))⟩),
 (0, ⟨some 77, .move (.tmp 6), 3, (some (74, true))⟩),
 (0, ⟨some 78, .indexAddr 27 (.tmp 76) (.tmp 77), 0, (some (74, true))⟩),
 (1, ⟨some 75, .load 23 (.tmp 3), 23, (some (74, true))⟩),
 (2, ⟨some 79, .load 23 (.tmp 78), 23, (some (74, true))⟩),
 (2, ⟨some 80, .call ⟨.value (.func 56), #[(.tmp 75), (.tmp 79)], #[23, 23]⟩, 4, (some (74, true))⟩),
 (0, ⟨some 81, .unOp .not 4 (.tmp 80), 4, (some (74, true))⟩),
 (0, ⟨some 82, .pick (.tmp 74) (.tmp 81) (.const (.bool false)), 4, none⟩)]
theorem c35draw1 {L : List Nat} {ρ : Env} {w : World} {Q : Post} (S : World → Prop) (hS : S w.drew) (h : DG Try.prog S c35D1 L ρ w.drew Q) : drawW Try.prog (drawOps 1 c35code) L ρ w Q :=
  drawW_held [4, 13, 22, 28] [(0, 0), (0, 1), (0, 2), (0, 3), (0, 5), (1, 4), (2, 6), (0, 7), (0, 8), (0, 9), (0, 10), (0, 11), (0, 12), (0, 14), (1, 13), (2, 15), (0, 16), (0, 17), (0, 18), (0, 19), (0, 20), (0, 21), (1, 22), (2, 23), (2, 24), (0, 25), (0, 26), (0, 27), (0, 29), (0, 30), (0, 31), (1, 28), (2, 32), (2, 33), (0, 34), (0, 35)] c35D1 (by kernel_rfl) (by kernel_rfl) (by kernel_rfl) S hS h
set_option maxRecDepth 100000 in
theorem ent35 (a0 a1 : Value) (w : World) (K : Value → World → Prop) (h : W Try.prog c35 [(0, a0), (1, a1)] w (finQ Try.prog [.tmp 4] K)) : Ret Try.prog 35 [a0, a1] w K :=
  Ret_of_W (code := c35code) Try.func35 (by kernel_rfl) (by kernel_rfl) (of_decide_eq_true (by kernel_rfl)) h
@[go_sem] theorem go35 : goFunc Try.prog 35 = true := by kernel_rfl
noncomputable def c36code : Code := match Try.f36.body with | some c => c | none => .skip
noncomputable def c36S0 (_ : Unit) : Cmd := (.ops [
 ⟨some 30, .move (.tmp 5), 3, none⟩,
 ⟨some 31, .fieldAddr 23 (.tmp 7) 10, 0, none⟩,
 ⟨some 32, .load 3 (.tmp 31), 3, none⟩,
 ⟨some 33, .call ⟨.builtin .max, #[(.tmp 30), (.tmp 32)], #[3, 3]⟩, 3, none⟩,
 ⟨some 5, .assign (.tmp 33), 3, none⟩] [4, 5, 15, 16, 17])
noncomputable def c36S1 (_ : Unit) : Cmd := (.seq (.seq (.ops [
 ⟨some 25, .fieldAddr 23 (.tmp 7) 7, 0, none⟩,
 ⟨some 26, .load 4 (.tmp 25), 4, none⟩,
 ⟨some 27, .unOp .not 4 (.tmp 26), 4, none⟩] [4, 5, 7, 15, 16, 17, 27])
 (.cond (.tmp 27)
  (.ops [
  ⟨some 28, .move (.tmp 5), 3, none⟩,
  ⟨some 29, .call ⟨.builtin .max, #[(.tmp 28), (.const (.int .i64 1099511627777))], #[3, 3]⟩, 3, none⟩,
  ⟨some 5, .assign (.tmp 29), 3, none⟩] [4, 5, 7, 15, 16, 17])
  (.skip [4, 5, 7, 15, 16, 17]))) (sg c36S0))
noncomputable def c36S2 (_ : Unit) : Cmd := (.ops [
 ⟨some 34, .binOp .add 3 (.tmp 17) (.const (.int .i64 1)) 3, 3, none⟩,
 ⟨some 17, .move (.tmp 34), 3, none⟩] [4, 5, 15, 16, 17])
noncomputable def c36S3 (_ : Unit) : Cmd := (.seq (.block 1 (.seq (.ops [
 ⟨some 19, .indexAddr 27 (.tmp 15) (.tmp 17), 0, none⟩,
 ⟨some 20, .load 23 (.tmp 19), 23, none⟩,
 ⟨some 7, .alloc 23, 0, none⟩,
 ⟨none, .store 23 (.tmp 7) (.tmp 20), 0, none⟩] [4, 5, 7, 15, 16, 17])
 (.seq (.ops [
 ⟨some 21, .move (.tmp 4), 3, none⟩,
 ⟨some 22, .fieldAddr 23 (.tmp 7) 9, 0, none⟩,
 ⟨some 23, .load 3 (.tmp 22), 3, none⟩,
 ⟨some 24, .call ⟨.builtin .min, #[(.tmp 21), (.tmp 23)], #[3, 3]⟩, 3, none⟩,
 ⟨some 4, .assign (.tmp 24), 3, none⟩] [4, 5, 7, 15, 16, 17]) (sg c36S1)))) (sg c36S2))
noncomputable def c36L0 (_ : Unit) : Cmd := (.seq (.ops [
 ⟨some 18, .binOp .lss 3 (.tmp 17) (.tmp 16) 3, 0, none⟩] [4, 5, 15, 16, 17, 18])
 (.seq (.cond (.tmp 18)
  (.skip [4, 5, 15, 16, 17])
  (.exit 0 [4, 5])) (sg c36S3)))
noncomputable def c36S4 (_ : Unit) : Cmd := (.seq (.ops [
 ⟨some 35, .move (.tmp 4), 3, none⟩,
 ⟨some 36, .move (.tmp 5), 3, none⟩,
 ⟨some 2, .assign (.tmp 35), 3, none⟩,
 ⟨some 3, .assign (.tmp 36), 3, none⟩] [2, 3])
 .ret)
noncomputable def c36S5 (_ : Unit) : Cmd := (.seq (.ops [
 ⟨some 11, .move (.tmp 0), 27, none⟩,
 ⟨some 12, .indexAddr 27 (.tmp 11) (.const (.int .i64 0)), 0, none⟩,
 ⟨some 13, .fieldAddr 23 (.tmp 12) 9, 0, none⟩,
 ⟨some 14, .load 3 (.tmp 13), 3, none⟩,
 ⟨some 4, .assign (.tmp 14), 3, none⟩,
 ⟨some 5, .assign (.const (.int .i64 0)), 3, none⟩] [0, 4, 5])
 (.seq (.seq (.ops [
 ⟨some 15, .move (.tmp 0), 27, none⟩,
 ⟨some 16, .call ⟨.builtin .len, #[(.tmp 15)], #[27]⟩, 3, none⟩,
 ⟨some 17, .move (.const (.int .i64 0)), 3, none⟩] [4, 5, 15, 16, 17])
 (.block 0 (.loop (sg c36L0)))) (sg c36S4)))
noncomputable def c36 : Cmd := (.seq (.ops [
 ⟨some 2, .assign (.const (.int .i64 0)), 3, none⟩,
 ⟨some 3, .assign (.const (.int .i64 0)), 3, none⟩] [0])
 (.seq (.seq (.ops [
 ⟨some 8, .move (.tmp 0), 27, none⟩,
 ⟨some 9, .call ⟨.builtin .len, #[(.tmp 8)], #[27]⟩, 3, none⟩,
 ⟨some 10, .binOp .eql 3 (.tmp 9) (.const (.int .i64 0)) 3, 4, none⟩] [0, 10])
 (.cond (.tmp 10)
  (.seq (.ops [
  ⟨some 2, .assign (.const (.int .i64 0)), 3, none⟩,
  ⟨some 3, .assign (.const (.int .i64 0)), 3, none⟩] [2, 3])
  .ret)
  (.skip [0]))) (sg c36S5)))
set_option maxRecDepth 100000 in
theorem ent36 (a0 : Value) (w : World) (K : Value → World → Prop) (h : W Try.prog c36 [(0, a0)] w (finQ Try.prog [.tmp 2, .tmp 3] K)) : Ret Try.prog 36 [a0] w K :=
  Ret_of_W (code := c36code) Try.func36 (by kernel_rfl) (by kernel_rfl) (of_decide_eq_true (by kernel_rfl)) h
@[go_sem] theorem go36 : goFunc Try.prog 36 = true := by kernel_rfl
noncomputable def c37code : Code := match Try.f37.body with | some c => c | none => .skip
noncomputable def c37S0 (_ : Unit) : Cmd := (.seq (.ops [
 ⟨some 8, .move (.tmp 3), 76, none⟩,
 ⟨some 2, .assign (.tmp 8), 76, none⟩] [2])
 .ret)
noncomputable def c37S1 (_ : Unit) : Cmd := (.seq (.ops [
 ⟨some 6, .move (.tmp 3), 76, none⟩,
 ⟨some 7, .call ⟨.value (.func 58), #[(.tmp 6)], #[76]⟩, 0, none⟩] [3]) (sg c37S0))
noncomputable def c37 : Cmd := (.seq (.ops [
 ⟨some 2, .assign (.const (.slice none 0 0)), 76, none⟩] [0])
 (.seq (.ops [
 ⟨some 4, .move (.tmp 0), 79, none⟩,
 ⟨some 5, .call ⟨.value (.func 57), #[(.tmp 4)], #[79]⟩, 76, none⟩,
 ⟨some 3, .assign (.tmp 5), 76, none⟩] [3]) (sg c37S1)))
set_option maxRecDepth 100000 in
theorem ent37 (a0 : Value) (w : World) (K : Value → World → Prop) (h : W Try.prog c37 [(0, a0)] w (finQ Try.prog [.tmp 2] K)) : Ret Try.prog 37 [a0] w K :=
  Ret_of_W (code := c37code) Try.func37 (by kernel_rfl) (by kernel_rfl) (of_decide_eq_true (by kernel_rfl)) h
@[go_sem] theorem go37 : goFunc Try.prog 37 = true := by kernel_rfl
noncomputable def c38code : Code := match Try.f38.body with | some c => c | none => .skip
noncomputable def c38 : Cmd := (.seq (.ops [
 ⟨some 1, .box 75 (.tmp 0), 0, none⟩,
 ⟨some 2, .assign (.const .nilFunc), 79, none⟩] [1])
 (.seq (.ops [
 ⟨some 3, .makeFunc (.func 59) #[] #[(.tmp 1)], 78, none⟩,
 ⟨some 2, .assign (.tmp 3), 79, none⟩] [2])
 .ret))
set_option maxRecDepth 100000 in
theorem ent38 (a0 : Value) (w : World) (K : Value → World → Prop) (h : W Try.prog c38 [(0, a0)] w (finQ Try.prog [.tmp 2] K)) : Ret Try.prog 38 [a0] w K :=
  Ret_of_W (code := c38code) Try.func38 (by kernel_rfl) (by kernel_rfl) (of_decide_eq_true (by kernel_rfl)) h
@[go_sem] theorem go38 : goFunc Try.prog 38 = true := by kernel_rfl
noncomputable def c39code : Code := match Try.f39.body with | some c => c | none => .skip
noncomputable def c39 : Cmd := (.seq (.ops [
 ⟨some 5, .move (.tmp 0), 27, none⟩,
 ⟨some 6, .call ⟨.builtin .len, #[(.tmp 5)], #[27]⟩, 3, none⟩,
 ⟨some 4, .assign (.tmp 6), 3, none⟩] [0, 1, 4])
 (.ops [
 ⟨some 7, .move (.tmp 0), 27, none⟩,
 ⟨some 8, .move (.tmp 4), 3, none⟩,
 ⟨some 9, .move (.tmp 4), 3, none⟩,
 ⟨some 10, .convert 3 100 (.tmp 9), 100, none⟩,
 ⟨some 11, .call ⟨.value (.func 61), #[(.tmp 10)], #[100]⟩, 3, none⟩,
 ⟨some 12, .move (.tmp 1), 84, none⟩,
 ⟨some 13, .call ⟨.value (.func 60), #[(.tmp 7), (.const (.int .i64 0)), (.tmp 8), (.tmp 11), (.tmp 12)], #[27, 3, 3, 3, 84]⟩, 0, none⟩] []))
set_option maxRecDepth 100000 in
theorem ent39 (a0 a1 : Value) (w : World) (K : Value → World → Prop) (h : W Try.prog c39 [(0, a0), (1, a1)] w (finQ Try.prog [] K)) : Ret Try.prog 39 [a0, a1] w K :=
  Ret_of_W (code := c39code) Try.func39 (by kernel_rfl) (by kernel_rfl) (of_decide_eq_true (by kernel_rfl)) h
@[go_sem] theorem go39 : goFunc Try.prog 39 = true := by kernel_rfl
noncomputable def c40code : Code := match Try.f40.body with | some c => c | none => .skip
noncomputable def c40S0 (_ : Unit) : Cmd := .ret
noncomputable def c40 : Cmd := (.seq (.ops [
 ⟨some 2, .box 23 (.tmp 0), 0, none⟩,
 ⟨some 3, .box 23 (.tmp 1), 0, none⟩,
 ⟨some 4, .assign (.const (.int .i64 0)), 3, none⟩] [2, 3])
 (.seq (.draw (drawOps 0 c40code) [4]) (sg c40S0)))
noncomputable def c40D0 : List (Nat × Ins) := [
 (0, ⟨some 5, .fieldAddr 23 (.tmp 2) 9, 0, none⟩),
 (0, ⟨some 7, .fieldAddr 23 (.tmp 3) 9, 0, none⟩),
 (0, ⟨some 10, .fieldAddr 23 (.tmp 2) 0, 0, none⟩),
 (0, ⟨some 12, .fieldAddr 23 (.tmp 3) 0, 0, none⟩),
 (1, ⟨some 6, .load 3 (.tmp 5), 3, none⟩),
 (1, ⟨some 8, .load 3 (.tmp 7), 3, none⟩),
 (1, ⟨some 11, .load 3 (.tmp 10), 3, none⟩),
 (1, ⟨some 13, .load 3 (.tmp 12), 3, none⟩),
 (2, ⟨some 9, .call ⟨.value (.func 42), #[(.tmp 6), (.tmp 8)], #[3, 3]⟩, 3, none⟩),
 (2, ⟨some 14, .call ⟨.value (.func 42), #[(.tmp 11), (.tmp 13)], #[3, 3]⟩, 3, none⟩),
 (2, ⟨some 15, .buildSlice 76 2 #[(0, (.tmp 9)), (1, (.tmp 14))], 76, none⟩),
 (2, ⟨some 16, .call ⟨.value (.func 41), #[(.tmp 15)], #[76]⟩, 3, none⟩),
 (0, ⟨some 4, .assign (.tmp 16), 3, none⟩)]
theorem c40draw0 {L : List Nat} {ρ : Env} {w : World} {Q : Post} (S : World → Prop) (hS : S w.drew) (h : DG Try.prog S c40D0 L ρ w.drew Q) : drawW Try.prog (drawOps 0 c40code) L ρ w Q :=
  drawW_held [1, 3, 6, 8] [(0, 0), (0, 2), (0, 5), (0, 7), (1, 1), (1, 3), (1, 6), (1, 8), (2, 4), (2, 9), (2, 10), (2, 11), (0, 12)] c40D0 (by kernel_rfl) (by kernel_rfl) (by kernel_rfl) S hS h
set_option maxRecDepth 100000 in
theorem ent40 (a0 a1 : Value) (w : World) (K : Value → World → Prop) (h : W Try.prog c40 [(0, a0), (1, a1)] w (finQ Try.prog [.tmp 4] K)) : Ret Try.prog 40 [a0, a1] w K :=
  Ret_of_W (code := c40code) Try.func40 (by kernel_rfl) (by kernel_rfl) (of_decide_eq_true (by kernel_rfl)) h
@[go_sem] theorem go40 : goFunc Try.prog 40 = true := by kernel_rfl
noncomputable def c41code : Code := match Try.f41.body with | some c => c | none => .skip
noncomputable def c41S0 (_ : Unit) : Cmd := (.ops [
 ⟨some 16, .binOp .add 3 (.tmp 8) (.const (.int .i64 1)) 3, 3, none⟩,
 ⟨some 8, .move (.tmp 16), 3, none⟩] [3, 6, 7, 8])
noncomputable def c41S1 (_ : Unit) : Cmd := (.seq (.block 1 (.seq (.ops [
 ⟨some 10, .indexAddr 76 (.tmp 6) (.tmp 8), 0, none⟩,
 ⟨some 11, .load 3 (.tmp 10), 3, none⟩,
 ⟨some 5, .assign (.tmp 11), 3, none⟩] [3, 5, 6, 7, 8])
 (.seq (.ops [
 ⟨some 12, .move (.tmp 5), 3, none⟩,
 ⟨some 13, .move (.tmp 3), 3, none⟩,
 ⟨some 14, .binOp .neq 3 (.tmp 12) (.tmp 13) 3, 4, none⟩] [3, 5, 6, 7, 8, 14])
 (.cond (.tmp 14)
  (.seq (.ops [
  ⟨some 15, .move (.tmp 5), 3, none⟩,
  ⟨some 2, .assign (.tmp 15), 3, none⟩] [2])
  .ret)
  (.skip [3, 6, 7, 8]))))) (sg c41S0))
noncomputable def c41L0 (_ : Unit) : Cmd := (.seq (.ops [
 ⟨some 9, .binOp .lss 3 (.tmp 8) (.tmp 7) 3, 0, none⟩] [3, 6, 7, 8, 9])
 (.seq (.cond (.tmp 9)
  (.skip [3, 6, 7, 8])
  (.exit 0 [3])) (sg c41S1)))
noncomputable def c41S2 (_ : Unit) : Cmd := (.seq (.ops [
 ⟨some 17, .move (.tmp 3), 3, none⟩,
 ⟨some 2, .assign (.tmp 17), 3, none⟩] [2])
 .ret)
noncomputable def c41 : Cmd := (.seq (.ops [
 ⟨some 2, .assign (.const (.int .i64 0)), 3, none⟩] [0])
 (.seq (.ops [
 ⟨some 3, .assign (.const (.int .i64 0)), 3, none⟩] [0, 3])
 (.seq (.seq (.ops [
 ⟨some 6, .move (.tmp 0), 76, none⟩,
 ⟨some 7, .call ⟨.builtin .len, #[(.tmp 6)], #[76]⟩, 3, none⟩,
 ⟨some 8, .move (.const (.int .i64 0)), 3, none⟩] [3, 6, 7, 8])
 (.block 0 (.loop (sg c41L0)))) (sg c41S2))))
set_option maxRecDepth 100000 in
theorem ent41 (a0 : Value) (w : World) (K : Value → World → Prop) (h : W Try.prog c41 [(0, a0)] w (finQ Try.prog [.tmp 2] K)) : Ret Try.prog 41 [a0] w K :=
  Ret_of_W (code := c41code) Try.func41 (by kernel_rfl) (by kernel_rfl) (of_decide_eq_true (by kernel_rfl)) h
@[go_sem] theorem go41 : goFunc Try.prog 41 = true := by kernel_rfl
noncomputable def c42code : Code := match Try.f42.body with | some c => c | none => .skip
noncomputable def c42S0 (_ : Unit) : Cmd := (.seq (.ops [
  ⟨some 4, .assign (.const (.int .i64 (-1))), 3, none⟩] [4])
  .ret)
noncomputable def c42S1 (_ : Unit) : Cmd := (.seq (.ops [
 ⟨some 4, .assign (.const (.int .i64 0)), 3, none⟩] [4])
 .ret)
noncomputable def c42S2 (_ : Unit) : Cmd := (.seq (.seq (.ops [
 ⟨some 17, .move (.tmp 0), 3, none⟩,
 ⟨some 18, .move (.tmp 1), 3, none⟩,
 ⟨some 19, .binOp .gtr 3 (.tmp 17) (.tmp 18) 3, 4, none⟩] [19])
 (.cond (.tmp 19)
  (.seq (.ops [
  ⟨some 4, .assign (.const (.int .i64 1)), 3, none⟩] [4])
  .ret)
  (.skip []))) (sg c42S1))
noncomputable def c42S3 (_ : Unit) : Cmd := (.seq (.seq (.ops [
 ⟨some 14, .move (.tmp 0), 3, none⟩,
 ⟨some 15, .move (.tmp 1), 3, none⟩,
 ⟨some 16, .binOp .lss 3 (.tmp 14) (.tmp 15) 3, 4, none⟩] [0, 1, 16])
 (.cond (.tmp 16)
  (.seq (.ops [
  ⟨some 4, .assign (.const (.int .i64 (-1))), 3, none⟩] [4])
  .ret)
  (.skip [0, 1]))) (sg c42S2))
noncomputable def c42S4 (_ : Unit) : Cmd := (.seq (.seq (.ops [
 ⟨some 13, .move (.tmp 6), 4, none⟩] [0, 1, 13])
 (.cond (.tmp 13)
  (.seq (.ops [
  ⟨some 4, .assign (.const (.int .i64 1)), 3, none⟩] [4])
  .ret)
  (.skip [0, 1]))) (sg c42S3))
noncomputable def c42S5 (_ : Unit) : Cmd := (.seq (.seq (.ops [
 ⟨some 11, .move (.tmp 5), 4, none⟩] [0, 1, 6, 11])
 (.cond (.tmp 11)
  (.seq (.seq (.ops [
  ⟨some 12, .move (.tmp 6), 4, none⟩] [12])
  (.cond (.tmp 12)
   (.seq (.ops [
   ⟨some 4, .assign (.const (.int .i64 0)), 3, none⟩] [4])
   .ret)
   (.skip []))) (sg c42S0))
  (.skip [0, 1, 6]))) (sg c42S4))
noncomputable def c42S6 (_ : Unit) : Cmd := (.seq (.ops [
 ⟨some 9, .move (.tmp 1), 3, none⟩,
 ⟨some 10, .call ⟨.value (.func 62), #[(.tmp 9)], #[3]⟩, 4, none⟩,
 ⟨some 6, .assign (.tmp 10), 4, none⟩] [0, 1, 5, 6]) (sg c42S5))
noncomputable def c42 : Cmd := (.seq (.ops [
 ⟨some 4, .assign (.const (.int .i64 0)), 3, none⟩] [0, 1])
 (.seq (.ops [
 ⟨some 7, .move (.tmp 0), 3, none⟩,
 ⟨some 8, .call ⟨.value (.func 62), #[(.tmp 7)], #[3]⟩, 4, none⟩,
 ⟨some 5, .assign (.tmp 8), 4, none⟩] [0, 1, 5]) (sg c42S6)))
set_option maxRecDepth 100000 in
theorem ent42 (a0 a1 : Value) (w : World) (K : Value → World → Prop) (h : W Try.prog c42 [(0, a0), (1, a1)] w (finQ Try.prog [.tmp 4] K)) : Ret Try.prog 42 [a0, a1] w K :=
  Ret_of_W (code := c42code) Try.func42 (by kernel_rfl) (by kernel_rfl) (of_decide_eq_true (by kernel_rfl)) h
@[go_sem] theorem go42 : goFunc Try.prog 42 = true := by kernel_rfl
noncomputable def c45code : Code := match Try.f45.body with | some c => c | none => .skip
noncomputable def c45S0 (_ : Unit) : Cmd := (.seq (.block 1 (.ops [
 ⟨some 31, .move (.tmp 0), 54, none⟩,
 ⟨some 32, .move (.tmp 8), 3, none⟩,
 ⟨some 33, .indexAddr 54 (.tmp 31) (.tmp 32), 0, none⟩,
 ⟨none, .store 5 (.tmp 33) (.const (.int .u8 45)), 0, none⟩] [0, 5, 6, 7, 8]))
 (.ops [
 ⟨some 29, .move (.tmp 8), 3, none⟩,
 ⟨some 30, .binOp .add 3 (.tmp 29) (.const (.int .i64 1)) 3, 3, none⟩,
 ⟨some 8, .assign (.tmp 30), 3, none⟩] [0, 5, 6, 7, 8]))
noncomputable def c45L0 (_ : Unit) : Cmd := (.seq (.seq (.ops [
 ⟨some 26, .move (.tmp 8), 3, none⟩,
 ⟨some 27, .move (.tmp 7), 3, none⟩,
 ⟨some 28, .binOp .lss 3 (.tmp 26) (.tmp 27) 3, 4, none⟩] [0, 5, 6, 7, 8, 28])
 (.cond (.tmp 28)
  (.skip [0, 5, 6, 7, 8])
  (.exit 0 [0, 5, 6, 7]))) (sg c45S0))
noncomputable def c45S1 (_ : Unit) : Cmd := (.ops [
 ⟨some 56, .binOp .add 3 (.tmp 38) (.const (.int .i64 1)) 3, 3, none⟩,
 ⟨some 38, .move (.tmp 56), 3, none⟩] [0, 5, 6, 7, 36, 37, 38])
noncomputable def c45S2 (_ : Unit) : Cmd := (.seq (.block 3 (.seq (.ops [
 ⟨some 40, .move (.tmp 38), 3, none⟩,
 ⟨some 41, .indexAddr 54 (.tmp 36) (.tmp 38), 0, none⟩,
 ⟨some 42, .load 5 (.tmp 41), 5, none⟩,
 ⟨some 9, .assign (.tmp 40), 3, none⟩,
 ⟨some 10, .assign (.tmp 42), 5, none⟩] [0, 5, 6, 7, 9, 10, 36, 37, 38])
 (.seq (.ops [
 ⟨some 43, .move (.tmp 6), 3, none⟩,
 ⟨some 44, .binOp .add 3 (.tmp 43) (.const (.int .i64 1)) 3, 3, none⟩,
 ⟨some 45, .move (.tmp 9), 3, none⟩,
 ⟨some 46, .binOp .add 3 (.tmp 44) (.tmp 45) 3, 3, none⟩,
 ⟨some 47, .move (.tmp 7), 3, none⟩,
 ⟨some 48, .binOp .lss 3 (.tmp 46) (.tmp 47) 3, 4, none⟩] [0, 5, 6, 7, 9, 10, 36, 37, 38, 48])
 (.cond (.tmp 48)
  (.ops [
  ⟨some 49, .move (.tmp 0), 54, none⟩,
  ⟨some 50, .move (.tmp 6), 3, none⟩,
  ⟨some 51, .binOp .add 3 (.tmp 50) (.const (.int .i64 1)) 3, 3, none⟩,
  ⟨some 52, .move (.tmp 9), 3, none⟩,
  ⟨some 53, .binOp .add 3 (.tmp 51) (.tmp 52) 3, 3, none⟩,
  ⟨some 54, .move (.tmp 10), 5, none⟩,
  ⟨some 55, .indexAddr 54 (.tmp 49) (.tmp 53), 0, none⟩,
  ⟨none, .store 5 (.tmp 55) (.tmp 54), 0, none⟩] [0, 5, 6, 7, 36, 37, 38])
  (.skip [0, 5, 6, 7, 36, 37, 38]))))) (sg c45S1))
noncomputable def c45L1 (_ : Unit) : Cmd := (.seq (.ops [
 ⟨some 39, .binOp .lss 3 (.tmp 38) (.tmp 37) 3, 0, none⟩] [0, 5, 6, 7, 36, 37, 38, 39])
 (.seq (.cond (.tmp 39)
  (.skip [0, 5, 6, 7, 36, 37, 38])
  (.exit 2 [0, 5, 6, 7])) (sg c45S2)))
noncomputable def c45S3 (_ : Unit) : Cmd := (.block 2 (.loop (sg c45L1)))
noncomputable def c45S4 (_ : Unit) : Cmd := (.seq (.ops [
 ⟨some 57, .move (.tmp 0), 54, none⟩,
 ⟨some 58, .move (.tmp 6), 3, none⟩,
 ⟨some 59, .indexAddr 54 (.tmp 57) (.tmp 58), 0, none⟩,
 ⟨none, .store 5 (.tmp 59) (.const (.int .u8 91)), 0, none⟩] [0, 5, 6, 7])
 (.block 4 (.seq (.ops [
 ⟨some 64, .fieldAddr 23 (.tmp 5) 7, 0, none⟩,
 ⟨some 65, .load 4 (.tmp 64), 4, none⟩,
 ⟨some 66, .unOp .not 4 (.tmp 65), 4, none⟩,
 ⟨some 63, .assign (.tmp 66), 4, none⟩] [0, 6, 7, 63])
 (.cond (.tmp 63)
  (.ops [
  ⟨some 67, .move (.tmp 0), 54, none⟩,
  ⟨some 68, .move (.tmp 7), 3, none⟩,
  ⟨some 69, .indexAddr 54 (.tmp 67) (.tmp 68), 0, none⟩,
  ⟨none, .store 5 (.tmp 69) (.const (.int .u8 62)), 0, none⟩] [])
  (.seq (.ops [
  ⟨some 71, .move (.tmp 6), 3, none⟩,
  ⟨some 72, .move (.tmp 7), 3, none⟩,
  ⟨some 73, .binOp .eql 3 (.tmp 71) (.tmp 72) 3, 4, none⟩,
  ⟨some 70, .assign (.tmp 73), 4, none⟩] [0, 7, 70])
  (.cond (.tmp 70)
   (.ops [
   ⟨some 74, .move (.tmp 0), 54, none⟩,
   ⟨some 75, .move (.tmp 7), 3, none⟩,
   ⟨some 76, .indexAddr 54 (.tmp 74) (.tmp 75), 0, none⟩,
   ⟨none, .store 5 (.tmp 76) (.const (.int .u8 124)), 0, none⟩] [])
   (.ops [
   ⟨some 60, .move (.tmp 0), 54, none⟩,
   ⟨some 61, .move (.tmp 7), 3, none⟩,
   ⟨some 62, .indexAddr 54 (.tmp 60) (.tmp 61), 0, none⟩,
   ⟨none, .store 5 (.tmp 62) (.const (.int .u8 93)), 0, none⟩] [])))))))
noncomputable def c45S5 (_ : Unit) : Cmd := (.seq (.seq (.ops [
 ⟨some 34, .load 23 (.tmp 5), 23, none⟩,
 ⟨some 35, .call ⟨.value (.func 8), #[(.tmp 34)], #[23]⟩, 9, none⟩,
 ⟨some 36, .convert 9 54 (.tmp 35), 54, none⟩,
 ⟨some 37, .call ⟨.builtin .len, #[(.tmp 36)], #[54]⟩, 3, none⟩,
 ⟨some 38, .move (.const (.int .i64 0)), 3, none⟩] [0, 5, 6, 7, 36, 37, 38]) (sg c45S3)) (sg c45S4))
noncomputable def c45S6 (_ : Unit) : Cmd := (.seq (.seq (.ops [
 ⟨some 24, .move (.tmp 6), 3, none⟩,
 ⟨some 25, .binOp .add 3 (.tmp 24) (.const (.int .i64 1)) 3, 3, none⟩,
 ⟨some 8, .assign (.tmp 25), 3, none⟩] [0, 5, 6, 7, 8])
 (.block 0 (.loop (sg c45L0)))) (sg c45S5))
noncomputable def c45S7 (_ : Unit) : Cmd := (.seq (.seq (.ops [
 ⟨some 18, .fieldAddr 23 (.tmp 5) 7, 0, none⟩,
 ⟨some 19, .load 4 (.tmp 18), 4, none⟩] [0, 4, 5, 6, 7, 19])
 (.cond (.tmp 19)
  (.ops [
  ⟨some 20, .load 51 (.tmp 4), 51, none⟩,
  ⟨some 21, .fieldAddr 23 (.tmp 5) 10, 0, none⟩,
  ⟨some 22, .load 3 (.tmp 21), 3, none⟩,
  ⟨some 23, .call ⟨.value (.func 51), #[(.tmp 20), (.tmp 22)], #[51, 3]⟩, 3, none⟩,
  ⟨some 7, .assign (.tmp 23), 3, none⟩] [0, 5, 6, 7])
  (.skip [0, 5, 6, 7]))) (sg c45S6))
noncomputable def c45 : Cmd := (.seq (.ops [
 ⟨some 4, .box 51 (.tmp 1), 0, none⟩,
 ⟨some 5, .box 23 (.tmp 2), 0, none⟩] [0, 4, 5])
 (.seq (.draw (drawOps 0 c45code) [0, 4, 5, 6, 7]) (sg c45S7)))
noncomputable def c45D0 : List (Nat × Ins) := [
 (0, ⟨some 12, .fieldAddr 23 (.tmp 5) 9, 0, none⟩),
 (0, ⟨some 15, .fieldAddr 51 (.tmp 4) 2, 0, none⟩),
 (1, ⟨some 11, .load 51 (.tmp 4), 51, none⟩),
 (1, ⟨some 13, .load 3 (.tmp 12), 3, none⟩),
 (1, ⟨some 16, .load 3 (.tmp 15), 3, none⟩),
 (0, ⟨some 17, .binOp .sub 3 (.tmp 16) (.const (.int .i64 1)) 3, 3, none⟩),
 (2, ⟨some 14, .call ⟨.value (.func 51), #[(.tmp 11), (.tmp 13)], #[51, 3]⟩, 3, none⟩),
 (0, ⟨some 6, .assign (.tmp 14), 3, none⟩),
 (0, ⟨some 7, .assign (.tmp 17), 3, none⟩)]
theorem c45draw0 {L : List Nat} {ρ : Env} {w : World} {Q : Post} (S : World → Prop) (hS : S w.drew) (h : DG Try.prog S c45D0 L ρ w.drew Q) : drawW Try.prog (drawOps 0 c45code) L ρ w Q :=
  drawW_held [0, 2, 5] [(0, 1), (0, 4), (1, 0), (1, 2), (1, 5), (0, 6), (2, 3), (0, 7), (0, 8)] c45D0 (by kernel_rfl) (by kernel_rfl) (by kernel_rfl) S hS h
set_option maxRecDepth 100000 in
theorem ent45 (a0 a1 a2 : Value) (w : World) (K : Value → World → Prop) (h : W Try.prog c45 [(0, a0), (1, a1), (2, a2)] w (finQ Try.prog [] K)) : Ret Try.prog 45 [a0, a1, a2] w K :=
  Ret_of_W (code := c45code) Try.func45 (by kernel_rfl) (by kernel_rfl) (of_decide_eq_true (by kernel_rfl)) h
@[go_sem] theorem go45 : goFunc Try.prog 45 = true := by kernel_rfl
@[go_sem] theorem go46 : goFunc Try.prog 46 = true := by kernel_rfl
@[go_sem] theorem go47 : goFunc Try.prog 47 = true := by kernel_rfl
noncomputable def c48code : Code := match Try.f48.body with | some c => c | none => .skip
noncomputable def c48S0 (_ : Unit) : Cmd := .ret
noncomputable def c48S1 (_ : Unit) : Cmd := (.seq (.ops [
 ⟨some 5, .buildSlice 27 0 #[], 27, none⟩,
 ⟨some 6, .move (.tmp 0), 27, none⟩,
 ⟨some 7, .call ⟨.builtin .append, #[(.tmp 5), (.tmp 6)], #[27, 27]⟩, 27, none⟩,
 ⟨some 2, .assign (.tmp 7), 27, none⟩] [2]) (sg c48S0))
noncomputable def c48 : Cmd := (.seq (.ops [
 ⟨some 2, .assign (.const (.slice none 0 0)), 27, none⟩] [0])
 (.seq (.seq (.ops [
 ⟨some 3, .move (.tmp 0), 27, none⟩,
 ⟨some 4, .binOp .eql 27 (.tmp 3) (.const (.slice none 0 0)) 27, 4, none⟩] [0, 4])
 (.cond (.tmp 4)
  (.seq (.ops [
  ⟨some 2, .assign (.const (.slice none 0 0)), 27, none⟩] [2])
  .ret)
  (.skip [0]))) (sg c48S1)))
set_option maxRecDepth 100000 in
theorem ent48 (a0 : Value) (w : World) (K : Value → World → Prop) (h : W Try.prog c48 [(0, a0)] w (finQ Try.prog [.tmp 2] K)) : Ret Try.prog 48 [a0] w K :=
  Ret_of_W (code := c48code) Try.func48 (by kernel_rfl) (by kernel_rfl) (of_decide_eq_true (by kernel_rfl)) h
@[go_sem] theorem go48 : goFunc Try.prog 48 = true := by kernel_rfl
noncomputable def c49code : Code := match Try.f49.body with | some c => c | none => .skip
noncomputable def c49S0 (_ : Unit) : Cmd := .ret
noncomputable def c49 : Cmd := (.seq (.ops [
 ⟨some 2, .box 23 (.tmp 0), 0, none⟩,
 ⟨some 3, .box 23 (.tmp 1), 0, none⟩,
 ⟨some 4, .assign (.const (.int .i64 0)), 3, none⟩] [2, 3])
 (.seq (.draw (drawOps 0 c49code) [4]) (sg c49S0)))
noncomputable def c49D0 : List (Nat × Ins) := [
 (0, ⟨some 5, .fieldAddr 23 (.tmp 2) 2, 0, none⟩),
 (0, ⟨some 7, .fieldAddr 23 (.tmp 3) 2, 0, none⟩),
 (1, ⟨some 6, .load 3 (.tmp 5), 3, none⟩),
 (1, ⟨some 8, .load 3 (.tmp 7), 3, none⟩),
 (1, ⟨some 10, .load 23 (.tmp 2), 23, none⟩),
 (1, ⟨some 11, .load 23 (.tmp 3), 23, none⟩),
 (2, ⟨some 9, .call ⟨.value (.func 42), #[(.tmp 6), (.tmp 8)], #[3, 3]⟩, 3, none⟩),
 (2, ⟨some 12, .call ⟨.value (.func 50), #[(.tmp 10), (.tmp 11)], #[23, 23]⟩, 3, none⟩),
 (2, ⟨some 13, .buildSlice 76 2 #[(0, (.tmp 9)), (1, (.tmp 12))], 76, none⟩),
 (2, ⟨some 14, .call ⟨.value (.func 41), #[(.tmp 13)], #[76]⟩, 3, none⟩),
 (0, ⟨some 4, .assign (.tmp 14), 3, none⟩)]
theorem c49draw0 {L : List Nat} {ρ : Env} {w : World} {Q : Post} (S : World → Prop) (hS : S w.drew) (h : DG Try.prog S c49D0 L ρ w.drew Q) : drawW Try.prog (drawOps 0 c49code) L ρ w Q :=
  drawW_held [1, 3, 5, 6] [(0, 0), (0, 2), (1, 1), (1, 3), (1, 5), (1, 6), (2, 4), (2, 7), (2, 8), (2, 9), (0, 10)] c49D0 (by kernel_rfl) (by kernel_rfl) (by kernel_rfl) S hS h
set_option maxRecDepth 100000 in
theorem ent49 (a0 a1 : Value) (w : World) (K : Value → World → Prop) (h : W Try.prog c49 [(0, a0), (1, a1)] w (finQ Try.prog [.tmp 4] K)) : Ret Try.prog 49 [a0, a1] w K :=
  Ret_of_W (code := c49code) Try.func49 (by kernel_rfl) (by kernel_rfl) (of_decide_eq_true (by kernel_rfl)) h
@[go_sem] theorem go49 : goFunc Try.prog 49 = true := by kernel_rfl
noncomputable def c50code : Code := match Try.f50.body with | some c => c | none => .skip
noncomputable def c50S0 (_ : Unit) : Cmd := .ret
noncomputable def c50 : Cmd := (.seq (.ops [
 ⟨some 2, .box 23 (.tmp 0), 0, none⟩,
 ⟨some 3, .box 23 (.tmp 1), 0, none⟩,
 ⟨some 4, .assign (.const (.int .i64 0)), 3, none⟩] [2, 3])
 (.seq (.draw (drawOps 0 c50code) [4]) (sg c50S0)))
noncomputable def c50D0 : List (Nat × Ins) := [
 (0, ⟨some 5, .fieldAddr 23 (.tmp 2) 9, 0, none⟩),
 (0, ⟨some 7, .fieldAddr 23 (.tmp 3) 9, 0, none⟩),
 (0, ⟨some 10, .fieldAddr 23 (.tmp 2) 0, 0, none⟩),
 (0, ⟨some 12, .fieldAddr 23 (.tmp 3) 0, 0, none⟩),
 (1, ⟨some 6, .load 3 (.tmp 5), 3, none⟩),
 (1, ⟨some 8, .load 3 (.tmp 7), 3, none⟩),
 (1, ⟨some 11, .load 3 (.tmp 10), 3, none⟩),
 (1, ⟨some 13, .load 3 (.tmp 12), 3, none⟩),
 (2, ⟨some 9, .call ⟨.value (.func 42), #[(.tmp 6), (.tmp 8)], #[3, 3]⟩, 3, none⟩),
 (2, ⟨some 14, .call ⟨.value (.func 42), #[(.tmp 11), (.tmp 13)], #[3, 3]⟩, 3, none⟩),
 (2, ⟨some 15, .buildSlice 76 2 #[(0, (.tmp 9)), (1, (.tmp 14))], 76, none⟩),
 (2, ⟨some 16, .call ⟨.value (.func 41), #[(.tmp 15)], #[76]⟩, 3, none⟩),
 (0, ⟨some 4, .assign (.tmp 16), 3, none⟩)]
theorem c50draw0 {L : List Nat} {ρ : Env} {w : World} {Q : Post} (S : World → Prop) (hS : S w.drew) (h : DG Try.prog S c50D0 L ρ w.drew Q) : drawW Try.prog (drawOps 0 c50code) L ρ w Q :=
  drawW_held [1, 3, 6, 8] [(0, 0), (0, 2), (0, 5), (0, 7), (1, 1), (1, 3), (1, 6), (1, 8), (2, 4), (2, 9), (2, 10), (2, 11), (0, 12)] c50D0 (by kernel_rfl) (by kernel_rfl) (by kernel_rfl) S hS h
set_option maxRecDepth 100000 in
theorem ent50 (a0 a1 : Value) (w : World) (K : Value → World → Prop) (h : W Try.prog c50 [(0, a0), (1, a1)] w (finQ Try.prog [.tmp 4] K)) : Ret Try.prog 50 [a0, a1] w K :=
  Ret_of_W (code := c50code) Try.func50 (by kernel_rfl) (by kernel_rfl) (of_decide_eq_true (by kernel_rfl)) h
@[go_sem] theorem go50 : goFunc Try.prog 50 = true := by kernel_rfl
noncomputable def c51code : Code := match Try.f51.body with | some c => c | none => .skip
noncomputable def c51S0 (_ : Unit) : Cmd := .ret
noncomputable def c51S1 (_ : Unit) : Cmd := (.seq (.ops [
 ⟨some 10, .move (.tmp 1), 3, none⟩,
 ⟨some 11, .fieldAddr 51 (.tmp 2) 1, 0, none⟩,
 ⟨some 12, .load 3 (.tmp 11), 3, none⟩,
 ⟨some 13, .call ⟨.builtin .min, #[(.tmp 10), (.tmp 12)], #[3, 3]⟩, 3, none⟩,
 ⟨some 14, .fieldAddr 51 (.tmp 2) 0, 0, none⟩,
 ⟨some 15, .load 3 (.tmp 14), 3, none⟩,
 ⟨some 16, .binOp .sub 3 (.tmp 13) (.tmp 15) 3, 3, none⟩,
 ⟨some 17, .fieldAddr 51 (.tmp 2) 2, 0, none⟩,
 ⟨some 18, .load 3 (.tmp 17), 3, none⟩,
 ⟨some 19, .binOp .sub 3 (.tmp 18) (.const (.int .i64 1)) 3, 3, none⟩,
 ⟨some 20, .binOp .mul 3 (.tmp 16) (.tmp 19) 3, 3, none⟩,
 ⟨some 21, .fieldAddr 51 (.tmp 2) 1, 0, none⟩,
 ⟨some 22, .load 3 (.tmp 21), 3, none⟩,
 ⟨some 23, .fieldAddr 51 (.tmp 2) 0, 0, none⟩,
 ⟨some 24, .load 3 (.tmp 23), 3, none⟩,
 ⟨some 25, .binOp .sub 3 (.tmp 22) (.tmp 24) 3, 3, none⟩,
 ⟨some 26, .binOp .quo 3 (.tmp 20) (.tmp 25) 3, 3, none⟩,
 ⟨some 4, .assign (.tmp 26), 3, none⟩] [4]) (sg c51S0))
noncomputable def c51 : Cmd := (.seq (.ops [
 ⟨some 2, .box 51 (.tmp 0), 0, none⟩,
 ⟨some 4, .assign (.const (.int .i64 0)), 3, none⟩] [1, 2])
 (.seq (.seq (.ops [
 ⟨some 5, .fieldAddr 51 (.tmp 2) 1, 0, none⟩,
 ⟨some 6, .load 3 (.tmp 5), 3, none⟩,
 ⟨some 7, .fieldAddr 51 (.tmp 2) 0, 0, none⟩,
 ⟨some 8, .load 3 (.tmp 7), 3, none⟩,
 ⟨some 9, .binOp .eql 3 (.tmp 6) (.tmp 8) 3, 4, none⟩] [1, 2, 9])
 (.cond (.tmp 9)
  (.seq (.ops [
  ⟨some 4, .assign (.const (.int .i64 0)), 3, none⟩] [4])
  .ret)
  (.skip [1, 2]))) (sg c51S1)))
set_option maxRecDepth 100000 in
theorem ent51 (a0 a1 : Value) (w : World) (K : Value → World → Prop) (h : W Try.prog c51 [(0, a0), (1, a1)] w (finQ Try.prog [.tmp 4] K)) : Ret Try.prog 51 [a0, a1] w K :=
  Ret_of_W (code := c51code) Try.func51 (by kernel_rfl) (by kernel_rfl) (of_decide_eq_true (by kernel_rfl)) h
@[go_sem] theorem go51 : goFunc Try.prog 51 = true := by kernel_rfl
noncomputable def c52code : Code := match Try.f52.body with | some c => c | none => .skip
noncomputable def c52S0 (_ : Unit) : Cmd := .ret
noncomputable def c52 : Cmd := (.seq (.ops [
 ⟨some 3, .box 23 (.tmp 1), 0, none⟩,
 ⟨some 4, .assign (.const (.bool false)), 4, none⟩] [0, 3])
 (.seq (.ops [
 ⟨some 5, .move (.tmp 0), 27, none⟩,
 ⟨some 6, .makeFunc (.func 70) #[] #[(.tmp 3)], 26, none⟩,
 ⟨some 7, .call ⟨.value (.func 69), #[(.tmp 5), (.tmp 6)], #[27, 26]⟩, 4, none⟩,
 ⟨some 8, .unOp .not 4 (.tmp 7), 4, none⟩,
 ⟨some 4, .assign (.tmp 8), 4, none⟩] [4]) (sg c52S0)))
set_option maxRecDepth 100000 in
theorem ent52 (a0 a1 : Value) (w : World) (K : Value → World → Prop) (h : W Try.prog c52 [(0, a0), (1, a1)] w (finQ Try.prog [.tmp 4] K)) : Ret Try.prog 52 [a0, a1] w K :=
  Ret_of_W (code := c52code) Try.func52 (by kernel_rfl) (by kernel_rfl) (of_decide_eq_true (by kernel_rfl)) h
@[go_sem] theorem go52 : goFunc Try.prog 52 = true := by kernel_rfl
noncomputable def c53code : Code := match Try.f53.body with | some c => c | none => .skip
noncomputable def c53 : Cmd := (.seq (.ops [
 ⟨some 6, .assign (.const (.bool false)), 4, none⟩] [0, 1, 2])
 (.seq (.ops [
 ⟨some 7, .move (.tmp 0), 3, none⟩,
 ⟨some 8, .move (.tmp 1), 3, none⟩,
 ⟨some 9, .binOp .geq 3 (.tmp 7) (.tmp 8) 3, 4, none⟩,
 ⟨some 10, .move (.tmp 9), 4, none⟩,
 ⟨some 11, .move (.tmp 0), 3, (some (10, true))⟩,
 ⟨some 12, .move (.tmp 2), 3, (some (10, true))⟩,
 ⟨some 13, .binOp .leq 3 (.tmp 11) (.tmp 12) 3, 4, (some (10, true))⟩,
 ⟨some 14, .pick (.tmp 10) (.tmp 13) (.const (.bool false)), 4, none⟩,
 ⟨some 6, .assign (.tmp 14), 4, none⟩] [6])
 .ret))
set_option maxRecDepth 100000 in
theorem ent53 (a0 a1 a2 : Value) (w : World) (K : Value → World → Prop) (h : W Try.prog c53 [(0, a0), (1, a1), (2, a2)] w (finQ Try.prog [.tmp 6] K)) : Ret Try.prog 53 [a0, a1, a2] w K :=
  Ret_of_W (code := c53code) Try.func53 (by kernel_rfl) (by kernel_rfl) (of_decide_eq_true (by kernel_rfl)) h
@[go_sem] theorem go53 : goFunc Try.prog 53 = true := by kernel_rfl
noncomputable def c54code : Code := match Try.f54.body with | some c => c | none => .skip
noncomputable def c54S0 (_ : Unit) : Cmd := (.ops [
 ⟨some 13, .move (.tmp 7), 3, none⟩,
 ⟨some 14, .binOp .add 3 (.tmp 13) (.const (.int .i64 1)) 3, 3, none⟩,
 ⟨some 7, .assign (.tmp 14), 3, none⟩] [0, 1, 4, 6, 7])
noncomputable def c54S1 (_ : Unit) : Cmd := (.seq (.block 1 (.seq (.ops [
 ⟨some 15, .move (.tmp 6), 110, none⟩,
 ⟨some 16, .move (.tmp 7), 3, none⟩,
 ⟨some 17, .indexAddr 110 (.tmp 15) (.tmp 16), 0, none⟩,
 ⟨some 18, .fieldAddr 91 (.tmp 17) 0, 0, none⟩,
 ⟨some 19, .load 3 (.tmp 18), 3, none⟩,
 ⟨some 20, .move (.tmp 0), 3, none⟩,
 ⟨some 21, .binOp .eql 3 (.tmp 19) (.tmp 20) 3, 4, none⟩,
 ⟨some 22, .move (.tmp 21), 4, none⟩,
 ⟨some 23, .move (.tmp 6), 110, (some (22, true))⟩,
 ⟨some 24, .move (.tmp 7), 3, (some (22, true))⟩,
 ⟨some 25, .indexAddr 110 (.tmp 23) (.tmp 24), 0, (some (22, true))⟩,
 ⟨some 26, .fieldAddr 91 (.tmp 25) 1, 0, (some (22, true))⟩,
 ⟨some 27, .load 3 (.tmp 26), 3, (some (22, true))⟩,
 ⟨some 28, .move (.tmp 1), 3, (some (22, true))⟩,
 ⟨some 29, .binOp .eql 3 (.tmp 27) (.tmp 28) 3, 4, (some (22, true))⟩,
 ⟨some 30, .pick (.tmp 22) (.tmp 29) (.const (.bool false)), 4, none⟩] [0, 1, 4, 6, 7, 30])
 (.cond (.tmp 30)
  (.seq (.ops [
  ⟨some 31, .move (.tmp 6), 110, none⟩,
  ⟨some 32, .move (.tmp 7), 3, none⟩,
  ⟨some 33, .indexAddr 110 (.tmp 31) (.tmp 32), 0, none⟩,
  ⟨some 34, .load 91 (.tmp 33), 91, none⟩,
  ⟨none, .store 91 (.tmp 4) (.tmp 34), 0, none⟩,
  ⟨some 5, .assign (.const (.bool true)), 4, none⟩] [4, 5])
  .ret)
  (.skip [0, 1, 4, 6, 7])))) (sg c54S0))
noncomputable def c54L0 (_ : Unit) : Cmd := (.seq (.seq (.ops [
 ⟨some 9, .move (.tmp 7), 3, none⟩,
 ⟨some 10, .move (.tmp 6), 110, none⟩,
 ⟨some 11, .call ⟨.builtin .len, #[(.tmp 10)], #[110]⟩, 3, none⟩,
 ⟨some 12, .binOp .lss 3 (.tmp 9) (.tmp 11) 3, 4, none⟩] [0, 1, 4, 6, 7, 12])
 (.cond (.tmp 12)
  (.skip [0, 1, 4, 6, 7])
  (.exit 0 [4]))) (sg c54S1))
noncomputable def c54S2 (_ : Unit) : Cmd := (.seq (.ops [
 ⟨some 35, .build 91 #[], 91, none⟩,
 ⟨none, .store 91 (.tmp 4) (.tmp 35), 0, none⟩,
 ⟨some 5, .assign (.const (.bool false)), 4, none⟩] [4, 5])
 .ret)
noncomputable def c54S3 (_ : Unit) : Cmd := (.seq (.seq (.ops [
 ⟨some 7, .assign (.const (.int .i64 0)), 3, none⟩] [0, 1, 4, 6, 7])
 (.block 0 (.loop (sg c54L0)))) (sg c54S2))
noncomputable def c54 : Cmd := (.seq (.ops [
 ⟨some 4, .alloc 91, 0, none⟩,
 ⟨some 5, .assign (.const (.bool false)), 4, none⟩] [0, 1, 4])
 (.seq (.ops [
 ⟨some 8, .call ⟨.value (.func 72), #[], #[]⟩, 110, none⟩,
 ⟨some 6, .assign (.tmp 8), 110, none⟩] [0, 1, 4, 6]) (sg c54S3)))
set_option maxRecDepth 100000 in
theorem ent54 (a0 a1 : Value) (w : World) (K : Value → World → Prop) (h : W Try.prog c54 [(0, a0), (1, a1)] w (finQ Try.prog [.cell 4 91, .tmp 5] K)) : Ret Try.prog 54 [a0, a1] w K :=
  Ret_of_W (code := c54code) Try.func54 (by kernel_rfl) (by kernel_rfl) (of_decide_eq_true (by kernel_rfl)) h
@[go_sem] theorem go54 : goFunc Try.prog 54 = true := by kernel_rfl
noncomputable def c55code : Code := match Try.f55.body with | some c => c | none => .skip
noncomputable def c55S0 (_ : Unit) : Cmd := .ret
noncomputable def c55S1 (_ : Unit) : Cmd := .ret
noncomputable def c55S2 (_ : Unit) : Cmd := .ret
noncomputable def c55S3 (_ : Unit) : Cmd := (.seq (.ops [
 ⟨some 25, .move (.tmp 0), 3, none⟩,
 ⟨some 26, .call ⟨.value (.func 53), #[(.tmp 25), (.const (.int .i64 (-1))), (.const (.int .i64 1073741824))], #[3, 3, 3]⟩, 4, none⟩,
 ⟨some 4, .assign (.tmp 26), 4, none⟩] [4]) (sg c55S2))
noncomputable def c55S4 (_ : Unit) : Cmd := (.seq (.seq (.ops [
 ⟨some 21, .move (.tmp 1), 3, none⟩,
 ⟨some 22, .binOp .eql 3 (.tmp 21) (.const (.int .i64 3)) 3, 4, none⟩] [0, 22])
 (.cond (.tmp 22)
  (.seq (.ops [
  ⟨some 23, .move (.tmp 0), 3, none⟩,
  ⟨some 24, .call ⟨.value (.func 53), #[(.tmp 23), (.const (.int .i64 (-1073741824))), (.const (.int .i64 1073741824))], #[3, 3, 3]⟩, 4, none⟩,
  ⟨some 4, .assign (.tmp 24), 4, none⟩] [4]) (sg c55S1))
  (.skip [0]))) (sg c55S3))
noncomputable def c55S5 (_ : Unit) : Cmd := (.seq (.seq (.ops [
 ⟨some 17, .move (.tmp 1), 3, none⟩,
 ⟨some 18, .binOp .eql 3 (.tmp 17) (.const (.int .i64 2)) 3, 4, none⟩] [0, 1, 18])
 (.cond (.tmp 18)
  (.seq (.ops [
  ⟨some 19, .move (.tmp 0), 3, none⟩,
  ⟨some 20, .call ⟨.value (.func 53), #[(.tmp 19), (.const (.int .i64 0)), (.const (.int .i64 1073741824))], #[3, 3, 3]⟩, 4, none⟩,
  ⟨some 4, .assign (.tmp 20), 4, none⟩] [4]) (sg c55S0))
  (.skip [0, 1]))) (sg c55S4))
noncomputable def c55S6 (_ : Unit) : Cmd := (.seq (.seq (.ops [
 ⟨some 9, .move (.tmp 1), 3, none⟩,
 ⟨some 10, .binOp .eql 3 (.tmp 9) (.const (.int .i64 1)) 3, 4, none⟩] [0, 1, 10])
 (.cond (.tmp 10)
  (.seq (.ops [
  ⟨some 11, .move (.tmp 0), 3, none⟩,
  ⟨some 12, .binOp .eql 3 (.tmp 11) (.const (.int .i64 0)) 3, 4, none⟩,
  ⟨some 13, .move (.tmp 12), 4, none⟩,
  ⟨some 14, .move (.tmp 0), 3, (some (13, false))⟩,
  ⟨some 15, .binOp .eql 3 (.tmp 14) (.const (.int .i64 1)) 3, 4, (some (13, false))⟩,
  ⟨some 16, .pick (.tmp 13) (.const (.bool true)) (.tmp 15), 4, none⟩,
  ⟨some 4, .assign (.tmp 16), 4, none⟩] [4])
  .ret)
  (.skip [0, 1]))) (sg c55S5))
noncomputable def c55 : Cmd := (.seq (.ops [
 ⟨some 4, .assign (.const (.bool false)), 4, none⟩] [0, 1])
 (.seq (.seq (.ops [
 ⟨some 5, .move (.tmp 1), 3, none⟩,
 ⟨some 6, .binOp .eql 3 (.tmp 5) (.const (.int .i64 0)) 3, 4, none⟩] [0, 1, 6])
 (.cond (.tmp 6)
  (.seq (.ops [
  ⟨some 7, .move (.tmp 0), 3, none⟩,
  ⟨some 8, .binOp .eql 3 (.tmp 7) (.const (.int .i64 0)) 3, 4, none⟩,
  ⟨some 4, .assign (.tmp 8), 4, none⟩] [4])
  .ret)
  (.skip [0, 1]))) (sg c55S6)))
set_option maxRecDepth 100000 in
theorem ent55 (a0 a1 : Value) (w : World) (K : Value → World → Prop) (h : W Try.prog c55 [(0, a0), (1, a1)] w (finQ Try.prog [.tmp 4] K)) : Ret Try.prog 55 [a0, a1] w K :=
  Ret_of_W (code := c55code) Try.func55 (by kernel_rfl) (by kernel_rfl) (of_decide_eq_true (by kernel_rfl)) h
@[go_sem] theorem go55 : goFunc Try.prog 55 = true := by kernel_rfl
noncomputable def c56code : Code := match Try.f56.body with | some c => c | none => .skip
noncomputable def c56 : Cmd := (.seq (.ops [
 ⟨some 2, .box 23 (.tmp 0), 0, none⟩,
 ⟨some 3, .box 23 (.tmp 1), 0, none⟩,
 ⟨some 4, .assign (.const (.bool false)), 4, none⟩] [2, 3])
 (.seq (.ops [
 ⟨some 5, .fieldAddr 23 (.tmp 2) 7, 0, none⟩,
 ⟨some 6, .load 4 (.tmp 5), 4, none⟩,
 ⟨some 7, .move (.tmp 6), 4, none⟩,
 ⟨some 8, .fieldAddr 23 (.tmp 2) 10, 0, (some (7, true))⟩,
 ⟨some 9, .load 3 (.tmp 8), 3, (some (7, true))⟩,
 ⟨some 10, .fieldAddr 23 (.tmp 3) 9, 0, (some (7, true))⟩,
 ⟨some 11, .load 3 (.tmp 10), 3, (some (7, true))⟩,
 ⟨some 12, .binOp .lss 3 (.tmp 9) (.tmp 11) 3, 4, (some (7, true))⟩,
 ⟨some 13, .pick (.tmp 7) (.tmp 12) (.const (.bool false)), 4, none⟩,
 ⟨some 4, .assign (.tmp 13), 4, none⟩] [4])
 .ret))
set_option maxRecDepth 100000 in
theorem ent56 (a0 a1 : Value) (w : World) (K : Value → World → Prop) (h : W Try.prog c56 [(0, a0), (1, a1)] w (finQ Try.prog [.tmp 4] K)) : Ret Try.prog 56 [a0, a1] w K :=
  Ret_of_W (code := c56code) Try.func56 (by kernel_rfl) (by kernel_rfl) (of_decide_eq_true (by kernel_rfl)) h
@[go_sem] theorem go56 : goFunc Try.prog 56 = true := by kernel_rfl
noncomputable def c57code : Code := match Try.f57.body with | some c => c | none => .skip
noncomputable def c57S0 (_ : Unit) : Cmd := .ret
noncomputable def c57 : Cmd := (.seq (.ops [
 ⟨some 2, .assign (.const (.slice none 0 0)), 76, none⟩] [0])
 (.seq (.ops [
 ⟨some 3, .move (.tmp 0), 79, none⟩,
 ⟨some 4, .call ⟨.value (.func 73), #[(.const (.slice none 0 0)), (.tmp 3)], #[76, 79]⟩, 76, none⟩,
 ⟨some 2, .assign (.tmp 4), 76, none⟩] [2]) (sg c57S0)))
set_option maxRecDepth 100000 in
theorem ent57 (a0 : Value) (w : World) (K : Value → World → Prop) (h : W Try.prog c57 [(0, a0)] w (finQ Try.prog [.tmp 2] K)) : Ret Try.prog 57 [a0] w K :=
  Ret_of_W (code := c57code) Try.func57 (by kernel_rfl) (by kernel_rfl) (of_decide_eq_true (by kernel_rfl)) h
@[go_sem] theorem go57 : goFunc Try.prog 57 = true := by kernel_rfl
noncomputable def c59code : Code := match Try.f59.body with | some c => c | none => .skip
noncomputable def c59S0 (_ : Unit) : Cmd := (.cond (.tmp 13)
  .ret
  (.skip [0, 5]))
noncomputable def c59S1 (_ : Unit) : Cmd := (.block 1 (.seq (.ops [
 ⟨some 8, .entry (.tmp 5), 0, none⟩,
 ⟨some 9, .extract (.tmp 8) 0, 3, none⟩,
 ⟨some 3, .assign (.tmp 9), 3, none⟩] [0, 3, 5])
 (.seq (.ops [
 ⟨some 10, .move (.tmp 0), 97, none⟩,
 ⟨some 11, .move (.tmp 3), 3, none⟩,
 ⟨some 12, .call ⟨.value (.tmp 10), #[(.tmp 11)], #[3]⟩, 4, none⟩,
 ⟨some 13, .unOp .not 4 (.tmp 12), 4, none⟩] [0, 5, 13]) (sg c59S0))))
noncomputable def c59L0 (_ : Unit) : Cmd := (.seq (.ops [
 ⟨some 6, .next (.tmp 5) false, 0, none⟩,
 ⟨some 7, .extract (.tmp 6) 0, 4, none⟩] [0, 5, 7])
 (.seq (.cond (.tmp 7)
  (.skip [0, 5])
  (.exit 0 [])) (sg c59S1)))
noncomputable def c59 : Cmd := (.seq (.ops [
 ⟨some 4, .load 75 (.tmp 1), 75, none⟩,
 ⟨some 5, .range 75 (.tmp 4), 0, none⟩] [0, 5])
 (.block 0 (.loop (sg c59L0))))
set_option maxRecDepth 100000 in
theorem ent59 (a0 a1 : Value) (w : World) (K : Value → World → Prop) (h : W Try.prog c59 [(0, a0), (1, a1)] w (finQ Try.prog [] K)) : Ret Try.prog 59 [a0, a1] w K :=
  Ret_of_W (code := c59code) Try.func59 (by kernel_rfl) (by kernel_rfl) (of_decide_eq_true (by kernel_rfl)) h
@[go_sem] theorem go59 : goFunc Try.prog 59 = true := by kernel_rfl
noncomputable def c62code : Code := match Try.f62.body with | some c => c | none => .skip
noncomputable def c62 : Cmd := (.seq (.ops [
 ⟨some 2, .assign (.const (.bool false)), 4, none⟩] [0])
 (.seq (.ops [
 ⟨some 3, .move (.tmp 0), 3, none⟩,
 ⟨some 4, .move (.tmp 0), 3, none⟩,
 ⟨some 5, .binOp .neq 3 (.tmp 3) (.tmp 4) 3, 4, none⟩,
 ⟨some 2, .assign (.tmp 5), 4, none⟩] [2])
 .ret))
set_option maxRecDepth 100000 in
theorem ent62 (a0 : Value) (w : World) (K : Value → World → Prop) (h : W Try.prog c62 [(0, a0)] w (finQ Try.prog [.tmp 2] K)) : Ret Try.prog 62 [a0] w K :=
  Ret_of_W (code := c62code) Try.func62 (by kernel_rfl) (by kernel_rfl) (of_decide_eq_true (by kernel_rfl)) h
@[go_sem] theorem go62 : goFunc Try.prog 62 = true := by kernel_rfl
@[go_sem] theorem go68 : goFunc Try.prog 68 = true := by kernel_rfl
noncomputable def c69code : Code := match Try.f69.body with | some c => c | none => .skip
noncomputable def c69S0 (_ : Unit) : Cmd := .ret
noncomputable def c69 : Cmd := (.seq (.ops [
 ⟨some 4, .assign (.const (.bool false)), 4, none⟩] [0, 1])
 (.seq (.ops [
 ⟨some 5, .move (.tmp 0), 27, none⟩,
 ⟨some 6, .move (.tmp 1), 26, none⟩,
 ⟨some 7, .call ⟨.value (.func 89), #[(.tmp 5), (.tmp 6)], #[27, 26]⟩, 3, none⟩,
 ⟨some 8, .binOp .geq 3 (.tmp 7) (.const (.int .i64 0)) 3, 4, none⟩,
 ⟨some 4, .assign (.tmp 8), 4, none⟩] [4]) (sg c69S0)))
set_option maxRecDepth 100000 in
theorem ent69 (a0 a1 : Value) (w : World) (K : Value → World → Prop) (h : W Try.prog c69 [(0, a0), (1, a1)] w (finQ Try.prog [.tmp 4] K)) : Ret Try.prog 69 [a0, a1] w K :=
  Ret_of_W (code := c69code) Try.func69 (by kernel_rfl) (by kernel_rfl) (of_decide_eq_true (by kernel_rfl)) h
@[go_sem] theorem go69 : goFunc Try.prog 69 = true := by kernel_rfl
noncomputable def c70code : Code := match Try.f70.body with | some c => c | none => .skip
noncomputable def c70S0 (_ : Unit) : Cmd := .ret
noncomputable def c70 : Cmd := (.seq (.ops [
 ⟨some 2, .box 23 (.tmp 0), 0, none⟩,
 ⟨some 3, .assign (.const (.bool false)), 4, none⟩] [1, 2])
 (.seq (.ops [
 ⟨some 4, .load 23 (.tmp 2), 23, none⟩,
 ⟨some 5, .load 23 (.tmp 1), 23, none⟩,
 ⟨some 6, .call ⟨.value (.func 71), #[(.tmp 4), (.tmp 5)], #[23, 23]⟩, 4, none⟩,
 ⟨some 7, .unOp .not 4 (.tmp 6), 4, none⟩,
 ⟨some 3, .assign (.tmp 7), 4, none⟩] [3]) (sg c70S0)))
set_option maxRecDepth 100000 in
theorem ent70 (a0 a1 : Value) (w : World) (K : Value → World → Prop) (h : W Try.prog c70 [(0, a0), (1, a1)] w (finQ Try.prog [.tmp 3] K)) : Ret Try.prog 70 [a0, a1] w K :=
  Ret_of_W (code := c70code) Try.func70 (by kernel_rfl) (by kernel_rfl) (of_decide_eq_true (by kernel_rfl)) h
@[go_sem] theorem go70 : goFunc Try.prog 70 = true := by kernel_rfl
noncomputable def c71code : Code := match Try.f71.body with | some c => c | none => .skip
noncomputable def c71 : Cmd := (.seq (.ops [
 ⟨some 2, .box 23 (.tmp 0), 0, none⟩,
 ⟨some 3, .box 23 (.tmp 1), 0, none⟩,
 ⟨some 4, .assign (.const (.bool false)), 4, none⟩] [2, 3])
 (.seq (.ops [
 ⟨some 5, .fieldAddr 23 (.tmp 2) 7, 0, none⟩,
 ⟨some 6, .load 4 (.tmp 5), 4, none⟩,
 ⟨some 7, .move (.tmp 6), 4, none⟩,
 ⟨some 8, .fieldAddr 23 (.tmp 2) 10, 0, (some (7, true))⟩,
 ⟨some 9, .load 3 (.tmp 8), 3, (some (7, true))⟩,
 ⟨some 10, .fieldAddr 23 (.tmp 3) 9, 0, (some (7, true))⟩,
 ⟨some 11, .load 3 (.tmp 10), 3, (some (7, true))⟩,
 ⟨some 12, .binOp .lss 3 (.tmp 9) (.tmp 11) 3, 4, (some (7, true))⟩,
 ⟨some 13, .pick (.tmp 7) (.tmp 12) (.const (.bool false)), 4, none⟩,
 ⟨some 4, .assign (.tmp 13), 4, none⟩] [4])
 .ret))
set_option maxRecDepth 100000 in
theorem ent71 (a0 a1 : Value) (w : World) (K : Value → World → Prop) (h : W Try.prog c71 [(0, a0), (1, a1)] w (finQ Try.prog [.tmp 4] K)) : Ret Try.prog 71 [a0, a1] w K :=
  Ret_of_W (code := c71code) Try.func71 (by kernel_rfl) (by kernel_rfl) (of_decide_eq_true (by kernel_rfl)) h
@[go_sem] theorem go71 : goFunc Try.prog 71 = true := by kernel_rfl
noncomputable def c72code : Code := match Try.f72.body with | some c => c | none => .skip
noncomputable def c72 : Cmd := (.seq (.ops [
 ⟨some 0, .assign (.const (.slice none 0 0)), 110, none⟩] [])
 (.seq (.ops [
 ⟨some 1, .build 91 #[(0, (.const (.int .i64 1))), (1, (.const (.int .i64 1))), (2, (.const (.int .i64 0))), (3, (.const (.int .i64 2)))], 91, none⟩,
 ⟨some 2, .build 91 #[(0, (.const (.int .i64 1))), (1, (.const (.int .i64 2))), (2, (.const (.int .i64 1))), (3, (.const (.int .i64 0)))], 91, none⟩,
 ⟨some 3, .build 91 #[(0, (.const (.int .i64 1))), (1, (.const (.int .i64 3))), (2, (.const (.int .i64 2))), (3, (.const (.int .i64 1)))], 91, none⟩,
 ⟨some 4, .build 91 #[(0, (.const (.int .i64 2))), (1, (.const (.int .i64 1))), (2, (.const (.int .i64 0))), (3, (.const (.int .i64 3)))], 91, none⟩,
 ⟨some 5, .build 91 #[(0, (.const (.int .i64 2))), (1, (.const (.int .i64 4))), (2, (.const (.int .i64 0))), (3, (.const (.int .i64 0)))], 91, none⟩,
 ⟨some 6, .build 91 #[(0, (.const (.int .i64 2))), (1, (.const (.int .i64 5))), (2, (.const (.int .i64 0))), (3, (.const (.int .i64 0)))], 91, none⟩,
 ⟨some 7, .build 91 #[(0, (.const (.int .i64 3))), (1, (.const (.int .i64 6))), (2, (.const (.int .i64 1))), (3, (.const (.int .i64 0)))], 91, none⟩,
 ⟨some 8, .build 91 #[(0, (.const (.int .i64 3))), (1, (.const (.int .i64 7))), (2, (.const (.int .i64 0))), (3, (.const (.int .i64 4)))], 91, none⟩,
 ⟨some 9, .build 91 #[(0, (.const (.int .i64 4))), (1, (.const (.int .i64 8))), (2, (.const (.int .i64 1))), (3, (.const (.int .i64 0)))], 91, none⟩,
 ⟨some 10, .build 91 #[(0, (.const (.int .i64 4))), (1, (.const (.int .i64 9))), (2, (.const (.int .i64 0))), (3, (.const (.int .i64 4)))], 91, none⟩,
 ⟨some 11, .build 91 #[(0, (.const (.int .i64 5))), (1, (.const (.int .i64 10))), (2, (.const (.int .i64 1))), (3, (.const (.int .i64 1)))], 91, none⟩,
 ⟨some 12, .build 91 #[(0, (.const (.int .i64 5))), (1, (.const (.int .i64 11))), (2, (.const (.int .i64 1))), (3, (.const (.int .i64 1)))], 91, none⟩,
 ⟨some 13, .build 91 #[(0, (.const (.int .i64 5))), (1, (.const (.int .i64 12))), (2, (.const (.int .i64 1))), (3, (.const (.int .i64 1)))], 91, none⟩,
 ⟨some 14, .build 91 #[(0, (.const (.int .i64 6))), (1, (.const (.int .i64 13))), (2, (.const (.int .i64 0))), (3, (.const (.int .i64 0)))], 91, none⟩,
 ⟨some 15, .build 91 #[(0, (.const (.int .i64 6))), (1, (.const (.int .i64 14))), (2, (.const (.int .i64 0))), (3, (.const (.int .i64 0)))], 91, none⟩,
 ⟨some 16, .buildSlice 110 15 #[(0, (.tmp 1)), (1, (.tmp 2)), (2, (.tmp 3)), (3, (.tmp 4)), (4, (.tmp 5)), (5, (.tmp 6)), (6, (.tmp 7)), (7, (.tmp 8)), (8, (.tmp 9)), (9, (.tmp 10)), (10, (.tmp 11)), (11, (.tmp 12)), (12, (.tmp 13)), (13, (.tmp 14)), (14, (.tmp 15))], 110, none⟩,
 ⟨some 0, .assign (.tmp 16), 110, none⟩] [0])
 .ret))
set_option maxRecDepth 100000 in
theorem ent72 (w : World) (K : Value → World → Prop) (h : W Try.prog c72 [] w (finQ Try.prog [.tmp 0] K)) : Ret Try.prog 72 [] w K :=
  Ret_of_W (code := c72code) Try.func72 (by kernel_rfl) (by kernel_rfl) (of_decide_eq_true (by kernel_rfl)) h
@[go_sem] theorem go72 : goFunc Try.prog 72 = true := by kernel_rfl
noncomputable def c73code : Code := match Try.f73.body with | some c => c | none => .skip
noncomputable def c73A0 (_ : Unit) : Cmd := (.ops [
 ⟨some 5, .assign (.tmp 7), 3, none⟩] [2, 5])
noncomputable def c73B0 (_ : Unit) : Cmd := (.block 1 (.ops [
 ⟨some 8, .load 76 (.tmp 2), 76, none⟩,
 ⟨some 9, .move (.tmp 5), 3, none⟩,
 ⟨some 10, .buildSlice 76 1 #[(0, (.tmp 9))], 76, none⟩,
 ⟨some 11, .call ⟨.builtin .append, #[(.tmp 8), (.tmp 10)], #[76, 76]⟩, 76, none⟩,
 ⟨none, .store 76 (.tmp 2) (.tmp 11), 0, none⟩] []))
noncomputable def c73S0 (_ : Unit) : Cmd := (.seq (.ops [
 ⟨some 12, .load 76 (.tmp 2), 76, none⟩,
 ⟨some 4, .assign (.tmp 12), 76, none⟩] [4])
 .ret)
noncomputable def c73 : Cmd := (.seq (.ops [
 ⟨some 2, .box 76 (.tmp 0), 0, none⟩,
 ⟨some 4, .assign (.const (.slice none 0 0)), 76, none⟩] [1, 2, 4])
 (.seq (.seq (.ops [
 ⟨some 6, .move (.tmp 1), 79, none⟩] [2, 4, 6])
 (.block 0 (.rangeF (.tmp 6) [7] (sg c73A0) (sg c73B0) [2, 4]))) (sg c73S0)))
set_option maxRecDepth 100000 in
theorem ent73 (a0 a1 : Value) (w : World) (K : Value → World → Prop) (h : W Try.prog c73 [(0, a0), (1, a1)] w (finQ Try.prog [.tmp 4] K)) : Ret Try.prog 73 [a0, a1] w K :=
  Ret_of_W (code := c73code) Try.func73 (by kernel_rfl) (by kernel_rfl) (of_decide_eq_true (by kernel_rfl)) h
@[go_sem] theorem go73 : goFunc Try.prog 73 = true := by kernel_rfl
noncomputable def c89code : Code := match Try.f89.body with | some c => c | none => .skip
noncomputable def c89S0 (_ : Unit) : Cmd := (.cond (.tmp 16)
  (.seq (.ops [
  ⟨some 17, .move (.tmp 5), 3, none⟩,
  ⟨some 4, .assign (.tmp 17), 3, none⟩] [4])
  .ret)
  (.skip [0, 1, 7, 8]))
noncomputable def c89S1 (_ : Unit) : Cmd := (.ops [
 ⟨some 18, .binOp .add 3 (.tmp 8) (.const (.int .i64 1)) 3, 3, none⟩,
 ⟨some 8, .move (.tmp 18), 3, none⟩] [0, 1, 7, 8])
noncomputable def c89S2 (_ : Unit) : Cmd := (.seq (.block 1 (.seq (.ops [
 ⟨some 10, .move (.tmp 8), 3, none⟩,
 ⟨some 5, .assign (.tmp 10), 3, none⟩] [0, 1, 5, 7, 8])
 (.seq (.ops [
 ⟨some 11, .move (.tmp 1), 26, none⟩,
 ⟨some 12, .move (.tmp 0), 27, none⟩,
 ⟨some 13, .move (.tmp 5), 3, none⟩,
 ⟨some 14, .indexAddr 27 (.tmp 12) (.tmp 13), 0, none⟩,
 ⟨some 15, .load 23 (.tmp 14), 23, none⟩,
 ⟨some 16, .call ⟨.value (.tmp 11), #[(.tmp 15)], #[23]⟩, 4, none⟩] [0, 1, 5, 7, 8, 16]) (sg c89S0)))) (sg c89S1))
noncomputable def c89L0 (_ : Unit) : Cmd := (.seq (.ops [
 ⟨some 9, .binOp .lss 3 (.tmp 8) (.tmp 7) 3, 0, none⟩] [0, 1, 7, 8, 9])
 (.seq (.cond (.tmp 9)
  (.skip [0, 1, 7, 8])
  (.exit 0 [])) (sg c89S2)))
noncomputable def c89S3 (_ : Unit) : Cmd := (.seq (.ops [
 ⟨some 4, .assign (.const (.int .i64 (-1))), 3, none⟩] [4])
 .ret)
noncomputable def c89 : Cmd := (.seq (.ops [
 ⟨some 4, .assign (.const (.int .i64 0)), 3, none⟩] [0, 1])
 (.seq (.seq (.ops [
 ⟨some 6, .move (.tmp 0), 27, none⟩,
 ⟨some 7, .call ⟨.builtin .len, #[(.tmp 6)], #[27]⟩, 3, none⟩,
 ⟨some 8, .move (.const (.int .i64 0)), 3, none⟩] [0, 1, 7, 8])
 (.block 0 (.loop (sg c89L0)))) (sg c89S3)))
set_option maxRecDepth 100000 in
theorem ent89 (a0 a1 : Value) (w : World) (K : Value → World → Prop) (h : W Try.prog c89 [(0, a0), (1, a1)] w (finQ Try.prog [.tmp 4] K)) : Ret Try.prog 89 [a0, a1] w K :=
  Ret_of_W (code := c89code) Try.func89 (by kernel_rfl) (by kernel_rfl) (of_decide_eq_true (by kernel_rfl)) h
@[go_sem] theorem go89 : goFunc Try.prog 89 = true := by kernel_rfl
@[go_sem] theorem go44 : goFunc Try.prog 44 = true := by kernel_rfl
@[go_sem] theorem go66 : goFunc Try.prog 66 = true := by kernel_rfl
@[go_sem] theorem go67 : goFunc Try.prog 67 = true := by kernel_rfl
noncomputable def c60code : Code := match Try.f60.body with | some c => c | none => .skip
noncomputable def c60S0 (_ : Unit) : Cmd := .ret
noncomputable def c60S1 (_ : Unit) : Cmd := .ret
noncomputable def c60S2 (_ : Unit) : Cmd := (.ops [
  ⟨some 45, .move (.tmp 3), 3, none⟩,
  ⟨some 46, .binOp .sub 3 (.tmp 45) (.const (.int .i64 1)) 3, 3, none⟩,
  ⟨some 3, .assign (.tmp 46), 3, none⟩] [0, 1, 2, 3, 4, 10, 11, 12])
noncomputable def c60S3 (_ : Unit) : Cmd := (.seq (.ops [
  ⟨some 62, .move (.tmp 2), 3, none⟩,
  ⟨some 63, .binOp .sub 3 (.tmp 62) (.const (.int .i64 1)) 3, 3, none⟩,
  ⟨some 64, .move (.tmp 13), 3, none⟩,
  ⟨some 65, .move (.tmp 1), 3, none⟩,
  ⟨some 66, .binOp .sub 3 (.tmp 64) (.tmp 65) 3, 3, none⟩,
  ⟨some 67, .binOp .sub 3 (.tmp 63) (.tmp 66) 3, 3, none⟩,
  ⟨some 13, .assign (.tmp 67), 3, none⟩] [0, 1, 2, 3, 4, 10, 11, 12, 13])
  (.ops [
  ⟨some 14, .assign (.const (.int .i64 1)), 115, none⟩] [0, 1, 2, 3, 4, 10, 11, 12, 13, 14]))
noncomputable def c60S4 (_ : Unit) : Cmd := (.cond (.tmp 80)
   .ret
   (.skip [0, 1, 2, 3, 4, 10, 11, 12, 13]))
noncomputable def c60S5 (_ : Unit) : Cmd := (.seq (.ops [
  ⟨some 104, .move (.tmp 15), 3, none⟩,
  ⟨some 1, .assign (.tmp 104), 3, none⟩] [0, 1, 2, 3, 4, 10, 11])
  (.exit 1 [0, 1, 2, 3, 4, 10, 11]))
noncomputable def c60S6 (_ : Unit) : Cmd := (.cond (.tmp 97)
  (.seq (.ops [
  ⟨some 98, .move (.tmp 0), 27, none⟩,
  ⟨some 99, .move (.tmp 1), 3, none⟩,
  ⟨some 100, .move (.tmp 2), 3, none⟩,
  ⟨some 101, .move (.tmp 13), 3, none⟩,
  ⟨some 102, .move (.tmp 4), 84, none⟩,
  ⟨some 103, .call ⟨.value (.func 81), #[(.tmp 98), (.tmp 99), (.tmp 100), (.tmp 101), (.tmp 102)], #[27, 3, 3, 3, 84]⟩, 3, none⟩,
  ⟨some 15, .assign (.tmp 103), 3, none⟩] [0, 2, 3, 4, 10, 11, 15]) (sg c60S5))
  (.skip [0, 1, 2, 3, 4, 12, 13]))
noncomputable def c60S7 (_ : Unit) : Cmd := (.ops [
  ⟨some 135, .move (.tmp 16), 3, none⟩,
  ⟨some 136, .binOp .add 3 (.tmp 135) (.const (.int .i64 1)) 3, 3, none⟩,
  ⟨some 1, .assign (.tmp 136), 3, none⟩] [0, 1, 2, 3, 4, 10, 11])
noncomputable def c60S8 (_ : Unit) : Cmd := (.ops [
  ⟨some 147, .move (.tmp 16), 3, none⟩,
  ⟨some 2, .assign (.tmp 147), 3, none⟩] [0, 1, 2, 3, 4, 10, 11])
noncomputable def c60S9 (_ : Unit) : Cmd := (.seq (.ops [
 ⟨some 114, .move (.tmp 17), 4, none⟩,
 ⟨some 11, .assign (.tmp 114), 4, none⟩] [0, 1, 2, 3, 4, 11, 12, 16])
 (.seq (.ops [
 ⟨some 115, .move (.tmp 16), 3, none⟩,
 ⟨some 116, .move (.tmp 1), 3, none⟩,
 ⟨some 117, .binOp .sub 3 (.tmp 115) (.tmp 116) 3, 3, none⟩,
 ⟨some 118, .move (.tmp 2), 3, none⟩,
 ⟨some 119, .move (.tmp 16), 3, none⟩,
 ⟨some 120, .binOp .sub 3 (.tmp 118) (.tmp 119) 3, 3, none⟩,
 ⟨some 18, .assign (.tmp 117), 3, none⟩,
 ⟨some 19, .assign (.tmp 120), 3, none⟩] [0, 1, 2, 3, 4, 11, 12, 16, 18, 19])
 (.seq (.ops [
 ⟨some 121, .move (.tmp 12), 3, none⟩,
 ⟨some 122, .binOp .quo 3 (.tmp 121) (.const (.int .i64 8)) 3, 3, none⟩,
 ⟨some 20, .assign (.tmp 122), 3, none⟩] [0, 1, 2, 3, 4, 11, 16, 18, 19, 20])
 (.seq (.ops [
 ⟨some 123, .move (.tmp 18), 3, none⟩,
 ⟨some 124, .move (.tmp 19), 3, none⟩,
 ⟨some 125, .binOp .lss 3 (.tmp 123) (.tmp 124) 3, 4, none⟩] [0, 1, 2, 3, 4, 11, 16, 18, 19, 20, 125])
 (.cond (.tmp 125)
  (.seq (.ops [
  ⟨some 126, .move (.tmp 18), 3, none⟩,
  ⟨some 127, .move (.tmp 20), 3, none⟩,
  ⟨some 128, .binOp .geq 3 (.tmp 126) (.tmp 127) 3, 4, none⟩,
  ⟨some 10, .assign (.tmp 128), 4, none⟩] [0, 1, 2, 3, 4, 10, 11, 16])
  (.seq (.ops [
  ⟨some 129, .move (.tmp 0), 27, none⟩,
  ⟨some 130, .move (.tmp 1), 3, none⟩,
  ⟨some 131, .move (.tmp 16), 3, none⟩,
  ⟨some 132, .move (.tmp 3), 3, none⟩,
  ⟨some 133, .move (.tmp 4), 84, none⟩,
  ⟨some 134, .call ⟨.value (.func 60), #[(.tmp 129), (.tmp 130), (.tmp 131), (.tmp 132), (.tmp 133)], #[27, 3, 3, 3, 84]⟩, 0, none⟩] [0, 2, 3, 4, 10, 11, 16]) (sg c60S7)))
  (.seq (.ops [
  ⟨some 137, .move (.tmp 19), 3, none⟩,
  ⟨some 138, .move (.tmp 20), 3, none⟩,
  ⟨some 139, .binOp .geq 3 (.tmp 137) (.tmp 138) 3, 4, none⟩,
  ⟨some 10, .assign (.tmp 139), 4, none⟩] [0, 1, 2, 3, 4, 10, 11, 16])
  (.seq (.ops [
  ⟨some 140, .move (.tmp 0), 27, none⟩,
  ⟨some 141, .move (.tmp 16), 3, none⟩,
  ⟨some 142, .binOp .add 3 (.tmp 141) (.const (.int .i64 1)) 3, 3, none⟩,
  ⟨some 143, .move (.tmp 2), 3, none⟩,
  ⟨some 144, .move (.tmp 3), 3, none⟩,
  ⟨some 145, .move (.tmp 4), 84, none⟩,
  ⟨some 146, .call ⟨.value (.func 60), #[(.tmp 140), (.tmp 142), (.tmp 143), (.tmp 144), (.tmp 145)], #[27, 3, 3, 3, 84]⟩, 0, none⟩] [0, 1, 3, 4, 10, 11, 16]) (sg c60S8))))))))
noncomputable def c60S10 (_ : Unit) : Cmd := (.seq (.ops [
 ⟨some 106, .move (.tmp 0), 27, none⟩,
 ⟨some 107, .move (.tmp 1), 3, none⟩,
 ⟨some 108, .move (.tmp 2), 3, none⟩,
 ⟨some 109, .move (.tmp 13), 3, none⟩,
 ⟨some 110, .move (.tmp 4), 84, none⟩,
 ⟨some 111, .call ⟨.value (.func 82), #[(.tmp 106), (.tmp 107), (.tmp 108), (.tmp 109), (.tmp 110)], #[27, 3, 3, 3, 84]⟩, 120, none⟩,
 ⟨some 105, .move (.tmp 111), 120, none⟩,
 ⟨some 112, .extract (.tmp 105) 0, 3, none⟩,
 ⟨some 113, .extract (.tmp 105) 1, 4, none⟩,
 ⟨some 16, .assign (.tmp 112), 3, none⟩,
 ⟨some 17, .assign (.tmp 113), 4, none⟩] [0, 1, 2, 3, 4, 12, 16, 17]) (sg c60S9))
noncomputable def c60S11 (_ : Unit) : Cmd := (.seq (.seq (.draw (drawOps 0 c60code) [0, 1, 2, 3, 4, 10, 11, 12, 13, 97]) (sg c60S6)) (sg c60S10))
noncomputable def c60S12 (_ : Unit) : Cmd := (.seq (.seq (.ops [
 ⟨some 68, .move (.tmp 10), 4, none⟩,
 ⟨some 69, .move (.tmp 68), 4, none⟩,
 ⟨some 70, .move (.tmp 11), 4, (some (69, true))⟩,
 ⟨some 71, .pick (.tmp 69) (.tmp 70) (.const (.bool false)), 4, none⟩,
 ⟨some 72, .move (.tmp 71), 4, none⟩,
 ⟨some 73, .move (.tmp 14), 115, (some (72, true))⟩,
 ⟨some 74, .binOp .eql 115 (.tmp 73) (.const (.int .i64 1)) 115, 4, (some (72, true))⟩,
 ⟨some 75, .pick (.tmp 72) (.tmp 74) (.const (.bool false)), 4, none⟩] [0, 1, 2, 3, 4, 10, 11, 12, 13, 75])
 (.cond (.tmp 75)
  (.seq (.ops [
  ⟨some 76, .move (.tmp 0), 27, none⟩,
  ⟨some 77, .move (.tmp 1), 3, none⟩,
  ⟨some 78, .move (.tmp 2), 3, none⟩,
  ⟨some 79, .move (.tmp 4), 84, none⟩,
  ⟨some 80, .call ⟨.value (.func 80), #[(.tmp 76), (.tmp 77), (.tmp 78), (.tmp 79)], #[27, 3, 3, 84]⟩, 4, none⟩] [0, 1, 2, 3, 4, 10, 11, 12, 13, 80]) (sg c60S4))
  (.skip [0, 1, 2, 3, 4, 10, 11, 12, 13]))) (sg c60S11))
noncomputable def c60S13 (_ : Unit) : Cmd := (.seq (.seq (.ops [
 ⟨some 55, .move (.tmp 14), 115, none⟩,
 ⟨some 56, .binOp .eql 115 (.tmp 55) (.const (.int .i64 2)) 115, 4, none⟩] [0, 1, 2, 3, 4, 10, 11, 12, 13, 14, 56])
 (.cond (.tmp 56)
  (.seq (.ops [
  ⟨some 57, .move (.tmp 0), 27, none⟩,
  ⟨some 58, .move (.tmp 1), 3, none⟩,
  ⟨some 59, .move (.tmp 2), 3, none⟩,
  ⟨some 60, .move (.tmp 4), 84, none⟩,
  ⟨some 61, .call ⟨.value (.func 79), #[(.tmp 57), (.tmp 58), (.tmp 59), (.tmp 60)], #[27, 3, 3, 84]⟩, 0, none⟩] [0, 1, 2, 3, 4, 10, 11, 12, 13]) (sg c60S3))
  (.skip [0, 1, 2, 3, 4, 10, 11, 12, 13, 14]))) (sg c60S12))
noncomputable def c60S14 (_ : Unit) : Cmd := (.seq (.ops [
 ⟨some 48, .move (.tmp 0), 27, none⟩,
 ⟨some 49, .move (.tmp 1), 3, none⟩,
 ⟨some 50, .move (.tmp 2), 3, none⟩,
 ⟨some 51, .move (.tmp 4), 84, none⟩,
 ⟨some 52, .call ⟨.value (.func 78), #[(.tmp 48), (.tmp 49), (.tmp 50), (.tmp 51)], #[27, 3, 3, 84]⟩, 116, none⟩,
 ⟨some 47, .move (.tmp 52), 116, none⟩,
 ⟨some 53, .extract (.tmp 47) 0, 3, none⟩,
 ⟨some 54, .extract (.tmp 47) 1, 115, none⟩,
 ⟨some 13, .assign (.tmp 53), 3, none⟩,
 ⟨some 14, .assign (.tmp 54), 115, none⟩] [0, 1, 2, 3, 4, 10, 11, 12, 13, 14]) (sg c60S13))
noncomputable def c60S15 (_ : Unit) : Cmd := (.seq (.seq (.ops [
 ⟨some 38, .move (.tmp 10), 4, none⟩,
 ⟨some 39, .unOp .not 4 (.tmp 38), 4, none⟩] [0, 1, 2, 3, 4, 10, 11, 12, 39])
 (.cond (.tmp 39)
  (.seq (.ops [
  ⟨some 40, .move (.tmp 0), 27, none⟩,
  ⟨some 41, .move (.tmp 1), 3, none⟩,
  ⟨some 42, .move (.tmp 2), 3, none⟩,
  ⟨some 43, .move (.tmp 4), 84, none⟩,
  ⟨some 44, .call ⟨.value (.func 77), #[(.tmp 40), (.tmp 41), (.tmp 42), (.tmp 43)], #[27, 3, 3, 84]⟩, 0, none⟩] [0, 1, 2, 3, 4, 10, 11, 12]) (sg c60S2))
  (.skip [0, 1, 2, 3, 4, 10, 11, 12]))) (sg c60S14))
noncomputable def c60S16 (_ : Unit) : Cmd := (.seq (.seq (.ops [
 ⟨some 31, .move (.tmp 3), 3, none⟩,
 ⟨some 32, .binOp .eql 3 (.tmp 31) (.const (.int .i64 0)) 3, 4, none⟩] [0, 1, 2, 3, 4, 10, 11, 12, 32])
 (.cond (.tmp 32)
  (.seq (.ops [
  ⟨some 33, .move (.tmp 0), 27, none⟩,
  ⟨some 34, .move (.tmp 1), 3, none⟩,
  ⟨some 35, .move (.tmp 2), 3, none⟩,
  ⟨some 36, .move (.tmp 4), 84, none⟩,
  ⟨some 37, .call ⟨.value (.func 76), #[(.tmp 33), (.tmp 34), (.tmp 35), (.tmp 36)], #[27, 3, 3, 84]⟩, 0, none⟩] []) (sg c60S1))
  (.skip [0, 1, 2, 3, 4, 10, 11, 12]))) (sg c60S15))
noncomputable def c60L0 (_ : Unit) : Cmd := (.block 1 (.seq (.ops [
 ⟨some 21, .move (.tmp 2), 3, none⟩,
 ⟨some 22, .move (.tmp 1), 3, none⟩,
 ⟨some 23, .binOp .sub 3 (.tmp 21) (.tmp 22) 3, 3, none⟩,
 ⟨some 12, .assign (.tmp 23), 3, none⟩] [0, 1, 2, 3, 4, 10, 11, 12])
 (.seq (.seq (.ops [
 ⟨some 24, .move (.tmp 12), 3, none⟩,
 ⟨some 25, .binOp .leq 3 (.tmp 24) (.const (.int .i64 12)) 3, 4, none⟩] [0, 1, 2, 3, 4, 10, 11, 12, 25])
 (.cond (.tmp 25)
  (.seq (.ops [
  ⟨some 26, .move (.tmp 0), 27, none⟩,
  ⟨some 27, .move (.tmp 1), 3, none⟩,
  ⟨some 28, .move (.tmp 2), 3, none⟩,
  ⟨some 29, .move (.tmp 4), 84, none⟩,
  ⟨some 30, .call ⟨.value (.func 75), #[(.tmp 26), (.tmp 27), (.tmp 28), (.tmp 29)], #[27, 3, 3, 84]⟩, 0, none⟩] []) (sg c60S0))
  (.skip [0, 1, 2, 3, 4, 10, 11, 12]))) (sg c60S16))))
noncomputable def c60 : Cmd := (.seq (.ops [
 ⟨some 10, .assign (.const (.bool true)), 4, none⟩] [0, 1, 2, 3, 4, 10])
 (.seq (.ops [
 ⟨some 11, .assign (.const (.bool true)), 4, none⟩] [0, 1, 2, 3, 4, 10, 11])
 (.block 0 (.loop (sg c60L0)))))
set_option maxRecDepth 100000 in
theorem ent60 (a0 a1 a2 a3 a4 : Value) (w : World) (K : Value → World → Prop) (h : W Try.prog c60 [(0, a0), (1, a1), (2, a2), (3, a3), (4, a4)] w (finQ Try.prog [] K)) : Ret Try.prog 60 [a0, a1, a2, a3, a4] w K :=
  Ret_of_W (code := c60code) Try.func60 (by kernel_rfl) (by kernel_rfl) (of_decide_eq_true (by kernel_rfl)) h
@[go_sem] theorem go60 : goFunc Try.prog 60 = true := by kernel_rfl
noncomputable def c75code : Code := match Try.f75.body with | some c => c | none => .skip
noncomputable def c75S0 (_ : Unit) : Cmd := (.cond (.tmp 34)
  (.skip [0, 1, 2, 3, 8, 9])
  (.exit 2 [0, 1, 2, 3, 8]))
noncomputable def c75S1 (_ : Unit) : Cmd := (.ops [
 ⟨some 35, .move (.tmp 9), 3, none⟩,
 ⟨some 36, .binOp .sub 3 (.tmp 35) (.const (.int .i64 1)) 3, 3, none⟩,
 ⟨some 9, .assign (.tmp 36), 3, none⟩] [0, 1, 2, 3, 8, 9])
noncomputable def c75S2 (_ : Unit) : Cmd := (.seq (.block 3 (.draw (drawOps 1 c75code) [0, 1, 2, 3, 8, 9])) (sg c75S1))
noncomputable def c75L0 (_ : Unit) : Cmd := (.seq (.seq (.draw (drawOps 0 c75code) [0, 1, 2, 3, 8, 9, 34]) (sg c75S0)) (sg c75S2))
noncomputable def c75S3 (_ : Unit) : Cmd := (.ops [
 ⟨some 15, .move (.tmp 8), 3, none⟩,
 ⟨some 16, .binOp .add 3 (.tmp 15) (.const (.int .i64 1)) 3, 3, none⟩,
 ⟨some 8, .assign (.tmp 16), 3, none⟩] [0, 1, 2, 3, 8])
noncomputable def c75S4 (_ : Unit) : Cmd := (.seq (.block 1 (.seq (.ops [
 ⟨some 17, .move (.tmp 8), 3, none⟩,
 ⟨some 9, .assign (.tmp 17), 3, none⟩] [0, 1, 2, 3, 8, 9])
 (.block 2 (.loop (sg c75L0))))) (sg c75S3))
noncomputable def c75L1 (_ : Unit) : Cmd := (.seq (.seq (.ops [
 ⟨some 12, .move (.tmp 8), 3, none⟩,
 ⟨some 13, .move (.tmp 2), 3, none⟩,
 ⟨some 14, .binOp .lss 3 (.tmp 12) (.tmp 13) 3, 4, none⟩] [0, 1, 2, 3, 8, 14])
 (.cond (.tmp 14)
  (.skip [0, 1, 2, 3, 8])
  (.exit 0 []))) (sg c75S4))
noncomputable def c75 : Cmd := (.seq (.ops [
 ⟨some 10, .move (.tmp 1), 3, none⟩,
 ⟨some 11, .binOp .add 3 (.tmp 10) (.const (.int .i64 1)) 3, 3, none⟩,
 ⟨some 8, .assign (.tmp 11), 3, none⟩] [0, 1, 2, 3, 8])
 (.block 0 (.loop (sg c75L1))))
set_option maxRecDepth 100000 in
theorem ent75 (a0 a1 a2 a3 : Value) (w : World) (K : Value → World → Prop) (h : W Try.prog c75 [(0, a0), (1, a1), (2, a2), (3, a3)] w (finQ Try.prog [] K)) : Ret Try.prog 75 [a0, a1, a2, a3] w K :=
  Ret_of_W (code := c75code) Try.func75 (by kernel_rfl) (by kernel_rfl) (of_decide_eq_true (by kernel_rfl)) h
@[go_sem] theorem go75 : goFunc Try.prog 75 = true := by kernel_rfl
end Go.Proofs.Ytmdhcpghofadcaa

namespace Go.Proofs.Ytmdhcpghofadcaa
set_option linter.unusedSimpArgs false
set_option linter.unusedVariables false
set_option maxRecDepth 100000
open Go Go.Ann Go.RowKit
structure OpT where
  ID : Int
  Proc : Int
  Object : Int
  Kind : Int
  Method : Int
  Arg : Int
  Second : Int
  Done : Bool
  Result : Int
  Invoke : Int
  Return : Int
deriving DecidableEq
def OpT.enc (a : OpT) : List Value := [.int .i64 a.ID, .int .i64 a.Proc, .int .i64 a.Object, .int .i64 a.Kind, .int .i64 a.Method, .int .i64 a.Arg, .int .i64 a.Second, .bool a.Done, .int .i64 a.Result, .int .i64 a.Invoke, .int .i64 a.Return]
def OpT.wf (a : OpT) : Prop := kOk .i64 a.ID ∧ kOk .i64 a.Proc ∧ kOk .i64 a.Object ∧ kOk .i64 a.Kind ∧ kOk .i64 a.Method ∧ kOk .i64 a.Arg ∧ kOk .i64 a.Second ∧ kOk .i64 a.Result ∧ kOk .i64 a.Invoke ∧ kOk .i64 a.Return
theorem OpT.len (a : OpT) : a.enc.length = 11 := rfl
theorem OpT.one (a : OpT) : ∀ u ∈ a.enc, u.oneCell' = true := by intro u hu; simp only [OpT.enc, List.mem_cons, List.not_mem_nil, or_false] at hu; rcases hu with rfl | rfl | rfl | rfl | rfl | rfl | rfl | rfl | rfl | rfl | rfl <;> rfl
theorem OpT.ones (l : List OpT) : ∀ u ∈ l.flatMap OpT.enc, u.oneCell' = true := by intro u hu; obtain ⟨a, _, h⟩ := List.mem_flatMap.1 hu; exact a.one u h
theorem OpT.at (a : OpT) : a.enc[0]? = some (.int .i64 a.ID) ∧ a.enc[1]? = some (.int .i64 a.Proc) ∧ a.enc[2]? = some (.int .i64 a.Object) ∧ a.enc[3]? = some (.int .i64 a.Kind) ∧ a.enc[4]? = some (.int .i64 a.Method) ∧ a.enc[5]? = some (.int .i64 a.Arg) ∧ a.enc[6]? = some (.int .i64 a.Second) ∧ a.enc[7]? = some (.bool a.Done) ∧ a.enc[8]? = some (.int .i64 a.Result) ∧ a.enc[9]? = some (.int .i64 a.Invoke) ∧ a.enc[10]? = some (.int .i64 a.Return) := ⟨rfl, rfl, rfl, rfl, rfl, rfl, rfl, rfl, rfl, rfl, rfl⟩
set_option maxRecDepth 100000 in
theorem opens_OpT : Opens Try.prog 23 (fun _ (a : OpT) cs => cs = a.enc ∧ a.wf) := by
  intro H enc w base sp hd fuel cs x hx
  obtain ⟨hl, hf⟩ := opens_fields Try.underlying23 hx
  rw [show Try.prog.cellsOf 23 = 11 by kernel_rfl] at hl
  have c_0 : Try.prog.cellsOf 4 = 1 := by kernel_rfl
  have c_1 : Try.prog.cellsOf 3 = 1 := by kernel_rfl
  match cs, hl with
  | [v0, v1, v2, v3, v4, v5, v6, v7, v8, v9, v10], _ =>
    obtain ⟨n0, y0, g0⟩ := hf 0 _ rfl
    have h0 : DataW.trod enc Try.prog w base sp hd n0 3 (List.take (Try.prog.cellsOf 3) [v0, v1, v2, v3, v4, v5, v6, v7, v8, v9, v10]) = some y0 := g0
    rw [c_1] at h0
    obtain ⟨a0, e0⟩ := opens_int Try.underlying3 enc w base sp hd n0 [v0] y0 h0
    have r0 : v0 = _ := (List.cons.inj e0.1).1
    obtain ⟨n1, y1, g1⟩ := hf 1 _ rfl
    have h1 : DataW.trod enc Try.prog w base sp hd n1 3 (List.take (Try.prog.cellsOf 3) [v1, v2, v3, v4, v5, v6, v7, v8, v9, v10]) = some y1 := g1
    rw [c_1] at h1
    obtain ⟨a1, e1⟩ := opens_int Try.underlying3 enc w base sp hd n1 [v1] y1 h1
    have r1 : v1 = _ := (List.cons.inj e1.1).1
    obtain ⟨n2, y2, g2⟩ := hf 2 _ rfl
    have h2 : DataW.trod enc Try.prog w base sp hd n2 3 (List.take (Try.prog.cellsOf 3) [v2, v3, v4, v5, v6, v7, v8, v9, v10]) = some y2 := g2
    rw [c_1] at h2
    obtain ⟨a2, e2⟩ := opens_int Try.underlying3 enc w base sp hd n2 [v2] y2 h2
    have r2 : v2 = _ := (List.cons.inj e2.1).1
    obtain ⟨n3, y3, g3⟩ := hf 3 _ rfl
    have h3 : DataW.trod enc Try.prog w base sp hd n3 3 (List.take (Try.prog.cellsOf 3) [v3, v4, v5, v6, v7, v8, v9, v10]) = some y3 := g3
    rw [c_1] at h3
    obtain ⟨a3, e3⟩ := opens_int Try.underlying3 enc w base sp hd n3 [v3] y3 h3
    have r3 : v3 = _ := (List.cons.inj e3.1).1
    obtain ⟨n4, y4, g4⟩ := hf 4 _ rfl
    have h4 : DataW.trod enc Try.prog w base sp hd n4 3 (List.take (Try.prog.cellsOf 3) [v4, v5, v6, v7, v8, v9, v10]) = some y4 := g4
    rw [c_1] at h4
    obtain ⟨a4, e4⟩ := opens_int Try.underlying3 enc w base sp hd n4 [v4] y4 h4
    have r4 : v4 = _ := (List.cons.inj e4.1).1
    obtain ⟨n5, y5, g5⟩ := hf 5 _ rfl
    have h5 : DataW.trod enc Try.prog w base sp hd n5 3 (List.take (Try.prog.cellsOf 3) [v5, v6, v7, v8, v9, v10]) = some y5 := g5
    rw [c_1] at h5
    obtain ⟨a5, e5⟩ := opens_int Try.underlying3 enc w base sp hd n5 [v5] y5 h5
    have r5 : v5 = _ := (List.cons.inj e5.1).1
    obtain ⟨n6, y6, g6⟩ := hf 6 _ rfl
    have h6 : DataW.trod enc Try.prog w base sp hd n6 3 (List.take (Try.prog.cellsOf 3) [v6, v7, v8, v9, v10]) = some y6 := g6
    rw [c_1] at h6
    obtain ⟨a6, e6⟩ := opens_int Try.underlying3 enc w base sp hd n6 [v6] y6 h6
    have r6 : v6 = _ := (List.cons.inj e6.1).1
    obtain ⟨n7, y7, g7⟩ := hf 7 _ rfl
    have h7 : DataW.trod enc Try.prog w base sp hd n7 4 (List.take (Try.prog.cellsOf 4) [v7, v8, v9, v10]) = some y7 := g7
    rw [c_0] at h7
    obtain ⟨a7, e7⟩ := opens_bool Try.underlying4 enc w base sp hd n7 [v7] y7 h7
    have r7 : v7 = _ := (List.cons.inj e7).1
    obtain ⟨n8, y8, g8⟩ := hf 8 _ rfl
    have h8 : DataW.trod enc Try.prog w base sp hd n8 3 (List.take (Try.prog.cellsOf 3) [v8, v9, v10]) = some y8 := g8
    rw [c_1] at h8
    obtain ⟨a8, e8⟩ := opens_int Try.underlying3 enc w base sp hd n8 [v8] y8 h8
    have r8 : v8 = _ := (List.cons.inj e8.1).1
    obtain ⟨n9, y9, g9⟩ := hf 9 _ rfl
    have h9 : DataW.trod enc Try.prog w base sp hd n9 3 (List.take (Try.prog.cellsOf 3) [v9, v10]) = some y9 := g9
    rw [c_1] at h9
    obtain ⟨a9, e9⟩ := opens_int Try.underlying3 enc w base sp hd n9 [v9] y9 h9
    have r9 : v9 = _ := (List.cons.inj e9.1).1
    obtain ⟨n10, y10, g10⟩ := hf 10 _ rfl
    have h10 : DataW.trod enc Try.prog w base sp hd n10 3 (List.take (Try.prog.cellsOf 3) [v10]) = some y10 := g10
    rw [c_1] at h10
    obtain ⟨a10, e10⟩ := opens_int Try.underlying3 enc w base sp hd n10 [v10] y10 h10
    have r10 : v10 = _ := (List.cons.inj e10.1).1
    exact ⟨⟨a0, a1, a2, a3, a4, a5, a6, a7, a8, a9, a10⟩, by rw [r0, r1, r2, r3, r4, r5, r6, r7, r8, r9, r10]; rfl, e0.2, e1.2, e2.2, e3.2, e4.2, e5.2, e6.2, e8.2, e9.2, e10.2⟩
set_option maxRecDepth 100000 in
theorem opens_Ops : Opens Try.prog 27 (fun w (xs : List OpT) cs => ∃ v, cs = [v] ∧ RdS w 11 OpT.enc v xs ∧ (∀ x ∈ xs, x.wf) ∧ (xs.length : Int) ≤ 9223372036854775807) :=
  Opens.mono (opens_slice opens_OpT Try.underlying27 (by kernel_rfl)) fun w xs cs ⟨v, h1, h2, h3⟩ =>
    have h := h2.plain (enc := OpT.enc) (ok := OpT.wf) fun _ _ h => h
    ⟨xs, v, h1, h.1, h.2, h3⟩
end Go.Proofs.Ytmdhcpghofadcaa

namespace Go.Proofs.Ytmdhcpghofadcaa
set_option linter.unusedSimpArgs false
set_option linter.unusedVariables false
set_option maxRecDepth 100000
open Go Go.Ann Go.RowKit
def before (a b : OpT) : Bool := a.Done && decide (a.Return < b.Invoke)
theorem rbefore_ok (a b : OpT) (w : World) : Ret Try.prog 56 [.agg a.enc.toArray, .agg b.enc.toArray] w fun v w' => v = .bool (before a b) ∧ Below w.heap.size w w' := by
  refine ent56 _ _ _ _ ?_
  have ha := a.at; have hb := b.at
  simp (disch := first | omega | exact okFill_t rfl | exact okSize_t rfl | exact fun h => h | (simp only [World.size_alloc, World.size_drew, World.size_setCell, size_fill, bytesW]; omega)) only [go_sem, c56, ha, hb]
  unfold before
  refine ⟨fun h => ?_, fun h => ?_⟩
  · rw [h]; exact ⟨rfl, by (repeat' (first | with_reducible exact Below.refl _ _ | with_reducible assumption | (with_reducible refine Below.drew ?_) | (with_reducible refine Below.alloc ?_ ?_ _) | (with_reducible refine Below.setCell ?_ ?_ _) | (with_reducible refine Below.fill ?_ ?_) | (with_reducible refine Below.via (by assumption) ?_ ?_) | omega | (simp only [World.size_alloc, World.size_drew, World.size_setCell, size_fill, bytesW]; omega)))⟩
  · rw [h]; exact ⟨rfl, by (repeat' (first | with_reducible exact Below.refl _ _ | with_reducible assumption | (with_reducible refine Below.drew ?_) | (with_reducible refine Below.alloc ?_ ?_ _) | (with_reducible refine Below.setCell ?_ ?_ _) | (with_reducible refine Below.fill ?_ ?_) | (with_reducible refine Below.via (by assumption) ?_ ?_) | omega | (simp only [World.size_alloc, World.size_drew, World.size_setCell, size_fill, bytesW]; omega)))⟩
theorem before_ok (a b : OpT) (w : World) : Ret Try.prog 71 [.agg a.enc.toArray, .agg b.enc.toArray] w fun v w' => v = .bool (before a b) ∧ Below w.heap.size w w' := by
  refine ent71 _ _ _ _ ?_
  have ha := a.at; have hb := b.at
  simp (disch := first | omega | exact okFill_t rfl | exact okSize_t rfl | exact fun h => h | (simp only [World.size_alloc, World.size_drew, World.size_setCell, size_fill, bytesW]; omega)) only [go_sem, c71, ha, hb]
  unfold before
  refine ⟨fun h => ?_, fun h => ?_⟩
  · rw [h]; exact ⟨rfl, by (repeat' (first | with_reducible exact Below.refl _ _ | with_reducible assumption | (with_reducible refine Below.drew ?_) | (with_reducible refine Below.alloc ?_ ?_ _) | (with_reducible refine Below.setCell ?_ ?_ _) | (with_reducible refine Below.fill ?_ ?_) | (with_reducible refine Below.via (by assumption) ?_ ?_) | omega | (simp only [World.size_alloc, World.size_drew, World.size_setCell, size_fill, bytesW]; omega)))⟩
  · rw [h]; exact ⟨rfl, by (repeat' (first | with_reducible exact Below.refl _ _ | with_reducible assumption | (with_reducible refine Below.drew ?_) | (with_reducible refine Below.alloc ?_ ?_ _) | (with_reducible refine Below.setCell ?_ ?_ _) | (with_reducible refine Below.fill ?_ ?_) | (with_reducible refine Below.via (by assumption) ?_ ?_) | omega | (simp only [World.size_alloc, World.size_drew, World.size_setCell, size_fill, bytesW]; omega)))⟩
def Pure (l : List OpT) : Prop := ∀ a ∈ l, ∀ b ∈ l, a.ID = b.ID → a = b
structure Seg where
  obj : Int
  kind : Int
  ops : List OpT
deriving DecidableEq
def segR (w : World) (s : Seg) (c : List Value) : Prop := ∃ v, c = [.int .i64 s.obj, .int .i64 s.kind, v] ∧ RdS w 11 OpT.enc v s.ops ∧ (s.ops.length : Int) ≤ 9223372036854775806
theorem segR.below {w w' : World} (hb : Below w.heap.size w w') (s : Seg) (c : List Value) (h : segR w s c) : segR w' s c := by
  obtain ⟨v, rfl, h1, h2⟩ := h
  exact ⟨v, rfl, h1.below hb (by decide), h2⟩
end Go.Proofs.Ytmdhcpghofadcaa

namespace Go.Proofs.Ytmdhcpghofadcaa
set_option linter.unusedSimpArgs false
set_option linter.unusedVariables false
set_option maxRecDepth 100000
open Go Go.Ann Go.RowKit
def Tells (w : World) (fv : Value) (p : OpT → Bool) : Prop := ∀ x w', Below w.heap.size w w' → callW Try.prog fv [.agg x.enc.toArray] w' fun u w'' => u = .bool (p x) ∧ Below w'.heap.size w' w''
def firstI (p : OpT → Bool) (l : List OpT) : Int := match l.findIdx? p with | some i => i | none => -1
theorem firstI_at {p : OpT → Bool} {l : List OpT} {k : Nat} (h : k < l.length) (hp : p l[k] = true) (hb : ∀ j, (h : j < l.length) → j < k → p l[j] = false) : firstI p l = k := by
  unfold firstI
  rw [List.findIdx?_eq_some_iff_getElem.2 ⟨h, hp, fun j hj => by rw [hb j (by omega) hj]; decide⟩]
theorem firstI_none {p : OpT → Bool} {l : List OpT} (hb : ∀ j, (h : j < l.length) → p l[j] = false) : firstI p l = -1 := by
  unfold firstI
  rw [List.findIdx?_eq_none_iff.2 fun x hx => by obtain ⟨j, hj, rfl⟩ := List.mem_iff_getElem.1 hx; exact hb j hj]
theorem firstI_any {p : OpT → Bool} {l : List OpT} : decide (0 ≤ firstI p l) = l.any p := by
  rcases h : l.any p with _ | _
  · rw [firstI_none fun j hj => by simpa using (List.any_eq_false.1 h) _ (List.getElem_mem hj)]; decide
  · unfold firstI
    cases e : l.findIdx? p with
    | none => rw [List.findIdx?_eq_none_iff] at e; obtain ⟨x, hx, hp⟩ := List.any_eq_true.1 h; rw [e x hx] at hp; cases hp
    | some i => exact decide_eq_true (by show (0 : Int) ≤ (i : Int); omega)
theorem indexFunc_ok (fv : Value) (p : OpT → Bool) (v : Value) (l : List OpT) (w : World) (h : RdS w 11 OpT.enc v l) (hf : Tells w fv p) (hl : (l.length : Int) ≤ 9223372036854775806) :
    Ret Try.prog 89 [v, fv] w fun u w' => u = .int .i64 (firstI p l) ∧ Below w.heap.size w w' := by
  obtain ⟨a, c, rfl, _⟩ := h.form
  refine ent89 _ _ _ _ ?_
  simp (disch := first | omega | exact okFill_t rfl | exact okSize_t rfl | exact fun h => h | (simp only [World.size_alloc, World.size_drew, World.size_setCell, size_fill, bytesW]; omega)) only [go_sem, c89, c89S0, c89S1, c89S2, c89L0, c89S3]
  refine W_loopU (fun k : Nat => [(8, .int .i64 k)]) (fun k w' => Below w.heap.size w w' ∧ k ≤ l.length ∧ ∀ j, (h : j < l.length) → j < k → p l[j] = false) (fun k => l.length - k) 0 rfl ⟨Below.refl _ _, Nat.zero_le _, fun j _ h => by omega⟩ ?_
  rintro k w1 ⟨hw, hk, he⟩
  by_cases hlt : k < l.length
  · obtain ⟨q, rfl⟩ := h.ptr (by omega)
    have ek := h.eltB hw OpT.len (by decide) hlt
    have ck := cellsO_below hw (h.at OpT.len hlt)
    have hlt' : (k : Int) < l.length := by omega
    simp (disch := first | omega | exact okFill_t rfl | exact okSize_t rfl | exact fun h => h | (simp only [World.size_alloc, World.size_drew, World.size_setCell, size_fill, bytesW]; omega)) only [go_sem, c89, c89S0, c89S1, c89S2, c89L0, c89S3, hlt', ck, ek]
    refine ⟨by omega, callW_mono (hf _ _ hw) ?_⟩
    rintro _ w2 ⟨rfl, hb⟩
    simp (disch := first | omega | exact okFill_t rfl | exact okSize_t rfl | exact fun h => h | (simp only [World.size_alloc, World.size_drew, World.size_setCell, size_fill, bytesW]; omega)) only [go_sem, c89, c89S0, c89S1, c89S2, c89L0, c89S3, hlt']
    have hwt := hw.trans (hb.mono hw.size)
    refine ⟨fun hp => ⟨(firstI_at hlt hp he).symm, hwt⟩, fun hp => ⟨⟨by omega, by omega⟩, k + 1, rfl, ⟨hwt, by omega, fun j h1 h2 => ?_⟩, by omega⟩⟩
    rcases Nat.lt_or_ge j k with h' | h'
    · exact he j h1 h'
    · obtain rfl : j = k := by omega
      exact hp
  · have hlt' : ¬ (k : Int) < l.length := by omega
    simp (disch := first | omega | exact okFill_t rfl | exact okSize_t rfl | exact fun h => h | (simp only [World.size_alloc, World.size_drew, World.size_setCell, size_fill, bytesW]; omega)) only [go_sem, c89, c89S0, c89S1, c89S2, c89L0, c89S3, hlt']
    exact ⟨(firstI_none fun j h => he j h (by omega)).symm, hw⟩
theorem containsFunc_ok (fv : Value) (p : OpT → Bool) (v : Value) (l : List OpT) (w : World) (h : RdS w 11 OpT.enc v l) (hf : Tells w fv p) (hl : (l.length : Int) ≤ 9223372036854775806) :
    Ret Try.prog 69 [v, fv] w fun u w' => u = .bool (l.any p) ∧ Below w.heap.size w w' := by
  refine ent69 _ _ _ _ ?_
  simp (disch := first | omega | exact okFill_t rfl | exact okSize_t rfl | exact fun h => h | (simp only [World.size_alloc, World.size_drew, World.size_setCell, size_fill, bytesW]; omega)) only [go_sem, c69, c69S0]
  refine Ret.mono (indexFunc_ok _ p _ _ _ h hf hl) ?_
  rintro _ w1 ⟨rfl, hb⟩
  simp (disch := first | omega | exact okFill_t rfl | exact okSize_t rfl | exact fun h => h | (simp only [World.size_alloc, World.size_drew, World.size_setCell, size_fill, bytesW]; omega)) only [go_sem, c69, c69S0]
  exact ⟨firstI_any, hb⟩
theorem quiet1_ok (o x : OpT) (b : Nat) (w : World) (h : Blk w b o.enc.toArray 23) :
    Ret Try.prog 70 [.agg x.enc.toArray, .pointer (some ⟨b, 0, none⟩)] w fun u w' => u = .bool (!before x o) ∧ Below w.heap.size w w' := by
  refine ent70 _ _ _ _ ?_
  have hr := (h.alloc (.cells x.enc.toArray 23)).rules
  have hlt := h.lt
  simp (disch := first | omega | exact okFill_t rfl | exact okSize_t rfl | exact fun h => h | (simp only [World.size_alloc, World.size_drew, World.size_setCell, size_fill, bytesW]; omega)) only [go_sem, c70, c70S0, hr]
  refine Ret.mono (before_ok x o _) ?_
  rintro _ w1 ⟨rfl, hb⟩
  simp (disch := first | omega | exact okFill_t rfl | exact okSize_t rfl | exact fun h => h | (simp only [World.size_alloc, World.size_drew, World.size_setCell, size_fill, bytesW]; omega)) only [go_sem, c70, c70S0, hr]
  (repeat' (first | with_reducible exact Below.refl _ _ | with_reducible assumption | (with_reducible refine Below.drew ?_) | (with_reducible refine Below.alloc ?_ ?_ _) | (with_reducible refine Below.setCell ?_ ?_ _) | (with_reducible refine Below.fill ?_ ?_) | (with_reducible refine Below.via (by assumption) ?_ ?_) | omega | (simp only [World.size_alloc, World.size_drew, World.size_setCell, size_fill, bytesW]; omega)))
theorem quiet_ok (v : Value) (l : List OpT) (o : OpT) (w : World) (h : RdS w 11 OpT.enc v l) (hl : (l.length : Int) ≤ 9223372036854775806) :
    Ret Try.prog 52 [v, .agg o.enc.toArray] w fun u w' => u = .bool (l.all fun x => before x o) ∧ Below w.heap.size w w' := by
  obtain ⟨a, c, rfl, _⟩ := h.form
  refine ent52 _ _ _ _ ?_
  simp (disch := first | omega | exact okFill_t rfl | exact okSize_t rfl | exact fun h => h | (simp only [World.size_alloc, World.size_drew, World.size_setCell, size_fill, bytesW]; omega)) only [go_sem, c52, c52S0]
  refine Ret.mono (containsFunc_ok _ (fun x => !before x o) _ _ _ (h.below ((Below.refl _ _).alloc (Nat.le_refl _) _) (by decide)) ?_ hl) ?_
  · intro x w' hb
    exact callW_go ⟨by kernel_rfl, quiet1_ok o x _ w' (Blk.new.below hb (by rw [World.size_alloc]; omega))⟩
  rintro _ w1 ⟨rfl, hb⟩
  simp (disch := first | omega | exact okFill_t rfl | exact okSize_t rfl | exact fun h => h | (simp only [World.size_alloc, World.size_drew, World.size_setCell, size_fill, bytesW]; omega)) only [go_sem, c52, c52S0]
  refine ⟨?_, by (repeat' (first | with_reducible exact Below.refl _ _ | with_reducible assumption | (with_reducible refine Below.drew ?_) | (with_reducible refine Below.alloc ?_ ?_ _) | (with_reducible refine Below.setCell ?_ ?_ _) | (with_reducible refine Below.fill ?_ ?_) | (with_reducible refine Below.via (by assumption) ?_ ?_) | omega | (simp only [World.size_alloc, World.size_drew, World.size_setCell, size_fill, bytesW]; omega)))⟩
  rw [List.not_all_eq_any_not]
theorem isNaN_ok (a : Int) (w : World) : Ret Try.prog 62 [.int .i64 a] w fun u w' => u = .bool false ∧ w' = w := by
  refine ent62 _ _ _ ?_
  simp (disch := first | omega | exact okFill_t rfl | exact okSize_t rfl | exact fun h => h | (simp only [World.size_alloc, World.size_drew, World.size_setCell, size_fill, bytesW]; omega)) only [go_sem, c62]
def cmpI (a b : Int) : Int := if a < b then -1 else if b < a then 1 else 0
theorem compare_ok (a b : Int) (w : World) : Ret Try.prog 42 [.int .i64 a, .int .i64 b] w fun u w' => u = .int .i64 (cmpI a b) ∧ w' = w := by
  refine ent42 _ _ _ _ ?_
  simp (disch := first | omega | exact okFill_t rfl | exact okSize_t rfl | exact fun h => h | (simp only [World.size_alloc, World.size_drew, World.size_setCell, size_fill, bytesW]; omega)) only [go_sem, c42, c42S0, c42S1, c42S2, c42S3, c42S4, c42S5, c42S6]
  refine Ret.mono (isNaN_ok _ _) ?_
  rintro _ _ ⟨rfl, rfl⟩
  simp (disch := first | omega | exact okFill_t rfl | exact okSize_t rfl | exact fun h => h | (simp only [World.size_alloc, World.size_drew, World.size_setCell, size_fill, bytesW]; omega)) only [go_sem, c42, c42S0, c42S1, c42S2, c42S3, c42S4, c42S5, c42S6]
  refine Ret.mono (isNaN_ok _ _) ?_
  rintro _ _ ⟨rfl, rfl⟩
  simp (disch := first | omega | exact okFill_t rfl | exact okSize_t rfl | exact fun h => h | (simp only [World.size_alloc, World.size_drew, World.size_setCell, size_fill, bytesW]; omega)) only [go_sem, c42, c42S0, c42S1, c42S2, c42S3, c42S4, c42S5, c42S6]
  unfold cmpI
  refine ⟨fun h => by rw [if_pos h], fun h => ⟨fun h2 => by rw [if_neg (by omega), if_pos h2], fun h2 => by rw [if_neg (by omega), if_neg (by omega)]⟩⟩
theorem clone_ok (v : Value) (l : List OpT) (w : World) (h : RdS w 11 OpT.enc v l) (hl : l.length ≤ 100) :
    Ret Try.prog 48 [v] w fun u w' => w'.ownsRow w.heap.size 23 11 u l.length (l.flatMap OpT.enc) ∧ Below w.heap.size w w' := by
  obtain ⟨a, c, rfl, _⟩ := h.form
  refine ent48 _ _ _ ?_
  simp (disch := first | omega | exact okFill_t rfl | exact okSize_t rfl | exact fun h => h | (simp only [World.size_alloc, World.size_drew, World.size_setCell, size_fill, bytesW]; omega)) only [go_sem, c48, c48S0, c48S1]
  have hSt := (St.start (W0 := w)).emptyRow 23 11
  refine ⟨fun ha => ?_, fun ha => bsW_none ty27mkI ?_⟩
  · cases a with
    | some a => cases ha
    | none =>
      have h0 : l = [] := by
        cases l with
        | nil => rfl
        | cons x l => obtain ⟨p, hp⟩ := h.ptr (by simp); cases hp
      subst h0
      exact ⟨⟨rfl, .inl ⟨rfl, rfl⟩⟩, Below.refl _ _⟩
  simp (disch := first | omega | exact okFill_t rfl | exact okSize_t rfl | exact fun h => h | (simp only [World.size_alloc, World.size_drew, World.size_setCell, size_fill, bytesW]; omega)) only [go_sem, c48, c48S0, c48S1]
  refine hSt.append 0 rfl ty27mkI rfl (by decide) (h.below hSt.bel (by decide)) (OpT.ones l) (by omega) (by omega) ?_
  intro v2 w2 s2 _
  have e2 := s2.row 0 rfl
  rw [Nat.zero_add, List.nil_append] at e2
  simp (disch := first | omega | exact okFill_t rfl | exact okSize_t rfl | exact fun h => h | (simp only [World.size_alloc, World.size_drew, World.size_setCell, size_fill, bytesW]; omega)) only [go_sem, c48, c48S0, c48S1]
  exact ⟨e2, s2.bel⟩
theorem find_at {α : Type} {p : α → Bool} : ∀ {l : List α} {k : Nat} (h : k < l.length), p l[k] = true → (∀ j, (h : j < l.length) → j < k → p l[j] = false) → l.find? p = some l[k]
  | a :: l, 0, h, hp, _ => by rw [List.find?_cons_of_pos (by exact hp)]; rfl
  | a :: l, k + 1, h, hp, hb => by
    rw [List.find?_cons_of_neg (by have := hb 0 (by simp) (by omega); exact Bool.eq_false_iff.1 this)]
    exact find_at (l := l) (k := k) (by simpa using h) hp fun j h1 h2 => hb (j + 1) (by simpa using h1) (by omega)
theorem or_ok (v : Value) (l : List Int) (w : World) (h : RdS w 1 (fun n => [.int .i64 n]) v l) (hl : (l.length : Int) ≤ 9223372036854775806) :
    Ret Try.prog 41 [v] w fun u w' => u = .int .i64 ((l.find? (· ≠ 0)).getD 0) ∧ w' = w := by
  obtain ⟨a, c, rfl, _⟩ := h.form
  refine ent41 _ _ _ ?_
  simp (disch := first | omega | exact okFill_t rfl | exact okSize_t rfl | exact fun h => h | (simp only [World.size_alloc, World.size_drew, World.size_setCell, size_fill, bytesW]; omega)) only [go_sem, c41, c41S0, c41S1, c41L0, c41S2]
  refine W_loopU (fun k : Nat => [(8, .int .i64 k)]) (fun k w' => w' = w ∧ k ≤ l.length ∧ ∀ j, (h : j < l.length) → j < k → l[j] = 0) (fun k => l.length - k) 0 rfl ⟨rfl, Nat.zero_le _, fun j _ h => by omega⟩ ?_
  rintro k _ ⟨rfl, hk, he⟩
  by_cases hlt : k < l.length
  · obtain ⟨q, rfl⟩ := h.ptr (by omega)
    have ck := h.at1 (e1 := fun n => .int .i64 n) hlt
    have hlt' : (k : Int) < l.length := by omega
    simp (disch := first | omega | exact okFill_t rfl | exact okSize_t rfl | exact fun h => h | (simp only [World.size_alloc, World.size_drew, World.size_setCell, size_fill, bytesW]; omega)) only [go_sem, c41, c41S0, c41S1, c41L0, c41S2, hlt', ck]
    refine ⟨by omega, fun hne => ?_, fun h0 => ⟨⟨by omega, by omega⟩, k + 1, rfl, ⟨by omega, fun j h1 h2 => ?_⟩, by omega⟩⟩
    · rw [find_at hlt (by simpa using hne) fun j h h2 => by simpa using he j h h2]; rfl
    · rcases Nat.lt_or_ge j k with h' | h'
      · exact he j h1 h'
      · obtain rfl : j = k := by omega
        exact h0
  · have hlt' : ¬ (k : Int) < l.length := by omega
    simp (disch := first | omega | exact okFill_t rfl | exact okSize_t rfl | exact fun h => h | (simp only [World.size_alloc, World.size_drew, World.size_setCell, size_fill, bytesW]; omega)) only [go_sem, c41, c41S0, c41S1, c41L0, c41S2, hlt']
    rw [List.find?_eq_none.2 fun x hx => by obtain ⟨j, hj, rfl⟩ := List.mem_iff_getElem.1 hx; simpa using he j hj (by omega)]
    rfl
end Go.Proofs.Ytmdhcpghofadcaa

namespace Go.Proofs.Ytmdhcpghofadcaa
open Go Go.Proofs Go.Shelf
set_option linter.unusedVariables false
def laySortOps_ren : Go.Shelf.Ren := ⟨fun | 6 => 39 | 15 => 61 | 14 => 60 | 28 => 83 | 29 => 84 | 20 => 75 | 21 => 76 | 22 => 77 | 23 => 78 | 24 => 79 | 25 => 80 | 26 => 81 | 27 => 82 | 46 => 99 | 47 => 100 | 48 => 101 | 49 => 102 | 50 => 103 | 57 => 108 | n => n, fun | 22 => 27 | 24 => 23 | 25 => 84 | 3 => 3 | 39 => 100 | 0 => 0 | 53 => 45 | 55 => 72 | 4 => 4 | 46 => 116 | 45 => 115 | 50 => 120 | 5 => 5 | 9 => 9 | 66 => 134 | 70 => 138 | 76 => 143 | 77 => 38 | n => n, fun | n => n⟩
theorem laySortOps : Go.Proofs.SlLaysF0.n6 Try.prog laySortOps_ren := {
    mixed := by kernel_rfl,
    f6 := ⟨Try.f39.name, by decide, Try.func39.trans (congrArg some (by kernel_rfl))⟩,
    f14 := ⟨Try.f60.name, by decide, Try.func60.trans (congrArg some (by kernel_rfl))⟩,
    f15 := Try.func61.trans (congrArg some (by kernel_rfl)),
    f20 := ⟨Try.f75.name, by decide, Try.func75.trans (congrArg some (by kernel_rfl))⟩,
    f21 := ⟨Try.f76.name, by decide, Try.func76.trans (congrArg some (by kernel_rfl))⟩,
    f22 := ⟨Try.f77.name, by decide, Try.func77.trans (congrArg some (by kernel_rfl))⟩,
    f23 := ⟨Try.f78.name, by decide, Try.func78.trans (congrArg some (by kernel_rfl))⟩,
    f24 := ⟨Try.f79.name, by decide, Try.func79.trans (congrArg some (by kernel_rfl))⟩,
    f25 := ⟨Try.f80.name, by decide, Try.func80.trans (congrArg some (by kernel_rfl))⟩,
    f26 := ⟨Try.f81.name, by decide, Try.func81.trans (congrArg some (by kernel_rfl))⟩,
    f27 := ⟨Try.f82.name, by decide, Try.func82.trans (congrArg some (by kernel_rfl))⟩,
    f28 := Try.func83.trans (congrArg some (by kernel_rfl)),
    f29 := Try.func84.trans (congrArg some (by kernel_rfl)),
    f46 := ⟨Try.f99.name, by decide, Try.func99.trans (congrArg some (by kernel_rfl))⟩,
    f47 := Try.func100.trans (congrArg some (by kernel_rfl)),
    f48 := Try.func101.trans (congrArg some (by kernel_rfl)),
    f49 := ⟨Try.f102.name, by decide, Try.func102.trans (congrArg some (by kernel_rfl))⟩,
    f50 := ⟨Try.f103.name, by decide, Try.func103.trans (congrArg some (by kernel_rfl))⟩,
    f57 := ⟨Try.f108.name, by decide, Try.func108.trans (congrArg some (by kernel_rfl))⟩,
    t0 := Try.underlying0,
    a0 := Try.isAgg0,
    z0 := Try.sizeOf0,
    v0 := Try.zeroValue0,
    t3 := Try.underlying3,
    a3 := Try.isAgg3,
    z3 := Try.sizeOf3,
    v3 := Try.zeroValue3,
    t4 := Try.underlying4,
    a4 := Try.isAgg4,
    z4 := Try.sizeOf4,
    v4 := Try.zeroValue4,
    t5 := Try.underlying5,
    a5 := Try.isAgg5,
    z5 := Try.sizeOf5,
    v5 := Try.zeroValue5,
    t9 := Try.underlying9,
    a9 := Try.isAgg9,
    z9 := Try.sizeOf9,
    v9 := Try.zeroValue9,
    t22 := Try.underlying27,
    a22 := Try.isAgg27,
    z22 := Try.sizeOf27,
    v22 := Try.zeroValue27,
    t25 := Try.underlying84,
    a25 := Try.isAgg84,
    z25 := Try.sizeOf84,
    v25 := Try.zeroValue84,
    t39 := Try.underlying100,
    a39 := Try.isAgg100,
    z39 := Try.sizeOf100,
    v39 := Try.zeroValue100,
    t45 := Try.underlying115,
    a45 := Try.isAgg115,
    z45 := Try.sizeOf115,
    v45 := Try.zeroValue115,
    t46 := Try.underlying116,
    a46 := Try.isAgg116,
    z46 := Try.sizeOf116,
    v46 := Try.zeroValue116,
    t50 := Try.underlying120,
    a50 := Try.isAgg120,
    z50 := Try.sizeOf120,
    v50 := Try.zeroValue120,
    t53 := Try.underlying45,
    a53 := Try.isAgg45,
    z53 := Try.sizeOf45,
    v53 := Try.zeroValue45,
    t55 := Try.underlying72,
    a55 := Try.isAgg72,
    z55 := Try.sizeOf72,
    v55 := Try.zeroValue72,
    t66 := Try.underlying134,
    a66 := Try.isAgg134,
    z66 := Try.sizeOf134,
    v66 := Try.zeroValue134,
    t70 := Try.underlying138,
    a70 := Try.isAgg138,
    z70 := Try.sizeOf138,
    v70 := Try.zeroValue138,
    t76 := Try.underlying143,
    a76 := Try.isAgg143,
    z76 := Try.sizeOf143,
    v76 := Try.zeroValue143,
    t77 := Try.underlying38,
    a77 := Try.isAgg38,
    z77 := Try.sizeOf38,
    v77 := Try.zeroValue38 }
def layRepeat_ren : Go.Shelf.Ren := ⟨fun | 105 => 44 | 212 => 64 | 99 => 65 | 165 => 66 | 166 => 25 | 170 => 67 | 169 => 28 | 263 => 85 | 264 => 86 | 206 => 87 | 240 => 43 | 241 => 88 | 276 => 63 | 277 => 104 | n => n, fun | 9 => 9 | 3 => 3 | 4 => 4 | 20 => 20 | 0 => 0 | 46 => 100 | 109 => 103 | 5 => 5 | 72 => 56 | 76 => 59 | 51 => 45 | 146 => 124 | 53 => 72 | 148 => 126 | 70 => 53 | 37 => 54 | 75 => 58 | 127 => 87 | 164 => 101 | 80 => 63 | n => n, fun | n => n⟩
theorem layRepeat : Go.Proofs.Lays.n105 Try.prog layRepeat_ren := {
    mixed := by kernel_rfl,
    f99 := Try.func65.trans (congrArg some (by kernel_rfl)),
    f105 := Try.func44.trans (congrArg some (by kernel_rfl)),
    f165 := Try.func66.trans (congrArg some (by kernel_rfl)),
    f166 := Try.func25.trans (congrArg some (by kernel_rfl)),
    f169 := Try.func28.trans (congrArg some (by kernel_rfl)),
    f170 := Try.func67.trans (congrArg some (by kernel_rfl)),
    f206 := Try.func87.trans (congrArg some (by kernel_rfl)),
    f212 := Try.func64.trans (congrArg some (by kernel_rfl)),
    f240 := Try.func43.trans (congrArg some (by kernel_rfl)),
    f241 := Try.func88.trans (congrArg some (by kernel_rfl)),
    f263 := Try.func85.trans (congrArg some (by kernel_rfl)),
    f264 := Try.func86.trans (congrArg some (by kernel_rfl)),
    f276 := Try.func63.trans (congrArg some (by kernel_rfl)),
    f277 := Try.func104.trans (congrArg some (by kernel_rfl)),
    t0 := Try.underlying0,
    a0 := Try.isAgg0,
    z0 := Try.sizeOf0,
    v0 := Try.zeroValue0,
    t3 := Try.underlying3,
    a3 := Try.isAgg3,
    z3 := Try.sizeOf3,
    v3 := Try.zeroValue3,
    t4 := Try.underlying4,
    a4 := Try.isAgg4,
    z4 := Try.sizeOf4,
    v4 := Try.zeroValue4,
    t5 := Try.underlying5,
    a5 := Try.isAgg5,
    z5 := Try.sizeOf5,
    v5 := Try.zeroValue5,
    t9 := Try.underlying9,
    a9 := Try.isAgg9,
    z9 := Try.sizeOf9,
    v9 := Try.zeroValue9,
    t20 := Try.underlying20,
    a20 := Try.isAgg20,
    z20 := Try.sizeOf20,
    v20 := Try.zeroValue20,
    t37 := Try.underlying54,
    a37 := Try.isAgg54,
    z37 := Try.sizeOf54,
    v37 := Try.zeroValue54,
    t46 := Try.underlying100,
    a46 := Try.isAgg100,
    z46 := Try.sizeOf100,
    v46 := Try.zeroValue100,
    t51 := Try.underlying45,
    a51 := Try.isAgg45,
    z51 := Try.sizeOf45,
    v51 := Try.zeroValue45,
    t53 := Try.underlying72,
    a53 := Try.isAgg72,
    z53 := Try.sizeOf72,
    v53 := Try.zeroValue72,
    t70 := Try.underlying53,
    a70 := Try.isAgg53,
    z70 := Try.sizeOf53,
    v70 := Try.zeroValue53,
    t72 := Try.underlying56,
    a72 := Try.isAgg56,
    z72 := Try.sizeOf56,
    v72 := Try.zeroValue56,
    t75 := Try.underlying58,
    a75 := Try.isAgg58,
    z75 := Try.sizeOf58,
    v75 := Try.zeroValue58,
    t76 := Try.underlying59,
    a76 := Try.isAgg59,
    z76 := Try.sizeOf59,
    v76 := Try.zeroValue59,
    t109 := Try.underlying103,
    a109 := Try.isAgg103,
    z109 := Try.sizeOf103,
    v109 := Try.zeroValue103,
    t127 := Try.underlying87,
    a127 := Try.isAgg87,
    z127 := Try.sizeOf87,
    v127 := Try.zeroValue87,
    t146 := Try.underlying124,
    a146 := Try.isAgg124,
    z146 := Try.sizeOf124,
    v146 := Try.zeroValue124,
    t148 := Try.underlying126,
    a148 := Try.isAgg126,
    z148 := Try.sizeOf126,
    v148 := Try.zeroValue126,
    t164 := Try.underlying101,
    a164 := Try.isAgg101,
    z164 := Try.sizeOf101,
    v164 := Try.zeroValue101 }
def laySortI_ren : Go.Shelf.Ren := ⟨fun | 189 => 58 | 125 => 61 | 257 => 74 | 128 => 83 | 129 => 84 | 294 => 90 | 295 => 91 | 296 => 92 | 297 => 93 | 298 => 94 | 299 => 95 | 216 => 96 | 300 => 97 | 301 => 98 | 328 => 105 | 329 => 100 | 330 => 101 | 331 => 106 | 332 => 107 | 215 => 62 | 343 => 109 | n => n, fun | 28 => 76 | 3 => 3 | 46 => 100 | 0 => 0 | 51 => 45 | 53 => 72 | 4 => 4 | 183 => 116 | 182 => 115 | 131 => 120 | 5 => 5 | 9 => 9 | 218 => 134 | 222 => 138 | 228 => 143 | 229 => 38 | n => n, fun | n => n⟩
theorem laySortI : Go.Proofs.Lays.n189 Try.prog laySortI_ren := {
    mixed := by kernel_rfl,
    f125 := Try.func61.trans (congrArg some (by kernel_rfl)),
    f128 := Try.func83.trans (congrArg some (by kernel_rfl)),
    f129 := Try.func84.trans (congrArg some (by kernel_rfl)),
    f189 := Try.func58.trans (congrArg some (by kernel_rfl)),
    f215 := Try.func62.trans (congrArg some (by kernel_rfl)),
    f216 := Try.func96.trans (congrArg some (by kernel_rfl)),
    f257 := Try.func74.trans (congrArg some (by kernel_rfl)),
    f294 := Try.func90.trans (congrArg some (by kernel_rfl)),
    f295 := Try.func91.trans (congrArg some (by kernel_rfl)),
    f296 := Try.func92.trans (congrArg some (by kernel_rfl)),
    f297 := Try.func93.trans (congrArg some (by kernel_rfl)),
    f298 := Try.func94.trans (congrArg some (by kernel_rfl)),
    f299 := Try.func95.trans (congrArg some (by kernel_rfl)),
    f300 := Try.func97.trans (congrArg some (by kernel_rfl)),
    f301 := Try.func98.trans (congrArg some (by kernel_rfl)),
    f328 := Try.func105.trans (congrArg some (by kernel_rfl)),
    f329 := Try.func100.trans (congrArg some (by kernel_rfl)),
    f330 := Try.func101.trans (congrArg some (by kernel_rfl)),
    f331 := Try.func106.trans (congrArg some (by kernel_rfl)),
    f332 := Try.func107.trans (congrArg some (by kernel_rfl)),
    f343 := Try.func109.trans (congrArg some (by kernel_rfl)),
    t0 := Try.underlying0,
    a0 := Try.isAgg0,
    z0 := Try.sizeOf0,
    v0 := Try.zeroValue0,
    t3 := Try.underlying3,
    a3 := Try.isAgg3,
    z3 := Try.sizeOf3,
    v3 := Try.zeroValue3,
    t4 := Try.underlying4,
    a4 := Try.isAgg4,
    z4 := Try.sizeOf4,
    v4 := Try.zeroValue4,
    t5 := Try.underlying5,
    a5 := Try.isAgg5,
    z5 := Try.sizeOf5,
    v5 := Try.zeroValue5,
    t9 := Try.underlying9,
    a9 := Try.isAgg9,
    z9 := Try.sizeOf9,
    v9 := Try.zeroValue9,
    t28 := Try.underlying76,
    a28 := Try.isAgg76,
    z28 := Try.sizeOf76,
    v28 := Try.zeroValue76,
    t46 := Try.underlying100,
    a46 := Try.isAgg100,
    z46 := Try.sizeOf100,
    v46 := Try.zeroValue100,
    t51 := Try.underlying45,
    a51 := Try.isAgg45,
    z51 := Try.sizeOf45,
    v51 := Try.zeroValue45,
    t53 := Try.underlying72,
    a53 := Try.isAgg72,
    z53 := Try.sizeOf72,
    v53 := Try.zeroValue72,
    t131 := Try.underlying120,
    a131 := Try.isAgg120,
    z131 := Try.sizeOf120,
    v131 := Try.zeroValue120,
    t182 := Try.underlying115,
    a182 := Try.isAgg115,
    z182 := Try.sizeOf115,
    v182 := Try.zeroValue115,
    t183 := Try.underlying116,
    a183 := Try.isAgg116,
    z183 := Try.sizeOf116,
    v183 := Try.zeroValue116,
    t218 := Try.underlying134,
    a218 := Try.isAgg134,
    z218 := Try.sizeOf134,
    v218 := Try.zeroValue134,
    t222 := Try.underlying138,
    a222 := Try.isAgg138,
    z222 := Try.sizeOf138,
    v222 := Try.zeroValue138,
    t228 := Try.underlying143,
    a228 := Try.isAgg143,
    z228 := Try.sizeOf143,
    v228 := Try.zeroValue143,
    t229 := Try.underlying38,
    a229 := Try.isAgg38,
    z229 := Try.sizeOf38,
    v229 := Try.zeroValue38 }
end Go.Proofs.Ytmdhcpghofadcaa

namespace Go.Proofs.Ytmdhcpghofadcaa
set_option linter.unusedSimpArgs false
set_option linter.unusedVariables false
set_option maxRecDepth 100000
open Go Go.Ann Go.RowKit
def Gr (w w' : World) : Prop := ∃ q os, w' = Go.Sort.grow (w.drewN q) os
theorem Gr.refl (w : World) : Gr w w := ⟨0, #[], by rw [Go.Sort.grow_empty]; rfl⟩
theorem Gr.alloc {w w' : World} (h : Gr w w') (o : Obj) : Gr w (w'.alloc o) := by
  obtain ⟨q, os, rfl⟩ := h
  exact ⟨q, os ++ #[o], by rw [Go.Sort.alloc_eq_grow, Go.Sort.grow_grow]⟩
theorem Gr.drew {w w' : World} (h : Gr w w') : Gr w w'.drew := by
  obtain ⟨q, os, rfl⟩ := h
  exact ⟨q + 1, os, rfl⟩
theorem Gr.trans {a b c : World} (h : Gr a b) (k : Gr b c) : Gr a c := by
  obtain ⟨q, os, rfl⟩ := h
  obtain ⟨r, ps, rfl⟩ := k
  exact ⟨q + r, os ++ ps, by rw [← Go.Sort.grow_grow]; show Go.Sort.grow (Go.Sort.grow ((a.drewN q).drewN r) os) ps = _; rw [World.drewN_drewN]⟩
theorem Gr.below {w w' : World} (h : Gr w w') : Below w.heap.size w w' := by
  obtain ⟨q, os, rfl⟩ := h
  refine ⟨rfl, rfl, rfl, ?_, fun k hk => ?_⟩
  · show w.heap.size ≤ (w.heap ++ os).size
    rw [Array.size_append]; omega
  · show (w.heap ++ os)[k]? = _
    rw [Array.getElem?_append_left hk]
def orI (l : List Int) : Int := (l.find? fun x => !decide (x = 0)).getD 0
def earI (a b : OpT) : Int := orI [cmpI a.Invoke b.Invoke, cmpI a.ID b.ID]
def objI (a b : OpT) : Int := orI [cmpI a.Object b.Object, earI a b]
theorem chg_da {S : Nat → Prop} {w : World} {o : Obj} : Chg S w.drew (w.alloc o).drew := (Chg.refl S w.drew).alloc o
theorem ints2_new {w : World} {b : Nat} {t : TypeId} (x y : Int) (hb : b = w.heap.size) : RdS (w.alloc (.cells #[.int .i64 x, .int .i64 y] t)) 1 (fun n => [.int .i64 n]) (.slice (some ⟨b, 0, none⟩) 2 2) [x, y] := by
  subst hb
  exact rd_new (n := 2) (cs := #[.int .i64 x, .int .i64 y]) rfl
theorem earlier_ok (a b : OpT) (w : World) : Ret Try.prog 50 [.agg a.enc.toArray, .agg b.enc.toArray] w fun u w' => u = .int .i64 (earI a b) ∧ Gr w w' := by
  refine ent50 _ _ _ _ ?_
  have ha := a.at; have hb := b.at
  simp (disch := first | omega | exact okFill_t rfl | exact okSize_t rfl | exact fun h => h | (simp only [World.size_alloc, World.size_drew, World.size_setCell, size_fill, bytesW]; omega)) only [go_sem, c50, c50S0, ha, hb]
  refine c50draw0 (Chg (fun _ => False) _) (Chg.refl _ _) ?_
  simp (disch := first | omega | exact okFill_t rfl | exact okSize_t rfl | exact fun h => h | (simp only [World.size_alloc, World.size_drew, World.size_setCell, size_fill, bytesW]; omega)) only [go_sem, c50, c50S0, c50D0, ha, hb]
  refine Ret.mono (compare_ok _ _ _) ?_
  rintro _ _ ⟨rfl, rfl⟩
  simp (disch := first | omega | exact okFill_t rfl | exact okSize_t rfl | exact fun h => h | (simp only [World.size_alloc, World.size_drew, World.size_setCell, size_fill, bytesW]; omega)) only [go_sem, c50, c50S0, c50D0, ha, hb]
  refine Ret.mono (compare_ok _ _ _) ?_
  rintro _ _ ⟨rfl, rfl⟩
  simp (disch := first | omega | exact okFill_t rfl | exact okSize_t rfl | exact fun h => h | (simp only [World.size_alloc, World.size_drew, World.size_setCell, size_fill, bytesW]; omega)) only [go_sem, c50, c50S0, c50D0, ha, hb]
  refine bsW_ones ty76mkI rfl rfl (by decide) (by decide) (by intro v hv; simp only [List.mem_cons, List.not_mem_nil, or_false] at hv; rcases hv with rfl | rfl <;> rfl) ?_
  simp (disch := first | omega | exact okFill_t rfl | exact okSize_t rfl | exact fun h => h | (simp only [World.size_alloc, World.size_drew, World.size_setCell, size_fill, bytesW]; omega)) only [go_sem, c50, c50S0, c50D0, ha, hb]
  refine ⟨chg_da, Ret.mono (or_ok _ [cmpI a.Invoke b.Invoke, cmpI a.ID b.ID] _ ((ints2_new _ _ (by simp)).below (Below.refl _ _).drew (by decide)) (by simp)) ?_⟩
  rintro _ _ ⟨rfl, rfl⟩
  simp (disch := first | omega | exact okFill_t rfl | exact okSize_t rfl | exact fun h => h | (simp only [World.size_alloc, World.size_drew, World.size_setCell, size_fill, bytesW]; omega)) only [go_sem, c50, c50S0, c50D0, ha, hb]
  exact ⟨chg_da, rfl, (((((Gr.refl w).alloc _).alloc _)).alloc _).drew⟩
theorem object1_ok (a b : OpT) (w : World) : Ret Try.prog 49 [.agg a.enc.toArray, .agg b.enc.toArray] w fun u w' => u = .int .i64 (objI a b) ∧ Gr w w' := by
  refine ent49 _ _ _ _ ?_
  have ha := a.at; have hb := b.at
  simp (disch := first | omega | exact okFill_t rfl | exact okSize_t rfl | exact fun h => h | (simp only [World.size_alloc, World.size_drew, World.size_setCell, size_fill, bytesW]; omega)) only [go_sem, c49, c49S0, ha, hb]
  refine c49draw0 (Chg (fun _ => False) _) (Chg.refl _ _) ?_
  simp (disch := first | omega | exact okFill_t rfl | exact okSize_t rfl | exact fun h => h | (simp only [World.size_alloc, World.size_drew, World.size_setCell, size_fill, bytesW]; omega)) only [go_sem, c49, c49S0, c49D0, ha, hb]
  refine Ret.mono (compare_ok _ _ _) ?_
  rintro _ _ ⟨rfl, rfl⟩
  simp (disch := first | omega | exact okFill_t rfl | exact okSize_t rfl | exact fun h => h | (simp only [World.size_alloc, World.size_drew, World.size_setCell, size_fill, bytesW]; omega)) only [go_sem, c49, c49S0, c49D0, ha, hb]
  refine Ret.mono (earlier_ok _ _ _) ?_
  rintro _ w2 ⟨rfl, hg⟩
  simp (disch := first | omega | exact okFill_t rfl | exact okSize_t rfl | exact fun h => h | (simp only [World.size_alloc, World.size_drew, World.size_setCell, size_fill, bytesW]; omega)) only [go_sem, c49, c49S0, c49D0, ha, hb]
  refine ⟨Chg.of_below hg.below, bsW_ones ty76mkI rfl rfl (by decide) (by decide) (by intro v hv; simp only [List.mem_cons, List.not_mem_nil, or_false] at hv; rcases hv with rfl | rfl <;> rfl) ?_⟩
  simp (disch := first | omega | exact okFill_t rfl | exact okSize_t rfl | exact fun h => h | (simp only [World.size_alloc, World.size_drew, World.size_setCell, size_fill, bytesW]; omega)) only [go_sem, c49, c49S0, c49D0, ha, hb]
  refine ⟨(Chg.of_below hg.below).alloc _, Ret.mono (or_ok _ [cmpI a.Object b.Object, earI a b] _ (ints2_new _ _ (by simp)) (by simp)) ?_⟩
  rintro _ _ ⟨rfl, rfl⟩
  simp (disch := first | omega | exact okFill_t rfl | exact okSize_t rfl | exact fun h => h | (simp only [World.size_alloc, World.size_drew, World.size_setCell, size_fill, bytesW]; omega)) only [go_sem, c49, c49S0, c49D0, ha, hb]
  exact ⟨(Chg.of_below hg.below).alloc _, rfl, ((((Gr.refl w).alloc _).alloc _).drew.trans hg).alloc _⟩
end Go.Proofs.Ytmdhcpghofadcaa
