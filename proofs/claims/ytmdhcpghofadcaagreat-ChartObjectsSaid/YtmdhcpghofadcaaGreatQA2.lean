/- Texts put together by program. -/
import Derived.Test.YtmdhcpghofadcaaGreatQA1
namespace Go.Ann
open Go Go.RowKit Go.WideShapes
set_option linter.unusedVariables false
set_option linter.unusedSimpArgs false
inductive Res where
  | blk (b : Nat) (cs : Array Value) (t : TypeId)
  | row (v : Value) (e sz n : Nat) (xs : List Value)
  | obj (b : Nat) (o : Obj)
def Res.own : Res → Option Nat
  | .blk b _ _ => some b
  | .row v _ _ _ _ => v.ownBlock
  | .obj b _ => some b
def Res.ok (w : World) (base : Nat) : Res → Prop
  | .blk b cs t => Blk w b cs t ∧ base ≤ b
  | .row v e sz n xs => w.ownsRow base e sz v n xs
  | .obj b o => w.heap[b]? = some o ∧ base ≤ b
structure Inv where
  holds : World → Prop
  foot : Nat → Prop
  loc : ∀ w w' : World, holds w → (∀ k, foot k → w'.heap[k]? = w.heap[k]?) → holds w'
structure St (W0 w : World) (F : Nat → Prop) (L : List Res) (I : List Inv) : Prop where
  bel : Below W0.heap.size W0 w
  foot : ∀ k, F k → W0.heap.size ≤ k ∧ k < w.heap.size
  res : ∀ r ∈ L, r.ok w W0.heap.size ∧ ∀ k, r.own = some k → ¬ F k
  nd : (L.filterMap Res.own).Nodup
  inv : ∀ a ∈ I, a.holds w ∧ ∀ k, a.foot k → k < w.heap.size ∧ ¬ F k ∧ ∀ r ∈ L, r.own ≠ some k
theorem Res.ok.lt {w : World} {base : Nat} {r : Res} (h : r.ok w base) : ∀ k, r.own = some k → base ≤ k ∧ k < w.heap.size := by
  intro k hk
  cases r with
  | blk b cs t => simp only [Res.own, Option.some.injEq] at hk; subst hk; exact ⟨h.2, h.1.lt⟩
  | row v e sz n xs => exact World.ownsRow.lt h k hk
  | obj b o => simp only [Res.own, Option.some.injEq] at hk; subst hk; exact ⟨h.2, (Array.getElem?_eq_some_iff.1 h.1).1⟩
theorem Res.ok.chg {S : Nat → Prop} {w w' : World} {base : Nat} {r : Res} (h : r.ok w base) (hc : Chg S w w') (hS : ∀ k, r.own = some k → ¬ S k) : r.ok w' base := by
  cases r with
  | blk b cs t => exact ⟨h.1.chg hc (hS b rfl), h.2⟩
  | row v e sz n xs => exact hc.own h hS
  | obj b o => exact ⟨(hc.block b (Array.getElem?_eq_some_iff.1 h.1).1 (hS b rfl)).trans h.1, h.2⟩
section
variable {W0 w w' : World} {F F' : Nat → Prop} {L : List Res} {I : List Inv}
theorem St.start : St W0 W0 (fun _ => False) [] [] := ⟨Below.refl _ _, fun _ h => h.elim, fun _ h => (by cases h), List.Pairwise.nil, fun _ h => (by cases h)⟩
theorem St.size (h : St W0 w F L I) : W0.heap.size ≤ w.heap.size := h.bel.size
theorem St.below (h : St W0 w F L I) {B : Nat} (hb : Below B w w') (hB : w.heap.size ≤ B) : St W0 w' F L I :=
  have hc : Chg (fun _ => False) w w' := Chg.of_below (hb.mono hB)
  ⟨h.bel.trans (hb.mono (Nat.le_trans h.size hB)), fun k hk => ⟨(h.foot k hk).1, Nat.lt_of_lt_of_le (h.foot k hk).2 hb.size⟩, fun r hr => ⟨(h.res r hr).1.chg hc fun _ _ h => h, (h.res r hr).2⟩, h.nd,
    fun a ha => ⟨a.loc _ _ (h.inv a ha).1 fun k hk => hb.block k (Nat.lt_of_lt_of_le ((h.inv a ha).2 k hk).1 hB), fun k hk => ⟨Nat.lt_of_lt_of_le ((h.inv a ha).2 k hk).1 hb.size, ((h.inv a ha).2 k hk).2⟩⟩⟩
theorem St.call (h : St W0 w F L I) (hb : Below w.heap.size w w') : St W0 w' F L I := h.below hb (Nat.le_refl _)
theorem St.drew (h : St W0 w F L I) : St W0 w.drew F L I := h.below ((Below.refl _ w).drew) (Nat.le_refl _)
theorem St.alloc' (h : St W0 w F L I) (o : Obj) : St W0 (w.alloc o) F L I := h.below ((Below.refl w.heap.size w).alloc (Nat.le_refl _) o) (Nat.le_refl _)
theorem fresh_nd {L : List Res} {r : Res} (hn : (L.filterMap Res.own).Nodup) (hr : ∀ k, r.own = some k → ∀ x ∈ L, x.own ≠ some k) : ((r :: L).filterMap Res.own).Nodup := by
  cases hk : r.own with
  | none => rw [List.filterMap_cons_none hk]; exact hn
  | some k =>
    rw [List.filterMap_cons_some hk]
    refine List.nodup_cons.2 ⟨fun hm => ?_, hn⟩
    obtain ⟨x, hx, hxk⟩ := List.mem_filterMap.1 hm
    exact hr k hk x hx hxk
theorem St.add (h : St W0 w F L I) (hb : Below w.heap.size w w') (r : Res) (hr : r.ok w' W0.heap.size) (hn : ∀ k, r.own = some k → w.heap.size ≤ k) : St W0 w' F (r :: L) I := by
  have h' := h.call hb
  refine ⟨h'.bel, h'.foot, ?_, fresh_nd h.nd fun k hk x hx hxk => ?_, fun a ha => ⟨(h'.inv a ha).1, fun k hk => ⟨((h'.inv a ha).2 k hk).1, ((h'.inv a ha).2 k hk).2.1, ?_⟩⟩⟩
  · intro x hx
    rcases List.mem_cons.1 hx with rfl | hx
    · exact ⟨hr, fun k hk hF => by have := (h.foot k hF).2; have := hn k hk; omega⟩
    · exact h'.res x hx
  · have := ((h.res x hx).1.lt k hxk).2; have := hn k hk; omega
  · intro x hx
    rcases List.mem_cons.1 hx with rfl | hx
    · intro e
      have := hn k e
      have := ((h.inv a ha).2 k hk).1
      omega
    · exact ((h'.inv a ha).2 k hk).2.2 x hx
theorem St.box (h : St W0 w F L I) (cs : Array Value) (t : TypeId) : St W0 (w.alloc (.cells cs t)) F (.blk w.heap.size cs t :: L) I :=
  h.add ((Below.refl _ w).alloc (Nat.le_refl _) _) _ ⟨Blk.new, h.size⟩ fun k hk => by simp only [Res.own, Option.some.injEq] at hk; omega
theorem St.nilRow (h : St W0 w F L I) (e sz : Nat) : St W0 w F (.row (.slice none 0 0) e sz 0 [] :: L) I :=
  h.add (Below.refl _ w) _ (World.ownsRow_nil _ _ _ _) fun k hk => by simp [Res.own, Value.ownBlock] at hk
theorem St.sub (h : St W0 w F L I) {L' : List Res} (hs : L'.Sublist L) : St W0 w F L' I :=
  ⟨h.bel, h.foot, fun r hr => h.res r (hs.subset hr), h.nd.sublist (hs.filterMap _), fun a ha => ⟨(h.inv a ha).1, fun k hk => ⟨((h.inv a ha).2 k hk).1, ((h.inv a ha).2 k hk).2.1, fun r hr => ((h.inv a ha).2 k hk).2.2 r (hs.subset hr)⟩⟩⟩
theorem St.perm (h : St W0 w F L I) {L' : List Res} (hs : L'.Perm L) : St W0 w F L' I :=
  ⟨h.bel, h.foot, fun r hr => h.res r (hs.subset hr), (hs.filterMap _).nodup_iff.2 h.nd, fun a ha => ⟨(h.inv a ha).1, fun k hk => ⟨((h.inv a ha).2 k hk).1, ((h.inv a ha).2 k hk).2.1, fun r hr => ((h.inv a ha).2 k hk).2.2 r (hs.subset hr)⟩⟩⟩
theorem St.inv_sub (h : St W0 w F L I) {I' : List Inv} (hs : ∀ a ∈ I', a ∈ I) : St W0 w F L I' := ⟨h.bel, h.foot, h.res, h.nd, fun a ha => h.inv a (hs a ha)⟩
theorem nd_other {L : List Res} (hn : (L.filterMap Res.own).Nodup) {i j : Nat} {r x : Res} (hi : L[i]? = some r) (hj : L[j]? = some x) (hij : i ≠ j) {k : Nat} (hr : r.own = some k) : x.own ≠ some k := by
  intro hx
  induction L generalizing i j with
  | nil => simp at hi
  | cons y l ih =>
    match i, j, hi, hj, hij with
    | 0, 0, _, _, h => exact h rfl
    | 0, j + 1, hi, hj, _ =>
      simp only [List.getElem?_cons_zero, Option.some.injEq] at hi; subst hi
      simp only [List.getElem?_cons_succ] at hj
      rw [List.filterMap_cons_some hr] at hn
      exact (List.nodup_cons.1 hn).1 (List.mem_filterMap.2 ⟨x, List.mem_of_getElem? hj, hx⟩)
    | i + 1, 0, hi, hj, _ =>
      simp only [List.getElem?_cons_zero, Option.some.injEq] at hj; subst hj
      simp only [List.getElem?_cons_succ] at hi
      rw [List.filterMap_cons_some hx] at hn
      exact (List.nodup_cons.1 hn).1 (List.mem_filterMap.2 ⟨r, List.mem_of_getElem? hi, hr⟩)
    | i + 1, j + 1, hi, hj, h =>
      simp only [List.getElem?_cons_succ] at hi hj
      refine ih ?_ hi hj (by omega)
      cases hy : y.own with
      | none => rw [List.filterMap_cons_none hy] at hn; exact hn
      | some m => rw [List.filterMap_cons_some hy] at hn; exact (List.nodup_cons.1 hn).2
theorem nd_set {L : List Res} {i : Nat} {r r' : Res} (hn : (L.filterMap Res.own).Nodup) (hi : L[i]? = some r) (h : ∀ k, r'.own = some k → r.own = some k ∨ ∀ x ∈ L, x.own ≠ some k) : ((L.set i r').filterMap Res.own).Nodup := by
  induction L generalizing i with
  | nil => simp at hi
  | cons y l ih =>
    match i, hi with
    | 0, hi =>
      simp only [List.getElem?_cons_zero, Option.some.injEq] at hi; subst hi
      simp only [List.set_cons_zero]
      have hl : (l.filterMap Res.own).Nodup := by
        cases hy : y.own with
        | none => rw [List.filterMap_cons_none hy] at hn; exact hn
        | some m => rw [List.filterMap_cons_some hy] at hn; exact (List.nodup_cons.1 hn).2
      refine fresh_nd hl fun k hk x hx => ?_
      rcases h k hk with h1 | h1
      · intro e
        rw [List.filterMap_cons_some h1] at hn
        exact (List.nodup_cons.1 hn).1 (List.mem_filterMap.2 ⟨x, hx, e⟩)
      · exact h1 x (List.mem_cons_of_mem _ hx)
    | i + 1, hi =>
      simp only [List.getElem?_cons_succ] at hi
      simp only [List.set_cons_succ]
      have hl : (l.filterMap Res.own).Nodup := by
        cases hy : y.own with
        | none => rw [List.filterMap_cons_none hy] at hn; exact hn
        | some m => rw [List.filterMap_cons_some hy] at hn; exact (List.nodup_cons.1 hn).2
      refine fresh_nd (ih hl hi fun k hk => (h k hk).imp id fun h1 x hx => h1 x (List.mem_cons_of_mem _ hx)) fun k hk x hx => ?_
      intro e
      obtain ⟨j, hj, hjx⟩ := List.mem_iff_getElem.1 hx
      rw [List.getElem_set] at hjx
      split at hjx
      · subst hjx
        rcases h k e with h1 | h1
        · have : (y :: l)[0]? = some y := rfl
          exact nd_other hn (i := i + 1) (j := 0) (by simpa using hi) this (by omega) h1 hk
        · exact h1 y List.mem_cons_self hk
      · rw [List.filterMap_cons_some hk] at hn
        subst hjx
        exact (List.nodup_cons.1 hn).1 (List.mem_filterMap.2 ⟨_, List.getElem_mem _, e⟩)
theorem St.upd (h : St W0 w F L I) (i : Nat) {r : Res} (hi : L[i]? = some r) (hc : Chg (fun k => r.own = some k) w w') (r' : Res) (hr : r'.ok w' W0.heap.size) (hn : ∀ k, r'.own = some k → r.own = some k ∨ w.heap.size ≤ k) : St W0 w' F (L.set i r') I := by
  have hm := List.mem_of_getElem? hi
  have hlow := fun k hk => ((h.res r hm).1.lt k hk)
  have hset : ∀ x ∈ L.set i r', x = r' ∨ ∃ j, j ≠ i ∧ L[j]? = some x := by
    intro x hx
    obtain ⟨j, hj, hjx⟩ := List.mem_iff_getElem.1 hx
    rw [List.getElem_set] at hjx
    split at hjx
    · exact .inl hjx.symm
    · rename_i hij
      exact .inr ⟨j, fun e => hij e.symm, by rw [← hjx]; exact List.getElem?_eq_getElem (by simpa using hj)⟩
  have hF : ∀ k, r'.own = some k → ¬ F k := fun k hk hF => by
    rcases hn k hk with h1 | h1
    · exact (h.res r hm).2 k h1 hF
    · have := (h.foot k hF).2; omega
  refine ⟨h.bel.trans (hc.below h.size fun k hk hS => by have := (hlow k hS).1; omega), fun k hk => ⟨(h.foot k hk).1, Nat.lt_of_lt_of_le (h.foot k hk).2 hc.size⟩, ?_, nd_set h.nd hi fun k hk => ?_, ?_⟩
  · intro x hx
    rcases hset x hx with rfl | ⟨j, hji, hj⟩
    · exact ⟨hr, hF⟩
    · have hx' := List.mem_of_getElem? hj
      exact ⟨(h.res x hx').1.chg hc fun k hk hrk => nd_other h.nd hi hj (Ne.symm hji) hrk hk, (h.res x hx').2⟩
  · rcases hn k hk with h1 | h1
    · exact .inl h1
    · exact .inr fun x hx hxk => by have := ((h.res x hx).1.lt k hxk).2; omega
  · intro a ha
    refine ⟨a.loc _ _ (h.inv a ha).1 fun k hk => hc.block k ((h.inv a ha).2 k hk).1 (((h.inv a ha).2 k hk).2.2 r hm), fun k hk => ⟨Nat.lt_of_lt_of_le ((h.inv a ha).2 k hk).1 hc.size, ((h.inv a ha).2 k hk).2.1, fun x hx => ?_⟩⟩
    rcases hset x hx with rfl | ⟨j, hji, hj⟩
    · intro e
      rcases hn k e with h1 | h1
      · exact ((h.inv a ha).2 k hk).2.2 r hm h1
      · have := ((h.inv a ha).2 k hk).1; omega
    · exact ((h.inv a ha).2 k hk).2.2 x (List.mem_of_getElem? hj)
theorem St.blk (h : St W0 w F L I) (i : Nat) {b : Nat} {cs : Array Value} {t : TypeId} (hi : L[i]? = some (.blk b cs t)) : Blk w b cs t := (h.res _ (List.mem_of_getElem? hi)).1.1
theorem St.low (h : St W0 w F L I) (i : Nat) {b : Nat} {cs : Array Value} {t : TypeId} (hi : L[i]? = some (.blk b cs t)) : W0.heap.size ≤ b ∧ b < w.heap.size := ⟨(h.res _ (List.mem_of_getElem? hi)).1.2, (h.blk i hi).lt⟩
theorem St.row (h : St W0 w F L I) (i : Nat) {v : Value} {e sz n : Nat} {xs : List Value} (hi : L[i]? = some (.row v e sz n xs)) : w.ownsRow W0.heap.size e sz v n xs := (h.res _ (List.mem_of_getElem? hi)).1
theorem St.obj (h : St W0 w F L I) (i : Nat) {b : Nat} {o : Obj} (hi : L[i]? = some (.obj b o)) : w.heap[b]? = some o := (h.res _ (List.mem_of_getElem? hi)).1.1
theorem St.lay (h : St W0 w F L I) (o : Obj) : St W0 (w.alloc o) F (.obj w.heap.size o :: L) I :=
  h.add ((Below.refl _ w).alloc (Nat.le_refl _) _) _ ⟨World.alloc_heap_new w o, h.size⟩ fun k hk => by simp only [Res.own, Option.some.injEq] at hk; omega
theorem St.putObj (h : St W0 w F L I) (i : Nat) {b : Nat} {o : Obj} (hi : L[i]? = some (.obj b o)) (o' : Obj) : St W0 (w.putObj b o') F (L.set i (.obj b o')) I :=
  h.upd i hi ((Chg.refl _ w).grown (grownBy_putObj' w b o') fun k hk _ => hk) (.obj b o')
    ⟨World.putObj_heap_same (Array.getElem?_eq_some_iff.1 (h.obj i hi)).1, (h.res _ (List.mem_of_getElem? hi)).1.2⟩ fun k hk => .inl hk
theorem St.ne (h : St W0 w F L I) (i j : Nat) {r x : Res} (hi : L[i]? = some r) (hj : L[j]? = some x) (hij : i ≠ j) {k : Nat} (hr : r.own = some k) : x.own ≠ some k := nd_other h.nd hi hj hij hr
theorem St.rules (h : St W0 w F L I) (i : Nat) {b : Nat} {cs : Array Value} {t : TypeId} (hi : L[i]? = some (.blk b cs t)) : (∀ i, w.cell? ⟨b, i, none⟩ = cs[i]?) ∧ (∀ i, w.frozen? ⟨b, i, none⟩ = false) ∧ (∀ n, okSize cs n = true → cellsO w ⟨b, 0, none⟩ 0 n = some cs.toList) := (h.blk i hi).rules
theorem St.set (h : St W0 w F L I) (i : Nat) {b : Nat} {cs : Array Value} {t : TypeId} (hi : L[i]? = some (.blk b cs t)) (j : Nat) (v : Value) : St W0 (w.setCell ⟨b, j, none⟩ v) F (L.set i (.blk b (cs.setIfInBounds j v) t)) I :=
  h.upd i hi ((Chg.refl _ w).setCell _ _ fun _ => rfl) _ ⟨(h.blk i hi).set j v, (h.low i hi).1⟩ fun k hk => .inl hk
theorem St.grow (h : St W0 w F L I) (i : Nat) {v v' : Value} {e sz n n' : Nat} {xs xs' : List Value} (hi : L[i]? = some (.row v e sz n xs)) (hg : w.grownBy w' v.ownBlock) (hr : w'.ownsRow W0.heap.size e sz v' n' xs')
    (hn : ∀ k, v'.ownBlock = some k → v.ownBlock = some k ∨ w.heap.size ≤ k) : St W0 w' F (L.set i (.row v' e sz n' xs')) I :=
  h.upd i hi ((Chg.refl _ w).grown hg fun k hk _ => hk) (.row v' e sz n' xs') hr hn
theorem St.put (h : St W0 w F L I) (i : Nat) {g cap : Nat} {e sz n : Nat} {xs : List Value} (hi : L[i]? = some (.row (.slice (some ⟨g, 0, none⟩) n cap) e sz n xs)) (j : Nat) (u : Value) :
    St W0 (w.setCell ⟨g, j, none⟩ u) F (L.set i (.row (.slice (some ⟨g, 0, none⟩) n cap) e sz n (xs.set j u))) I :=
  h.upd i hi ((Chg.refl _ w).setCell ⟨g, j, none⟩ u fun _ => rfl) (.row (.slice (some ⟨g, 0, none⟩) n cap) e sz n (xs.set j u)) ((h.row i hi).stored j u).1 fun k hk => .inl hk
theorem St.keep (h : St W0 w F L I) (a : Inv) (ha : a.holds w) (hf : ∀ k, a.foot k → k < w.heap.size ∧ ¬ F k ∧ ∀ r ∈ L, r.own ≠ some k) : St W0 w F L (a :: I) :=
  ⟨h.bel, h.foot, h.res, h.nd, fun x hx => by
    rcases List.mem_cons.1 hx with rfl | hx
    · exact ⟨ha, hf⟩
    · exact h.inv x hx⟩
theorem St.made (h : St W0 w F L I) (hb : Below w.heap.size w w') (a : Inv) (ha : a.holds w') (hf : ∀ k, a.foot k → w.heap.size ≤ k ∧ k < w'.heap.size) : St W0 w' F L (a :: I) := by
  refine (h.call hb).keep a ha fun k hk => ⟨(hf k hk).2, fun hF => ?_, fun r hr e => ?_⟩
  · have := (h.foot k hF).2; have := (hf k hk).1; omega
  · have := ((h.res r hr).1.lt k e).2; have := (hf k hk).1; omega
theorem St.seal {r : Res} (h : St W0 w F (r :: L) I) (a : Inv) (ha : a.holds w) (hf : ∀ k, a.foot k → r.own = some k) : St W0 w F L (a :: I) := by
  have hr := h.res r List.mem_cons_self
  refine (h.sub (List.sublist_cons_self r L)).keep a ha fun k hk => ?_
  have e := hf k hk
  refine ⟨(hr.1.lt k e).2, hr.2 k e, fun x hx hxk => ?_⟩
  obtain ⟨j, hj, rfl⟩ := List.mem_iff_getElem.1 hx
  exact nd_other h.nd (i := 0) (j := j + 1) rfl (by simp [List.getElem?_eq_getElem hj]) (by omega) e hxk
theorem St.get (h : St W0 w F L I) (i : Nat) {a : Inv} (hi : I[i]? = some a) : a.holds w := (h.inv a (List.mem_of_getElem? hi)).1
end
section
variable {P : Program} {W0 w : World} {F : Nat → Prop} {L : List Res} {I : List Inv} {K : Value → World → Prop}
theorem St.fill (h : St W0 w F L I) (i : Nat) {b : Nat} {z cs : Array Value} {t : TypeId} (hi : L[i]? = some (.blk b z t)) (hs : z.size = cs.size) : St W0 (w.fill b cs) F (L.set i (.blk b cs t)) I :=
  h.upd i hi ((Chg.refl _ w).fill fun _ => rfl) _ ⟨(h.blk i hi).fill hs, (h.low i hi).1⟩ fun k hk => .inl hk
theorem bsW_none {t e size bytes : Nat} {z : Value} (hm : mkI P t = some (e, size, bytes, z)) (hK : K (.slice (some ⟨w.heap.size, 0, none⟩) 0 0) (w.alloc (.cells #[] e))) : bsW P t 0 [] [] w K := by
  obtain ⟨i, hu, hi, hzz, rfl, rfl⟩ := mkI_some hm
  refine ⟨_, _, ?_, hK⟩
  simp [Instr.buildSlice, Sem.run_bind, run_underlying hu, Result.andThen, run_sizeOf w hi, zipP, Instr.fill, newRow, run_newObj_alloc]
  congr 2
  exact Array.eq_empty_of_size_eq_zero (by simp)
theorem St.emptyRow (h : St W0 w F L I) (e sz : Nat) : St W0 (w.alloc (.cells #[] e)) F (.row (.slice (some ⟨w.heap.size, 0, none⟩) 0 0) e sz 0 [] :: L) I :=
  h.add ((Below.refl _ w).alloc (Nat.le_refl _) _) _ (by
    refine ⟨by simp, .inr ⟨w.heap.size, 0, #[], rfl, h.size, Blk.new, Nat.le_refl _, Nat.zero_le _, by simp, by simp⟩⟩) fun k hk => by simp only [Res.own, Value.ownBlock, Option.some.injEq] at hk; omega
theorem own_slice {base e sz n : Nat} {v : Value} {xs : List Value} (h : w.ownsRow base e sz v n xs) : ∃ a cap, v = .slice a n cap ∧ n ≤ cap := by
  rcases h.2 with ⟨rfl, rfl⟩ | ⟨g, cap, cur, rfl, _, _, hn, _⟩
  · exact ⟨none, 0, rfl, Nat.le_refl _⟩
  · exact ⟨_, cap, rfl, hn⟩
theorem rawB_append0 {t ty e size bytes : Nat} {z : Value} {cs : Array Bool} {a a' : Option Addr} {n cap c : Nat}
    (hm : mkI P t = some (e, size, bytes, z)) (hle : n ≤ cap) (hK : K (.slice a n cap) w) : rawB P .append #[t, t] ty cs [.slice a n cap, .slice a' 0 c] w K := by
  obtain ⟨i, hu, hi, hzz, hsi, hby⟩ := mkI_some hm
  refine ⟨_, w, ?_, hK⟩
  cases a <;> cases a' <;> simp [builtin, Builtin.append_, run_underlying hu, sizeOf, typeInfo, hi, Builtin.lenOf, Builtin.firstCells, loadCells, loadCellsFrom, hle, storeCells]
theorem St.append {t ty e sz bytes : Nat} {z : Value} {cs : Array Bool} {n m : Nat} {v x : Value} {xs ys : List Value} (h : St W0 w F L I) (i : Nat) (hi : L[i]? = some (.row v e sz n xs))
    (hm : mkI P t = some (e, sz, bytes, z)) (hzs : z.cells.size = sz) (hsz : 0 < sz) (hx : Rd w sz x m ys) (h1 : ∀ u ∈ ys, u.oneCell' = true) (hbytes : (n + m) * bytes ≤ 140737488355328) (h63 : n + m ≤ 9223372036854775807)
    (hK : ∀ v' w', St W0 w' F (L.set i (.row v' e sz (n + m) (xs ++ ys))) I → Chg (fun k => v.ownBlock = some k) w w' → K v' w') : rawB P .append #[t, t] ty cs [v, x] w K := by
  have hr := h.row i hi
  obtain ⟨hl, a, c, rfl, hac, hcell⟩ := hx
  obtain ⟨a', cap', rfl, hac'⟩ := own_slice hr
  rcases Nat.eq_zero_or_pos m with hm0 | hm0
  · subst hm0
    have hy : ys = [] := List.eq_nil_of_length_eq_zero (by rw [hl]; simp)
    subst hy
    refine rawB_append0 hm hac' (hK _ _ ?_ (Chg.refl _ _))
    rw [List.append_nil, Nat.add_zero]
    have : L.set i (.row (.slice a' n cap') e sz n xs) = L := by
      apply List.ext_getElem?
      intro j
      rw [List.getElem?_set]
      split
      · rename_i e; subst e; rw [hi]; simp [(List.getElem?_eq_some_iff.1 hi).1]
      · rfl
    rw [this]; exact h
  · obtain ⟨ad, rfl, hc⟩ := hcell (by omega)
    refine rawB_append hm hzs hsz hr hl hc h1 hm0 hbytes h63 h.size ?_
    intro g cap w' hown hgr hg hlt
    refine hK _ _ (h.grow i hi hgr hown fun k hk => ?_) ((Chg.refl _ w).grown hgr fun k hk _ => hk)
    simp only [Value.ownBlock, Option.some.injEq] at hk
    subst hk
    exact hg.imp id fun e => Nat.le_of_eq e.symm
theorem rd_new {t : TypeId} {sz n : Nat} {cs : Array Value} (hs : cs.size = n * sz) : Rd (w.alloc (.cells cs t)) sz (.slice (some ⟨w.heap.size, 0, none⟩) n n) n cs.toList :=
  ⟨by simpa using hs, _, n, rfl, Nat.le_refl _, fun _ => ⟨_, rfl, fun j u hu => by rw [Addr.add_lit, Nat.zero_add, cA_new rfl]; simpa using hu⟩⟩
end
theorem RdS.of_own' {α : Type} {w : World} {B e sz n : Nat} {enc : α → List Value} {v : Value} {ys : List Value} (h : w.ownsRow B e sz v n ys) (xs : List α) (hn : n = xs.length) (hy : ys = xs.flatMap enc) : RdS w sz enc v xs := by
  subst hn hy; exact RdS.of_own h
def slFoot (v : Value) (k : Nat) : Prop := ∃ a n c, v = .slice (some a) n c ∧ n ≠ 0 ∧ k = a.block
theorem slFoot_own {v : Value} {k : Nat} (h : slFoot v k) : v.ownBlock = some k := by
  obtain ⟨a, n, c, rfl, _, rfl⟩ := h; rfl
theorem Rd.loc {w w' : World} {sz n : Nat} {v : Value} {xs : List Value} (h : Rd w sz v n xs) (hk : ∀ k, slFoot v k → w'.heap[k]? = w.heap[k]?) : Rd w' sz v n xs := by
  obtain ⟨h1, a, cap, rfl, h2, h3⟩ := h
  refine ⟨h1, a, cap, rfl, h2, fun hn => ?_⟩
  obtain ⟨ad, rfl, h4⟩ := h3 hn
  exact ⟨ad, rfl, fun j u hu => (World.cell?_of_block (hk _ (by rw [add_block]; exact ⟨_, _, _, rfl, hn, rfl⟩))).trans (h4 j u hu)⟩
theorem Rd.footLt {w : World} {sz n : Nat} {v : Value} {xs : List Value} (h : Rd w sz v n xs) (hs : 0 < sz) {k : Nat} (hk : slFoot v k) : k < w.heap.size := by
  obtain ⟨h1, a, cap, rfl, h2, h3⟩ := h
  obtain ⟨a', n', c', e, hn, rfl⟩ := hk
  simp only [Value.slice.injEq] at e
  obtain ⟨rfl, rfl, rfl⟩ := e
  obtain ⟨ad, e, h4⟩ := h3 hn
  simp only [Option.some.injEq] at e; subst e
  have h0 : 0 < xs.length := by rw [h1]; exact Nat.mul_pos (Nat.pos_of_ne_zero hn) hs
  have := World.block_lt_of_cell? w _ (h4 0 xs[0] (List.getElem?_eq_getElem h0))
  rwa [add_block] at this
theorem RdS.footLt {α : Type} {w : World} {sz : Nat} {enc : α → List Value} {v : Value} {xs : List α} (h : RdS w sz enc v xs) (hs : 0 < sz) {k : Nat} (hk : slFoot v k) : k < w.heap.size := Rd.footLt h hs hk
def Inv.rd {α : Type} (sz : Nat) (enc : α → List Value) (v : Value) (xs : List α) : Inv := ⟨fun w => RdS w sz enc v xs, slFoot v, fun _ _ h hk => Rd.loc h hk⟩
section
variable {W0 w w' : World} {F : Nat → Prop} {L : List Res} {I : List Inv} {α : Type} {sz : Nat} {enc : α → List Value} {v : Value} {xs : List α}
end
end Go.Ann

namespace Go.Ann
open Go Go.RowKit
set_option linter.unusedVariables false
set_option linter.unusedSimpArgs false
section
variable {P : Program} {N : Nat}
def lowE : Env → Env
  | [] => []
  | (m, v) :: ρ => if m < 1000000 then (m, v) :: lowE ρ else lowE ρ
theorem lowE_nil : lowE [] = [] := rfl
theorem lowE_cons {m : Nat} {v : Value} {ρ : Env} : lowE ((m, v) :: ρ) = if m < 1000000 then (m, v) :: lowE ρ else lowE ρ := rfl
def zipE : List Nat → List Value → Env → Env
  | p :: ps, v :: vs, ρ => zipE ps vs ((p, v) :: ρ)
  | _, _, ρ => ρ
theorem zipE_nil {vs : List Value} {ρ : Env} : zipE [] vs ρ = ρ := by cases vs <;> rfl
theorem zipE_none {ps : List Nat} {ρ : Env} : zipE ps [] ρ = ρ := by cases ps <;> rfl
theorem zipE_cons {p : Nat} {ps : List Nat} {v : Value} {vs : List Value} {ρ : Env} : zipE (p :: ps) (v :: vs) ρ = zipE ps vs ((p, v) :: ρ) := rfl
attribute [go_sem] lowE_nil lowE_cons zipE_nil zipE_none zipE_cons
theorem marksD_lowE : ∀ ρ : Env, marksD (lowE ρ) = []
  | [] => rfl
  | (m, v) :: ρ => by
    simp only [lowE]
    split
    · rename_i h; simp only [marksD, if_pos h]; exact marksD_lowE ρ
    · exact marksD_lowE ρ
theorem lk_lowE : ∀ (ρ : Env) (n : Nat) (v : Value), lk (lowE ρ) n = some v → lk ρ n = some v
  | [], _, _, h => h
  | (m, u) :: ρ, n, v, h => by
    have low : ∀ (ρ : Env) (n : Nat) (v : Value), lk (lowE ρ) n = some v → n < 1000000 := by
      intro ρ
      induction ρ with
      | nil => intro n v h; simp [lowE, lk_emp] at h
      | cons x ρ ih =>
        obtain ⟨m, u⟩ := x
        intro n v h
        simp only [lowE] at h
        split at h
        · simp only [lk_if] at h
          split at h
          · omega
          · exact ih n v h
        · exact ih n v h
    simp only [lowE] at h
    split at h
    · simp only [lk_if] at h ⊢
      split at h
      · rename_i e; rw [if_pos e]; exact h
      · rename_i e; rw [if_neg e]; exact lk_lowE ρ n v h
    · rename_i hm
      have := low ρ n v h
      rw [lk_if, if_neg (by omega)]
      exact lk_lowE ρ n v h
theorem Sim.lowE {a : Act} {ρ : Env} (h : Sim N a ρ) : Sim N { tmps := a.tmps, defers := [] } (lowE ρ) :=
  ⟨h.size, h.small, by rw [marksD_lowE]; rfl, fun n v hv => h.slot n v (lk_lowE ρ n v hv)⟩
theorem Sim.zipE {a : Act} : ∀ (ps : List Nat) (vs : List Value) (ρ : Env) (t : Array Value), (∀ p ∈ ps, p < N) → Sim N { tmps := t, defers := a.defers } ρ → Sim N { tmps := (ps.zip vs).foldl (fun t (p, v) => t.setIfInBounds p v) t, defers := a.defers } (zipE ps vs ρ)
  | [], vs, ρ, t, _, h => by cases vs <;> exact h
  | p :: ps, [], ρ, t, _, h => h
  | p :: ps, v :: vs, ρ, t, hp, h => by
    simp only [List.zip_cons_cons, List.foldl_cons, Ann.zipE]
    exact Sim.zipE ps vs _ _ (fun q hq => hp q (List.mem_cons_of_mem _ hq)) (h.put (d := some p) (by simpa [okDst] using hp p List.mem_cons_self) v)
theorem Sim.mark {a : Act} {ρ : Env} (h : Sim N a ρ) (D : Nat) : Sim N { a with defers := { target := .collected D, args := #[] } :: a.defers } ((D + 1000000, undef) :: ρ) := by
  refine ⟨h.size, h.small, ?_, fun n v hv => ?_⟩
  · show _ :: a.defers = _
    rw [h.defers]
    simp only [marksD, if_neg (show ¬ D + 1000000 < 1000000 by omega), Nat.add_sub_cancel]
    rfl
  · simp only [lk_if] at hv
    split at hv
    · rename_i e
      simp only [Option.some.injEq] at hv; subst hv
      show a.tmps.getD n undef = undef
      rw [Array.getD_eq_getD_getElem?, Array.getElem?_eq_none (by rw [h.size]; have := h.small; omega)]; rfl
    · exact h.slot n v hv
theorem W_rangeF {g : Operand} {ps L : List Nat} {a b : Cmd} {ρ : Env} {w : World} {Q : Post} : W P (.rangeF g ps a b L) ρ w Q = RangeW P g ps a b ρ w (keepQ L Q) := (rfl)
theorem keepQ_normal {L : List Nat} {ρ : Env} {w : World} {Q : Post} : keepQ L Q .normal ρ w = Q .normal (restr L ρ) w := (rfl)
theorem keepQ_ret {L : List Nat} {ρ : Env} {w : World} {Q : Post} : keepQ L Q .ret ρ w = Q .ret ρ w := (rfl)
theorem keepQ_exit {L : List Nat} {ρ : Env} {w : World} {Q : Post} {i : Nat} : keepQ L Q (.exit i) ρ w = Q (.exit i) ρ w := (rfl)
theorem mark_beq {D n : Nat} : (D + 1000000 == n) = decide (D + 1000000 = n) := by rw [Bool.eq_iff_iff, beq_iff_eq, decide_eq_true_eq]
theorem marks_one {D : Nat} {v : Value} : marksD [(D + 1000000, v)] = [D] := by simp [marksD]
attribute [go_sem] W_rangeF mark_beq marks_one keepQ_normal keepQ_ret keepQ_exit
end
end Go.Ann

namespace Go.Ann
open Go Go.RowKit
def Gr (w w' : World) : Prop := Below w.heap.size w w' ∧ w.drawn ≤ w'.drawn
theorem Gr.refl (w : World) : Gr w w := ⟨Below.refl _ _, Nat.le_refl _⟩
theorem Gr.below {w w' : World} (h : Gr w w') : Below w.heap.size w w' := h.1
theorem Gr.trans {a b c : World} (h : Gr a b) (k : Gr b c) : Gr a c := ⟨Below.next h.1 k.1, Nat.le_trans h.2 k.2⟩
end Go.Ann

namespace Go.Ann
set_option linter.unusedSimpArgs false
set_option linter.unusedVariables false
open Go Go.RowKit
inductive ST where
  | nil
  | one (k i : Nat) (r : ST)
  | alt (i : Nat) (r q : ST)
  | stop
inductive GT where
  | nil
  | one (k : Nat) (x : Ins) (r : GT)
  | alt (x : Ins) (r q : GT)
  | stop
def insOf (l : List Oper) (i : Nat) : Option Ins :=
  match l[i]? with
  | none => none
  | some o => match stripG l o.guard with
    | some g => some ⟨o.dst, o.op, o.type, g⟩
    | none => none
def insT (l : List Oper) : ST → Option GT
  | .nil => some .nil
  | .stop => some .stop
  | .one k i r => match insOf l i, insT l r with
    | some x, some t => some (.one k x t)
    | _, _ => none
  | .alt i r q => match insOf l i, insT l r, insT l q with
    | some x, some t, some u => some (.alt x t u)
    | _, _, _ => none
def ST.heads : ST → List Nat
  | .alt i _ q => i :: q.heads
  | _ => []
def schedT (ops : Array Oper) (hb : List Nat) : ST → Nat → Bool → Array Bool → Bool
  | .nil, n, top, listed => top && n == 0 && (Region.ready .any ops listed).isEmpty
  | .one 0 i r, n, top, listed => top && n != 0 && (Region.ready .any ops listed).contains i && Region.free .any ops listed i && schedT ops hb r (n - 1) true (listed.setIfInBounds i true)
  | .one 1 i r, n, top, listed => top && n != 0 && hb.contains i && (Region.ready .any ops listed).contains i && Region.free .any ops listed i && schedT ops hb r (n - 1) true (listed.setIfInBounds i true)
  | .one 2 i r, n, top, listed => top && n != 0 && (Region.ready .any ops listed == [i]) && schedT ops hb r (n - 1) true (listed.setIfInBounds i true)
  | .one (_ + 3) _ _, _, _, _ => false
  | .alt i r q, n, top, listed => (!top || Region.ready .any ops listed == i :: q.heads) && n != 0 && schedT ops hb r (n - 1) true (listed.setIfInBounds i true) && schedT ops hb q n false listed
  | .stop, _, top, _ => !top
def stepX (P : Program) (S : World → Prop) (k : Nat) (x : Ins) (ρ : Env) (w : World) (C : Env → World → Prop) : Prop :=
  match x.g with
  | none => opG P S k x.op x.ty ρ w fun v w' => C (put ρ x.dst v) w'
  | some (s, b) => match lk ρ s with
    | some (.bool c) => (c = b → opG P S k x.op x.ty ((s, .bool b) :: ρ) w fun v w' => C (put ((s, .bool b) :: ρ) x.dst v) w') ∧ (c = !b → C (put ((s, .bool !b) :: ρ) x.dst undef) w)
    | some (.tuple _) => C (put ρ x.dst undef) w
    | _ => False
def DT (P : Program) (S : World → Prop) : GT → List Nat → Env → World → Post → Prop
  | .nil, L, ρ, w, Q => Q .normal (restr L ρ) w
  | .one k x r, L, ρ, w, Q => stepX P S k x ρ w fun ρ' w' => DT P S r L ρ' w' Q
  | .alt x r q, L, ρ, w, Q => (stepX P S 2 x ρ w fun ρ' w' => DT P S r L ρ' w' Q) ∧ DT P S q L ρ w Q
  | .stop, _, _, _, _ => True
theorem stepX_cases {P : Program} {S : World → Prop} {N : Nat} {l : List Oper} {k i : Nat} {x : Ins} {o : Oper} {ρ : Env} {w : World} {a : Act} {C : Env → World → Prop} (ho : l[i]? = some o) (hx : insOf l i = some x) (hs : Sim N a ρ) (h : stepX P S k x ρ w C) :
    x.dst = o.dst ∧ x.op = o.op ∧ x.ty = o.type ∧ ((∃ ρ', Sim N a ρ' ∧ Region.wanted o (yielded l.toArray a.tmps) = true ∧ opG P S k o.op o.type ρ' w fun v w' => C (put ρ' o.dst v) w') ∨
      (∃ ρ', Sim N a ρ' ∧ Region.wanted o (yielded l.toArray a.tmps) = false ∧ C (put ρ' o.dst undef) w)) := by
  unfold insOf at hx
  rw [ho] at hx
  simp only at hx
  split at hx
  case h_2 => cases hx
  rename_i g hg
  simp only [Option.some.injEq] at hx
  subst hx
  refine ⟨rfl, rfl, rfl, ?_⟩
  unfold stepX at h
  simp only at h
  cases hgo : o.guard with
  | none =>
    rw [hgo] at hg
    simp only [stripG, Option.some.injEq] at hg; subst hg
    exact .inl ⟨ρ, hs, by simp only [Region.wanted, hgo], h⟩
  | some jb =>
    obtain ⟨j, b⟩ := jb
    rw [hgo] at hg
    simp only [stripG] at hg
    split at hg
    case h_2 => cases hg
    rename_i s hs0
    simp only [Option.some.injEq] at hg; subst hg
    simp only at h
    split at h
    · rename_i c hc
      have hy := yielded_of hs hs0 hc
      by_cases hcb : c = b
      · subst hcb
        exact .inl ⟨_, hs.know hc, by simp only [Region.wanted, hgo, hy, beq_self_eq_true], h.1 rfl⟩
      · have hcb' : c = !b := bool_ne hcb
        have hc' : lk ρ s = some (.bool !b) := by rw [← hcb']; exact hc
        exact .inr ⟨_, hs.know hc', by simp only [Region.wanted, hgo, hy]; simpa using hcb, h.2 hcb'⟩
    · rename_i u hc
      exact .inr ⟨ρ, hs, by simp only [Region.wanted, hgo, yielded_undef hs hs0 hc]; rfl, h⟩
    · exact h.elim
theorem stepX_op {P : Program} {S : World → Prop} {N : Nat} {l : List Oper} (hall : l.all (fun o => okDst N o.dst) = true) {hb : List Nat} {L : List Nat} {Q : Post} {i n : Nat} {x : Ins} {ρ : Env} {w : World} {a : Act} {listed : Array Bool} {C : Env → World → Prop}
    (hx : insOf l i = some x) (hs : Sim N a ρ) (hSw : S w) (h : stepX P S 2 x ρ w C)
    (hC : ∀ ρ' a' w', Sim N a' ρ' → S w' → C ρ' w' → wpAnyG P .any l.toArray (drawQ N L Q) S hb n (listed.setIfInBounds i true) a' w') :
    wpOp P l.toArray (drawQ N L Q) i (fun a' w' => (needB .any l.toArray hb i = true → S w → S w') ∧ wpAnyG P .any l.toArray (drawQ N L Q) S hb n (listed.setIfInBounds i true) a' w') a w := by
  obtain ⟨o, ho⟩ : ∃ o, l[i]? = some o := by
    unfold insOf at hx
    split at hx
    · cases hx
    · exact ⟨_, by assumption⟩
  have ho' : l.toArray[i]? = some o := by simpa using ho
  have hd : okDst N o.dst = true := List.all_eq_true.1 hall o (List.mem_of_getElem? ho)
  obtain ⟨_, _, _, ⟨ρ', hs', hw, h⟩ | ⟨ρ', hs', hw, h⟩⟩ := stepX_cases ho hx hs h
  · exact wpOp_doneG ho' hw (opW_done (show opW P o.op o.type ρ' w _ from h.2) h.1 a.eval hs'.eval) fun v w' hk => ⟨fun _ _ => hk.1, hC _ _ _ (hs'.put hd v) hk.1 hk.2⟩
  · exact wpOp_skip ho' hw ⟨fun _ h => h, hC _ _ _ (hs'.put hd undef) hSw h⟩
theorem DT_sound {P : Program} {S : World → Prop} {N : Nat} {l : List Oper} (hall : l.all (fun o => okDst N o.dst) = true) (hns : Region.noSelect l.toArray = true) (hb : List Nat) (L : List Nat) (Q : Post) : ∀ st : ST,
    (∀ (n : Nat) (gt : GT) (ρ : Env) (w : World) (a : Act) (listed : Array Bool), insT l st = some gt → schedT l.toArray hb st n true listed = true → Sim N a ρ → S w → DT P S gt L ρ w Q → wpAnyG P .any l.toArray (drawQ N L Q) S hb n listed a w) ∧
    (∀ (n : Nat) (gt : GT) (ρ : Env) (w : World) (a : Act) (listed : Array Bool), insT l st = some gt → schedT l.toArray hb st (n + 1) false listed = true → Sim N a ρ → S w → DT P S gt L ρ w Q →
      ∀ j ∈ st.heads, wpOp P l.toArray (drawQ N L Q) j (fun a' w' => (needB .any l.toArray hb j = true → S w → S w') ∧ wpAnyG P .any l.toArray (drawQ N L Q) S hb n (listed.setIfInBounds j true) a' w') a w) := by
  have hpan : ∀ (d : Option Nat) (v : Value) c (a : Act) (w : World), drawQ N L Q (.panic c) (a.put d v) w → drawQ N L Q (.panic c) a w := by
    rintro d v c a w ⟨_, _, hn, _⟩; cases hn
  intro st
  induction st with
  | nil =>
    refine ⟨fun n gt ρ w a listed hi hok hs hSw h => ?_, fun n gt ρ w a listed hi hok hs hSw h j hj => by cases hj⟩
    simp only [insT, Option.some.injEq] at hi; subst hi
    simp only [schedT, Bool.and_eq_true, beq_iff_eq, List.isEmpty_iff, true_and] at hok
    obtain ⟨rfl, hr⟩ := hok
    exact ⟨hr, ρ, hs, rfl, h⟩
  | stop =>
    refine ⟨fun n gt ρ w a listed hi hok hs hSw h => ?_, fun n gt ρ w a listed hi hok hs hSw h j hj => by cases hj⟩
    simp [schedT] at hok
  | one k i r ih =>
    refine ⟨fun n gt ρ w a listed hi hok hs hSw h => ?_, fun n gt ρ w a listed hi hok hs hSw h j hj => by cases hj⟩
    simp only [insT] at hi
    split at hi
    case h_2 => cases hi
    rename_i x t hx ht
    simp only [Option.some.injEq] at hi; subst hi
    obtain ⟨o, ho⟩ : ∃ o, l[i]? = some o := by
      unfold insOf at hx
      split at hx
      · cases hx
      · exact ⟨_, by assumption⟩
    have ho' : l.toArray[i]? = some o := by simpa using ho
    have hd : okDst N o.dst = true := List.all_eq_true.1 hall o (List.mem_of_getElem? ho)
    simp only [DT] at h
    match k, hok, h with
    | 0, hok, h =>
      simp only [schedT, Bool.and_eq_true, bne_iff_ne, ne_eq, true_and] at hok
      obtain ⟨m, rfl⟩ : ∃ m, n = m + 1 := ⟨n - 1, by omega⟩
      rw [Nat.add_sub_cancel] at hok
      obtain ⟨_, _, _, ⟨ρ', hs', hw, h⟩ | ⟨ρ', hs', hw, h⟩⟩ := stepX_cases ho hx hs h
      · obtain ⟨v, hv, hk⟩ := pureW_runs (show pureW P o.op o.type ρ' w _ from h)
        refine wpAnyG_take (T := fun _ => True) ho' hns hok.1.2 hok.1.1.2 (.inl fun _ => trivial) (hpan _ _) (.inl ⟨hw, fun w' _ => ?_⟩) trivial (ih.1 m t _ w _ _ ht hok.2 (hs'.put hd v) hSw hk)
        rw [execOp_raw]; exact hv a.eval hs'.eval w'
      · exact wpAnyG_take (T := fun _ => True) ho' hns hok.1.2 hok.1.1.2 (.inl fun _ => trivial) (hpan _ _) (.inr ⟨hw, rfl⟩) trivial (ih.1 m t _ w _ _ ht hok.2 (hs'.put hd undef) hSw h)
    | 1, hok, h =>
      simp only [schedT, Bool.and_eq_true, bne_iff_ne, ne_eq, true_and, List.contains_iff_mem] at hok
      obtain ⟨m, rfl⟩ : ∃ m, n = m + 1 := ⟨n - 1, by omega⟩
      rw [Nat.add_sub_cancel] at hok
      obtain ⟨_, _, _, ⟨ρ', hs', hw, h⟩ | ⟨ρ', hs', hw, h⟩⟩ := stepX_cases ho hx hs h
      · obtain ⟨v, hv, hk⟩ := opH_runs (show opH P S o.op o.type ρ' w _ from h)
        refine wpAnyG_take (T := S) ho' hns hok.1.2 (by simpa using hok.1.1.2) (.inr ⟨hok.1.1.1.2, rfl⟩) (hpan _ _) (.inl ⟨hw, fun w' hw' => ?_⟩) hSw (ih.1 m t _ w _ _ ht hok.2 (hs'.put hd v) hSw hk)
        rw [execOp_raw]; exact hv a.eval hs'.eval w' hw'
      · exact wpAnyG_take (T := fun _ => True) ho' hns hok.1.2 (by simpa using hok.1.1.2) (.inl fun _ => trivial) (hpan _ _) (.inr ⟨hw, rfl⟩) trivial (ih.1 m t _ w _ _ ht hok.2 (hs'.put hd undef) hSw h)
    | 2, hok, h =>
      simp only [schedT, Bool.and_eq_true, bne_iff_ne, ne_eq, true_and, beq_iff_eq] at hok
      obtain ⟨m, rfl⟩ : ∃ m, n = m + 1 := ⟨n - 1, by omega⟩
      rw [Nat.add_sub_cancel] at hok
      refine wpAnyG_all hok.1.2 (by simp) fun j hj => ?_
      simp only [List.mem_singleton] at hj; subst hj
      exact stepX_op hall hx hs hSw h fun ρ' a' w' hs' hSw' hC => ih.1 m t ρ' w' a' _ ht hok.2 hs' hSw' hC
    | k + 3, hok, h => simp [schedT] at hok
  | alt i r q ihr ihq =>
    have step : ∀ (n : Nat) (top : Bool) (gt : GT) (ρ : Env) (w : World) (a : Act) (listed : Array Bool), insT l (.alt i r q) = some gt → schedT l.toArray hb (.alt i r q) (n + 1) top listed = true → Sim N a ρ → S w → DT P S gt L ρ w Q →
        ∀ j ∈ (ST.alt i r q).heads, wpOp P l.toArray (drawQ N L Q) j (fun a' w' => (needB .any l.toArray hb j = true → S w → S w') ∧ wpAnyG P .any l.toArray (drawQ N L Q) S hb n (listed.setIfInBounds j true) a' w') a w := by
      intro n top gt ρ w a listed hi hok hs hSw h j hj
      simp only [insT] at hi
      split at hi
      case h_2 => cases hi
      rename_i x t u hx ht hu
      simp only [Option.some.injEq] at hi; subst hi
      simp only [schedT, Bool.and_eq_true, Nat.add_sub_cancel] at hok
      obtain ⟨h1, h2⟩ := h
      rcases List.mem_cons.1 hj with rfl | hj
      · exact stepX_op hall hx hs hSw h1 fun ρ' a' w' hs' hSw' hC => ihr.1 n t ρ' w' a' _ ht hok.1.2 hs' hSw' hC
      · exact ihq.2 n u ρ w a listed hu hok.2 hs hSw h2 j hj
    refine ⟨fun n gt ρ w a listed hi hok hs hSw h => ?_, fun n gt ρ w a listed hi hok hs hSw h j hj => step n false gt ρ w a listed hi hok hs hSw h j hj⟩
    have hok2 := hok
    simp only [schedT, Bool.and_eq_true, bne_iff_ne, ne_eq, Bool.not_true, Bool.false_or, beq_iff_eq] at hok2
    obtain ⟨m, rfl⟩ : ∃ m, n = m + 1 := ⟨n - 1, by omega⟩
    exact wpAnyG_all hok2.1.1.1 (by simp) fun j hj => step m true gt ρ w a listed hi hok hs hSw h j hj
theorem drawW_tree {P : Program} {l : List Oper} {L : List Nat} {ρ : Env} {w : World} {Q : Post} (hb : List Nat) (st : ST) (gt : GT) (hm : P.follows .mixedOrders = true)
    (hi : insT l st = some gt) (hok : (Region.noSelect l.toArray && schedT l.toArray hb st l.length true (Array.replicate l.length false)) = true)
    (S : World → Prop) (hS : S w.drew) (h : DT P S gt L ρ w.drew Q) : drawW P l L ρ w Q := by
  intro N a hall hs
  simp only [Bool.and_eq_true] at hok
  refine ops_of_any hm (wpAny_of_G (S := S) (hb := hb) _ _ _ _ ?_)
  have := (DT_sound (S := S) hall hok.1 hb L Q st).1 l.length gt ρ w.drew a (Array.replicate l.length false) hi hok.2 hs hS h
  have e : l.toArray.size = l.length := by simp
  rw [e]
  exact this
section
variable {P : Program} {S : World → Prop} {w : World} {ρ : Env} {Q : Post} {r q : GT} {L : List Nat} {d : Option Nat} {ty : TypeId} {k : Nat} {op : Op} {s : Nat} {b c : Bool} {x : Ins}
def DTn (P : Program) (S : World → Prop) (r : GT) (L : List Nat) (ρ : Env) (d : Option Nat) (Q : Post) : Value → World → Prop := fun v w => DT P S r L (put ρ d v) w Q
def DTs (P : Program) (S : World → Prop) (r : GT) (L : List Nat) (ρ : Env) (d : Option Nat) (Q : Post) : Value → World → Prop := fun v w => S w ∧ DT P S r L (put ρ d v) w Q
def opT (P : Program) (S : World → Prop) (k : Nat) (op : Op) (ty : TypeId) (r : GT) (L : List Nat) (ρ : Env) (d : Option Nat) (w : World) (Q : Post) : Prop := opG P S k op ty ρ w (DTn P S r L ρ d Q)
def dT (P : Program) (S : World → Prop) (o : Option Value) (s : Nat) (b : Bool) (k : Nat) (d : Option Nat) (op : Op) (ty : TypeId) (r : GT) (L : List Nat) (ρ : Env) (w : World) (Q : Post) : Prop :=
  match o with
  | some (.bool c) => (c = b → opT P S k op ty r L ((s, .bool b) :: ρ) d w Q) ∧ (c = !b → DT P S r L (put ((s, .bool !b) :: ρ) d undef) w Q)
  | some (.tuple _) => DT P S r L (put ρ d undef) w Q
  | _ => False
def nxT (P : Program) (S : World → Prop) (k : Nat) (x : Ins) (r : GT) (L : List Nat) (ρ : Env) (w : World) (Q : Post) : Prop := stepX P S k x ρ w fun ρ' w' => DT P S r L ρ' w' Q
theorem DT_nil : DT P S .nil L ρ w Q = Q .normal (restr L ρ) w := (rfl)
theorem DT_stop : DT P S .stop L ρ w Q = True := (rfl)
theorem DT_one : DT P S (.one k x r) L ρ w Q = nxT P S k x r L ρ w Q := (rfl)
theorem DT_alt : DT P S (.alt x r q) L ρ w Q = (nxT P S 2 x r L ρ w Q ∧ DT P S q L ρ w Q) := (rfl)
theorem nxT_plain : nxT P S k ⟨d, op, ty, none⟩ r L ρ w Q = opT P S k op ty r L ρ d w Q := (rfl)
theorem nxT_guard : nxT P S k ⟨d, op, ty, some (s, b)⟩ r L ρ w Q = dT P S (lk ρ s) s b k d op ty r L ρ w Q := by
  simp only [nxT, stepX, dT]; rfl
theorem DTn_app {v : Value} : DTn P S r L ρ d Q v w = DT P S r L (put ρ d v) w Q := (rfl)
theorem DTs_app {v : Value} : DTs P S r L ρ d Q v w = (S w ∧ DT P S r L (put ρ d v) w Q) := (rfl)
theorem opT_0 : opT P S 0 op ty r L ρ d w Q = pureW P op ty ρ w (DTn P S r L ρ d Q) := (rfl)
theorem opT_1 {t : TypeId} {x : Operand} : opT P S 1 (.load t x) ty r L ρ d w Q = ptrW (fun p => heldW P S t p w (DTn P S r L ρ d Q)) (ev ρ x) := (rfl)
theorem opT_2 : opT P S 2 op ty r L ρ d w Q = (noY ρ op ∧ opW P op ty ρ w (DTs P S r L ρ d Q)) := (rfl)
theorem dT_t : dT P S (some (.bool true)) s true k d op ty r L ρ w Q = opT P S k op ty r L ((s, .bool true) :: ρ) d w Q := by simp [dT]
theorem dT_f : dT P S (some (.bool false)) s false k d op ty r L ρ w Q = opT P S k op ty r L ((s, .bool false) :: ρ) d w Q := by simp [dT]
theorem dT_tf : dT P S (some (.bool true)) s false k d op ty r L ρ w Q = DT P S r L (put ((s, .bool true) :: ρ) d undef) w Q := by simp [dT]
theorem dT_ft : dT P S (some (.bool false)) s true k d op ty r L ρ w Q = DT P S r L (put ((s, .bool false) :: ρ) d undef) w Q := by simp [dT]
theorem dT_gen : dT P S (some (.bool c)) s b k d op ty r L ρ w Q = ((c = b → opT P S k op ty r L ((s, .bool b) :: ρ) d w Q) ∧ (c = !b → DT P S r L (put ((s, .bool !b) :: ρ) d undef) w Q)) := (rfl)
theorem dT_undef : dT P S (some undef) s b k d op ty r L ρ w Q = DT P S r L (put ρ d undef) w Q := (rfl)
end
attribute [go_sem low] dT_gen
attribute [go_sem] DT_nil DT_stop DT_one DT_alt nxT_plain nxT_guard DTn_app DTs_app opT_0 opT_1 opT_2 dT_t dT_f dT_tf dT_ft dT_undef
end Go.Ann

namespace Go.Ann
open Go Go.RowKit
set_option linter.unusedVariables false
set_option linter.unusedSimpArgs false
section
variable {κ : Type} {P : Program} {enc : κ → Value} {t : TypeId}
variable [DecidableEq κ]
structure KeyT (P : Program) (t : TypeId) (enc : κ → Value) (d : TypeDesc) : Prop where
  und : P.underlying t = some d
  chk' : ∀ (n : Nat) (w : World) (em : Bool) (a : κ), (Instr.checkKey em (n + 2) t (enc a)).run P w = .ok () w
  now : ∀ a b : κ, Instr.sameNow d (enc a) (enc b) = none ∨ Instr.sameNow d (enc a) (enc b) = some (decide (a = b))
  eq : ∀ (w : World) (a b : κ), (Op.equal t (enc a) (enc b)).run P w = .ok (decide (a = b)) w
theorem KeyT.chk {d : TypeDesc} (h : KeyT P t enc d) (w : World) (em : Bool) (a : κ) : (Instr.checkKey em 10000 t (enc a)).run P w = .ok () w := h.chk' 9998 w em a
variable {d : TypeDesc}
end
section
variable {P : Program} {t : TypeId}
end
end Go.Ann

namespace Go.Ann
open Go Go.RowKit
attribute [go_sem] storeW_fill List.setIfInBounds_toArray List.set_cons_zero List.set_cons_succ List.getElem_toArray List.getElem_cons_zero List.getElem_cons_succ Nat.reduceLeDiff Nat.reduceSub okSt_nil okSt_cons fillO_some fillO_none cF_same cF_blk fF_any size_fill Value.oneCell' Int.toNat_natCast Int.cast_ofNat_Int cast0 cast1 Int.natCast_add add_block add_off Classical.not_not decide_not Bool.not_eq_false decide_true decide_false Bool.true_beq Bool.false_beq beq_true beq_false Bool.true_bne Bool.false_bne Bool.bne_true Bool.bne_false decide_eq_true_eq Bool.not_eq_eq_eq_not Nat.mul_one List.size_toArray List.length_cons List.length_nil Nat.le_refl ldK_int ldK_bool ldK_str ldK_slice ldK_ptr ldK_map ldK_agg ldK_other ldO_int ldO_bool ldO_str ldO_slice ldO_ptr ldO_map ldO_other ldA_some cellsO_new cellsO_nil cellsC_some cellsO_drew cellsO_alloc cA_add cS_add cA_new cA_old fA_new fA_old setO_some cS_same cS_off cS_blk World.cell?_drew World.frozen?_drew World.frozen?_setCell World.size_alloc World.size_drew World.size_setCell heldX_eq heldX_add chg_refl chg_drew ovr_nil ovr_cons Option.getD_some Option.getD_none Addr.add_lit Nat.add_zero Option.some.injEq exists_eq' exists_eq_left' Value.int.injEq Value.bool.injEq Value.pointer.injEq Value.string.injEq
end Go.Ann
section
attribute [go_sem_proc] reduceCtorEq Nat.reduceBEq Nat.reduceEqDiff Nat.reduceAdd Nat.reduceMul Int.reduceNe Int.reduceEq Int.reduceLT Int.reduceLE Int.reduceNeg Int.reduceAdd Int.reduceSub Int.reduceMul Int.reduceToNat
attribute [go_sem_proc ↓] reduceIte
attribute [go_sem] beq_self_eq_true
end

namespace Go.Ann
open Go Go.RowKit
set_option linter.unusedVariables false
set_option linter.unusedSimpArgs false
attribute [go_sem_proc] reduceCtorEq Nat.reduceBEq Nat.reduceEqDiff Nat.reduceAdd Nat.reduceMul Int.reduceNe Int.reduceEq Int.reduceLT Int.reduceLE Int.reduceNeg Int.reduceAdd Int.reduceSub Int.reduceMul Int.reduceToNat
attribute [go_sem_proc ↓] reduceIte
attribute [go_sem] beq_self_eq_true
section
variable {κ ν : Type} {P : Program} {ek : κ → Value} {ev : ν → Value} {t : TypeId}
def entG (ek : κ → Value) (ev : ν → Value) (x : κ × ν × Nat) : MapEntry := { key := ek x.1, val := ev x.2.1, born := x.2.2 }
def mapG (ek : κ → Value) (ev : ν → Value) (l : List (κ × ν × Nat)) (c : Nat) : Obj := .map (l.map (entG ek ev)).toArray c
theorem mmG {m : TypeId} {w : World} {K : Value → World → Prop} (hK : K (.map (some w.heap.size)) (w.alloc (mapG ek ev [] 0))) : mmW P m w K := by
  refine ⟨_, _, ?_, hK⟩
  unfold Instr.makeMap
  simp [Sem.run_bind, Result.andThen, run_newObj_alloc]
  rfl
variable [DecidableEq κ]
def getM (a : κ) : List (κ × ν × Nat) → Option ν
  | [] => none
  | x :: l => if a = x.1 then some x.2.1 else getM a l
def setM (a : κ) (v : ν) (c : Nat) : List (κ × ν × Nat) → List (κ × ν × Nat)
  | [] => [(a, v, c)]
  | x :: l => if a = x.1 then (x.1, v, x.2.2) :: l else x :: setM a v c l
def whereM (ev : ν → Value) (a : κ) : List (κ × ν × Nat) → Nat → Option (Nat × Value)
  | [], _ => none
  | x :: l, i => if a = x.1 then some (i, ev x.2.1) else whereM ev a l (i + 1)
theorem whereM_get (a : κ) : ∀ (l : List (κ × ν × Nat)) (i : Nat), (whereM ev a l i).map Prod.snd = (getM a l).map ev
  | [], _ => rfl
  | x :: l, i => by
    simp only [whereM, getM]
    split
    · rfl
    · exact whereM_get a l (i + 1)
variable {d : TypeDesc}
theorem findNow_G (hk : KeyT P t ek d) (a : κ) : ∀ (l : List (κ × ν × Nat)) (i : Nat), Instr.findNow d (ek a) (l.map (entG ek ev)) i = none ∨ Instr.findNow d (ek a) (l.map (entG ek ev)) i = some (whereM ev a l i)
  | [], i => .inr rfl
  | b :: l, i => by
    simp only [List.map_cons, entG, Instr.findNow, whereM]
    rcases hk.now a b.1 with h | h
    · exact .inl (by rw [h])
    · rw [h]
      by_cases e : a = b.1
      · rw [decide_eq_true e, if_pos e]; exact .inr rfl
      · rw [decide_eq_false e, if_neg e]; exact findNow_G hk a l _
theorem findAsk_G (hk : KeyT P t ek d) (w : World) (a : κ) : ∀ (l : List (κ × ν × Nat)) (i : Nat), (Instr.findAsking t (ek a) (l.map (entG ek ev)) i).run P w = .ok (whereM ev a l i) w
  | [], i => rfl
  | b :: l, i => by
    simp only [List.map_cons, entG, Instr.findAsking, whereM, Sem.run_bind, hk.eq w a b.1, Result.andThen_ok]
    by_cases e : a = b.1
    · rw [decide_eq_true e, if_pos e]; rfl
    · rw [decide_eq_false e, if_neg e]
      simp only [Bool.false_eq_true, if_false]
      exact findAsk_G hk w a l _
theorem findKey_G (hk : KeyT P t ek d) (w : World) (a : κ) (l : List (κ × ν × Nat)) : (Instr.findKey t (ek a) (l.map (entG ek ev))).run P w = .ok (whereM ev a l 0) w := by
  unfold Instr.findKey
  simp only [Sem.run_bind, run_underlying hk.und, Result.andThen_ok]
  rcases findNow_G (ev := ev) hk a l 0 with h | h
  · rw [h]; exact findAsk_G hk w a l 0
  · rw [h]; rfl
def luG (ev : ν → Value) (z : Value) : Option ν → Bool → Value
  | some v, true => .tuple #[ev v, .bool true]
  | none, true => .tuple #[z, .bool false]
  | some v, false => ev v
  | none, false => z
theorem luG_map {m e : TypeId} {w : World} {K : Value → World → Prop} {r c : Nat} {ok : Bool} {z : Value} (hk : KeyT P t ek d) (hm : P.underlying m = some (.map t e)) {l : List (κ × ν × Nat)} (hr : w.heap[r]? = some (mapG ek ev l c)) (a : κ)
    (hz : (zeroValue e).run P w = .ok z w) (hK : K (luG ev z (getM a l) ok) w) : luW P m (.map (some r)) (ek a) ok w K := by
  refine ⟨_, _, ?_, hK⟩
  unfold Instr.lookup
  have hg : (getObj r).run P w = .ok (.map (l.map (entG ek ev)).toArray c) w := run_getObj_map w r _ _ hr
  simp only [Sem.run_bind, run_underlying hm, Result.andThen_ok, hg, Sem.run_pure, hk.chk, findKey_G hk, List.toList_toArray]
  have h := whereM_get (ev := ev) a l 0
  cases hw : whereM ev a l 0 with
  | some p =>
    rw [hw] at h
    cases hg2 : getM a l with
    | none => rw [hg2] at h; cases h
    | some v =>
      rw [hg2] at h
      obtain ⟨pj, pv⟩ := p
      simp only [Option.map_some, Option.some.injEq] at h
      subst h
      cases ok <;> rfl
  | none =>
    rw [hw] at h
    cases hg2 : getM a l with
    | some v => rw [hg2] at h; cases h
    | none =>
      simp only [Sem.run_bind, hz, Result.andThen_ok]
      cases ok <;> rfl
theorem whereM_set (a : κ) (v : ν) (c : Nat) : ∀ (l : List (κ × ν × Nat)) (i j : Nat) (u : Value), whereM ev a l i = some (j, u) → i ≤ j ∧ j - i < l.length ∧ (∃ x, (l.map (entG ek ev))[j - i]? = some (entG ek ev x) ∧ x.1 = a) ∧ (setM a v c l).map (entG ek ev) = (l.map (entG ek ev)).modify (j - i) (fun e => { e with key := ek a, val := ev v })
  | [], _, _, _, h => by cases h
  | x :: l, i, j, u, h => by
    simp only [whereM] at h
    split at h
    · rename_i e
      simp only [Option.some.injEq, Prod.mk.injEq] at h
      obtain ⟨rfl, rfl⟩ := h
      refine ⟨Nat.le_refl _, by simp, ⟨x, by simp, e.symm⟩, ?_⟩
      rw [show setM a v c (x :: l) = (x.1, v, x.2.2) :: l from if_pos e]
      simp only [Nat.sub_self, List.map_cons, List.modify_zero_cons, entG, e]
    · rename_i e
      obtain ⟨h1, h2, ⟨y, h3, h4⟩, h5⟩ := whereM_set a v c l (i + 1) j u h
      have e1 : j - i = (j - (i + 1)) + 1 := by omega
      refine ⟨by omega, by simp only [List.length_cons]; omega, ⟨y, ?_, h4⟩, ?_⟩
      · rw [e1, List.map_cons, List.getElem?_cons_succ]; exact h3
      · rw [e1]
        simp only [setM, if_neg e, List.map_cons, List.modify_succ_cons, h5]
theorem whereM_none {a : κ} (v : ν) (c : Nat) : ∀ {l : List (κ × ν × Nat)} {i : Nat}, whereM ev a l i = none → setM a v c l = l ++ [(a, v, c)] ∧ getM a l = none
  | [], _, _ => ⟨rfl, rfl⟩
  | x :: l, i, h => by
    simp only [whereM] at h
    split at h
    · cases h
    · rename_i e
      obtain ⟨h1, h2⟩ := whereM_none v c h
      exact ⟨by simp only [setM, if_neg e, h1, List.cons_append], by simp only [getM, if_neg e, h2]⟩
theorem muG_map {m e : TypeId} {w : World} {K : Value → World → Prop} {r c : Nat} (hk : KeyT P t ek d) (hm : P.underlying m = some (.map t e)) (hs : ∀ a : κ, Instr.sameBits 10000 (ek a) (ek a) = true) {l : List (κ × ν × Nat)} (hr : w.heap[r]? = some (mapG ek ev l c)) (a : κ) (v : ν)
    (hK : K undef (w.putObj r (mapG ek ev (setM a v c l) (if (getM a l).isSome then c else c + 1)))) : muW P m (.map (some r)) (ek a) (ev v) w K := by
  have hg : (getObj r).run P w = .ok (.map (l.map (entG ek ev)).toArray c) w := run_getObj_map w r _ _ hr
  have hs' : ∀ o, (setObj r o).run P w = .ok () (w.putObj r o) := fun o => by simp [setObj, Sem.run, hr, mapG, World.putObj]
  cases hw : whereM ev a l 0 with
  | none =>
    obtain ⟨h1, h2⟩ := whereM_none v c hw
    refine ⟨_, ?_, hK⟩
    unfold Instr.mapUpdate
    simp only [Sem.run_bind, run_underlying hm, Result.andThen_ok, hg, Sem.run_pure, hk.chk, findKey_G hk, List.toList_toArray, hw]
    rw [hs', h1]
    have e : (l.map (entG ek ev)).toArray.push { key := ek a, val := ev v, born := c } = ((l ++ [(a, v, c)]).map (entG ek ev)).toArray := by
      rw [List.map_append]; simp [entG]
    rw [e, h2]; rfl
  | some p =>
    obtain ⟨j, u⟩ := p
    obtain ⟨_, h2, ⟨x, h3, h4⟩, h5⟩ := whereM_set (ek := ek) a v c l 0 j u hw
    rw [Nat.sub_zero] at h2 h3 h5
    have hsome : (getM a l).isSome = true := by
      have := whereM_get (ev := ev) a l 0
      rw [hw] at this
      cases h : getM a l with
      | none => rw [h] at this; cases this
      | some _ => rfl
    rw [if_pos hsome] at hK
    refine ⟨_, ?_, hK⟩
    unfold Instr.mapUpdate
    simp only [Sem.run_bind, run_underlying hm, Result.andThen_ok, hg, Sem.run_pure, hk.chk, findKey_G hk, List.toList_toArray, hw]
    have e0 : ((((l.map (entG ek ev)).toArray)[j]?).map (·.key)).getD (ek a) = ek a := by
      rw [List.getElem?_toArray, h3]; simp [entG, h4]
    have e1 : (Instr.keyThatStays ((((l.map (entG ek ev)).toArray)[j]?).map (·.key)|>.getD (ek a)) (ek a)).run P w = .ok (ek a) w := by
      rw [e0]; unfold Instr.keyThatStays; rw [if_pos (hs a)]; rfl
    rw [e1]
    simp only [Result.andThen_ok]
    rw [hs']
    unfold mapG
    rw [h5]
    congr 3
    apply Array.ext'
    simp [Array.toList_modify]
theorem keyT_int {ki : IntKind} (ht : P.underlying t = some (.int ki)) : KeyT P t (fun n : Int => .int ki n) (.int ki) := by
  refine ⟨ht, fun n w em a => ?_, fun a b => .inr ?_, fun w a b => ?_⟩
  · simp only [Instr.checkKey, Sem.run_bind, run_underlying ht, Result.andThen_ok]; rfl
  · simp [Instr.sameNow]; rfl
  · show (Op.equalIn 10000 t _ _).run P w = _
    rw [run_equalIn_int w 9999 t ki ki a b ht]
    rfl
end
section
variable {P : Program} {w : World} {K : Value → World → Prop}
theorem rgG {m t e : TypeId} {r clock : Nat} {es : Array MapEntry} (hm : P.underlying m = some (.map t e)) (hr : w.heap[r]? = some (.map es clock)) (hK : K (.pointer (some ⟨w.heap.size, 0, none⟩)) (w.alloc (.mapIter (some r) clock #[] clock))) : rgW P m (.map (some r)) w K := by
  refine ⟨_, _, ?_, hK⟩
  unfold Instr.range
  have hg : (getObj r).run P w = .ok (.map es clock) w := run_getObj_map w r _ _ hr
  simp only [Sem.run_bind, run_underlying hm, Result.andThen_ok, hg, Sem.run_pure, run_newObj_alloc]
theorem nxG {ty q r since c0 clock : Nat} {seen : Array Nat} {es : Array MapEntry} (hq : w.heap[q]? = some (.mapIter (some r) since seen c0)) (hr : w.heap[r]? = some (.map es clock)) (hold : ∀ x ∈ es.toList, x.born < since) (hsc : since ≤ c0)
    (h0 : (leftOf es seen).size = 0 → K (.tuple #[.bool false]) w) (h1 : ∀ e ∈ (leftOf es seen).toList, ∀ w1, (w1 = w ∨ w1 = w.drew) → K (.tuple #[.bool true, e.key, e.val]) (w1.putObj q (.mapIter (some r) since (seen.push e.born) clock))) :
    nxW P (.pointer (some ⟨q, 0, none⟩)) false ty w K := by
  rcases run_next_at w ty q r since c0 seen es clock hq hr hold hsc with ⟨h, hrun⟩ | ⟨e, he, w1, hw1, hrun⟩
  · exact ⟨_, _, hrun, h0 h⟩
  · exact ⟨_, _, hrun, h1 e he w1 hw1⟩
theorem enG {q r since clock : Nat} {seen : Array Nat} {es : Array MapEntry} {e : MapEntry} (hq : w.heap[q]? = some (.mapIter (some r) since (seen.push e.born) clock)) (hr : w.heap[r]? = some (.map es clock)) (he : e ∈ es.toList) (hn : (es.toList.map (·.born)).Nodup)
    (hK : K (.tuple #[e.key, e.val]) w) : enW P (.pointer (some ⟨q, 0, none⟩)) w K := ⟨_, _, run_entry_at w q r since seen es clock e hq hr he hn, hK⟩
def Same (X : Nat → Prop) (w0 w' : World) : Prop := ∀ b, X b → w'.heap[b]? = w0.heap[b]?
theorem Same.refl (X : Nat → Prop) (w : World) : Same X w w := fun _ _ => rfl
theorem heldS_held {X : Nat → Prop} {t : TypeId} {w0 : World} {p : Addr} (h2 : X p.block) (h3 : loadW P t p w0 fun v _ => K v w) : heldW P (Same X w0) t p w K := by
  have key : ∀ w' j, Same X w0 w' → w'.cell? (p.add j) = w0.cell? (p.add j) := fun w' j hc => by
    have e : (p.add j).block = p.block := by unfold Addr.add; split <;> rfl
    exact World.cell?_of_block (hc _ (by rw [e]; exact h2))
  have key0 : ∀ w', Same X w0 w' → w'.cell? p = w0.cell? p := fun w' hc => by have := key w' 0 hc; simpa only [Addr.add_zero'] using this
  unfold heldW
  unfold loadW at h3 ⊢
  cases hk : tyK P t with
  | int k => rw [hk] at h3; obtain ⟨n, hc, hK⟩ := h3; exact ⟨_, fun w' hw => ⟨n, (key0 w' hw).trans hc, rfl, rfl⟩, hK⟩
  | bool => rw [hk] at h3; obtain ⟨n, hc, hK⟩ := h3; exact ⟨_, fun w' hw => ⟨n, (key0 w' hw).trans hc, rfl, rfl⟩, hK⟩
  | str => rw [hk] at h3; obtain ⟨n, hc, hK⟩ := h3; exact ⟨_, fun w' hw => ⟨n, (key0 w' hw).trans hc, rfl, rfl⟩, hK⟩
  | slice u e => rw [hk] at h3; obtain ⟨x, n, c, hc, hK⟩ := h3; exact ⟨_, fun w' hw => ⟨x, n, c, (key0 w' hw).trans hc, rfl, rfl⟩, hK⟩
  | ptr => rw [hk] at h3; obtain ⟨n, hc, hK⟩ := h3; exact ⟨_, fun w' hw => ⟨n, (key0 w' hw).trans hc, rfl, rfl⟩, hK⟩
  | map => rw [hk] at h3; obtain ⟨n, hc, hK⟩ := h3; exact ⟨_, fun w' hw => ⟨n, (key0 w' hw).trans hc, rfl, rfl⟩, hK⟩
  | agg n => rw [hk] at h3; obtain ⟨cs, hc, hl, hK⟩ := h3; exact ⟨_, fun w' hw => ⟨cs, fun i v hv => (key w' i hw).trans (hc i v hv), hl, rfl, rfl⟩, hK⟩
  | other => rw [hk] at h3; obtain ⟨n, hc, hK⟩ := h3; exact ⟨_, fun w' hw => ⟨n, (key0 w' hw).trans hc, rfl, rfl⟩, hK⟩
  | none => rw [hk] at h3; exact h3.elim
@[go_sem] theorem heldS_eq {X : Nat → Prop} {t : TypeId} {w0 : World} {b i : Nat} (h2 : X b) : heldW P (Same X w0) t ⟨b, i, none⟩ w K = loadW P t ⟨b, i, none⟩ w0 fun v _ => K v w := by
  apply propext
  exact ⟨fun ⟨v, h, hk⟩ => loadW_mono (h w0 (Same.refl _ _)) fun u hu => by rw [hu.1]; exact hk, heldS_held h2⟩
end
end Go.Ann
