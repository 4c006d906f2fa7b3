/- Texts put together by program. -/
import Derived.Test.YtbeoedgoikcbpaaQB1
namespace Go.Ann
open Go Go.RowKit Go.WideShapes
set_option linter.unusedVariables false
set_option linter.unusedSimpArgs false
inductive Res where
  | blk (b : Nat) (cs : Array Value) (t : TypeId)
  | row (v : Value) (e sz n : Nat) (xs : List Value)
  | obj (b : Nat) (o : Obj)
def Res.own : Res → Option Nat
  | .blk b _ _ => some b
  | .row v _ _ _ _ => v.ownBlock
  | .obj b _ => some b
def Res.ok (w : World) (base : Nat) : Res → Prop
  | .blk b cs t => Blk w b cs t ∧ base ≤ b
  | .row v e sz n xs => w.ownsRow base e sz v n xs
  | .obj b o => w.heap[b]? = some o ∧ base ≤ b
structure Inv where
  holds : World → Prop
  foot : Nat → Prop
  loc : ∀ w w' : World, holds w → (∀ k, foot k → w'.heap[k]? = w.heap[k]?) → holds w'
structure St (W0 w : World) (F : Nat → Prop) (L : List Res) (I : List Inv) : Prop where
  bel : Below W0.heap.size W0 w
  foot : ∀ k, F k → W0.heap.size ≤ k ∧ k < w.heap.size
  res : ∀ r ∈ L, r.ok w W0.heap.size ∧ ∀ k, r.own = some k → ¬ F k
  nd : (L.filterMap Res.own).Nodup
  inv : ∀ a ∈ I, a.holds w ∧ ∀ k, a.foot k → k < w.heap.size ∧ ¬ F k ∧ ∀ r ∈ L, r.own ≠ some k
theorem Res.ok.lt {w : World} {base : Nat} {r : Res} (h : r.ok w base) : ∀ k, r.own = some k → base ≤ k ∧ k < w.heap.size := by
  intro k hk
  cases r with
  | blk b cs t => simp only [Res.own, Option.some.injEq] at hk; subst hk; exact ⟨h.2, h.1.lt⟩
  | row v e sz n xs => exact World.ownsRow.lt h k hk
  | obj b o => simp only [Res.own, Option.some.injEq] at hk; subst hk; exact ⟨h.2, (Array.getElem?_eq_some_iff.1 h.1).1⟩
theorem Res.ok.chg {S : Nat → Prop} {w w' : World} {base : Nat} {r : Res} (h : r.ok w base) (hc : Chg S w w') (hS : ∀ k, r.own = some k → ¬ S k) : r.ok w' base := by
  cases r with
  | blk b cs t => exact ⟨h.1.chg hc (hS b rfl), h.2⟩
  | row v e sz n xs => exact hc.own h hS
  | obj b o => exact ⟨(hc.block b (Array.getElem?_eq_some_iff.1 h.1).1 (hS b rfl)).trans h.1, h.2⟩
section
variable {W0 w w' : World} {F F' : Nat → Prop} {L : List Res} {I : List Inv}
theorem St.start : St W0 W0 (fun _ => False) [] [] := ⟨Below.refl _ _, fun _ h => h.elim, fun _ h => (by cases h), List.Pairwise.nil, fun _ h => (by cases h)⟩
theorem St.size (h : St W0 w F L I) : W0.heap.size ≤ w.heap.size := h.bel.size
theorem St.below (h : St W0 w F L I) {B : Nat} (hb : Below B w w') (hB : w.heap.size ≤ B) : St W0 w' F L I :=
  have hc : Chg (fun _ => False) w w' := Chg.of_below (hb.mono hB)
  ⟨h.bel.trans (hb.mono (Nat.le_trans h.size hB)), fun k hk => ⟨(h.foot k hk).1, Nat.lt_of_lt_of_le (h.foot k hk).2 hb.size⟩, fun r hr => ⟨(h.res r hr).1.chg hc fun _ _ h => h, (h.res r hr).2⟩, h.nd,
    fun a ha => ⟨a.loc _ _ (h.inv a ha).1 fun k hk => hb.block k (Nat.lt_of_lt_of_le ((h.inv a ha).2 k hk).1 hB), fun k hk => ⟨Nat.lt_of_lt_of_le ((h.inv a ha).2 k hk).1 hb.size, ((h.inv a ha).2 k hk).2⟩⟩⟩
theorem St.call (h : St W0 w F L I) (hb : Below w.heap.size w w') : St W0 w' F L I := h.below hb (Nat.le_refl _)
theorem St.drew (h : St W0 w F L I) : St W0 w.drew F L I := h.below ((Below.refl _ w).drew) (Nat.le_refl _)
theorem St.alloc' (h : St W0 w F L I) (o : Obj) : St W0 (w.alloc o) F L I := h.below ((Below.refl w.heap.size w).alloc (Nat.le_refl _) o) (Nat.le_refl _)
theorem fresh_nd {L : List Res} {r : Res} (hn : (L.filterMap Res.own).Nodup) (hr : ∀ k, r.own = some k → ∀ x ∈ L, x.own ≠ some k) : ((r :: L).filterMap Res.own).Nodup := by
  cases hk : r.own with
  | none => rw [List.filterMap_cons_none hk]; exact hn
  | some k =>
    rw [List.filterMap_cons_some hk]
    refine List.nodup_cons.2 ⟨fun hm => ?_, hn⟩
    obtain ⟨x, hx, hxk⟩ := List.mem_filterMap.1 hm
    exact hr k hk x hx hxk
theorem St.add (h : St W0 w F L I) (hb : Below w.heap.size w w') (r : Res) (hr : r.ok w' W0.heap.size) (hn : ∀ k, r.own = some k → w.heap.size ≤ k) : St W0 w' F (r :: L) I := by
  have h' := h.call hb
  refine ⟨h'.bel, h'.foot, ?_, fresh_nd h.nd fun k hk x hx hxk => ?_, fun a ha => ⟨(h'.inv a ha).1, fun k hk => ⟨((h'.inv a ha).2 k hk).1, ((h'.inv a ha).2 k hk).2.1, ?_⟩⟩⟩
  · intro x hx
    rcases List.mem_cons.1 hx with rfl | hx
    · exact ⟨hr, fun k hk hF => by have := (h.foot k hF).2; have := hn k hk; omega⟩
    · exact h'.res x hx
  · have := ((h.res x hx).1.lt k hxk).2; have := hn k hk; omega
  · intro x hx
    rcases List.mem_cons.1 hx with rfl | hx
    · intro e
      have := hn k e
      have := ((h.inv a ha).2 k hk).1
      omega
    · exact ((h'.inv a ha).2 k hk).2.2 x hx
theorem St.box (h : St W0 w F L I) (cs : Array Value) (t : TypeId) : St W0 (w.alloc (.cells cs t)) F (.blk w.heap.size cs t :: L) I :=
  h.add ((Below.refl _ w).alloc (Nat.le_refl _) _) _ ⟨Blk.new, h.size⟩ fun k hk => by simp only [Res.own, Option.some.injEq] at hk; omega
theorem St.nilRow (h : St W0 w F L I) (e sz : Nat) : St W0 w F (.row (.slice none 0 0) e sz 0 [] :: L) I :=
  h.add (Below.refl _ w) _ (World.ownsRow_nil _ _ _ _) fun k hk => by simp [Res.own, Value.ownBlock] at hk
theorem St.sub (h : St W0 w F L I) {L' : List Res} (hs : L'.Sublist L) : St W0 w F L' I :=
  ⟨h.bel, h.foot, fun r hr => h.res r (hs.subset hr), h.nd.sublist (hs.filterMap _), fun a ha => ⟨(h.inv a ha).1, fun k hk => ⟨((h.inv a ha).2 k hk).1, ((h.inv a ha).2 k hk).2.1, fun r hr => ((h.inv a ha).2 k hk).2.2 r (hs.subset hr)⟩⟩⟩
theorem St.perm (h : St W0 w F L I) {L' : List Res} (hs : L'.Perm L) : St W0 w F L' I :=
  ⟨h.bel, h.foot, fun r hr => h.res r (hs.subset hr), (hs.filterMap _).nodup_iff.2 h.nd, fun a ha => ⟨(h.inv a ha).1, fun k hk => ⟨((h.inv a ha).2 k hk).1, ((h.inv a ha).2 k hk).2.1, fun r hr => ((h.inv a ha).2 k hk).2.2 r (hs.subset hr)⟩⟩⟩
theorem St.inv_sub (h : St W0 w F L I) {I' : List Inv} (hs : ∀ a ∈ I', a ∈ I) : St W0 w F L I' := ⟨h.bel, h.foot, h.res, h.nd, fun a ha => h.inv a (hs a ha)⟩
theorem nd_other {L : List Res} (hn : (L.filterMap Res.own).Nodup) {i j : Nat} {r x : Res} (hi : L[i]? = some r) (hj : L[j]? = some x) (hij : i ≠ j) {k : Nat} (hr : r.own = some k) : x.own ≠ some k := by
  intro hx
  induction L generalizing i j with
  | nil => simp at hi
  | cons y l ih =>
    match i, j, hi, hj, hij with
    | 0, 0, _, _, h => exact h rfl
    | 0, j + 1, hi, hj, _ =>
      simp only [List.getElem?_cons_zero, Option.some.injEq] at hi; subst hi
      simp only [List.getElem?_cons_succ] at hj
      rw [List.filterMap_cons_some hr] at hn
      exact (List.nodup_cons.1 hn).1 (List.mem_filterMap.2 ⟨x, List.mem_of_getElem? hj, hx⟩)
    | i + 1, 0, hi, hj, _ =>
      simp only [List.getElem?_cons_zero, Option.some.injEq] at hj; subst hj
      simp only [List.getElem?_cons_succ] at hi
      rw [List.filterMap_cons_some hx] at hn
      exact (List.nodup_cons.1 hn).1 (List.mem_filterMap.2 ⟨r, List.mem_of_getElem? hi, hr⟩)
    | i + 1, j + 1, hi, hj, h =>
      simp only [List.getElem?_cons_succ] at hi hj
      refine ih ?_ hi hj (by omega)
      cases hy : y.own with
      | none => rw [List.filterMap_cons_none hy] at hn; exact hn
      | some m => rw [List.filterMap_cons_some hy] at hn; exact (List.nodup_cons.1 hn).2
theorem nd_set {L : List Res} {i : Nat} {r r' : Res} (hn : (L.filterMap Res.own).Nodup) (hi : L[i]? = some r) (h : ∀ k, r'.own = some k → r.own = some k ∨ ∀ x ∈ L, x.own ≠ some k) : ((L.set i r').filterMap Res.own).Nodup := by
  induction L generalizing i with
  | nil => simp at hi
  | cons y l ih =>
    match i, hi with
    | 0, hi =>
      simp only [List.getElem?_cons_zero, Option.some.injEq] at hi; subst hi
      simp only [List.set_cons_zero]
      have hl : (l.filterMap Res.own).Nodup := by
        cases hy : y.own with
        | none => rw [List.filterMap_cons_none hy] at hn; exact hn
        | some m => rw [List.filterMap_cons_some hy] at hn; exact (List.nodup_cons.1 hn).2
      refine fresh_nd hl fun k hk x hx => ?_
      rcases h k hk with h1 | h1
      · intro e
        rw [List.filterMap_cons_some h1] at hn
        exact (List.nodup_cons.1 hn).1 (List.mem_filterMap.2 ⟨x, hx, e⟩)
      · exact h1 x (List.mem_cons_of_mem _ hx)
    | i + 1, hi =>
      simp only [List.getElem?_cons_succ] at hi
      simp only [List.set_cons_succ]
      have hl : (l.filterMap Res.own).Nodup := by
        cases hy : y.own with
        | none => rw [List.filterMap_cons_none hy] at hn; exact hn
        | some m => rw [List.filterMap_cons_some hy] at hn; exact (List.nodup_cons.1 hn).2
      refine fresh_nd (ih hl hi fun k hk => (h k hk).imp id fun h1 x hx => h1 x (List.mem_cons_of_mem _ hx)) fun k hk x hx => ?_
      intro e
      obtain ⟨j, hj, hjx⟩ := List.mem_iff_getElem.1 hx
      rw [List.getElem_set] at hjx
      split at hjx
      · subst hjx
        rcases h k e with h1 | h1
        · have : (y :: l)[0]? = some y := rfl
          exact nd_other hn (i := i + 1) (j := 0) (by simpa using hi) this (by omega) h1 hk
        · exact h1 y List.mem_cons_self hk
      · rw [List.filterMap_cons_some hk] at hn
        subst hjx
        exact (List.nodup_cons.1 hn).1 (List.mem_filterMap.2 ⟨_, List.getElem_mem _, e⟩)
theorem St.upd (h : St W0 w F L I) (i : Nat) {r : Res} (hi : L[i]? = some r) (hc : Chg (fun k => r.own = some k) w w') (r' : Res) (hr : r'.ok w' W0.heap.size) (hn : ∀ k, r'.own = some k → r.own = some k ∨ w.heap.size ≤ k) : St W0 w' F (L.set i r') I := by
  have hm := List.mem_of_getElem? hi
  have hlow := fun k hk => ((h.res r hm).1.lt k hk)
  have hset : ∀ x ∈ L.set i r', x = r' ∨ ∃ j, j ≠ i ∧ L[j]? = some x := by
    intro x hx
    obtain ⟨j, hj, hjx⟩ := List.mem_iff_getElem.1 hx
    rw [List.getElem_set] at hjx
    split at hjx
    · exact .inl hjx.symm
    · rename_i hij
      exact .inr ⟨j, fun e => hij e.symm, by rw [← hjx]; exact List.getElem?_eq_getElem (by simpa using hj)⟩
  have hF : ∀ k, r'.own = some k → ¬ F k := fun k hk hF => by
    rcases hn k hk with h1 | h1
    · exact (h.res r hm).2 k h1 hF
    · have := (h.foot k hF).2; omega
  refine ⟨h.bel.trans (hc.below h.size fun k hk hS => by have := (hlow k hS).1; omega), fun k hk => ⟨(h.foot k hk).1, Nat.lt_of_lt_of_le (h.foot k hk).2 hc.size⟩, ?_, nd_set h.nd hi fun k hk => ?_, ?_⟩
  · intro x hx
    rcases hset x hx with rfl | ⟨j, hji, hj⟩
    · exact ⟨hr, hF⟩
    · have hx' := List.mem_of_getElem? hj
      exact ⟨(h.res x hx').1.chg hc fun k hk hrk => nd_other h.nd hi hj (Ne.symm hji) hrk hk, (h.res x hx').2⟩
  · rcases hn k hk with h1 | h1
    · exact .inl h1
    · exact .inr fun x hx hxk => by have := ((h.res x hx).1.lt k hxk).2; omega
  · intro a ha
    refine ⟨a.loc _ _ (h.inv a ha).1 fun k hk => hc.block k ((h.inv a ha).2 k hk).1 (((h.inv a ha).2 k hk).2.2 r hm), fun k hk => ⟨Nat.lt_of_lt_of_le ((h.inv a ha).2 k hk).1 hc.size, ((h.inv a ha).2 k hk).2.1, fun x hx => ?_⟩⟩
    rcases hset x hx with rfl | ⟨j, hji, hj⟩
    · intro e
      rcases hn k e with h1 | h1
      · exact ((h.inv a ha).2 k hk).2.2 r hm h1
      · have := ((h.inv a ha).2 k hk).1; omega
    · exact ((h.inv a ha).2 k hk).2.2 x (List.mem_of_getElem? hj)
theorem St.blk (h : St W0 w F L I) (i : Nat) {b : Nat} {cs : Array Value} {t : TypeId} (hi : L[i]? = some (.blk b cs t)) : Blk w b cs t := (h.res _ (List.mem_of_getElem? hi)).1.1
theorem St.low (h : St W0 w F L I) (i : Nat) {b : Nat} {cs : Array Value} {t : TypeId} (hi : L[i]? = some (.blk b cs t)) : W0.heap.size ≤ b ∧ b < w.heap.size := ⟨(h.res _ (List.mem_of_getElem? hi)).1.2, (h.blk i hi).lt⟩
theorem St.row (h : St W0 w F L I) (i : Nat) {v : Value} {e sz n : Nat} {xs : List Value} (hi : L[i]? = some (.row v e sz n xs)) : w.ownsRow W0.heap.size e sz v n xs := (h.res _ (List.mem_of_getElem? hi)).1
theorem St.obj (h : St W0 w F L I) (i : Nat) {b : Nat} {o : Obj} (hi : L[i]? = some (.obj b o)) : w.heap[b]? = some o := (h.res _ (List.mem_of_getElem? hi)).1.1
theorem St.lay (h : St W0 w F L I) (o : Obj) : St W0 (w.alloc o) F (.obj w.heap.size o :: L) I :=
  h.add ((Below.refl _ w).alloc (Nat.le_refl _) _) _ ⟨World.alloc_heap_new w o, h.size⟩ fun k hk => by simp only [Res.own, Option.some.injEq] at hk; omega
theorem St.putObj (h : St W0 w F L I) (i : Nat) {b : Nat} {o : Obj} (hi : L[i]? = some (.obj b o)) (o' : Obj) : St W0 (w.putObj b o') F (L.set i (.obj b o')) I :=
  h.upd i hi ((Chg.refl _ w).grown (grownBy_putObj' w b o') fun k hk _ => hk) (.obj b o')
    ⟨World.putObj_heap_same (Array.getElem?_eq_some_iff.1 (h.obj i hi)).1, (h.res _ (List.mem_of_getElem? hi)).1.2⟩ fun k hk => .inl hk
theorem St.ne (h : St W0 w F L I) (i j : Nat) {r x : Res} (hi : L[i]? = some r) (hj : L[j]? = some x) (hij : i ≠ j) {k : Nat} (hr : r.own = some k) : x.own ≠ some k := nd_other h.nd hi hj hij hr
theorem St.rules (h : St W0 w F L I) (i : Nat) {b : Nat} {cs : Array Value} {t : TypeId} (hi : L[i]? = some (.blk b cs t)) : (∀ i, w.cell? ⟨b, i, none⟩ = cs[i]?) ∧ (∀ i, w.frozen? ⟨b, i, none⟩ = false) ∧ (∀ n, okSize cs n = true → cellsO w ⟨b, 0, none⟩ 0 n = some cs.toList) := (h.blk i hi).rules
theorem St.set (h : St W0 w F L I) (i : Nat) {b : Nat} {cs : Array Value} {t : TypeId} (hi : L[i]? = some (.blk b cs t)) (j : Nat) (v : Value) : St W0 (w.setCell ⟨b, j, none⟩ v) F (L.set i (.blk b (cs.setIfInBounds j v) t)) I :=
  h.upd i hi ((Chg.refl _ w).setCell _ _ fun _ => rfl) _ ⟨(h.blk i hi).set j v, (h.low i hi).1⟩ fun k hk => .inl hk
theorem St.grow (h : St W0 w F L I) (i : Nat) {v v' : Value} {e sz n n' : Nat} {xs xs' : List Value} (hi : L[i]? = some (.row v e sz n xs)) (hg : w.grownBy w' v.ownBlock) (hr : w'.ownsRow W0.heap.size e sz v' n' xs')
    (hn : ∀ k, v'.ownBlock = some k → v.ownBlock = some k ∨ w.heap.size ≤ k) : St W0 w' F (L.set i (.row v' e sz n' xs')) I :=
  h.upd i hi ((Chg.refl _ w).grown hg fun k hk _ => hk) (.row v' e sz n' xs') hr hn
theorem St.put (h : St W0 w F L I) (i : Nat) {g cap : Nat} {e sz n : Nat} {xs : List Value} (hi : L[i]? = some (.row (.slice (some ⟨g, 0, none⟩) n cap) e sz n xs)) (j : Nat) (u : Value) :
    St W0 (w.setCell ⟨g, j, none⟩ u) F (L.set i (.row (.slice (some ⟨g, 0, none⟩) n cap) e sz n (xs.set j u))) I :=
  h.upd i hi ((Chg.refl _ w).setCell ⟨g, j, none⟩ u fun _ => rfl) (.row (.slice (some ⟨g, 0, none⟩) n cap) e sz n (xs.set j u)) ((h.row i hi).stored j u).1 fun k hk => .inl hk
theorem St.keep (h : St W0 w F L I) (a : Inv) (ha : a.holds w) (hf : ∀ k, a.foot k → k < w.heap.size ∧ ¬ F k ∧ ∀ r ∈ L, r.own ≠ some k) : St W0 w F L (a :: I) :=
  ⟨h.bel, h.foot, h.res, h.nd, fun x hx => by
    rcases List.mem_cons.1 hx with rfl | hx
    · exact ⟨ha, hf⟩
    · exact h.inv x hx⟩
theorem St.seal {r : Res} (h : St W0 w F (r :: L) I) (a : Inv) (ha : a.holds w) (hf : ∀ k, a.foot k → r.own = some k) : St W0 w F L (a :: I) := by
  have hr := h.res r List.mem_cons_self
  refine (h.sub (List.sublist_cons_self r L)).keep a ha fun k hk => ?_
  have e := hf k hk
  refine ⟨(hr.1.lt k e).2, hr.2 k e, fun x hx hxk => ?_⟩
  obtain ⟨j, hj, rfl⟩ := List.mem_iff_getElem.1 hx
  exact nd_other h.nd (i := 0) (j := j + 1) rfl (by simp [List.getElem?_eq_getElem hj]) (by omega) e hxk
theorem St.get (h : St W0 w F L I) (i : Nat) {a : Inv} (hi : I[i]? = some a) : a.holds w := (h.inv a (List.mem_of_getElem? hi)).1
end
section
variable {P : Program} {W0 w : World} {F : Nat → Prop} {L : List Res} {I : List Inv} {K : Value → World → Prop}
theorem St.fill (h : St W0 w F L I) (i : Nat) {b : Nat} {z cs : Array Value} {t : TypeId} (hi : L[i]? = some (.blk b z t)) (hs : z.size = cs.size) : St W0 (w.fill b cs) F (L.set i (.blk b cs t)) I :=
  h.upd i hi ((Chg.refl _ w).fill fun _ => rfl) _ ⟨(h.blk i hi).fill hs, (h.low i hi).1⟩ fun k hk => .inl hk
theorem bsW_none {t e size bytes : Nat} {z : Value} (hm : mkI P t = some (e, size, bytes, z)) (hK : K (.slice (some ⟨w.heap.size, 0, none⟩) 0 0) (w.alloc (.cells #[] e))) : bsW P t 0 [] [] w K := by
  obtain ⟨i, hu, hi, hzz, rfl, rfl⟩ := mkI_some hm
  refine ⟨_, _, ?_, hK⟩
  simp [Instr.buildSlice, Sem.run_bind, run_underlying hu, Result.andThen, run_sizeOf w hi, zipP, Instr.fill, newRow, run_newObj_alloc]
  congr 2
  exact Array.eq_empty_of_size_eq_zero (by simp)
theorem St.emptyRow (h : St W0 w F L I) (e sz : Nat) : St W0 (w.alloc (.cells #[] e)) F (.row (.slice (some ⟨w.heap.size, 0, none⟩) 0 0) e sz 0 [] :: L) I :=
  h.add ((Below.refl _ w).alloc (Nat.le_refl _) _) _ (by
    refine ⟨by simp, .inr ⟨w.heap.size, 0, #[], rfl, h.size, Blk.new, Nat.le_refl _, Nat.zero_le _, by simp, by simp⟩⟩) fun k hk => by simp only [Res.own, Value.ownBlock, Option.some.injEq] at hk; omega
theorem own_slice {base e sz n : Nat} {v : Value} {xs : List Value} (h : w.ownsRow base e sz v n xs) : ∃ a cap, v = .slice a n cap ∧ n ≤ cap := by
  rcases h.2 with ⟨rfl, rfl⟩ | ⟨g, cap, cur, rfl, _, _, hn, _⟩
  · exact ⟨none, 0, rfl, Nat.le_refl _⟩
  · exact ⟨_, cap, rfl, hn⟩
theorem rawB_append0 {t ty e size bytes : Nat} {z : Value} {cs : Array Bool} {a a' : Option Addr} {n cap c : Nat}
    (hm : mkI P t = some (e, size, bytes, z)) (hle : n ≤ cap) (hK : K (.slice a n cap) w) : rawB P .append #[t, t] ty cs [.slice a n cap, .slice a' 0 c] w K := by
  obtain ⟨i, hu, hi, hzz, hsi, hby⟩ := mkI_some hm
  refine ⟨_, w, ?_, hK⟩
  cases a <;> cases a' <;> simp [builtin, Builtin.append_, run_underlying hu, sizeOf, typeInfo, hi, Builtin.lenOf, Builtin.firstCells, loadCells, loadCellsFrom, hle, storeCells]
theorem St.append {t ty e sz bytes : Nat} {z : Value} {cs : Array Bool} {n m : Nat} {v x : Value} {xs ys : List Value} (h : St W0 w F L I) (i : Nat) (hi : L[i]? = some (.row v e sz n xs))
    (hm : mkI P t = some (e, sz, bytes, z)) (hzs : z.cells.size = sz) (hsz : 0 < sz) (hx : Rd w sz x m ys) (h1 : ∀ u ∈ ys, u.oneCell' = true) (hbytes : (n + m) * bytes ≤ 140737488355328) (h63 : n + m ≤ 9223372036854775807)
    (hK : ∀ v' w', St W0 w' F (L.set i (.row v' e sz (n + m) (xs ++ ys))) I → Chg (fun k => v.ownBlock = some k) w w' → K v' w') : rawB P .append #[t, t] ty cs [v, x] w K := by
  have hr := h.row i hi
  obtain ⟨hl, a, c, rfl, hac, hcell⟩ := hx
  obtain ⟨a', cap', rfl, hac'⟩ := own_slice hr
  rcases Nat.eq_zero_or_pos m with hm0 | hm0
  · subst hm0
    have hy : ys = [] := List.eq_nil_of_length_eq_zero (by rw [hl]; simp)
    subst hy
    refine rawB_append0 hm hac' (hK _ _ ?_ (Chg.refl _ _))
    rw [List.append_nil, Nat.add_zero]
    have : L.set i (.row (.slice a' n cap') e sz n xs) = L := by
      apply List.ext_getElem?
      intro j
      rw [List.getElem?_set]
      split
      · rename_i e; subst e; rw [hi]; simp [(List.getElem?_eq_some_iff.1 hi).1]
      · rfl
    rw [this]; exact h
  · obtain ⟨ad, rfl, hc⟩ := hcell (by omega)
    refine rawB_append hm hzs hsz hr hl hc h1 hm0 hbytes h63 h.size ?_
    intro g cap w' hown hgr hg hlt
    refine hK _ _ (h.grow i hi hgr hown fun k hk => ?_) ((Chg.refl _ w).grown hgr fun k hk _ => hk)
    simp only [Value.ownBlock, Option.some.injEq] at hk
    subst hk
    exact hg.imp id fun e => Nat.le_of_eq e.symm
theorem rd_new {t : TypeId} {sz n : Nat} {cs : Array Value} (hs : cs.size = n * sz) : Rd (w.alloc (.cells cs t)) sz (.slice (some ⟨w.heap.size, 0, none⟩) n n) n cs.toList :=
  ⟨by simpa using hs, _, n, rfl, Nat.le_refl _, fun _ => ⟨_, rfl, fun j u hu => by rw [Addr.add_lit, Nat.zero_add, cA_new rfl]; simpa using hu⟩⟩
end
theorem RdS.of_own' {α : Type} {w : World} {B e sz n : Nat} {enc : α → List Value} {v : Value} {ys : List Value} (h : w.ownsRow B e sz v n ys) (xs : List α) (hn : n = xs.length) (hy : ys = xs.flatMap enc) : RdS w sz enc v xs := by
  subst hn hy; exact RdS.of_own h
def slFoot (v : Value) (k : Nat) : Prop := ∃ a n c, v = .slice (some a) n c ∧ n ≠ 0 ∧ k = a.block
theorem slFoot_none {n c k : Nat} : ¬ slFoot (.slice none n c) k := by rintro ⟨_, _, _, h, _⟩; cases h
theorem slFoot_own {v : Value} {k : Nat} (h : slFoot v k) : v.ownBlock = some k := by
  obtain ⟨a, n, c, rfl, _, rfl⟩ := h; rfl
theorem Rd.loc {w w' : World} {sz n : Nat} {v : Value} {xs : List Value} (h : Rd w sz v n xs) (hk : ∀ k, slFoot v k → w'.heap[k]? = w.heap[k]?) : Rd w' sz v n xs := by
  obtain ⟨h1, a, cap, rfl, h2, h3⟩ := h
  refine ⟨h1, a, cap, rfl, h2, fun hn => ?_⟩
  obtain ⟨ad, rfl, h4⟩ := h3 hn
  exact ⟨ad, rfl, fun j u hu => (World.cell?_of_block (hk _ (by rw [add_block]; exact ⟨_, _, _, rfl, hn, rfl⟩))).trans (h4 j u hu)⟩
theorem Rd.footLt {w : World} {sz n : Nat} {v : Value} {xs : List Value} (h : Rd w sz v n xs) (hs : 0 < sz) {k : Nat} (hk : slFoot v k) : k < w.heap.size := by
  obtain ⟨h1, a, cap, rfl, h2, h3⟩ := h
  obtain ⟨a', n', c', e, hn, rfl⟩ := hk
  simp only [Value.slice.injEq] at e
  obtain ⟨rfl, rfl, rfl⟩ := e
  obtain ⟨ad, e, h4⟩ := h3 hn
  simp only [Option.some.injEq] at e; subst e
  have h0 : 0 < xs.length := by rw [h1]; exact Nat.mul_pos (Nat.pos_of_ne_zero hn) hs
  have := World.block_lt_of_cell? w _ (h4 0 xs[0] (List.getElem?_eq_getElem h0))
  rwa [add_block] at this
theorem RdS.footLt {α : Type} {w : World} {sz : Nat} {enc : α → List Value} {v : Value} {xs : List α} (h : RdS w sz enc v xs) (hs : 0 < sz) {k : Nat} (hk : slFoot v k) : k < w.heap.size := Rd.footLt h hs hk
theorem RdS.loc {α : Type} {w w' : World} {sz : Nat} {enc : α → List Value} {v : Value} {xs : List α} (h : RdS w sz enc v xs) (hk : ∀ k, slFoot v k → w'.heap[k]? = w.heap[k]?) : RdS w' sz enc v xs := Rd.loc h hk
def Inv.rd {α : Type} (sz : Nat) (enc : α → List Value) (v : Value) (xs : List α) : Inv := ⟨fun w => RdS w sz enc v xs, slFoot v, fun _ _ h hk => Rd.loc h hk⟩
section
variable {W0 w w' : World} {F : Nat → Prop} {L : List Res} {I : List Inv} {α : Type} {sz : Nat} {enc : α → List Value} {v : Value} {xs : List α}
theorem St.addRd (h : St W0 w F L I) (hb : Below w.heap.size w w') (hr : RdS w' sz enc v xs) (hs : 0 < sz) (hf : ∀ k, slFoot v k → k < W0.heap.size ∨ (∃ a ∈ I, a.foot k) ∨ w.heap.size ≤ k) : St W0 w' F L (.rd sz enc v xs :: I) := by
  refine (h.call hb).keep _ hr fun k hk => ⟨hr.footLt hs hk, fun hF => ?_, fun r hr' e => ?_⟩
  · have hF' := h.foot k hF
    rcases hf k hk with h1 | ⟨a, ha, h1⟩ | h1
    · omega
    · exact ((h.inv a ha).2 k h1).2.1 hF
    · omega
  · have hl := (h.res r hr').1.lt k e
    rcases hf k hk with h1 | ⟨a, ha, h1⟩ | h1
    · omega
    · exact ((h.inv a ha).2 k h1).2.2 r hr' e
    · omega
theorem St.old (h : St W0 w F L I) (hr : RdS W0 sz enc v xs) (hs : 0 < sz) : St W0 w F L (.rd sz enc v xs :: I) :=
  h.addRd (Below.refl _ _) (hr.below h.bel hs) hs fun k hk => .inl (hr.footLt hs hk)
theorem St.rd (h : St W0 w F L I) (i : Nat) (hi : I[i]? = some (.rd sz enc v xs)) : RdS w sz enc v xs := h.get i hi
end
end Go.Ann

namespace Go.Ann
open Go Go.RowKit
set_option linter.unusedVariables false
set_option linter.unusedSimpArgs false
section
variable {P : Program} {N : Nat}
def lowE : Env → Env
  | [] => []
  | (m, v) :: ρ => if m < 1000000 then (m, v) :: lowE ρ else lowE ρ
theorem lowE_nil : lowE [] = [] := rfl
theorem lowE_cons {m : Nat} {v : Value} {ρ : Env} : lowE ((m, v) :: ρ) = if m < 1000000 then (m, v) :: lowE ρ else lowE ρ := rfl
def zipE : List Nat → List Value → Env → Env
  | p :: ps, v :: vs, ρ => zipE ps vs ((p, v) :: ρ)
  | _, _, ρ => ρ
theorem zipE_nil {vs : List Value} {ρ : Env} : zipE [] vs ρ = ρ := by cases vs <;> rfl
theorem zipE_none {ps : List Nat} {ρ : Env} : zipE ps [] ρ = ρ := by cases ps <;> rfl
theorem zipE_cons {p : Nat} {ps : List Nat} {v : Value} {vs : List Value} {ρ : Env} : zipE (p :: ps) (v :: vs) ρ = zipE ps vs ((p, v) :: ρ) := rfl
attribute [go_sem] lowE_nil lowE_cons zipE_nil zipE_none zipE_cons
theorem W_rangeF {g : Operand} {ps L : List Nat} {a b : Cmd} {ρ : Env} {w : World} {Q : Post} : W P (.rangeF g ps a b L) ρ w Q = RangeW P g ps a b ρ w (keepQ L Q) := (rfl)
theorem keepQ_normal {L : List Nat} {ρ : Env} {w : World} {Q : Post} : keepQ L Q .normal ρ w = Q .normal (restr L ρ) w := (rfl)
theorem keepQ_ret {L : List Nat} {ρ : Env} {w : World} {Q : Post} : keepQ L Q .ret ρ w = Q .ret ρ w := (rfl)
theorem keepQ_exit {L : List Nat} {ρ : Env} {w : World} {Q : Post} {i : Nat} : keepQ L Q (.exit i) ρ w = Q (.exit i) ρ w := (rfl)
theorem mark_beq {D n : Nat} : (D + 1000000 == n) = decide (D + 1000000 = n) := by rw [Bool.eq_iff_iff, beq_iff_eq, decide_eq_true_eq]
theorem marks_one {D : Nat} {v : Value} : marksD [(D + 1000000, v)] = [D] := by simp [marksD]
attribute [go_sem] W_rangeF mark_beq marks_one keepQ_normal keepQ_ret keepQ_exit
end
end Go.Ann

namespace Go.Ann
open Go Go.RowKit
theorem ask_drawn {α : Type} : ∀ (a : Ask α) (w : World), w.drawn ≤ (w.ask a).2.drawn
  | .done _, w => Nat.le_refl _
  | .ask what range k, w => by
    unfold World.ask
    simp only
    split
    · exact ask_drawn (k 0) w
    · exact Nat.le_trans (Nat.le_succ _) (ask_drawn _ { w with drawn := w.drawn + 1 })
theorem sys_drawn (w : World) (c : Sys) : w.drawn ≤ (w.sys c).2.drawn := by
  unfold World.sys
  have := ask_drawn (Kernel.perform c w.os) w
  split
  · exact Nat.le_refl _
  · rename_i e; rw [e] at this; exact this
theorem view_drawn {p : Program} {w : World} {at_ : Addr} {u : TypeId} {k : Addr} {v : Value} {atomic : Bool} {r : World × List Addr} (h : World.viewStore p w at_ u k v atomic = .ok r) : r.1.drawn = w.drawn := by
  unfold World.viewStore at h
  simp only [bind, Except.bind, pure, Except.pure, throw, throwThe, MonadExceptOf.throw] at h
  repeat' split at h
  all_goals first | (cases h; done) | (cases h; rfl)
theorem far_drawn {p : Program} {w w' : World} {a : Addr} {v : Value} {atomic : Bool} {l : List Addr} (h : World.farStore p w a v atomic = .ok (w', l)) : w'.drawn = w.drawn := by
  unfold World.farStore at h
  split at h
  · split at h
    · rename_i r e
      cases h
      exact view_drawn e
    · cases h
  · cases h
theorem freeze_drawn (w : World) (a : Addr) (n : Nat) : (w.freeze a n).drawn = w.drawn := by
  unfold World.freeze
  first | rfl | (split <;> rfl)
theorem run_drawn {α : Type} (p : Program) (m : Sem α) : ∀ (w w' : World) (v : α), m.run p w = .ok v w' → w.drawn ≤ w'.drawn := by
  induction m with
  | pure a => intro w w' v h; cases h; exact Nat.le_refl _
  | load m a k ih =>
    intro w w' v h
    unfold Sem.run at h
    split at h
    · exact ih _ _ _ _ h
    · split at h
      · exact ih _ _ _ _ h
      · cases h
  | store m a x k ih =>
    intro w w' v h
    have key : (match w.cell? a with
        | some _ => if w.frozen? a then Result.halt (.unsupported (.unsafePointer "a write to bytes that a string shares")) w else k.run p (w.setCell a x)
        | none => match w.farStore p a x (m == Mode.atomic) with
          | .ok (w, _) => k.run p w
          | .error h => .halt h w) = .ok v w' → w.drawn ≤ w'.drawn := by
      intro h
      split at h
      · split at h
        · cases h
        · have t := ih _ _ _ h; exact t
      · split at h
        · rename_i e
          have t := ih _ _ _ h
          rw [far_drawn e] at t
          exact t
        · cases h
    cases x with
    | agg _ => cases h
    | tuple _ => cases h
    | _ => rw [Sem.run] at h; exact key h; all_goals (intros; simp_all)
  | new o k ih => intro w w' v h; have t := ih _ _ _ _ h; exact t
  | shape r k ih => intro w w' v h; exact ih _ _ _ _ h
  | freeze a n k ih => intro w w' v h; have t := ih _ _ _ h; rw [freeze_drawn] at t; exact t
  | frozen a k ih => intro w w' v h; exact ih _ _ _ _ h
  | getObj r k ih =>
    intro w w' v h
    unfold Sem.run at h
    split at h
    · cases h
    · exact ih _ _ _ _ h
    · cases h
  | setObj r o k ih =>
    intro w w' v h
    unfold Sem.run at h
    split at h
    · cases h
    · have t := ih _ _ _ h; exact t
    · cases h
  | choose q k ih =>
    intro w w' v h
    unfold Sem.run at h
    split at h
    · exact ih _ _ _ _ h
    · exact Nat.le_trans (Nat.le_succ _) (ih _ _ _ _ h)
  | sys c k ih => intro w w' v h; exact Nat.le_trans (sys_drawn w c) (ih _ _ _ _ h)
  | program k ih => intro w w' v h; exact ih _ _ _ _ h
  | mark m k ih => intro w w' v h; exact ih _ _ _ h
  | halt h => intro w w' v h; cases h
theorem rawB_D {P : Program} {b : Builtin} {ats : Array TypeId} {ty : TypeId} {cs : Array Bool} {xs : List Value} {w : World} {K : Value → World → Prop} (h : rawB P b ats ty cs xs w fun v w' => w.drawn ≤ w'.drawn → K v w') : rawB P b ats ty cs xs w K := by
  obtain ⟨v, w', h1, h2⟩ := h
  exact ⟨v, w', h1, h2 (run_drawn _ _ _ _ _ h1)⟩
def Gr (w w' : World) : Prop := Below w.heap.size w w' ∧ w.drawn ≤ w'.drawn
theorem Gr.refl (w : World) : Gr w w := ⟨Below.refl _ _, Nat.le_refl _⟩
theorem Gr.below {w w' : World} (h : Gr w w') : Below w.heap.size w w' := h.1
theorem Gr.trans {a b c : World} (h : Gr a b) (k : Gr b c) : Gr a c := ⟨Below.next h.1 k.1, Nat.le_trans h.2 k.2⟩
end Go.Ann

namespace Go.Ann
set_option linter.unusedSimpArgs false
set_option linter.unusedVariables false
open Go Go.RowKit
inductive ST where
  | nil
  | one (k i : Nat) (r : ST)
  | alt (i : Nat) (r q : ST)
  | stop
inductive GT where
  | nil
  | one (k : Nat) (x : Ins) (r : GT)
  | alt (x : Ins) (r q : GT)
  | stop
def insOf (l : List Oper) (i : Nat) : Option Ins :=
  match l[i]? with
  | none => none
  | some o => match stripG l o.guard with
    | some g => some ⟨o.dst, o.op, o.type, g⟩
    | none => none
def insT (l : List Oper) : ST → Option GT
  | .nil => some .nil
  | .stop => some .stop
  | .one k i r => match insOf l i, insT l r with
    | some x, some t => some (.one k x t)
    | _, _ => none
  | .alt i r q => match insOf l i, insT l r, insT l q with
    | some x, some t, some u => some (.alt x t u)
    | _, _, _ => none
def ST.heads : ST → List Nat
  | .alt i _ q => i :: q.heads
  | _ => []
def schedT (ops : Array Oper) (hb : List Nat) : ST → Nat → Bool → Array Bool → Bool
  | .nil, n, top, listed => top && n == 0 && (Region.ready .any ops listed).isEmpty
  | .one 0 i r, n, top, listed => top && n != 0 && (Region.ready .any ops listed).contains i && Region.free .any ops listed i && schedT ops hb r (n - 1) true (listed.setIfInBounds i true)
  | .one 1 i r, n, top, listed => top && n != 0 && hb.contains i && (Region.ready .any ops listed).contains i && Region.free .any ops listed i && schedT ops hb r (n - 1) true (listed.setIfInBounds i true)
  | .one 2 i r, n, top, listed => top && n != 0 && (Region.ready .any ops listed == [i]) && schedT ops hb r (n - 1) true (listed.setIfInBounds i true)
  | .one (_ + 3) _ _, _, _, _ => false
  | .alt i r q, n, top, listed => (!top || Region.ready .any ops listed == i :: q.heads) && n != 0 && schedT ops hb r (n - 1) true (listed.setIfInBounds i true) && schedT ops hb q n false listed
  | .stop, _, top, _ => !top
def stepX (P : Program) (S : World → Prop) (k : Nat) (x : Ins) (ρ : Env) (w : World) (C : Env → World → Prop) : Prop :=
  match x.g with
  | none => opG P S k x.op x.ty ρ w fun v w' => C (put ρ x.dst v) w'
  | some (s, b) => match lk ρ s with
    | some (.bool c) => (c = b → opG P S k x.op x.ty ((s, .bool b) :: ρ) w fun v w' => C (put ((s, .bool b) :: ρ) x.dst v) w') ∧ (c = !b → C (put ((s, .bool !b) :: ρ) x.dst undef) w)
    | some (.tuple _) => C (put ρ x.dst undef) w
    | _ => False
def DT (P : Program) (S : World → Prop) : GT → List Nat → Env → World → Post → Prop
  | .nil, L, ρ, w, Q => Q .normal (restr L ρ) w
  | .one k x r, L, ρ, w, Q => stepX P S k x ρ w fun ρ' w' => DT P S r L ρ' w' Q
  | .alt x r q, L, ρ, w, Q => (stepX P S 2 x ρ w fun ρ' w' => DT P S r L ρ' w' Q) ∧ DT P S q L ρ w Q
  | .stop, _, _, _, _ => True
theorem stepX_cases {P : Program} {S : World → Prop} {N : Nat} {l : List Oper} {k i : Nat} {x : Ins} {o : Oper} {ρ : Env} {w : World} {a : Act} {C : Env → World → Prop} (ho : l[i]? = some o) (hx : insOf l i = some x) (hs : Sim N a ρ) (h : stepX P S k x ρ w C) :
    x.dst = o.dst ∧ x.op = o.op ∧ x.ty = o.type ∧ ((∃ ρ', Sim N a ρ' ∧ Region.wanted o (yielded l.toArray a.tmps) = true ∧ opG P S k o.op o.type ρ' w fun v w' => C (put ρ' o.dst v) w') ∨
      (∃ ρ', Sim N a ρ' ∧ Region.wanted o (yielded l.toArray a.tmps) = false ∧ C (put ρ' o.dst undef) w)) := by
  unfold insOf at hx
  rw [ho] at hx
  simp only at hx
  split at hx
  case h_2 => cases hx
  rename_i g hg
  simp only [Option.some.injEq] at hx
  subst hx
  refine ⟨rfl, rfl, rfl, ?_⟩
  unfold stepX at h
  simp only at h
  cases hgo : o.guard with
  | none =>
    rw [hgo] at hg
    simp only [stripG, Option.some.injEq] at hg; subst hg
    exact .inl ⟨ρ, hs, by simp only [Region.wanted, hgo], h⟩
  | some jb =>
    obtain ⟨j, b⟩ := jb
    rw [hgo] at hg
    simp only [stripG] at hg
    split at hg
    case h_2 => cases hg
    rename_i s hs0
    simp only [Option.some.injEq] at hg; subst hg
    simp only at h
    split at h
    · rename_i c hc
      have hy := yielded_of hs hs0 hc
      by_cases hcb : c = b
      · subst hcb
        exact .inl ⟨_, hs.know hc, by simp only [Region.wanted, hgo, hy, beq_self_eq_true], h.1 rfl⟩
      · have hcb' : c = !b := bool_ne hcb
        have hc' : lk ρ s = some (.bool !b) := by rw [← hcb']; exact hc
        exact .inr ⟨_, hs.know hc', by simp only [Region.wanted, hgo, hy]; simpa using hcb, h.2 hcb'⟩
    · rename_i u hc
      exact .inr ⟨ρ, hs, by simp only [Region.wanted, hgo, yielded_undef hs hs0 hc]; rfl, h⟩
    · exact h.elim
theorem stepX_op {P : Program} {S : World → Prop} {N : Nat} {l : List Oper} (hall : l.all (fun o => okDst N o.dst) = true) {hb : List Nat} {L : List Nat} {Q : Post} {i n : Nat} {x : Ins} {ρ : Env} {w : World} {a : Act} {listed : Array Bool} {C : Env → World → Prop}
    (hx : insOf l i = some x) (hs : Sim N a ρ) (hSw : S w) (h : stepX P S 2 x ρ w C)
    (hC : ∀ ρ' a' w', Sim N a' ρ' → S w' → C ρ' w' → wpAnyG P .any l.toArray (drawQ N L Q) S hb n (listed.setIfInBounds i true) a' w') :
    wpOp P l.toArray (drawQ N L Q) i (fun a' w' => (needB .any l.toArray hb i = true → S w → S w') ∧ wpAnyG P .any l.toArray (drawQ N L Q) S hb n (listed.setIfInBounds i true) a' w') a w := by
  obtain ⟨o, ho⟩ : ∃ o, l[i]? = some o := by
    unfold insOf at hx
    split at hx
    · cases hx
    · exact ⟨_, by assumption⟩
  have ho' : l.toArray[i]? = some o := by simpa using ho
  have hd : okDst N o.dst = true := List.all_eq_true.1 hall o (List.mem_of_getElem? ho)
  obtain ⟨_, _, _, ⟨ρ', hs', hw, h⟩ | ⟨ρ', hs', hw, h⟩⟩ := stepX_cases ho hx hs h
  · exact wpOp_doneG ho' hw (opW_done (show opW P o.op o.type ρ' w _ from h.2) h.1 a.eval hs'.eval) fun v w' hk => ⟨fun _ _ => hk.1, hC _ _ _ (hs'.put hd v) hk.1 hk.2⟩
  · exact wpOp_skip ho' hw ⟨fun _ h => h, hC _ _ _ (hs'.put hd undef) hSw h⟩
theorem DT_sound {P : Program} {S : World → Prop} {N : Nat} {l : List Oper} (hall : l.all (fun o => okDst N o.dst) = true) (hns : Region.noSelect l.toArray = true) (hb : List Nat) (L : List Nat) (Q : Post) : ∀ st : ST,
    (∀ (n : Nat) (gt : GT) (ρ : Env) (w : World) (a : Act) (listed : Array Bool), insT l st = some gt → schedT l.toArray hb st n true listed = true → Sim N a ρ → S w → DT P S gt L ρ w Q → wpAnyG P .any l.toArray (drawQ N L Q) S hb n listed a w) ∧
    (∀ (n : Nat) (gt : GT) (ρ : Env) (w : World) (a : Act) (listed : Array Bool), insT l st = some gt → schedT l.toArray hb st (n + 1) false listed = true → Sim N a ρ → S w → DT P S gt L ρ w Q →
      ∀ j ∈ st.heads, wpOp P l.toArray (drawQ N L Q) j (fun a' w' => (needB .any l.toArray hb j = true → S w → S w') ∧ wpAnyG P .any l.toArray (drawQ N L Q) S hb n (listed.setIfInBounds j true) a' w') a w) := by
  have hpan : ∀ (d : Option Nat) (v : Value) c (a : Act) (w : World), drawQ N L Q (.panic c) (a.put d v) w → drawQ N L Q (.panic c) a w := by
    rintro d v c a w ⟨_, _, hn, _⟩; cases hn
  intro st
  induction st with
  | nil =>
    refine ⟨fun n gt ρ w a listed hi hok hs hSw h => ?_, fun n gt ρ w a listed hi hok hs hSw h j hj => by cases hj⟩
    simp only [insT, Option.some.injEq] at hi; subst hi
    simp only [schedT, Bool.and_eq_true, beq_iff_eq, List.isEmpty_iff, true_and] at hok
    obtain ⟨rfl, hr⟩ := hok
    exact ⟨hr, ρ, hs, rfl, h⟩
  | stop =>
    refine ⟨fun n gt ρ w a listed hi hok hs hSw h => ?_, fun n gt ρ w a listed hi hok hs hSw h j hj => by cases hj⟩
    simp [schedT] at hok
  | one k i r ih =>
    refine ⟨fun n gt ρ w a listed hi hok hs hSw h => ?_, fun n gt ρ w a listed hi hok hs hSw h j hj => by cases hj⟩
    simp only [insT] at hi
    split at hi
    case h_2 => cases hi
    rename_i x t hx ht
    simp only [Option.some.injEq] at hi; subst hi
    obtain ⟨o, ho⟩ : ∃ o, l[i]? = some o := by
      unfold insOf at hx
      split at hx
      · cases hx
      · exact ⟨_, by assumption⟩
    have ho' : l.toArray[i]? = some o := by simpa using ho
    have hd : okDst N o.dst = true := List.all_eq_true.1 hall o (List.mem_of_getElem? ho)
    simp only [DT] at h
    match k, hok, h with
    | 0, hok, h =>
      simp only [schedT, Bool.and_eq_true, bne_iff_ne, ne_eq, true_and] at hok
      obtain ⟨m, rfl⟩ : ∃ m, n = m + 1 := ⟨n - 1, by omega⟩
      rw [Nat.add_sub_cancel] at hok
      obtain ⟨_, _, _, ⟨ρ', hs', hw, h⟩ | ⟨ρ', hs', hw, h⟩⟩ := stepX_cases ho hx hs h
      · obtain ⟨v, hv, hk⟩ := pureW_runs (show pureW P o.op o.type ρ' w _ from h)
        refine wpAnyG_take (T := fun _ => True) ho' hns hok.1.2 hok.1.1.2 (.inl fun _ => trivial) (hpan _ _) (.inl ⟨hw, fun w' _ => ?_⟩) trivial (ih.1 m t _ w _ _ ht hok.2 (hs'.put hd v) hSw hk)
        rw [execOp_raw]; exact hv a.eval hs'.eval w'
      · exact wpAnyG_take (T := fun _ => True) ho' hns hok.1.2 hok.1.1.2 (.inl fun _ => trivial) (hpan _ _) (.inr ⟨hw, rfl⟩) trivial (ih.1 m t _ w _ _ ht hok.2 (hs'.put hd undef) hSw h)
    | 1, hok, h =>
      simp only [schedT, Bool.and_eq_true, bne_iff_ne, ne_eq, true_and, List.contains_iff_mem] at hok
      obtain ⟨m, rfl⟩ : ∃ m, n = m + 1 := ⟨n - 1, by omega⟩
      rw [Nat.add_sub_cancel] at hok
      obtain ⟨_, _, _, ⟨ρ', hs', hw, h⟩ | ⟨ρ', hs', hw, h⟩⟩ := stepX_cases ho hx hs h
      · obtain ⟨v, hv, hk⟩ := opH_runs (show opH P S o.op o.type ρ' w _ from h)
        refine wpAnyG_take (T := S) ho' hns hok.1.2 (by simpa using hok.1.1.2) (.inr ⟨hok.1.1.1.2, rfl⟩) (hpan _ _) (.inl ⟨hw, fun w' hw' => ?_⟩) hSw (ih.1 m t _ w _ _ ht hok.2 (hs'.put hd v) hSw hk)
        rw [execOp_raw]; exact hv a.eval hs'.eval w' hw'
      · exact wpAnyG_take (T := fun _ => True) ho' hns hok.1.2 (by simpa using hok.1.1.2) (.inl fun _ => trivial) (hpan _ _) (.inr ⟨hw, rfl⟩) trivial (ih.1 m t _ w _ _ ht hok.2 (hs'.put hd undef) hSw h)
    | 2, hok, h =>
      simp only [schedT, Bool.and_eq_true, bne_iff_ne, ne_eq, true_and, beq_iff_eq] at hok
      obtain ⟨m, rfl⟩ : ∃ m, n = m + 1 := ⟨n - 1, by omega⟩
      rw [Nat.add_sub_cancel] at hok
      refine wpAnyG_all hok.1.2 (by simp) fun j hj => ?_
      simp only [List.mem_singleton] at hj; subst hj
      exact stepX_op hall hx hs hSw h fun ρ' a' w' hs' hSw' hC => ih.1 m t ρ' w' a' _ ht hok.2 hs' hSw' hC
    | k + 3, hok, h => simp [schedT] at hok
  | alt i r q ihr ihq =>
    have step : ∀ (n : Nat) (top : Bool) (gt : GT) (ρ : Env) (w : World) (a : Act) (listed : Array Bool), insT l (.alt i r q) = some gt → schedT l.toArray hb (.alt i r q) (n + 1) top listed = true → Sim N a ρ → S w → DT P S gt L ρ w Q →
        ∀ j ∈ (ST.alt i r q).heads, wpOp P l.toArray (drawQ N L Q) j (fun a' w' => (needB .any l.toArray hb j = true → S w → S w') ∧ wpAnyG P .any l.toArray (drawQ N L Q) S hb n (listed.setIfInBounds j true) a' w') a w := by
      intro n top gt ρ w a listed hi hok hs hSw h j hj
      simp only [insT] at hi
      split at hi
      case h_2 => cases hi
      rename_i x t u hx ht hu
      simp only [Option.some.injEq] at hi; subst hi
      simp only [schedT, Bool.and_eq_true, Nat.add_sub_cancel] at hok
      obtain ⟨h1, h2⟩ := h
      rcases List.mem_cons.1 hj with rfl | hj
      · exact stepX_op hall hx hs hSw h1 fun ρ' a' w' hs' hSw' hC => ihr.1 n t ρ' w' a' _ ht hok.1.2 hs' hSw' hC
      · exact ihq.2 n u ρ w a listed hu hok.2 hs hSw h2 j hj
    refine ⟨fun n gt ρ w a listed hi hok hs hSw h => ?_, fun n gt ρ w a listed hi hok hs hSw h j hj => step n false gt ρ w a listed hi hok hs hSw h j hj⟩
    have hok2 := hok
    simp only [schedT, Bool.and_eq_true, bne_iff_ne, ne_eq, Bool.not_true, Bool.false_or, beq_iff_eq] at hok2
    obtain ⟨m, rfl⟩ : ∃ m, n = m + 1 := ⟨n - 1, by omega⟩
    exact wpAnyG_all hok2.1.1.1 (by simp) fun j hj => step m true gt ρ w a listed hi hok hs hSw h j hj
theorem drawW_tree {P : Program} {l : List Oper} {L : List Nat} {ρ : Env} {w : World} {Q : Post} (hb : List Nat) (st : ST) (gt : GT) (hm : P.follows .mixedOrders = true)
    (hi : insT l st = some gt) (hok : (Region.noSelect l.toArray && schedT l.toArray hb st l.length true (Array.replicate l.length false)) = true)
    (S : World → Prop) (hS : S w.drew) (h : DT P S gt L ρ w.drew Q) : drawW P l L ρ w Q := by
  intro N a hall hs
  simp only [Bool.and_eq_true] at hok
  refine ops_of_any hm (wpAny_of_G (S := S) (hb := hb) _ _ _ _ ?_)
  have := (DT_sound (S := S) hall hok.1 hb L Q st).1 l.length gt ρ w.drew a (Array.replicate l.length false) hi hok.2 hs hS h
  have e : l.toArray.size = l.length := by simp
  rw [e]
  exact this
section
variable {P : Program} {S : World → Prop} {w : World} {ρ : Env} {Q : Post} {r q : GT} {L : List Nat} {d : Option Nat} {ty : TypeId} {k : Nat} {op : Op} {s : Nat} {b c : Bool} {x : Ins}
def DTn (P : Program) (S : World → Prop) (r : GT) (L : List Nat) (ρ : Env) (d : Option Nat) (Q : Post) : Value → World → Prop := fun v w => DT P S r L (put ρ d v) w Q
def DTs (P : Program) (S : World → Prop) (r : GT) (L : List Nat) (ρ : Env) (d : Option Nat) (Q : Post) : Value → World → Prop := fun v w => S w ∧ DT P S r L (put ρ d v) w Q
def opT (P : Program) (S : World → Prop) (k : Nat) (op : Op) (ty : TypeId) (r : GT) (L : List Nat) (ρ : Env) (d : Option Nat) (w : World) (Q : Post) : Prop := opG P S k op ty ρ w (DTn P S r L ρ d Q)
def dT (P : Program) (S : World → Prop) (o : Option Value) (s : Nat) (b : Bool) (k : Nat) (d : Option Nat) (op : Op) (ty : TypeId) (r : GT) (L : List Nat) (ρ : Env) (w : World) (Q : Post) : Prop :=
  match o with
  | some (.bool c) => (c = b → opT P S k op ty r L ((s, .bool b) :: ρ) d w Q) ∧ (c = !b → DT P S r L (put ((s, .bool !b) :: ρ) d undef) w Q)
  | some (.tuple _) => DT P S r L (put ρ d undef) w Q
  | _ => False
def nxT (P : Program) (S : World → Prop) (k : Nat) (x : Ins) (r : GT) (L : List Nat) (ρ : Env) (w : World) (Q : Post) : Prop := stepX P S k x ρ w fun ρ' w' => DT P S r L ρ' w' Q
theorem DT_nil : DT P S .nil L ρ w Q = Q .normal (restr L ρ) w := (rfl)
theorem DT_stop : DT P S .stop L ρ w Q = True := (rfl)
theorem DT_one : DT P S (.one k x r) L ρ w Q = nxT P S k x r L ρ w Q := (rfl)
theorem DT_alt : DT P S (.alt x r q) L ρ w Q = (nxT P S 2 x r L ρ w Q ∧ DT P S q L ρ w Q) := (rfl)
theorem nxT_plain : nxT P S k ⟨d, op, ty, none⟩ r L ρ w Q = opT P S k op ty r L ρ d w Q := (rfl)
theorem nxT_guard : nxT P S k ⟨d, op, ty, some (s, b)⟩ r L ρ w Q = dT P S (lk ρ s) s b k d op ty r L ρ w Q := by
  simp only [nxT, stepX, dT]; rfl
theorem DTn_app {v : Value} : DTn P S r L ρ d Q v w = DT P S r L (put ρ d v) w Q := (rfl)
theorem DTs_app {v : Value} : DTs P S r L ρ d Q v w = (S w ∧ DT P S r L (put ρ d v) w Q) := (rfl)
theorem opT_0 : opT P S 0 op ty r L ρ d w Q = pureW P op ty ρ w (DTn P S r L ρ d Q) := (rfl)
theorem opT_1 {t : TypeId} {x : Operand} : opT P S 1 (.load t x) ty r L ρ d w Q = ptrW (fun p => heldW P S t p w (DTn P S r L ρ d Q)) (ev ρ x) := (rfl)
theorem opT_2 : opT P S 2 op ty r L ρ d w Q = (noY ρ op ∧ opW P op ty ρ w (DTs P S r L ρ d Q)) := (rfl)
theorem dT_t : dT P S (some (.bool true)) s true k d op ty r L ρ w Q = opT P S k op ty r L ((s, .bool true) :: ρ) d w Q := by simp [dT]
theorem dT_f : dT P S (some (.bool false)) s false k d op ty r L ρ w Q = opT P S k op ty r L ((s, .bool false) :: ρ) d w Q := by simp [dT]
theorem dT_tf : dT P S (some (.bool true)) s false k d op ty r L ρ w Q = DT P S r L (put ((s, .bool true) :: ρ) d undef) w Q := by simp [dT]
theorem dT_ft : dT P S (some (.bool false)) s true k d op ty r L ρ w Q = DT P S r L (put ((s, .bool false) :: ρ) d undef) w Q := by simp [dT]
theorem dT_gen : dT P S (some (.bool c)) s b k d op ty r L ρ w Q = ((c = b → opT P S k op ty r L ((s, .bool b) :: ρ) d w Q) ∧ (c = !b → DT P S r L (put ((s, .bool !b) :: ρ) d undef) w Q)) := (rfl)
theorem dT_undef : dT P S (some undef) s b k d op ty r L ρ w Q = DT P S r L (put ρ d undef) w Q := (rfl)
end
attribute [go_sem low] dT_gen
attribute [go_sem] DT_nil DT_stop DT_one DT_alt nxT_plain nxT_guard DTn_app DTs_app opT_0 opT_1 opT_2 dT_t dT_f dT_tf dT_ft dT_undef
end Go.Ann

namespace Go.Ann
open Go Go.RowKit
set_option linter.unusedVariables false
set_option linter.unusedSimpArgs false
section
variable {κ : Type} {P : Program} {enc : κ → Value} {t : TypeId}
def entL (enc : κ → Value) : Nat → List κ → List MapEntry
  | _, [] => []
  | n, k :: l => { key := enc k, val := .bool true, born := n } :: entL enc (n + 1) l
def mapO (enc : κ → Value) (l : List κ) : Obj := .map (entL enc 0 l).toArray l.length
theorem entL_append : ∀ (l m : List κ) (n : Nat), entL enc n (l ++ m) = entL enc n l ++ entL enc (n + l.length) m
  | [], m, n => rfl
  | k :: l, m, n => by
    simp only [List.cons_append, entL, List.length_cons]
    rw [entL_append l m (n + 1), show n + 1 + l.length = n + (l.length + 1) by omega]
theorem mmW_map {m : TypeId} {w : World} {K : Value → World → Prop} (hK : K (.map (some w.heap.size)) (w.alloc (mapO (κ := κ) enc []))) : mmW P m w K := by
  refine ⟨_, _, ?_, hK⟩
  unfold Instr.makeMap
  simp [Sem.run_bind, Result.andThen, run_newObj_alloc]
  rfl
variable [DecidableEq κ]
structure KeyT (P : Program) (t : TypeId) (enc : κ → Value) (d : TypeDesc) : Prop where
  und : P.underlying t = some d
  chk' : ∀ (n : Nat) (w : World) (em : Bool) (a : κ), (Instr.checkKey em (n + 2) t (enc a)).run P w = .ok () w
  now : ∀ a b : κ, Instr.sameNow d (enc a) (enc b) = none ∨ Instr.sameNow d (enc a) (enc b) = some (decide (a = b))
  eq : ∀ (w : World) (a b : κ), (Op.equal t (enc a) (enc b)).run P w = .ok (decide (a = b)) w
theorem KeyT.chk {d : TypeDesc} (h : KeyT P t enc d) (w : World) (em : Bool) (a : κ) : (Instr.checkKey em 10000 t (enc a)).run P w = .ok () w := h.chk' 9998 w em a
def whereK (a : κ) : List κ → Nat → Option (Nat × Value)
  | [], _ => none
  | b :: l, i => if a = b then some (i, .bool true) else whereK a l (i + 1)
theorem whereK_not {a : κ} : ∀ {l : List κ} {i : Nat}, a ∉ l → whereK a l i = none
  | [], _, _ => rfl
  | b :: l, i, h => by
    rw [whereK, if_neg (fun e => h (by rw [e]; exact List.mem_cons_self ..)), whereK_not fun hm => h (List.mem_cons_of_mem _ hm)]
theorem whereK_mem {a : κ} : ∀ {l : List κ} {i : Nat}, a ∈ l → ∃ j, whereK a l i = some (j, .bool true)
  | b :: l, i, h => by
    rw [whereK]
    split
    · exact ⟨_, rfl⟩
    · rename_i hne
      rcases List.mem_cons.1 h with e | h
      · exact absurd e hne
      · exact whereK_mem h
variable {d : TypeDesc}
theorem findNow_ent (hk : KeyT P t enc d) (a : κ) : ∀ (l : List κ) (n i : Nat), Instr.findNow d (enc a) (entL enc n l) i = none ∨ Instr.findNow d (enc a) (entL enc n l) i = some (whereK a l i)
  | [], n, i => .inr rfl
  | b :: l, n, i => by
    simp only [entL, Instr.findNow, whereK]
    rcases hk.now a b with h | h
    · exact .inl (by rw [h])
    · rw [h]
      by_cases e : a = b
      · rw [decide_eq_true e, if_pos e]; exact .inr rfl
      · rw [decide_eq_false e, if_neg e]; exact findNow_ent hk a l _ _
theorem findAsk_ent (hk : KeyT P t enc d) (w : World) (a : κ) : ∀ (l : List κ) (n i : Nat), (Instr.findAsking t (enc a) (entL enc n l) i).run P w = .ok (whereK a l i) w
  | [], n, i => rfl
  | b :: l, n, i => by
    simp only [entL, Instr.findAsking, whereK, Sem.run_bind, hk.eq w a b, Result.andThen_ok]
    by_cases e : a = b
    · rw [decide_eq_true e, if_pos e]; rfl
    · rw [decide_eq_false e, if_neg e]
      simp only [Bool.false_eq_true, if_false]
      exact findAsk_ent hk w a l _ _
theorem findKey_ent (hk : KeyT P t enc d) (w : World) (a : κ) (l : List κ) (n : Nat) : (Instr.findKey t (enc a) (entL enc n l)).run P w = .ok (whereK a l 0) w := by
  unfold Instr.findKey
  simp only [Sem.run_bind, run_underlying hk.und, Result.andThen_ok]
  rcases findNow_ent hk a l n 0 with h | h
  · rw [h]; exact findAsk_ent hk w a l n 0
  · rw [h]; rfl
theorem luW_map {m e : TypeId} {w : World} {K : Value → World → Prop} {r : Nat} (hk : KeyT P t enc d) (hm : P.underlying m = some (.map t e)) {l : List κ} (hr : w.heap[r]? = some (mapO enc l)) (a : κ)
    (hz : (zeroValue e).run P w = .ok (.bool false) w) (hK : K (.bool (decide (a ∈ l))) w) : luW P m (.map (some r)) (enc a) false w K := by
  refine ⟨_, _, ?_, hK⟩
  unfold Instr.lookup
  have hg : (getObj r).run P w = .ok (.map (entL enc 0 l).toArray l.length) w := run_getObj_map w r _ _ hr
  simp only [Sem.run_bind, run_underlying hm, Result.andThen_ok, hg, Sem.run_pure, hk.chk, findKey_ent hk, List.toList_toArray]
  by_cases h : a ∈ l
  · obtain ⟨j, hj⟩ := whereK_mem (i := 0) h
    rw [hj, decide_eq_true h]; rfl
  · rw [whereK_not h, decide_eq_false h]
    simp only [Sem.run_bind, hz, Result.andThen_ok]
    rfl
theorem muW_map {m e : TypeId} {w : World} {K : Value → World → Prop} {r : Nat} (hk : KeyT P t enc d) (hm : P.underlying m = some (.map t e)) {l : List κ} (hr : w.heap[r]? = some (mapO enc l)) (a : κ) (ha : a ∉ l)
    (hK : K undef (w.putObj r (mapO enc (l ++ [a])))) : muW P m (.map (some r)) (enc a) (.bool true) w K := by
  refine ⟨_, ?_, hK⟩
  unfold Instr.mapUpdate
  have hg : (getObj r).run P w = .ok (.map (entL enc 0 l).toArray l.length) w := run_getObj_map w r _ _ hr
  simp only [Sem.run_bind, run_underlying hm, Result.andThen_ok, hg, Sem.run_pure, hk.chk, findKey_ent hk, List.toList_toArray, whereK_not ha]
  have e : (entL enc 0 l).toArray.push { key := enc a, val := Value.bool true, born := l.length } = (entL enc 0 (l ++ [a])).toArray := by
    rw [entL_append, Nat.zero_add]; simp [entL]
  rw [e]
  have hs : ∀ o, (setObj r o).run P w = .ok () (w.putObj r o) := fun o => by simp [setObj, Sem.run, hr, mapO, World.putObj]
  rw [hs]
  show _ = Result.ok () (w.putObj r (.map _ (l ++ [a]).length))
  rw [List.length_append]; rfl
end
section
variable {P : Program} {t : TypeId}
theorem keyT_str (ht : P.underlying t = some .string) : KeyT P t (fun l : List UInt8 => .string (ofL l)) .string := by
  refine ⟨ht, fun n w em a => ?_, fun a b => .inr ?_, fun w a b => ?_⟩
  · simp only [Instr.checkKey, Sem.run_bind, run_underlying ht, Result.andThen_ok]; rfl
  · simp only [Instr.sameNow, Option.some.injEq]
    rw [Bool.eq_iff_iff, MapKept.bytes_beq, decide_eq_true_eq]
    exact ⟨ofL_inj, congrArg ofL⟩
  · show (Op.equalIn 10000 t _ _).run P w = _
    rw [run_equalIn_string w 9999 t _ _ ht]
    congr 1
    rw [ByteArray.toList_eq, ByteArray.toList_eq, Bool.eq_iff_iff]; simp [ofL]
theorem keyT_flat {κ : Type} [DecidableEq κ] {enc : κ → List Value} {ks : List FK} {fs : Array Field} (hf : flatT P t = some ks) (hu : P.underlying t = some (.struct fs)) (he : ∀ a b, aggEq ks (enc a) (enc b) = some (decide (a = b))) (hl : ∀ (a : κ) (i : Nat) (f : Field), fs[i]? = some f → ∃ v, (enc a)[f.offset]? = some v) :
    KeyT P t (fun a => .agg (enc a).toArray) (.struct fs) := by
  have hg : (P.stoodInHeld t = false ∧ P.eqGuardType P.depth t = false) ∧ flatF P 0 fs.toList = some ks := by
    unfold flatT at hf
    split at hf
    · rename_i hg
      rw [hu] at hf
      exact ⟨hg, hf⟩
    · cases hf
  refine ⟨hu, fun n w em a => ?_, fun a b => .inl rfl, fun w a b => ?_⟩
  · have one : ∀ (l : List Field) (i : Nat) (ks : List FK), flatF P i l = some ks → (∀ f ∈ l, ∃ v, (enc a)[f.offset]? = some v) → ∀ f ∈ l, ((if f.name ≠ "_" then do Instr.checkKey em (n + 1) f.type (← part f.type (enc a).toArray f.offset) else pure () : Sem Unit)).run P w = .ok () w := by
      intro l
      induction l with
      | nil => intro i ks _ _ f hf; cases hf
      | cons g l ih =>
        intro i ks h1 h2 f hfm
        simp only [flatF] at h1
        split at h1
        case isFalse => cases h1
        rename_i hgo
        split at h1
        case h_2 => cases h1
        rename_i k ks' hk hks
        rcases List.mem_cons.1 hfm with rfl | hfm
        · obtain ⟨v, hv⟩ := h2 _ (List.mem_cons_self ..)
          obtain ⟨dd, hd, hag, hm⟩ := kindF_some hk
          rw [if_pos hgo.2]
          have hp : (part f.type (enc a).toArray f.offset).run P w = .ok v w := by
            simp only [part, Sem.run_bind, run_isAgg0 w hd, Result.andThen, hag, Bool.false_eq_true, if_false, List.getElem?_toArray, hv, Sem.run_pure]
          simp only [Sem.run_bind, hp, Result.andThen_ok]
          simp only [Instr.checkKey, Sem.run_bind, run_underlying hd, Result.andThen_ok]
          cases k <;> cases dd <;> first | exact hm.elim | rfl
        · exact ih _ _ hks (fun f hf => h2 f (List.mem_cons_of_mem _ hf)) f hfm
    have each := one fs.toList 0 ks hg.2 fun f hf => by
      obtain ⟨i, hi, rfl⟩ := List.mem_iff_getElem.1 hf
      exact hl a i _ (by rw [← Array.getElem?_toList]; exact List.getElem?_eq_getElem hi)
    rw [Instr.checkKey]
    simp only [Sem.run_bind, run_underlying hu, Result.andThen_ok]
    rw [← Array.forIn_toList]
    revert each
    generalize fs.toList = l
    intro each
    induction l with
    | nil => rfl
    | cons f l ih =>
      have h1 := each f (List.mem_cons_self ..)
      have h2 := ih fun f hf => each f (List.mem_cons_of_mem _ hf)
      rw [List.forIn_cons]
      simp only [Sem.run_bind] at h2 ⊢
      by_cases hn : f.name ≠ "_"
      · rw [if_pos hn] at h1
        simp only [Sem.run_bind] at h1
        rw [if_pos hn]
        simp only [Sem.run_bind]
        cases hp : (part f.type (enc a).toArray f.offset).run P w with
        | ok v w1 =>
          rw [hp] at h1
          simp only [Result.andThen_ok] at h1 ⊢
          rw [h1]
          simpa using h2
        | _ => rw [hp] at h1; cases h1
      · rw [if_neg hn]
        simpa using h2
  · show (Op.equalIn 10000 t _ _).run P w = _
    have hfo : P.fieldsOf t = fs := by simp [Program.fieldsOf, hu]
    rw [run_equalIn_struct w 9999 t _ _ (by rw [hfo]; exact hu) hg.1.1, hfo]
    exact eqF_run w 9998 _ _ fs.toList ks 0 _ hg.2 (by simpa using he a b)
end
end Go.Ann

namespace Go.Ann
open Go Go.RowKit
attribute [go_sem] storeW_fill List.setIfInBounds_toArray List.set_cons_zero List.set_cons_succ List.getElem_toArray List.getElem_cons_zero List.getElem_cons_succ Nat.reduceLeDiff Nat.reduceSub okSt_nil okSt_cons fillO_some fillO_none cF_same cF_blk fF_any size_fill Value.oneCell' Int.toNat_natCast Int.cast_ofNat_Int cast0 cast1 Int.natCast_add add_block add_off Classical.not_not decide_not Bool.not_eq_false decide_true decide_false Bool.true_beq Bool.false_beq beq_true beq_false Bool.true_bne Bool.false_bne Bool.bne_true Bool.bne_false decide_eq_true_eq Bool.not_eq_eq_eq_not Nat.mul_one List.size_toArray List.length_cons List.length_nil Nat.le_refl ldK_int ldK_bool ldK_str ldK_slice ldK_ptr ldK_map ldK_agg ldK_other ldO_int ldO_bool ldO_str ldO_slice ldO_ptr ldO_map ldO_other ldA_some cellsO_new cellsO_nil cellsC_some cellsO_drew cellsO_alloc cA_add cS_add cA_new cA_old fA_new fA_old setO_some cS_same cS_off cS_blk World.cell?_drew World.frozen?_drew World.frozen?_setCell World.size_alloc World.size_drew World.size_setCell heldX_eq heldX_add chg_refl chg_drew ovr_nil ovr_cons Option.getD_some Option.getD_none Addr.add_lit Nat.add_zero Option.some.injEq exists_eq' exists_eq_left' Value.int.injEq Value.bool.injEq Value.pointer.injEq Value.string.injEq
end Go.Ann
section
attribute [go_sem_proc] reduceCtorEq Nat.reduceBEq Nat.reduceEqDiff Nat.reduceAdd Nat.reduceMul Int.reduceNe Int.reduceEq Int.reduceLT Int.reduceLE Int.reduceNeg Int.reduceAdd Int.reduceSub Int.reduceMul Int.reduceToNat
attribute [go_sem_proc ↓] reduceIte
attribute [go_sem] beq_self_eq_true
end

namespace Go.Proofs.Ytbeoedgoikcbpaa
open Go Go.Ann
@[go_sem] theorem ty3tyK : tyK Try.prog 3 = .int .i64 := by kernel_rfl
@[go_sem] theorem ty3sizeT : sizeT Try.prog 3 = some 1 := by kernel_rfl
@[go_sem] theorem ty3zeroT : zeroT Try.prog 3 = some (.int .i64 0) := by kernel_rfl
@[go_sem] theorem ty3conc : Program.concrete Try.prog 3 = true := by kernel_rfl
@[go_sem] theorem ty4tyK : tyK Try.prog 4 = .bool := by kernel_rfl
@[go_sem] theorem ty4isBoolT : isBoolT Try.prog 4 = true := by kernel_rfl
@[go_sem] theorem ty4sizeT : sizeT Try.prog 4 = some 1 := by kernel_rfl
@[go_sem] theorem ty4zeroT : zeroT Try.prog 4 = some (.bool false) := by kernel_rfl
@[go_sem] theorem ty4conc : Program.concrete Try.prog 4 = true := by kernel_rfl
@[go_sem] theorem ty5tyK : tyK Try.prog 5 = .int .u8 := by kernel_rfl
@[go_sem] theorem ty5sizeT : sizeT Try.prog 5 = some 1 := by kernel_rfl
@[go_sem] theorem ty5zeroT : zeroT Try.prog 5 = some (.int .u8 0) := by kernel_rfl
@[go_sem] theorem ty5conc : Program.concrete Try.prog 5 = true := by kernel_rfl
@[go_sem] theorem ty9tyK : tyK Try.prog 9 = .str := by kernel_rfl
@[go_sem] theorem ty9isStrT : isStrT Try.prog 9 = true := by kernel_rfl
@[go_sem] theorem ty9sizeT : sizeT Try.prog 9 = some 1 := by kernel_rfl
@[go_sem] theorem ty9zeroT : zeroT Try.prog 9 = some (.string (ofL [])) := by kernel_rfl
@[go_sem] theorem ty9conc : Program.concrete Try.prog 9 = true := by kernel_rfl
@[go_sem] theorem ty22tyK : tyK Try.prog 22 = .slice false 58 := by kernel_rfl
@[go_sem] theorem ty22isSliceT : isSliceT Try.prog 22 = true := by kernel_rfl
@[go_sem] theorem ty22sliI : sliI Try.prog 22 = some 11 := by kernel_rfl
@[go_sem] theorem ty22mkI : mkI Try.prog 22 = some (58, 11, 88, (.agg #[(.int .i64 0), (.int .i64 0), (.int .i64 0), (.int .i64 0), (.int .i64 0), (.int .i64 0), (.int .i64 0), (.bool false), (.int .i64 0), (.int .i64 0), (.int .i64 0)])) := by kernel_rfl
@[go_sem] theorem ty22sizeT : sizeT Try.prog 22 = some 1 := by kernel_rfl
@[go_sem] theorem ty22zeroT : zeroT Try.prog 22 = some (.slice none 0 0) := by kernel_rfl
@[go_sem] theorem ty22conc : Program.concrete Try.prog 22 = true := by kernel_rfl
@[go_sem] theorem ty24tyK : tyK Try.prog 24 = .agg 3 := by kernel_rfl
@[go_sem] theorem ty24sizeT : sizeT Try.prog 24 = some 3 := by kernel_rfl
@[go_sem] theorem ty24zeroT : zeroT Try.prog 24 = some (.agg #[(.int .i64 0), (.int .i64 0), (.slice none 0 0)]) := by kernel_rfl
@[go_sem] theorem ty24conc : Program.concrete Try.prog 24 = true := by kernel_rfl
@[go_sem] theorem ty24plc : plcT Try.prog 24 = some [(0, 1), (1, 1), (2, 1)] := by kernel_rfl
@[go_sem] theorem ty24fld0 : fldI Try.prog 24 0 = some (0, 1, false) := by kernel_rfl
@[go_sem] theorem ty24fld1 : fldI Try.prog 24 1 = some (1, 1, false) := by kernel_rfl
@[go_sem] theorem ty24fld2 : fldI Try.prog 24 2 = some (2, 1, false) := by kernel_rfl
@[go_sem] theorem ty25tyK : tyK Try.prog 25 = .slice false 36 := by kernel_rfl
@[go_sem] theorem ty25isSliceT : isSliceT Try.prog 25 = true := by kernel_rfl
@[go_sem] theorem ty25sliI : sliI Try.prog 25 = some 1 := by kernel_rfl
@[go_sem] theorem ty25mkI : mkI Try.prog 25 = some (36, 1, 24, (.slice none 0 0)) := by kernel_rfl
@[go_sem] theorem ty25sizeT : sizeT Try.prog 25 = some 1 := by kernel_rfl
@[go_sem] theorem ty25zeroT : zeroT Try.prog 25 = some (.slice none 0 0) := by kernel_rfl
@[go_sem] theorem ty25conc : Program.concrete Try.prog 25 = true := by kernel_rfl
@[go_sem] theorem ty27tyK : tyK Try.prog 27 = .agg 3 := by kernel_rfl
@[go_sem] theorem ty27sizeT : sizeT Try.prog 27 = some 3 := by kernel_rfl
@[go_sem] theorem ty27zeroT : zeroT Try.prog 27 = some (.agg #[(.slice none 0 0), (.slice none 0 0), (.int .i64 0)]) := by kernel_rfl
@[go_sem] theorem ty27conc : Program.concrete Try.prog 27 = true := by kernel_rfl
@[go_sem] theorem ty27plc : plcT Try.prog 27 = some [(0, 1), (1, 1), (2, 1)] := by kernel_rfl
@[go_sem] theorem ty27fld0 : fldI Try.prog 27 0 = some (0, 1, false) := by kernel_rfl
@[go_sem] theorem ty27fld1 : fldI Try.prog 27 1 = some (1, 1, false) := by kernel_rfl
@[go_sem] theorem ty27fld2 : fldI Try.prog 27 2 = some (2, 1, false) := by kernel_rfl
@[go_sem] theorem ty28tyK : tyK Try.prog 28 = .int .i64 := by kernel_rfl
@[go_sem] theorem ty28sizeT : sizeT Try.prog 28 = some 1 := by kernel_rfl
@[go_sem] theorem ty28zeroT : zeroT Try.prog 28 = some (.int .i64 0) := by kernel_rfl
@[go_sem] theorem ty28conc : Program.concrete Try.prog 28 = true := by kernel_rfl
@[go_sem] theorem ty36tyK : tyK Try.prog 36 = .slice false 3 := by kernel_rfl
@[go_sem] theorem ty36isSliceT : isSliceT Try.prog 36 = true := by kernel_rfl
@[go_sem] theorem ty36sliI : sliI Try.prog 36 = some 1 := by kernel_rfl
@[go_sem] theorem ty36mkI : mkI Try.prog 36 = some (3, 1, 8, (.int .i64 0)) := by kernel_rfl
@[go_sem] theorem ty36sizeT : sizeT Try.prog 36 = some 1 := by kernel_rfl
@[go_sem] theorem ty36zeroT : zeroT Try.prog 36 = some (.slice none 0 0) := by kernel_rfl
@[go_sem] theorem ty36conc : Program.concrete Try.prog 36 = true := by kernel_rfl
@[go_sem] theorem ty41tyK : tyK Try.prog 41 = .slice false 4 := by kernel_rfl
@[go_sem] theorem ty41isSliceT : isSliceT Try.prog 41 = true := by kernel_rfl
@[go_sem] theorem ty41sliI : sliI Try.prog 41 = some 1 := by kernel_rfl
@[go_sem] theorem ty41mkI : mkI Try.prog 41 = some (4, 1, 1, (.bool false)) := by kernel_rfl
@[go_sem] theorem ty41sizeT : sizeT Try.prog 41 = some 1 := by kernel_rfl
@[go_sem] theorem ty41zeroT : zeroT Try.prog 41 = some (.slice none 0 0) := by kernel_rfl
@[go_sem] theorem ty41conc : Program.concrete Try.prog 41 = true := by kernel_rfl
@[go_sem] theorem ty44tyK : tyK Try.prog 44 = .int .u16 := by kernel_rfl
@[go_sem] theorem ty44sizeT : sizeT Try.prog 44 = some 1 := by kernel_rfl
@[go_sem] theorem ty44zeroT : zeroT Try.prog 44 = some (.int .u16 0) := by kernel_rfl
@[go_sem] theorem ty44conc : Program.concrete Try.prog 44 = true := by kernel_rfl
@[go_sem] theorem ty47tyK : tyK Try.prog 47 = .slice false 24 := by kernel_rfl
@[go_sem] theorem ty47isSliceT : isSliceT Try.prog 47 = true := by kernel_rfl
@[go_sem] theorem ty47sliI : sliI Try.prog 47 = some 3 := by kernel_rfl
@[go_sem] theorem ty47mkI : mkI Try.prog 47 = some (24, 3, 40, (.agg #[(.int .i64 0), (.int .i64 0), (.slice none 0 0)])) := by kernel_rfl
@[go_sem] theorem ty47sizeT : sizeT Try.prog 47 = some 1 := by kernel_rfl
@[go_sem] theorem ty47zeroT : zeroT Try.prog 47 = some (.slice none 0 0) := by kernel_rfl
@[go_sem] theorem ty47conc : Program.concrete Try.prog 47 = true := by kernel_rfl
@[go_sem] theorem ty58tyK : tyK Try.prog 58 = .agg 11 := by kernel_rfl
@[go_sem] theorem ty58sizeT : sizeT Try.prog 58 = some 11 := by kernel_rfl
@[go_sem] theorem ty58zeroT : zeroT Try.prog 58 = some (.agg #[(.int .i64 0), (.int .i64 0), (.int .i64 0), (.int .i64 0), (.int .i64 0), (.int .i64 0), (.int .i64 0), (.bool false), (.int .i64 0), (.int .i64 0), (.int .i64 0)]) := by kernel_rfl
@[go_sem] theorem ty58conc : Program.concrete Try.prog 58 = true := by kernel_rfl
@[go_sem] theorem ty58plc : plcT Try.prog 58 = some [(0, 1), (1, 1), (2, 1), (3, 1), (4, 1), (5, 1), (6, 1), (7, 1), (8, 1), (9, 1), (10, 1)] := by kernel_rfl
@[go_sem] theorem ty58flat : flatT Try.prog 58 = some [.int, .int, .int, .int, .int, .int, .int, .bool, .int, .int, .int] := by kernel_rfl
@[go_sem] theorem ty58fld0 : fldI Try.prog 58 0 = some (0, 1, false) := by kernel_rfl
@[go_sem] theorem ty58fld1 : fldI Try.prog 58 1 = some (1, 1, false) := by kernel_rfl
@[go_sem] theorem ty58fld2 : fldI Try.prog 58 2 = some (2, 1, false) := by kernel_rfl
@[go_sem] theorem ty58fld3 : fldI Try.prog 58 3 = some (3, 1, false) := by kernel_rfl
@[go_sem] theorem ty58fld4 : fldI Try.prog 58 4 = some (4, 1, false) := by kernel_rfl
@[go_sem] theorem ty58fld5 : fldI Try.prog 58 5 = some (5, 1, false) := by kernel_rfl
@[go_sem] theorem ty58fld6 : fldI Try.prog 58 6 = some (6, 1, false) := by kernel_rfl
@[go_sem] theorem ty58fld7 : fldI Try.prog 58 7 = some (7, 1, false) := by kernel_rfl
@[go_sem] theorem ty58fld8 : fldI Try.prog 58 8 = some (8, 1, false) := by kernel_rfl
@[go_sem] theorem ty58fld9 : fldI Try.prog 58 9 = some (9, 1, false) := by kernel_rfl
@[go_sem] theorem ty58fld10 : fldI Try.prog 58 10 = some (10, 1, false) := by kernel_rfl
@[go_sem] theorem ty63tyK : tyK Try.prog 63 = .int .u32 := by kernel_rfl
@[go_sem] theorem ty63sizeT : sizeT Try.prog 63 = some 1 := by kernel_rfl
@[go_sem] theorem ty63zeroT : zeroT Try.prog 63 = some (.int .u32 0) := by kernel_rfl
@[go_sem] theorem ty63conc : Program.concrete Try.prog 63 = true := by kernel_rfl
@[go_sem] theorem ty76tyK : tyK Try.prog 76 = .int .u64 := by kernel_rfl
@[go_sem] theorem ty76sizeT : sizeT Try.prog 76 = some 1 := by kernel_rfl
@[go_sem] theorem ty76zeroT : zeroT Try.prog 76 = some (.int .u64 0) := by kernel_rfl
@[go_sem] theorem ty76conc : Program.concrete Try.prog 76 = true := by kernel_rfl
@[go_sem] theorem ty79tyK : tyK Try.prog 79 = .slice false 83 := by kernel_rfl
@[go_sem] theorem ty79isSliceT : isSliceT Try.prog 79 = true := by kernel_rfl
@[go_sem] theorem ty79sliI : sliI Try.prog 79 = some 2 := by kernel_rfl
@[go_sem] theorem ty79mkI : mkI Try.prog 79 = some (83, 2, 48, (.agg #[(.slice none 0 0), (.slice none 0 0)])) := by kernel_rfl
@[go_sem] theorem ty79sizeT : sizeT Try.prog 79 = some 1 := by kernel_rfl
@[go_sem] theorem ty79zeroT : zeroT Try.prog 79 = some (.slice none 0 0) := by kernel_rfl
@[go_sem] theorem ty79conc : Program.concrete Try.prog 79 = true := by kernel_rfl
@[go_sem] theorem ty83tyK : tyK Try.prog 83 = .agg 2 := by kernel_rfl
@[go_sem] theorem ty83sizeT : sizeT Try.prog 83 = some 2 := by kernel_rfl
@[go_sem] theorem ty83zeroT : zeroT Try.prog 83 = some (.agg #[(.slice none 0 0), (.slice none 0 0)]) := by kernel_rfl
@[go_sem] theorem ty83conc : Program.concrete Try.prog 83 = true := by kernel_rfl
@[go_sem] theorem ty83plc : plcT Try.prog 83 = some [(0, 1), (1, 1)] := by kernel_rfl
@[go_sem] theorem ty83fld0 : fldI Try.prog 83 0 = some (0, 1, false) := by kernel_rfl
@[go_sem] theorem ty83fld1 : fldI Try.prog 83 1 = some (1, 1, false) := by kernel_rfl
@[go_sem] theorem ty96tyK : tyK Try.prog 96 = .map := by kernel_rfl
@[go_sem] theorem ty96isMapT : isMapT Try.prog 96 = true := by kernel_rfl
@[go_sem] theorem ty96sizeT : sizeT Try.prog 96 = some 1 := by kernel_rfl
@[go_sem] theorem ty96zeroT : zeroT Try.prog 96 = some (.map none) := by kernel_rfl
@[go_sem] theorem ty96conc : Program.concrete Try.prog 96 = true := by kernel_rfl
@[go_sem] theorem ty97tyK : tyK Try.prog 97 = .slice false 22 := by kernel_rfl
@[go_sem] theorem ty97isSliceT : isSliceT Try.prog 97 = true := by kernel_rfl
@[go_sem] theorem ty97sliI : sliI Try.prog 97 = some 1 := by kernel_rfl
@[go_sem] theorem ty97mkI : mkI Try.prog 97 = some (22, 1, 24, (.slice none 0 0)) := by kernel_rfl
@[go_sem] theorem ty97sizeT : sizeT Try.prog 97 = some 1 := by kernel_rfl
@[go_sem] theorem ty97zeroT : zeroT Try.prog 97 = some (.slice none 0 0) := by kernel_rfl
@[go_sem] theorem ty97conc : Program.concrete Try.prog 97 = true := by kernel_rfl
@[go_sem] theorem ty99tyK : tyK Try.prog 99 = .agg 4 := by kernel_rfl
@[go_sem] theorem ty99sizeT : sizeT Try.prog 99 = some 4 := by kernel_rfl
@[go_sem] theorem ty99zeroT : zeroT Try.prog 99 = some (.agg #[(.slice none 0 0), (.map none), (.slice none 0 0), (.int .i64 0)]) := by kernel_rfl
@[go_sem] theorem ty99conc : Program.concrete Try.prog 99 = true := by kernel_rfl
@[go_sem] theorem ty99plc : plcT Try.prog 99 = some [(0, 1), (1, 1), (2, 1), (3, 1)] := by kernel_rfl
@[go_sem] theorem ty99fld0 : fldI Try.prog 99 0 = some (0, 1, false) := by kernel_rfl
@[go_sem] theorem ty99fld1 : fldI Try.prog 99 1 = some (1, 1, false) := by kernel_rfl
@[go_sem] theorem ty99fld2 : fldI Try.prog 99 2 = some (2, 1, false) := by kernel_rfl
@[go_sem] theorem ty99fld3 : fldI Try.prog 99 3 = some (3, 1, false) := by kernel_rfl
@[go_sem] theorem ty109tyK : tyK Try.prog 109 = .map := by kernel_rfl
@[go_sem] theorem ty109isMapT : isMapT Try.prog 109 = true := by kernel_rfl
@[go_sem] theorem ty109sizeT : sizeT Try.prog 109 = some 1 := by kernel_rfl
@[go_sem] theorem ty109zeroT : zeroT Try.prog 109 = some (.map none) := by kernel_rfl
@[go_sem] theorem ty109conc : Program.concrete Try.prog 109 = true := by kernel_rfl
@[go_sem] theorem ty114tyK : tyK Try.prog 114 = .int .u64 := by kernel_rfl
@[go_sem] theorem ty114sizeT : sizeT Try.prog 114 = some 1 := by kernel_rfl
@[go_sem] theorem ty114zeroT : zeroT Try.prog 114 = some (.int .u64 0) := by kernel_rfl
@[go_sem] theorem ty114conc : Program.concrete Try.prog 114 = true := by kernel_rfl
@[go_sem] theorem ty117tyK : tyK Try.prog 117 = .agg 3 := by kernel_rfl
@[go_sem] theorem ty117sizeT : sizeT Try.prog 117 = some 3 := by kernel_rfl
@[go_sem] theorem ty117zeroT : zeroT Try.prog 117 = some (.agg #[(.slice none 0 0), (.int .i64 0), (.bool false)]) := by kernel_rfl
@[go_sem] theorem ty117conc : Program.concrete Try.prog 117 = true := by kernel_rfl
@[go_sem] theorem ty117plc : plcT Try.prog 117 = some [(0, 1), (1, 1), (2, 1)] := by kernel_rfl
@[go_sem] theorem ty117fld0 : fldI Try.prog 117 0 = some (0, 1, false) := by kernel_rfl
@[go_sem] theorem ty117fld1 : fldI Try.prog 117 1 = some (1, 1, false) := by kernel_rfl
@[go_sem] theorem ty117fld2 : fldI Try.prog 117 2 = some (2, 1, false) := by kernel_rfl
@[go_sem] theorem ty121tyK : tyK Try.prog 121 = .agg 4 := by kernel_rfl
@[go_sem] theorem ty121sizeT : sizeT Try.prog 121 = some 4 := by kernel_rfl
@[go_sem] theorem ty121zeroT : zeroT Try.prog 121 = some (.agg #[(.int .i64 0), (.int .i64 0), (.int .i64 0), (.int .i64 0)]) := by kernel_rfl
@[go_sem] theorem ty121conc : Program.concrete Try.prog 121 = true := by kernel_rfl
@[go_sem] theorem ty121plc : plcT Try.prog 121 = some [(0, 1), (1, 1), (2, 1), (3, 1)] := by kernel_rfl
@[go_sem] theorem ty121flat : flatT Try.prog 121 = some [.int, .int, .int, .int] := by kernel_rfl
@[go_sem] theorem ty121fld0 : fldI Try.prog 121 0 = some (0, 1, false) := by kernel_rfl
@[go_sem] theorem ty121fld1 : fldI Try.prog 121 1 = some (1, 1, false) := by kernel_rfl
@[go_sem] theorem ty121fld2 : fldI Try.prog 121 2 = some (2, 1, false) := by kernel_rfl
@[go_sem] theorem ty121fld3 : fldI Try.prog 121 3 = some (3, 1, false) := by kernel_rfl
@[go_sem] theorem ty134tyK : tyK Try.prog 134 = .agg 3 := by kernel_rfl
@[go_sem] theorem ty134sizeT : sizeT Try.prog 134 = some 3 := by kernel_rfl
@[go_sem] theorem ty134zeroT : zeroT Try.prog 134 = some (.agg #[(.int .i64 0), (.int .u32 0), (.string (ofL []))]) := by kernel_rfl
@[go_sem] theorem ty134conc : Program.concrete Try.prog 134 = true := by kernel_rfl
@[go_sem] theorem ty134plc : plcT Try.prog 134 = some [(0, 1), (1, 1), (2, 1)] := by kernel_rfl
@[go_sem] theorem ty134flat : flatT Try.prog 134 = some [.int, .int, .str] := by kernel_rfl
@[go_sem] theorem ty134fld0 : fldI Try.prog 134 0 = some (0, 1, false) := by kernel_rfl
@[go_sem] theorem ty134fld1 : fldI Try.prog 134 1 = some (1, 1, false) := by kernel_rfl
@[go_sem] theorem ty134fld2 : fldI Try.prog 134 2 = some (2, 1, false) := by kernel_rfl
@[go_sem] theorem ty137tyK : tyK Try.prog 137 = .int .i64 := by kernel_rfl
@[go_sem] theorem ty137sizeT : sizeT Try.prog 137 = some 1 := by kernel_rfl
@[go_sem] theorem ty137zeroT : zeroT Try.prog 137 = some (.int .i64 0) := by kernel_rfl
@[go_sem] theorem ty137conc : Program.concrete Try.prog 137 = true := by kernel_rfl
@[go_sem] theorem ty146tyK : tyK Try.prog 146 = .slice true 5 := by kernel_rfl
@[go_sem] theorem ty146isSliceT : isSliceT Try.prog 146 = true := by kernel_rfl
@[go_sem] theorem ty146sliI : sliI Try.prog 146 = some 1 := by kernel_rfl
@[go_sem] theorem ty146mkI : mkI Try.prog 146 = some (5, 1, 1, (.int .u8 0)) := by kernel_rfl
@[go_sem] theorem ty146sizeT : sizeT Try.prog 146 = some 1 := by kernel_rfl
@[go_sem] theorem ty146zeroT : zeroT Try.prog 146 = some (.slice none 0 0) := by kernel_rfl
@[go_sem] theorem ty146conc : Program.concrete Try.prog 146 = true := by kernel_rfl
@[go_sem] theorem ty148tyK : tyK Try.prog 148 = .slice false 121 := by kernel_rfl
@[go_sem] theorem ty148isSliceT : isSliceT Try.prog 148 = true := by kernel_rfl
@[go_sem] theorem ty148sliI : sliI Try.prog 148 = some 4 := by kernel_rfl
@[go_sem] theorem ty148mkI : mkI Try.prog 148 = some (121, 4, 32, (.agg #[(.int .i64 0), (.int .i64 0), (.int .i64 0), (.int .i64 0)])) := by kernel_rfl
@[go_sem] theorem ty148sizeT : sizeT Try.prog 148 = some 1 := by kernel_rfl
@[go_sem] theorem ty148zeroT : zeroT Try.prog 148 = some (.slice none 0 0) := by kernel_rfl
@[go_sem] theorem ty148conc : Program.concrete Try.prog 148 = true := by kernel_rfl
noncomputable def c3code : Code := match Try.f3.body with | some c => c | none => .skip
noncomputable def c3S0 (_ : Unit) : Cmd := .ret
noncomputable def c3S1 (_ : Unit) : Cmd := (.seq (.ops [
  ⟨some 23, .move (.tmp 8), 28, none⟩,
  ⟨some 24, .binOp .eql 28 (.tmp 23) (.const (.int .i64 34)) 28, 4, none⟩,
  ⟨some 25, .move (.tmp 24), 4, none⟩,
  ⟨some 26, .load 27 (.tmp 7), 27, (some (25, true))⟩,
  ⟨some 27, .build 27 #[], 27, (some (25, true))⟩,
  ⟨some 28, .call ⟨.value (.func 13), #[(.tmp 26), (.tmp 27)], #[27, 27]⟩, 4, (some (25, true))⟩,
  ⟨some 29, .pick (.tmp 25) (.tmp 28) (.const (.bool false)), 4, none⟩,
  ⟨some 30, .move (.tmp 29), 4, none⟩,
  ⟨some 31, .call ⟨.value (.func 14), #[], #[]⟩, 4, (some (30, true))⟩,
  ⟨some 32, .pick (.tmp 30) (.tmp 31) (.const (.bool false)), 4, none⟩,
  ⟨some 6, .assign (.tmp 32), 4, none⟩] [6]) (sg c3S0))
noncomputable def c3S2 (_ : Unit) : Cmd := .ret
noncomputable def c3S3 (_ : Unit) : Cmd := (.cond (.tmp 36)
  (.seq (.ops [
  ⟨some 37, .call ⟨.value (.func 14), #[], #[]⟩, 4, none⟩,
  ⟨some 6, .assign (.tmp 37), 4, none⟩] [6]) (sg c3S2))
  (.skip [1, 2, 3]))
noncomputable def c3S4 (_ : Unit) : Cmd := .ret
noncomputable def c3S5 (_ : Unit) : Cmd := (.seq (.ops [
 ⟨some 52, .load 27 (.tmp 9), 27, none⟩,
 ⟨some 53, .load 27 (.tmp 11), 27, none⟩,
 ⟨some 54, .call ⟨.value (.func 13), #[(.tmp 52), (.tmp 53)], #[27, 27]⟩, 4, none⟩,
 ⟨some 55, .move (.tmp 54), 4, none⟩,
 ⟨some 56, .move (.tmp 10), 28, (some (55, true))⟩,
 ⟨some 57, .move (.tmp 12), 3, (some (55, true))⟩,
 ⟨some 58, .binOp .eql 3 (.tmp 56) (.tmp 57) 3, 4, (some (55, true))⟩,
 ⟨some 59, .pick (.tmp 55) (.tmp 58) (.const (.bool false)), 4, none⟩,
 ⟨some 60, .move (.tmp 59), 4, none⟩,
 ⟨some 61, .call ⟨.value (.func 14), #[], #[]⟩, 4, (some (60, true))⟩,
 ⟨some 62, .pick (.tmp 60) (.tmp 61) (.const (.bool false)), 4, none⟩,
 ⟨some 6, .assign (.tmp 62), 4, none⟩] [6]) (sg c3S4))
noncomputable def c3S6 (_ : Unit) : Cmd := (.seq (.ops [
 ⟨some 46, .load 24 (.tmp 3), 24, none⟩,
 ⟨some 47, .move (.tmp 1), 25, none⟩,
 ⟨some 48, .move (.tmp 2), 3, none⟩,
 ⟨some 49, .call ⟨.value (.func 16), #[(.tmp 46), (.tmp 47), (.tmp 48)], #[24, 25, 3]⟩, 34, none⟩,
 ⟨some 45, .move (.tmp 49), 34, none⟩,
 ⟨some 50, .extract (.tmp 45) 0, 27, none⟩,
 ⟨some 51, .extract (.tmp 45) 1, 3, none⟩,
 ⟨some 11, .alloc 27, 0, none⟩,
 ⟨none, .store 27 (.tmp 11) (.tmp 50), 0, none⟩,
 ⟨some 12, .assign (.tmp 51), 3, none⟩] [9, 10, 11, 12]) (sg c3S5))
noncomputable def c3S7 (_ : Unit) : Cmd := (.seq (.ops [
 ⟨some 39, .load 24 (.tmp 3), 24, none⟩,
 ⟨some 40, .move (.tmp 1), 25, none⟩,
 ⟨some 41, .move (.tmp 2), 3, none⟩,
 ⟨some 42, .call ⟨.value (.func 12), #[(.tmp 39), (.tmp 40), (.tmp 41)], #[24, 25, 3]⟩, 29, none⟩,
 ⟨some 38, .move (.tmp 42), 29, none⟩,
 ⟨some 43, .extract (.tmp 38) 0, 27, none⟩,
 ⟨some 44, .extract (.tmp 38) 1, 28, none⟩,
 ⟨some 9, .alloc 27, 0, none⟩,
 ⟨none, .store 27 (.tmp 9) (.tmp 43), 0, none⟩,
 ⟨some 10, .assign (.tmp 44), 28, none⟩] [1, 2, 3, 9, 10]) (sg c3S6))
noncomputable def c3S8 (_ : Unit) : Cmd := (.seq (.seq (.ops [
 ⟨some 33, .load 24 (.tmp 3), 24, none⟩,
 ⟨some 34, .move (.tmp 1), 25, none⟩,
 ⟨some 35, .call ⟨.value (.func 15), #[(.tmp 33), (.tmp 34), (.const (.int .i64 6))], #[24, 25, 3]⟩, 4, none⟩,
 ⟨some 36, .unOp .not 4 (.tmp 35), 4, none⟩] [1, 2, 3, 36]) (sg c3S3)) (sg c3S7))
noncomputable def c3 : Cmd := (.seq (.ops [
 ⟨some 3, .box 24 (.tmp 0), 0, none⟩,
 ⟨some 6, .assign (.const (.bool false)), 4, none⟩] [1, 2, 3])
 (.seq (.seq (.ops [
 ⟨some 13, .fieldAddr 24 (.tmp 3) 2, 0, none⟩,
 ⟨some 14, .load 22 (.tmp 13), 22, none⟩,
 ⟨some 15, .call ⟨.builtin .len, #[(.tmp 14)], #[22]⟩, 3, none⟩,
 ⟨some 16, .binOp .gtr 3 (.tmp 15) (.const (.int .i64 16)) 3, 4, none⟩] [1, 2, 3, 16])
 (.cond (.tmp 16)
  (.seq (.ops [
  ⟨some 18, .load 24 (.tmp 3), 24, none⟩,
  ⟨some 19, .move (.tmp 2), 3, none⟩,
  ⟨some 20, .call ⟨.value (.func 12), #[(.tmp 18), (.const (.slice none 0 0)), (.tmp 19)], #[24, 25, 3]⟩, 29, none⟩,
  ⟨some 17, .move (.tmp 20), 29, none⟩,
  ⟨some 21, .extract (.tmp 17) 0, 27, none⟩,
  ⟨some 22, .extract (.tmp 17) 1, 28, none⟩,
  ⟨some 7, .alloc 27, 0, none⟩,
  ⟨none, .store 27 (.tmp 7) (.tmp 21), 0, none⟩,
  ⟨some 8, .assign (.tmp 22), 28, none⟩] [7, 8]) (sg c3S1))
  (.skip [1, 2, 3]))) (sg c3S8)))
@[go_sem] theorem go3 : goFunc Try.prog 3 = true := by kernel_rfl
noncomputable def c4S0 (_ : Unit) : Cmd := .ret
noncomputable def c4S1 (_ : Unit) : Cmd := (.seq (.block 1 (.ops [
 ⟨some 15, .move (.tmp 3), 3, none⟩,
 ⟨some 16, .move (.tmp 0), 25, none⟩,
 ⟨some 17, .move (.tmp 4), 3, none⟩,
 ⟨some 18, .indexAddr 25 (.tmp 16) (.tmp 17), 0, none⟩,
 ⟨some 19, .load 36 (.tmp 18), 36, none⟩,
 ⟨some 20, .call ⟨.builtin .len, #[(.tmp 19)], #[36]⟩, 3, none⟩,
 ⟨some 21, .binOp .add 3 (.tmp 15) (.tmp 20) 3, 3, none⟩,
 ⟨some 3, .assign (.tmp 21), 3, none⟩] [0, 3, 4]))
 (.ops [
 ⟨some 13, .move (.tmp 4), 3, none⟩,
 ⟨some 14, .binOp .add 3 (.tmp 13) (.const (.int .i64 1)) 3, 3, none⟩,
 ⟨some 4, .assign (.tmp 14), 3, none⟩] [0, 3, 4]))
noncomputable def c4L0 (_ : Unit) : Cmd := (.seq (.seq (.ops [
 ⟨some 9, .move (.tmp 4), 3, none⟩,
 ⟨some 10, .move (.tmp 0), 25, none⟩,
 ⟨some 11, .call ⟨.builtin .len, #[(.tmp 10)], #[25]⟩, 3, none⟩,
 ⟨some 12, .binOp .lss 3 (.tmp 9) (.tmp 11) 3, 4, none⟩] [0, 3, 4, 12])
 (.cond (.tmp 12)
  (.skip [0, 3, 4])
  (.exit 0 [0, 3]))) (sg c4S1))
noncomputable def c4S2 (_ : Unit) : Cmd := .ret
noncomputable def c4S3 (_ : Unit) : Cmd := (.seq (.ops [
 ⟨some 22, .move (.tmp 3), 3, none⟩,
 ⟨some 23, .binOp .gtr 3 (.tmp 22) (.const (.int .i64 600)) 3, 4, none⟩,
 ⟨some 24, .move (.tmp 23), 4, none⟩,
 ⟨some 25, .move (.tmp 0), 25, (some (24, false))⟩,
 ⟨some 26, .call ⟨.value (.func 18), #[(.tmp 25)], #[25]⟩, 25, (some (24, false))⟩,
 ⟨some 27, .move (.tmp 0), 25, (some (24, false))⟩,
 ⟨some 28, .call ⟨.value (.func 19), #[(.tmp 27)], #[25]⟩, 25, (some (24, false))⟩,
 ⟨some 29, .call ⟨.value (.func 17), #[(.tmp 26), (.tmp 28)], #[25, 25]⟩, 4, (some (24, false))⟩,
 ⟨some 30, .move (.tmp 29), 4, (some (24, false))⟩,
 ⟨some 31, .call ⟨.value (.func 14), #[], #[]⟩, 4, (some (30, true))⟩,
 ⟨some 32, .pick (.tmp 30) (.tmp 31) (.const (.bool false)), 4, (some (24, false))⟩,
 ⟨some 33, .pick (.tmp 24) (.const (.bool true)) (.tmp 32), 4, none⟩,
 ⟨some 2, .assign (.tmp 33), 4, none⟩] [2]) (sg c4S2))
noncomputable def c4S4 (_ : Unit) : Cmd := (.seq (.ops [
 ⟨some 3, .assign (.const (.int .i64 0)), 3, none⟩] [0, 3])
 (.seq (.seq (.ops [
 ⟨some 4, .assign (.const (.int .i64 0)), 3, none⟩] [0, 3, 4])
 (.block 0 (.loop (sg c4L0)))) (sg c4S3)))
noncomputable def c4 : Cmd := (.seq (.ops [
 ⟨some 2, .assign (.const (.bool false)), 4, none⟩] [0])
 (.seq (.seq (.ops [
 ⟨some 5, .move (.tmp 0), 25, none⟩,
 ⟨some 6, .call ⟨.builtin .len, #[(.tmp 5)], #[25]⟩, 3, none⟩,
 ⟨some 7, .binOp .gtr 3 (.tmp 6) (.const (.int .i64 60)) 3, 4, none⟩] [0, 7])
 (.cond (.tmp 7)
  (.seq (.ops [
  ⟨some 8, .call ⟨.value (.func 14), #[], #[]⟩, 4, none⟩,
  ⟨some 2, .assign (.tmp 8), 4, none⟩] [2]) (sg c4S0))
  (.skip [0]))) (sg c4S4)))
@[go_sem] theorem go4 : goFunc Try.prog 4 = true := by kernel_rfl
noncomputable def c5code : Code := match Try.f5.body with | some c => c | none => .skip
noncomputable def c5S0 (_ : Unit) : Cmd := .ret
noncomputable def c5S1 (_ : Unit) : Cmd := (.cond (.tmp 12)
  (.seq (.ops [
  ⟨some 13, .call ⟨.value (.func 14), #[], #[]⟩, 4, none⟩,
  ⟨some 4, .assign (.tmp 13), 4, none⟩] [4]) (sg c5S0))
  (.skip [1, 2]))
noncomputable def c5S2 (_ : Unit) : Cmd := .ret
noncomputable def c5S3 (_ : Unit) : Cmd := (.seq (.ops [
 ⟨some 30, .move (.tmp 6), 28, none⟩,
 ⟨some 31, .binOp .eql 28 (.tmp 30) (.const (.int .i64 0)) 28, 4, none⟩,
 ⟨some 32, .move (.tmp 31), 4, none⟩,
 ⟨some 33, .fieldAddr 27 (.tmp 5) 1, 0, (some (32, true))⟩,
 ⟨some 34, .load 25 (.tmp 33), 25, (some (32, true))⟩,
 ⟨some 35, .move (.tmp 7), 25, (some (32, true))⟩,
 ⟨some 36, .call ⟨.value (.func 17), #[(.tmp 34), (.tmp 35)], #[25, 25]⟩, 4, (some (32, true))⟩,
 ⟨some 37, .pick (.tmp 32) (.tmp 36) (.const (.bool false)), 4, none⟩,
 ⟨some 38, .move (.tmp 37), 4, none⟩,
 ⟨some 39, .call ⟨.value (.func 14), #[], #[]⟩, 4, (some (38, true))⟩,
 ⟨some 40, .pick (.tmp 38) (.tmp 39) (.const (.bool false)), 4, none⟩,
 ⟨some 4, .assign (.tmp 40), 4, none⟩] [4]) (sg c5S2))
noncomputable def c5S4 (_ : Unit) : Cmd := (.seq (.draw (drawOps 0 c5code) [5, 6, 7]) (sg c5S3))
noncomputable def c5S5 (_ : Unit) : Cmd := (.seq (.ops [
 ⟨some 15, .load 24 (.tmp 2), 24, none⟩,
 ⟨some 16, .move (.tmp 1), 36, none⟩,
 ⟨some 17, .buildSlice 25 1 #[(0, (.tmp 16))], 25, none⟩,
 ⟨some 18, .call ⟨.value (.func 12), #[(.tmp 15), (.tmp 17), (.const (.int .i64 32768))], #[24, 25, 3]⟩, 29, none⟩,
 ⟨some 14, .move (.tmp 18), 29, none⟩,
 ⟨some 19, .extract (.tmp 14) 0, 27, none⟩,
 ⟨some 20, .extract (.tmp 14) 1, 28, none⟩,
 ⟨some 5, .alloc 27, 0, none⟩,
 ⟨none, .store 27 (.tmp 5) (.tmp 19), 0, none⟩,
 ⟨some 6, .assign (.tmp 20), 28, none⟩] [1, 2, 5, 6]) (sg c5S4))
noncomputable def c5 : Cmd := (.seq (.ops [
 ⟨some 2, .box 24 (.tmp 0), 0, none⟩,
 ⟨some 4, .assign (.const (.bool false)), 4, none⟩] [1, 2])
 (.seq (.seq (.ops [
 ⟨some 8, .load 24 (.tmp 2), 24, none⟩,
 ⟨some 9, .move (.tmp 1), 36, none⟩,
 ⟨some 10, .buildSlice 25 1 #[(0, (.tmp 9))], 25, none⟩,
 ⟨some 11, .call ⟨.value (.func 15), #[(.tmp 8), (.tmp 10), (.const (.int .i64 5))], #[24, 25, 3]⟩, 4, none⟩,
 ⟨some 12, .unOp .not 4 (.tmp 11), 4, none⟩] [1, 2, 12]) (sg c5S1)) (sg c5S5)))
@[go_sem] theorem go5 : goFunc Try.prog 5 = true := by kernel_rfl
noncomputable def c6code : Code := match Try.f6.body with | some c => c | none => .skip
noncomputable def c6S0 (_ : Unit) : Cmd := .ret
noncomputable def c6S1 (_ : Unit) : Cmd := (.cond (.tmp 23)
  (.seq (.ops [
  ⟨some 24, .call ⟨.value (.func 14), #[], #[]⟩, 4, none⟩,
  ⟨some 6, .assign (.tmp 24), 4, none⟩] [6]) (sg c6S0))
  (.skip [1, 2, 3]))
noncomputable def c6S2 (_ : Unit) : Cmd := .ret
noncomputable def c6S3 (_ : Unit) : Cmd := .ret
noncomputable def c6S4 (_ : Unit) : Cmd := (.seq (.ops [
 ⟨some 66, .fieldAddr 27 (.tmp 11) 1, 0, none⟩,
 ⟨some 67, .load 25 (.tmp 66), 25, none⟩,
 ⟨some 68, .move (.tmp 13), 25, none⟩,
 ⟨some 69, .call ⟨.value (.func 17), #[(.tmp 67), (.tmp 68)], #[25, 25]⟩, 4, none⟩,
 ⟨some 70, .move (.tmp 69), 4, none⟩,
 ⟨some 71, .fieldAddr 27 (.tmp 11) 2, 0, (some (70, true))⟩,
 ⟨some 72, .load 3 (.tmp 71), 3, (some (70, true))⟩,
 ⟨some 73, .fieldAddr 27 (.tmp 7) 2, 0, (some (70, true))⟩,
 ⟨some 74, .load 3 (.tmp 73), 3, (some (70, true))⟩,
 ⟨some 75, .fieldAddr 27 (.tmp 9) 2, 0, (some (70, true))⟩,
 ⟨some 76, .load 3 (.tmp 75), 3, (some (70, true))⟩,
 ⟨some 77, .binOp .add 3 (.tmp 74) (.tmp 76) 3, 3, (some (70, true))⟩,
 ⟨some 78, .binOp .leq 3 (.tmp 72) (.tmp 77) 3, 4, (some (70, true))⟩,
 ⟨some 79, .pick (.tmp 70) (.tmp 78) (.const (.bool false)), 4, none⟩,
 ⟨some 80, .move (.tmp 79), 4, none⟩,
 ⟨some 81, .fieldAddr 27 (.tmp 11) 2, 0, (some (80, true))⟩,
 ⟨some 82, .load 3 (.tmp 81), 3, (some (80, true))⟩,
 ⟨some 83, .fieldAddr 27 (.tmp 7) 2, 0, (some (80, true))⟩,
 ⟨some 84, .load 3 (.tmp 83), 3, (some (80, true))⟩,
 ⟨some 85, .fieldAddr 27 (.tmp 9) 2, 0, (some (80, true))⟩,
 ⟨some 86, .load 3 (.tmp 85), 3, (some (80, true))⟩,
 ⟨some 87, .call ⟨.builtin .max, #[(.tmp 84), (.tmp 86)], #[3, 3]⟩, 3, (some (80, true))⟩,
 ⟨some 88, .binOp .geq 3 (.tmp 82) (.tmp 87) 3, 4, (some (80, true))⟩,
 ⟨some 89, .pick (.tmp 80) (.tmp 88) (.const (.bool false)), 4, none⟩,
 ⟨some 90, .move (.tmp 89), 4, none⟩,
 ⟨some 91, .call ⟨.value (.func 14), #[], #[]⟩, 4, (some (90, true))⟩,
 ⟨some 92, .pick (.tmp 90) (.tmp 91) (.const (.bool false)), 4, none⟩,
 ⟨some 6, .assign (.tmp 92), 4, none⟩] [6]) (sg c6S3))
noncomputable def c6S5 (_ : Unit) : Cmd := (.seq (.draw (drawOps 1 c6code) [7, 9, 11, 13]) (sg c6S4))
noncomputable def c6S6 (_ : Unit) : Cmd := (.seq (.seq (.ops [
 ⟨some 47, .move (.tmp 8), 28, none⟩,
 ⟨some 48, .binOp .neq 28 (.tmp 47) (.const (.int .i64 0)) 28, 4, none⟩,
 ⟨some 49, .move (.tmp 48), 4, none⟩,
 ⟨some 50, .move (.tmp 10), 28, (some (49, false))⟩,
 ⟨some 51, .binOp .neq 28 (.tmp 50) (.const (.int .i64 0)) 28, 4, (some (49, false))⟩,
 ⟨some 52, .pick (.tmp 49) (.const (.bool true)) (.tmp 51), 4, none⟩,
 ⟨some 53, .move (.tmp 52), 4, none⟩,
 ⟨some 54, .move (.tmp 12), 28, (some (53, false))⟩,
 ⟨some 55, .binOp .neq 28 (.tmp 54) (.const (.int .i64 0)) 28, 4, (some (53, false))⟩,
 ⟨some 56, .pick (.tmp 53) (.const (.bool true)) (.tmp 55), 4, none⟩] [7, 9, 11, 56])
 (.cond (.tmp 56)
  (.seq (.ops [
  ⟨some 57, .call ⟨.value (.func 14), #[], #[]⟩, 4, none⟩,
  ⟨some 6, .assign (.tmp 57), 4, none⟩] [6]) (sg c6S2))
  (.skip [7, 9, 11]))) (sg c6S5))
noncomputable def c6S7 (_ : Unit) : Cmd := (.seq (.draw (drawOps 0 c6code) [7, 8, 9, 10, 11, 12]) (sg c6S6))
noncomputable def c6S8 (_ : Unit) : Cmd := (.seq (.ops [
 ⟨some 32, .load 24 (.tmp 3), 24, none⟩,
 ⟨some 33, .move (.tmp 2), 25, none⟩,
 ⟨some 34, .call ⟨.value (.func 12), #[(.tmp 32), (.tmp 33), (.const (.int .i64 32768))], #[24, 25, 3]⟩, 29, none⟩,
 ⟨some 31, .move (.tmp 34), 29, none⟩,
 ⟨some 35, .extract (.tmp 31) 0, 27, none⟩,
 ⟨some 36, .extract (.tmp 31) 1, 28, none⟩,
 ⟨some 9, .alloc 27, 0, none⟩,
 ⟨none, .store 27 (.tmp 9) (.tmp 35), 0, none⟩,
 ⟨some 10, .assign (.tmp 36), 28, none⟩] [1, 2, 3, 7, 8, 9, 10]) (sg c6S7))
noncomputable def c6S9 (_ : Unit) : Cmd := (.seq (.ops [
 ⟨some 26, .load 24 (.tmp 3), 24, none⟩,
 ⟨some 27, .move (.tmp 1), 25, none⟩,
 ⟨some 28, .call ⟨.value (.func 12), #[(.tmp 26), (.tmp 27), (.const (.int .i64 32768))], #[24, 25, 3]⟩, 29, none⟩,
 ⟨some 25, .move (.tmp 28), 29, none⟩,
 ⟨some 29, .extract (.tmp 25) 0, 27, none⟩,
 ⟨some 30, .extract (.tmp 25) 1, 28, none⟩,
 ⟨some 7, .alloc 27, 0, none⟩,
 ⟨none, .store 27 (.tmp 7) (.tmp 29), 0, none⟩,
 ⟨some 8, .assign (.tmp 30), 28, none⟩] [1, 2, 3, 7, 8]) (sg c6S8))
noncomputable def c6 : Cmd := (.seq (.ops [
 ⟨some 3, .box 24 (.tmp 0), 0, none⟩,
 ⟨some 6, .assign (.const (.bool false)), 4, none⟩] [1, 2, 3])
 (.seq (.seq (.ops [
 ⟨some 14, .load 24 (.tmp 3), 24, none⟩,
 ⟨some 15, .move (.tmp 1), 25, none⟩,
 ⟨some 16, .call ⟨.value (.func 15), #[(.tmp 14), (.tmp 15), (.const (.int .i64 6))], #[24, 25, 3]⟩, 4, none⟩,
 ⟨some 17, .unOp .not 4 (.tmp 16), 4, none⟩,
 ⟨some 18, .move (.tmp 17), 4, none⟩,
 ⟨some 19, .load 24 (.tmp 3), 24, (some (18, false))⟩,
 ⟨some 20, .move (.tmp 2), 25, (some (18, false))⟩,
 ⟨some 21, .call ⟨.value (.func 15), #[(.tmp 19), (.tmp 20), (.const (.int .i64 6))], #[24, 25, 3]⟩, 4, (some (18, false))⟩,
 ⟨some 22, .unOp .not 4 (.tmp 21), 4, (some (18, false))⟩,
 ⟨some 23, .pick (.tmp 18) (.const (.bool true)) (.tmp 22), 4, none⟩] [1, 2, 3, 23]) (sg c6S1)) (sg c6S9)))
@[go_sem] theorem go6 : goFunc Try.prog 6 = true := by kernel_rfl
noncomputable def c7S0 (_ : Unit) : Cmd := .ret
noncomputable def c7S1 (_ : Unit) : Cmd := (.cond (.tmp 18)
  (.seq (.ops [
  ⟨some 19, .call ⟨.value (.func 14), #[], #[]⟩, 4, none⟩,
  ⟨some 6, .assign (.tmp 19), 4, none⟩] [6]) (sg c7S0))
  (.skip [1, 2, 3]))
noncomputable def c7S2 (_ : Unit) : Cmd := .ret
noncomputable def c7S3 (_ : Unit) : Cmd := .ret
noncomputable def c7S4 (_ : Unit) : Cmd := (.seq (.ops [
 ⟨some 57, .move (.tmp 10), 28, none⟩,
 ⟨some 58, .binOp .eql 28 (.tmp 57) (.const (.int .i64 0)) 28, 4, none⟩,
 ⟨some 59, .move (.tmp 58), 4, none⟩,
 ⟨some 60, .move (.tmp 12), 28, (some (59, true))⟩,
 ⟨some 61, .move (.tmp 10), 28, (some (59, true))⟩,
 ⟨some 62, .binOp .eql 28 (.tmp 60) (.tmp 61) 28, 4, (some (59, true))⟩,
 ⟨some 63, .pick (.tmp 59) (.tmp 62) (.const (.bool false)), 4, none⟩,
 ⟨some 64, .move (.tmp 63), 4, none⟩,
 ⟨some 65, .move (.tmp 14), 28, (some (64, true))⟩,
 ⟨some 66, .binOp .eql 28 (.tmp 65) (.const (.int .i64 35)) 28, 4, (some (64, true))⟩,
 ⟨some 67, .pick (.tmp 64) (.tmp 66) (.const (.bool false)), 4, none⟩,
 ⟨some 68, .move (.tmp 67), 4, none⟩,
 ⟨some 69, .load 27 (.tmp 9), 27, (some (68, true))⟩,
 ⟨some 70, .load 27 (.tmp 7), 27, (some (68, true))⟩,
 ⟨some 71, .call ⟨.value (.func 13), #[(.tmp 69), (.tmp 70)], #[27, 27]⟩, 4, (some (68, true))⟩,
 ⟨some 72, .pick (.tmp 68) (.tmp 71) (.const (.bool false)), 4, none⟩,
 ⟨some 73, .move (.tmp 72), 4, none⟩,
 ⟨some 74, .load 27 (.tmp 11), 27, (some (73, true))⟩,
 ⟨some 75, .load 27 (.tmp 7), 27, (some (73, true))⟩,
 ⟨some 76, .call ⟨.value (.func 13), #[(.tmp 74), (.tmp 75)], #[27, 27]⟩, 4, (some (73, true))⟩,
 ⟨some 77, .pick (.tmp 73) (.tmp 76) (.const (.bool false)), 4, none⟩,
 ⟨some 78, .move (.tmp 77), 4, none⟩,
 ⟨some 79, .call ⟨.value (.func 14), #[], #[]⟩, 4, (some (78, true))⟩,
 ⟨some 80, .pick (.tmp 78) (.tmp 79) (.const (.bool false)), 4, none⟩,
 ⟨some 6, .assign (.tmp 80), 4, none⟩] [6]) (sg c7S3))
noncomputable def c7S5 (_ : Unit) : Cmd := (.seq (.ops [
 ⟨some 49, .load 24 (.tmp 3), 24, none⟩,
 ⟨some 50, .move (.tmp 1), 25, none⟩,
 ⟨some 51, .fieldAddr 27 (.tmp 7) 2, 0, none⟩,
 ⟨some 52, .load 3 (.tmp 51), 3, none⟩,
 ⟨some 53, .binOp .sub 3 (.tmp 52) (.const (.int .i64 1)) 3, 3, none⟩,
 ⟨some 54, .call ⟨.value (.func 12), #[(.tmp 49), (.tmp 50), (.tmp 53)], #[24, 25, 3]⟩, 29, none⟩,
 ⟨some 48, .move (.tmp 54), 29, none⟩,
 ⟨some 55, .extract (.tmp 48) 0, 27, none⟩,
 ⟨some 56, .extract (.tmp 48) 1, 28, none⟩,
 ⟨some 13, .alloc 27, 0, none⟩,
 ⟨none, .store 27 (.tmp 13) (.tmp 55), 0, none⟩,
 ⟨some 14, .assign (.tmp 56), 28, none⟩] [7, 9, 10, 11, 12, 14]) (sg c7S4))
noncomputable def c7S6 (_ : Unit) : Cmd := (.seq (.ops [
 ⟨some 38, .load 24 (.tmp 3), 24, none⟩,
 ⟨some 39, .move (.tmp 1), 25, none⟩,
 ⟨some 40, .fieldAddr 27 (.tmp 7) 2, 0, none⟩,
 ⟨some 41, .load 3 (.tmp 40), 3, none⟩,
 ⟨some 42, .move (.tmp 2), 44, none⟩,
 ⟨some 43, .convert 44 3 (.tmp 42), 3, none⟩,
 ⟨some 44, .binOp .add 3 (.tmp 41) (.tmp 43) 3, 3, none⟩,
 ⟨some 45, .call ⟨.value (.func 12), #[(.tmp 38), (.tmp 39), (.tmp 44)], #[24, 25, 3]⟩, 29, none⟩,
 ⟨some 37, .move (.tmp 45), 29, none⟩,
 ⟨some 46, .extract (.tmp 37) 0, 27, none⟩,
 ⟨some 47, .extract (.tmp 37) 1, 28, none⟩,
 ⟨some 11, .alloc 27, 0, none⟩,
 ⟨none, .store 27 (.tmp 11) (.tmp 46), 0, none⟩,
 ⟨some 12, .assign (.tmp 47), 28, none⟩] [1, 3, 7, 9, 10, 11, 12]) (sg c7S5))
noncomputable def c7S7 (_ : Unit) : Cmd := (.seq (.ops [
 ⟨some 30, .load 24 (.tmp 3), 24, none⟩,
 ⟨some 31, .move (.tmp 1), 25, none⟩,
 ⟨some 32, .fieldAddr 27 (.tmp 7) 2, 0, none⟩,
 ⟨some 33, .load 3 (.tmp 32), 3, none⟩,
 ⟨some 34, .call ⟨.value (.func 12), #[(.tmp 30), (.tmp 31), (.tmp 33)], #[24, 25, 3]⟩, 29, none⟩,
 ⟨some 29, .move (.tmp 34), 29, none⟩,
 ⟨some 35, .extract (.tmp 29) 0, 27, none⟩,
 ⟨some 36, .extract (.tmp 29) 1, 28, none⟩,
 ⟨some 9, .alloc 27, 0, none⟩,
 ⟨none, .store 27 (.tmp 9) (.tmp 35), 0, none⟩,
 ⟨some 10, .assign (.tmp 36), 28, none⟩] [1, 2, 3, 7, 9, 10]) (sg c7S6))
noncomputable def c7S8 (_ : Unit) : Cmd := (.seq (.seq (.ops [
 ⟨some 26, .move (.tmp 8), 28, none⟩,
 ⟨some 27, .binOp .neq 28 (.tmp 26) (.const (.int .i64 0)) 28, 4, none⟩] [1, 2, 3, 7, 27])
 (.cond (.tmp 27)
  (.seq (.ops [
  ⟨some 28, .call ⟨.value (.func 14), #[], #[]⟩, 4, none⟩,
  ⟨some 6, .assign (.tmp 28), 4, none⟩] [6]) (sg c7S2))
  (.skip [1, 2, 3, 7]))) (sg c7S7))
noncomputable def c7S9 (_ : Unit) : Cmd := (.seq (.ops [
 ⟨some 21, .load 24 (.tmp 3), 24, none⟩,
 ⟨some 22, .move (.tmp 1), 25, none⟩,
 ⟨some 23, .call ⟨.value (.func 12), #[(.tmp 21), (.tmp 22), (.const (.int .i64 32768))], #[24, 25, 3]⟩, 29, none⟩,
 ⟨some 20, .move (.tmp 23), 29, none⟩,
 ⟨some 24, .extract (.tmp 20) 0, 27, none⟩,
 ⟨some 25, .extract (.tmp 20) 1, 28, none⟩,
 ⟨some 7, .alloc 27, 0, none⟩,
 ⟨none, .store 27 (.tmp 7) (.tmp 24), 0, none⟩,
 ⟨some 8, .assign (.tmp 25), 28, none⟩] [1, 2, 3, 7, 8]) (sg c7S8))
noncomputable def c7 : Cmd := (.seq (.ops [
 ⟨some 3, .box 24 (.tmp 0), 0, none⟩,
 ⟨some 6, .assign (.const (.bool false)), 4, none⟩] [1, 2, 3])
 (.seq (.seq (.ops [
 ⟨some 15, .load 24 (.tmp 3), 24, none⟩,
 ⟨some 16, .move (.tmp 1), 25, none⟩,
 ⟨some 17, .call ⟨.value (.func 15), #[(.tmp 15), (.tmp 16), (.const (.int .i64 6))], #[24, 25, 3]⟩, 4, none⟩,
 ⟨some 18, .unOp .not 4 (.tmp 17), 4, none⟩] [1, 2, 3, 18]) (sg c7S1)) (sg c7S9)))
@[go_sem] theorem go7 : goFunc Try.prog 7 = true := by kernel_rfl
noncomputable def c8code : Code := match Try.f8.body with | some c => c | none => .skip
noncomputable def c8S0 (_ : Unit) : Cmd := .ret
noncomputable def c8S1 (_ : Unit) : Cmd := (.cond (.tmp 19)
  (.seq (.ops [
  ⟨some 20, .call ⟨.value (.func 14), #[], #[]⟩, 4, none⟩,
  ⟨some 2, .assign (.tmp 20), 4, none⟩] [2]) (sg c8S0))
  (.skip [0]))
noncomputable def c8S2 (_ : Unit) : Cmd := (.ops [
 ⟨some 65, .fieldAddr 27 (.tmp 8) 1, 0, none⟩,
 ⟨some 66, .load 25 (.tmp 65), 25, none⟩,
 ⟨some 5, .assign (.tmp 66), 25, none⟩] [3, 4, 5, 6, 7])
noncomputable def c8S3 (_ : Unit) : Cmd := (.seq (.seq (.ops [
 ⟨some 63, .move (.tmp 9), 28, none⟩,
 ⟨some 64, .binOp .neq 28 (.tmp 63) (.const (.int .i64 0)) 28, 4, none⟩] [3, 4, 6, 7, 8, 64])
 (.cond (.tmp 64)
  (.seq (.ops [
  ⟨some 2, .assign (.const (.bool false)), 4, none⟩] [2])
  .ret)
  (.skip [3, 4, 6, 7, 8]))) (sg c8S2))
noncomputable def c8S4 (_ : Unit) : Cmd := (.ops [
 ⟨some 52, .move (.tmp 7), 3, none⟩,
 ⟨some 53, .binOp .add 3 (.tmp 52) (.const (.int .i64 1)) 3, 3, none⟩,
 ⟨some 7, .assign (.tmp 53), 3, none⟩] [3, 4, 5, 6, 7])
noncomputable def c8S5 (_ : Unit) : Cmd := (.seq (.block 3 (.seq (.ops [
 ⟨some 55, .move (.tmp 6), 47, none⟩,
 ⟨some 56, .move (.tmp 7), 3, none⟩,
 ⟨some 57, .indexAddr 47 (.tmp 55) (.tmp 56), 0, none⟩,
 ⟨some 58, .load 24 (.tmp 57), 24, none⟩,
 ⟨some 59, .move (.tmp 5), 25, none⟩,
 ⟨some 60, .call ⟨.value (.func 12), #[(.tmp 58), (.tmp 59), (.const (.int .i64 32768))], #[24, 25, 3]⟩, 29, none⟩,
 ⟨some 54, .move (.tmp 60), 29, none⟩,
 ⟨some 61, .extract (.tmp 54) 0, 27, none⟩,
 ⟨some 62, .extract (.tmp 54) 1, 28, none⟩,
 ⟨some 8, .alloc 27, 0, none⟩,
 ⟨none, .store 27 (.tmp 8) (.tmp 61), 0, none⟩,
 ⟨some 9, .assign (.tmp 62), 28, none⟩] [3, 4, 6, 7, 8, 9]) (sg c8S3))) (sg c8S4))
noncomputable def c8L0 (_ : Unit) : Cmd := (.seq (.seq (.ops [
 ⟨some 48, .move (.tmp 7), 3, none⟩,
 ⟨some 49, .move (.tmp 6), 47, none⟩,
 ⟨some 50, .call ⟨.builtin .len, #[(.tmp 49)], #[47]⟩, 3, none⟩,
 ⟨some 51, .binOp .lss 3 (.tmp 48) (.tmp 50) 3, 4, none⟩] [3, 4, 5, 6, 7, 51])
 (.cond (.tmp 51)
  (.skip [3, 4, 5, 6, 7])
  (.exit 2 [3, 4, 5]))) (sg c8S5))
noncomputable def c8S6 (_ : Unit) : Cmd := (.cond (.tmp 90)
  (.seq (.ops [
  ⟨some 2, .assign (.const (.bool false)), 4, none⟩] [2])
  .ret)
  (.skip [3, 4]))
noncomputable def c8S7 (_ : Unit) : Cmd := (.seq (.ops [
 ⟨some 82, .move (.tmp 11), 28, none⟩,
 ⟨some 83, .binOp .neq 28 (.tmp 82) (.const (.int .i64 0)) 28, 4, none⟩,
 ⟨some 84, .move (.tmp 83), 4, none⟩,
 ⟨some 85, .fieldAddr 27 (.tmp 10) 1, 0, (some (84, false))⟩,
 ⟨some 86, .load 25 (.tmp 85), 25, (some (84, false))⟩,
 ⟨some 87, .move (.tmp 5), 25, (some (84, false))⟩,
 ⟨some 88, .call ⟨.value (.func 17), #[(.tmp 86), (.tmp 87)], #[25, 25]⟩, 4, (some (84, false))⟩,
 ⟨some 89, .unOp .not 4 (.tmp 88), 4, (some (84, false))⟩,
 ⟨some 90, .pick (.tmp 84) (.const (.bool true)) (.tmp 89), 4, none⟩] [3, 4, 90]) (sg c8S6))
noncomputable def c8S8 (_ : Unit) : Cmd := (.seq (.draw (drawOps 0 c8code) [3, 4, 5, 10, 11]) (sg c8S7))
noncomputable def c8S9 (_ : Unit) : Cmd := (.seq (.seq (.ops [
 ⟨some 7, .assign (.const (.int .i64 0)), 3, none⟩] [3, 4, 5, 6, 7])
 (.block 2 (.loop (sg c8L0)))) (sg c8S8))
noncomputable def c8S10 (_ : Unit) : Cmd := (.seq (.ops [
 ⟨some 43, .move (.tmp 3), 47, none⟩,
 ⟨some 44, .move (.tmp 4), 3, none⟩,
 ⟨some 45, .indexAddr 47 (.tmp 43) (.tmp 44), 0, none⟩,
 ⟨some 46, .load 24 (.tmp 45), 24, none⟩,
 ⟨some 47, .call ⟨.value (.func 24), #[(.tmp 46)], #[24]⟩, 47, none⟩,
 ⟨some 6, .assign (.tmp 47), 47, none⟩] [3, 4, 5, 6]) (sg c8S9))
noncomputable def c8S11 (_ : Unit) : Cmd := (.seq (.ops [
 ⟨some 36, .move (.tmp 3), 47, none⟩,
 ⟨some 37, .move (.tmp 4), 3, none⟩,
 ⟨some 38, .indexAddr 47 (.tmp 36) (.tmp 37), 0, none⟩,
 ⟨some 39, .fieldAddr 24 (.tmp 38) 1, 0, none⟩,
 ⟨some 40, .load 3 (.tmp 39), 3, none⟩,
 ⟨some 41, .call ⟨.value (.func 23), #[(.tmp 40)], #[3]⟩, 36, none⟩,
 ⟨some 42, .buildSlice 25 1 #[(0, (.tmp 41))], 25, none⟩,
 ⟨some 5, .assign (.tmp 42), 25, none⟩] [3, 4, 5]) (sg c8S10))
noncomputable def c8S12 (_ : Unit) : Cmd := (.ops [
 ⟨some 27, .move (.tmp 4), 3, none⟩,
 ⟨some 28, .binOp .add 3 (.tmp 27) (.const (.int .i64 1)) 3, 3, none⟩,
 ⟨some 4, .assign (.tmp 28), 3, none⟩] [3, 4])
noncomputable def c8S13 (_ : Unit) : Cmd := (.seq (.block 1 (.seq (.seq (.ops [
 ⟨some 29, .move (.tmp 3), 47, none⟩,
 ⟨some 30, .move (.tmp 4), 3, none⟩,
 ⟨some 31, .indexAddr 47 (.tmp 29) (.tmp 30), 0, none⟩,
 ⟨some 32, .fieldAddr 24 (.tmp 31) 2, 0, none⟩,
 ⟨some 33, .load 22 (.tmp 32), 22, none⟩,
 ⟨some 34, .call ⟨.builtin .len, #[(.tmp 33)], #[22]⟩, 3, none⟩,
 ⟨some 35, .binOp .gtr 3 (.tmp 34) (.const (.int .i64 7)) 3, 4, none⟩] [3, 4, 35])
 (.cond (.tmp 35)
  (.exit 1 [3, 4])
  (.skip [3, 4]))) (sg c8S11))) (sg c8S12))
noncomputable def c8L1 (_ : Unit) : Cmd := (.seq (.seq (.ops [
 ⟨some 23, .move (.tmp 4), 3, none⟩,
 ⟨some 24, .move (.tmp 3), 47, none⟩,
 ⟨some 25, .call ⟨.builtin .len, #[(.tmp 24)], #[47]⟩, 3, none⟩,
 ⟨some 26, .binOp .lss 3 (.tmp 23) (.tmp 25) 3, 4, none⟩] [3, 4, 26])
 (.cond (.tmp 26)
  (.skip [3, 4])
  (.exit 0 []))) (sg c8S13))
noncomputable def c8S14 (_ : Unit) : Cmd := .ret
noncomputable def c8S15 (_ : Unit) : Cmd := (.seq (.ops [
 ⟨some 91, .call ⟨.value (.func 14), #[], #[]⟩, 4, none⟩,
 ⟨some 2, .assign (.tmp 91), 4, none⟩] [2]) (sg c8S14))
noncomputable def c8S16 (_ : Unit) : Cmd := (.seq (.seq (.ops [
 ⟨some 4, .assign (.const (.int .i64 0)), 3, none⟩] [3, 4])
 (.block 0 (.loop (sg c8L1)))) (sg c8S15))
noncomputable def c8S17 (_ : Unit) : Cmd := (.seq (.ops [
 ⟨some 21, .move (.tmp 0), 22, none⟩,
 ⟨some 22, .call ⟨.value (.func 22), #[(.tmp 21)], #[22]⟩, 47, none⟩,
 ⟨some 3, .assign (.tmp 22), 47, none⟩] [3]) (sg c8S16))
noncomputable def c8 : Cmd := (.seq (.ops [
 ⟨some 2, .assign (.const (.bool false)), 4, none⟩] [0])
 (.seq (.seq (.ops [
 ⟨some 12, .move (.tmp 0), 22, none⟩,
 ⟨some 13, .call ⟨.builtin .len, #[(.tmp 12)], #[22]⟩, 3, none⟩,
 ⟨some 14, .binOp .gtr 3 (.tmp 13) (.const (.int .i64 64)) 3, 4, none⟩,
 ⟨some 15, .move (.tmp 14), 4, none⟩,
 ⟨some 16, .move (.tmp 0), 22, (some (15, false))⟩,
 ⟨some 17, .call ⟨.value (.func 21), #[(.tmp 16)], #[22]⟩, 3, (some (15, false))⟩,
 ⟨some 18, .binOp .neq 3 (.tmp 17) (.const (.int .i64 0)) 3, 4, (some (15, false))⟩,
 ⟨some 19, .pick (.tmp 15) (.const (.bool true)) (.tmp 18), 4, none⟩] [0, 19]) (sg c8S1)) (sg c8S17)))
@[go_sem] theorem go8 : goFunc Try.prog 8 = true := by kernel_rfl
@[go_sem] theorem go12 : goFunc Try.prog 12 = true := by kernel_rfl
noncomputable def c13S0 (_ : Unit) : Cmd := .ret
noncomputable def c13 : Cmd := (.seq (.ops [
 ⟨some 2, .box 27 (.tmp 0), 0, none⟩,
 ⟨some 3, .box 27 (.tmp 1), 0, none⟩,
 ⟨some 4, .assign (.const (.bool false)), 4, none⟩] [2, 3])
 (.seq (.ops [
 ⟨some 5, .fieldAddr 27 (.tmp 2) 0, 0, none⟩,
 ⟨some 6, .load 25 (.tmp 5), 25, none⟩,
 ⟨some 7, .fieldAddr 27 (.tmp 3) 0, 0, none⟩,
 ⟨some 8, .load 25 (.tmp 7), 25, none⟩,
 ⟨some 9, .call ⟨.value (.func 17), #[(.tmp 6), (.tmp 8)], #[25, 25]⟩, 4, none⟩,
 ⟨some 10, .move (.tmp 9), 4, none⟩,
 ⟨some 11, .fieldAddr 27 (.tmp 2) 1, 0, (some (10, true))⟩,
 ⟨some 12, .load 25 (.tmp 11), 25, (some (10, true))⟩,
 ⟨some 13, .fieldAddr 27 (.tmp 3) 1, 0, (some (10, true))⟩,
 ⟨some 14, .load 25 (.tmp 13), 25, (some (10, true))⟩,
 ⟨some 15, .call ⟨.value (.func 17), #[(.tmp 12), (.tmp 14)], #[25, 25]⟩, 4, (some (10, true))⟩,
 ⟨some 16, .pick (.tmp 10) (.tmp 15) (.const (.bool false)), 4, none⟩,
 ⟨some 17, .move (.tmp 16), 4, none⟩,
 ⟨some 18, .fieldAddr 27 (.tmp 2) 2, 0, (some (17, true))⟩,
 ⟨some 19, .load 3 (.tmp 18), 3, (some (17, true))⟩,
 ⟨some 20, .fieldAddr 27 (.tmp 3) 2, 0, (some (17, true))⟩,
 ⟨some 21, .load 3 (.tmp 20), 3, (some (17, true))⟩,
 ⟨some 22, .binOp .eql 3 (.tmp 19) (.tmp 21) 3, 4, (some (17, true))⟩,
 ⟨some 23, .pick (.tmp 17) (.tmp 22) (.const (.bool false)), 4, none⟩,
 ⟨some 4, .assign (.tmp 23), 4, none⟩] [4]) (sg c13S0)))
@[go_sem] theorem go13 : goFunc Try.prog 13 = true := by kernel_rfl
noncomputable def c14S0 (_ : Unit) : Cmd := .ret
noncomputable def c14S1 (_ : Unit) : Cmd := (.seq (.ops [
 ⟨some 19, .move (.tmp 2), 28, none⟩,
 ⟨some 20, .binOp .eql 28 (.tmp 19) (.const (.int .i64 0)) 28, 4, none⟩,
 ⟨some 21, .move (.tmp 20), 4, none⟩,
 ⟨some 22, .move (.tmp 4), 28, (some (21, true))⟩,
 ⟨some 23, .move (.tmp 2), 28, (some (21, true))⟩,
 ⟨some 24, .binOp .eql 28 (.tmp 22) (.tmp 23) 28, 4, (some (21, true))⟩,
 ⟨some 25, .pick (.tmp 21) (.tmp 24) (.const (.bool false)), 4, none⟩,
 ⟨some 26, .move (.tmp 25), 4, none⟩,
 ⟨some 27, .fieldAddr 27 (.tmp 1) 2, 0, (some (26, true))⟩,
 ⟨some 28, .load 3 (.tmp 27), 3, (some (26, true))⟩,
 ⟨some 29, .binOp .eql 3 (.tmp 28) (.const (.int .i64 4)) 3, 4, (some (26, true))⟩,
 ⟨some 30, .pick (.tmp 26) (.tmp 29) (.const (.bool false)), 4, none⟩,
 ⟨some 31, .move (.tmp 30), 4, none⟩,
 ⟨some 32, .fieldAddr 27 (.tmp 1) 1, 0, (some (31, true))⟩,
 ⟨some 33, .load 25 (.tmp 32), 25, (some (31, true))⟩,
 ⟨some 34, .buildSlice 36 1 #[(0, (.const (.int .i64 1)))], 36, (some (31, true))⟩,
 ⟨some 35, .buildSlice 25 1 #[(0, (.tmp 34))], 25, (some (31, true))⟩,
 ⟨some 36, .call ⟨.value (.func 17), #[(.tmp 33), (.tmp 35)], #[25, 25]⟩, 4, (some (31, true))⟩,
 ⟨some 37, .pick (.tmp 31) (.tmp 36) (.const (.bool false)), 4, none⟩,
 ⟨some 38, .move (.tmp 37), 4, none⟩,
 ⟨some 39, .fieldAddr 27 (.tmp 3) 2, 0, (some (38, true))⟩,
 ⟨some 40, .load 3 (.tmp 39), 3, (some (38, true))⟩,
 ⟨some 41, .binOp .eql 3 (.tmp 40) (.const (.int .i64 2)) 3, 4, (some (38, true))⟩,
 ⟨some 42, .pick (.tmp 38) (.tmp 41) (.const (.bool false)), 4, none⟩,
 ⟨some 43, .move (.tmp 42), 4, none⟩,
 ⟨some 44, .fieldAddr 27 (.tmp 3) 1, 0, (some (43, true))⟩,
 ⟨some 45, .load 25 (.tmp 44), 25, (some (43, true))⟩,
 ⟨some 46, .call ⟨.builtin .len, #[(.tmp 45)], #[25]⟩, 3, (some (43, true))⟩,
 ⟨some 47, .binOp .eql 3 (.tmp 46) (.const (.int .i64 0)) 3, 4, (some (43, true))⟩,
 ⟨some 48, .pick (.tmp 43) (.tmp 47) (.const (.bool false)), 4, none⟩,
 ⟨some 0, .assign (.tmp 48), 4, none⟩] [0]) (sg c14S0))
noncomputable def c14S2 (_ : Unit) : Cmd := (.seq (.ops [
 ⟨some 13, .call ⟨.value (.func 34), #[(.const (.int .i64 2))], #[3]⟩, 24, none⟩,
 ⟨some 14, .buildSlice 36 1 #[(0, (.const (.int .i64 0)))], 36, none⟩,
 ⟨some 15, .buildSlice 25 1 #[(0, (.tmp 14))], 25, none⟩,
 ⟨some 16, .call ⟨.value (.func 12), #[(.tmp 13), (.tmp 15), (.const (.int .i64 9))], #[24, 25, 3]⟩, 29, none⟩,
 ⟨some 12, .move (.tmp 16), 29, none⟩,
 ⟨some 17, .extract (.tmp 12) 0, 27, none⟩,
 ⟨some 18, .extract (.tmp 12) 1, 28, none⟩,
 ⟨some 3, .alloc 27, 0, none⟩,
 ⟨none, .store 27 (.tmp 3) (.tmp 17), 0, none⟩,
 ⟨some 4, .assign (.tmp 18), 28, none⟩] [1, 2, 3, 4]) (sg c14S1))
noncomputable def c14 : Cmd := (.seq (.ops [
 ⟨some 0, .assign (.const (.bool false)), 4, none⟩] [])
 (.seq (.ops [
 ⟨some 6, .call ⟨.value (.func 34), #[(.const (.int .i64 0))], #[3]⟩, 24, none⟩,
 ⟨some 7, .buildSlice 36 1 #[(0, (.const (.int .i64 0)))], 36, none⟩,
 ⟨some 8, .buildSlice 25 1 #[(0, (.tmp 7))], 25, none⟩,
 ⟨some 9, .call ⟨.value (.func 12), #[(.tmp 6), (.tmp 8), (.const (.int .i64 9))], #[24, 25, 3]⟩, 29, none⟩,
 ⟨some 5, .move (.tmp 9), 29, none⟩,
 ⟨some 10, .extract (.tmp 5) 0, 27, none⟩,
 ⟨some 11, .extract (.tmp 5) 1, 28, none⟩,
 ⟨some 1, .alloc 27, 0, none⟩,
 ⟨none, .store 27 (.tmp 1) (.tmp 10), 0, none⟩,
 ⟨some 2, .assign (.tmp 11), 28, none⟩] [1, 2]) (sg c14S2)))
@[go_sem] theorem go14 : goFunc Try.prog 14 = true := by kernel_rfl
@[go_sem] theorem go15 : goFunc Try.prog 15 = true := by kernel_rfl
noncomputable def c16code : Code := match Try.f16.body with | some c => c | none => .skip
noncomputable def c16S0 (_ : Unit) : Cmd := (.cond (.tmp 48)
  (.draw (drawOps 1 c16code) [3, 6, 8, 9, 10])
  (.skip [3, 6, 8, 9, 10]))
noncomputable def c16S1 (_ : Unit) : Cmd := (.ops [
 ⟨some 39, .move (.tmp 10), 3, none⟩,
 ⟨some 40, .binOp .add 3 (.tmp 39) (.const (.int .i64 1)) 3, 3, none⟩,
 ⟨some 10, .assign (.tmp 40), 3, none⟩] [3, 6, 8, 9, 10])
noncomputable def c16S2 (_ : Unit) : Cmd := (.seq (.block 1 (.seq (.draw (drawOps 0 c16code) [3, 6, 8, 9, 10, 48]) (sg c16S0))) (sg c16S1))
noncomputable def c16L0 (_ : Unit) : Cmd := (.seq (.seq (.ops [
 ⟨some 35, .move (.tmp 10), 3, none⟩,
 ⟨some 36, .move (.tmp 8), 79, none⟩,
 ⟨some 37, .call ⟨.builtin .len, #[(.tmp 36)], #[79]⟩, 3, none⟩,
 ⟨some 38, .binOp .lss 3 (.tmp 35) (.tmp 37) 3, 4, none⟩] [3, 6, 8, 9, 10, 38])
 (.cond (.tmp 38)
  (.skip [3, 6, 8, 9, 10])
  (.exit 0 [6, 9]))) (sg c16S2))
noncomputable def c16S3 (_ : Unit) : Cmd := (.seq (.ops [
 ⟨some 63, .load 27 (.tmp 9), 27, none⟩,
 ⟨none, .store 27 (.tmp 6) (.tmp 63), 0, none⟩,
 ⟨some 7, .assign (.const (.int .i64 0)), 3, none⟩] [6, 7])
 .ret)
noncomputable def c16S4 (_ : Unit) : Cmd := (.seq (.ops [
 ⟨some 59, .fieldAddr 27 (.tmp 9) 1, 0, none⟩,
 ⟨some 60, .load 25 (.tmp 59), 25, none⟩,
 ⟨some 61, .call ⟨.value (.func 19), #[(.tmp 60)], #[25]⟩, 25, none⟩,
 ⟨some 62, .fieldAddr 27 (.tmp 9) 1, 0, none⟩,
 ⟨none, .store 25 (.tmp 62) (.tmp 61), 0, none⟩] [6, 9]) (sg c16S3))
noncomputable def c16S5 (_ : Unit) : Cmd := (.seq (.seq (.ops [
 ⟨some 10, .assign (.const (.int .i64 0)), 3, none⟩] [3, 6, 8, 9, 10])
 (.block 0 (.loop (sg c16L0)))) (sg c16S4))
noncomputable def c16S6 (_ : Unit) : Cmd := (.seq (.ops [
 ⟨some 30, .move (.tmp 1), 25, none⟩,
 ⟨some 31, .call ⟨.value (.func 19), #[(.tmp 30)], #[25]⟩, 25, none⟩,
 ⟨some 32, .move (.tmp 8), 79, none⟩,
 ⟨some 33, .call ⟨.builtin .len, #[(.tmp 32)], #[79]⟩, 3, none⟩,
 ⟨some 34, .build 27 #[(0, (.tmp 31)), (2, (.tmp 33))], 27, none⟩,
 ⟨some 9, .alloc 27, 0, none⟩,
 ⟨none, .store 27 (.tmp 9) (.tmp 34), 0, none⟩] [3, 6, 8, 9]) (sg c16S5))
noncomputable def c16S7 (_ : Unit) : Cmd := (.seq (.seq (.ops [
 ⟨some 25, .move (.tmp 8), 79, none⟩,
 ⟨some 26, .call ⟨.builtin .len, #[(.tmp 25)], #[79]⟩, 3, none⟩,
 ⟨some 27, .move (.tmp 2), 3, none⟩,
 ⟨some 28, .binOp .gtr 3 (.tmp 26) (.tmp 27) 3, 4, none⟩] [1, 3, 6, 8, 28])
 (.cond (.tmp 28)
  (.seq (.ops [
  ⟨some 29, .build 27 #[], 27, none⟩,
  ⟨none, .store 27 (.tmp 6) (.tmp 29), 0, none⟩,
  ⟨some 7, .assign (.const (.int .i64 35)), 3, none⟩] [6, 7])
  .ret)
  (.skip [1, 3, 6, 8]))) (sg c16S6))
noncomputable def c16S8 (_ : Unit) : Cmd := (.seq (.ops [
 ⟨some 20, .fieldAddr 24 (.tmp 3) 2, 0, none⟩,
 ⟨some 21, .load 22 (.tmp 20), 22, none⟩,
 ⟨some 22, .move (.tmp 1), 25, none⟩,
 ⟨some 23, .move (.tmp 2), 3, none⟩,
 ⟨some 24, .call ⟨.value (.func 37), #[(.tmp 21), (.tmp 22), (.tmp 23)], #[22, 25, 3]⟩, 79, none⟩,
 ⟨some 8, .assign (.tmp 24), 79, none⟩] [1, 2, 3, 6, 8]) (sg c16S7))
noncomputable def c16S9 (_ : Unit) : Cmd := (.seq (.seq (.ops [
 ⟨some 18, .move (.tmp 2), 3, none⟩,
 ⟨some 19, .binOp .gtr 3 (.tmp 18) (.const (.int .i64 32768)) 3, 4, none⟩] [1, 2, 3, 6, 19])
 (.cond (.tmp 19)
  (.ops [
  ⟨some 2, .assign (.const (.int .i64 32768)), 3, none⟩] [1, 2, 3, 6])
  (.skip [1, 2, 3, 6]))) (sg c16S8))
noncomputable def c16S10 (_ : Unit) : Cmd := (.seq (.seq (.ops [
 ⟨some 16, .move (.tmp 2), 3, none⟩,
 ⟨some 17, .binOp .lss 3 (.tmp 16) (.const (.int .i64 0)) 3, 4, none⟩] [1, 2, 3, 6, 17])
 (.cond (.tmp 17)
  (.ops [
  ⟨some 2, .assign (.const (.int .i64 (-1))), 3, none⟩] [1, 2, 3, 6])
  (.skip [1, 2, 3, 6]))) (sg c16S9))
noncomputable def c16 : Cmd := (.seq (.ops [
 ⟨some 3, .box 24 (.tmp 0), 0, none⟩,
 ⟨some 6, .alloc 27, 0, none⟩,
 ⟨some 7, .assign (.const (.int .i64 0)), 3, none⟩] [1, 2, 3, 6])
 (.seq (.seq (.ops [
 ⟨some 11, .fieldAddr 24 (.tmp 3) 2, 0, none⟩,
 ⟨some 12, .load 22 (.tmp 11), 22, none⟩,
 ⟨some 13, .call ⟨.builtin .len, #[(.tmp 12)], #[22]⟩, 3, none⟩,
 ⟨some 14, .binOp .gtr 3 (.tmp 13) (.const (.int .i64 16)) 3, 4, none⟩] [1, 2, 3, 6, 14])
 (.cond (.tmp 14)
  (.seq (.ops [
  ⟨some 15, .build 27 #[], 27, none⟩,
  ⟨none, .store 27 (.tmp 6) (.tmp 15), 0, none⟩,
  ⟨some 7, .assign (.const (.int .i64 34)), 3, none⟩] [6, 7])
  .ret)
  (.skip [1, 2, 3, 6]))) (sg c16S10)))
noncomputable def c16D0 : List (Nat × Ins) := [
 (0, ⟨some 41, .fieldAddr 24 (.tmp 3) 2, 0, none⟩),
 (0, ⟨some 43, .move (.tmp 8), 79, none⟩),
 (0, ⟨some 44, .move (.tmp 10), 3, none⟩),
 (0, ⟨some 45, .indexAddr 79 (.tmp 43) (.tmp 44), 0, none⟩),
 (0, ⟨some 46, .fieldAddr 83 (.tmp 45) 0, 0, none⟩),
 (1, ⟨some 42, .load 22 (.tmp 41), 22, none⟩),
 (2, ⟨some 47, .load 41 (.tmp 46), 41, none⟩),
 (3, ⟨some 48, .call ⟨.value (.func 38), #[(.tmp 42), (.tmp 47)], #[22, 41]⟩, 4, none⟩)]
theorem c16draw0 {L : List Nat} {ρ : Env} {w : World} {Q : Post} (S : World → Prop) (hS : S w.drew) (h : DG Try.prog S c16D0 L ρ w.drew Q) : drawW Try.prog (drawOps 0 c16code) L ρ w Q :=
  drawW_held [1] [(0, 0), (0, 2), (0, 3), (0, 4), (0, 5), (1, 1), (2, 6), (3, 7)] c16D0 (by kernel_rfl) (by kernel_rfl) (by kernel_rfl) S hS h
noncomputable def c16D1 : List (Nat × Ins) := [
 (0, ⟨some 49, .fieldAddr 27 (.tmp 9) 1, 0, none⟩),
 (0, ⟨some 51, .move (.tmp 8), 79, none⟩),
 (0, ⟨some 52, .move (.tmp 10), 3, none⟩),
 (0, ⟨some 53, .indexAddr 79 (.tmp 51) (.tmp 52), 0, none⟩),
 (0, ⟨some 54, .fieldAddr 83 (.tmp 53) 1, 0, none⟩),
 (1, ⟨some 50, .load 25 (.tmp 49), 25, none⟩),
 (2, ⟨some 55, .load 36 (.tmp 54), 36, none⟩),
 (2, ⟨some 56, .buildSlice 25 1 #[(0, (.tmp 55))], 25, none⟩),
 (3, ⟨some 57, .call ⟨.builtin .append, #[(.tmp 50), (.tmp 56)], #[25, 25]⟩, 25, none⟩),
 (0, ⟨some 58, .fieldAddr 27 (.tmp 9) 1, 0, none⟩),
 (3, ⟨none, .store 25 (.tmp 58) (.tmp 57), 0, none⟩)]
theorem c16draw1 {L : List Nat} {ρ : Env} {w : World} {Q : Post} (S : World → Prop) (hS : S w.drew) (h : DG Try.prog S c16D1 L ρ w.drew Q) : drawW Try.prog (drawOps 1 c16code) L ρ w Q :=
  drawW_held [1] [(0, 0), (0, 2), (0, 3), (0, 4), (0, 5), (1, 1), (2, 6), (2, 7), (3, 8), (0, 9), (3, 10)] c16D1 (by kernel_rfl) (by kernel_rfl) (by kernel_rfl) S hS h
set_option maxRecDepth 100000 in
theorem ent16 (a0 a1 a2 : Value) (w : World) (K : Value → World → Prop) (h : W Try.prog c16 [(0, a0), (1, a1), (2, a2)] w (finQ Try.prog [.cell 6 27, .tmp 7] K)) : Ret Try.prog 16 [a0, a1, a2] w K :=
  Ret_of_W (code := c16code) Try.func16 (by kernel_rfl) (by kernel_rfl) (of_decide_eq_true (by kernel_rfl)) h
@[go_sem] theorem go16 : goFunc Try.prog 16 = true := by kernel_rfl
@[go_sem] theorem go17 : goFunc Try.prog 17 = true := by kernel_rfl
@[go_sem] theorem go18 : goFunc Try.prog 18 = true := by kernel_rfl
noncomputable def c19code : Code := match Try.f19.body with | some c => c | none => .skip
noncomputable def c19S0 (_ : Unit) : Cmd := (.seq (.ops [
 ⟨some 33, .move (.tmp 7), 4, none⟩,
 ⟨some 34, .move (.tmp 33), 4, none⟩,
 ⟨some 35, .move (.tmp 9), 9, (some (34, false))⟩,
 ⟨some 36, .move (.tmp 5), 9, (some (34, false))⟩,
 ⟨some 37, .binOp .eql 9 (.tmp 35) (.tmp 36) 9, 4, (some (34, false))⟩,
 ⟨some 38, .pick (.tmp 34) (.const (.bool true)) (.tmp 37), 4, none⟩,
 ⟨some 7, .assign (.tmp 38), 4, none⟩] [0, 3, 4, 5, 6, 7, 8, 9])
 (.seq (.ops [
 ⟨some 39, .move (.tmp 9), 9, none⟩,
 ⟨some 40, .move (.tmp 5), 9, none⟩,
 ⟨some 41, .binOp .lss 9 (.tmp 39) (.tmp 40) 9, 4, none⟩] [0, 3, 4, 5, 6, 7, 8, 41])
 (.cond (.tmp 41)
  (.ops [
  ⟨some 42, .move (.tmp 6), 3, none⟩,
  ⟨some 43, .binOp .add 3 (.tmp 42) (.const (.int .i64 1)) 3, 3, none⟩,
  ⟨some 6, .assign (.tmp 43), 3, none⟩] [0, 3, 4, 5, 6, 7, 8])
  (.skip [0, 3, 4, 5, 6, 7, 8]))))
noncomputable def c19S1 (_ : Unit) : Cmd := (.ops [
 ⟨some 26, .move (.tmp 8), 3, none⟩,
 ⟨some 27, .binOp .add 3 (.tmp 26) (.const (.int .i64 1)) 3, 3, none⟩,
 ⟨some 8, .assign (.tmp 27), 3, none⟩] [0, 3, 4, 5, 6, 7, 8])
noncomputable def c19S2 (_ : Unit) : Cmd := (.seq (.block 3 (.seq (.ops [
 ⟨some 28, .move (.tmp 3), 25, none⟩,
 ⟨some 29, .move (.tmp 8), 3, none⟩,
 ⟨some 30, .indexAddr 25 (.tmp 28) (.tmp 29), 0, none⟩,
 ⟨some 31, .load 36 (.tmp 30), 36, none⟩,
 ⟨some 32, .call ⟨.value (.func 47), #[(.tmp 31)], #[36]⟩, 9, none⟩,
 ⟨some 9, .assign (.tmp 32), 9, none⟩] [0, 3, 4, 5, 6, 7, 8, 9]) (sg c19S0))) (sg c19S1))
noncomputable def c19L0 (_ : Unit) : Cmd := (.seq (.seq (.ops [
 ⟨some 22, .move (.tmp 8), 3, none⟩,
 ⟨some 23, .move (.tmp 3), 25, none⟩,
 ⟨some 24, .call ⟨.builtin .len, #[(.tmp 23)], #[25]⟩, 3, none⟩,
 ⟨some 25, .binOp .lss 3 (.tmp 22) (.tmp 24) 3, 4, none⟩] [0, 3, 4, 5, 6, 7, 8, 25])
 (.cond (.tmp 25)
  (.skip [0, 3, 4, 5, 6, 7, 8])
  (.exit 2 [0, 3, 4, 6, 7]))) (sg c19S2))
noncomputable def c19S3 (_ : Unit) : Cmd := (.ops [
  ⟨some 58, .move (.tmp 10), 25, none⟩,
  ⟨some 59, .move (.tmp 3), 25, none⟩,
  ⟨some 60, .move (.tmp 6), 3, none⟩,
  ⟨some 61, .slice 25 (.tmp 59) (some (.tmp 60)) none none, 25, none⟩,
  ⟨some 62, .call ⟨.builtin .append, #[(.tmp 58), (.tmp 61)], #[25, 25]⟩, 25, none⟩,
  ⟨some 3, .assign (.tmp 62), 25, none⟩] [0, 3, 4])
noncomputable def c19S4 (_ : Unit) : Cmd := (.seq (.ops [
  ⟨some 51, .move (.tmp 10), 25, none⟩,
  ⟨some 52, .move (.tmp 0), 25, none⟩,
  ⟨some 53, .move (.tmp 4), 3, none⟩,
  ⟨some 54, .indexAddr 25 (.tmp 52) (.tmp 53), 0, none⟩,
  ⟨some 55, .load 36 (.tmp 54), 36, none⟩,
  ⟨some 56, .buildSlice 25 1 #[(0, (.tmp 55))], 25, none⟩,
  ⟨some 57, .call ⟨.builtin .append, #[(.tmp 51), (.tmp 56)], #[25, 25]⟩, 25, none⟩,
  ⟨some 10, .assign (.tmp 57), 25, none⟩] [0, 3, 4, 6, 10]) (sg c19S3))
noncomputable def c19S5 (_ : Unit) : Cmd := (.seq (.ops [
 ⟨some 44, .move (.tmp 7), 4, none⟩,
 ⟨some 45, .unOp .not 4 (.tmp 44), 4, none⟩] [0, 3, 4, 6, 45])
 (.cond (.tmp 45)
  (.seq (.ops [
  ⟨some 46, .buildSlice 25 0 #[], 25, none⟩,
  ⟨some 47, .move (.tmp 3), 25, none⟩,
  ⟨some 48, .move (.tmp 6), 3, none⟩,
  ⟨some 49, .slice 25 (.tmp 47) none (some (.tmp 48)) none, 25, none⟩,
  ⟨some 50, .call ⟨.builtin .append, #[(.tmp 46), (.tmp 49)], #[25, 25]⟩, 25, none⟩,
  ⟨some 10, .assign (.tmp 50), 25, none⟩] [0, 3, 4, 6, 10]) (sg c19S4))
  (.skip [0, 3, 4])))
noncomputable def c19S6 (_ : Unit) : Cmd := (.seq (.ops [
 ⟨some 6, .assign (.const (.int .i64 0)), 3, none⟩,
 ⟨some 7, .assign (.const (.bool false)), 4, none⟩] [0, 3, 4, 5, 6, 7])
 (.seq (.seq (.ops [
 ⟨some 8, .assign (.const (.int .i64 0)), 3, none⟩] [0, 3, 4, 5, 6, 7, 8])
 (.block 2 (.loop (sg c19L0)))) (sg c19S5)))
noncomputable def c19S7 (_ : Unit) : Cmd := (.ops [
 ⟨some 15, .move (.tmp 4), 3, none⟩,
 ⟨some 16, .binOp .add 3 (.tmp 15) (.const (.int .i64 1)) 3, 3, none⟩,
 ⟨some 4, .assign (.tmp 16), 3, none⟩] [0, 3, 4])
noncomputable def c19S8 (_ : Unit) : Cmd := (.seq (.block 1 (.seq (.ops [
 ⟨some 17, .move (.tmp 0), 25, none⟩,
 ⟨some 18, .move (.tmp 4), 3, none⟩,
 ⟨some 19, .indexAddr 25 (.tmp 17) (.tmp 18), 0, none⟩,
 ⟨some 20, .load 36 (.tmp 19), 36, none⟩,
 ⟨some 21, .call ⟨.value (.func 47), #[(.tmp 20)], #[36]⟩, 9, none⟩,
 ⟨some 5, .assign (.tmp 21), 9, none⟩] [0, 3, 4, 5]) (sg c19S6))) (sg c19S7))
noncomputable def c19L1 (_ : Unit) : Cmd := (.seq (.seq (.ops [
 ⟨some 11, .move (.tmp 4), 3, none⟩,
 ⟨some 12, .move (.tmp 0), 25, none⟩,
 ⟨some 13, .call ⟨.builtin .len, #[(.tmp 12)], #[25]⟩, 3, none⟩,
 ⟨some 14, .binOp .lss 3 (.tmp 11) (.tmp 13) 3, 4, none⟩] [0, 3, 4, 14])
 (.cond (.tmp 14)
  (.skip [0, 3, 4])
  (.exit 0 [3]))) (sg c19S8))
noncomputable def c19S9 (_ : Unit) : Cmd := (.seq (.ops [
 ⟨some 63, .move (.tmp 3), 25, none⟩,
 ⟨some 2, .assign (.tmp 63), 25, none⟩] [2])
 .ret)
noncomputable def c19 : Cmd := (.seq (.ops [
 ⟨some 2, .assign (.const (.slice none 0 0)), 25, none⟩] [0])
 (.seq (.ops [
 ⟨some 3, .assign (.const (.slice none 0 0)), 25, none⟩] [0, 3])
 (.seq (.seq (.ops [
 ⟨some 4, .assign (.const (.int .i64 0)), 3, none⟩] [0, 3, 4])
 (.block 0 (.loop (sg c19L1)))) (sg c19S9))))
set_option maxRecDepth 100000 in
theorem ent19 (a0 : Value) (w : World) (K : Value → World → Prop) (h : W Try.prog c19 [(0, a0)] w (finQ Try.prog [.tmp 2] K)) : Ret Try.prog 19 [a0] w K :=
  Ret_of_W (code := c19code) Try.func19 (by kernel_rfl) (by kernel_rfl) (of_decide_eq_true (by kernel_rfl)) h
@[go_sem] theorem go19 : goFunc Try.prog 19 = true := by kernel_rfl
@[go_sem] theorem go20 : goFunc Try.prog 20 = true := by kernel_rfl
@[go_sem] theorem go21 : goFunc Try.prog 21 = true := by kernel_rfl
@[go_sem] theorem go22 : goFunc Try.prog 22 = true := by kernel_rfl
noncomputable def c23code : Code := match Try.f23.body with | some c => c | none => .skip
noncomputable def c23S0 (_ : Unit) : Cmd := (.seq (.ops [
 ⟨some 2, .assign (.const (.slice none 0 0)), 36, none⟩] [2])
 .ret)
noncomputable def c23 : Cmd := (.seq (.ops [
 ⟨some 2, .assign (.const (.slice none 0 0)), 36, none⟩] [0])
 (.seq (.seq (.ops [
 ⟨some 3, .move (.tmp 0), 3, none⟩,
 ⟨some 4, .binOp .eql 3 (.tmp 3) (.const (.int .i64 1)) 3, 4, none⟩,
 ⟨some 5, .move (.tmp 4), 4, none⟩,
 ⟨some 6, .move (.tmp 0), 3, (some (5, false))⟩,
 ⟨some 7, .binOp .eql 3 (.tmp 6) (.const (.int .i64 2)) 3, 4, (some (5, false))⟩,
 ⟨some 8, .pick (.tmp 5) (.const (.bool true)) (.tmp 7), 4, none⟩] [8])
 (.cond (.tmp 8)
  (.seq (.ops [
  ⟨some 9, .buildSlice 36 1 #[(0, (.const (.int .i64 0)))], 36, none⟩,
  ⟨some 2, .assign (.tmp 9), 36, none⟩] [2])
  .ret)
  (.skip []))) (sg c23S0)))
set_option maxRecDepth 100000 in
theorem ent23 (a0 : Value) (w : World) (K : Value → World → Prop) (h : W Try.prog c23 [(0, a0)] w (finQ Try.prog [.tmp 2] K)) : Ret Try.prog 23 [a0] w K :=
  Ret_of_W (code := c23code) Try.func23 (by kernel_rfl) (by kernel_rfl) (of_decide_eq_true (by kernel_rfl)) h
@[go_sem] theorem go23 : goFunc Try.prog 23 = true := by kernel_rfl
noncomputable def c24code : Code := match Try.f24.body with | some c => c | none => .skip
noncomputable def c24S0 (_ : Unit) : Cmd := (.ops [
 ⟨some 29, .move (.tmp 8), 3, none⟩,
 ⟨some 30, .binOp .add 3 (.tmp 29) (.const (.int .i64 1)) 3, 3, none⟩,
 ⟨some 8, .assign (.tmp 30), 3, none⟩] [1, 3, 4, 5, 6, 7, 8])
noncomputable def c24S1 (_ : Unit) : Cmd := (.seq (.block 3 (.draw (drawOps 0 c24code) [1, 3, 4, 5, 6, 7, 8])) (sg c24S0))
noncomputable def c24L0 (_ : Unit) : Cmd := (.seq (.seq (.ops [
 ⟨some 23, .move (.tmp 8), 3, none⟩,
 ⟨some 24, .move (.tmp 6), 3, none⟩,
 ⟨some 25, .binOp .lss 3 (.tmp 23) (.tmp 24) 3, 4, none⟩,
 ⟨some 26, .move (.tmp 25), 4, none⟩,
 ⟨some 27, .move (.tmp 7), 4, (some (26, true))⟩,
 ⟨some 28, .pick (.tmp 26) (.tmp 27) (.const (.bool false)), 4, none⟩] [1, 3, 4, 5, 6, 7, 8, 28])
 (.cond (.tmp 28)
  (.skip [1, 3, 4, 5, 6, 8])
  (.exit 2 [1, 3, 4, 5, 6, 7]))) (sg c24S1))
noncomputable def c24S2 (_ : Unit) : Cmd := (.ops [
  ⟨some 59, .move (.tmp 6), 3, none⟩,
  ⟨some 5, .assign (.tmp 59), 3, none⟩] [1, 3, 4, 5, 6])
noncomputable def c24S3 (_ : Unit) : Cmd := (.seq (.ops [
 ⟨some 40, .move (.tmp 7), 4, none⟩,
 ⟨some 41, .move (.tmp 40), 4, none⟩,
 ⟨some 42, .move (.tmp 6), 3, (some (41, false))⟩,
 ⟨some 43, .move (.tmp 3), 22, (some (41, false))⟩,
 ⟨some 44, .call ⟨.builtin .len, #[(.tmp 43)], #[22]⟩, 3, (some (41, false))⟩,
 ⟨some 45, .binOp .eql 3 (.tmp 42) (.tmp 44) 3, 4, (some (41, false))⟩,
 ⟨some 46, .pick (.tmp 41) (.const (.bool true)) (.tmp 45), 4, none⟩] [1, 3, 4, 5, 6, 46])
 (.cond (.tmp 46)
  (.seq (.draw (drawOps 1 c24code) [1, 3, 4, 6]) (sg c24S2))
  (.skip [1, 3, 4, 5, 6])))
noncomputable def c24S4 (_ : Unit) : Cmd := (.ops [
 ⟨some 16, .move (.tmp 6), 3, none⟩,
 ⟨some 17, .binOp .add 3 (.tmp 16) (.const (.int .i64 1)) 3, 3, none⟩,
 ⟨some 6, .assign (.tmp 17), 3, none⟩] [1, 3, 4, 5, 6])
noncomputable def c24S5 (_ : Unit) : Cmd := (.seq (.block 1 (.seq (.ops [
 ⟨some 18, .move (.tmp 6), 3, none⟩,
 ⟨some 19, .move (.tmp 3), 22, none⟩,
 ⟨some 20, .call ⟨.builtin .len, #[(.tmp 19)], #[22]⟩, 3, none⟩,
 ⟨some 21, .binOp .lss 3 (.tmp 18) (.tmp 20) 3, 4, none⟩,
 ⟨some 7, .assign (.tmp 21), 4, none⟩] [1, 3, 4, 5, 6, 7])
 (.seq (.seq (.ops [
 ⟨some 22, .move (.tmp 5), 3, none⟩,
 ⟨some 8, .assign (.tmp 22), 3, none⟩] [1, 3, 4, 5, 6, 7, 8])
 (.block 2 (.loop (sg c24L0)))) (sg c24S3)))) (sg c24S4))
noncomputable def c24L1 (_ : Unit) : Cmd := (.seq (.seq (.ops [
 ⟨some 12, .move (.tmp 6), 3, none⟩,
 ⟨some 13, .move (.tmp 3), 22, none⟩,
 ⟨some 14, .call ⟨.builtin .len, #[(.tmp 13)], #[22]⟩, 3, none⟩,
 ⟨some 15, .binOp .leq 3 (.tmp 12) (.tmp 14) 3, 4, none⟩] [1, 3, 4, 5, 6, 15])
 (.cond (.tmp 15)
  (.skip [1, 3, 4, 5, 6])
  (.exit 0 [4]))) (sg c24S5))
noncomputable def c24S6 (_ : Unit) : Cmd := (.seq (.ops [
 ⟨some 60, .move (.tmp 4), 47, none⟩,
 ⟨some 2, .assign (.tmp 60), 47, none⟩] [2])
 .ret)
noncomputable def c24S7 (_ : Unit) : Cmd := (.seq (.ops [
 ⟨some 4, .assign (.const (.slice none 0 0)), 47, none⟩] [1, 3, 4])
 (.seq (.ops [
 ⟨some 5, .assign (.const (.int .i64 0)), 3, none⟩] [1, 3, 4, 5])
 (.seq (.seq (.ops [
 ⟨some 6, .assign (.const (.int .i64 1)), 3, none⟩] [1, 3, 4, 5, 6])
 (.block 0 (.loop (sg c24L1)))) (sg c24S6))))
noncomputable def c24 : Cmd := (.seq (.ops [
 ⟨some 1, .box 24 (.tmp 0), 0, none⟩,
 ⟨some 2, .assign (.const (.slice none 0 0)), 47, none⟩] [1])
 (.seq (.ops [
 ⟨some 9, .fieldAddr 24 (.tmp 1) 2, 0, none⟩,
 ⟨some 10, .load 22 (.tmp 9), 22, none⟩,
 ⟨some 11, .call ⟨.value (.func 52), #[(.tmp 10)], #[22]⟩, 22, none⟩,
 ⟨some 3, .assign (.tmp 11), 22, none⟩] [1, 3]) (sg c24S7)))
noncomputable def c24D0 : List (Nat × Ins) := [
 (0, ⟨some 31, .move (.tmp 3), 22, none⟩),
 (0, ⟨some 32, .move (.tmp 8), 3, none⟩),
 (0, ⟨some 33, .indexAddr 22 (.tmp 31) (.tmp 32), 0, none⟩),
 (0, ⟨some 35, .move (.tmp 3), 22, none⟩),
 (0, ⟨some 36, .move (.tmp 6), 3, none⟩),
 (0, ⟨some 37, .indexAddr 22 (.tmp 35) (.tmp 36), 0, none⟩),
 (1, ⟨some 34, .load 58 (.tmp 33), 58, none⟩),
 (2, ⟨some 38, .load 58 (.tmp 37), 58, none⟩),
 (3, ⟨some 39, .call ⟨.value (.func 53), #[(.tmp 34), (.tmp 38)], #[58, 58]⟩, 4, none⟩),
 (0, ⟨some 7, .assign (.tmp 39), 4, none⟩)]
theorem c24draw0 {L : List Nat} {ρ : Env} {w : World} {Q : Post} (S : World → Prop) (hS : S w.drew) (h : DG Try.prog S c24D0 L ρ w.drew Q) : drawW Try.prog (drawOps 0 c24code) L ρ w Q :=
  drawW_held [3] [(0, 0), (0, 1), (0, 2), (0, 4), (0, 5), (0, 6), (1, 3), (2, 7), (3, 8), (0, 9)] c24D0 (by kernel_rfl) (by kernel_rfl) (by kernel_rfl) S hS h
noncomputable def c24D1 : List (Nat × Ins) := [
 (0, ⟨some 47, .move (.tmp 4), 47, none⟩),
 (0, ⟨some 48, .fieldAddr 24 (.tmp 1) 0, 0, none⟩),
 (0, ⟨some 50, .fieldAddr 24 (.tmp 1) 1, 0, none⟩),
 (0, ⟨some 52, .move (.tmp 3), 22, none⟩),
 (0, ⟨some 53, .move (.tmp 5), 3, none⟩),
 (0, ⟨some 54, .move (.tmp 6), 3, none⟩),
 (0, ⟨some 55, .slice 22 (.tmp 52) (some (.tmp 53)) (some (.tmp 54)) none, 22, none⟩),
 (1, ⟨some 49, .load 3 (.tmp 48), 3, none⟩),
 (2, ⟨some 51, .load 3 (.tmp 50), 3, none⟩),
 (3, ⟨some 56, .build 24 #[(0, (.tmp 49)), (1, (.tmp 51)), (2, (.tmp 55))], 24, none⟩),
 (2, ⟨some 57, .buildSlice 47 1 #[(0, (.tmp 56))], 47, none⟩),
 (2, ⟨some 58, .call ⟨.builtin .append, #[(.tmp 47), (.tmp 57)], #[47, 47]⟩, 47, none⟩),
 (0, ⟨some 4, .assign (.tmp 58), 47, none⟩)]
theorem c24draw1 {L : List Nat} {ρ : Env} {w : World} {Q : Post} (S : World → Prop) (hS : S w.drew) (h : DG Try.prog S c24D1 L ρ w.drew Q) : drawW Try.prog (drawOps 1 c24code) L ρ w Q :=
  drawW_held [2] [(0, 0), (0, 1), (0, 3), (0, 5), (0, 6), (0, 7), (0, 8), (1, 2), (2, 4), (3, 9), (2, 10), (2, 11), (0, 12)] c24D1 (by kernel_rfl) (by kernel_rfl) (by kernel_rfl) S hS h
set_option maxRecDepth 100000 in
theorem ent24 (a0 : Value) (w : World) (K : Value → World → Prop) (h : W Try.prog c24 [(0, a0)] w (finQ Try.prog [.tmp 2] K)) : Ret Try.prog 24 [a0] w K :=
  Ret_of_W (code := c24code) Try.func24 (by kernel_rfl) (by kernel_rfl) (of_decide_eq_true (by kernel_rfl)) h
@[go_sem] theorem go24 : goFunc Try.prog 24 = true := by kernel_rfl
noncomputable def c29code : Code := match Try.f29.body with | some c => c | none => .skip
noncomputable def c29S0 (_ : Unit) : Cmd := (.cond (.tmp 25)
  (.seq (.ops [
  ⟨some 4, .assign (.const (.bool false)), 4, none⟩] [4])
  .ret)
  (.skip [0, 1, 5]))
noncomputable def c29S1 (_ : Unit) : Cmd := (.ops [
 ⟨some 15, .move (.tmp 5), 3, none⟩,
 ⟨some 16, .binOp .add 3 (.tmp 15) (.const (.int .i64 1)) 3, 3, none⟩,
 ⟨some 5, .assign (.tmp 16), 3, none⟩] [0, 1, 5])
noncomputable def c29S2 (_ : Unit) : Cmd := (.seq (.block 1 (.seq (.draw (drawOps 0 c29code) [0, 1, 5, 25]) (sg c29S0))) (sg c29S1))
noncomputable def c29L0 (_ : Unit) : Cmd := (.seq (.seq (.ops [
 ⟨some 11, .move (.tmp 5), 3, none⟩,
 ⟨some 12, .move (.tmp 0), 36, none⟩,
 ⟨some 13, .call ⟨.builtin .len, #[(.tmp 12)], #[36]⟩, 3, none⟩,
 ⟨some 14, .binOp .lss 3 (.tmp 11) (.tmp 13) 3, 4, none⟩] [0, 1, 5, 14])
 (.cond (.tmp 14)
  (.skip [0, 1, 5])
  (.exit 0 []))) (sg c29S2))
noncomputable def c29S3 (_ : Unit) : Cmd := (.seq (.ops [
 ⟨some 4, .assign (.const (.bool true)), 4, none⟩] [4])
 .ret)
noncomputable def c29S4 (_ : Unit) : Cmd := (.seq (.seq (.ops [
 ⟨some 5, .assign (.const (.int .i64 0)), 3, none⟩] [0, 1, 5])
 (.block 0 (.loop (sg c29L0)))) (sg c29S3))
noncomputable def c29 : Cmd := (.seq (.ops [
 ⟨some 4, .assign (.const (.bool false)), 4, none⟩] [0, 1])
 (.seq (.seq (.ops [
 ⟨some 6, .move (.tmp 0), 36, none⟩,
 ⟨some 7, .call ⟨.builtin .len, #[(.tmp 6)], #[36]⟩, 3, none⟩,
 ⟨some 8, .move (.tmp 1), 36, none⟩,
 ⟨some 9, .call ⟨.builtin .len, #[(.tmp 8)], #[36]⟩, 3, none⟩,
 ⟨some 10, .binOp .neq 3 (.tmp 7) (.tmp 9) 3, 4, none⟩] [0, 1, 10])
 (.cond (.tmp 10)
  (.seq (.ops [
  ⟨some 4, .assign (.const (.bool false)), 4, none⟩] [4])
  .ret)
  (.skip [0, 1]))) (sg c29S4)))
noncomputable def c29D0 : List (Bool × Ins) := [
 (true, ⟨some 17, .move (.tmp 0), 36, none⟩),
 (true, ⟨some 18, .move (.tmp 5), 3, none⟩),
 (true, ⟨some 19, .indexAddr 36 (.tmp 17) (.tmp 18), 0, none⟩),
 (false, ⟨some 20, .load 3 (.tmp 19), 3, none⟩),
 (true, ⟨some 21, .move (.tmp 1), 36, none⟩),
 (true, ⟨some 22, .move (.tmp 5), 3, none⟩),
 (true, ⟨some 23, .indexAddr 36 (.tmp 21) (.tmp 22), 0, none⟩),
 (false, ⟨some 24, .load 3 (.tmp 23), 3, none⟩),
 (true, ⟨some 25, .binOp .neq 3 (.tmp 20) (.tmp 24) 3, 4, none⟩)]
theorem c29draw0 {L : List Nat} {ρ : Env} {w : World} {Q : Post} (h : DL Try.prog c29D0 L ρ w.drew Q) : drawW Try.prog (drawOps 0 c29code) L ρ w Q :=
  drawW_still [true, true, true, false, true, true, true, false, true] c29D0 (by kernel_rfl) (by kernel_rfl) (by kernel_rfl) h
set_option maxRecDepth 100000 in
theorem ent29 (a0 a1 : Value) (w : World) (K : Value → World → Prop) (h : W Try.prog c29 [(0, a0), (1, a1)] w (finQ Try.prog [.tmp 4] K)) : Ret Try.prog 29 [a0, a1] w K :=
  Ret_of_W (code := c29code) Try.func29 (by kernel_rfl) (by kernel_rfl) (of_decide_eq_true (by kernel_rfl)) h
@[go_sem] theorem go29 : goFunc Try.prog 29 = true := by kernel_rfl
@[go_sem] theorem go30 : goFunc Try.prog 30 = true := by kernel_rfl
@[go_sem] theorem go31 : goFunc Try.prog 31 = true := by kernel_rfl
@[go_sem] theorem go32 : goFunc Try.prog 32 = true := by kernel_rfl
noncomputable def c33code : Code := match Try.f33.body with | some c => c | none => .skip
noncomputable def c33S0 (_ : Unit) : Cmd := (.seq (.ops [
 ⟨some 28, .move (.tmp 6), 36, none⟩,
 ⟨some 4, .assign (.tmp 28), 36, none⟩,
 ⟨some 5, .assign (.const (.bool true)), 4, none⟩] [4, 5])
 .ret)
noncomputable def c33S1 (_ : Unit) : Cmd := (.seq (.seq (.ops [
 ⟨some 16, .move (.tmp 8), 4, none⟩,
 ⟨some 17, .unOp .not 4 (.tmp 16), 4, none⟩,
 ⟨some 18, .move (.tmp 17), 4, none⟩,
 ⟨some 19, .fieldAddr 58 (.tmp 3) 7, 0, (some (18, false))⟩,
 ⟨some 20, .load 4 (.tmp 19), 4, (some (18, false))⟩,
 ⟨some 21, .move (.tmp 20), 4, (some (18, false))⟩,
 ⟨some 22, .move (.tmp 7), 3, (some (21, true))⟩,
 ⟨some 23, .fieldAddr 58 (.tmp 3) 8, 0, (some (21, true))⟩,
 ⟨some 24, .load 3 (.tmp 23), 3, (some (21, true))⟩,
 ⟨some 25, .binOp .neq 3 (.tmp 22) (.tmp 24) 3, 4, (some (21, true))⟩,
 ⟨some 26, .pick (.tmp 21) (.tmp 25) (.const (.bool false)), 4, (some (18, false))⟩,
 ⟨some 27, .pick (.tmp 18) (.const (.bool true)) (.tmp 26), 4, none⟩] [6, 27])
 (.cond (.tmp 27)
  (.seq (.ops [
  ⟨some 4, .assign (.const (.slice none 0 0)), 36, none⟩,
  ⟨some 5, .assign (.const (.bool false)), 4, none⟩] [4, 5])
  .ret)
  (.skip [6]))) (sg c33S0))
noncomputable def c33 : Cmd := (.seq (.ops [
 ⟨some 3, .box 58 (.tmp 1), 0, none⟩,
 ⟨some 4, .assign (.const (.slice none 0 0)), 36, none⟩,
 ⟨some 5, .assign (.const (.bool false)), 4, none⟩] [0, 3])
 (.seq (.ops [
 ⟨some 10, .move (.tmp 0), 36, none⟩,
 ⟨some 11, .load 58 (.tmp 3), 58, none⟩,
 ⟨some 12, .call ⟨.value (.func 66), #[(.tmp 10), (.tmp 11)], #[36, 58]⟩, 106, none⟩,
 ⟨some 9, .move (.tmp 12), 106, none⟩,
 ⟨some 13, .extract (.tmp 9) 0, 36, none⟩,
 ⟨some 14, .extract (.tmp 9) 1, 3, none⟩,
 ⟨some 15, .extract (.tmp 9) 2, 4, none⟩,
 ⟨some 6, .assign (.tmp 13), 36, none⟩,
 ⟨some 7, .assign (.tmp 14), 3, none⟩,
 ⟨some 8, .assign (.tmp 15), 4, none⟩] [3, 6, 7, 8]) (sg c33S1)))
set_option maxRecDepth 100000 in
theorem ent33 (a0 a1 : Value) (w : World) (K : Value → World → Prop) (h : W Try.prog c33 [(0, a0), (1, a1)] w (finQ Try.prog [.tmp 4, .tmp 5] K)) : Ret Try.prog 33 [a0, a1] w K :=
  Ret_of_W (code := c33code) Try.func33 (by kernel_rfl) (by kernel_rfl) (of_decide_eq_true (by kernel_rfl)) h
@[go_sem] theorem go33 : goFunc Try.prog 33 = true := by kernel_rfl
@[go_sem] theorem go34 : goFunc Try.prog 34 = true := by kernel_rfl
noncomputable def c35code : Code := match Try.f35.body with | some c => c | none => .skip
noncomputable def c35S0 (_ : Unit) : Cmd := (.cond (.tmp 19)
  (.seq (.ops [
  ⟨some 2, .assign (.const (.bool false)), 4, none⟩] [2])
  .ret)
  (.skip [1, 3]))
noncomputable def c35S1 (_ : Unit) : Cmd := (.ops [
 ⟨some 9, .move (.tmp 3), 3, none⟩,
 ⟨some 10, .binOp .add 3 (.tmp 9) (.const (.int .i64 1)) 3, 3, none⟩,
 ⟨some 3, .assign (.tmp 10), 3, none⟩] [1, 3])
noncomputable def c35S2 (_ : Unit) : Cmd := (.seq (.block 1 (.seq (.draw (drawOps 0 c35code) [1, 3, 19]) (sg c35S0))) (sg c35S1))
noncomputable def c35L0 (_ : Unit) : Cmd := (.seq (.seq (.ops [
 ⟨some 4, .move (.tmp 3), 3, none⟩,
 ⟨some 5, .fieldAddr 24 (.tmp 1) 2, 0, none⟩,
 ⟨some 6, .load 22 (.tmp 5), 22, none⟩,
 ⟨some 7, .call ⟨.builtin .len, #[(.tmp 6)], #[22]⟩, 3, none⟩,
 ⟨some 8, .binOp .lss 3 (.tmp 4) (.tmp 7) 3, 4, none⟩] [1, 3, 8])
 (.cond (.tmp 8)
  (.skip [1, 3])
  (.exit 0 []))) (sg c35S2))
noncomputable def c35S3 (_ : Unit) : Cmd := (.seq (.ops [
 ⟨some 2, .assign (.const (.bool true)), 4, none⟩] [2])
 .ret)
noncomputable def c35 : Cmd := (.seq (.ops [
 ⟨some 1, .box 24 (.tmp 0), 0, none⟩,
 ⟨some 2, .assign (.const (.bool false)), 4, none⟩] [1])
 (.seq (.seq (.ops [
 ⟨some 3, .assign (.const (.int .i64 0)), 3, none⟩] [1, 3])
 (.block 0 (.loop (sg c35L0)))) (sg c35S3)))
noncomputable def c35D0 : List (Bool × Ins) := [
 (true, ⟨some 11, .fieldAddr 24 (.tmp 1) 2, 0, none⟩),
 (false, ⟨some 12, .load 22 (.tmp 11), 22, none⟩),
 (true, ⟨some 13, .move (.tmp 3), 3, none⟩),
 (true, ⟨some 14, .indexAddr 22 (.tmp 12) (.tmp 13), 0, none⟩),
 (true, ⟨some 15, .fieldAddr 58 (.tmp 14) 3, 0, none⟩),
 (false, ⟨some 16, .load 3 (.tmp 15), 3, none⟩),
 (true, ⟨some 17, .fieldAddr 24 (.tmp 1) 1, 0, none⟩),
 (false, ⟨some 18, .load 3 (.tmp 17), 3, none⟩),
 (true, ⟨some 19, .binOp .neq 3 (.tmp 16) (.tmp 18) 3, 4, none⟩)]
theorem c35draw0 {L : List Nat} {ρ : Env} {w : World} {Q : Post} (h : DL Try.prog c35D0 L ρ w.drew Q) : drawW Try.prog (drawOps 0 c35code) L ρ w Q :=
  drawW_still [true, false, true, true, true, false, true, false, true] c35D0 (by kernel_rfl) (by kernel_rfl) (by kernel_rfl) h
set_option maxRecDepth 100000 in
theorem ent35 (a0 : Value) (w : World) (K : Value → World → Prop) (h : W Try.prog c35 [(0, a0)] w (finQ Try.prog [.tmp 2] K)) : Ret Try.prog 35 [a0] w K :=
  Ret_of_W (code := c35code) Try.func35 (by kernel_rfl) (by kernel_rfl) (of_decide_eq_true (by kernel_rfl)) h
@[go_sem] theorem go35 : goFunc Try.prog 35 = true := by kernel_rfl
@[go_sem] theorem go36 : goFunc Try.prog 36 = true := by kernel_rfl
noncomputable def c37code : Code := match Try.f37.body with | some c => c | none => .skip
noncomputable def c37S0 (_ : Unit) : Cmd := (.ops [
 ⟨some 43, .move (.tmp 7), 79, none⟩,
 ⟨some 44, .load 83 (.tmp 11), 83, none⟩,
 ⟨some 45, .buildSlice 79 1 #[(0, (.tmp 44))], 79, none⟩,
 ⟨some 46, .call ⟨.builtin .append, #[(.tmp 43), (.tmp 45)], #[79, 79]⟩, 79, none⟩,
 ⟨some 7, .assign (.tmp 46), 79, none⟩] [0, 2, 7, 8, 9, 10])
noncomputable def c37S1 (_ : Unit) : Cmd := (.seq (.ops [
 ⟨some 40, .move (.tmp 8), 109, none⟩,
 ⟨some 41, .load 83 (.tmp 11), 83, none⟩,
 ⟨some 42, .call ⟨.value (.func 68), #[(.tmp 41)], #[83]⟩, 9, none⟩,
 ⟨none, .mapUpdate 109 (.tmp 40) (.tmp 42) (.const (.bool true)), 0, none⟩] [0, 2, 7, 8, 9, 10, 11]) (sg c37S0))
noncomputable def c37S2 (_ : Unit) : Cmd := (.ops [
 ⟨some 30, .move (.tmp 10), 3, none⟩,
 ⟨some 31, .binOp .add 3 (.tmp 30) (.const (.int .i64 1)) 3, 3, none⟩,
 ⟨some 10, .assign (.tmp 31), 3, none⟩] [0, 2, 7, 8, 9, 10])
noncomputable def c37S3 (_ : Unit) : Cmd := (.seq (.block 1 (.seq (.draw (drawOps 0 c37code) [0, 2, 7, 8, 9, 10, 11]) (sg c37S1))) (sg c37S2))
noncomputable def c37L0 (_ : Unit) : Cmd := (.seq (.seq (.ops [
 ⟨some 20, .move (.tmp 10), 3, none⟩,
 ⟨some 21, .move (.tmp 9), 25, none⟩,
 ⟨some 22, .call ⟨.builtin .len, #[(.tmp 21)], #[25]⟩, 3, none⟩,
 ⟨some 23, .binOp .lss 3 (.tmp 20) (.tmp 22) 3, 4, none⟩,
 ⟨some 24, .move (.tmp 23), 4, none⟩,
 ⟨some 25, .move (.tmp 7), 79, (some (24, true))⟩,
 ⟨some 26, .call ⟨.builtin .len, #[(.tmp 25)], #[79]⟩, 3, (some (24, true))⟩,
 ⟨some 27, .move (.tmp 2), 3, (some (24, true))⟩,
 ⟨some 28, .binOp .leq 3 (.tmp 26) (.tmp 27) 3, 4, (some (24, true))⟩,
 ⟨some 29, .pick (.tmp 24) (.tmp 28) (.const (.bool false)), 4, none⟩] [0, 2, 7, 8, 9, 10, 29])
 (.cond (.tmp 29)
  (.skip [0, 2, 7, 8, 9, 10])
  (.exit 0 [0, 2, 7, 8]))) (sg c37S3))
noncomputable def c37S4 (_ : Unit) : Cmd := (.cond (.tmp 73)
  (.exit 5 [0, 2, 7, 8, 12, 13])
  (.skip [0, 2, 7, 8, 12, 13]))
noncomputable def c37S5 (_ : Unit) : Cmd := (.ops [
  ⟨some 110, .move (.tmp 7), 79, none⟩,
  ⟨some 111, .load 83 (.tmp 16), 83, none⟩,
  ⟨some 112, .buildSlice 79 1 #[(0, (.tmp 111))], 79, none⟩,
  ⟨some 113, .call ⟨.builtin .append, #[(.tmp 110), (.tmp 112)], #[79, 79]⟩, 79, none⟩,
  ⟨some 7, .assign (.tmp 113), 79, none⟩] [0, 2, 7, 8, 12, 13])
noncomputable def c37S6 (_ : Unit) : Cmd := (.cond (.tmp 106)
  (.seq (.ops [
  ⟨some 107, .move (.tmp 8), 109, none⟩,
  ⟨some 108, .load 83 (.tmp 16), 83, none⟩,
  ⟨some 109, .call ⟨.value (.func 68), #[(.tmp 108)], #[83]⟩, 9, none⟩,
  ⟨none, .mapUpdate 109 (.tmp 107) (.tmp 109) (.const (.bool true)), 0, none⟩] [0, 2, 7, 8, 12, 13, 16]) (sg c37S5))
  (.skip [0, 2, 7, 8, 12, 13]))
noncomputable def c37S7 (_ : Unit) : Cmd := (.seq (.ops [
 ⟨some 98, .fieldAddr 83 (.tmp 16) 0, 0, none⟩,
 ⟨some 99, .load 41 (.tmp 98), 41, none⟩,
 ⟨some 100, .move (.tmp 13), 3, none⟩,
 ⟨some 101, .indexAddr 41 (.tmp 99) (.tmp 100), 0, none⟩,
 ⟨none, .store 4 (.tmp 101) (.const (.bool true)), 0, none⟩] [0, 2, 7, 8, 12, 13, 16])
 (.seq (.ops [
 ⟨some 102, .move (.tmp 8), 109, none⟩,
 ⟨some 103, .load 83 (.tmp 16), 83, none⟩,
 ⟨some 104, .call ⟨.value (.func 68), #[(.tmp 103)], #[83]⟩, 9, none⟩,
 ⟨some 105, .lookup 109 (.tmp 102) (.tmp 104) false, 4, none⟩,
 ⟨some 106, .unOp .not 4 (.tmp 105), 4, none⟩] [0, 2, 7, 8, 12, 13, 16, 106]) (sg c37S6)))
noncomputable def c37S8 (_ : Unit) : Cmd := (.seq (.ops [
 ⟨some 89, .buildSlice 41 0 #[], 41, none⟩,
 ⟨some 90, .move (.tmp 7), 79, none⟩,
 ⟨some 91, .move (.tmp 12), 3, none⟩,
 ⟨some 92, .indexAddr 79 (.tmp 90) (.tmp 91), 0, none⟩,
 ⟨some 93, .fieldAddr 83 (.tmp 92) 0, 0, none⟩,
 ⟨some 94, .load 41 (.tmp 93), 41, none⟩,
 ⟨some 95, .call ⟨.builtin .append, #[(.tmp 89), (.tmp 94)], #[41, 41]⟩, 41, none⟩,
 ⟨some 96, .move (.tmp 14), 36, none⟩,
 ⟨some 97, .build 83 #[(0, (.tmp 95)), (1, (.tmp 96))], 83, none⟩,
 ⟨some 16, .alloc 83, 0, none⟩,
 ⟨none, .store 83 (.tmp 16) (.tmp 97), 0, none⟩] [0, 2, 7, 8, 12, 13, 16]) (sg c37S7))
noncomputable def c37S9 (_ : Unit) : Cmd := (.seq (.seq (.ops [
 ⟨some 87, .move (.tmp 15), 4, none⟩,
 ⟨some 88, .unOp .not 4 (.tmp 87), 4, none⟩] [0, 2, 7, 8, 12, 13, 14, 88])
 (.cond (.tmp 88)
  (.exit 5 [0, 2, 7, 8, 12, 13])
  (.skip [0, 2, 7, 8, 12, 13, 14]))) (sg c37S8))
noncomputable def c37S10 (_ : Unit) : Cmd := (.seq (.draw (drawOps 1 c37code) [0, 2, 7, 8, 12, 13, 14, 15]) (sg c37S9))
noncomputable def c37S11 (_ : Unit) : Cmd := (.ops [
 ⟨some 63, .move (.tmp 13), 3, none⟩,
 ⟨some 64, .binOp .add 3 (.tmp 63) (.const (.int .i64 1)) 3, 3, none⟩,
 ⟨some 13, .assign (.tmp 64), 3, none⟩] [0, 2, 7, 8, 12, 13])
noncomputable def c37S12 (_ : Unit) : Cmd := (.seq (.block 5 (.seq (.seq (.ops [
 ⟨some 65, .move (.tmp 0), 22, none⟩,
 ⟨some 66, .move (.tmp 7), 79, none⟩,
 ⟨some 67, .move (.tmp 12), 3, none⟩,
 ⟨some 68, .indexAddr 79 (.tmp 66) (.tmp 67), 0, none⟩,
 ⟨some 69, .fieldAddr 83 (.tmp 68) 0, 0, none⟩,
 ⟨some 70, .load 41 (.tmp 69), 41, none⟩,
 ⟨some 71, .move (.tmp 13), 3, none⟩,
 ⟨some 72, .call ⟨.value (.func 48), #[(.tmp 65), (.tmp 70), (.tmp 71)], #[22, 41, 3]⟩, 4, none⟩,
 ⟨some 73, .unOp .not 4 (.tmp 72), 4, none⟩] [0, 2, 7, 8, 12, 13, 73]) (sg c37S4)) (sg c37S10))) (sg c37S11))
noncomputable def c37L1 (_ : Unit) : Cmd := (.seq (.seq (.ops [
 ⟨some 59, .move (.tmp 13), 3, none⟩,
 ⟨some 60, .move (.tmp 0), 22, none⟩,
 ⟨some 61, .call ⟨.builtin .len, #[(.tmp 60)], #[22]⟩, 3, none⟩,
 ⟨some 62, .binOp .lss 3 (.tmp 59) (.tmp 61) 3, 4, none⟩] [0, 2, 7, 8, 12, 13, 62])
 (.cond (.tmp 62)
  (.skip [0, 2, 7, 8, 12, 13])
  (.exit 4 [0, 2, 7, 8, 12]))) (sg c37S12))
noncomputable def c37S13 (_ : Unit) : Cmd := (.ops [
 ⟨some 57, .move (.tmp 12), 3, none⟩,
 ⟨some 58, .binOp .add 3 (.tmp 57) (.const (.int .i64 1)) 3, 3, none⟩,
 ⟨some 12, .assign (.tmp 58), 3, none⟩] [0, 2, 7, 8, 12])
noncomputable def c37S14 (_ : Unit) : Cmd := (.seq (.block 3 (.seq (.ops [
 ⟨some 13, .assign (.const (.int .i64 0)), 3, none⟩] [0, 2, 7, 8, 12, 13])
 (.block 4 (.loop (sg c37L1))))) (sg c37S13))
noncomputable def c37L2 (_ : Unit) : Cmd := (.seq (.seq (.ops [
 ⟨some 47, .move (.tmp 12), 3, none⟩,
 ⟨some 48, .move (.tmp 7), 79, none⟩,
 ⟨some 49, .call ⟨.builtin .len, #[(.tmp 48)], #[79]⟩, 3, none⟩,
 ⟨some 50, .binOp .lss 3 (.tmp 47) (.tmp 49) 3, 4, none⟩,
 ⟨some 51, .move (.tmp 50), 4, none⟩,
 ⟨some 52, .move (.tmp 7), 79, (some (51, true))⟩,
 ⟨some 53, .call ⟨.builtin .len, #[(.tmp 52)], #[79]⟩, 3, (some (51, true))⟩,
 ⟨some 54, .move (.tmp 2), 3, (some (51, true))⟩,
 ⟨some 55, .binOp .leq 3 (.tmp 53) (.tmp 54) 3, 4, (some (51, true))⟩,
 ⟨some 56, .pick (.tmp 51) (.tmp 55) (.const (.bool false)), 4, none⟩] [0, 2, 7, 8, 12, 56])
 (.cond (.tmp 56)
  (.skip [0, 2, 7, 8, 12])
  (.exit 2 [7]))) (sg c37S14))
noncomputable def c37S15 (_ : Unit) : Cmd := (.seq (.ops [
 ⟨some 114, .move (.tmp 7), 79, none⟩,
 ⟨some 6, .assign (.tmp 114), 79, none⟩] [6])
 .ret)
noncomputable def c37S16 (_ : Unit) : Cmd := (.seq (.seq (.ops [
 ⟨some 12, .assign (.const (.int .i64 0)), 3, none⟩] [0, 2, 7, 8, 12])
 (.block 2 (.loop (sg c37L2)))) (sg c37S15))
noncomputable def c37S17 (_ : Unit) : Cmd := (.seq (.seq (.ops [
 ⟨some 10, .assign (.const (.int .i64 0)), 3, none⟩] [0, 2, 7, 8, 9, 10])
 (.block 0 (.loop (sg c37L0)))) (sg c37S16))
noncomputable def c37 : Cmd := (.seq (.ops [
 ⟨some 6, .assign (.const (.slice none 0 0)), 79, none⟩] [0, 1, 2])
 (.seq (.ops [
 ⟨some 7, .assign (.const (.slice none 0 0)), 79, none⟩] [0, 1, 2, 7])
 (.seq (.ops [
 ⟨some 17, .makeMap 109 none, 109, none⟩,
 ⟨some 8, .assign (.tmp 17), 109, none⟩] [0, 1, 2, 7, 8])
 (.seq (.ops [
 ⟨some 18, .move (.tmp 1), 25, none⟩,
 ⟨some 19, .call ⟨.value (.func 19), #[(.tmp 18)], #[25]⟩, 25, none⟩,
 ⟨some 9, .assign (.tmp 19), 25, none⟩] [0, 2, 7, 8, 9]) (sg c37S17)))))
noncomputable def c37D0 : GT := (.one 0 ⟨some 32, .move (.tmp 0), 22, none⟩
 (.one 0 ⟨some 33, .call ⟨.builtin .len, #[(.tmp 32)], #[22]⟩, 3, none⟩
 (.one 0 ⟨some 35, .move (.tmp 9), 25, none⟩
 (.one 0 ⟨some 36, .move (.tmp 10), 3, none⟩
 (.one 0 ⟨some 37, .indexAddr 25 (.tmp 35) (.tmp 36), 0, none⟩
 (.one 1 ⟨some 38, .load 36 (.tmp 37), 36, none⟩
 (.alt ⟨some 34, .makeSlice 41 (.tmp 33) (.tmp 33), 41, none⟩
 (.alt ⟨some 39, .build 83 #[(0, (.tmp 34)), (1, (.tmp 38))], 83, none⟩
 (.one 2 ⟨some 11, .alloc 83, 0, none⟩
 (.one 2 ⟨none, .store 83 (.tmp 11) (.tmp 39), 0, none⟩
 .nil))
 (.alt ⟨some 11, .alloc 83, 0, none⟩
 (.one 2 ⟨some 39, .build 83 #[(0, (.tmp 34)), (1, (.tmp 38))], 83, none⟩
 (.one 2 ⟨none, .store 83 (.tmp 11) (.tmp 39), 0, none⟩
 .nil))
 .stop))
 (.alt ⟨some 11, .alloc 83, 0, none⟩
 (.one 2 ⟨some 34, .makeSlice 41 (.tmp 33) (.tmp 33), 41, none⟩
 (.one 2 ⟨some 39, .build 83 #[(0, (.tmp 34)), (1, (.tmp 38))], 83, none⟩
 (.one 2 ⟨none, .store 83 (.tmp 11) (.tmp 39), 0, none⟩
 .nil)))
 .stop))))))))
theorem c37draw0 {L : List Nat} {ρ : Env} {w : World} {Q : Post} (S : World → Prop) (hS : S w.drew) (h : DT Try.prog S c37D0 L ρ w.drew Q) : drawW Try.prog (drawOps 0 c37code) L ρ w Q :=
  drawW_tree [6] (.one 0 0 (.one 0 1 (.one 0 3 (.one 0 4 (.one 0 5 (.one 1 6 (.alt 2 (.alt 7 (.one 2 8 (.one 2 9 .nil)) (.alt 8 (.one 2 7 (.one 2 9 .nil)) .stop)) (.alt 8 (.one 2 2 (.one 2 7 (.one 2 9 .nil))) .stop)))))))) c37D0 (by kernel_rfl) (by kernel_rfl) (by kernel_rfl) S hS h
noncomputable def c37D1 : List (Nat × Ins) := [
 (0, ⟨some 75, .move (.tmp 7), 79, none⟩),
 (0, ⟨some 76, .move (.tmp 12), 3, none⟩),
 (0, ⟨some 77, .indexAddr 79 (.tmp 75) (.tmp 76), 0, none⟩),
 (0, ⟨some 78, .fieldAddr 83 (.tmp 77) 1, 0, none⟩),
 (0, ⟨some 80, .move (.tmp 0), 22, none⟩),
 (0, ⟨some 81, .move (.tmp 13), 3, none⟩),
 (0, ⟨some 82, .indexAddr 22 (.tmp 80) (.tmp 81), 0, none⟩),
 (1, ⟨some 79, .load 36 (.tmp 78), 36, none⟩),
 (2, ⟨some 83, .load 58 (.tmp 82), 58, none⟩),
 (3, ⟨some 84, .call ⟨.value (.func 49), #[(.tmp 79), (.tmp 83)], #[36, 58]⟩, 74, none⟩),
 (0, ⟨some 74, .move (.tmp 84), 74, none⟩),
 (0, ⟨some 85, .extract (.tmp 74) 0, 36, none⟩),
 (0, ⟨some 86, .extract (.tmp 74) 1, 4, none⟩),
 (0, ⟨some 14, .assign (.tmp 85), 36, none⟩),
 (0, ⟨some 15, .assign (.tmp 86), 4, none⟩)]
theorem c37draw1 {L : List Nat} {ρ : Env} {w : World} {Q : Post} (S : World → Prop) (hS : S w.drew) (h : DG Try.prog S c37D1 L ρ w.drew Q) : drawW Try.prog (drawOps 1 c37code) L ρ w Q :=
  drawW_held [4] [(0, 0), (0, 1), (0, 2), (0, 3), (0, 5), (0, 6), (0, 7), (1, 4), (2, 8), (3, 9), (0, 10), (0, 11), (0, 12), (0, 13), (0, 14)] c37D1 (by kernel_rfl) (by kernel_rfl) (by kernel_rfl) S hS h
set_option maxRecDepth 100000 in
theorem ent37 (a0 a1 a2 : Value) (w : World) (K : Value → World → Prop) (h : W Try.prog c37 [(0, a0), (1, a1), (2, a2)] w (finQ Try.prog [.tmp 6] K)) : Ret Try.prog 37 [a0, a1, a2] w K :=
  Ret_of_W (code := c37code) Try.func37 (by kernel_rfl) (by kernel_rfl) (of_decide_eq_true (by kernel_rfl)) h
@[go_sem] theorem go37 : goFunc Try.prog 37 = true := by kernel_rfl
noncomputable def c38code : Code := match Try.f38.body with | some c => c | none => .skip
noncomputable def c38S0 (_ : Unit) : Cmd := (.ops [
 ⟨some 10, .move (.tmp 5), 3, none⟩,
 ⟨some 11, .binOp .add 3 (.tmp 10) (.const (.int .i64 1)) 3, 3, none⟩,
 ⟨some 5, .assign (.tmp 11), 3, none⟩] [0, 1, 5])
noncomputable def c38S1 (_ : Unit) : Cmd := (.seq (.block 1 (.seq (.ops [
 ⟨some 12, .move (.tmp 0), 22, none⟩,
 ⟨some 13, .move (.tmp 5), 3, none⟩,
 ⟨some 14, .indexAddr 22 (.tmp 12) (.tmp 13), 0, none⟩,
 ⟨some 15, .fieldAddr 58 (.tmp 14) 7, 0, none⟩,
 ⟨some 16, .load 4 (.tmp 15), 4, none⟩,
 ⟨some 17, .move (.tmp 16), 4, none⟩,
 ⟨some 18, .move (.tmp 1), 41, (some (17, true))⟩,
 ⟨some 19, .move (.tmp 5), 3, (some (17, true))⟩,
 ⟨some 20, .indexAddr 41 (.tmp 18) (.tmp 19), 0, (some (17, true))⟩,
 ⟨some 21, .load 4 (.tmp 20), 4, (some (17, true))⟩,
 ⟨some 22, .unOp .not 4 (.tmp 21), 4, (some (17, true))⟩,
 ⟨some 23, .pick (.tmp 17) (.tmp 22) (.const (.bool false)), 4, none⟩] [0, 1, 5, 23])
 (.cond (.tmp 23)
  (.seq (.ops [
  ⟨some 4, .assign (.const (.bool false)), 4, none⟩] [4])
  .ret)
  (.skip [0, 1, 5])))) (sg c38S0))
noncomputable def c38L0 (_ : Unit) : Cmd := (.seq (.seq (.ops [
 ⟨some 6, .move (.tmp 5), 3, none⟩,
 ⟨some 7, .move (.tmp 0), 22, none⟩,
 ⟨some 8, .call ⟨.builtin .len, #[(.tmp 7)], #[22]⟩, 3, none⟩,
 ⟨some 9, .binOp .lss 3 (.tmp 6) (.tmp 8) 3, 4, none⟩] [0, 1, 5, 9])
 (.cond (.tmp 9)
  (.skip [0, 1, 5])
  (.exit 0 []))) (sg c38S1))
noncomputable def c38S2 (_ : Unit) : Cmd := (.seq (.ops [
 ⟨some 4, .assign (.const (.bool true)), 4, none⟩] [4])
 .ret)
noncomputable def c38 : Cmd := (.seq (.ops [
 ⟨some 4, .assign (.const (.bool false)), 4, none⟩] [0, 1])
 (.seq (.seq (.ops [
 ⟨some 5, .assign (.const (.int .i64 0)), 3, none⟩] [0, 1, 5])
 (.block 0 (.loop (sg c38L0)))) (sg c38S2)))
set_option maxRecDepth 100000 in
theorem ent38 (a0 a1 : Value) (w : World) (K : Value → World → Prop) (h : W Try.prog c38 [(0, a0), (1, a1)] w (finQ Try.prog [.tmp 4] K)) : Ret Try.prog 38 [a0, a1] w K :=
  Ret_of_W (code := c38code) Try.func38 (by kernel_rfl) (by kernel_rfl) (of_decide_eq_true (by kernel_rfl)) h
@[go_sem] theorem go38 : goFunc Try.prog 38 = true := by kernel_rfl
noncomputable def c39code : Code := match Try.f39.body with | some c => c | none => .skip
noncomputable def c39S0 (_ : Unit) : Cmd := .ret
noncomputable def c39S1 (_ : Unit) : Cmd := (.seq (.ops [
 ⟨some 5, .buildSlice 36 0 #[], 36, none⟩,
 ⟨some 6, .move (.tmp 0), 36, none⟩,
 ⟨some 7, .call ⟨.builtin .append, #[(.tmp 5), (.tmp 6)], #[36, 36]⟩, 36, none⟩,
 ⟨some 2, .assign (.tmp 7), 36, none⟩] [2]) (sg c39S0))
noncomputable def c39 : Cmd := (.seq (.ops [
 ⟨some 2, .assign (.const (.slice none 0 0)), 36, none⟩] [0])
 (.seq (.seq (.ops [
 ⟨some 3, .move (.tmp 0), 36, none⟩,
 ⟨some 4, .binOp .eql 36 (.tmp 3) (.const (.slice none 0 0)) 36, 4, none⟩] [0, 4])
 (.cond (.tmp 4)
  (.seq (.ops [
  ⟨some 2, .assign (.const (.slice none 0 0)), 36, none⟩] [2])
  .ret)
  (.skip [0]))) (sg c39S1)))
set_option maxRecDepth 100000 in
theorem ent39 (a0 : Value) (w : World) (K : Value → World → Prop) (h : W Try.prog c39 [(0, a0)] w (finQ Try.prog [.tmp 2] K)) : Ret Try.prog 39 [a0] w K :=
  Ret_of_W (code := c39code) Try.func39 (by kernel_rfl) (by kernel_rfl) (of_decide_eq_true (by kernel_rfl)) h
@[go_sem] theorem go39 : goFunc Try.prog 39 = true := by kernel_rfl
@[go_sem] theorem go41 : goFunc Try.prog 41 = true := by kernel_rfl
@[go_sem] theorem go42 : goFunc Try.prog 42 = true := by kernel_rfl
noncomputable def c43code : Code := match Try.f43.body with | some c => c | none => .skip
noncomputable def c43S0 (_ : Unit) : Cmd := (.ops [
 ⟨some 21, .binOp .add 3 (.tmp 12) (.const (.int .i64 1)) 3, 3, none⟩,
 ⟨some 12, .move (.tmp 21), 3, none⟩] [3, 10, 11, 12])
noncomputable def c43S1 (_ : Unit) : Cmd := (.seq (.block 1 (.seq (.ops [
 ⟨some 14, .indexAddr 36 (.tmp 10) (.tmp 12), 0, none⟩,
 ⟨some 15, .load 3 (.tmp 14), 3, none⟩,
 ⟨some 5, .assign (.tmp 15), 3, none⟩] [3, 5, 10, 11, 12])
 (.ops [
 ⟨some 16, .move (.tmp 3), 9, none⟩,
 ⟨some 17, .move (.tmp 5), 3, none⟩,
 ⟨some 18, .call ⟨.value (.func 73), #[(.tmp 17)], #[3]⟩, 114, none⟩,
 ⟨some 19, .call ⟨.value (.func 72), #[(.tmp 18)], #[114]⟩, 9, none⟩,
 ⟨some 20, .binOp .add 9 (.tmp 16) (.tmp 19) 9, 9, none⟩,
 ⟨some 3, .assign (.tmp 20), 9, none⟩] [3, 10, 11, 12]))) (sg c43S0))
noncomputable def c43L0 (_ : Unit) : Cmd := (.seq (.ops [
 ⟨some 13, .binOp .lss 3 (.tmp 12) (.tmp 11) 3, 0, none⟩] [3, 10, 11, 12, 13])
 (.seq (.cond (.tmp 13)
  (.skip [3, 10, 11, 12])
  (.exit 0 [3])) (sg c43S1)))
noncomputable def c43S2 (_ : Unit) : Cmd := (.seq (.ops [
 ⟨some 22, .move (.tmp 3), 9, none⟩,
 ⟨some 2, .assign (.tmp 22), 9, none⟩] [2])
 .ret)
noncomputable def c43S3 (_ : Unit) : Cmd := (.seq (.seq (.ops [
 ⟨some 10, .move (.tmp 0), 36, none⟩,
 ⟨some 11, .call ⟨.builtin .len, #[(.tmp 10)], #[36]⟩, 3, none⟩,
 ⟨some 12, .move (.const (.int .i64 0)), 3, none⟩] [3, 10, 11, 12])
 (.block 0 (.loop (sg c43L0)))) (sg c43S2))
noncomputable def c43 : Cmd := (.seq (.ops [
 ⟨some 2, .assign (.const (.string (ofL []))), 9, none⟩] [0])
 (.seq (.ops [
 ⟨some 6, .move (.tmp 0), 36, none⟩,
 ⟨some 7, .call ⟨.builtin .len, #[(.tmp 6)], #[36]⟩, 3, none⟩,
 ⟨some 8, .convert 3 114 (.tmp 7), 114, none⟩,
 ⟨some 9, .call ⟨.value (.func 72), #[(.tmp 8)], #[114]⟩, 9, none⟩,
 ⟨some 3, .assign (.tmp 9), 9, none⟩] [0, 3]) (sg c43S3)))
set_option maxRecDepth 100000 in
theorem ent43 (a0 : Value) (w : World) (K : Value → World → Prop) (h : W Try.prog c43 [(0, a0)] w (finQ Try.prog [.tmp 2] K)) : Ret Try.prog 43 [a0] w K :=
  Ret_of_W (code := c43code) Try.func43 (by kernel_rfl) (by kernel_rfl) (of_decide_eq_true (by kernel_rfl)) h
@[go_sem] theorem go43 : goFunc Try.prog 43 = true := by kernel_rfl
@[go_sem] theorem go44 : goFunc Try.prog 44 = true := by kernel_rfl
@[go_sem] theorem go45 : goFunc Try.prog 45 = true := by kernel_rfl
@[go_sem] theorem go46 : goFunc Try.prog 46 = true := by kernel_rfl
noncomputable def c47code : Code := match Try.f47.body with | some c => c | none => .skip
noncomputable def c47S0 (_ : Unit) : Cmd := (.ops [
 ⟨some 13, .move (.tmp 4), 3, none⟩,
 ⟨some 14, .binOp .add 3 (.tmp 13) (.const (.int .i64 1)) 3, 3, none⟩,
 ⟨some 4, .assign (.tmp 14), 3, none⟩] [0, 3, 4])
noncomputable def c47S1 (_ : Unit) : Cmd := (.seq (.block 1 (.ops [
 ⟨some 15, .move (.tmp 3), 9, none⟩,
 ⟨some 16, .move (.tmp 0), 36, none⟩,
 ⟨some 17, .move (.tmp 4), 3, none⟩,
 ⟨some 18, .indexAddr 36 (.tmp 16) (.tmp 17), 0, none⟩,
 ⟨some 19, .load 3 (.tmp 18), 3, none⟩,
 ⟨some 20, .call ⟨.value (.func 75), #[(.tmp 19)], #[3]⟩, 114, none⟩,
 ⟨some 21, .call ⟨.value (.func 74), #[(.tmp 20)], #[114]⟩, 9, none⟩,
 ⟨some 22, .binOp .add 9 (.tmp 15) (.tmp 21) 9, 9, none⟩,
 ⟨some 3, .assign (.tmp 22), 9, none⟩] [0, 3, 4])) (sg c47S0))
noncomputable def c47L0 (_ : Unit) : Cmd := (.seq (.seq (.ops [
 ⟨some 9, .move (.tmp 4), 3, none⟩,
 ⟨some 10, .move (.tmp 0), 36, none⟩,
 ⟨some 11, .call ⟨.builtin .len, #[(.tmp 10)], #[36]⟩, 3, none⟩,
 ⟨some 12, .binOp .lss 3 (.tmp 9) (.tmp 11) 3, 4, none⟩] [0, 3, 4, 12])
 (.cond (.tmp 12)
  (.skip [0, 3, 4])
  (.exit 0 [3]))) (sg c47S1))
noncomputable def c47S2 (_ : Unit) : Cmd := (.seq (.ops [
 ⟨some 23, .move (.tmp 3), 9, none⟩,
 ⟨some 2, .assign (.tmp 23), 9, none⟩] [2])
 .ret)
noncomputable def c47S3 (_ : Unit) : Cmd := (.seq (.seq (.ops [
 ⟨some 4, .assign (.const (.int .i64 0)), 3, none⟩] [0, 3, 4])
 (.block 0 (.loop (sg c47L0)))) (sg c47S2))
noncomputable def c47 : Cmd := (.seq (.ops [
 ⟨some 2, .assign (.const (.string (ofL []))), 9, none⟩] [0])
 (.seq (.ops [
 ⟨some 5, .move (.tmp 0), 36, none⟩,
 ⟨some 6, .call ⟨.builtin .len, #[(.tmp 5)], #[36]⟩, 3, none⟩,
 ⟨some 7, .convert 3 114 (.tmp 6), 114, none⟩,
 ⟨some 8, .call ⟨.value (.func 74), #[(.tmp 7)], #[114]⟩, 9, none⟩,
 ⟨some 3, .assign (.tmp 8), 9, none⟩] [0, 3]) (sg c47S3)))
set_option maxRecDepth 100000 in
theorem ent47 (a0 : Value) (w : World) (K : Value → World → Prop) (h : W Try.prog c47 [(0, a0)] w (finQ Try.prog [.tmp 2] K)) : Ret Try.prog 47 [a0] w K :=
  Ret_of_W (code := c47code) Try.func47 (by kernel_rfl) (by kernel_rfl) (of_decide_eq_true (by kernel_rfl)) h
@[go_sem] theorem go47 : goFunc Try.prog 47 = true := by kernel_rfl
noncomputable def c48code : Code := match Try.f48.body with | some c => c | none => .skip
noncomputable def c48S0 (_ : Unit) : Cmd := (.cond (.tmp 33)
  (.seq (.ops [
  ⟨some 6, .assign (.const (.bool false)), 4, none⟩] [6])
  .ret)
  (.skip [0, 1, 2, 7]))
noncomputable def c48S1 (_ : Unit) : Cmd := (.ops [
 ⟨some 16, .move (.tmp 7), 3, none⟩,
 ⟨some 17, .binOp .add 3 (.tmp 16) (.const (.int .i64 1)) 3, 3, none⟩,
 ⟨some 7, .assign (.tmp 17), 3, none⟩] [0, 1, 2, 7])
noncomputable def c48S2 (_ : Unit) : Cmd := (.seq (.block 1 (.seq (.draw (drawOps 0 c48code) [0, 1, 2, 7, 33]) (sg c48S0))) (sg c48S1))
noncomputable def c48L0 (_ : Unit) : Cmd := (.seq (.seq (.ops [
 ⟨some 12, .move (.tmp 7), 3, none⟩,
 ⟨some 13, .move (.tmp 0), 22, none⟩,
 ⟨some 14, .call ⟨.builtin .len, #[(.tmp 13)], #[22]⟩, 3, none⟩,
 ⟨some 15, .binOp .lss 3 (.tmp 12) (.tmp 14) 3, 4, none⟩] [0, 1, 2, 7, 15])
 (.cond (.tmp 15)
  (.skip [0, 1, 2, 7])
  (.exit 0 []))) (sg c48S2))
noncomputable def c48S3 (_ : Unit) : Cmd := (.seq (.ops [
 ⟨some 6, .assign (.const (.bool true)), 4, none⟩] [6])
 .ret)
noncomputable def c48S4 (_ : Unit) : Cmd := (.seq (.seq (.ops [
 ⟨some 7, .assign (.const (.int .i64 0)), 3, none⟩] [0, 1, 2, 7])
 (.block 0 (.loop (sg c48L0)))) (sg c48S3))
noncomputable def c48 : Cmd := (.seq (.ops [
 ⟨some 6, .assign (.const (.bool false)), 4, none⟩] [0, 1, 2])
 (.seq (.seq (.ops [
 ⟨some 8, .move (.tmp 1), 41, none⟩,
 ⟨some 9, .move (.tmp 2), 3, none⟩,
 ⟨some 10, .indexAddr 41 (.tmp 8) (.tmp 9), 0, none⟩,
 ⟨some 11, .load 4 (.tmp 10), 4, none⟩] [0, 1, 2, 11])
 (.cond (.tmp 11)
  (.seq (.ops [
  ⟨some 6, .assign (.const (.bool false)), 4, none⟩] [6])
  .ret)
  (.skip [0, 1, 2]))) (sg c48S4)))
noncomputable def c48D0 : List (Nat × Ins) := [
 (0, ⟨some 18, .move (.tmp 1), 41, none⟩),
 (0, ⟨some 19, .move (.tmp 7), 3, none⟩),
 (0, ⟨some 20, .indexAddr 41 (.tmp 18) (.tmp 19), 0, none⟩),
 (2, ⟨some 21, .load 4 (.tmp 20), 4, none⟩),
 (0, ⟨some 22, .unOp .not 4 (.tmp 21), 4, none⟩),
 (0, ⟨some 23, .move (.tmp 22), 4, none⟩),
 (0, ⟨some 24, .move (.tmp 0), 22, (some (23, true))⟩),
 (0, ⟨some 25, .move (.tmp 7), 3, (some (23, true))⟩),
 (0, ⟨some 26, .indexAddr 22 (.tmp 24) (.tmp 25), 0, (some (23, true))⟩),
 (0, ⟨some 28, .move (.tmp 0), 22, (some (23, true))⟩),
 (0, ⟨some 29, .move (.tmp 2), 3, (some (23, true))⟩),
 (0, ⟨some 30, .indexAddr 22 (.tmp 28) (.tmp 29), 0, (some (23, true))⟩),
 (1, ⟨some 27, .load 58 (.tmp 26), 58, (some (23, true))⟩),
 (2, ⟨some 31, .load 58 (.tmp 30), 58, (some (23, true))⟩),
 (3, ⟨some 32, .call ⟨.value (.func 53), #[(.tmp 27), (.tmp 31)], #[58, 58]⟩, 4, (some (23, true))⟩),
 (0, ⟨some 33, .pick (.tmp 23) (.tmp 32) (.const (.bool false)), 4, none⟩)]
theorem c48draw0 {L : List Nat} {ρ : Env} {w : World} {Q : Post} (S : World → Prop) (hS : S w.drew) (h : DG Try.prog S c48D0 L ρ w.drew Q) : drawW Try.prog (drawOps 0 c48code) L ρ w Q :=
  drawW_held [9] [(0, 0), (0, 1), (0, 2), (2, 3), (0, 4), (0, 5), (0, 6), (0, 7), (0, 8), (0, 10), (0, 11), (0, 12), (1, 9), (2, 13), (3, 14), (0, 15)] c48D0 (by kernel_rfl) (by kernel_rfl) (by kernel_rfl) S hS h
set_option maxRecDepth 100000 in
theorem ent48 (a0 a1 a2 : Value) (w : World) (K : Value → World → Prop) (h : W Try.prog c48 [(0, a0), (1, a1), (2, a2)] w (finQ Try.prog [.tmp 6] K)) : Ret Try.prog 48 [a0, a1, a2] w K :=
  Ret_of_W (code := c48code) Try.func48 (by kernel_rfl) (by kernel_rfl) (of_decide_eq_true (by kernel_rfl)) h
@[go_sem] theorem go48 : goFunc Try.prog 48 = true := by kernel_rfl
noncomputable def c49code : Code := match Try.f49.body with | some c => c | none => .skip
noncomputable def c49S0 (_ : Unit) : Cmd := (.seq (.ops [
 ⟨some 24, .fieldAddr 117 (.tmp 6) 0, 0, none⟩,
 ⟨some 25, .load 36 (.tmp 24), 36, none⟩,
 ⟨some 4, .assign (.tmp 25), 36, none⟩,
 ⟨some 5, .assign (.const (.bool true)), 4, none⟩] [4, 5])
 .ret)
noncomputable def c49S1 (_ : Unit) : Cmd := (.seq (.seq (.ops [
 ⟨some 10, .fieldAddr 117 (.tmp 6) 2, 0, none⟩,
 ⟨some 11, .load 4 (.tmp 10), 4, none⟩,
 ⟨some 12, .unOp .not 4 (.tmp 11), 4, none⟩,
 ⟨some 13, .move (.tmp 12), 4, none⟩,
 ⟨some 14, .fieldAddr 58 (.tmp 3) 7, 0, (some (13, false))⟩,
 ⟨some 15, .load 4 (.tmp 14), 4, (some (13, false))⟩,
 ⟨some 16, .move (.tmp 15), 4, (some (13, false))⟩,
 ⟨some 17, .fieldAddr 117 (.tmp 6) 1, 0, (some (16, true))⟩,
 ⟨some 18, .load 3 (.tmp 17), 3, (some (16, true))⟩,
 ⟨some 19, .fieldAddr 58 (.tmp 3) 8, 0, (some (16, true))⟩,
 ⟨some 20, .load 3 (.tmp 19), 3, (some (16, true))⟩,
 ⟨some 21, .binOp .neq 3 (.tmp 18) (.tmp 20) 3, 4, (some (16, true))⟩,
 ⟨some 22, .pick (.tmp 16) (.tmp 21) (.const (.bool false)), 4, (some (13, false))⟩,
 ⟨some 23, .pick (.tmp 13) (.const (.bool true)) (.tmp 22), 4, none⟩] [6, 23])
 (.cond (.tmp 23)
  (.seq (.ops [
  ⟨some 4, .assign (.const (.slice none 0 0)), 36, none⟩,
  ⟨some 5, .assign (.const (.bool false)), 4, none⟩] [4, 5])
  .ret)
  (.skip [6]))) (sg c49S0))
noncomputable def c49 : Cmd := (.seq (.ops [
 ⟨some 3, .box 58 (.tmp 1), 0, none⟩,
 ⟨some 4, .assign (.const (.slice none 0 0)), 36, none⟩,
 ⟨some 5, .assign (.const (.bool false)), 4, none⟩] [0, 3])
 (.seq (.ops [
 ⟨some 7, .move (.tmp 0), 36, none⟩,
 ⟨some 8, .load 58 (.tmp 3), 58, none⟩,
 ⟨some 9, .call ⟨.value (.func 76), #[(.tmp 7), (.tmp 8)], #[36, 58]⟩, 117, none⟩,
 ⟨some 6, .alloc 117, 0, none⟩,
 ⟨none, .store 117 (.tmp 6) (.tmp 9), 0, none⟩] [3, 6]) (sg c49S1)))
set_option maxRecDepth 100000 in
theorem ent49 (a0 a1 : Value) (w : World) (K : Value → World → Prop) (h : W Try.prog c49 [(0, a0), (1, a1)] w (finQ Try.prog [.tmp 4, .tmp 5] K)) : Ret Try.prog 49 [a0, a1] w K :=
  Ret_of_W (code := c49code) Try.func49 (by kernel_rfl) (by kernel_rfl) (of_decide_eq_true (by kernel_rfl)) h
@[go_sem] theorem go49 : goFunc Try.prog 49 = true := by kernel_rfl
@[go_sem] theorem go50 : goFunc Try.prog 50 = true := by kernel_rfl
@[go_sem] theorem go51 : goFunc Try.prog 51 = true := by kernel_rfl
noncomputable def c52code : Code := match Try.f52.body with | some c => c | none => .skip
noncomputable def c52S0 (_ : Unit) : Cmd := (.cond (.tmp 55)
  (.skip [0, 3, 4, 5])
  (.exit 2 [0, 3, 4, 5]))
noncomputable def c52S1 (_ : Unit) : Cmd := (.block 3 (.ops [
 ⟨some 56, .move (.tmp 5), 3, none⟩,
 ⟨some 57, .binOp .add 3 (.tmp 56) (.const (.int .i64 1)) 3, 3, none⟩,
 ⟨some 5, .assign (.tmp 57), 3, none⟩] [0, 3, 4, 5]))
noncomputable def c52L0 (_ : Unit) : Cmd := (.seq (.seq (.draw (drawOps 0 c52code) [0, 3, 4, 5, 55]) (sg c52S0)) (sg c52S1))
noncomputable def c52S2 (_ : Unit) : Cmd := (.ops [
 ⟨some 70, .move (.tmp 6), 22, none⟩,
 ⟨some 71, .move (.tmp 3), 22, none⟩,
 ⟨some 72, .move (.tmp 5), 3, none⟩,
 ⟨some 73, .slice 22 (.tmp 71) (some (.tmp 72)) none none, 22, none⟩,
 ⟨some 74, .call ⟨.builtin .append, #[(.tmp 70), (.tmp 73)], #[22, 22]⟩, 22, none⟩,
 ⟨some 3, .assign (.tmp 74), 22, none⟩] [0, 3, 4])
noncomputable def c52S3 (_ : Unit) : Cmd := (.seq (.ops [
 ⟨some 63, .move (.tmp 6), 22, none⟩,
 ⟨some 64, .move (.tmp 0), 22, none⟩,
 ⟨some 65, .move (.tmp 4), 3, none⟩,
 ⟨some 66, .indexAddr 22 (.tmp 64) (.tmp 65), 0, none⟩,
 ⟨some 67, .load 58 (.tmp 66), 58, none⟩,
 ⟨some 68, .buildSlice 22 1 #[(0, (.tmp 67))], 22, none⟩,
 ⟨some 69, .call ⟨.builtin .append, #[(.tmp 63), (.tmp 68)], #[22, 22]⟩, 22, none⟩,
 ⟨some 6, .assign (.tmp 69), 22, none⟩] [0, 3, 4, 5, 6]) (sg c52S2))
noncomputable def c52S4 (_ : Unit) : Cmd := (.seq (.ops [
 ⟨some 58, .buildSlice 22 0 #[], 22, none⟩,
 ⟨some 59, .move (.tmp 3), 22, none⟩,
 ⟨some 60, .move (.tmp 5), 3, none⟩,
 ⟨some 61, .slice 22 (.tmp 59) none (some (.tmp 60)) none, 22, none⟩,
 ⟨some 62, .call ⟨.builtin .append, #[(.tmp 58), (.tmp 61)], #[22, 22]⟩, 22, none⟩,
 ⟨some 6, .assign (.tmp 62), 22, none⟩] [0, 3, 4, 5, 6]) (sg c52S3))
noncomputable def c52S5 (_ : Unit) : Cmd := (.ops [
 ⟨some 11, .move (.tmp 4), 3, none⟩,
 ⟨some 12, .binOp .add 3 (.tmp 11) (.const (.int .i64 1)) 3, 3, none⟩,
 ⟨some 4, .assign (.tmp 12), 3, none⟩] [0, 3, 4])
noncomputable def c52S6 (_ : Unit) : Cmd := (.seq (.block 1 (.seq (.ops [
 ⟨some 5, .assign (.const (.int .i64 0)), 3, none⟩] [0, 3, 4, 5])
 (.seq (.block 2 (.loop (sg c52L0))) (sg c52S4)))) (sg c52S5))
noncomputable def c52L1 (_ : Unit) : Cmd := (.seq (.seq (.ops [
 ⟨some 7, .move (.tmp 4), 3, none⟩,
 ⟨some 8, .move (.tmp 0), 22, none⟩,
 ⟨some 9, .call ⟨.builtin .len, #[(.tmp 8)], #[22]⟩, 3, none⟩,
 ⟨some 10, .binOp .lss 3 (.tmp 7) (.tmp 9) 3, 4, none⟩] [0, 3, 4, 10])
 (.cond (.tmp 10)
  (.skip [0, 3, 4])
  (.exit 0 [3]))) (sg c52S6))
noncomputable def c52S7 (_ : Unit) : Cmd := (.seq (.ops [
 ⟨some 75, .move (.tmp 3), 22, none⟩,
 ⟨some 2, .assign (.tmp 75), 22, none⟩] [2])
 .ret)
noncomputable def c52 : Cmd := (.seq (.ops [
 ⟨some 2, .assign (.const (.slice none 0 0)), 22, none⟩] [0])
 (.seq (.ops [
 ⟨some 3, .assign (.const (.slice none 0 0)), 22, none⟩] [0, 3])
 (.seq (.seq (.ops [
 ⟨some 4, .assign (.const (.int .i64 0)), 3, none⟩] [0, 3, 4])
 (.block 0 (.loop (sg c52L1)))) (sg c52S7))))
noncomputable def c52D0 : List (Bool × Ins) := [
 (true, ⟨some 13, .move (.tmp 5), 3, none⟩),
 (true, ⟨some 14, .move (.tmp 3), 22, none⟩),
 (true, ⟨some 15, .call ⟨.builtin .len, #[(.tmp 14)], #[22]⟩, 3, none⟩),
 (true, ⟨some 16, .binOp .lss 3 (.tmp 13) (.tmp 15) 3, 4, none⟩),
 (true, ⟨some 17, .move (.tmp 16), 4, none⟩),
 (true, ⟨some 18, .move (.tmp 3), 22, (some (17, true))⟩),
 (true, ⟨some 19, .move (.tmp 5), 3, (some (17, true))⟩),
 (true, ⟨some 20, .indexAddr 22 (.tmp 18) (.tmp 19), 0, (some (17, true))⟩),
 (true, ⟨some 21, .fieldAddr 58 (.tmp 20) 9, 0, (some (17, true))⟩),
 (false, ⟨some 22, .load 3 (.tmp 21), 3, (some (17, true))⟩),
 (true, ⟨some 23, .move (.tmp 0), 22, (some (17, true))⟩),
 (true, ⟨some 24, .move (.tmp 4), 3, (some (17, true))⟩),
 (true, ⟨some 25, .indexAddr 22 (.tmp 23) (.tmp 24), 0, (some (17, true))⟩),
 (true, ⟨some 26, .fieldAddr 58 (.tmp 25) 9, 0, (some (17, true))⟩),
 (false, ⟨some 27, .load 3 (.tmp 26), 3, (some (17, true))⟩),
 (true, ⟨some 28, .binOp .lss 3 (.tmp 22) (.tmp 27) 3, 4, (some (17, true))⟩),
 (true, ⟨some 29, .move (.tmp 28), 4, (some (17, true))⟩),
 (true, ⟨some 30, .move (.tmp 3), 22, (some (29, false))⟩),
 (true, ⟨some 31, .move (.tmp 5), 3, (some (29, false))⟩),
 (true, ⟨some 32, .indexAddr 22 (.tmp 30) (.tmp 31), 0, (some (29, false))⟩),
 (true, ⟨some 33, .fieldAddr 58 (.tmp 32) 9, 0, (some (29, false))⟩),
 (false, ⟨some 34, .load 3 (.tmp 33), 3, (some (29, false))⟩),
 (true, ⟨some 35, .move (.tmp 0), 22, (some (29, false))⟩),
 (true, ⟨some 36, .move (.tmp 4), 3, (some (29, false))⟩),
 (true, ⟨some 37, .indexAddr 22 (.tmp 35) (.tmp 36), 0, (some (29, false))⟩),
 (true, ⟨some 38, .fieldAddr 58 (.tmp 37) 9, 0, (some (29, false))⟩),
 (false, ⟨some 39, .load 3 (.tmp 38), 3, (some (29, false))⟩),
 (true, ⟨some 40, .binOp .eql 3 (.tmp 34) (.tmp 39) 3, 4, (some (29, false))⟩),
 (true, ⟨some 41, .move (.tmp 40), 4, (some (29, false))⟩),
 (true, ⟨some 42, .move (.tmp 3), 22, (some (41, true))⟩),
 (true, ⟨some 43, .move (.tmp 5), 3, (some (41, true))⟩),
 (true, ⟨some 44, .indexAddr 22 (.tmp 42) (.tmp 43), 0, (some (41, true))⟩),
 (true, ⟨some 45, .fieldAddr 58 (.tmp 44) 0, 0, (some (41, true))⟩),
 (false, ⟨some 46, .load 3 (.tmp 45), 3, (some (41, true))⟩),
 (true, ⟨some 47, .move (.tmp 0), 22, (some (41, true))⟩),
 (true, ⟨some 48, .move (.tmp 4), 3, (some (41, true))⟩),
 (true, ⟨some 49, .indexAddr 22 (.tmp 47) (.tmp 48), 0, (some (41, true))⟩),
 (true, ⟨some 50, .fieldAddr 58 (.tmp 49) 0, 0, (some (41, true))⟩),
 (false, ⟨some 51, .load 3 (.tmp 50), 3, (some (41, true))⟩),
 (true, ⟨some 52, .binOp .leq 3 (.tmp 46) (.tmp 51) 3, 4, (some (41, true))⟩),
 (true, ⟨some 53, .pick (.tmp 41) (.tmp 52) (.const (.bool false)), 4, (some (29, false))⟩),
 (true, ⟨some 54, .pick (.tmp 29) (.const (.bool true)) (.tmp 53), 4, (some (17, true))⟩),
 (true, ⟨some 55, .pick (.tmp 17) (.tmp 54) (.const (.bool false)), 4, none⟩)]
theorem c52draw0 {L : List Nat} {ρ : Env} {w : World} {Q : Post} (h : DL Try.prog c52D0 L ρ w.drew Q) : drawW Try.prog (drawOps 0 c52code) L ρ w Q :=
  drawW_still [true, true, true, true, true, true, true, true, true, false, true, true, true, true, false, true, true, true, true, true, true, false, true, true, true, true, false, true, true, true, true, true, true, false, true, true, true, true, false, true, true, true, true] c52D0 (by kernel_rfl) (by kernel_rfl) (by kernel_rfl) h
set_option maxRecDepth 100000 in
theorem ent52 (a0 : Value) (w : World) (K : Value → World → Prop) (h : W Try.prog c52 [(0, a0)] w (finQ Try.prog [.tmp 2] K)) : Ret Try.prog 52 [a0] w K :=
  Ret_of_W (code := c52code) Try.func52 (by kernel_rfl) (by kernel_rfl) (of_decide_eq_true (by kernel_rfl)) h
@[go_sem] theorem go52 : goFunc Try.prog 52 = true := by kernel_rfl
noncomputable def c53code : Code := match Try.f53.body with | some c => c | none => .skip
noncomputable def c53 : Cmd := (.seq (.ops [
 ⟨some 2, .box 58 (.tmp 0), 0, none⟩,
 ⟨some 3, .box 58 (.tmp 1), 0, none⟩,
 ⟨some 4, .assign (.const (.bool false)), 4, none⟩] [2, 3])
 (.seq (.ops [
 ⟨some 5, .fieldAddr 58 (.tmp 2) 7, 0, none⟩,
 ⟨some 6, .load 4 (.tmp 5), 4, none⟩,
 ⟨some 7, .move (.tmp 6), 4, none⟩,
 ⟨some 8, .fieldAddr 58 (.tmp 2) 10, 0, (some (7, true))⟩,
 ⟨some 9, .load 3 (.tmp 8), 3, (some (7, true))⟩,
 ⟨some 10, .fieldAddr 58 (.tmp 3) 9, 0, (some (7, true))⟩,
 ⟨some 11, .load 3 (.tmp 10), 3, (some (7, true))⟩,
 ⟨some 12, .binOp .lss 3 (.tmp 9) (.tmp 11) 3, 4, (some (7, true))⟩,
 ⟨some 13, .pick (.tmp 7) (.tmp 12) (.const (.bool false)), 4, none⟩,
 ⟨some 4, .assign (.tmp 13), 4, none⟩] [4])
 .ret))
set_option maxRecDepth 100000 in
theorem ent53 (a0 a1 : Value) (w : World) (K : Value → World → Prop) (h : W Try.prog c53 [(0, a0), (1, a1)] w (finQ Try.prog [.tmp 4] K)) : Ret Try.prog 53 [a0, a1] w K :=
  Ret_of_W (code := c53code) Try.func53 (by kernel_rfl) (by kernel_rfl) (of_decide_eq_true (by kernel_rfl)) h
@[go_sem] theorem go53 : goFunc Try.prog 53 = true := by kernel_rfl
noncomputable def c65code : Code := match Try.f65.body with | some c => c | none => .skip
noncomputable def c65 : Cmd := (.seq (.ops [
 ⟨some 2, .box 58 (.tmp 0), 0, none⟩,
 ⟨some 3, .box 58 (.tmp 1), 0, none⟩,
 ⟨some 4, .assign (.const (.bool false)), 4, none⟩] [2, 3])
 (.seq (.ops [
 ⟨some 5, .fieldAddr 58 (.tmp 2) 7, 0, none⟩,
 ⟨some 6, .load 4 (.tmp 5), 4, none⟩,
 ⟨some 7, .move (.tmp 6), 4, none⟩,
 ⟨some 8, .fieldAddr 58 (.tmp 2) 10, 0, (some (7, true))⟩,
 ⟨some 9, .load 3 (.tmp 8), 3, (some (7, true))⟩,
 ⟨some 10, .fieldAddr 58 (.tmp 3) 9, 0, (some (7, true))⟩,
 ⟨some 11, .load 3 (.tmp 10), 3, (some (7, true))⟩,
 ⟨some 12, .binOp .lss 3 (.tmp 9) (.tmp 11) 3, 4, (some (7, true))⟩,
 ⟨some 13, .pick (.tmp 7) (.tmp 12) (.const (.bool false)), 4, none⟩,
 ⟨some 4, .assign (.tmp 13), 4, none⟩] [4])
 .ret))
set_option maxRecDepth 100000 in
theorem ent65 (a0 a1 : Value) (w : World) (K : Value → World → Prop) (h : W Try.prog c65 [(0, a0), (1, a1)] w (finQ Try.prog [.tmp 4] K)) : Ret Try.prog 65 [a0, a1] w K :=
  Ret_of_W (code := c65code) Try.func65 (by kernel_rfl) (by kernel_rfl) (of_decide_eq_true (by kernel_rfl)) h
@[go_sem] theorem go65 : goFunc Try.prog 65 = true := by kernel_rfl
noncomputable def c66code : Code := match Try.f66.body with | some c => c | none => .skip
noncomputable def c66S0 (_ : Unit) : Cmd := .ret
noncomputable def c66S1 (_ : Unit) : Cmd := (.seq (.ops [
  ⟨some 18, .move (.tmp 7), 36, none⟩,
  ⟨some 19, .load 58 (.tmp 3), 58, none⟩,
  ⟨some 20, .call ⟨.value (.func 92), #[(.tmp 18), (.tmp 19)], #[36, 58]⟩, 106, none⟩,
  ⟨some 21, .extract (.tmp 20) 0, 36, none⟩,
  ⟨some 22, .extract (.tmp 20) 1, 3, none⟩,
  ⟨some 23, .extract (.tmp 20) 2, 4, none⟩,
  ⟨some 4, .assign (.tmp 21), 36, none⟩,
  ⟨some 5, .assign (.tmp 22), 3, none⟩,
  ⟨some 6, .assign (.tmp 23), 4, none⟩] [4, 5, 6]) (sg c66S0))
noncomputable def c66S2 (_ : Unit) : Cmd := .ret
noncomputable def c66S3 (_ : Unit) : Cmd := .ret
noncomputable def c66S4 (_ : Unit) : Cmd := (.cond (.tmp 55)
       (.seq (.ops [
       ⟨some 4, .assign (.const (.slice none 0 0)), 36, none⟩,
       ⟨some 5, .assign (.const (.int .i64 0)), 3, none⟩,
       ⟨some 6, .assign (.const (.bool true)), 4, none⟩] [4, 5, 6])
       .ret)
       (.skip []))
noncomputable def c66S5 (_ : Unit) : Cmd := (.cond (.tmp 24)
   (.seq (.ops [
   ⟨some 27, .move (.tmp 7), 36, none⟩,
   ⟨some 28, .load 58 (.tmp 3), 58, none⟩,
   ⟨some 29, .call ⟨.value (.func 93), #[(.tmp 27), (.tmp 28)], #[36, 58]⟩, 106, none⟩,
   ⟨some 30, .extract (.tmp 29) 0, 36, none⟩,
   ⟨some 31, .extract (.tmp 29) 1, 3, none⟩,
   ⟨some 32, .extract (.tmp 29) 2, 4, none⟩,
   ⟨some 4, .assign (.tmp 30), 36, none⟩,
   ⟨some 5, .assign (.tmp 31), 3, none⟩,
   ⟨some 6, .assign (.tmp 32), 4, none⟩] [4, 5, 6]) (sg c66S2))
   (.seq (.ops [
   ⟨some 34, .binOp .eql 3 (.tmp 11) (.const (.int .i64 5)) 3, 4, none⟩,
   ⟨some 33, .assign (.tmp 34), 4, none⟩] [3, 7, 11, 33])
   (.cond (.tmp 33)
    (.seq (.ops [
    ⟨some 35, .move (.tmp 7), 36, none⟩,
    ⟨some 36, .load 58 (.tmp 3), 58, none⟩,
    ⟨some 37, .call ⟨.value (.func 94), #[(.tmp 35), (.tmp 36)], #[36, 58]⟩, 106, none⟩,
    ⟨some 38, .extract (.tmp 37) 0, 36, none⟩,
    ⟨some 39, .extract (.tmp 37) 1, 3, none⟩,
    ⟨some 40, .extract (.tmp 37) 2, 4, none⟩,
    ⟨some 4, .assign (.tmp 38), 36, none⟩,
    ⟨some 5, .assign (.tmp 39), 3, none⟩,
    ⟨some 6, .assign (.tmp 40), 4, none⟩] [4, 5, 6]) (sg c66S3))
    (.seq (.ops [
    ⟨some 42, .binOp .eql 3 (.tmp 11) (.const (.int .i64 6)) 3, 4, none⟩,
    ⟨some 41, .assign (.tmp 42), 4, none⟩] [3, 7, 41])
    (.cond (.tmp 41)
     (.block 1 (.seq (.ops [
     ⟨some 44, .fieldAddr 58 (.tmp 3) 4, 0, none⟩,
     ⟨some 45, .load 3 (.tmp 44), 3, none⟩,
     ⟨some 46, .binOp .eql 3 (.tmp 45) (.const (.int .i64 13)) 3, 4, none⟩,
     ⟨some 47, .move (.tmp 46), 4, none⟩,
     ⟨some 48, .move (.tmp 7), 36, (some (47, true))⟩,
     ⟨some 49, .call ⟨.builtin .len, #[(.tmp 48)], #[36]⟩, 3, (some (47, true))⟩,
     ⟨some 50, .binOp .eql 3 (.tmp 49) (.const (.int .i64 0)) 3, 4, (some (47, true))⟩,
     ⟨some 51, .pick (.tmp 47) (.tmp 50) (.const (.bool false)), 4, none⟩,
     ⟨some 43, .assign (.tmp 51), 4, none⟩] [3, 7, 43])
     (.cond (.tmp 43)
      (.seq (.ops [
      ⟨some 52, .fieldAddr 58 (.tmp 3) 1, 0, none⟩,
      ⟨some 53, .load 3 (.tmp 52), 3, none⟩,
      ⟨some 54, .buildSlice 36 1 #[(0, (.tmp 53))], 36, none⟩,
      ⟨some 4, .assign (.tmp 54), 36, none⟩,
      ⟨some 5, .assign (.const (.int .i64 0)), 3, none⟩,
      ⟨some 6, .assign (.const (.bool true)), 4, none⟩] [4, 5, 6])
      .ret)
      (.seq (.draw (drawOps 0 c66code) [55]) (sg c66S4)))))
     (.skip []))))))
noncomputable def c66S6 (_ : Unit) : Cmd := (.cond (.tmp 12)
  (.seq (.seq (.ops [
  ⟨some 15, .move (.tmp 7), 36, none⟩,
  ⟨some 16, .call ⟨.builtin .len, #[(.tmp 15)], #[36]⟩, 3, none⟩,
  ⟨some 17, .binOp .neq 3 (.tmp 16) (.const (.int .i64 1)) 3, 4, none⟩] [3, 7, 17])
  (.cond (.tmp 17)
   (.seq (.ops [
   ⟨some 4, .assign (.const (.slice none 0 0)), 36, none⟩,
   ⟨some 5, .assign (.const (.int .i64 0)), 3, none⟩,
   ⟨some 6, .assign (.const (.bool false)), 4, none⟩] [4, 5, 6])
   .ret)
   (.skip [3, 7]))) (sg c66S1))
  (.seq (.seq (.ops [
  ⟨some 25, .binOp .eql 3 (.tmp 11) (.const (.int .i64 3)) 3, 4, none⟩,
  ⟨some 24, .assign (.tmp 25), 4, none⟩] [3, 7, 11, 24])
  (.cond (.tmp 24)
   (.skip [3, 7, 11, 24])
   (.ops [
   ⟨some 26, .binOp .eql 3 (.tmp 11) (.const (.int .i64 4)) 3, 4, none⟩,
   ⟨some 24, .assign (.tmp 26), 4, none⟩] [3, 7, 11, 24]))) (sg c66S5)))
noncomputable def c66S7 (_ : Unit) : Cmd := (.seq (.ops [
 ⟨some 4, .assign (.const (.slice none 0 0)), 36, none⟩,
 ⟨some 5, .assign (.const (.int .i64 0)), 3, none⟩,
 ⟨some 6, .assign (.const (.bool false)), 4, none⟩] [4, 5, 6])
 .ret)
noncomputable def c66S8 (_ : Unit) : Cmd := (.seq (.seq (.ops [
 ⟨some 10, .fieldAddr 58 (.tmp 3) 3, 0, none⟩,
 ⟨some 11, .load 3 (.tmp 10), 3, none⟩] [3, 7, 11])
 (.block 0 (.seq (.seq (.ops [
 ⟨some 13, .binOp .eql 3 (.tmp 11) (.const (.int .i64 1)) 3, 4, none⟩,
 ⟨some 12, .assign (.tmp 13), 4, none⟩] [3, 7, 11, 12])
 (.cond (.tmp 12)
  (.skip [3, 7, 11, 12])
  (.ops [
  ⟨some 14, .binOp .eql 3 (.tmp 11) (.const (.int .i64 2)) 3, 4, none⟩,
  ⟨some 12, .assign (.tmp 14), 4, none⟩] [3, 7, 11, 12]))) (sg c66S6)))) (sg c66S7))
noncomputable def c66 : Cmd := (.seq (.ops [
 ⟨some 3, .box 58 (.tmp 1), 0, none⟩,
 ⟨some 4, .assign (.const (.slice none 0 0)), 36, none⟩,
 ⟨some 5, .assign (.const (.int .i64 0)), 3, none⟩,
 ⟨some 6, .assign (.const (.bool false)), 4, none⟩] [0, 3])
 (.seq (.ops [
 ⟨some 8, .move (.tmp 0), 36, none⟩,
 ⟨some 9, .call ⟨.value (.func 39), #[(.tmp 8)], #[36]⟩, 36, none⟩,
 ⟨some 7, .assign (.tmp 9), 36, none⟩] [3, 7]) (sg c66S8)))
noncomputable def c66D0 : List (Bool × Ins) := [
 (true, ⟨some 56, .fieldAddr 58 (.tmp 3) 4, 0, none⟩),
 (false, ⟨some 57, .load 3 (.tmp 56), 3, none⟩),
 (true, ⟨some 58, .binOp .eql 3 (.tmp 57) (.const (.int .i64 14)) 3, 4, none⟩),
 (true, ⟨some 59, .move (.tmp 58), 4, none⟩),
 (true, ⟨some 60, .move (.tmp 7), 36, (some (59, true))⟩),
 (true, ⟨some 61, .call ⟨.builtin .len, #[(.tmp 60)], #[36]⟩, 3, (some (59, true))⟩),
 (true, ⟨some 62, .binOp .eql 3 (.tmp 61) (.const (.int .i64 1)) 3, 4, (some (59, true))⟩),
 (true, ⟨some 63, .pick (.tmp 59) (.tmp 62) (.const (.bool false)), 4, none⟩),
 (true, ⟨some 64, .move (.tmp 63), 4, none⟩),
 (true, ⟨some 65, .move (.tmp 7), 36, (some (64, true))⟩),
 (true, ⟨some 66, .indexAddr 36 (.tmp 65) (.const (.int .i64 0)), 0, (some (64, true))⟩),
 (false, ⟨some 67, .load 3 (.tmp 66), 3, (some (64, true))⟩),
 (true, ⟨some 68, .fieldAddr 58 (.tmp 3) 1, 0, (some (64, true))⟩),
 (false, ⟨some 69, .load 3 (.tmp 68), 3, (some (64, true))⟩),
 (true, ⟨some 70, .binOp .eql 3 (.tmp 67) (.tmp 69) 3, 4, (some (64, true))⟩),
 (true, ⟨some 71, .pick (.tmp 64) (.tmp 70) (.const (.bool false)), 4, none⟩),
 (true, ⟨some 55, .assign (.tmp 71), 4, none⟩)]
theorem c66draw0 {L : List Nat} {ρ : Env} {w : World} {Q : Post} (h : DL Try.prog c66D0 L ρ w.drew Q) : drawW Try.prog (drawOps 0 c66code) L ρ w Q :=
  drawW_still [true, false, true, true, true, true, true, true, true, true, true, false, true, false, true, true, true] c66D0 (by kernel_rfl) (by kernel_rfl) (by kernel_rfl) h
set_option maxRecDepth 100000 in
theorem ent66 (a0 a1 : Value) (w : World) (K : Value → World → Prop) (h : W Try.prog c66 [(0, a0), (1, a1)] w (finQ Try.prog [.tmp 4, .tmp 5, .tmp 6] K)) : Ret Try.prog 66 [a0, a1] w K :=
  Ret_of_W (code := c66code) Try.func66 (by kernel_rfl) (by kernel_rfl) (of_decide_eq_true (by kernel_rfl)) h
@[go_sem] theorem go66 : goFunc Try.prog 66 = true := by kernel_rfl
@[go_sem] theorem go67 : goFunc Try.prog 67 = true := by kernel_rfl
noncomputable def c68code : Code := match Try.f68.body with | some c => c | none => .skip
noncomputable def c68S0 (_ : Unit) : Cmd := (.ops [
 ⟨some 10, .move (.tmp 4), 3, none⟩,
 ⟨some 11, .binOp .add 3 (.tmp 10) (.const (.int .i64 1)) 3, 3, none⟩,
 ⟨some 4, .assign (.tmp 11), 3, none⟩] [1, 3, 4])
noncomputable def c68S1 (_ : Unit) : Cmd := (.seq (.block 1 (.seq (.ops [
 ⟨some 12, .fieldAddr 83 (.tmp 1) 0, 0, none⟩,
 ⟨some 13, .load 41 (.tmp 12), 41, none⟩,
 ⟨some 14, .move (.tmp 4), 3, none⟩,
 ⟨some 15, .indexAddr 41 (.tmp 13) (.tmp 14), 0, none⟩,
 ⟨some 16, .load 4 (.tmp 15), 4, none⟩] [1, 3, 4, 16])
 (.cond (.tmp 16)
  (.ops [
  ⟨some 17, .move (.tmp 3), 9, none⟩,
  ⟨some 18, .binOp .add 9 (.tmp 17) (.const (.string (ofL [49]))) 9, 9, none⟩,
  ⟨some 3, .assign (.tmp 18), 9, none⟩] [1, 3, 4])
  (.ops [
  ⟨some 19, .move (.tmp 3), 9, none⟩,
  ⟨some 20, .binOp .add 9 (.tmp 19) (.const (.string (ofL [48]))) 9, 9, none⟩,
  ⟨some 3, .assign (.tmp 20), 9, none⟩] [1, 3, 4])))) (sg c68S0))
noncomputable def c68L0 (_ : Unit) : Cmd := (.seq (.seq (.ops [
 ⟨some 5, .move (.tmp 4), 3, none⟩,
 ⟨some 6, .fieldAddr 83 (.tmp 1) 0, 0, none⟩,
 ⟨some 7, .load 41 (.tmp 6), 41, none⟩,
 ⟨some 8, .call ⟨.builtin .len, #[(.tmp 7)], #[41]⟩, 3, none⟩,
 ⟨some 9, .binOp .lss 3 (.tmp 5) (.tmp 8) 3, 4, none⟩] [1, 3, 4, 9])
 (.cond (.tmp 9)
  (.skip [1, 3, 4])
  (.exit 0 [1, 3]))) (sg c68S1))
noncomputable def c68S2 (_ : Unit) : Cmd := .ret
noncomputable def c68S3 (_ : Unit) : Cmd := (.seq (.ops [
 ⟨some 21, .move (.tmp 3), 9, none⟩,
 ⟨some 22, .fieldAddr 83 (.tmp 1) 1, 0, none⟩,
 ⟨some 23, .load 36 (.tmp 22), 36, none⟩,
 ⟨some 24, .call ⟨.value (.func 47), #[(.tmp 23)], #[36]⟩, 9, none⟩,
 ⟨some 25, .binOp .add 9 (.tmp 21) (.tmp 24) 9, 9, none⟩,
 ⟨some 2, .assign (.tmp 25), 9, none⟩] [2]) (sg c68S2))
noncomputable def c68 : Cmd := (.seq (.ops [
 ⟨some 1, .box 83 (.tmp 0), 0, none⟩,
 ⟨some 2, .assign (.const (.string (ofL []))), 9, none⟩] [1])
 (.seq (.ops [
 ⟨some 3, .assign (.const (.string (ofL []))), 9, none⟩] [1, 3])
 (.seq (.seq (.ops [
 ⟨some 4, .assign (.const (.int .i64 0)), 3, none⟩] [1, 3, 4])
 (.block 0 (.loop (sg c68L0)))) (sg c68S3))))
set_option maxRecDepth 100000 in
theorem ent68 (a0 : Value) (w : World) (K : Value → World → Prop) (h : W Try.prog c68 [(0, a0)] w (finQ Try.prog [.tmp 2] K)) : Ret Try.prog 68 [a0] w K :=
  Ret_of_W (code := c68code) Try.func68 (by kernel_rfl) (by kernel_rfl) (of_decide_eq_true (by kernel_rfl)) h
@[go_sem] theorem go68 : goFunc Try.prog 68 = true := by kernel_rfl
noncomputable def c72code : Code := match Try.f72.body with | some c => c | none => .skip
noncomputable def c72S0 (_ : Unit) : Cmd := (.ops [
 ⟨some 12, .move (.tmp 0), 114, none⟩,
 ⟨some 13, .binOp .shr 114 (.tmp 12) (.const (.int .u64 7)) 76, 114, none⟩,
 ⟨some 0, .assign (.tmp 13), 114, none⟩] [0, 3])
noncomputable def c72S1 (_ : Unit) : Cmd := (.block 1 (.seq (.ops [
 ⟨some 6, .move (.tmp 3), 146, none⟩,
 ⟨some 7, .move (.tmp 0), 114, none⟩,
 ⟨some 8, .convert 114 5 (.tmp 7), 5, none⟩,
 ⟨some 9, .binOp .or 5 (.tmp 8) (.const (.int .u8 128)) 5, 5, none⟩,
 ⟨some 10, .buildSlice 146 1 #[(0, (.tmp 9))], 146, none⟩,
 ⟨some 11, .call ⟨.builtin .append, #[(.tmp 6), (.tmp 10)], #[146, 146]⟩, 146, none⟩,
 ⟨some 3, .assign (.tmp 11), 146, none⟩] [0, 3]) (sg c72S0)))
noncomputable def c72L0 (_ : Unit) : Cmd := (.seq (.seq (.ops [
 ⟨some 4, .move (.tmp 0), 114, none⟩,
 ⟨some 5, .binOp .geq 114 (.tmp 4) (.const (.int .u64 128)) 114, 4, none⟩] [0, 3, 5])
 (.cond (.tmp 5)
  (.skip [0, 3])
  (.exit 0 [0, 3]))) (sg c72S1))
noncomputable def c72S2 (_ : Unit) : Cmd := .ret
noncomputable def c72S3 (_ : Unit) : Cmd := (.seq (.ops [
 ⟨some 14, .move (.tmp 3), 146, none⟩,
 ⟨some 15, .move (.tmp 0), 114, none⟩,
 ⟨some 16, .convert 114 5 (.tmp 15), 5, none⟩,
 ⟨some 17, .buildSlice 146 1 #[(0, (.tmp 16))], 146, none⟩,
 ⟨some 18, .call ⟨.builtin .append, #[(.tmp 14), (.tmp 17)], #[146, 146]⟩, 146, none⟩,
 ⟨some 19, .convert 146 9 (.tmp 18), 9, none⟩,
 ⟨some 2, .assign (.tmp 19), 9, none⟩] [2]) (sg c72S2))
noncomputable def c72 : Cmd := (.seq (.ops [
 ⟨some 2, .assign (.const (.string (ofL []))), 9, none⟩] [0])
 (.seq (.ops [
 ⟨some 3, .assign (.const (.slice none 0 0)), 146, none⟩] [0, 3])
 (.seq (.block 0 (.loop (sg c72L0))) (sg c72S3))))
set_option maxRecDepth 100000 in
theorem ent72 (a0 : Value) (w : World) (K : Value → World → Prop) (h : W Try.prog c72 [(0, a0)] w (finQ Try.prog [.tmp 2] K)) : Ret Try.prog 72 [a0] w K :=
  Ret_of_W (code := c72code) Try.func72 (by kernel_rfl) (by kernel_rfl) (of_decide_eq_true (by kernel_rfl)) h
@[go_sem] theorem go72 : goFunc Try.prog 72 = true := by kernel_rfl
noncomputable def c73code : Code := match Try.f73.body with | some c => c | none => .skip
noncomputable def c73 : Cmd := (.seq (.ops [
 ⟨some 2, .assign (.const (.int .u64 0)), 114, none⟩] [0])
 (.seq (.ops [
 ⟨some 3, .move (.tmp 0), 3, none⟩,
 ⟨some 4, .convert 3 114 (.tmp 3), 114, none⟩,
 ⟨some 5, .binOp .shl 114 (.tmp 4) (.const (.int .u64 1)) 76, 114, none⟩,
 ⟨some 6, .move (.tmp 0), 3, none⟩,
 ⟨some 7, .binOp .shr 3 (.tmp 6) (.const (.int .u64 63)) 76, 3, none⟩,
 ⟨some 8, .convert 3 114 (.tmp 7), 114, none⟩,
 ⟨some 9, .binOp .xor 114 (.tmp 5) (.tmp 8) 114, 114, none⟩,
 ⟨some 2, .assign (.tmp 9), 114, none⟩] [2])
 .ret))
set_option maxRecDepth 100000 in
theorem ent73 (a0 : Value) (w : World) (K : Value → World → Prop) (h : W Try.prog c73 [(0, a0)] w (finQ Try.prog [.tmp 2] K)) : Ret Try.prog 73 [a0] w K :=
  Ret_of_W (code := c73code) Try.func73 (by kernel_rfl) (by kernel_rfl) (of_decide_eq_true (by kernel_rfl)) h
@[go_sem] theorem go73 : goFunc Try.prog 73 = true := by kernel_rfl
noncomputable def c74code : Code := match Try.f74.body with | some c => c | none => .skip
noncomputable def c74S0 (_ : Unit) : Cmd := .ret
noncomputable def c74S1 (_ : Unit) : Cmd := (.seq (.draw (drawOps 0 c74code) [2]) (sg c74S0))
noncomputable def c74 : Cmd := (.seq (.ops [
 ⟨some 2, .assign (.const (.string (ofL []))), 9, none⟩] [0])
 (.seq (.seq (.ops [
 ⟨some 3, .move (.tmp 0), 114, none⟩,
 ⟨some 4, .binOp .lss 114 (.tmp 3) (.const (.int .u64 128)) 114, 4, none⟩] [0, 4])
 (.cond (.tmp 4)
  (.seq (.ops [
  ⟨some 5, .move (.tmp 0), 114, none⟩,
  ⟨some 6, .convert 114 5 (.tmp 5), 5, none⟩,
  ⟨some 7, .buildSlice 146 1 #[(0, (.tmp 6))], 146, none⟩,
  ⟨some 8, .convert 146 9 (.tmp 7), 9, none⟩,
  ⟨some 2, .assign (.tmp 8), 9, none⟩] [2])
  .ret)
  (.skip [0]))) (sg c74S1)))
noncomputable def c74D0 : GT := (.one 0 ⟨some 9, .move (.tmp 0), 114, none⟩
 (.one 0 ⟨some 10, .binOp .rem 114 (.tmp 9) (.const (.int .u64 128)) 114, 114, none⟩
 (.one 0 ⟨some 11, .binOp .add 114 (.tmp 10) (.const (.int .u64 128)) 114, 114, none⟩
 (.one 0 ⟨some 12, .convert 114 5 (.tmp 11), 5, none⟩
 (.one 0 ⟨some 15, .move (.tmp 0), 114, none⟩
 (.one 0 ⟨some 16, .binOp .quo 114 (.tmp 15) (.const (.int .u64 128)) 114, 114, none⟩
 (.alt ⟨some 13, .buildSlice 146 1 #[(0, (.tmp 12))], 146, none⟩
 (.alt ⟨some 14, .convert 146 9 (.tmp 13), 9, none⟩
 (.one 2 ⟨some 17, .call ⟨.value (.func 74), #[(.tmp 16)], #[114]⟩, 9, none⟩
 (.one 0 ⟨some 18, .binOp .add 9 (.tmp 14) (.tmp 17) 9, 9, none⟩
 (.one 0 ⟨some 2, .assign (.tmp 18), 9, none⟩
 .nil)))
 (.alt ⟨some 17, .call ⟨.value (.func 74), #[(.tmp 16)], #[114]⟩, 9, none⟩
 (.one 2 ⟨some 14, .convert 146 9 (.tmp 13), 9, none⟩
 (.one 0 ⟨some 18, .binOp .add 9 (.tmp 14) (.tmp 17) 9, 9, none⟩
 (.one 0 ⟨some 2, .assign (.tmp 18), 9, none⟩
 .nil)))
 .stop))
 (.alt ⟨some 17, .call ⟨.value (.func 74), #[(.tmp 16)], #[114]⟩, 9, none⟩
 (.one 2 ⟨some 13, .buildSlice 146 1 #[(0, (.tmp 12))], 146, none⟩
 (.one 2 ⟨some 14, .convert 146 9 (.tmp 13), 9, none⟩
 (.one 0 ⟨some 18, .binOp .add 9 (.tmp 14) (.tmp 17) 9, 9, none⟩
 (.one 0 ⟨some 2, .assign (.tmp 18), 9, none⟩
 .nil))))
 .stop))))))))
theorem c74draw0 {L : List Nat} {ρ : Env} {w : World} {Q : Post} (S : World → Prop) (hS : S w.drew) (h : DT Try.prog S c74D0 L ρ w.drew Q) : drawW Try.prog (drawOps 0 c74code) L ρ w Q :=
  drawW_tree [] (.one 0 0 (.one 0 1 (.one 0 2 (.one 0 3 (.one 0 6 (.one 0 7 (.alt 4 (.alt 5 (.one 2 8 (.one 0 9 (.one 0 10 .nil))) (.alt 8 (.one 2 5 (.one 0 9 (.one 0 10 .nil))) .stop)) (.alt 8 (.one 2 4 (.one 2 5 (.one 0 9 (.one 0 10 .nil)))) .stop)))))))) c74D0 (by kernel_rfl) (by kernel_rfl) (by kernel_rfl) S hS h
set_option maxRecDepth 100000 in
theorem ent74 (a0 : Value) (w : World) (K : Value → World → Prop) (h : W Try.prog c74 [(0, a0)] w (finQ Try.prog [.tmp 2] K)) : Ret Try.prog 74 [a0] w K :=
  Ret_of_W (code := c74code) Try.func74 (by kernel_rfl) (by kernel_rfl) (of_decide_eq_true (by kernel_rfl)) h
@[go_sem] theorem go74 : goFunc Try.prog 74 = true := by kernel_rfl
noncomputable def c75code : Code := match Try.f75.body with | some c => c | none => .skip
noncomputable def c75S0 (_ : Unit) : Cmd := (.seq (.ops [
 ⟨some 8, .move (.tmp 0), 3, none⟩,
 ⟨some 9, .binOp .sub 3 (.const (.int .i64 (-1))) (.tmp 8) 3, 3, none⟩,
 ⟨some 10, .convert 3 114 (.tmp 9), 114, none⟩,
 ⟨some 11, .binOp .mul 114 (.const (.int .u64 2)) (.tmp 10) 114, 114, none⟩,
 ⟨some 12, .binOp .add 114 (.tmp 11) (.const (.int .u64 1)) 114, 114, none⟩,
 ⟨some 2, .assign (.tmp 12), 114, none⟩] [2])
 .ret)
noncomputable def c75 : Cmd := (.seq (.ops [
 ⟨some 2, .assign (.const (.int .u64 0)), 114, none⟩] [0])
 (.seq (.seq (.ops [
 ⟨some 3, .move (.tmp 0), 3, none⟩,
 ⟨some 4, .binOp .geq 3 (.tmp 3) (.const (.int .i64 0)) 3, 4, none⟩] [0, 4])
 (.cond (.tmp 4)
  (.seq (.ops [
  ⟨some 5, .move (.tmp 0), 3, none⟩,
  ⟨some 6, .convert 3 114 (.tmp 5), 114, none⟩,
  ⟨some 7, .binOp .mul 114 (.const (.int .u64 2)) (.tmp 6) 114, 114, none⟩,
  ⟨some 2, .assign (.tmp 7), 114, none⟩] [2])
  .ret)
  (.skip [0]))) (sg c75S0)))
set_option maxRecDepth 100000 in
theorem ent75 (a0 : Value) (w : World) (K : Value → World → Prop) (h : W Try.prog c75 [(0, a0)] w (finQ Try.prog [.tmp 2] K)) : Ret Try.prog 75 [a0] w K :=
  Ret_of_W (code := c75code) Try.func75 (by kernel_rfl) (by kernel_rfl) (of_decide_eq_true (by kernel_rfl)) h
@[go_sem] theorem go75 : goFunc Try.prog 75 = true := by kernel_rfl
noncomputable def c76code : Code := match Try.f76.body with | some c => c | none => .skip
noncomputable def c76S0 (_ : Unit) : Cmd := .ret
noncomputable def c76S1 (_ : Unit) : Cmd := .ret
noncomputable def c76S2 (_ : Unit) : Cmd := .ret
noncomputable def c76S3 (_ : Unit) : Cmd := .ret
noncomputable def c76S4 (_ : Unit) : Cmd := (.cond (.tmp 126)
  (.seq (.ops [
  ⟨some 127, .build 117 #[(0, (.const (.slice none 0 0))), (1, (.const (.int .i64 0))), (2, (.const (.bool true)))], 117, none⟩,
  ⟨none, .store 117 (.tmp 4) (.tmp 127), 0, none⟩] [4])
  .ret)
  (.skip [0, 3, 4, 5, 6]))
noncomputable def c76S5 (_ : Unit) : Cmd := .ret
noncomputable def c76S6 (_ : Unit) : Cmd := .ret
noncomputable def c76S7 (_ : Unit) : Cmd := (.seq (.ops [
 ⟨some 179, .build 117 #[], 117, none⟩,
 ⟨none, .store 117 (.tmp 4) (.tmp 179), 0, none⟩] [4])
 .ret)
noncomputable def c76S8 (_ : Unit) : Cmd := (.seq (.seq (.ops [
 ⟨some 172, .move (.tmp 6), 3, none⟩,
 ⟨some 173, .binOp .eql 3 (.tmp 172) (.const (.int .i64 11)) 3, 4, none⟩] [0, 3, 4, 173])
 (.cond (.tmp 173)
  (.seq (.ops [
  ⟨some 174, .move (.tmp 0), 36, none⟩,
  ⟨some 175, .fieldAddr 58 (.tmp 3) 5, 0, none⟩,
  ⟨some 176, .load 3 (.tmp 175), 3, none⟩,
  ⟨some 177, .call ⟨.value (.func 107), #[(.tmp 174), (.tmp 176)], #[36, 3]⟩, 36, none⟩,
  ⟨some 178, .build 117 #[(0, (.tmp 177)), (1, (.const (.int .i64 1))), (2, (.const (.bool true)))], 117, none⟩,
  ⟨none, .store 117 (.tmp 4) (.tmp 178), 0, none⟩] [4]) (sg c76S6))
  (.skip [4]))) (sg c76S7))
noncomputable def c76S9 (_ : Unit) : Cmd := (.seq (.seq (.ops [
 ⟨some 165, .move (.tmp 6), 3, none⟩,
 ⟨some 166, .binOp .eql 3 (.tmp 165) (.const (.int .i64 10)) 3, 4, none⟩] [0, 3, 4, 6, 166])
 (.cond (.tmp 166)
  (.seq (.ops [
  ⟨some 167, .move (.tmp 0), 36, none⟩,
  ⟨some 168, .fieldAddr 58 (.tmp 3) 5, 0, none⟩,
  ⟨some 169, .load 3 (.tmp 168), 3, none⟩,
  ⟨some 170, .call ⟨.value (.func 108), #[(.tmp 167), (.tmp 169)], #[36, 3]⟩, 36, none⟩,
  ⟨some 171, .build 117 #[(0, (.tmp 170)), (1, (.const (.int .i64 1))), (2, (.const (.bool true)))], 117, none⟩,
  ⟨none, .store 117 (.tmp 4) (.tmp 171), 0, none⟩] [4]) (sg c76S5))
  (.skip [0, 3, 4, 6]))) (sg c76S8))
noncomputable def c76S10 (_ : Unit) : Cmd := (.seq (.seq (.ops [
 ⟨some 146, .move (.tmp 6), 3, none⟩,
 ⟨some 147, .binOp .eql 3 (.tmp 146) (.const (.int .i64 12)) 3, 4, none⟩,
 ⟨some 148, .move (.tmp 147), 4, none⟩,
 ⟨some 149, .move (.tmp 6), 3, (some (148, false))⟩,
 ⟨some 150, .binOp .eql 3 (.tmp 149) (.const (.int .i64 10)) 3, 4, (some (148, false))⟩,
 ⟨some 151, .move (.tmp 150), 4, (some (148, false))⟩,
 ⟨some 152, .move (.tmp 7), 4, (some (151, true))⟩,
 ⟨some 153, .pick (.tmp 151) (.tmp 152) (.const (.bool false)), 4, (some (148, false))⟩,
 ⟨some 154, .pick (.tmp 148) (.const (.bool true)) (.tmp 153), 4, none⟩,
 ⟨some 155, .move (.tmp 154), 4, none⟩,
 ⟨some 156, .move (.tmp 6), 3, (some (155, false))⟩,
 ⟨some 157, .binOp .eql 3 (.tmp 156) (.const (.int .i64 11)) 3, 4, (some (155, false))⟩,
 ⟨some 158, .move (.tmp 157), 4, (some (155, false))⟩,
 ⟨some 159, .move (.tmp 7), 4, (some (158, true))⟩,
 ⟨some 160, .unOp .not 4 (.tmp 159), 4, (some (158, true))⟩,
 ⟨some 161, .pick (.tmp 158) (.tmp 160) (.const (.bool false)), 4, (some (155, false))⟩,
 ⟨some 162, .pick (.tmp 155) (.const (.bool true)) (.tmp 161), 4, none⟩] [0, 3, 4, 6, 162])
 (.cond (.tmp 162)
  (.seq (.ops [
  ⟨some 163, .move (.tmp 0), 36, none⟩,
  ⟨some 164, .build 117 #[(0, (.tmp 163)), (1, (.const (.int .i64 0))), (2, (.const (.bool true)))], 117, none⟩,
  ⟨none, .store 117 (.tmp 4) (.tmp 164), 0, none⟩] [4])
  .ret)
  (.skip [0, 3, 4, 6]))) (sg c76S9))
noncomputable def c76S11 (_ : Unit) : Cmd := (.seq (.seq (.ops [
 ⟨some 139, .move (.tmp 6), 3, none⟩,
 ⟨some 140, .binOp .eql 3 (.tmp 139) (.const (.int .i64 12)) 3, 4, none⟩,
 ⟨some 141, .move (.tmp 140), 4, none⟩,
 ⟨some 142, .move (.tmp 7), 4, (some (141, true))⟩,
 ⟨some 143, .pick (.tmp 141) (.tmp 142) (.const (.bool false)), 4, none⟩] [0, 3, 4, 6, 7, 143])
 (.cond (.tmp 143)
  (.seq (.ops [
  ⟨some 144, .move (.tmp 0), 36, none⟩,
  ⟨some 145, .build 117 #[(0, (.tmp 144)), (1, (.const (.int .i64 1))), (2, (.const (.bool true)))], 117, none⟩,
  ⟨none, .store 117 (.tmp 4) (.tmp 145), 0, none⟩] [4])
  .ret)
  (.skip [0, 3, 4, 6, 7]))) (sg c76S10))
noncomputable def c76S12 (_ : Unit) : Cmd := (.seq (.ops [
 ⟨some 131, .move (.tmp 0), 36, none⟩,
 ⟨some 132, .fieldAddr 58 (.tmp 3) 5, 0, none⟩,
 ⟨some 133, .load 3 (.tmp 132), 3, none⟩,
 ⟨some 134, .call ⟨.value (.func 107), #[(.tmp 131), (.tmp 133)], #[36, 3]⟩, 36, none⟩,
 ⟨some 135, .call ⟨.builtin .len, #[(.tmp 134)], #[36]⟩, 3, none⟩,
 ⟨some 136, .move (.tmp 0), 36, none⟩,
 ⟨some 137, .call ⟨.builtin .len, #[(.tmp 136)], #[36]⟩, 3, none⟩,
 ⟨some 138, .binOp .lss 3 (.tmp 135) (.tmp 137) 3, 4, none⟩,
 ⟨some 7, .assign (.tmp 138), 4, none⟩] [0, 3, 4, 6, 7]) (sg c76S11))
noncomputable def c76S13 (_ : Unit) : Cmd := (.seq (.seq (.ops [
 ⟨some 128, .move (.tmp 5), 3, none⟩,
 ⟨some 129, .binOp .neq 3 (.tmp 128) (.const (.int .i64 5)) 3, 4, none⟩] [0, 3, 4, 6, 129])
 (.cond (.tmp 129)
  (.seq (.ops [
  ⟨some 130, .build 117 #[], 117, none⟩,
  ⟨none, .store 117 (.tmp 4) (.tmp 130), 0, none⟩] [4])
  .ret)
  (.skip [0, 3, 4, 6]))) (sg c76S12))
noncomputable def c76S14 (_ : Unit) : Cmd := (.seq (.seq (.draw (drawOps 4 c76code) [0, 3, 4, 5, 6, 126]) (sg c76S4)) (sg c76S13))
noncomputable def c76S15 (_ : Unit) : Cmd := (.seq (.seq (.ops [
 ⟨some 93, .move (.tmp 5), 3, none⟩,
 ⟨some 94, .binOp .eql 3 (.tmp 93) (.const (.int .i64 6)) 3, 4, none⟩,
 ⟨some 95, .move (.tmp 94), 4, none⟩,
 ⟨some 96, .move (.tmp 6), 3, (some (95, true))⟩,
 ⟨some 97, .binOp .eql 3 (.tmp 96) (.const (.int .i64 13)) 3, 4, (some (95, true))⟩,
 ⟨some 98, .pick (.tmp 95) (.tmp 97) (.const (.bool false)), 4, none⟩,
 ⟨some 99, .move (.tmp 98), 4, none⟩,
 ⟨some 100, .move (.tmp 0), 36, (some (99, true))⟩,
 ⟨some 101, .call ⟨.builtin .len, #[(.tmp 100)], #[36]⟩, 3, (some (99, true))⟩,
 ⟨some 102, .binOp .eql 3 (.tmp 101) (.const (.int .i64 0)) 3, 4, (some (99, true))⟩,
 ⟨some 103, .pick (.tmp 99) (.tmp 102) (.const (.bool false)), 4, none⟩] [0, 3, 4, 5, 6, 103])
 (.cond (.tmp 103)
  (.seq (.ops [
  ⟨some 104, .fieldAddr 58 (.tmp 3) 1, 0, none⟩,
  ⟨some 105, .load 3 (.tmp 104), 3, none⟩,
  ⟨some 106, .buildSlice 36 1 #[(0, (.tmp 105))], 36, none⟩,
  ⟨some 107, .build 117 #[(0, (.tmp 106)), (1, (.const (.int .i64 0))), (2, (.const (.bool true)))], 117, none⟩,
  ⟨none, .store 117 (.tmp 4) (.tmp 107), 0, none⟩] [4])
  .ret)
  (.skip [0, 3, 4, 5, 6]))) (sg c76S14))
noncomputable def c76S16 (_ : Unit) : Cmd := (.seq (.seq (.ops [
 ⟨some 75, .move (.tmp 5), 3, none⟩,
 ⟨some 76, .binOp .eql 3 (.tmp 75) (.const (.int .i64 4)) 3, 4, none⟩,
 ⟨some 77, .move (.tmp 76), 4, none⟩,
 ⟨some 78, .move (.tmp 6), 3, (some (77, true))⟩,
 ⟨some 79, .binOp .eql 3 (.tmp 78) (.const (.int .i64 9)) 3, 4, (some (77, true))⟩,
 ⟨some 80, .pick (.tmp 77) (.tmp 79) (.const (.bool false)), 4, none⟩] [0, 3, 4, 5, 6, 80])
 (.cond (.tmp 80)
  (.seq (.draw (drawOps 3 c76code) [4]) (sg c76S3))
  (.skip [0, 3, 4, 5, 6]))) (sg c76S15))
noncomputable def c76S17 (_ : Unit) : Cmd := (.seq (.seq (.ops [
 ⟨some 63, .move (.tmp 5), 3, none⟩,
 ⟨some 64, .binOp .eql 3 (.tmp 63) (.const (.int .i64 3)) 3, 4, none⟩,
 ⟨some 65, .move (.tmp 64), 4, none⟩,
 ⟨some 66, .move (.tmp 6), 3, (some (65, true))⟩,
 ⟨some 67, .binOp .eql 3 (.tmp 66) (.const (.int .i64 7)) 3, 4, (some (65, true))⟩,
 ⟨some 68, .pick (.tmp 65) (.tmp 67) (.const (.bool false)), 4, none⟩] [0, 3, 4, 5, 6, 68])
 (.cond (.tmp 68)
  (.seq (.draw (drawOps 2 c76code) [4]) (sg c76S2))
  (.skip [0, 3, 4, 5, 6]))) (sg c76S16))
noncomputable def c76S18 (_ : Unit) : Cmd := (.seq (.seq (.ops [
 ⟨some 43, .move (.tmp 5), 3, none⟩,
 ⟨some 44, .binOp .eql 3 (.tmp 43) (.const (.int .i64 3)) 3, 4, none⟩,
 ⟨some 45, .move (.tmp 44), 4, none⟩,
 ⟨some 46, .move (.tmp 6), 3, (some (45, true))⟩,
 ⟨some 47, .binOp .eql 3 (.tmp 46) (.const (.int .i64 7)) 3, 4, (some (45, true))⟩,
 ⟨some 48, .pick (.tmp 45) (.tmp 47) (.const (.bool false)), 4, none⟩,
 ⟨some 49, .move (.tmp 48), 4, none⟩,
 ⟨some 50, .move (.tmp 5), 3, (some (49, false))⟩,
 ⟨some 51, .binOp .eql 3 (.tmp 50) (.const (.int .i64 4)) 3, 4, (some (49, false))⟩,
 ⟨some 52, .move (.tmp 51), 4, (some (49, false))⟩,
 ⟨some 53, .move (.tmp 6), 3, (some (52, true))⟩,
 ⟨some 54, .binOp .eql 3 (.tmp 53) (.const (.int .i64 9)) 3, 4, (some (52, true))⟩,
 ⟨some 55, .pick (.tmp 52) (.tmp 54) (.const (.bool false)), 4, (some (49, false))⟩,
 ⟨some 56, .pick (.tmp 49) (.const (.bool true)) (.tmp 55), 4, none⟩,
 ⟨some 57, .move (.tmp 56), 4, none⟩,
 ⟨some 58, .move (.tmp 0), 36, (some (57, true))⟩,
 ⟨some 59, .call ⟨.builtin .len, #[(.tmp 58)], #[36]⟩, 3, (some (57, true))⟩,
 ⟨some 60, .binOp .eql 3 (.tmp 59) (.const (.int .i64 0)) 3, 4, (some (57, true))⟩,
 ⟨some 61, .pick (.tmp 57) (.tmp 60) (.const (.bool false)), 4, none⟩] [0, 3, 4, 5, 6, 61])
 (.cond (.tmp 61)
  (.seq (.ops [
  ⟨some 62, .build 117 #[(0, (.const (.slice none 0 0))), (1, (.const (.int .i64 (-1)))), (2, (.const (.bool true)))], 117, none⟩,
  ⟨none, .store 117 (.tmp 4) (.tmp 62), 0, none⟩] [4])
  .ret)
  (.skip [0, 3, 4, 5, 6]))) (sg c76S17))
noncomputable def c76S19 (_ : Unit) : Cmd := (.seq (.seq (.ops [
 ⟨some 21, .move (.tmp 5), 3, none⟩,
 ⟨some 22, .binOp .eql 3 (.tmp 21) (.const (.int .i64 3)) 3, 4, none⟩,
 ⟨some 23, .move (.tmp 22), 4, none⟩,
 ⟨some 24, .move (.tmp 6), 3, (some (23, true))⟩,
 ⟨some 25, .binOp .eql 3 (.tmp 24) (.const (.int .i64 6)) 3, 4, (some (23, true))⟩,
 ⟨some 26, .pick (.tmp 23) (.tmp 25) (.const (.bool false)), 4, none⟩,
 ⟨some 27, .move (.tmp 26), 4, none⟩,
 ⟨some 28, .move (.tmp 5), 3, (some (27, false))⟩,
 ⟨some 29, .binOp .eql 3 (.tmp 28) (.const (.int .i64 4)) 3, 4, (some (27, false))⟩,
 ⟨some 30, .move (.tmp 29), 4, (some (27, false))⟩,
 ⟨some 31, .move (.tmp 6), 3, (some (30, true))⟩,
 ⟨some 32, .binOp .eql 3 (.tmp 31) (.const (.int .i64 8)) 3, 4, (some (30, true))⟩,
 ⟨some 33, .pick (.tmp 30) (.tmp 32) (.const (.bool false)), 4, (some (27, false))⟩,
 ⟨some 34, .pick (.tmp 27) (.const (.bool true)) (.tmp 33), 4, none⟩] [0, 3, 4, 5, 6, 34])
 (.cond (.tmp 34)
  (.seq (.draw (drawOps 1 c76code) [4]) (sg c76S1))
  (.skip [0, 3, 4, 5, 6]))) (sg c76S18))
noncomputable def c76S20 (_ : Unit) : Cmd := (.seq (.seq (.ops [
 ⟨some 12, .move (.tmp 5), 3, none⟩,
 ⟨some 13, .binOp .eql 3 (.tmp 12) (.const (.int .i64 1)) 3, 4, none⟩,
 ⟨some 14, .move (.tmp 13), 4, none⟩,
 ⟨some 15, .move (.tmp 5), 3, (some (14, false))⟩,
 ⟨some 16, .binOp .eql 3 (.tmp 15) (.const (.int .i64 2)) 3, 4, (some (14, false))⟩,
 ⟨some 17, .pick (.tmp 14) (.const (.bool true)) (.tmp 16), 4, none⟩] [0, 3, 4, 5, 6, 17])
 (.cond (.tmp 17)
  (.seq (.ops [
  ⟨some 18, .move (.tmp 0), 36, none⟩,
  ⟨some 19, .load 58 (.tmp 3), 58, none⟩,
  ⟨some 20, .call ⟨.value (.func 106), #[(.tmp 18), (.tmp 19)], #[36, 58]⟩, 117, none⟩,
  ⟨none, .store 117 (.tmp 4) (.tmp 20), 0, none⟩] [4]) (sg c76S0))
  (.skip [0, 3, 4, 5, 6]))) (sg c76S19))
noncomputable def c76 : Cmd := (.seq (.ops [
 ⟨some 3, .box 58 (.tmp 1), 0, none⟩,
 ⟨some 4, .alloc 117, 0, none⟩] [0, 3, 4])
 (.seq (.draw (drawOps 0 c76code) [0, 3, 4, 5, 6]) (sg c76S20)))
noncomputable def c76D0 : List (Bool × Ins) := [
 (true, ⟨some 8, .fieldAddr 58 (.tmp 3) 3, 0, none⟩),
 (false, ⟨some 9, .load 3 (.tmp 8), 3, none⟩),
 (true, ⟨some 10, .fieldAddr 58 (.tmp 3) 4, 0, none⟩),
 (false, ⟨some 11, .load 3 (.tmp 10), 3, none⟩),
 (true, ⟨some 5, .assign (.tmp 9), 3, none⟩),
 (true, ⟨some 6, .assign (.tmp 11), 3, none⟩)]
theorem c76draw0 {L : List Nat} {ρ : Env} {w : World} {Q : Post} (h : DL Try.prog c76D0 L ρ w.drew Q) : drawW Try.prog (drawOps 0 c76code) L ρ w Q :=
  drawW_still [true, false, true, false, true, true] c76D0 (by kernel_rfl) (by kernel_rfl) (by kernel_rfl) h
noncomputable def c76D1 : GT := (.one 0 ⟨some 36, .move (.tmp 0), 36, none⟩
 (.one 0 ⟨some 38, .fieldAddr 58 (.tmp 3) 5, 0, none⟩
 (.one 1 ⟨some 39, .load 3 (.tmp 38), 3, none⟩
 (.alt ⟨some 35, .buildSlice 36 0 #[], 36, none⟩
 (.alt ⟨some 37, .call ⟨.builtin .append, #[(.tmp 35), (.tmp 36)], #[36, 36]⟩, 36, none⟩
 (.one 2 ⟨some 40, .buildSlice 36 1 #[(0, (.tmp 39))], 36, none⟩
 (.one 2 ⟨some 41, .call ⟨.builtin .append, #[(.tmp 37), (.tmp 40)], #[36, 36]⟩, 36, none⟩
 (.one 2 ⟨some 42, .build 117 #[(0, (.tmp 41)), (1, (.const (.int .i64 0))), (2, (.const (.bool true)))], 117, none⟩
 (.one 2 ⟨none, .store 117 (.tmp 4) (.tmp 42), 0, none⟩
 .nil))))
 (.alt ⟨some 40, .buildSlice 36 1 #[(0, (.tmp 39))], 36, none⟩
 (.one 2 ⟨some 37, .call ⟨.builtin .append, #[(.tmp 35), (.tmp 36)], #[36, 36]⟩, 36, none⟩
 (.one 2 ⟨some 41, .call ⟨.builtin .append, #[(.tmp 37), (.tmp 40)], #[36, 36]⟩, 36, none⟩
 (.one 2 ⟨some 42, .build 117 #[(0, (.tmp 41)), (1, (.const (.int .i64 0))), (2, (.const (.bool true)))], 117, none⟩
 (.one 2 ⟨none, .store 117 (.tmp 4) (.tmp 42), 0, none⟩
 .nil))))
 .stop))
 (.alt ⟨some 40, .buildSlice 36 1 #[(0, (.tmp 39))], 36, none⟩
 (.one 2 ⟨some 35, .buildSlice 36 0 #[], 36, none⟩
 (.one 2 ⟨some 37, .call ⟨.builtin .append, #[(.tmp 35), (.tmp 36)], #[36, 36]⟩, 36, none⟩
 (.one 2 ⟨some 41, .call ⟨.builtin .append, #[(.tmp 37), (.tmp 40)], #[36, 36]⟩, 36, none⟩
 (.one 2 ⟨some 42, .build 117 #[(0, (.tmp 41)), (1, (.const (.int .i64 0))), (2, (.const (.bool true)))], 117, none⟩
 (.one 2 ⟨none, .store 117 (.tmp 4) (.tmp 42), 0, none⟩
 .nil)))))
 .stop)))))
theorem c76draw1 {L : List Nat} {ρ : Env} {w : World} {Q : Post} (S : World → Prop) (hS : S w.drew) (h : DT Try.prog S c76D1 L ρ w.drew Q) : drawW Try.prog (drawOps 1 c76code) L ρ w Q :=
  drawW_tree [4] (.one 0 1 (.one 0 3 (.one 1 4 (.alt 0 (.alt 2 (.one 2 5 (.one 2 6 (.one 2 7 (.one 2 8 .nil)))) (.alt 5 (.one 2 2 (.one 2 6 (.one 2 7 (.one 2 8 .nil)))) .stop)) (.alt 5 (.one 2 0 (.one 2 2 (.one 2 6 (.one 2 7 (.one 2 8 .nil))))) .stop))))) c76D1 (by kernel_rfl) (by kernel_rfl) (by kernel_rfl) S hS h
noncomputable def c76D2 : List (Bool × Ins) := [
 (true, ⟨some 69, .move (.tmp 0), 36, none⟩),
 (true, ⟨some 70, .slice 36 (.tmp 69) (some (.const (.int .i64 1))) none none, 36, none⟩),
 (true, ⟨some 71, .move (.tmp 0), 36, none⟩),
 (true, ⟨some 72, .indexAddr 36 (.tmp 71) (.const (.int .i64 0)), 0, none⟩),
 (false, ⟨some 73, .load 3 (.tmp 72), 3, none⟩),
 (false, ⟨some 74, .build 117 #[(0, (.tmp 70)), (1, (.tmp 73)), (2, (.const (.bool true)))], 117, none⟩),
 (false, ⟨none, .store 117 (.tmp 4) (.tmp 74), 0, none⟩)]
theorem c76draw2 {L : List Nat} {ρ : Env} {w : World} {Q : Post} (h : DL Try.prog c76D2 L ρ w.drew Q) : drawW Try.prog (drawOps 2 c76code) L ρ w Q :=
  drawW_by [(true, 0), (true, 1), (true, 2), (true, 3), (false, 4), (false, 5), (false, 6)] c76D2 (by kernel_rfl) (by kernel_rfl) (by kernel_rfl) h
noncomputable def c76D3 : List (Bool × Ins) := [
 (true, ⟨some 81, .move (.tmp 0), 36, none⟩),
 (true, ⟨some 82, .move (.tmp 0), 36, none⟩),
 (true, ⟨some 83, .call ⟨.builtin .len, #[(.tmp 82)], #[36]⟩, 3, none⟩),
 (true, ⟨some 84, .binOp .sub 3 (.tmp 83) (.const (.int .i64 1)) 3, 3, none⟩),
 (true, ⟨some 85, .slice 36 (.tmp 81) none (some (.tmp 84)) none, 36, none⟩),
 (true, ⟨some 86, .move (.tmp 0), 36, none⟩),
 (true, ⟨some 87, .move (.tmp 0), 36, none⟩),
 (true, ⟨some 88, .call ⟨.builtin .len, #[(.tmp 87)], #[36]⟩, 3, none⟩),
 (true, ⟨some 89, .binOp .sub 3 (.tmp 88) (.const (.int .i64 1)) 3, 3, none⟩),
 (true, ⟨some 90, .indexAddr 36 (.tmp 86) (.tmp 89), 0, none⟩),
 (false, ⟨some 91, .load 3 (.tmp 90), 3, none⟩),
 (false, ⟨some 92, .build 117 #[(0, (.tmp 85)), (1, (.tmp 91)), (2, (.const (.bool true)))], 117, none⟩),
 (false, ⟨none, .store 117 (.tmp 4) (.tmp 92), 0, none⟩)]
theorem c76draw3 {L : List Nat} {ρ : Env} {w : World} {Q : Post} (h : DL Try.prog c76D3 L ρ w.drew Q) : drawW Try.prog (drawOps 3 c76code) L ρ w Q :=
  drawW_by [(true, 0), (true, 1), (true, 2), (true, 3), (true, 4), (true, 5), (true, 6), (true, 7), (true, 8), (true, 9), (false, 10), (false, 11), (false, 12)] c76D3 (by kernel_rfl) (by kernel_rfl) (by kernel_rfl) h
noncomputable def c76D4 : List (Bool × Ins) := [
 (true, ⟨some 108, .move (.tmp 5), 3, none⟩),
 (true, ⟨some 109, .binOp .eql 3 (.tmp 108) (.const (.int .i64 6)) 3, 4, none⟩),
 (true, ⟨some 110, .move (.tmp 109), 4, none⟩),
 (true, ⟨some 111, .move (.tmp 6), 3, (some (110, true))⟩),
 (true, ⟨some 112, .binOp .eql 3 (.tmp 111) (.const (.int .i64 14)) 3, 4, (some (110, true))⟩),
 (true, ⟨some 113, .pick (.tmp 110) (.tmp 112) (.const (.bool false)), 4, none⟩),
 (true, ⟨some 114, .move (.tmp 113), 4, none⟩),
 (true, ⟨some 115, .move (.tmp 0), 36, (some (114, true))⟩),
 (true, ⟨some 116, .call ⟨.builtin .len, #[(.tmp 115)], #[36]⟩, 3, (some (114, true))⟩),
 (true, ⟨some 117, .binOp .eql 3 (.tmp 116) (.const (.int .i64 1)) 3, 4, (some (114, true))⟩),
 (true, ⟨some 118, .pick (.tmp 114) (.tmp 117) (.const (.bool false)), 4, none⟩),
 (true, ⟨some 119, .move (.tmp 118), 4, none⟩),
 (true, ⟨some 120, .move (.tmp 0), 36, (some (119, true))⟩),
 (true, ⟨some 121, .indexAddr 36 (.tmp 120) (.const (.int .i64 0)), 0, (some (119, true))⟩),
 (false, ⟨some 122, .load 3 (.tmp 121), 3, (some (119, true))⟩),
 (true, ⟨some 123, .fieldAddr 58 (.tmp 3) 1, 0, (some (119, true))⟩),
 (false, ⟨some 124, .load 3 (.tmp 123), 3, (some (119, true))⟩),
 (true, ⟨some 125, .binOp .eql 3 (.tmp 122) (.tmp 124) 3, 4, (some (119, true))⟩),
 (true, ⟨some 126, .pick (.tmp 119) (.tmp 125) (.const (.bool false)), 4, none⟩)]
theorem c76draw4 {L : List Nat} {ρ : Env} {w : World} {Q : Post} (h : DL Try.prog c76D4 L ρ w.drew Q) : drawW Try.prog (drawOps 4 c76code) L ρ w Q :=
  drawW_still [true, true, true, true, true, true, true, true, true, true, true, true, true, true, false, true, false, true, true] c76D4 (by kernel_rfl) (by kernel_rfl) (by kernel_rfl) h
set_option maxRecDepth 100000 in
theorem ent76 (a0 a1 : Value) (w : World) (K : Value → World → Prop) (h : W Try.prog c76 [(0, a0), (1, a1)] w (finQ Try.prog [.cell 4 117] K)) : Ret Try.prog 76 [a0, a1] w K :=
  Ret_of_W (code := c76code) Try.func76 (by kernel_rfl) (by kernel_rfl) (of_decide_eq_true (by kernel_rfl)) h
@[go_sem] theorem go76 : goFunc Try.prog 76 = true := by kernel_rfl
noncomputable def c77code : Code := match Try.f77.body with | some c => c | none => .skip
noncomputable def c77 : Cmd := (.seq (.ops [
 ⟨some 6, .assign (.const (.bool false)), 4, none⟩] [0, 1, 2])
 (.seq (.ops [
 ⟨some 7, .move (.tmp 0), 3, none⟩,
 ⟨some 8, .move (.tmp 1), 3, none⟩,
 ⟨some 9, .binOp .geq 3 (.tmp 7) (.tmp 8) 3, 4, none⟩,
 ⟨some 10, .move (.tmp 9), 4, none⟩,
 ⟨some 11, .move (.tmp 0), 3, (some (10, true))⟩,
 ⟨some 12, .move (.tmp 2), 3, (some (10, true))⟩,
 ⟨some 13, .binOp .leq 3 (.tmp 11) (.tmp 12) 3, 4, (some (10, true))⟩,
 ⟨some 14, .pick (.tmp 10) (.tmp 13) (.const (.bool false)), 4, none⟩,
 ⟨some 6, .assign (.tmp 14), 4, none⟩] [6])
 .ret))
set_option maxRecDepth 100000 in
theorem ent77 (a0 a1 a2 : Value) (w : World) (K : Value → World → Prop) (h : W Try.prog c77 [(0, a0), (1, a1), (2, a2)] w (finQ Try.prog [.tmp 6] K)) : Ret Try.prog 77 [a0, a1, a2] w K :=
  Ret_of_W (code := c77code) Try.func77 (by kernel_rfl) (by kernel_rfl) (of_decide_eq_true (by kernel_rfl)) h
@[go_sem] theorem go77 : goFunc Try.prog 77 = true := by kernel_rfl
noncomputable def c78code : Code := match Try.f78.body with | some c => c | none => .skip
noncomputable def c78S0 (_ : Unit) : Cmd := (.ops [
 ⟨some 13, .move (.tmp 7), 3, none⟩,
 ⟨some 14, .binOp .add 3 (.tmp 13) (.const (.int .i64 1)) 3, 3, none⟩,
 ⟨some 7, .assign (.tmp 14), 3, none⟩] [0, 1, 4, 6, 7])
noncomputable def c78S1 (_ : Unit) : Cmd := (.seq (.block 1 (.seq (.ops [
 ⟨some 15, .move (.tmp 6), 148, none⟩,
 ⟨some 16, .move (.tmp 7), 3, none⟩,
 ⟨some 17, .indexAddr 148 (.tmp 15) (.tmp 16), 0, none⟩,
 ⟨some 18, .fieldAddr 121 (.tmp 17) 0, 0, none⟩,
 ⟨some 19, .load 3 (.tmp 18), 3, none⟩,
 ⟨some 20, .move (.tmp 0), 3, none⟩,
 ⟨some 21, .binOp .eql 3 (.tmp 19) (.tmp 20) 3, 4, none⟩,
 ⟨some 22, .move (.tmp 21), 4, none⟩,
 ⟨some 23, .move (.tmp 6), 148, (some (22, true))⟩,
 ⟨some 24, .move (.tmp 7), 3, (some (22, true))⟩,
 ⟨some 25, .indexAddr 148 (.tmp 23) (.tmp 24), 0, (some (22, true))⟩,
 ⟨some 26, .fieldAddr 121 (.tmp 25) 1, 0, (some (22, true))⟩,
 ⟨some 27, .load 3 (.tmp 26), 3, (some (22, true))⟩,
 ⟨some 28, .move (.tmp 1), 3, (some (22, true))⟩,
 ⟨some 29, .binOp .eql 3 (.tmp 27) (.tmp 28) 3, 4, (some (22, true))⟩,
 ⟨some 30, .pick (.tmp 22) (.tmp 29) (.const (.bool false)), 4, none⟩] [0, 1, 4, 6, 7, 30])
 (.cond (.tmp 30)
  (.seq (.ops [
  ⟨some 31, .move (.tmp 6), 148, none⟩,
  ⟨some 32, .move (.tmp 7), 3, none⟩,
  ⟨some 33, .indexAddr 148 (.tmp 31) (.tmp 32), 0, none⟩,
  ⟨some 34, .load 121 (.tmp 33), 121, none⟩,
  ⟨none, .store 121 (.tmp 4) (.tmp 34), 0, none⟩,
  ⟨some 5, .assign (.const (.bool true)), 4, none⟩] [4, 5])
  .ret)
  (.skip [0, 1, 4, 6, 7])))) (sg c78S0))
noncomputable def c78L0 (_ : Unit) : Cmd := (.seq (.seq (.ops [
 ⟨some 9, .move (.tmp 7), 3, none⟩,
 ⟨some 10, .move (.tmp 6), 148, none⟩,
 ⟨some 11, .call ⟨.builtin .len, #[(.tmp 10)], #[148]⟩, 3, none⟩,
 ⟨some 12, .binOp .lss 3 (.tmp 9) (.tmp 11) 3, 4, none⟩] [0, 1, 4, 6, 7, 12])
 (.cond (.tmp 12)
  (.skip [0, 1, 4, 6, 7])
  (.exit 0 [4]))) (sg c78S1))
noncomputable def c78S2 (_ : Unit) : Cmd := (.seq (.ops [
 ⟨some 35, .build 121 #[], 121, none⟩,
 ⟨none, .store 121 (.tmp 4) (.tmp 35), 0, none⟩,
 ⟨some 5, .assign (.const (.bool false)), 4, none⟩] [4, 5])
 .ret)
noncomputable def c78S3 (_ : Unit) : Cmd := (.seq (.seq (.ops [
 ⟨some 7, .assign (.const (.int .i64 0)), 3, none⟩] [0, 1, 4, 6, 7])
 (.block 0 (.loop (sg c78L0)))) (sg c78S2))
noncomputable def c78 : Cmd := (.seq (.ops [
 ⟨some 4, .alloc 121, 0, none⟩,
 ⟨some 5, .assign (.const (.bool false)), 4, none⟩] [0, 1, 4])
 (.seq (.ops [
 ⟨some 8, .call ⟨.value (.func 109), #[], #[]⟩, 148, none⟩,
 ⟨some 6, .assign (.tmp 8), 148, none⟩] [0, 1, 4, 6]) (sg c78S3)))
set_option maxRecDepth 100000 in
theorem ent78 (a0 a1 : Value) (w : World) (K : Value → World → Prop) (h : W Try.prog c78 [(0, a0), (1, a1)] w (finQ Try.prog [.cell 4 121, .tmp 5] K)) : Ret Try.prog 78 [a0, a1] w K :=
  Ret_of_W (code := c78code) Try.func78 (by kernel_rfl) (by kernel_rfl) (of_decide_eq_true (by kernel_rfl)) h
@[go_sem] theorem go78 : goFunc Try.prog 78 = true := by kernel_rfl
noncomputable def c79code : Code := match Try.f79.body with | some c => c | none => .skip
noncomputable def c79S0 (_ : Unit) : Cmd := .ret
noncomputable def c79S1 (_ : Unit) : Cmd := .ret
noncomputable def c79S2 (_ : Unit) : Cmd := .ret
noncomputable def c79S3 (_ : Unit) : Cmd := (.seq (.ops [
 ⟨some 25, .move (.tmp 0), 3, none⟩,
 ⟨some 26, .call ⟨.value (.func 77), #[(.tmp 25), (.const (.int .i64 (-1))), (.const (.int .i64 1073741824))], #[3, 3, 3]⟩, 4, none⟩,
 ⟨some 4, .assign (.tmp 26), 4, none⟩] [4]) (sg c79S2))
noncomputable def c79S4 (_ : Unit) : Cmd := (.seq (.seq (.ops [
 ⟨some 21, .move (.tmp 1), 3, none⟩,
 ⟨some 22, .binOp .eql 3 (.tmp 21) (.const (.int .i64 3)) 3, 4, none⟩] [0, 22])
 (.cond (.tmp 22)
  (.seq (.ops [
  ⟨some 23, .move (.tmp 0), 3, none⟩,
  ⟨some 24, .call ⟨.value (.func 77), #[(.tmp 23), (.const (.int .i64 (-1073741824))), (.const (.int .i64 1073741824))], #[3, 3, 3]⟩, 4, none⟩,
  ⟨some 4, .assign (.tmp 24), 4, none⟩] [4]) (sg c79S1))
  (.skip [0]))) (sg c79S3))
noncomputable def c79S5 (_ : Unit) : Cmd := (.seq (.seq (.ops [
 ⟨some 17, .move (.tmp 1), 3, none⟩,
 ⟨some 18, .binOp .eql 3 (.tmp 17) (.const (.int .i64 2)) 3, 4, none⟩] [0, 1, 18])
 (.cond (.tmp 18)
  (.seq (.ops [
  ⟨some 19, .move (.tmp 0), 3, none⟩,
  ⟨some 20, .call ⟨.value (.func 77), #[(.tmp 19), (.const (.int .i64 0)), (.const (.int .i64 1073741824))], #[3, 3, 3]⟩, 4, none⟩,
  ⟨some 4, .assign (.tmp 20), 4, none⟩] [4]) (sg c79S0))
  (.skip [0, 1]))) (sg c79S4))
noncomputable def c79S6 (_ : Unit) : Cmd := (.seq (.seq (.ops [
 ⟨some 9, .move (.tmp 1), 3, none⟩,
 ⟨some 10, .binOp .eql 3 (.tmp 9) (.const (.int .i64 1)) 3, 4, none⟩] [0, 1, 10])
 (.cond (.tmp 10)
  (.seq (.ops [
  ⟨some 11, .move (.tmp 0), 3, none⟩,
  ⟨some 12, .binOp .eql 3 (.tmp 11) (.const (.int .i64 0)) 3, 4, none⟩,
  ⟨some 13, .move (.tmp 12), 4, none⟩,
  ⟨some 14, .move (.tmp 0), 3, (some (13, false))⟩,
  ⟨some 15, .binOp .eql 3 (.tmp 14) (.const (.int .i64 1)) 3, 4, (some (13, false))⟩,
  ⟨some 16, .pick (.tmp 13) (.const (.bool true)) (.tmp 15), 4, none⟩,
  ⟨some 4, .assign (.tmp 16), 4, none⟩] [4])
  .ret)
  (.skip [0, 1]))) (sg c79S5))
noncomputable def c79 : Cmd := (.seq (.ops [
 ⟨some 4, .assign (.const (.bool false)), 4, none⟩] [0, 1])
 (.seq (.seq (.ops [
 ⟨some 5, .move (.tmp 1), 3, none⟩,
 ⟨some 6, .binOp .eql 3 (.tmp 5) (.const (.int .i64 0)) 3, 4, none⟩] [0, 1, 6])
 (.cond (.tmp 6)
  (.seq (.ops [
  ⟨some 7, .move (.tmp 0), 3, none⟩,
  ⟨some 8, .binOp .eql 3 (.tmp 7) (.const (.int .i64 0)) 3, 4, none⟩,
  ⟨some 4, .assign (.tmp 8), 4, none⟩] [4])
  .ret)
  (.skip [0, 1]))) (sg c79S6)))
set_option maxRecDepth 100000 in
theorem ent79 (a0 a1 : Value) (w : World) (K : Value → World → Prop) (h : W Try.prog c79 [(0, a0), (1, a1)] w (finQ Try.prog [.tmp 4] K)) : Ret Try.prog 79 [a0, a1] w K :=
  Ret_of_W (code := c79code) Try.func79 (by kernel_rfl) (by kernel_rfl) (of_decide_eq_true (by kernel_rfl)) h
@[go_sem] theorem go79 : goFunc Try.prog 79 = true := by kernel_rfl
noncomputable def c92code : Code := match Try.f92.body with | some c => c | none => .skip
noncomputable def c92S0 (_ : Unit) : Cmd := .ret
noncomputable def c92S1 (_ : Unit) : Cmd := (.cond (.tmp 41)
     (.seq (.ops [
     ⟨some 42, .fieldAddr 58 (.tmp 3) 6, 0, none⟩,
     ⟨some 43, .load 3 (.tmp 42), 3, none⟩,
     ⟨some 44, .buildSlice 36 1 #[(0, (.tmp 43))], 36, none⟩,
     ⟨some 4, .assign (.tmp 44), 36, none⟩,
     ⟨some 5, .assign (.const (.int .i64 1)), 3, none⟩,
     ⟨some 6, .assign (.const (.bool true)), 4, none⟩] [4, 5, 6])
     .ret)
     (.skip [0]))
noncomputable def c92S2 (_ : Unit) : Cmd := (.seq (.ops [
    ⟨some 45, .move (.tmp 0), 36, none⟩,
    ⟨some 4, .assign (.tmp 45), 36, none⟩,
    ⟨some 5, .assign (.const (.int .i64 0)), 3, none⟩,
    ⟨some 6, .assign (.const (.bool true)), 4, none⟩] [4, 5, 6])
    .ret)
noncomputable def c92S3 (_ : Unit) : Cmd := (.seq (.ops [
 ⟨some 4, .assign (.const (.slice none 0 0)), 36, none⟩,
 ⟨some 5, .assign (.const (.int .i64 0)), 3, none⟩,
 ⟨some 6, .assign (.const (.bool false)), 4, none⟩] [4, 5, 6])
 .ret)
noncomputable def c92 : Cmd := (.seq (.ops [
 ⟨some 3, .box 58 (.tmp 1), 0, none⟩,
 ⟨some 4, .assign (.const (.slice none 0 0)), 36, none⟩,
 ⟨some 5, .assign (.const (.int .i64 0)), 3, none⟩,
 ⟨some 6, .assign (.const (.bool false)), 4, none⟩] [0, 3])
 (.seq (.block 0 (.seq (.ops [
 ⟨some 8, .fieldAddr 58 (.tmp 3) 4, 0, none⟩,
 ⟨some 9, .load 3 (.tmp 8), 3, none⟩,
 ⟨some 10, .binOp .eql 3 (.tmp 9) (.const (.int .i64 1)) 3, 4, none⟩,
 ⟨some 7, .assign (.tmp 10), 4, none⟩] [0, 3, 7])
 (.cond (.tmp 7)
  (.seq (.draw (drawOps 0 c92code) [4, 5, 6]) (sg c92S0))
  (.seq (.ops [
  ⟨some 16, .fieldAddr 58 (.tmp 3) 3, 0, none⟩,
  ⟨some 17, .load 3 (.tmp 16), 3, none⟩,
  ⟨some 18, .binOp .eql 3 (.tmp 17) (.const (.int .i64 1)) 3, 4, none⟩,
  ⟨some 19, .move (.tmp 18), 4, none⟩,
  ⟨some 20, .fieldAddr 58 (.tmp 3) 4, 0, (some (19, true))⟩,
  ⟨some 21, .load 3 (.tmp 20), 3, (some (19, true))⟩,
  ⟨some 22, .binOp .eql 3 (.tmp 21) (.const (.int .i64 2)) 3, 4, (some (19, true))⟩,
  ⟨some 23, .pick (.tmp 19) (.tmp 22) (.const (.bool false)), 4, none⟩,
  ⟨some 15, .assign (.tmp 23), 4, none⟩] [0, 3, 15])
  (.cond (.tmp 15)
   (.seq (.ops [
   ⟨some 24, .fieldAddr 58 (.tmp 3) 5, 0, none⟩,
   ⟨some 25, .load 3 (.tmp 24), 3, none⟩,
   ⟨some 26, .buildSlice 36 1 #[(0, (.tmp 25))], 36, none⟩,
   ⟨some 4, .assign (.tmp 26), 36, none⟩,
   ⟨some 5, .assign (.const (.int .i64 0)), 3, none⟩,
   ⟨some 6, .assign (.const (.bool true)), 4, none⟩] [4, 5, 6])
   .ret)
   (.seq (.ops [
   ⟨some 28, .fieldAddr 58 (.tmp 3) 3, 0, none⟩,
   ⟨some 29, .load 3 (.tmp 28), 3, none⟩,
   ⟨some 30, .binOp .eql 3 (.tmp 29) (.const (.int .i64 1)) 3, 4, none⟩,
   ⟨some 31, .move (.tmp 30), 4, none⟩,
   ⟨some 32, .fieldAddr 58 (.tmp 3) 4, 0, (some (31, true))⟩,
   ⟨some 33, .load 3 (.tmp 32), 3, (some (31, true))⟩,
   ⟨some 34, .binOp .eql 3 (.tmp 33) (.const (.int .i64 3)) 3, 4, (some (31, true))⟩,
   ⟨some 35, .pick (.tmp 31) (.tmp 34) (.const (.bool false)), 4, none⟩,
   ⟨some 27, .assign (.tmp 35), 4, none⟩] [0, 3, 27])
   (.cond (.tmp 27)
    (.seq (.seq (.draw (drawOps 1 c92code) [0, 3, 41]) (sg c92S1)) (sg c92S2))
    (.seq (.ops [
    ⟨some 47, .fieldAddr 58 (.tmp 3) 3, 0, none⟩,
    ⟨some 48, .load 3 (.tmp 47), 3, none⟩,
    ⟨some 49, .binOp .eql 3 (.tmp 48) (.const (.int .i64 2)) 3, 4, none⟩,
    ⟨some 50, .move (.tmp 49), 4, none⟩,
    ⟨some 51, .fieldAddr 58 (.tmp 3) 4, 0, (some (50, true))⟩,
    ⟨some 52, .load 3 (.tmp 51), 3, (some (50, true))⟩,
    ⟨some 53, .binOp .eql 3 (.tmp 52) (.const (.int .i64 4)) 3, 4, (some (50, true))⟩,
    ⟨some 54, .pick (.tmp 50) (.tmp 53) (.const (.bool false)), 4, none⟩,
    ⟨some 46, .assign (.tmp 54), 4, none⟩] [0, 3, 46])
    (.cond (.tmp 46)
     (.seq (.opsX [
     ⟨some 55, .move (.tmp 0), 36, none⟩,
     ⟨some 56, .indexAddr 36 (.tmp 55) (.const (.int .i64 0)), 0, none⟩,
     ⟨some 57, .load 3 (.tmp 56), 3, none⟩,
     ⟨some 58, .binOp .add 3 (.tmp 57) (.const (.int .i64 1)) 3, 3, none⟩,
     ⟨some 59, .buildSlice 36 1 #[(0, (.tmp 58))], 36, none⟩,
     ⟨some 4, .assign (.tmp 59), 36, none⟩,
     ⟨some 5, .assign (.const (.int .i64 0)), 3, none⟩,
     ⟨some 6, .assign (.const (.bool true)), 4, none⟩] [4, 5, 6])
     .ret)
     (.seq (.ops [
     ⟨some 61, .fieldAddr 58 (.tmp 3) 3, 0, none⟩,
     ⟨some 62, .load 3 (.tmp 61), 3, none⟩,
     ⟨some 63, .binOp .eql 3 (.tmp 62) (.const (.int .i64 2)) 3, 4, none⟩,
     ⟨some 64, .move (.tmp 63), 4, none⟩,
     ⟨some 65, .fieldAddr 58 (.tmp 3) 4, 0, (some (64, true))⟩,
     ⟨some 66, .load 3 (.tmp 65), 3, (some (64, true))⟩,
     ⟨some 67, .binOp .eql 3 (.tmp 66) (.const (.int .i64 5)) 3, 4, (some (64, true))⟩,
     ⟨some 68, .pick (.tmp 64) (.tmp 67) (.const (.bool false)), 4, none⟩,
     ⟨some 60, .assign (.tmp 68), 4, none⟩] [0, 60])
     (.cond (.tmp 60)
      (.seq (.opsX [
      ⟨some 69, .move (.tmp 0), 36, none⟩,
      ⟨some 70, .indexAddr 36 (.tmp 69) (.const (.int .i64 0)), 0, none⟩,
      ⟨some 71, .load 3 (.tmp 70), 3, none⟩,
      ⟨some 72, .binOp .sub 3 (.tmp 71) (.const (.int .i64 1)) 3, 3, none⟩,
      ⟨some 73, .buildSlice 36 1 #[(0, (.tmp 72))], 36, none⟩,
      ⟨some 4, .assign (.tmp 73), 36, none⟩,
      ⟨some 5, .assign (.const (.int .i64 0)), 3, none⟩,
      ⟨some 6, .assign (.const (.bool true)), 4, none⟩] [4, 5, 6])
      .ret)
      (.skip [])))))))))))) (sg c92S3)))
noncomputable def c92D0 : List (Bool × Ins) := [
 (true, ⟨some 11, .move (.tmp 0), 36, none⟩),
 (true, ⟨some 12, .move (.tmp 0), 36, none⟩),
 (true, ⟨some 13, .indexAddr 36 (.tmp 12) (.const (.int .i64 0)), 0, none⟩),
 (true, ⟨some 4, .assign (.tmp 11), 36, none⟩),
 (false, ⟨some 14, .load 3 (.tmp 13), 3, none⟩),
 (true, ⟨some 5, .assign (.tmp 14), 3, none⟩),
 (true, ⟨some 6, .assign (.const (.bool true)), 4, none⟩)]
theorem c92draw0 {L : List Nat} {ρ : Env} {w : World} {Q : Post} (h : DL Try.prog c92D0 L ρ w.drew Q) : drawW Try.prog (drawOps 0 c92code) L ρ w Q :=
  drawW_by [(true, 0), (true, 1), (true, 2), (true, 4), (false, 3), (true, 5), (true, 6)] c92D0 (by kernel_rfl) (by kernel_rfl) (by kernel_rfl) h
noncomputable def c92D1 : List (Bool × Ins) := [
 (true, ⟨some 36, .move (.tmp 0), 36, none⟩),
 (true, ⟨some 37, .indexAddr 36 (.tmp 36) (.const (.int .i64 0)), 0, none⟩),
 (false, ⟨some 38, .load 3 (.tmp 37), 3, none⟩),
 (true, ⟨some 39, .fieldAddr 58 (.tmp 3) 5, 0, none⟩),
 (false, ⟨some 40, .load 3 (.tmp 39), 3, none⟩),
 (true, ⟨some 41, .binOp .eql 3 (.tmp 38) (.tmp 40) 3, 4, none⟩)]
theorem c92draw1 {L : List Nat} {ρ : Env} {w : World} {Q : Post} (h : DL Try.prog c92D1 L ρ w.drew Q) : drawW Try.prog (drawOps 1 c92code) L ρ w Q :=
  drawW_still [true, true, false, true, false, true] c92D1 (by kernel_rfl) (by kernel_rfl) (by kernel_rfl) h
set_option maxRecDepth 100000 in
theorem ent92 (a0 a1 : Value) (w : World) (K : Value → World → Prop) (h : W Try.prog c92 [(0, a0), (1, a1)] w (finQ Try.prog [.tmp 4, .tmp 5, .tmp 6] K)) : Ret Try.prog 92 [a0, a1] w K :=
  Ret_of_W (code := c92code) Try.func92 (by kernel_rfl) (by kernel_rfl) (of_decide_eq_true (by kernel_rfl)) h
@[go_sem] theorem go92 : goFunc Try.prog 92 = true := by kernel_rfl
noncomputable def c93code : Code := match Try.f93.body with | some c => c | none => .skip
noncomputable def c93S0 (_ : Unit) : Cmd := .ret
noncomputable def c93S1 (_ : Unit) : Cmd := .ret
noncomputable def c93S2 (_ : Unit) : Cmd := (.seq (.draw (drawOps 0 c93code) [4, 5, 6]) (sg c93S1))
noncomputable def c93S3 (_ : Unit) : Cmd := .ret
noncomputable def c93S4 (_ : Unit) : Cmd := (.seq (.draw (drawOps 1 c93code) [4, 5, 6]) (sg c93S3))
noncomputable def c93S5 (_ : Unit) : Cmd := (.cond (.tmp 10)
  (.seq (.ops [
  ⟨some 27, .move (.tmp 0), 36, none⟩,
  ⟨some 28, .fieldAddr 58 (.tmp 3) 5, 0, none⟩,
  ⟨some 29, .load 3 (.tmp 28), 3, none⟩,
  ⟨some 30, .buildSlice 36 1 #[(0, (.tmp 29))], 36, none⟩,
  ⟨some 31, .call ⟨.builtin .append, #[(.tmp 27), (.tmp 30)], #[36, 36]⟩, 36, none⟩,
  ⟨some 4, .assign (.tmp 31), 36, none⟩,
  ⟨some 5, .assign (.const (.int .i64 0)), 3, none⟩,
  ⟨some 6, .assign (.const (.bool true)), 4, none⟩] [4, 5, 6]) (sg c93S0))
  (.seq (.ops [
  ⟨some 33, .fieldAddr 58 (.tmp 3) 3, 0, none⟩,
  ⟨some 34, .load 3 (.tmp 33), 3, none⟩,
  ⟨some 35, .binOp .eql 3 (.tmp 34) (.const (.int .i64 3)) 3, 4, none⟩,
  ⟨some 36, .move (.tmp 35), 4, none⟩,
  ⟨some 37, .fieldAddr 58 (.tmp 3) 4, 0, (some (36, true))⟩,
  ⟨some 38, .load 3 (.tmp 37), 3, (some (36, true))⟩,
  ⟨some 39, .binOp .eql 3 (.tmp 38) (.const (.int .i64 7)) 3, 4, (some (36, true))⟩,
  ⟨some 40, .pick (.tmp 36) (.tmp 39) (.const (.bool false)), 4, none⟩,
  ⟨some 32, .assign (.tmp 40), 4, none⟩] [0, 3, 7, 32])
  (.cond (.tmp 32)
   (.seq (.seq (.ops [
   ⟨some 41, .move (.tmp 7), 3, none⟩,
   ⟨some 42, .binOp .eql 3 (.tmp 41) (.const (.int .i64 0)) 3, 4, none⟩] [0, 42])
   (.cond (.tmp 42)
    (.seq (.ops [
    ⟨some 43, .move (.tmp 0), 36, none⟩,
    ⟨some 4, .assign (.tmp 43), 36, none⟩,
    ⟨some 5, .assign (.const (.int .i64 (-1))), 3, none⟩,
    ⟨some 6, .assign (.const (.bool true)), 4, none⟩] [4, 5, 6])
    .ret)
    (.skip [0]))) (sg c93S2))
   (.seq (.ops [
   ⟨some 50, .fieldAddr 58 (.tmp 3) 3, 0, none⟩,
   ⟨some 51, .load 3 (.tmp 50), 3, none⟩,
   ⟨some 52, .binOp .eql 3 (.tmp 51) (.const (.int .i64 4)) 3, 4, none⟩,
   ⟨some 53, .move (.tmp 52), 4, none⟩,
   ⟨some 54, .fieldAddr 58 (.tmp 3) 4, 0, (some (53, true))⟩,
   ⟨some 55, .load 3 (.tmp 54), 3, (some (53, true))⟩,
   ⟨some 56, .binOp .eql 3 (.tmp 55) (.const (.int .i64 9)) 3, 4, (some (53, true))⟩,
   ⟨some 57, .pick (.tmp 53) (.tmp 56) (.const (.bool false)), 4, none⟩,
   ⟨some 49, .assign (.tmp 57), 4, none⟩] [0, 7, 49])
   (.cond (.tmp 49)
    (.seq (.seq (.ops [
    ⟨some 58, .move (.tmp 7), 3, none⟩,
    ⟨some 59, .binOp .eql 3 (.tmp 58) (.const (.int .i64 0)) 3, 4, none⟩] [0, 7, 59])
    (.cond (.tmp 59)
     (.seq (.ops [
     ⟨some 60, .move (.tmp 0), 36, none⟩,
     ⟨some 4, .assign (.tmp 60), 36, none⟩,
     ⟨some 5, .assign (.const (.int .i64 (-1))), 3, none⟩,
     ⟨some 6, .assign (.const (.bool true)), 4, none⟩] [4, 5, 6])
     .ret)
     (.skip [0, 7]))) (sg c93S4))
    (.skip []))))))
noncomputable def c93S6 (_ : Unit) : Cmd := (.seq (.ops [
 ⟨some 4, .assign (.const (.slice none 0 0)), 36, none⟩,
 ⟨some 5, .assign (.const (.int .i64 0)), 3, none⟩,
 ⟨some 6, .assign (.const (.bool false)), 4, none⟩] [4, 5, 6])
 .ret)
noncomputable def c93 : Cmd := (.seq (.ops [
 ⟨some 3, .box 58 (.tmp 1), 0, none⟩,
 ⟨some 4, .assign (.const (.slice none 0 0)), 36, none⟩,
 ⟨some 5, .assign (.const (.int .i64 0)), 3, none⟩,
 ⟨some 6, .assign (.const (.bool false)), 4, none⟩] [0, 3])
 (.seq (.ops [
 ⟨some 8, .move (.tmp 0), 36, none⟩,
 ⟨some 9, .call ⟨.builtin .len, #[(.tmp 8)], #[36]⟩, 3, none⟩,
 ⟨some 7, .assign (.tmp 9), 3, none⟩] [0, 3, 7])
 (.seq (.block 0 (.seq (.seq (.ops [
 ⟨some 11, .fieldAddr 58 (.tmp 3) 3, 0, none⟩,
 ⟨some 12, .load 3 (.tmp 11), 3, none⟩,
 ⟨some 13, .binOp .eql 3 (.tmp 12) (.const (.int .i64 3)) 3, 4, none⟩,
 ⟨some 14, .move (.tmp 13), 4, none⟩,
 ⟨some 15, .fieldAddr 58 (.tmp 3) 4, 0, (some (14, true))⟩,
 ⟨some 16, .load 3 (.tmp 15), 3, (some (14, true))⟩,
 ⟨some 17, .binOp .eql 3 (.tmp 16) (.const (.int .i64 6)) 3, 4, (some (14, true))⟩,
 ⟨some 18, .pick (.tmp 14) (.tmp 17) (.const (.bool false)), 4, none⟩,
 ⟨some 10, .assign (.tmp 18), 4, none⟩] [0, 3, 7, 10])
 (.cond (.tmp 10)
  (.skip [0, 3, 7, 10])
  (.ops [
  ⟨some 19, .fieldAddr 58 (.tmp 3) 3, 0, none⟩,
  ⟨some 20, .load 3 (.tmp 19), 3, none⟩,
  ⟨some 21, .binOp .eql 3 (.tmp 20) (.const (.int .i64 4)) 3, 4, none⟩,
  ⟨some 22, .move (.tmp 21), 4, none⟩,
  ⟨some 23, .fieldAddr 58 (.tmp 3) 4, 0, (some (22, true))⟩,
  ⟨some 24, .load 3 (.tmp 23), 3, (some (22, true))⟩,
  ⟨some 25, .binOp .eql 3 (.tmp 24) (.const (.int .i64 8)) 3, 4, (some (22, true))⟩,
  ⟨some 26, .pick (.tmp 22) (.tmp 25) (.const (.bool false)), 4, none⟩,
  ⟨some 10, .assign (.tmp 26), 4, none⟩] [0, 3, 7, 10]))) (sg c93S5))) (sg c93S6))))
noncomputable def c93D0 : List (Bool × Ins) := [
 (true, ⟨some 44, .move (.tmp 0), 36, none⟩),
 (true, ⟨some 45, .slice 36 (.tmp 44) (some (.const (.int .i64 1))) none none, 36, none⟩),
 (true, ⟨some 46, .move (.tmp 0), 36, none⟩),
 (true, ⟨some 47, .indexAddr 36 (.tmp 46) (.const (.int .i64 0)), 0, none⟩),
 (true, ⟨some 4, .assign (.tmp 45), 36, none⟩),
 (false, ⟨some 48, .load 3 (.tmp 47), 3, none⟩),
 (true, ⟨some 5, .assign (.tmp 48), 3, none⟩),
 (true, ⟨some 6, .assign (.const (.bool true)), 4, none⟩)]
theorem c93draw0 {L : List Nat} {ρ : Env} {w : World} {Q : Post} (h : DL Try.prog c93D0 L ρ w.drew Q) : drawW Try.prog (drawOps 0 c93code) L ρ w Q :=
  drawW_by [(true, 0), (true, 1), (true, 2), (true, 3), (true, 5), (false, 4), (true, 6), (true, 7)] c93D0 (by kernel_rfl) (by kernel_rfl) (by kernel_rfl) h
noncomputable def c93D1 : List (Bool × Ins) := [
 (true, ⟨some 61, .move (.tmp 0), 36, none⟩),
 (true, ⟨some 62, .move (.tmp 7), 3, none⟩),
 (true, ⟨some 63, .binOp .sub 3 (.tmp 62) (.const (.int .i64 1)) 3, 3, none⟩),
 (true, ⟨some 64, .slice 36 (.tmp 61) none (some (.tmp 63)) none, 36, none⟩),
 (true, ⟨some 65, .move (.tmp 0), 36, none⟩),
 (true, ⟨some 66, .move (.tmp 7), 3, none⟩),
 (true, ⟨some 67, .binOp .sub 3 (.tmp 66) (.const (.int .i64 1)) 3, 3, none⟩),
 (true, ⟨some 68, .indexAddr 36 (.tmp 65) (.tmp 67), 0, none⟩),
 (true, ⟨some 4, .assign (.tmp 64), 36, none⟩),
 (false, ⟨some 69, .load 3 (.tmp 68), 3, none⟩),
 (true, ⟨some 5, .assign (.tmp 69), 3, none⟩),
 (true, ⟨some 6, .assign (.const (.bool true)), 4, none⟩)]
theorem c93draw1 {L : List Nat} {ρ : Env} {w : World} {Q : Post} (h : DL Try.prog c93D1 L ρ w.drew Q) : drawW Try.prog (drawOps 1 c93code) L ρ w Q :=
  drawW_by [(true, 0), (true, 1), (true, 2), (true, 3), (true, 4), (true, 5), (true, 6), (true, 7), (true, 9), (false, 8), (true, 10), (true, 11)] c93D1 (by kernel_rfl) (by kernel_rfl) (by kernel_rfl) h
set_option maxRecDepth 100000 in
theorem ent93 (a0 a1 : Value) (w : World) (K : Value → World → Prop) (h : W Try.prog c93 [(0, a0), (1, a1)] w (finQ Try.prog [.tmp 4, .tmp 5, .tmp 6] K)) : Ret Try.prog 93 [a0, a1] w K :=
  Ret_of_W (code := c93code) Try.func93 (by kernel_rfl) (by kernel_rfl) (of_decide_eq_true (by kernel_rfl)) h
@[go_sem] theorem go93 : goFunc Try.prog 93 = true := by kernel_rfl
noncomputable def c94code : Code := match Try.f94.body with | some c => c | none => .skip
noncomputable def c94S0 (_ : Unit) : Cmd := .ret
noncomputable def c94S1 (_ : Unit) : Cmd := .ret
noncomputable def c94S2 (_ : Unit) : Cmd := .ret
noncomputable def c94S3 (_ : Unit) : Cmd := (.cond (.tmp 16)
  (.seq (.ops [
  ⟨some 33, .move (.tmp 0), 36, none⟩,
  ⟨some 34, .fieldAddr 58 (.tmp 3) 4, 0, none⟩,
  ⟨some 35, .load 3 (.tmp 34), 3, none⟩,
  ⟨some 36, .binOp .eql 3 (.tmp 35) (.const (.int .i64 12)) 3, 4, none⟩,
  ⟨some 37, .move (.tmp 36), 4, none⟩,
  ⟨some 38, .move (.tmp 8), 4, (some (37, true))⟩,
  ⟨some 39, .pick (.tmp 37) (.tmp 38) (.const (.bool false)), 4, none⟩,
  ⟨some 40, .call ⟨.value (.func 122), #[(.tmp 39)], #[4]⟩, 3, none⟩,
  ⟨some 4, .assign (.tmp 33), 36, none⟩,
  ⟨some 5, .assign (.tmp 40), 3, none⟩,
  ⟨some 6, .assign (.const (.bool true)), 4, none⟩] [4, 5, 6]) (sg c94S0))
  (.seq (.ops [
  ⟨some 42, .fieldAddr 58 (.tmp 3) 4, 0, none⟩,
  ⟨some 43, .load 3 (.tmp 42), 3, none⟩,
  ⟨some 44, .binOp .eql 3 (.tmp 43) (.const (.int .i64 10)) 3, 4, none⟩,
  ⟨some 41, .assign (.tmp 44), 4, none⟩] [0, 3, 7, 41])
  (.cond (.tmp 41)
   (.seq (.ops [
   ⟨some 45, .move (.tmp 0), 36, none⟩,
   ⟨some 46, .move (.tmp 7), 3, none⟩,
   ⟨some 47, .fieldAddr 58 (.tmp 3) 5, 0, none⟩,
   ⟨some 48, .load 3 (.tmp 47), 3, none⟩,
   ⟨some 49, .buildSlice 36 1 #[(0, (.tmp 48))], 36, none⟩,
   ⟨some 50, .call ⟨.value (.func 123), #[(.tmp 45), (.tmp 46), (.tmp 49)], #[36, 3, 36]⟩, 36, none⟩,
   ⟨some 4, .assign (.tmp 50), 36, none⟩,
   ⟨some 5, .assign (.const (.int .i64 1)), 3, none⟩,
   ⟨some 6, .assign (.const (.bool true)), 4, none⟩] [4, 5, 6]) (sg c94S1))
   (.seq (.ops [
   ⟨some 52, .fieldAddr 58 (.tmp 3) 4, 0, none⟩,
   ⟨some 53, .load 3 (.tmp 52), 3, none⟩,
   ⟨some 54, .binOp .eql 3 (.tmp 53) (.const (.int .i64 11)) 3, 4, none⟩,
   ⟨some 51, .assign (.tmp 54), 4, none⟩] [0, 7, 51])
   (.cond (.tmp 51)
    (.seq (.ops [
    ⟨some 55, .move (.tmp 0), 36, none⟩,
    ⟨some 56, .move (.tmp 7), 3, none⟩,
    ⟨some 57, .move (.tmp 7), 3, none⟩,
    ⟨some 58, .binOp .add 3 (.tmp 57) (.const (.int .i64 1)) 3, 3, none⟩,
    ⟨some 59, .call ⟨.value (.func 124), #[(.tmp 55), (.tmp 56), (.tmp 58)], #[36, 3, 3]⟩, 36, none⟩,
    ⟨some 4, .assign (.tmp 59), 36, none⟩,
    ⟨some 5, .assign (.const (.int .i64 1)), 3, none⟩,
    ⟨some 6, .assign (.const (.bool true)), 4, none⟩] [4, 5, 6]) (sg c94S2))
    (.skip []))))))
noncomputable def c94S4 (_ : Unit) : Cmd := (.seq (.ops [
 ⟨some 4, .assign (.const (.slice none 0 0)), 36, none⟩,
 ⟨some 5, .assign (.const (.int .i64 0)), 3, none⟩,
 ⟨some 6, .assign (.const (.bool false)), 4, none⟩] [4, 5, 6])
 .ret)
noncomputable def c94S5 (_ : Unit) : Cmd := (.seq (.block 0 (.seq (.seq (.ops [
 ⟨some 17, .fieldAddr 58 (.tmp 3) 4, 0, none⟩,
 ⟨some 18, .load 3 (.tmp 17), 3, none⟩,
 ⟨some 19, .binOp .eql 3 (.tmp 18) (.const (.int .i64 12)) 3, 4, none⟩,
 ⟨some 16, .assign (.tmp 19), 4, none⟩] [0, 3, 7, 8, 16])
 (.cond (.tmp 16)
  (.skip [0, 3, 7, 8, 16])
  (.seq (.ops [
  ⟨some 20, .fieldAddr 58 (.tmp 3) 4, 0, none⟩,
  ⟨some 21, .load 3 (.tmp 20), 3, none⟩,
  ⟨some 22, .binOp .eql 3 (.tmp 21) (.const (.int .i64 10)) 3, 4, none⟩,
  ⟨some 23, .move (.tmp 22), 4, none⟩,
  ⟨some 24, .move (.tmp 8), 4, (some (23, true))⟩,
  ⟨some 25, .pick (.tmp 23) (.tmp 24) (.const (.bool false)), 4, none⟩,
  ⟨some 16, .assign (.tmp 25), 4, none⟩] [0, 3, 7, 8, 16])
  (.cond (.tmp 16)
   (.skip [0, 3, 7, 8, 16])
   (.ops [
   ⟨some 26, .fieldAddr 58 (.tmp 3) 4, 0, none⟩,
   ⟨some 27, .load 3 (.tmp 26), 3, none⟩,
   ⟨some 28, .binOp .eql 3 (.tmp 27) (.const (.int .i64 11)) 3, 4, none⟩,
   ⟨some 29, .move (.tmp 28), 4, none⟩,
   ⟨some 30, .move (.tmp 8), 4, (some (29, true))⟩,
   ⟨some 31, .unOp .not 4 (.tmp 30), 4, (some (29, true))⟩,
   ⟨some 32, .pick (.tmp 29) (.tmp 31) (.const (.bool false)), 4, none⟩,
   ⟨some 16, .assign (.tmp 32), 4, none⟩] [0, 3, 7, 8, 16]))))) (sg c94S3))) (sg c94S4))
noncomputable def c94 : Cmd := (.seq (.ops [
 ⟨some 3, .box 58 (.tmp 1), 0, none⟩,
 ⟨some 4, .assign (.const (.slice none 0 0)), 36, none⟩,
 ⟨some 5, .assign (.const (.int .i64 0)), 3, none⟩,
 ⟨some 6, .assign (.const (.bool false)), 4, none⟩] [0, 3])
 (.seq (.ops [
 ⟨some 10, .move (.tmp 0), 36, none⟩,
 ⟨some 11, .fieldAddr 58 (.tmp 3) 5, 0, none⟩,
 ⟨some 12, .load 3 (.tmp 11), 3, none⟩,
 ⟨some 13, .call ⟨.value (.func 121), #[(.tmp 10), (.tmp 12)], #[36, 3]⟩, 142, none⟩,
 ⟨some 9, .move (.tmp 13), 142, none⟩,
 ⟨some 14, .extract (.tmp 9) 0, 3, none⟩,
 ⟨some 15, .extract (.tmp 9) 1, 4, none⟩,
 ⟨some 7, .assign (.tmp 14), 3, none⟩,
 ⟨some 8, .assign (.tmp 15), 4, none⟩] [0, 3, 7, 8]) (sg c94S5)))
set_option maxRecDepth 100000 in
theorem ent94 (a0 a1 : Value) (w : World) (K : Value → World → Prop) (h : W Try.prog c94 [(0, a0), (1, a1)] w (finQ Try.prog [.tmp 4, .tmp 5, .tmp 6] K)) : Ret Try.prog 94 [a0, a1] w K :=
  Ret_of_W (code := c94code) Try.func94 (by kernel_rfl) (by kernel_rfl) (of_decide_eq_true (by kernel_rfl)) h
@[go_sem] theorem go94 : goFunc Try.prog 94 = true := by kernel_rfl
noncomputable def c106code : Code := match Try.f106.body with | some c => c | none => .skip
noncomputable def c106S0 (_ : Unit) : Cmd := (.cond (.tmp 44)
  (.seq (.ops [
  ⟨some 45, .fieldAddr 58 (.tmp 3) 6, 0, none⟩,
  ⟨some 46, .load 3 (.tmp 45), 3, none⟩,
  ⟨some 47, .buildSlice 36 1 #[(0, (.tmp 46))], 36, none⟩,
  ⟨some 48, .build 117 #[(0, (.tmp 47)), (1, (.const (.int .i64 1))), (2, (.const (.bool true)))], 117, none⟩,
  ⟨none, .store 117 (.tmp 4) (.tmp 48), 0, none⟩] [4])
  .ret)
  (.skip [0, 3, 4]))
noncomputable def c106S1 (_ : Unit) : Cmd := (.seq (.ops [
 ⟨some 87, .build 117 #[], 117, none⟩,
 ⟨none, .store 117 (.tmp 4) (.tmp 87), 0, none⟩] [4])
 .ret)
noncomputable def c106S2 (_ : Unit) : Cmd := (.seq (.seq (.ops [
 ⟨some 73, .fieldAddr 58 (.tmp 3) 3, 0, none⟩,
 ⟨some 74, .load 3 (.tmp 73), 3, none⟩,
 ⟨some 75, .binOp .eql 3 (.tmp 74) (.const (.int .i64 2)) 3, 4, none⟩,
 ⟨some 76, .move (.tmp 75), 4, none⟩,
 ⟨some 77, .fieldAddr 58 (.tmp 3) 4, 0, (some (76, true))⟩,
 ⟨some 78, .load 3 (.tmp 77), 3, (some (76, true))⟩,
 ⟨some 79, .binOp .eql 3 (.tmp 78) (.const (.int .i64 5)) 3, 4, (some (76, true))⟩,
 ⟨some 80, .pick (.tmp 76) (.tmp 79) (.const (.bool false)), 4, none⟩] [0, 4, 80])
 (.cond (.tmp 80)
  (.seq (.opsX [
  ⟨some 81, .move (.tmp 0), 36, none⟩,
  ⟨some 82, .indexAddr 36 (.tmp 81) (.const (.int .i64 0)), 0, none⟩,
  ⟨some 83, .load 3 (.tmp 82), 3, none⟩,
  ⟨some 84, .binOp .sub 3 (.tmp 83) (.const (.int .i64 1)) 3, 3, none⟩,
  ⟨some 85, .buildSlice 36 1 #[(0, (.tmp 84))], 36, none⟩,
  ⟨some 86, .build 117 #[(0, (.tmp 85)), (1, (.const (.int .i64 0))), (2, (.const (.bool true)))], 117, none⟩,
  ⟨none, .store 117 (.tmp 4) (.tmp 86), 0, none⟩] [4])
  .ret)
  (.skip [4]))) (sg c106S1))
noncomputable def c106S3 (_ : Unit) : Cmd := (.seq (.seq (.ops [
 ⟨some 59, .fieldAddr 58 (.tmp 3) 3, 0, none⟩,
 ⟨some 60, .load 3 (.tmp 59), 3, none⟩,
 ⟨some 61, .binOp .eql 3 (.tmp 60) (.const (.int .i64 2)) 3, 4, none⟩,
 ⟨some 62, .move (.tmp 61), 4, none⟩,
 ⟨some 63, .fieldAddr 58 (.tmp 3) 4, 0, (some (62, true))⟩,
 ⟨some 64, .load 3 (.tmp 63), 3, (some (62, true))⟩,
 ⟨some 65, .binOp .eql 3 (.tmp 64) (.const (.int .i64 4)) 3, 4, (some (62, true))⟩,
 ⟨some 66, .pick (.tmp 62) (.tmp 65) (.const (.bool false)), 4, none⟩] [0, 3, 4, 66])
 (.cond (.tmp 66)
  (.seq (.opsX [
  ⟨some 67, .move (.tmp 0), 36, none⟩,
  ⟨some 68, .indexAddr 36 (.tmp 67) (.const (.int .i64 0)), 0, none⟩,
  ⟨some 69, .load 3 (.tmp 68), 3, none⟩,
  ⟨some 70, .binOp .add 3 (.tmp 69) (.const (.int .i64 1)) 3, 3, none⟩,
  ⟨some 71, .buildSlice 36 1 #[(0, (.tmp 70))], 36, none⟩,
  ⟨some 72, .build 117 #[(0, (.tmp 71)), (1, (.const (.int .i64 0))), (2, (.const (.bool true)))], 117, none⟩,
  ⟨none, .store 117 (.tmp 4) (.tmp 72), 0, none⟩] [4])
  .ret)
  (.skip [0, 3, 4]))) (sg c106S2))
noncomputable def c106S4 (_ : Unit) : Cmd := (.seq (.seq (.ops [
 ⟨some 49, .fieldAddr 58 (.tmp 3) 3, 0, none⟩,
 ⟨some 50, .load 3 (.tmp 49), 3, none⟩,
 ⟨some 51, .binOp .eql 3 (.tmp 50) (.const (.int .i64 1)) 3, 4, none⟩,
 ⟨some 52, .move (.tmp 51), 4, none⟩,
 ⟨some 53, .fieldAddr 58 (.tmp 3) 4, 0, (some (52, true))⟩,
 ⟨some 54, .load 3 (.tmp 53), 3, (some (52, true))⟩,
 ⟨some 55, .binOp .eql 3 (.tmp 54) (.const (.int .i64 3)) 3, 4, (some (52, true))⟩,
 ⟨some 56, .pick (.tmp 52) (.tmp 55) (.const (.bool false)), 4, none⟩] [0, 3, 4, 56])
 (.cond (.tmp 56)
  (.seq (.ops [
  ⟨some 57, .move (.tmp 0), 36, none⟩,
  ⟨some 58, .build 117 #[(0, (.tmp 57)), (1, (.const (.int .i64 0))), (2, (.const (.bool true)))], 117, none⟩,
  ⟨none, .store 117 (.tmp 4) (.tmp 58), 0, none⟩] [4])
  .ret)
  (.skip [0, 3, 4]))) (sg c106S3))
noncomputable def c106S5 (_ : Unit) : Cmd := (.seq (.seq (.draw (drawOps 0 c106code) [0, 3, 4, 44]) (sg c106S0)) (sg c106S4))
noncomputable def c106S6 (_ : Unit) : Cmd := (.seq (.seq (.ops [
 ⟨some 17, .fieldAddr 58 (.tmp 3) 3, 0, none⟩,
 ⟨some 18, .load 3 (.tmp 17), 3, none⟩,
 ⟨some 19, .binOp .eql 3 (.tmp 18) (.const (.int .i64 1)) 3, 4, none⟩,
 ⟨some 20, .move (.tmp 19), 4, none⟩,
 ⟨some 21, .fieldAddr 58 (.tmp 3) 4, 0, (some (20, true))⟩,
 ⟨some 22, .load 3 (.tmp 21), 3, (some (20, true))⟩,
 ⟨some 23, .binOp .eql 3 (.tmp 22) (.const (.int .i64 2)) 3, 4, (some (20, true))⟩,
 ⟨some 24, .pick (.tmp 20) (.tmp 23) (.const (.bool false)), 4, none⟩] [0, 3, 4, 24])
 (.cond (.tmp 24)
  (.seq (.ops [
  ⟨some 25, .fieldAddr 58 (.tmp 3) 5, 0, none⟩,
  ⟨some 26, .load 3 (.tmp 25), 3, none⟩,
  ⟨some 27, .buildSlice 36 1 #[(0, (.tmp 26))], 36, none⟩,
  ⟨some 28, .build 117 #[(0, (.tmp 27)), (1, (.const (.int .i64 0))), (2, (.const (.bool true)))], 117, none⟩,
  ⟨none, .store 117 (.tmp 4) (.tmp 28), 0, none⟩] [4])
  .ret)
  (.skip [0, 3, 4]))) (sg c106S5))
noncomputable def c106S7 (_ : Unit) : Cmd := (.seq (.seq (.ops [
 ⟨some 9, .fieldAddr 58 (.tmp 3) 4, 0, none⟩,
 ⟨some 10, .load 3 (.tmp 9), 3, none⟩,
 ⟨some 11, .binOp .eql 3 (.tmp 10) (.const (.int .i64 1)) 3, 4, none⟩] [0, 3, 4, 11])
 (.cond (.tmp 11)
  (.seq (.ops [
  ⟨some 12, .move (.tmp 0), 36, none⟩,
  ⟨some 13, .move (.tmp 0), 36, none⟩,
  ⟨some 14, .indexAddr 36 (.tmp 13) (.const (.int .i64 0)), 0, none⟩,
  ⟨some 15, .load 3 (.tmp 14), 3, none⟩,
  ⟨some 16, .build 117 #[(0, (.tmp 12)), (1, (.tmp 15)), (2, (.const (.bool true)))], 117, none⟩,
  ⟨none, .store 117 (.tmp 4) (.tmp 16), 0, none⟩] [4])
  .ret)
  (.skip [0, 3, 4]))) (sg c106S6))
noncomputable def c106 : Cmd := (.seq (.ops [
 ⟨some 3, .box 58 (.tmp 1), 0, none⟩,
 ⟨some 4, .alloc 117, 0, none⟩] [0, 3, 4])
 (.seq (.seq (.ops [
 ⟨some 5, .move (.tmp 0), 36, none⟩,
 ⟨some 6, .call ⟨.builtin .len, #[(.tmp 5)], #[36]⟩, 3, none⟩,
 ⟨some 7, .binOp .neq 3 (.tmp 6) (.const (.int .i64 1)) 3, 4, none⟩] [0, 3, 4, 7])
 (.cond (.tmp 7)
  (.seq (.ops [
  ⟨some 8, .build 117 #[], 117, none⟩,
  ⟨none, .store 117 (.tmp 4) (.tmp 8), 0, none⟩] [4])
  .ret)
  (.skip [0, 3, 4]))) (sg c106S7)))
noncomputable def c106D0 : List (Bool × Ins) := [
 (true, ⟨some 29, .fieldAddr 58 (.tmp 3) 3, 0, none⟩),
 (false, ⟨some 30, .load 3 (.tmp 29), 3, none⟩),
 (true, ⟨some 31, .binOp .eql 3 (.tmp 30) (.const (.int .i64 1)) 3, 4, none⟩),
 (true, ⟨some 32, .move (.tmp 31), 4, none⟩),
 (true, ⟨some 33, .fieldAddr 58 (.tmp 3) 4, 0, (some (32, true))⟩),
 (false, ⟨some 34, .load 3 (.tmp 33), 3, (some (32, true))⟩),
 (true, ⟨some 35, .binOp .eql 3 (.tmp 34) (.const (.int .i64 3)) 3, 4, (some (32, true))⟩),
 (true, ⟨some 36, .pick (.tmp 32) (.tmp 35) (.const (.bool false)), 4, none⟩),
 (true, ⟨some 37, .move (.tmp 36), 4, none⟩),
 (true, ⟨some 38, .move (.tmp 0), 36, (some (37, true))⟩),
 (true, ⟨some 39, .indexAddr 36 (.tmp 38) (.const (.int .i64 0)), 0, (some (37, true))⟩),
 (false, ⟨some 40, .load 3 (.tmp 39), 3, (some (37, true))⟩),
 (true, ⟨some 41, .fieldAddr 58 (.tmp 3) 5, 0, (some (37, true))⟩),
 (false, ⟨some 42, .load 3 (.tmp 41), 3, (some (37, true))⟩),
 (true, ⟨some 43, .binOp .eql 3 (.tmp 40) (.tmp 42) 3, 4, (some (37, true))⟩),
 (true, ⟨some 44, .pick (.tmp 37) (.tmp 43) (.const (.bool false)), 4, none⟩)]
theorem c106draw0 {L : List Nat} {ρ : Env} {w : World} {Q : Post} (h : DL Try.prog c106D0 L ρ w.drew Q) : drawW Try.prog (drawOps 0 c106code) L ρ w Q :=
  drawW_still [true, false, true, true, true, false, true, true, true, true, true, false, true, false, true, true] c106D0 (by kernel_rfl) (by kernel_rfl) (by kernel_rfl) h
set_option maxRecDepth 100000 in
theorem ent106 (a0 a1 : Value) (w : World) (K : Value → World → Prop) (h : W Try.prog c106 [(0, a0), (1, a1)] w (finQ Try.prog [.cell 4 117] K)) : Ret Try.prog 106 [a0, a1] w K :=
  Ret_of_W (code := c106code) Try.func106 (by kernel_rfl) (by kernel_rfl) (of_decide_eq_true (by kernel_rfl)) h
@[go_sem] theorem go106 : goFunc Try.prog 106 = true := by kernel_rfl
noncomputable def c107code : Code := match Try.f107.body with | some c => c | none => .skip
noncomputable def c107S0 (_ : Unit) : Cmd := (.ops [
 ⟨some 11, .move (.tmp 6), 3, none⟩,
 ⟨some 12, .binOp .add 3 (.tmp 11) (.const (.int .i64 1)) 3, 3, none⟩,
 ⟨some 6, .assign (.tmp 12), 3, none⟩] [0, 1, 5, 6])
noncomputable def c107S1 (_ : Unit) : Cmd := (.seq (.block 1 (.seq (.ops [
 ⟨some 13, .move (.tmp 0), 36, none⟩,
 ⟨some 14, .move (.tmp 6), 3, none⟩,
 ⟨some 15, .indexAddr 36 (.tmp 13) (.tmp 14), 0, none⟩,
 ⟨some 16, .load 3 (.tmp 15), 3, none⟩,
 ⟨some 17, .move (.tmp 1), 3, none⟩,
 ⟨some 18, .binOp .neq 3 (.tmp 16) (.tmp 17) 3, 4, none⟩] [0, 1, 5, 6, 18])
 (.cond (.tmp 18)
  (.ops [
  ⟨some 19, .move (.tmp 5), 36, none⟩,
  ⟨some 20, .move (.tmp 0), 36, none⟩,
  ⟨some 21, .move (.tmp 6), 3, none⟩,
  ⟨some 22, .indexAddr 36 (.tmp 20) (.tmp 21), 0, none⟩,
  ⟨some 23, .load 3 (.tmp 22), 3, none⟩,
  ⟨some 24, .buildSlice 36 1 #[(0, (.tmp 23))], 36, none⟩,
  ⟨some 25, .call ⟨.builtin .append, #[(.tmp 19), (.tmp 24)], #[36, 36]⟩, 36, none⟩,
  ⟨some 5, .assign (.tmp 25), 36, none⟩] [0, 1, 5, 6])
  (.skip [0, 1, 5, 6])))) (sg c107S0))
noncomputable def c107L0 (_ : Unit) : Cmd := (.seq (.seq (.ops [
 ⟨some 7, .move (.tmp 6), 3, none⟩,
 ⟨some 8, .move (.tmp 0), 36, none⟩,
 ⟨some 9, .call ⟨.builtin .len, #[(.tmp 8)], #[36]⟩, 3, none⟩,
 ⟨some 10, .binOp .lss 3 (.tmp 7) (.tmp 9) 3, 4, none⟩] [0, 1, 5, 6, 10])
 (.cond (.tmp 10)
  (.skip [0, 1, 5, 6])
  (.exit 0 [5]))) (sg c107S1))
noncomputable def c107S2 (_ : Unit) : Cmd := (.seq (.ops [
 ⟨some 26, .move (.tmp 5), 36, none⟩,
 ⟨some 4, .assign (.tmp 26), 36, none⟩] [4])
 .ret)
noncomputable def c107 : Cmd := (.seq (.ops [
 ⟨some 4, .assign (.const (.slice none 0 0)), 36, none⟩] [0, 1])
 (.seq (.ops [
 ⟨some 5, .assign (.const (.slice none 0 0)), 36, none⟩] [0, 1, 5])
 (.seq (.seq (.ops [
 ⟨some 6, .assign (.const (.int .i64 0)), 3, none⟩] [0, 1, 5, 6])
 (.block 0 (.loop (sg c107L0)))) (sg c107S2))))
set_option maxRecDepth 100000 in
theorem ent107 (a0 a1 : Value) (w : World) (K : Value → World → Prop) (h : W Try.prog c107 [(0, a0), (1, a1)] w (finQ Try.prog [.tmp 4] K)) : Ret Try.prog 107 [a0, a1] w K :=
  Ret_of_W (code := c107code) Try.func107 (by kernel_rfl) (by kernel_rfl) (of_decide_eq_true (by kernel_rfl)) h
@[go_sem] theorem go107 : goFunc Try.prog 107 = true := by kernel_rfl
noncomputable def c108code : Code := match Try.f108.body with | some c => c | none => .skip
noncomputable def c108S0 (_ : Unit) : Cmd := (.ops [
  ⟨some 6, .assign (.const (.bool true)), 4, none⟩] [0, 1, 5, 6, 7])
noncomputable def c108S1 (_ : Unit) : Cmd := (.ops [
 ⟨some 28, .move (.tmp 5), 36, none⟩,
 ⟨some 29, .move (.tmp 0), 36, none⟩,
 ⟨some 30, .move (.tmp 7), 3, none⟩,
 ⟨some 31, .indexAddr 36 (.tmp 29) (.tmp 30), 0, none⟩,
 ⟨some 32, .load 3 (.tmp 31), 3, none⟩,
 ⟨some 33, .buildSlice 36 1 #[(0, (.tmp 32))], 36, none⟩,
 ⟨some 34, .call ⟨.builtin .append, #[(.tmp 28), (.tmp 33)], #[36, 36]⟩, 36, none⟩,
 ⟨some 5, .assign (.tmp 34), 36, none⟩] [0, 1, 5, 6, 7])
noncomputable def c108S2 (_ : Unit) : Cmd := (.ops [
 ⟨some 12, .move (.tmp 7), 3, none⟩,
 ⟨some 13, .binOp .add 3 (.tmp 12) (.const (.int .i64 1)) 3, 3, none⟩,
 ⟨some 7, .assign (.tmp 13), 3, none⟩] [0, 1, 5, 6, 7])
noncomputable def c108S3 (_ : Unit) : Cmd := (.seq (.block 1 (.seq (.seq (.ops [
 ⟨some 14, .move (.tmp 6), 4, none⟩,
 ⟨some 15, .unOp .not 4 (.tmp 14), 4, none⟩,
 ⟨some 16, .move (.tmp 15), 4, none⟩,
 ⟨some 17, .move (.tmp 0), 36, (some (16, true))⟩,
 ⟨some 18, .move (.tmp 7), 3, (some (16, true))⟩,
 ⟨some 19, .indexAddr 36 (.tmp 17) (.tmp 18), 0, (some (16, true))⟩,
 ⟨some 20, .load 3 (.tmp 19), 3, (some (16, true))⟩,
 ⟨some 21, .move (.tmp 1), 3, (some (16, true))⟩,
 ⟨some 22, .binOp .gtr 3 (.tmp 20) (.tmp 21) 3, 4, (some (16, true))⟩,
 ⟨some 23, .pick (.tmp 16) (.tmp 22) (.const (.bool false)), 4, none⟩] [0, 1, 5, 6, 7, 23])
 (.cond (.tmp 23)
  (.seq (.ops [
  ⟨some 24, .move (.tmp 5), 36, none⟩,
  ⟨some 25, .move (.tmp 1), 3, none⟩,
  ⟨some 26, .buildSlice 36 1 #[(0, (.tmp 25))], 36, none⟩,
  ⟨some 27, .call ⟨.builtin .append, #[(.tmp 24), (.tmp 26)], #[36, 36]⟩, 36, none⟩,
  ⟨some 5, .assign (.tmp 27), 36, none⟩] [0, 1, 5, 7]) (sg c108S0))
  (.skip [0, 1, 5, 6, 7]))) (sg c108S1))) (sg c108S2))
noncomputable def c108L0 (_ : Unit) : Cmd := (.seq (.seq (.ops [
 ⟨some 8, .move (.tmp 7), 3, none⟩,
 ⟨some 9, .move (.tmp 0), 36, none⟩,
 ⟨some 10, .call ⟨.builtin .len, #[(.tmp 9)], #[36]⟩, 3, none⟩,
 ⟨some 11, .binOp .lss 3 (.tmp 8) (.tmp 10) 3, 4, none⟩] [0, 1, 5, 6, 7, 11])
 (.cond (.tmp 11)
  (.skip [0, 1, 5, 6, 7])
  (.exit 0 [1, 5, 6]))) (sg c108S3))
noncomputable def c108S4 (_ : Unit) : Cmd := (.seq (.ops [
 ⟨some 41, .move (.tmp 5), 36, none⟩,
 ⟨some 4, .assign (.tmp 41), 36, none⟩] [4])
 .ret)
noncomputable def c108S5 (_ : Unit) : Cmd := (.seq (.seq (.ops [
 ⟨some 35, .move (.tmp 6), 4, none⟩,
 ⟨some 36, .unOp .not 4 (.tmp 35), 4, none⟩] [1, 5, 36])
 (.cond (.tmp 36)
  (.ops [
  ⟨some 37, .move (.tmp 5), 36, none⟩,
  ⟨some 38, .move (.tmp 1), 3, none⟩,
  ⟨some 39, .buildSlice 36 1 #[(0, (.tmp 38))], 36, none⟩,
  ⟨some 40, .call ⟨.builtin .append, #[(.tmp 37), (.tmp 39)], #[36, 36]⟩, 36, none⟩,
  ⟨some 5, .assign (.tmp 40), 36, none⟩] [5])
  (.skip [5]))) (sg c108S4))
noncomputable def c108 : Cmd := (.seq (.ops [
 ⟨some 4, .assign (.const (.slice none 0 0)), 36, none⟩] [0, 1])
 (.seq (.ops [
 ⟨some 5, .assign (.const (.slice none 0 0)), 36, none⟩] [0, 1, 5])
 (.seq (.ops [
 ⟨some 6, .assign (.const (.bool false)), 4, none⟩] [0, 1, 5, 6])
 (.seq (.seq (.ops [
 ⟨some 7, .assign (.const (.int .i64 0)), 3, none⟩] [0, 1, 5, 6, 7])
 (.block 0 (.loop (sg c108L0)))) (sg c108S5)))))
set_option maxRecDepth 100000 in
theorem ent108 (a0 a1 : Value) (w : World) (K : Value → World → Prop) (h : W Try.prog c108 [(0, a0), (1, a1)] w (finQ Try.prog [.tmp 4] K)) : Ret Try.prog 108 [a0, a1] w K :=
  Ret_of_W (code := c108code) Try.func108 (by kernel_rfl) (by kernel_rfl) (of_decide_eq_true (by kernel_rfl)) h
@[go_sem] theorem go108 : goFunc Try.prog 108 = true := by kernel_rfl
noncomputable def c109code : Code := match Try.f109.body with | some c => c | none => .skip
noncomputable def c109 : Cmd := (.seq (.ops [
 ⟨some 0, .assign (.const (.slice none 0 0)), 148, none⟩] [])
 (.seq (.ops [
 ⟨some 1, .build 121 #[(0, (.const (.int .i64 1))), (1, (.const (.int .i64 1))), (2, (.const (.int .i64 0))), (3, (.const (.int .i64 2)))], 121, none⟩,
 ⟨some 2, .build 121 #[(0, (.const (.int .i64 1))), (1, (.const (.int .i64 2))), (2, (.const (.int .i64 1))), (3, (.const (.int .i64 0)))], 121, none⟩,
 ⟨some 3, .build 121 #[(0, (.const (.int .i64 1))), (1, (.const (.int .i64 3))), (2, (.const (.int .i64 2))), (3, (.const (.int .i64 1)))], 121, none⟩,
 ⟨some 4, .build 121 #[(0, (.const (.int .i64 2))), (1, (.const (.int .i64 1))), (2, (.const (.int .i64 0))), (3, (.const (.int .i64 3)))], 121, none⟩,
 ⟨some 5, .build 121 #[(0, (.const (.int .i64 2))), (1, (.const (.int .i64 4))), (2, (.const (.int .i64 0))), (3, (.const (.int .i64 0)))], 121, none⟩,
 ⟨some 6, .build 121 #[(0, (.const (.int .i64 2))), (1, (.const (.int .i64 5))), (2, (.const (.int .i64 0))), (3, (.const (.int .i64 0)))], 121, none⟩,
 ⟨some 7, .build 121 #[(0, (.const (.int .i64 3))), (1, (.const (.int .i64 6))), (2, (.const (.int .i64 1))), (3, (.const (.int .i64 0)))], 121, none⟩,
 ⟨some 8, .build 121 #[(0, (.const (.int .i64 3))), (1, (.const (.int .i64 7))), (2, (.const (.int .i64 0))), (3, (.const (.int .i64 4)))], 121, none⟩,
 ⟨some 9, .build 121 #[(0, (.const (.int .i64 4))), (1, (.const (.int .i64 8))), (2, (.const (.int .i64 1))), (3, (.const (.int .i64 0)))], 121, none⟩,
 ⟨some 10, .build 121 #[(0, (.const (.int .i64 4))), (1, (.const (.int .i64 9))), (2, (.const (.int .i64 0))), (3, (.const (.int .i64 4)))], 121, none⟩,
 ⟨some 11, .build 121 #[(0, (.const (.int .i64 5))), (1, (.const (.int .i64 10))), (2, (.const (.int .i64 1))), (3, (.const (.int .i64 1)))], 121, none⟩,
 ⟨some 12, .build 121 #[(0, (.const (.int .i64 5))), (1, (.const (.int .i64 11))), (2, (.const (.int .i64 1))), (3, (.const (.int .i64 1)))], 121, none⟩,
 ⟨some 13, .build 121 #[(0, (.const (.int .i64 5))), (1, (.const (.int .i64 12))), (2, (.const (.int .i64 1))), (3, (.const (.int .i64 1)))], 121, none⟩,
 ⟨some 14, .build 121 #[(0, (.const (.int .i64 6))), (1, (.const (.int .i64 13))), (2, (.const (.int .i64 0))), (3, (.const (.int .i64 0)))], 121, none⟩,
 ⟨some 15, .build 121 #[(0, (.const (.int .i64 6))), (1, (.const (.int .i64 14))), (2, (.const (.int .i64 0))), (3, (.const (.int .i64 0)))], 121, none⟩,
 ⟨some 16, .buildSlice 148 15 #[(0, (.tmp 1)), (1, (.tmp 2)), (2, (.tmp 3)), (3, (.tmp 4)), (4, (.tmp 5)), (5, (.tmp 6)), (6, (.tmp 7)), (7, (.tmp 8)), (8, (.tmp 9)), (9, (.tmp 10)), (10, (.tmp 11)), (11, (.tmp 12)), (12, (.tmp 13)), (13, (.tmp 14)), (14, (.tmp 15))], 148, none⟩,
 ⟨some 0, .assign (.tmp 16), 148, none⟩] [0])
 .ret))
set_option maxRecDepth 100000 in
theorem ent109 (w : World) (K : Value → World → Prop) (h : W Try.prog c109 [] w (finQ Try.prog [.tmp 0] K)) : Ret Try.prog 109 [] w K :=
  Ret_of_W (code := c109code) Try.func109 (by kernel_rfl) (by kernel_rfl) (of_decide_eq_true (by kernel_rfl)) h
@[go_sem] theorem go109 : goFunc Try.prog 109 = true := by kernel_rfl
noncomputable def c122code : Code := match Try.f122.body with | some c => c | none => .skip
noncomputable def c122S0 (_ : Unit) : Cmd := (.seq (.ops [
 ⟨some 2, .assign (.const (.int .i64 0)), 3, none⟩] [2])
 .ret)
noncomputable def c122 : Cmd := (.seq (.ops [
 ⟨some 2, .assign (.const (.int .i64 0)), 3, none⟩] [0])
 (.seq (.seq (.ops [
 ⟨some 3, .move (.tmp 0), 4, none⟩] [3])
 (.cond (.tmp 3)
  (.seq (.ops [
  ⟨some 2, .assign (.const (.int .i64 1)), 3, none⟩] [2])
  .ret)
  (.skip []))) (sg c122S0)))
set_option maxRecDepth 100000 in
theorem ent122 (a0 : Value) (w : World) (K : Value → World → Prop) (h : W Try.prog c122 [(0, a0)] w (finQ Try.prog [.tmp 2] K)) : Ret Try.prog 122 [a0] w K :=
  Ret_of_W (code := c122code) Try.func122 (by kernel_rfl) (by kernel_rfl) (of_decide_eq_true (by kernel_rfl)) h
@[go_sem] theorem go122 : goFunc Try.prog 122 = true := by kernel_rfl
end Go.Proofs.Ytbeoedgoikcbpaa

namespace Go.Proofs.Ytbeoedgoikcbpaa
set_option linter.unusedSimpArgs false
set_option linter.unusedVariables false
set_option maxRecDepth 100000
open Go Go.Ann Go.RowKit
def u8 (n : Nat) : UInt8 := UInt8.ofNat n
def varL (n : Nat) : List UInt8 := if h : n < 128 then [u8 n] else u8 (n % 128 + 128) :: varL (n / 128)
termination_by n
decreasing_by omega
theorem varL_lt {n : Nat} (h : n < 128) : varL n = [u8 n] := by rw [varL, dif_pos h]
theorem varL_ge {n : Nat} (h : ¬ n < 128) : varL n = u8 (n % 128 + 128) :: varL (n / 128) := by rw [varL, dif_neg h]
theorem varL_len {k : Nat} : ∀ {n : Nat}, n < 128 ^ (k + 1) → (varL n).length ≤ k + 1 := by
  induction k with
  | zero => intro n h; rw [varL_lt (by simpa using h)]; simp
  | succ k ih =>
    intro n h
    by_cases hn : n < 128
    · rw [varL_lt hn]; simp
    · rw [varL_ge hn, List.length_cons]
      have : n / 128 < 128 ^ (k + 1) := by
        rw [Nat.div_lt_iff_lt_mul (by decide)]
        rw [Nat.pow_succ] at h; omega
      have := ih this
      omega
theorem varL_10 {n : Nat} (h : n < 18446744073709551616) : (varL n).length ≤ 10 := varL_len (k := 9) (by omega)
def byteC (b : UInt8) : Value := .int .u8 b.toNat
theorem wrap_u8 (n : Nat) : IntKind.u8.wrap (n : Int) = ((u8 n).toNat : Int) := by
  rw [wrap_u8_mod]; unfold u8; simp
theorem or128 : ∀ x : Fin 256, bits BinOp.or IntKind.u8 (x.val : Int) 128 = ((x.val % 128 + 128 : Nat) : Int) := by decide +kernel
theorem or_u8 (m : Nat) : bits BinOp.or IntKind.u8 (IntKind.u8.wrap (m : Int)) 128 = ((u8 (m % 128 + 128)).toNat : Int) := by
  have h := or128 ⟨m % 256, by omega⟩
  have e : IntKind.u8.wrap (m : Int) = ((m % 256 : Nat) : Int) := by rw [wrap_u8_mod]; omega
  rw [e, h]
  unfold u8
  simp
  omega
theorem byte_one (b : UInt8) : ∀ u ∈ [byteC b], u.oneCell' = true := by intro u hu; rw [List.mem_singleton] at hu; subst hu; rfl
theorem var_ok (n : Nat) (w : World) (hn : n < 18446744073709551616) : Ret Try.prog 72 [.int .u64 n] w fun u w' => u = .string (ofL (varL n)) ∧ Gr w w' := by
  refine ent72 _ _ _ ?_
  simp (disch := first | omega | exact okFill_t rfl | exact okSize_t rfl | exact fun h => h | (simp only [World.size_alloc, World.size_drew, World.size_setCell, size_fill, bytesW]; omega)) only [go_sem, c72, c72S0, c72S1, c72L0, c72S2, c72S3]
  have s1 := (St.start (W0 := w)).nilRow 5 1
  refine W_loopU (fun x : Nat × List UInt8 × Value => [(0, .int .u64 x.1), (3, x.2.2)]) (fun x w' => St w w' (fun _ => False) [.row x.2.2 5 1 x.2.1.length (x.2.1.map byteC)] [] ∧ w.drawn ≤ w'.drawn ∧ varL n = x.2.1 ++ varL x.1 ∧ x.1 < 128 ^ (10 - x.2.1.length) ∧ x.2.1.length ≤ 9) (fun x => x.1) (n, [], .slice none 0 0) rfl ⟨s1, Nat.le_refl _, rfl, by simp; omega, by simp⟩ ?_
  rintro ⟨m, pre, v⟩ w1 ⟨s1, hd, hv, hm, hp⟩
  simp only at s1 hd hv hm hp
  obtain ⟨a, c, rfl, _⟩ := own_slice (s1.row 0 rfl)
  by_cases hlt : m < 128
  · have hlt' : ¬ (128 : Int) ≤ m := by omega
    simp (disch := first | omega | exact okFill_t rfl | exact okSize_t rfl | exact fun h => h | (simp only [World.size_alloc, World.size_drew, World.size_setCell, size_fill, bytesW]; omega)) only [go_sem, c72, c72S0, c72S1, c72L0, c72S2, c72S3, hlt']
    rw [wrap_u8]
    refine bsW_ones ty146mkI rfl rfl (by decide) (by decide) (byte_one _) ?_
    simp (disch := first | omega | exact okFill_t rfl | exact okSize_t rfl | exact fun h => h | (simp only [World.size_alloc, World.size_drew, World.size_setCell, size_fill, bytesW]; omega)) only [go_sem, c72, c72S0, c72S1, c72L0, c72S2, c72S3]
    have hx : Rd (w1.alloc (.cells #[byteC (u8 m)] 5)) 1 (.slice (some ⟨w1.heap.size, 0, none⟩) 1 1) 1 [byteC (u8 m)] := rd_new (n := 1) (cs := #[byteC (u8 m)]) rfl
    refine rawB_D ((s1.alloc' (.cells #[byteC (u8 m)] 5)).append 0 rfl ty146mkI rfl (by decide) hx (byte_one _) (by omega) (by omega) ?_)
    intro v6 w6 s6 c6 d6
    simp only [List.set_cons_zero] at s6
    obtain ⟨a6, c6', rfl, _⟩ := own_slice (s6.row 0 rfl)
    simp (disch := first | omega | exact okFill_t rfl | exact okSize_t rfl | exact fun h => h | (simp only [World.size_alloc, World.size_drew, World.size_setCell, size_fill, bytesW]; omega)) only [go_sem, c72, c72S0, c72S1, c72L0, c72S2, c72S3]
    obtain ⟨g, rfl⟩ : ∃ g, a6 = some ⟨g, 0, none⟩ := by
      obtain ⟨_, ⟨e, h0⟩ | ⟨g, cap, cur, e, _⟩⟩ := s6.row 0 rfl
      · cases h0
      · cases e; exact ⟨_, rfl⟩
    have hc := (s6.row 0 rfl).cells rfl
    refine ⟨varL n, by rw [hv, varL_lt hlt]; simp, fun j b hb => ?_, rfl, s6.bel, Nat.le_trans hd d6⟩
    rw [hv, varL_lt hlt] at hb
    refine hc j _ ?_
    have : pre.map byteC ++ [byteC (u8 m)] = (pre ++ [u8 m]).map byteC := by simp
    rw [this, List.getElem?_map, hb]
    rfl
  · have hlt' : (128 : Int) ≤ m := by omega
    simp (disch := first | omega | exact okFill_t rfl | exact okSize_t rfl | exact fun h => h | (simp only [World.size_alloc, World.size_drew, World.size_setCell, size_fill, bytesW]; omega)) only [go_sem, c72, c72S0, c72S1, c72L0, c72S2, c72S3, hlt']
    rw [or_u8]
    refine bsW_ones ty146mkI rfl rfl (by decide) (by decide) (byte_one _) ?_
    simp (disch := first | omega | exact okFill_t rfl | exact okSize_t rfl | exact fun h => h | (simp only [World.size_alloc, World.size_drew, World.size_setCell, size_fill, bytesW]; omega)) only [go_sem, c72, c72S0, c72S1, c72L0, c72S2, c72S3]
    have hx : Rd (w1.alloc (.cells #[byteC (u8 (m % 128 + 128))] 5)) 1 (.slice (some ⟨w1.heap.size, 0, none⟩) 1 1) 1 [byteC (u8 (m % 128 + 128))] := rd_new (n := 1) (cs := #[byteC (u8 (m % 128 + 128))]) rfl
    refine rawB_D ((s1.alloc' (.cells #[byteC (u8 (m % 128 + 128))] 5)).append 0 rfl ty146mkI rfl (by decide) hx (byte_one _) (by omega) (by omega) ?_)
    intro v6 w6 s6 c6 d6
    simp only [List.set_cons_zero] at s6
    simp (disch := first | omega | exact okFill_t rfl | exact okSize_t rfl | exact fun h => h | (simp only [World.size_alloc, World.size_drew, World.size_setCell, size_fill, bytesW]; omega)) only [go_sem, c72, c72S0, c72S1, c72L0, c72S2, c72S3]
    have e1 : (m : Int) / 2 ^ min 7 64 = ((m / 128 : Nat) : Int) := by
      rw [show (2 : Int) ^ min 7 64 = 128 by decide]; omega
    rw [e1]
    have e2 : pre.map byteC ++ [byteC (u8 (m % 128 + 128))] = (pre ++ [u8 (m % 128 + 128)]).map byteC := by simp
    rw [e2] at s6
    have hp2 : pre.length ≤ 8 := by
      rcases Nat.lt_or_ge 8 pre.length with h | h
      · have : pre.length = 9 := by omega
        rw [this] at hm
        omega
      · exact h
    refine ⟨(m / 128, pre ++ [u8 (m % 128 + 128)], v6), rfl, ⟨by rw [List.length_append]; exact s6, Nat.le_trans hd d6, by simp only; rw [hv, varL_ge hlt, List.append_assoc]; rfl, ?_, by simp; omega⟩, by simp only; omega⟩
    simp only [List.length_append, List.length_singleton]
    rw [Nat.div_lt_iff_lt_mul (by decide), ← Nat.pow_succ]
    rw [show (10 - (pre.length + 1)).succ = 10 - pre.length by omega]
    exact hm
def foldN (n : Int) : Nat := if 0 ≤ n then (2 * n).toNat else (-2 * n - 1).toNat
theorem xor_zero (x : Nat) (h : x < 18446744073709551616) : bits .xor .u64 (x : Int) 0 = x := by
  have e : (BitVec.ofInt 64 (x : Int) ^^^ BitVec.ofInt 64 0).toNat = x := by
    rw [BitVec.toNat_xor]
    have h2 : (BitVec.ofInt 64 (x : Int)).toNat = x := by
      rw [BitVec.ofInt_natCast, BitVec.toNat_ofNat]; exact Nat.mod_eq_of_lt (by omega)
    have h3 : (BitVec.ofInt 64 0).toNat = 0 := by decide
    rw [h2, h3, Nat.xor_zero]
  show IntKind.u64.wrap (((BitVec.ofInt 64 (x : Int) ^^^ BitVec.ofInt 64 0).toNat : Nat) : Int) = _
  rw [e, wrap_u64_id _ (by omega) (by omega)]
theorem xor_ones (x : Nat) (h : x < 18446744073709551616) : bits .xor .u64 (x : Int) 18446744073709551615 = ((18446744073709551615 - x : Nat) : Int) := by
  have e : (BitVec.ofInt 64 (x : Int) ^^^ BitVec.ofInt 64 18446744073709551615).toNat = 18446744073709551615 - x := by
    have h2 : (BitVec.ofInt 64 (x : Int)).toNat = x := by
      rw [BitVec.ofInt_natCast, BitVec.toNat_ofNat]; exact Nat.mod_eq_of_lt (by omega)
    have h3 : BitVec.ofInt 64 18446744073709551615 = BitVec.allOnes 64 := by decide
    rw [h3, BitVec.xor_allOnes, BitVec.toNat_not, h2]
  show IntKind.u64.wrap (((BitVec.ofInt 64 (x : Int) ^^^ BitVec.ofInt 64 18446744073709551615).toNat : Nat) : Int) = _
  rw [e, wrap_u64_id _ (by omega) (by omega)]
theorem wrap_u64 (n : Int) : IntKind.u64.wrap n = n % 18446744073709551616 := by
  simp [IntKind.wrap, IntKind.signed, IntKind.bits]
theorem foldN_lt (n : Int) (h : I64 n) : foldN n < 18446744073709551616 := by
  obtain ⟨h1, h2⟩ := h
  unfold foldN; split <;> omega
theorem fold_ok (n : Int) (w : World) (h : I64 n) : Ret Try.prog 73 [.int .i64 n] w fun u w' => u = .int .u64 (foldN n) ∧ w' = w := by
  obtain ⟨h1, h2⟩ := h
  refine ent73 _ _ _ ?_
  simp (disch := first | omega | exact okFill_t rfl | exact okSize_t rfl | exact fun h => h | (simp only [World.size_alloc, World.size_drew, World.size_setCell, size_fill, bytesW]; omega)) only [go_sem, c73]
  rw [show (2 : Int) ^ min 1 64 = 2 by decide, show (2 : Int) ^ min 63 64 = 9223372036854775808 by decide]
  unfold foldN
  by_cases hn : 0 ≤ n
  · rw [if_pos hn]
    obtain ⟨m, rfl⟩ := Int.eq_ofNat_of_zero_le hn
    have e1 : (m : Int) / 9223372036854775808 = 0 := by omega
    have e2 : IntKind.u64.wrap (IntKind.u64.wrap (m : Int) * 2) = ((2 * m : Nat) : Int) := by rw [wrap_u64, wrap_u64]; omega
    have e3 : IntKind.u64.wrap 0 = 0 := by decide
    rw [e1, e2, e3, xor_zero _ (by omega)]
    omega
  · rw [if_neg hn]
    obtain ⟨m, hm⟩ : ∃ m : Nat, n = -(m : Int) := ⟨(-n).toNat, by omega⟩
    subst hm
    have e1 : -(m : Int) / 9223372036854775808 = -1 := by omega
    have e2 : IntKind.u64.wrap (IntKind.u64.wrap (-(m : Int)) * 2) = ((18446744073709551616 - 2 * m : Nat) : Int) := by rw [wrap_u64, wrap_u64]; omega
    have e3 : IntKind.u64.wrap (-1) = 18446744073709551615 := by decide
    rw [e1, e2, e3, xor_ones _ (by omega)]
    omega
theorem rfold_ok (n : Int) (w : World) (h : I64 n) : Ret Try.prog 75 [.int .i64 n] w fun u w' => u = .int .u64 (foldN n) ∧ w' = w := by
  obtain ⟨h1, h2⟩ := h
  refine ent75 _ _ _ ?_
  simp (disch := first | omega | exact okFill_t rfl | exact okSize_t rfl | exact fun h => h | (simp only [World.size_alloc, World.size_drew, World.size_setCell, size_fill, bytesW]; omega)) only [go_sem, c75, c75S0]
  unfold foldN
  refine ⟨fun hn => ?_, fun hn => ⟨⟨by omega, by omega⟩, ?_⟩⟩
  · rw [if_pos hn, wrap_u64, wrap_u64]; omega
  · rw [if_neg (by omega), wrap_u64, wrap_u64, wrap_u64]; omega
theorem rvar1 {n : Nat} {w : World} {Q : Value → World → Prop} (h : Q (.slice (some ⟨w.heap.size, 0, none⟩) 1 1) (w.alloc (.cells #[byteC (u8 n)] 5))) : bsW Try.prog 146 1 [0] [.int .u8 (IntKind.u8.wrap n)] w Q := by
  rw [wrap_u8]
  exact bsW_ones ty146mkI rfl rfl (by decide) (by decide) (byte_one _) h
theorem one_byte {w : World} {b : Nat} {x : UInt8} (h : Blk w b #[byteC x] 5) : bytesAt w (some ⟨b, 0, none⟩) [x] := by
  intro i c hc
  match i, hc with
  | 0, hc =>
    simp only [List.getElem?_cons_zero, Option.some.injEq] at hc; subst hc
    exact h.cell 0
  | i + 1, hc => simp at hc
theorem rvar_ok : ∀ (k n : Nat) (w : World), n < 128 ^ (k + 1) → n < 18446744073709551616 → Ret Try.prog 74 [.int .u64 n] w fun u w' => u = .string (ofL (varL n)) ∧ Below w.heap.size w w' := by
  intro k
  induction k with
  | zero =>
    intro n w h hn
    refine ent74 _ _ _ ?_
    have : (n : Int) < 128 := by simp at h; omega
    simp (disch := first | omega | exact okFill_t rfl | exact okSize_t rfl | exact fun h => h | (simp only [World.size_alloc, World.size_drew, World.size_setCell, size_fill, bytesW]; omega)) only [go_sem, c74, c74S0, c74S1, this]
    refine rvar1 ?_
    simp (disch := first | omega | exact okFill_t rfl | exact okSize_t rfl | exact fun h => h | (simp only [World.size_alloc, World.size_drew, World.size_setCell, size_fill, bytesW]; omega)) only [go_sem, c74, c74S0, c74S1]
    refine ⟨[u8 n], rfl, one_byte Blk.new, ?_, (Below.refl _ w).alloc (Nat.le_refl _) _⟩
    rw [varL_lt (by omega)]
  | succ k ih =>
    intro n w h hn
    refine ent74 _ _ _ ?_
    simp (disch := first | omega | exact okFill_t rfl | exact okSize_t rfl | exact fun h => h | (simp only [World.size_alloc, World.size_drew, World.size_setCell, size_fill, bytesW]; omega)) only [go_sem, c74, c74S0, c74S1]
    have bl := fun x => (Below.refl w.heap.size w).alloc (Nat.le_refl _) (.cells #[byteC x] 5)
    refine ⟨fun h => rvar1 ?_, fun h => ?_⟩
    · simp (disch := first | omega | exact okFill_t rfl | exact okSize_t rfl | exact fun h => h | (simp only [World.size_alloc, World.size_drew, World.size_setCell, size_fill, bytesW]; omega)) only [go_sem, c74, c74S0, c74S1]
      refine ⟨[u8 n], rfl, one_byte Blk.new, ?_, bl _⟩
      rw [varL_lt (by omega)]
    have hd : n / 128 < 128 ^ (k + 1) := by
      rw [Nat.div_lt_iff_lt_mul (by decide)]
      rw [Nat.pow_succ] at *; omega
    have e1 : IntKind.u64.wrap ((n : Int).tdiv 128) = ((n / 128 : Nat) : Int) := by rw [show (n : Int).tdiv 128 = ((n / 128 : Nat) : Int) from rfl, wrap_u64]; omega
    have e2 : IntKind.u64.wrap ((n : Int).tmod 128 + 128) = ((n % 128 + 128 : Nat) : Int) := by rw [show (n : Int).tmod 128 = ((n % 128 : Nat) : Int) from rfl, wrap_u64]; omega
    have hn2 : varL n = u8 (n % 128 + 128) :: varL (n / 128) := varL_ge (by omega)
    refine c74draw0 (fun _ => True) trivial ?_
    simp (disch := first | omega | exact okFill_t rfl | exact okSize_t rfl | exact fun h => h | (simp only [World.size_alloc, World.size_drew, World.size_setCell, size_fill, bytesW]; omega)) only [go_sem, c74, c74S0, c74S1, c74D0]
    rw [e1, e2]
    have hw : Below w.heap.size w w.drew := (Below.refl _ w).drew
    constructor
    · refine rvar1 ?_
      simp (disch := first | omega | exact okFill_t rfl | exact okSize_t rfl | exact fun h => h | (simp only [World.size_alloc, World.size_drew, World.size_setCell, size_fill, bytesW]; omega)) only [go_sem, c74, c74S0, c74S1]
      have B0 : Blk (w.alloc (.cells #[byteC (u8 (n % 128 + 128))] 5)) w.heap.size #[byteC (u8 (n % 128 + 128))] 5 := Blk.new
      have hb := bl (u8 (n % 128 + 128))
      have hl := varL_10 (show n / 128 < 18446744073709551616 by omega)
      have hbd := hb.drew
      constructor
      · refine ⟨[u8 (n % 128 + 128)], rfl, one_byte B0.drew, Ret.mono (ih (n / 128) _ hd (by omega)) ?_⟩
        rintro _ w2 ⟨rfl, b2⟩
        simp (disch := first | omega | exact okFill_t rfl | exact okSize_t rfl | exact fun h => h | (simp only [World.size_alloc, World.size_drew, World.size_setCell, size_fill, bytesW]; omega)) only [go_sem, c74, c74S0, c74S1]
        exact ⟨by first | omega | (simp only [List.length_cons, List.length_nil]; omega), by first | (rw [hn2]; done) | (rw [hn2]; rfl), Below.next hbd b2⟩
      · refine Ret.mono (ih (n / 128) _ hd (by omega)) ?_
        rintro _ w2 ⟨rfl, b2⟩
        simp (disch := first | omega | exact okFill_t rfl | exact okSize_t rfl | exact fun h => h | (simp only [World.size_alloc, World.size_drew, World.size_setCell, size_fill, bytesW]; omega)) only [go_sem, c74, c74S0, c74S1]
        refine ⟨[u8 (n % 128 + 128)], rfl, one_byte (B0.drew.below b2 B0.drew.lt), ?_⟩
        exact ⟨by first | omega | (simp only [List.length_cons, List.length_nil]; omega), by first | (rw [hn2]; done) | (rw [hn2]; rfl), Below.next hbd b2⟩
    · have hl := varL_10 (show n / 128 < 18446744073709551616 by omega)
      refine Ret.mono (ih (n / 128) _ hd (by omega)) ?_
      rintro _ w2 ⟨rfl, b2⟩
      simp (disch := first | omega | exact okFill_t rfl | exact okSize_t rfl | exact fun h => h | (simp only [World.size_alloc, World.size_drew, World.size_setCell, size_fill, bytesW]; omega)) only [go_sem, c74, c74S0, c74S1]
      refine rvar1 ?_
      simp (disch := first | omega | exact okFill_t rfl | exact okSize_t rfl | exact fun h => h | (simp only [World.size_alloc, World.size_drew, World.size_setCell, size_fill, bytesW]; omega)) only [go_sem, c74, c74S0, c74S1]
      refine ⟨[u8 (n % 128 + 128)], rfl, one_byte Blk.new, by simp only [List.length_cons, List.length_nil]; omega, by rw [hn2, List.singleton_append], (Below.next hw b2).trans ((Below.refl _ w2).alloc (Below.next hw b2).size _)⟩
end Go.Proofs.Ytbeoedgoikcbpaa

namespace Go.Proofs.Ytbeoedgoikcbpaa
set_option linter.unusedSimpArgs false
set_option linter.unusedVariables false
set_option maxRecDepth 100000
open Go Go.Ann Go.RowKit
def intE (n : Int) : List Value := [.int .i64 n]
theorem intE_len (n : Int) : (intE n).length = 1 := rfl
theorem intE_one (n : Int) : ∀ u ∈ intE n, u.oneCell' = true := by intro u hu; simp only [intE, List.mem_singleton] at hu; subst hu; rfl
theorem RdS.int {w : World} {ad : Addr} {n cap : Nat} {l : List Int} (h : RdS w 1 intE (.slice (some ad) n cap) l) {k : Nat} (hk : k < l.length) : w.cell? (ad.add k) = some (.int .i64 l[k]) :=
  RdS.at1 (e1 := fun r => .int .i64 r) h hk
def txt (l : List Int) : List UInt8 := varL l.length ++ l.flatMap fun n => varL (foldN n)
def Ok64 (l : List Int) : Prop := ∀ n ∈ l, I64 n
theorem flat_len {l : List Int} (h : Ok64 l) : (l.flatMap fun n => varL (foldN n)).length ≤ 10 * l.length := by
  induction l with
  | nil => simp
  | cons n l ih =>
    have h1 := varL_10 (foldN_lt n (h n (List.mem_cons_self ..)))
    have h2 := ih fun m hm => h m (List.mem_cons_of_mem _ hm)
    rw [List.flatMap_cons, List.length_append, List.length_cons]; omega
theorem text_ok (v : Value) (l : List Int) (w : World) (h : RdS w 1 intE v l) (h64 : Ok64 l) (hl : l.length ≤ 1000000) : Ret Try.prog 43 [v] w fun u w' => u = .string (ofL (txt l)) ∧ Gr w w' := by
  obtain ⟨a, c, rfl, _⟩ := h.form
  refine ent43 _ _ _ ?_
  simp (disch := first | omega | exact okFill_t rfl | exact okSize_t rfl | exact fun h => h | (simp only [World.size_alloc, World.size_drew, World.size_setCell, size_fill, bytesW]; omega)) only [go_sem, c43, c43S0, c43S1, c43L0, c43S2, c43S3]
  have e0 : IntKind.u64.wrap (l.length : Int) = ((l.length : Nat) : Int) := by rw [wrap_u64]; omega
  rw [e0]
  refine Ret.mono (var_ok l.length w (by omega)) ?_
  rintro _ w1 ⟨rfl, g1⟩
  simp (disch := first | omega | exact okFill_t rfl | exact okSize_t rfl | exact fun h => h | (simp only [World.size_alloc, World.size_drew, World.size_setCell, size_fill, bytesW]; omega)) only [go_sem, c43, c43S0, c43S1, c43L0, c43S2, c43S3]
  have h10 := varL_10 (show l.length < 18446744073709551616 by omega)
  refine W_loopU (fun k : Nat => [(3, .string (ofL (varL l.length ++ (l.take k).flatMap fun n => varL (foldN n)))), (12, .int .i64 k)]) (fun k w' => Gr w w' ∧ k ≤ l.length) (fun k => l.length - k) 0 (by simp [ovr, lk]) ⟨g1, Nat.zero_le _⟩ ?_
  rintro k w2 ⟨g2, hk⟩
  by_cases hlt : k < l.length
  · have hlt' : (k : Int) < l.length := by omega
    obtain ⟨p, rfl⟩ := h.ptr (by omega)
    have ek := RdS.int (h.below g2.below (by decide)) hlt
    have hk64 : I64 l[k] := h64 _ (List.getElem_mem hlt)
    simp (disch := first | omega | exact okFill_t rfl | exact okSize_t rfl | exact fun h => h | (simp only [World.size_alloc, World.size_drew, World.size_setCell, size_fill, bytesW]; omega)) only [go_sem, c43, c43S0, c43S1, c43L0, c43S2, c43S3, hlt', ek]
    refine ⟨by omega, Ret.mono (fold_ok l[k] w2 hk64) ?_⟩
    rintro _ w3 ⟨rfl, rfl⟩
    simp (disch := first | omega | exact okFill_t rfl | exact okSize_t rfl | exact fun h => h | (simp only [World.size_alloc, World.size_drew, World.size_setCell, size_fill, bytesW]; omega)) only [go_sem, c43, c43S0, c43S1, c43L0, c43S2, c43S3]
    refine Ret.mono (var_ok (foldN l[k]) w3 (foldN_lt _ hk64)) ?_
    rintro _ w4 ⟨rfl, g4⟩
    simp (disch := first | omega | exact okFill_t rfl | exact okSize_t rfl | exact fun h => h | (simp only [World.size_alloc, World.size_drew, World.size_setCell, size_fill, bytesW]; omega)) only [go_sem, c43, c43S0, c43S1, c43L0, c43S2, c43S3]
    have hb := flat_len (l := l.take k) fun n hn => h64 n (List.mem_of_mem_take hn)
    have hv := varL_10 (foldN_lt _ hk64)
    rw [List.length_take] at hb
    refine ⟨?_, ⟨by omega, by omega⟩, k + 1, ?_, ⟨g2.trans g4, by omega⟩, by omega⟩
    · simp only [List.length_append]; omega
    · rw [List.take_succ_eq_append_getElem hlt, List.flatMap_append, List.append_assoc]; simp
  · have hlt' : ¬ (k : Int) < l.length := by omega
    simp (disch := first | omega | exact okFill_t rfl | exact okSize_t rfl | exact fun h => h | (simp only [World.size_alloc, World.size_drew, World.size_setCell, size_fill, bytesW]; omega)) only [go_sem, c43, c43S0, c43S1, c43L0, c43S2, c43S3, hlt']
    rw [List.take_of_length_le (by omega)]
    exact ⟨rfl, g2⟩
theorem rtext_ok (v : Value) (l : List Int) (w : World) (h : RdS w 1 intE v l) (h64 : Ok64 l) (hl : l.length ≤ 1000000) : Ret Try.prog 47 [v] w fun u w' => u = .string (ofL (txt l)) ∧ Below w.heap.size w w' := by
  obtain ⟨a, c, rfl, _⟩ := h.form
  refine ent47 _ _ _ ?_
  simp (disch := first | omega | exact okFill_t rfl | exact okSize_t rfl | exact fun h => h | (simp only [World.size_alloc, World.size_drew, World.size_setCell, size_fill, bytesW]; omega)) only [go_sem, c47, c47S0, c47S1, c47L0, c47S2, c47S3]
  have e0 : IntKind.u64.wrap (l.length : Int) = ((l.length : Nat) : Int) := by rw [wrap_u64]; omega
  rw [e0]
  refine Ret.mono (rvar_ok 9 l.length w (by omega) (by omega)) ?_
  rintro _ w1 ⟨rfl, g1⟩
  simp (disch := first | omega | exact okFill_t rfl | exact okSize_t rfl | exact fun h => h | (simp only [World.size_alloc, World.size_drew, World.size_setCell, size_fill, bytesW]; omega)) only [go_sem, c47, c47S0, c47S1, c47L0, c47S2, c47S3]
  have h10 := varL_10 (show l.length < 18446744073709551616 by omega)
  refine W_loopU (fun k : Nat => [(3, .string (ofL (varL l.length ++ (l.take k).flatMap fun n => varL (foldN n)))), (4, .int .i64 k)]) (fun k w' => Below w.heap.size w w' ∧ k ≤ l.length) (fun k => l.length - k) 0 (by simp [ovr, lk]) ⟨g1, Nat.zero_le _⟩ ?_
  rintro k w2 ⟨g2, hk⟩
  by_cases hlt : k < l.length
  · have hlt' : (k : Int) < l.length := by omega
    obtain ⟨p, rfl⟩ := h.ptr (by omega)
    have ek := RdS.int (h.below g2 (by decide)) hlt
    have hk64 : I64 l[k] := h64 _ (List.getElem_mem hlt)
    simp (disch := first | omega | exact okFill_t rfl | exact okSize_t rfl | exact fun h => h | (simp only [World.size_alloc, World.size_drew, World.size_setCell, size_fill, bytesW]; omega)) only [go_sem, c47, c47S0, c47S1, c47L0, c47S2, c47S3, hlt', ek]
    refine ⟨by omega, Ret.mono (rfold_ok l[k] w2 hk64) ?_⟩
    rintro _ w3 ⟨rfl, rfl⟩
    simp (disch := first | omega | exact okFill_t rfl | exact okSize_t rfl | exact fun h => h | (simp only [World.size_alloc, World.size_drew, World.size_setCell, size_fill, bytesW]; omega)) only [go_sem, c47, c47S0, c47S1, c47L0, c47S2, c47S3]
    refine Ret.mono (rvar_ok 9 (foldN l[k]) w3 (by have := foldN_lt _ hk64; omega) (foldN_lt _ hk64)) ?_
    rintro _ w4 ⟨rfl, g4⟩
    simp (disch := first | omega | exact okFill_t rfl | exact okSize_t rfl | exact fun h => h | (simp only [World.size_alloc, World.size_drew, World.size_setCell, size_fill, bytesW]; omega)) only [go_sem, c47, c47S0, c47S1, c47L0, c47S2, c47S3]
    have hb := flat_len (l := l.take k) fun n hn => h64 n (List.mem_of_mem_take hn)
    have hv := varL_10 (foldN_lt _ hk64)
    rw [List.length_take] at hb
    refine ⟨?_, ⟨by omega, by omega⟩, k + 1, ?_, ⟨Below.next g2 g4, by omega⟩, by omega⟩
    · simp only [List.length_append]; omega
    · rw [List.take_succ_eq_append_getElem hlt, List.flatMap_append, List.append_assoc]; simp
  · have hlt' : ¬ (k : Int) < l.length := by omega
    simp (disch := first | omega | exact okFill_t rfl | exact okSize_t rfl | exact fun h => h | (simp only [World.size_alloc, World.size_drew, World.size_setCell, size_fill, bytesW]; omega)) only [go_sem, c47, c47S0, c47S1, c47L0, c47S2, c47S3, hlt']
    rw [List.take_of_length_le (by omega)]
    exact ⟨rfl, g2⟩
end Go.Proofs.Ytbeoedgoikcbpaa

namespace Go.Proofs.Ytbeoedgoikcbpaa
set_option linter.unusedSimpArgs false
set_option linter.unusedVariables false
set_option maxRecDepth 100000
open Go Go.Ann Go.RowKit
theorem ltB_irr : ∀ a : List UInt8, Op.bytesLess a a = false
  | [] => rfl
  | a :: x => by simp [Op.bytesLess, ltB_irr x]
theorem ltB_trans : ∀ {a b c : List UInt8}, Op.bytesLess a b = true → Op.bytesLess b c = true → Op.bytesLess a c = true
  | [], b, c, h1, h2 => by
    cases c with
    | nil => cases b <;> simp [Op.bytesLess] at h1 h2
    | cons => simp [Op.bytesLess]
  | a :: x, [], c, h1, h2 => by simp [Op.bytesLess] at h1
  | a :: x, b :: y, [], h1, h2 => by simp [Op.bytesLess] at h2
  | a :: x, b :: y, c :: z, h1, h2 => by
    have ih := @ltB_trans x y z
    simp only [Op.bytesLess, Bool.or_eq_true, Bool.and_eq_true, decide_eq_true_eq, beq_iff_eq] at *
    rcases h1 with h1 | ⟨e1, h1⟩ <;> rcases h2 with h2 | ⟨e2, h2⟩
    · exact .inl (UInt8.lt_trans h1 h2)
    · subst e2; exact .inl h1
    · subst e1; exact .inl h2
    · subst e1 e2; exact .inr ⟨rfl, ih h1 h2⟩
theorem ltB_tri : ∀ {a b : List UInt8}, Op.bytesLess a b = false → Op.bytesLess b a = false → a = b
  | [], [], _, _ => rfl
  | [], b :: y, h1, _ => by simp [Op.bytesLess] at h1
  | a :: x, [], _, h2 => by simp [Op.bytesLess] at h2
  | a :: x, b :: y, h1, h2 => by
    have ih := @ltB_tri x y
    simp only [Op.bytesLess, Bool.or_eq_false_iff, Bool.and_eq_false_imp, decide_eq_false_iff_not, beq_iff_eq] at h1 h2
    have e : a = b := by
      rcases UInt8.lt_or_lt_of_ne (a := a) (b := b) |> fun f => (Classical.em (a = b)).imp id f with h | h
      · exact h
      · rcases h with h | h
        · exact absurd h h1.1
        · exact absurd h h2.1
    subst e
    rw [ih (h1.2 rfl) (h2.2 rfl)]
theorem varL_cut {n m : Nat} {a b : List UInt8} (hn : n < 18446744073709551616) (hm : m < 18446744073709551616) (h : varL n ++ a = varL m ++ b) : n = m ∧ a = b := by
  have key : ∀ k n m : Nat, n < k → varL n ++ a = varL m ++ b → n = m ∧ a = b := by
    intro k
    induction k with
    | zero => intro n m h; omega
    | succ k ih =>
      intro n m hk h
      by_cases h1 : n < 128 <;> by_cases h2 : m < 128
      · rw [varL_lt h1, varL_lt h2] at h
        simp only [List.cons_append, List.nil_append, List.cons.injEq] at h
        have := congrArg UInt8.toNat h.1
        simp [u8] at this
        exact ⟨by omega, h.2⟩
      · rw [varL_lt h1, varL_ge h2] at h
        simp only [List.cons_append, List.nil_append, List.cons.injEq] at h
        have := congrArg UInt8.toNat h.1
        simp [u8] at this
        omega
      · rw [varL_ge h1, varL_lt h2] at h
        simp only [List.cons_append, List.nil_append, List.cons.injEq] at h
        have := congrArg UInt8.toNat h.1
        simp [u8] at this
        omega
      · rw [varL_ge h1, varL_ge h2] at h
        simp only [List.cons_append, List.cons.injEq] at h
        obtain ⟨e, r⟩ := ih _ _ (by omega) h.2
        have := congrArg UInt8.toNat h.1
        simp [u8] at this
        exact ⟨by omega, r⟩
  exact key (n + 1) n m (by omega) h
theorem foldN_inj {a b : Int} (h : foldN a = foldN b) : a = b := by
  unfold foldN at h; split at h <;> split at h <;> omega
theorem txt_inj {l m : List Int} (hl : Ok64 l) (hm : Ok64 m) (h1 : l.length < 18446744073709551616) (h2 : m.length < 18446744073709551616) (h : txt l = txt m) : l = m := by
  obtain ⟨hlen, k⟩ := varL_cut h1 h2 h
  clear h h1 h2
  induction l generalizing m with
  | nil => simp at hlen; exact (List.eq_nil_of_length_eq_zero hlen.symm).symm
  | cons a l ih =>
    cases m with
    | nil => simp at hlen
    | cons b m =>
      rw [List.flatMap_cons, List.flatMap_cons] at k
      obtain ⟨e, r⟩ := varL_cut (foldN_lt _ (hl a (by simp))) (foldN_lt _ (hm b (by simp))) k
      have hl' : Ok64 l := fun n hn => hl n (List.mem_cons_of_mem _ hn)
      have hm' : Ok64 m := fun n hn => hm n (List.mem_cons_of_mem _ hn)
      rw [foldN_inj e, ih hl' hm' (by simpa using hlen) r]
def OkS (s : List Int) : Prop := Ok64 s ∧ s.length ≤ 1000000
theorem OkS.inj {a b : List Int} (ha : OkS a) (hb : OkS b) (h : txt a = txt b) : a = b := by
  have := ha.2; have := hb.2
  exact txt_inj ha.1 hb.1 (by omega) (by omega) h
def ltS (a b : List Int) : Bool := Op.bytesLess (txt a) (txt b)
def Uniq (l u : List (List Int)) : Prop := u.Pairwise (fun a b => ltS a b = true) ∧ ∀ x, x ∈ u ↔ x ∈ l
theorem uniq_one {u v : List (List Int)} (hu : u.Pairwise (fun a b => ltS a b = true)) (hv : v.Pairwise (fun a b => ltS a b = true)) (h : ∀ x, x ∈ u ↔ x ∈ v) : u = v := by
  induction u generalizing v with
  | nil =>
    cases v with
    | nil => rfl
    | cons b v => exact absurd ((h b).2 (by simp)) (by simp)
  | cons a u ih =>
    cases v with
    | nil => exact absurd ((h a).1 (by simp)) (by simp)
    | cons b v =>
      rw [List.pairwise_cons] at hu hv
      have e : a = b := by
        rcases List.mem_cons.1 ((h a).1 (by simp)) with e | e
        · exact e
        · rcases List.mem_cons.1 ((h b).2 (by simp)) with f | f
          · exact f.symm
          · have h1 := hv.1 a e
            have h2 := hu.1 b f
            have := ltB_trans h1 h2
            rw [show Op.bytesLess (txt b) (txt b) = false from ltB_irr _] at this; cases this
      subst e
      rw [ih hu.2 hv.2 fun x => ?_]
      have hx := h x
      simp only [List.mem_cons] at hx
      have n1 : x ∈ u → x ≠ a := fun hm e => by subst e; have := hu.1 x hm; rw [show ltS x x = false from ltB_irr _] at this; cases this
      have n2 : x ∈ v → x ≠ a := fun hm e => by subst e; have := hv.1 x hm; rw [show ltS x x = false from ltB_irr _] at this; cases this
      exact ⟨fun hm => (hx.1 (.inr hm)).resolve_left (n1 hm), fun hm => (hx.2 (.inr hm)).resolve_left (n2 hm)⟩
theorem Uniq.one {l u v : List (List Int)} (h : Uniq l u) (k : Uniq l v) : u = v := uniq_one h.1 k.1 fun x => (h.2 x).trans (k.2 x).symm
end Go.Proofs.Ytbeoedgoikcbpaa

namespace Go.Proofs.Ytbeoedgoikcbpaa
set_option linter.unusedSimpArgs false
set_option linter.unusedVariables false
set_option maxRecDepth 100000
open Go Go.Ann Go.RowKit
theorem ints_one (l : List Int) : ∀ u ∈ l.flatMap intE, u.oneCell' = true := by intro u hu; obtain ⟨a, _, h⟩ := List.mem_flatMap.1 hu; exact intE_one a u h
theorem iclone_ok (v : Value) (l : List Int) (w : World) (h : RdS w 1 intE v l) (hl : l.length ≤ 1000000) :
    Ret Try.prog 39 [v] w fun u w' => w'.ownsRow w.heap.size 3 1 u l.length (l.flatMap intE) ∧ Below w.heap.size w w' := by
  obtain ⟨a, c, rfl, _⟩ := h.form
  refine ent39 _ _ _ ?_
  simp (disch := first | omega | exact okFill_t rfl | exact okSize_t rfl | exact fun h => h | (simp only [World.size_alloc, World.size_drew, World.size_setCell, size_fill, bytesW]; omega)) only [go_sem, c39, c39S0, c39S1]
  have hSt := (St.start (W0 := w)).emptyRow 3 1
  refine ⟨fun ha => ?_, fun ha => bsW_none ty36mkI ?_⟩
  · cases a with
    | some a => cases ha
    | none =>
      have h0 : l = [] := by
        cases l with
        | nil => rfl
        | cons x l => obtain ⟨p, hp⟩ := h.ptr (by simp); cases hp
      subst h0
      exact ⟨⟨rfl, .inl ⟨rfl, rfl⟩⟩, Below.refl _ _⟩
  simp (disch := first | omega | exact okFill_t rfl | exact okSize_t rfl | exact fun h => h | (simp only [World.size_alloc, World.size_drew, World.size_setCell, size_fill, bytesW]; omega)) only [go_sem, c39, c39S0, c39S1]
  refine hSt.append 0 rfl ty36mkI rfl (by decide) (h.below hSt.bel (by decide)) (ints_one l) (by omega) (by omega) ?_
  intro v2 w2 s2 _
  have e2 := s2.row 0 rfl
  rw [Nat.zero_add, List.nil_append] at e2
  simp (disch := first | omega | exact okFill_t rfl | exact okSize_t rfl | exact fun h => h | (simp only [World.size_alloc, World.size_drew, World.size_setCell, size_fill, bytesW]; omega)) only [go_sem, c39, c39S0, c39S1]
  exact ⟨e2, s2.bel⟩
end Go.Proofs.Ytbeoedgoikcbpaa

namespace Go.Proofs.Ytbeoedgoikcbpaa
set_option linter.unusedSimpArgs false
set_option linter.unusedVariables false
set_option maxRecDepth 100000
open Go Go.Ann Go.RowKit
abbrev VS := Value × List Int
end Go.Proofs.Ytbeoedgoikcbpaa
