/- Texts put together by program. -/
import Derived.Test.YtbeoedgoikcbpaaQC1
namespace Go.Ann
open Go Go.RowKit Go.WideShapes
set_option linter.unusedVariables false
set_option linter.unusedSimpArgs false
inductive Res where
  | blk (b : Nat) (cs : Array Value) (t : TypeId)
  | row (v : Value) (e sz n : Nat) (xs : List Value)
  | obj (b : Nat) (o : Obj)
def Res.own : Res → Option Nat
  | .blk b _ _ => some b
  | .row v _ _ _ _ => v.ownBlock
  | .obj b _ => some b
def Res.ok (w : World) (base : Nat) : Res → Prop
  | .blk b cs t => Blk w b cs t ∧ base ≤ b
  | .row v e sz n xs => w.ownsRow base e sz v n xs
  | .obj b o => w.heap[b]? = some o ∧ base ≤ b
structure Inv where
  holds : World → Prop
  foot : Nat → Prop
  loc : ∀ w w' : World, holds w → (∀ k, foot k → w'.heap[k]? = w.heap[k]?) → holds w'
structure St (W0 w : World) (F : Nat → Prop) (L : List Res) (I : List Inv) : Prop where
  bel : Below W0.heap.size W0 w
  foot : ∀ k, F k → W0.heap.size ≤ k ∧ k < w.heap.size
  res : ∀ r ∈ L, r.ok w W0.heap.size ∧ ∀ k, r.own = some k → ¬ F k
  nd : (L.filterMap Res.own).Nodup
  inv : ∀ a ∈ I, a.holds w ∧ ∀ k, a.foot k → k < w.heap.size ∧ ¬ F k ∧ ∀ r ∈ L, r.own ≠ some k
theorem Res.ok.lt {w : World} {base : Nat} {r : Res} (h : r.ok w base) : ∀ k, r.own = some k → base ≤ k ∧ k < w.heap.size := by
  intro k hk
  cases r with
  | blk b cs t => simp only [Res.own, Option.some.injEq] at hk; subst hk; exact ⟨h.2, h.1.lt⟩
  | row v e sz n xs => exact World.ownsRow.lt h k hk
  | obj b o => simp only [Res.own, Option.some.injEq] at hk; subst hk; exact ⟨h.2, (Array.getElem?_eq_some_iff.1 h.1).1⟩
theorem Res.ok.chg {S : Nat → Prop} {w w' : World} {base : Nat} {r : Res} (h : r.ok w base) (hc : Chg S w w') (hS : ∀ k, r.own = some k → ¬ S k) : r.ok w' base := by
  cases r with
  | blk b cs t => exact ⟨h.1.chg hc (hS b rfl), h.2⟩
  | row v e sz n xs => exact hc.own h hS
  | obj b o => exact ⟨(hc.block b (Array.getElem?_eq_some_iff.1 h.1).1 (hS b rfl)).trans h.1, h.2⟩
section
variable {W0 w w' : World} {F F' : Nat → Prop} {L : List Res} {I : List Inv}
theorem St.start : St W0 W0 (fun _ => False) [] [] := ⟨Below.refl _ _, fun _ h => h.elim, fun _ h => (by cases h), List.Pairwise.nil, fun _ h => (by cases h)⟩
theorem St.size (h : St W0 w F L I) : W0.heap.size ≤ w.heap.size := h.bel.size
theorem St.below (h : St W0 w F L I) {B : Nat} (hb : Below B w w') (hB : w.heap.size ≤ B) : St W0 w' F L I :=
  have hc : Chg (fun _ => False) w w' := Chg.of_below (hb.mono hB)
  ⟨h.bel.trans (hb.mono (Nat.le_trans h.size hB)), fun k hk => ⟨(h.foot k hk).1, Nat.lt_of_lt_of_le (h.foot k hk).2 hb.size⟩, fun r hr => ⟨(h.res r hr).1.chg hc fun _ _ h => h, (h.res r hr).2⟩, h.nd,
    fun a ha => ⟨a.loc _ _ (h.inv a ha).1 fun k hk => hb.block k (Nat.lt_of_lt_of_le ((h.inv a ha).2 k hk).1 hB), fun k hk => ⟨Nat.lt_of_lt_of_le ((h.inv a ha).2 k hk).1 hb.size, ((h.inv a ha).2 k hk).2⟩⟩⟩
theorem St.call (h : St W0 w F L I) (hb : Below w.heap.size w w') : St W0 w' F L I := h.below hb (Nat.le_refl _)
theorem St.drew (h : St W0 w F L I) : St W0 w.drew F L I := h.below ((Below.refl _ w).drew) (Nat.le_refl _)
theorem St.alloc' (h : St W0 w F L I) (o : Obj) : St W0 (w.alloc o) F L I := h.below ((Below.refl w.heap.size w).alloc (Nat.le_refl _) o) (Nat.le_refl _)
theorem fresh_nd {L : List Res} {r : Res} (hn : (L.filterMap Res.own).Nodup) (hr : ∀ k, r.own = some k → ∀ x ∈ L, x.own ≠ some k) : ((r :: L).filterMap Res.own).Nodup := by
  cases hk : r.own with
  | none => rw [List.filterMap_cons_none hk]; exact hn
  | some k =>
    rw [List.filterMap_cons_some hk]
    refine List.nodup_cons.2 ⟨fun hm => ?_, hn⟩
    obtain ⟨x, hx, hxk⟩ := List.mem_filterMap.1 hm
    exact hr k hk x hx hxk
theorem St.add (h : St W0 w F L I) (hb : Below w.heap.size w w') (r : Res) (hr : r.ok w' W0.heap.size) (hn : ∀ k, r.own = some k → w.heap.size ≤ k) : St W0 w' F (r :: L) I := by
  have h' := h.call hb
  refine ⟨h'.bel, h'.foot, ?_, fresh_nd h.nd fun k hk x hx hxk => ?_, fun a ha => ⟨(h'.inv a ha).1, fun k hk => ⟨((h'.inv a ha).2 k hk).1, ((h'.inv a ha).2 k hk).2.1, ?_⟩⟩⟩
  · intro x hx
    rcases List.mem_cons.1 hx with rfl | hx
    · exact ⟨hr, fun k hk hF => by have := (h.foot k hF).2; have := hn k hk; omega⟩
    · exact h'.res x hx
  · have := ((h.res x hx).1.lt k hxk).2; have := hn k hk; omega
  · intro x hx
    rcases List.mem_cons.1 hx with rfl | hx
    · intro e
      have := hn k e
      have := ((h.inv a ha).2 k hk).1
      omega
    · exact ((h'.inv a ha).2 k hk).2.2 x hx
theorem St.box (h : St W0 w F L I) (cs : Array Value) (t : TypeId) : St W0 (w.alloc (.cells cs t)) F (.blk w.heap.size cs t :: L) I :=
  h.add ((Below.refl _ w).alloc (Nat.le_refl _) _) _ ⟨Blk.new, h.size⟩ fun k hk => by simp only [Res.own, Option.some.injEq] at hk; omega
theorem St.nilRow (h : St W0 w F L I) (e sz : Nat) : St W0 w F (.row (.slice none 0 0) e sz 0 [] :: L) I :=
  h.add (Below.refl _ w) _ (World.ownsRow_nil _ _ _ _) fun k hk => by simp [Res.own, Value.ownBlock] at hk
theorem St.sub (h : St W0 w F L I) {L' : List Res} (hs : L'.Sublist L) : St W0 w F L' I :=
  ⟨h.bel, h.foot, fun r hr => h.res r (hs.subset hr), h.nd.sublist (hs.filterMap _), fun a ha => ⟨(h.inv a ha).1, fun k hk => ⟨((h.inv a ha).2 k hk).1, ((h.inv a ha).2 k hk).2.1, fun r hr => ((h.inv a ha).2 k hk).2.2 r (hs.subset hr)⟩⟩⟩
theorem St.perm (h : St W0 w F L I) {L' : List Res} (hs : L'.Perm L) : St W0 w F L' I :=
  ⟨h.bel, h.foot, fun r hr => h.res r (hs.subset hr), (hs.filterMap _).nodup_iff.2 h.nd, fun a ha => ⟨(h.inv a ha).1, fun k hk => ⟨((h.inv a ha).2 k hk).1, ((h.inv a ha).2 k hk).2.1, fun r hr => ((h.inv a ha).2 k hk).2.2 r (hs.subset hr)⟩⟩⟩
theorem St.inv_sub (h : St W0 w F L I) {I' : List Inv} (hs : ∀ a ∈ I', a ∈ I) : St W0 w F L I' := ⟨h.bel, h.foot, h.res, h.nd, fun a ha => h.inv a (hs a ha)⟩
theorem nd_other {L : List Res} (hn : (L.filterMap Res.own).Nodup) {i j : Nat} {r x : Res} (hi : L[i]? = some r) (hj : L[j]? = some x) (hij : i ≠ j) {k : Nat} (hr : r.own = some k) : x.own ≠ some k := by
  intro hx
  induction L generalizing i j with
  | nil => simp at hi
  | cons y l ih =>
    match i, j, hi, hj, hij with
    | 0, 0, _, _, h => exact h rfl
    | 0, j + 1, hi, hj, _ =>
      simp only [List.getElem?_cons_zero, Option.some.injEq] at hi; subst hi
      simp only [List.getElem?_cons_succ] at hj
      rw [List.filterMap_cons_some hr] at hn
      exact (List.nodup_cons.1 hn).1 (List.mem_filterMap.2 ⟨x, List.mem_of_getElem? hj, hx⟩)
    | i + 1, 0, hi, hj, _ =>
      simp only [List.getElem?_cons_zero, Option.some.injEq] at hj; subst hj
      simp only [List.getElem?_cons_succ] at hi
      rw [List.filterMap_cons_some hx] at hn
      exact (List.nodup_cons.1 hn).1 (List.mem_filterMap.2 ⟨r, List.mem_of_getElem? hi, hr⟩)
    | i + 1, j + 1, hi, hj, h =>
      simp only [List.getElem?_cons_succ] at hi hj
      refine ih ?_ hi hj (by omega)
      cases hy : y.own with
      | none => rw [List.filterMap_cons_none hy] at hn; exact hn
      | some m => rw [List.filterMap_cons_some hy] at hn; exact (List.nodup_cons.1 hn).2
theorem nd_set {L : List Res} {i : Nat} {r r' : Res} (hn : (L.filterMap Res.own).Nodup) (hi : L[i]? = some r) (h : ∀ k, r'.own = some k → r.own = some k ∨ ∀ x ∈ L, x.own ≠ some k) : ((L.set i r').filterMap Res.own).Nodup := by
  induction L generalizing i with
  | nil => simp at hi
  | cons y l ih =>
    match i, hi with
    | 0, hi =>
      simp only [List.getElem?_cons_zero, Option.some.injEq] at hi; subst hi
      simp only [List.set_cons_zero]
      have hl : (l.filterMap Res.own).Nodup := by
        cases hy : y.own with
        | none => rw [List.filterMap_cons_none hy] at hn; exact hn
        | some m => rw [List.filterMap_cons_some hy] at hn; exact (List.nodup_cons.1 hn).2
      refine fresh_nd hl fun k hk x hx => ?_
      rcases h k hk with h1 | h1
      · intro e
        rw [List.filterMap_cons_some h1] at hn
        exact (List.nodup_cons.1 hn).1 (List.mem_filterMap.2 ⟨x, hx, e⟩)
      · exact h1 x (List.mem_cons_of_mem _ hx)
    | i + 1, hi =>
      simp only [List.getElem?_cons_succ] at hi
      simp only [List.set_cons_succ]
      have hl : (l.filterMap Res.own).Nodup := by
        cases hy : y.own with
        | none => rw [List.filterMap_cons_none hy] at hn; exact hn
        | some m => rw [List.filterMap_cons_some hy] at hn; exact (List.nodup_cons.1 hn).2
      refine fresh_nd (ih hl hi fun k hk => (h k hk).imp id fun h1 x hx => h1 x (List.mem_cons_of_mem _ hx)) fun k hk x hx => ?_
      intro e
      obtain ⟨j, hj, hjx⟩ := List.mem_iff_getElem.1 hx
      rw [List.getElem_set] at hjx
      split at hjx
      · subst hjx
        rcases h k e with h1 | h1
        · have : (y :: l)[0]? = some y := rfl
          exact nd_other hn (i := i + 1) (j := 0) (by simpa using hi) this (by omega) h1 hk
        · exact h1 y List.mem_cons_self hk
      · rw [List.filterMap_cons_some hk] at hn
        subst hjx
        exact (List.nodup_cons.1 hn).1 (List.mem_filterMap.2 ⟨_, List.getElem_mem _, e⟩)
theorem St.upd (h : St W0 w F L I) (i : Nat) {r : Res} (hi : L[i]? = some r) (hc : Chg (fun k => r.own = some k) w w') (r' : Res) (hr : r'.ok w' W0.heap.size) (hn : ∀ k, r'.own = some k → r.own = some k ∨ w.heap.size ≤ k) : St W0 w' F (L.set i r') I := by
  have hm := List.mem_of_getElem? hi
  have hlow := fun k hk => ((h.res r hm).1.lt k hk)
  have hset : ∀ x ∈ L.set i r', x = r' ∨ ∃ j, j ≠ i ∧ L[j]? = some x := by
    intro x hx
    obtain ⟨j, hj, hjx⟩ := List.mem_iff_getElem.1 hx
    rw [List.getElem_set] at hjx
    split at hjx
    · exact .inl hjx.symm
    · rename_i hij
      exact .inr ⟨j, fun e => hij e.symm, by rw [← hjx]; exact List.getElem?_eq_getElem (by simpa using hj)⟩
  have hF : ∀ k, r'.own = some k → ¬ F k := fun k hk hF => by
    rcases hn k hk with h1 | h1
    · exact (h.res r hm).2 k h1 hF
    · have := (h.foot k hF).2; omega
  refine ⟨h.bel.trans (hc.below h.size fun k hk hS => by have := (hlow k hS).1; omega), fun k hk => ⟨(h.foot k hk).1, Nat.lt_of_lt_of_le (h.foot k hk).2 hc.size⟩, ?_, nd_set h.nd hi fun k hk => ?_, ?_⟩
  · intro x hx
    rcases hset x hx with rfl | ⟨j, hji, hj⟩
    · exact ⟨hr, hF⟩
    · have hx' := List.mem_of_getElem? hj
      exact ⟨(h.res x hx').1.chg hc fun k hk hrk => nd_other h.nd hi hj (Ne.symm hji) hrk hk, (h.res x hx').2⟩
  · rcases hn k hk with h1 | h1
    · exact .inl h1
    · exact .inr fun x hx hxk => by have := ((h.res x hx).1.lt k hxk).2; omega
  · intro a ha
    refine ⟨a.loc _ _ (h.inv a ha).1 fun k hk => hc.block k ((h.inv a ha).2 k hk).1 (((h.inv a ha).2 k hk).2.2 r hm), fun k hk => ⟨Nat.lt_of_lt_of_le ((h.inv a ha).2 k hk).1 hc.size, ((h.inv a ha).2 k hk).2.1, fun x hx => ?_⟩⟩
    rcases hset x hx with rfl | ⟨j, hji, hj⟩
    · intro e
      rcases hn k e with h1 | h1
      · exact ((h.inv a ha).2 k hk).2.2 r hm h1
      · have := ((h.inv a ha).2 k hk).1; omega
    · exact ((h.inv a ha).2 k hk).2.2 x (List.mem_of_getElem? hj)
theorem St.blk (h : St W0 w F L I) (i : Nat) {b : Nat} {cs : Array Value} {t : TypeId} (hi : L[i]? = some (.blk b cs t)) : Blk w b cs t := (h.res _ (List.mem_of_getElem? hi)).1.1
theorem St.low (h : St W0 w F L I) (i : Nat) {b : Nat} {cs : Array Value} {t : TypeId} (hi : L[i]? = some (.blk b cs t)) : W0.heap.size ≤ b ∧ b < w.heap.size := ⟨(h.res _ (List.mem_of_getElem? hi)).1.2, (h.blk i hi).lt⟩
theorem St.row (h : St W0 w F L I) (i : Nat) {v : Value} {e sz n : Nat} {xs : List Value} (hi : L[i]? = some (.row v e sz n xs)) : w.ownsRow W0.heap.size e sz v n xs := (h.res _ (List.mem_of_getElem? hi)).1
theorem St.obj (h : St W0 w F L I) (i : Nat) {b : Nat} {o : Obj} (hi : L[i]? = some (.obj b o)) : w.heap[b]? = some o := (h.res _ (List.mem_of_getElem? hi)).1.1
theorem St.lay (h : St W0 w F L I) (o : Obj) : St W0 (w.alloc o) F (.obj w.heap.size o :: L) I :=
  h.add ((Below.refl _ w).alloc (Nat.le_refl _) _) _ ⟨World.alloc_heap_new w o, h.size⟩ fun k hk => by simp only [Res.own, Option.some.injEq] at hk; omega
theorem St.putObj (h : St W0 w F L I) (i : Nat) {b : Nat} {o : Obj} (hi : L[i]? = some (.obj b o)) (o' : Obj) : St W0 (w.putObj b o') F (L.set i (.obj b o')) I :=
  h.upd i hi ((Chg.refl _ w).grown (grownBy_putObj' w b o') fun k hk _ => hk) (.obj b o')
    ⟨World.putObj_heap_same (Array.getElem?_eq_some_iff.1 (h.obj i hi)).1, (h.res _ (List.mem_of_getElem? hi)).1.2⟩ fun k hk => .inl hk
theorem St.ne (h : St W0 w F L I) (i j : Nat) {r x : Res} (hi : L[i]? = some r) (hj : L[j]? = some x) (hij : i ≠ j) {k : Nat} (hr : r.own = some k) : x.own ≠ some k := nd_other h.nd hi hj hij hr
theorem St.rules (h : St W0 w F L I) (i : Nat) {b : Nat} {cs : Array Value} {t : TypeId} (hi : L[i]? = some (.blk b cs t)) : (∀ i, w.cell? ⟨b, i, none⟩ = cs[i]?) ∧ (∀ i, w.frozen? ⟨b, i, none⟩ = false) ∧ (∀ n, okSize cs n = true → cellsO w ⟨b, 0, none⟩ 0 n = some cs.toList) := (h.blk i hi).rules
theorem St.set (h : St W0 w F L I) (i : Nat) {b : Nat} {cs : Array Value} {t : TypeId} (hi : L[i]? = some (.blk b cs t)) (j : Nat) (v : Value) : St W0 (w.setCell ⟨b, j, none⟩ v) F (L.set i (.blk b (cs.setIfInBounds j v) t)) I :=
  h.upd i hi ((Chg.refl _ w).setCell _ _ fun _ => rfl) _ ⟨(h.blk i hi).set j v, (h.low i hi).1⟩ fun k hk => .inl hk
theorem St.grow (h : St W0 w F L I) (i : Nat) {v v' : Value} {e sz n n' : Nat} {xs xs' : List Value} (hi : L[i]? = some (.row v e sz n xs)) (hg : w.grownBy w' v.ownBlock) (hr : w'.ownsRow W0.heap.size e sz v' n' xs')
    (hn : ∀ k, v'.ownBlock = some k → v.ownBlock = some k ∨ w.heap.size ≤ k) : St W0 w' F (L.set i (.row v' e sz n' xs')) I :=
  h.upd i hi ((Chg.refl _ w).grown hg fun k hk _ => hk) (.row v' e sz n' xs') hr hn
theorem St.put (h : St W0 w F L I) (i : Nat) {g cap : Nat} {e sz n : Nat} {xs : List Value} (hi : L[i]? = some (.row (.slice (some ⟨g, 0, none⟩) n cap) e sz n xs)) (j : Nat) (u : Value) :
    St W0 (w.setCell ⟨g, j, none⟩ u) F (L.set i (.row (.slice (some ⟨g, 0, none⟩) n cap) e sz n (xs.set j u))) I :=
  h.upd i hi ((Chg.refl _ w).setCell ⟨g, j, none⟩ u fun _ => rfl) (.row (.slice (some ⟨g, 0, none⟩) n cap) e sz n (xs.set j u)) ((h.row i hi).stored j u).1 fun k hk => .inl hk
theorem St.keep (h : St W0 w F L I) (a : Inv) (ha : a.holds w) (hf : ∀ k, a.foot k → k < w.heap.size ∧ ¬ F k ∧ ∀ r ∈ L, r.own ≠ some k) : St W0 w F L (a :: I) :=
  ⟨h.bel, h.foot, h.res, h.nd, fun x hx => by
    rcases List.mem_cons.1 hx with rfl | hx
    · exact ⟨ha, hf⟩
    · exact h.inv x hx⟩
theorem St.seal {r : Res} (h : St W0 w F (r :: L) I) (a : Inv) (ha : a.holds w) (hf : ∀ k, a.foot k → r.own = some k) : St W0 w F L (a :: I) := by
  have hr := h.res r List.mem_cons_self
  refine (h.sub (List.sublist_cons_self r L)).keep a ha fun k hk => ?_
  have e := hf k hk
  refine ⟨(hr.1.lt k e).2, hr.2 k e, fun x hx hxk => ?_⟩
  obtain ⟨j, hj, rfl⟩ := List.mem_iff_getElem.1 hx
  exact nd_other h.nd (i := 0) (j := j + 1) rfl (by simp [List.getElem?_eq_getElem hj]) (by omega) e hxk
theorem St.get (h : St W0 w F L I) (i : Nat) {a : Inv} (hi : I[i]? = some a) : a.holds w := (h.inv a (List.mem_of_getElem? hi)).1
end
section
variable {P : Program} {W0 w : World} {F : Nat → Prop} {L : List Res} {I : List Inv} {K : Value → World → Prop}
theorem St.fill (h : St W0 w F L I) (i : Nat) {b : Nat} {z cs : Array Value} {t : TypeId} (hi : L[i]? = some (.blk b z t)) (hs : z.size = cs.size) : St W0 (w.fill b cs) F (L.set i (.blk b cs t)) I :=
  h.upd i hi ((Chg.refl _ w).fill fun _ => rfl) _ ⟨(h.blk i hi).fill hs, (h.low i hi).1⟩ fun k hk => .inl hk
theorem bsW_none {t e size bytes : Nat} {z : Value} (hm : mkI P t = some (e, size, bytes, z)) (hK : K (.slice (some ⟨w.heap.size, 0, none⟩) 0 0) (w.alloc (.cells #[] e))) : bsW P t 0 [] [] w K := by
  obtain ⟨i, hu, hi, hzz, rfl, rfl⟩ := mkI_some hm
  refine ⟨_, _, ?_, hK⟩
  simp [Instr.buildSlice, Sem.run_bind, run_underlying hu, Result.andThen, run_sizeOf w hi, zipP, Instr.fill, newRow, run_newObj_alloc]
  congr 2
  exact Array.eq_empty_of_size_eq_zero (by simp)
theorem St.emptyRow (h : St W0 w F L I) (e sz : Nat) : St W0 (w.alloc (.cells #[] e)) F (.row (.slice (some ⟨w.heap.size, 0, none⟩) 0 0) e sz 0 [] :: L) I :=
  h.add ((Below.refl _ w).alloc (Nat.le_refl _) _) _ (by
    refine ⟨by simp, .inr ⟨w.heap.size, 0, #[], rfl, h.size, Blk.new, Nat.le_refl _, Nat.zero_le _, by simp, by simp⟩⟩) fun k hk => by simp only [Res.own, Value.ownBlock, Option.some.injEq] at hk; omega
theorem own_slice {base e sz n : Nat} {v : Value} {xs : List Value} (h : w.ownsRow base e sz v n xs) : ∃ a cap, v = .slice a n cap ∧ n ≤ cap := by
  rcases h.2 with ⟨rfl, rfl⟩ | ⟨g, cap, cur, rfl, _, _, hn, _⟩
  · exact ⟨none, 0, rfl, Nat.le_refl _⟩
  · exact ⟨_, cap, rfl, hn⟩
theorem rawB_append0 {t ty e size bytes : Nat} {z : Value} {cs : Array Bool} {a a' : Option Addr} {n cap c : Nat}
    (hm : mkI P t = some (e, size, bytes, z)) (hle : n ≤ cap) (hK : K (.slice a n cap) w) : rawB P .append #[t, t] ty cs [.slice a n cap, .slice a' 0 c] w K := by
  obtain ⟨i, hu, hi, hzz, hsi, hby⟩ := mkI_some hm
  refine ⟨_, w, ?_, hK⟩
  cases a <;> cases a' <;> simp [builtin, Builtin.append_, run_underlying hu, sizeOf, typeInfo, hi, Builtin.lenOf, Builtin.firstCells, loadCells, loadCellsFrom, hle, storeCells]
theorem St.append {t ty e sz bytes : Nat} {z : Value} {cs : Array Bool} {n m : Nat} {v x : Value} {xs ys : List Value} (h : St W0 w F L I) (i : Nat) (hi : L[i]? = some (.row v e sz n xs))
    (hm : mkI P t = some (e, sz, bytes, z)) (hzs : z.cells.size = sz) (hsz : 0 < sz) (hx : Rd w sz x m ys) (h1 : ∀ u ∈ ys, u.oneCell' = true) (hbytes : (n + m) * bytes ≤ 140737488355328) (h63 : n + m ≤ 9223372036854775807)
    (hK : ∀ v' w', St W0 w' F (L.set i (.row v' e sz (n + m) (xs ++ ys))) I → Chg (fun k => v.ownBlock = some k) w w' → K v' w') : rawB P .append #[t, t] ty cs [v, x] w K := by
  have hr := h.row i hi
  obtain ⟨hl, a, c, rfl, hac, hcell⟩ := hx
  obtain ⟨a', cap', rfl, hac'⟩ := own_slice hr
  rcases Nat.eq_zero_or_pos m with hm0 | hm0
  · subst hm0
    have hy : ys = [] := List.eq_nil_of_length_eq_zero (by rw [hl]; simp)
    subst hy
    refine rawB_append0 hm hac' (hK _ _ ?_ (Chg.refl _ _))
    rw [List.append_nil, Nat.add_zero]
    have : L.set i (.row (.slice a' n cap') e sz n xs) = L := by
      apply List.ext_getElem?
      intro j
      rw [List.getElem?_set]
      split
      · rename_i e; subst e; rw [hi]; simp [(List.getElem?_eq_some_iff.1 hi).1]
      · rfl
    rw [this]; exact h
  · obtain ⟨ad, rfl, hc⟩ := hcell (by omega)
    refine rawB_append hm hzs hsz hr hl hc h1 hm0 hbytes h63 h.size ?_
    intro g cap w' hown hgr hg hlt
    refine hK _ _ (h.grow i hi hgr hown fun k hk => ?_) ((Chg.refl _ w).grown hgr fun k hk _ => hk)
    simp only [Value.ownBlock, Option.some.injEq] at hk
    subst hk
    exact hg.imp id fun e => Nat.le_of_eq e.symm
theorem rd_new {t : TypeId} {sz n : Nat} {cs : Array Value} (hs : cs.size = n * sz) : Rd (w.alloc (.cells cs t)) sz (.slice (some ⟨w.heap.size, 0, none⟩) n n) n cs.toList :=
  ⟨by simpa using hs, _, n, rfl, Nat.le_refl _, fun _ => ⟨_, rfl, fun j u hu => by rw [Addr.add_lit, Nat.zero_add, cA_new rfl]; simpa using hu⟩⟩
end
theorem RdS.of_own' {α : Type} {w : World} {B e sz n : Nat} {enc : α → List Value} {v : Value} {ys : List Value} (h : w.ownsRow B e sz v n ys) (xs : List α) (hn : n = xs.length) (hy : ys = xs.flatMap enc) : RdS w sz enc v xs := by
  subst hn hy; exact RdS.of_own h
def slFoot (v : Value) (k : Nat) : Prop := ∃ a n c, v = .slice (some a) n c ∧ n ≠ 0 ∧ k = a.block
theorem slFoot_none {n c k : Nat} : ¬ slFoot (.slice none n c) k := by rintro ⟨_, _, _, h, _⟩; cases h
theorem slFoot_own {v : Value} {k : Nat} (h : slFoot v k) : v.ownBlock = some k := by
  obtain ⟨a, n, c, rfl, _, rfl⟩ := h; rfl
theorem Rd.loc {w w' : World} {sz n : Nat} {v : Value} {xs : List Value} (h : Rd w sz v n xs) (hk : ∀ k, slFoot v k → w'.heap[k]? = w.heap[k]?) : Rd w' sz v n xs := by
  obtain ⟨h1, a, cap, rfl, h2, h3⟩ := h
  refine ⟨h1, a, cap, rfl, h2, fun hn => ?_⟩
  obtain ⟨ad, rfl, h4⟩ := h3 hn
  exact ⟨ad, rfl, fun j u hu => (World.cell?_of_block (hk _ (by rw [add_block]; exact ⟨_, _, _, rfl, hn, rfl⟩))).trans (h4 j u hu)⟩
theorem Rd.footLt {w : World} {sz n : Nat} {v : Value} {xs : List Value} (h : Rd w sz v n xs) (hs : 0 < sz) {k : Nat} (hk : slFoot v k) : k < w.heap.size := by
  obtain ⟨h1, a, cap, rfl, h2, h3⟩ := h
  obtain ⟨a', n', c', e, hn, rfl⟩ := hk
  simp only [Value.slice.injEq] at e
  obtain ⟨rfl, rfl, rfl⟩ := e
  obtain ⟨ad, e, h4⟩ := h3 hn
  simp only [Option.some.injEq] at e; subst e
  have h0 : 0 < xs.length := by rw [h1]; exact Nat.mul_pos (Nat.pos_of_ne_zero hn) hs
  have := World.block_lt_of_cell? w _ (h4 0 xs[0] (List.getElem?_eq_getElem h0))
  rwa [add_block] at this
theorem RdS.footLt {α : Type} {w : World} {sz : Nat} {enc : α → List Value} {v : Value} {xs : List α} (h : RdS w sz enc v xs) (hs : 0 < sz) {k : Nat} (hk : slFoot v k) : k < w.heap.size := Rd.footLt h hs hk
theorem RdS.loc {α : Type} {w w' : World} {sz : Nat} {enc : α → List Value} {v : Value} {xs : List α} (h : RdS w sz enc v xs) (hk : ∀ k, slFoot v k → w'.heap[k]? = w.heap[k]?) : RdS w' sz enc v xs := Rd.loc h hk
def Inv.rd {α : Type} (sz : Nat) (enc : α → List Value) (v : Value) (xs : List α) : Inv := ⟨fun w => RdS w sz enc v xs, slFoot v, fun _ _ h hk => Rd.loc h hk⟩
section
variable {W0 w w' : World} {F : Nat → Prop} {L : List Res} {I : List Inv} {α : Type} {sz : Nat} {enc : α → List Value} {v : Value} {xs : List α}
theorem St.addRd (h : St W0 w F L I) (hb : Below w.heap.size w w') (hr : RdS w' sz enc v xs) (hs : 0 < sz) (hf : ∀ k, slFoot v k → k < W0.heap.size ∨ (∃ a ∈ I, a.foot k) ∨ w.heap.size ≤ k) : St W0 w' F L (.rd sz enc v xs :: I) := by
  refine (h.call hb).keep _ hr fun k hk => ⟨hr.footLt hs hk, fun hF => ?_, fun r hr' e => ?_⟩
  · have hF' := h.foot k hF
    rcases hf k hk with h1 | ⟨a, ha, h1⟩ | h1
    · omega
    · exact ((h.inv a ha).2 k h1).2.1 hF
    · omega
  · have hl := (h.res r hr').1.lt k e
    rcases hf k hk with h1 | ⟨a, ha, h1⟩ | h1
    · omega
    · exact ((h.inv a ha).2 k h1).2.2 r hr' e
    · omega
theorem St.rd (h : St W0 w F L I) (i : Nat) (hi : I[i]? = some (.rd sz enc v xs)) : RdS w sz enc v xs := h.get i hi
end
end Go.Ann

namespace Go.Ann
open Go Go.RowKit
set_option linter.unusedVariables false
set_option linter.unusedSimpArgs false
section
variable {P : Program} {N : Nat}
def lowE : Env → Env
  | [] => []
  | (m, v) :: ρ => if m < 1000000 then (m, v) :: lowE ρ else lowE ρ
theorem lowE_nil : lowE [] = [] := rfl
theorem lowE_cons {m : Nat} {v : Value} {ρ : Env} : lowE ((m, v) :: ρ) = if m < 1000000 then (m, v) :: lowE ρ else lowE ρ := rfl
def zipE : List Nat → List Value → Env → Env
  | p :: ps, v :: vs, ρ => zipE ps vs ((p, v) :: ρ)
  | _, _, ρ => ρ
theorem zipE_nil {vs : List Value} {ρ : Env} : zipE [] vs ρ = ρ := by cases vs <;> rfl
theorem zipE_none {ps : List Nat} {ρ : Env} : zipE ps [] ρ = ρ := by cases ps <;> rfl
theorem zipE_cons {p : Nat} {ps : List Nat} {v : Value} {vs : List Value} {ρ : Env} : zipE (p :: ps) (v :: vs) ρ = zipE ps vs ((p, v) :: ρ) := rfl
attribute [go_sem] lowE_nil lowE_cons zipE_nil zipE_none zipE_cons
theorem W_rangeF {g : Operand} {ps L : List Nat} {a b : Cmd} {ρ : Env} {w : World} {Q : Post} : W P (.rangeF g ps a b L) ρ w Q = RangeW P g ps a b ρ w (keepQ L Q) := (rfl)
theorem keepQ_normal {L : List Nat} {ρ : Env} {w : World} {Q : Post} : keepQ L Q .normal ρ w = Q .normal (restr L ρ) w := (rfl)
theorem keepQ_ret {L : List Nat} {ρ : Env} {w : World} {Q : Post} : keepQ L Q .ret ρ w = Q .ret ρ w := (rfl)
theorem keepQ_exit {L : List Nat} {ρ : Env} {w : World} {Q : Post} {i : Nat} : keepQ L Q (.exit i) ρ w = Q (.exit i) ρ w := (rfl)
theorem mark_beq {D n : Nat} : (D + 1000000 == n) = decide (D + 1000000 = n) := by rw [Bool.eq_iff_iff, beq_iff_eq, decide_eq_true_eq]
theorem marks_one {D : Nat} {v : Value} : marksD [(D + 1000000, v)] = [D] := by simp [marksD]
attribute [go_sem] W_rangeF mark_beq marks_one keepQ_normal keepQ_ret keepQ_exit
end
end Go.Ann

namespace Go.Ann
open Go Go.RowKit
theorem ask_drawn {α : Type} : ∀ (a : Ask α) (w : World), w.drawn ≤ (w.ask a).2.drawn
  | .done _, w => Nat.le_refl _
  | .ask what range k, w => by
    unfold World.ask
    simp only
    split
    · exact ask_drawn (k 0) w
    · exact Nat.le_trans (Nat.le_succ _) (ask_drawn _ { w with drawn := w.drawn + 1 })
theorem sys_drawn (w : World) (c : Sys) : w.drawn ≤ (w.sys c).2.drawn := by
  unfold World.sys
  have := ask_drawn (Kernel.perform c w.os) w
  split
  · exact Nat.le_refl _
  · rename_i e; rw [e] at this; exact this
theorem view_drawn {p : Program} {w : World} {at_ : Addr} {u : TypeId} {k : Addr} {v : Value} {atomic : Bool} {r : World × List Addr} (h : World.viewStore p w at_ u k v atomic = .ok r) : r.1.drawn = w.drawn := by
  unfold World.viewStore at h
  simp only [bind, Except.bind, pure, Except.pure, throw, throwThe, MonadExceptOf.throw] at h
  repeat' split at h
  all_goals first | (cases h; done) | (cases h; rfl)
theorem far_drawn {p : Program} {w w' : World} {a : Addr} {v : Value} {atomic : Bool} {l : List Addr} (h : World.farStore p w a v atomic = .ok (w', l)) : w'.drawn = w.drawn := by
  unfold World.farStore at h
  split at h
  · split at h
    · rename_i r e
      cases h
      exact view_drawn e
    · cases h
  · cases h
theorem freeze_drawn (w : World) (a : Addr) (n : Nat) : (w.freeze a n).drawn = w.drawn := by
  unfold World.freeze
  first | rfl | (split <;> rfl)
theorem run_drawn {α : Type} (p : Program) (m : Sem α) : ∀ (w w' : World) (v : α), m.run p w = .ok v w' → w.drawn ≤ w'.drawn := by
  induction m with
  | pure a => intro w w' v h; cases h; exact Nat.le_refl _
  | load m a k ih =>
    intro w w' v h
    unfold Sem.run at h
    split at h
    · exact ih _ _ _ _ h
    · split at h
      · exact ih _ _ _ _ h
      · cases h
  | store m a x k ih =>
    intro w w' v h
    have key : (match w.cell? a with
        | some _ => if w.frozen? a then Result.halt (.unsupported (.unsafePointer "a write to bytes that a string shares")) w else k.run p (w.setCell a x)
        | none => match w.farStore p a x (m == Mode.atomic) with
          | .ok (w, _) => k.run p w
          | .error h => .halt h w) = .ok v w' → w.drawn ≤ w'.drawn := by
      intro h
      split at h
      · split at h
        · cases h
        · have t := ih _ _ _ h; exact t
      · split at h
        · rename_i e
          have t := ih _ _ _ h
          rw [far_drawn e] at t
          exact t
        · cases h
    cases x with
    | agg _ => cases h
    | tuple _ => cases h
    | _ => rw [Sem.run] at h; exact key h; all_goals (intros; simp_all)
  | new o k ih => intro w w' v h; have t := ih _ _ _ _ h; exact t
  | shape r k ih => intro w w' v h; exact ih _ _ _ _ h
  | freeze a n k ih => intro w w' v h; have t := ih _ _ _ h; rw [freeze_drawn] at t; exact t
  | frozen a k ih => intro w w' v h; exact ih _ _ _ _ h
  | getObj r k ih =>
    intro w w' v h
    unfold Sem.run at h
    split at h
    · cases h
    · exact ih _ _ _ _ h
    · cases h
  | setObj r o k ih =>
    intro w w' v h
    unfold Sem.run at h
    split at h
    · cases h
    · have t := ih _ _ _ h; exact t
    · cases h
  | choose q k ih =>
    intro w w' v h
    unfold Sem.run at h
    split at h
    · exact ih _ _ _ _ h
    · exact Nat.le_trans (Nat.le_succ _) (ih _ _ _ _ h)
  | sys c k ih => intro w w' v h; exact Nat.le_trans (sys_drawn w c) (ih _ _ _ _ h)
  | program k ih => intro w w' v h; exact ih _ _ _ _ h
  | mark m k ih => intro w w' v h; exact ih _ _ _ h
  | halt h => intro w w' v h; cases h
theorem rawB_D {P : Program} {b : Builtin} {ats : Array TypeId} {ty : TypeId} {cs : Array Bool} {xs : List Value} {w : World} {K : Value → World → Prop} (h : rawB P b ats ty cs xs w fun v w' => w.drawn ≤ w'.drawn → K v w') : rawB P b ats ty cs xs w K := by
  obtain ⟨v, w', h1, h2⟩ := h
  exact ⟨v, w', h1, h2 (run_drawn _ _ _ _ _ h1)⟩
def Gr (w w' : World) : Prop := Below w.heap.size w w' ∧ w.drawn ≤ w'.drawn
theorem Gr.refl (w : World) : Gr w w := ⟨Below.refl _ _, Nat.le_refl _⟩
theorem Gr.below {w w' : World} (h : Gr w w') : Below w.heap.size w w' := h.1
theorem Gr.trans {a b c : World} (h : Gr a b) (k : Gr b c) : Gr a c := ⟨Below.next h.1 k.1, Nat.le_trans h.2 k.2⟩
end Go.Ann

namespace Go.Ann
set_option linter.unusedSimpArgs false
set_option linter.unusedVariables false
open Go Go.RowKit
inductive ST where
  | nil
  | one (k i : Nat) (r : ST)
  | alt (i : Nat) (r q : ST)
  | stop
inductive GT where
  | nil
  | one (k : Nat) (x : Ins) (r : GT)
  | alt (x : Ins) (r q : GT)
  | stop
def insOf (l : List Oper) (i : Nat) : Option Ins :=
  match l[i]? with
  | none => none
  | some o => match stripG l o.guard with
    | some g => some ⟨o.dst, o.op, o.type, g⟩
    | none => none
def insT (l : List Oper) : ST → Option GT
  | .nil => some .nil
  | .stop => some .stop
  | .one k i r => match insOf l i, insT l r with
    | some x, some t => some (.one k x t)
    | _, _ => none
  | .alt i r q => match insOf l i, insT l r, insT l q with
    | some x, some t, some u => some (.alt x t u)
    | _, _, _ => none
def stepX (P : Program) (S : World → Prop) (k : Nat) (x : Ins) (ρ : Env) (w : World) (C : Env → World → Prop) : Prop :=
  match x.g with
  | none => opG P S k x.op x.ty ρ w fun v w' => C (put ρ x.dst v) w'
  | some (s, b) => match lk ρ s with
    | some (.bool c) => (c = b → opG P S k x.op x.ty ((s, .bool b) :: ρ) w fun v w' => C (put ((s, .bool b) :: ρ) x.dst v) w') ∧ (c = !b → C (put ((s, .bool !b) :: ρ) x.dst undef) w)
    | some (.tuple _) => C (put ρ x.dst undef) w
    | _ => False
def DT (P : Program) (S : World → Prop) : GT → List Nat → Env → World → Post → Prop
  | .nil, L, ρ, w, Q => Q .normal (restr L ρ) w
  | .one k x r, L, ρ, w, Q => stepX P S k x ρ w fun ρ' w' => DT P S r L ρ' w' Q
  | .alt x r q, L, ρ, w, Q => (stepX P S 2 x ρ w fun ρ' w' => DT P S r L ρ' w' Q) ∧ DT P S q L ρ w Q
  | .stop, _, _, _, _ => True
section
variable {P : Program} {S : World → Prop} {w : World} {ρ : Env} {Q : Post} {r q : GT} {L : List Nat} {d : Option Nat} {ty : TypeId} {k : Nat} {op : Op} {s : Nat} {b c : Bool} {x : Ins}
def DTn (P : Program) (S : World → Prop) (r : GT) (L : List Nat) (ρ : Env) (d : Option Nat) (Q : Post) : Value → World → Prop := fun v w => DT P S r L (put ρ d v) w Q
def DTs (P : Program) (S : World → Prop) (r : GT) (L : List Nat) (ρ : Env) (d : Option Nat) (Q : Post) : Value → World → Prop := fun v w => S w ∧ DT P S r L (put ρ d v) w Q
def opT (P : Program) (S : World → Prop) (k : Nat) (op : Op) (ty : TypeId) (r : GT) (L : List Nat) (ρ : Env) (d : Option Nat) (w : World) (Q : Post) : Prop := opG P S k op ty ρ w (DTn P S r L ρ d Q)
def dT (P : Program) (S : World → Prop) (o : Option Value) (s : Nat) (b : Bool) (k : Nat) (d : Option Nat) (op : Op) (ty : TypeId) (r : GT) (L : List Nat) (ρ : Env) (w : World) (Q : Post) : Prop :=
  match o with
  | some (.bool c) => (c = b → opT P S k op ty r L ((s, .bool b) :: ρ) d w Q) ∧ (c = !b → DT P S r L (put ((s, .bool !b) :: ρ) d undef) w Q)
  | some (.tuple _) => DT P S r L (put ρ d undef) w Q
  | _ => False
def nxT (P : Program) (S : World → Prop) (k : Nat) (x : Ins) (r : GT) (L : List Nat) (ρ : Env) (w : World) (Q : Post) : Prop := stepX P S k x ρ w fun ρ' w' => DT P S r L ρ' w' Q
theorem DT_nil : DT P S .nil L ρ w Q = Q .normal (restr L ρ) w := (rfl)
theorem DT_stop : DT P S .stop L ρ w Q = True := (rfl)
theorem DT_one : DT P S (.one k x r) L ρ w Q = nxT P S k x r L ρ w Q := (rfl)
theorem DT_alt : DT P S (.alt x r q) L ρ w Q = (nxT P S 2 x r L ρ w Q ∧ DT P S q L ρ w Q) := (rfl)
theorem nxT_plain : nxT P S k ⟨d, op, ty, none⟩ r L ρ w Q = opT P S k op ty r L ρ d w Q := (rfl)
theorem nxT_guard : nxT P S k ⟨d, op, ty, some (s, b)⟩ r L ρ w Q = dT P S (lk ρ s) s b k d op ty r L ρ w Q := by
  simp only [nxT, stepX, dT]; rfl
theorem DTn_app {v : Value} : DTn P S r L ρ d Q v w = DT P S r L (put ρ d v) w Q := (rfl)
theorem DTs_app {v : Value} : DTs P S r L ρ d Q v w = (S w ∧ DT P S r L (put ρ d v) w Q) := (rfl)
theorem opT_0 : opT P S 0 op ty r L ρ d w Q = pureW P op ty ρ w (DTn P S r L ρ d Q) := (rfl)
theorem opT_1 {t : TypeId} {x : Operand} : opT P S 1 (.load t x) ty r L ρ d w Q = ptrW (fun p => heldW P S t p w (DTn P S r L ρ d Q)) (ev ρ x) := (rfl)
theorem opT_2 : opT P S 2 op ty r L ρ d w Q = (noY ρ op ∧ opW P op ty ρ w (DTs P S r L ρ d Q)) := (rfl)
theorem dT_t : dT P S (some (.bool true)) s true k d op ty r L ρ w Q = opT P S k op ty r L ((s, .bool true) :: ρ) d w Q := by simp [dT]
theorem dT_f : dT P S (some (.bool false)) s false k d op ty r L ρ w Q = opT P S k op ty r L ((s, .bool false) :: ρ) d w Q := by simp [dT]
theorem dT_tf : dT P S (some (.bool true)) s false k d op ty r L ρ w Q = DT P S r L (put ((s, .bool true) :: ρ) d undef) w Q := by simp [dT]
theorem dT_ft : dT P S (some (.bool false)) s true k d op ty r L ρ w Q = DT P S r L (put ((s, .bool false) :: ρ) d undef) w Q := by simp [dT]
theorem dT_gen : dT P S (some (.bool c)) s b k d op ty r L ρ w Q = ((c = b → opT P S k op ty r L ((s, .bool b) :: ρ) d w Q) ∧ (c = !b → DT P S r L (put ((s, .bool !b) :: ρ) d undef) w Q)) := (rfl)
theorem dT_undef : dT P S (some undef) s b k d op ty r L ρ w Q = DT P S r L (put ρ d undef) w Q := (rfl)
end
attribute [go_sem low] dT_gen
attribute [go_sem] DT_nil DT_stop DT_one DT_alt nxT_plain nxT_guard DTn_app DTs_app opT_0 opT_1 opT_2 dT_t dT_f dT_tf dT_ft dT_undef
end Go.Ann

namespace Go.Ann
open Go Go.RowKit
set_option linter.unusedVariables false
set_option linter.unusedSimpArgs false
section
variable {κ : Type} {P : Program} {enc : κ → Value} {t : TypeId}
def entL (enc : κ → Value) : Nat → List κ → List MapEntry
  | _, [] => []
  | n, k :: l => { key := enc k, val := .bool true, born := n } :: entL enc (n + 1) l
def mapO (enc : κ → Value) (l : List κ) : Obj := .map (entL enc 0 l).toArray l.length
theorem entL_append : ∀ (l m : List κ) (n : Nat), entL enc n (l ++ m) = entL enc n l ++ entL enc (n + l.length) m
  | [], m, n => rfl
  | k :: l, m, n => by
    simp only [List.cons_append, entL, List.length_cons]
    rw [entL_append l m (n + 1), show n + 1 + l.length = n + (l.length + 1) by omega]
theorem mmW_map {m : TypeId} {w : World} {K : Value → World → Prop} (hK : K (.map (some w.heap.size)) (w.alloc (mapO (κ := κ) enc []))) : mmW P m w K := by
  refine ⟨_, _, ?_, hK⟩
  unfold Instr.makeMap
  simp [Sem.run_bind, Result.andThen, run_newObj_alloc]
  rfl
variable [DecidableEq κ]
structure KeyT (P : Program) (t : TypeId) (enc : κ → Value) (d : TypeDesc) : Prop where
  und : P.underlying t = some d
  chk' : ∀ (n : Nat) (w : World) (em : Bool) (a : κ), (Instr.checkKey em (n + 2) t (enc a)).run P w = .ok () w
  now : ∀ a b : κ, Instr.sameNow d (enc a) (enc b) = none ∨ Instr.sameNow d (enc a) (enc b) = some (decide (a = b))
  eq : ∀ (w : World) (a b : κ), (Op.equal t (enc a) (enc b)).run P w = .ok (decide (a = b)) w
theorem KeyT.chk {d : TypeDesc} (h : KeyT P t enc d) (w : World) (em : Bool) (a : κ) : (Instr.checkKey em 10000 t (enc a)).run P w = .ok () w := h.chk' 9998 w em a
def whereK (a : κ) : List κ → Nat → Option (Nat × Value)
  | [], _ => none
  | b :: l, i => if a = b then some (i, .bool true) else whereK a l (i + 1)
theorem whereK_not {a : κ} : ∀ {l : List κ} {i : Nat}, a ∉ l → whereK a l i = none
  | [], _, _ => rfl
  | b :: l, i, h => by
    rw [whereK, if_neg (fun e => h (by rw [e]; exact List.mem_cons_self ..)), whereK_not fun hm => h (List.mem_cons_of_mem _ hm)]
theorem whereK_mem {a : κ} : ∀ {l : List κ} {i : Nat}, a ∈ l → ∃ j, whereK a l i = some (j, .bool true)
  | b :: l, i, h => by
    rw [whereK]
    split
    · exact ⟨_, rfl⟩
    · rename_i hne
      rcases List.mem_cons.1 h with e | h
      · exact absurd e hne
      · exact whereK_mem h
variable {d : TypeDesc}
theorem findNow_ent (hk : KeyT P t enc d) (a : κ) : ∀ (l : List κ) (n i : Nat), Instr.findNow d (enc a) (entL enc n l) i = none ∨ Instr.findNow d (enc a) (entL enc n l) i = some (whereK a l i)
  | [], n, i => .inr rfl
  | b :: l, n, i => by
    simp only [entL, Instr.findNow, whereK]
    rcases hk.now a b with h | h
    · exact .inl (by rw [h])
    · rw [h]
      by_cases e : a = b
      · rw [decide_eq_true e, if_pos e]; exact .inr rfl
      · rw [decide_eq_false e, if_neg e]; exact findNow_ent hk a l _ _
theorem findAsk_ent (hk : KeyT P t enc d) (w : World) (a : κ) : ∀ (l : List κ) (n i : Nat), (Instr.findAsking t (enc a) (entL enc n l) i).run P w = .ok (whereK a l i) w
  | [], n, i => rfl
  | b :: l, n, i => by
    simp only [entL, Instr.findAsking, whereK, Sem.run_bind, hk.eq w a b, Result.andThen_ok]
    by_cases e : a = b
    · rw [decide_eq_true e, if_pos e]; rfl
    · rw [decide_eq_false e, if_neg e]
      simp only [Bool.false_eq_true, if_false]
      exact findAsk_ent hk w a l _ _
theorem findKey_ent (hk : KeyT P t enc d) (w : World) (a : κ) (l : List κ) (n : Nat) : (Instr.findKey t (enc a) (entL enc n l)).run P w = .ok (whereK a l 0) w := by
  unfold Instr.findKey
  simp only [Sem.run_bind, run_underlying hk.und, Result.andThen_ok]
  rcases findNow_ent hk a l n 0 with h | h
  · rw [h]; exact findAsk_ent hk w a l n 0
  · rw [h]; rfl
theorem luW_map {m e : TypeId} {w : World} {K : Value → World → Prop} {r : Nat} (hk : KeyT P t enc d) (hm : P.underlying m = some (.map t e)) {l : List κ} (hr : w.heap[r]? = some (mapO enc l)) (a : κ)
    (hz : (zeroValue e).run P w = .ok (.bool false) w) (hK : K (.bool (decide (a ∈ l))) w) : luW P m (.map (some r)) (enc a) false w K := by
  refine ⟨_, _, ?_, hK⟩
  unfold Instr.lookup
  have hg : (getObj r).run P w = .ok (.map (entL enc 0 l).toArray l.length) w := run_getObj_map w r _ _ hr
  simp only [Sem.run_bind, run_underlying hm, Result.andThen_ok, hg, Sem.run_pure, hk.chk, findKey_ent hk, List.toList_toArray]
  by_cases h : a ∈ l
  · obtain ⟨j, hj⟩ := whereK_mem (i := 0) h
    rw [hj, decide_eq_true h]; rfl
  · rw [whereK_not h, decide_eq_false h]
    simp only [Sem.run_bind, hz, Result.andThen_ok]
    rfl
theorem muW_map {m e : TypeId} {w : World} {K : Value → World → Prop} {r : Nat} (hk : KeyT P t enc d) (hm : P.underlying m = some (.map t e)) {l : List κ} (hr : w.heap[r]? = some (mapO enc l)) (a : κ) (ha : a ∉ l)
    (hK : K undef (w.putObj r (mapO enc (l ++ [a])))) : muW P m (.map (some r)) (enc a) (.bool true) w K := by
  refine ⟨_, ?_, hK⟩
  unfold Instr.mapUpdate
  have hg : (getObj r).run P w = .ok (.map (entL enc 0 l).toArray l.length) w := run_getObj_map w r _ _ hr
  simp only [Sem.run_bind, run_underlying hm, Result.andThen_ok, hg, Sem.run_pure, hk.chk, findKey_ent hk, List.toList_toArray, whereK_not ha]
  have e : (entL enc 0 l).toArray.push { key := enc a, val := Value.bool true, born := l.length } = (entL enc 0 (l ++ [a])).toArray := by
    rw [entL_append, Nat.zero_add]; simp [entL]
  rw [e]
  have hs : ∀ o, (setObj r o).run P w = .ok () (w.putObj r o) := fun o => by simp [setObj, Sem.run, hr, mapO, World.putObj]
  rw [hs]
  show _ = Result.ok () (w.putObj r (.map _ (l ++ [a]).length))
  rw [List.length_append]; rfl
end
section
variable {P : Program} {t : TypeId}
theorem keyT_flat {κ : Type} [DecidableEq κ] {enc : κ → List Value} {ks : List FK} {fs : Array Field} (hf : flatT P t = some ks) (hu : P.underlying t = some (.struct fs)) (he : ∀ a b, aggEq ks (enc a) (enc b) = some (decide (a = b))) (hl : ∀ (a : κ) (i : Nat) (f : Field), fs[i]? = some f → ∃ v, (enc a)[f.offset]? = some v) :
    KeyT P t (fun a => .agg (enc a).toArray) (.struct fs) := by
  have hg : (P.stoodInHeld t = false ∧ P.eqGuardType P.depth t = false) ∧ flatF P 0 fs.toList = some ks := by
    unfold flatT at hf
    split at hf
    · rename_i hg
      rw [hu] at hf
      exact ⟨hg, hf⟩
    · cases hf
  refine ⟨hu, fun n w em a => ?_, fun a b => .inl rfl, fun w a b => ?_⟩
  · have one : ∀ (l : List Field) (i : Nat) (ks : List FK), flatF P i l = some ks → (∀ f ∈ l, ∃ v, (enc a)[f.offset]? = some v) → ∀ f ∈ l, ((if f.name ≠ "_" then do Instr.checkKey em (n + 1) f.type (← part f.type (enc a).toArray f.offset) else pure () : Sem Unit)).run P w = .ok () w := by
      intro l
      induction l with
      | nil => intro i ks _ _ f hf; cases hf
      | cons g l ih =>
        intro i ks h1 h2 f hfm
        simp only [flatF] at h1
        split at h1
        case isFalse => cases h1
        rename_i hgo
        split at h1
        case h_2 => cases h1
        rename_i k ks' hk hks
        rcases List.mem_cons.1 hfm with rfl | hfm
        · obtain ⟨v, hv⟩ := h2 _ (List.mem_cons_self ..)
          obtain ⟨dd, hd, hag, hm⟩ := kindF_some hk
          rw [if_pos hgo.2]
          have hp : (part f.type (enc a).toArray f.offset).run P w = .ok v w := by
            simp only [part, Sem.run_bind, run_isAgg0 w hd, Result.andThen, hag, Bool.false_eq_true, if_false, List.getElem?_toArray, hv, Sem.run_pure]
          simp only [Sem.run_bind, hp, Result.andThen_ok]
          simp only [Instr.checkKey, Sem.run_bind, run_underlying hd, Result.andThen_ok]
          cases k <;> cases dd <;> first | exact hm.elim | rfl
        · exact ih _ _ hks (fun f hf => h2 f (List.mem_cons_of_mem _ hf)) f hfm
    have each := one fs.toList 0 ks hg.2 fun f hf => by
      obtain ⟨i, hi, rfl⟩ := List.mem_iff_getElem.1 hf
      exact hl a i _ (by rw [← Array.getElem?_toList]; exact List.getElem?_eq_getElem hi)
    rw [Instr.checkKey]
    simp only [Sem.run_bind, run_underlying hu, Result.andThen_ok]
    rw [← Array.forIn_toList]
    revert each
    generalize fs.toList = l
    intro each
    induction l with
    | nil => rfl
    | cons f l ih =>
      have h1 := each f (List.mem_cons_self ..)
      have h2 := ih fun f hf => each f (List.mem_cons_of_mem _ hf)
      rw [List.forIn_cons]
      simp only [Sem.run_bind] at h2 ⊢
      by_cases hn : f.name ≠ "_"
      · rw [if_pos hn] at h1
        simp only [Sem.run_bind] at h1
        rw [if_pos hn]
        simp only [Sem.run_bind]
        cases hp : (part f.type (enc a).toArray f.offset).run P w with
        | ok v w1 =>
          rw [hp] at h1
          simp only [Result.andThen_ok] at h1 ⊢
          rw [h1]
          simpa using h2
        | _ => rw [hp] at h1; cases h1
      · rw [if_neg hn]
        simpa using h2
  · show (Op.equalIn 10000 t _ _).run P w = _
    have hfo : P.fieldsOf t = fs := by simp [Program.fieldsOf, hu]
    rw [run_equalIn_struct w 9999 t _ _ (by rw [hfo]; exact hu) hg.1.1, hfo]
    exact eqF_run w 9998 _ _ fs.toList ks 0 _ hg.2 (by simpa using he a b)
end
end Go.Ann

namespace Go.Ann
open Go Go.RowKit
attribute [go_sem] storeW_fill List.setIfInBounds_toArray List.set_cons_zero List.set_cons_succ List.getElem_toArray List.getElem_cons_zero List.getElem_cons_succ Nat.reduceLeDiff Nat.reduceSub okSt_nil okSt_cons fillO_some fillO_none cF_same cF_blk fF_any size_fill Value.oneCell' Int.toNat_natCast Int.cast_ofNat_Int cast0 cast1 Int.natCast_add add_block add_off Classical.not_not decide_not Bool.not_eq_false decide_true decide_false Bool.true_beq Bool.false_beq beq_true beq_false Bool.true_bne Bool.false_bne Bool.bne_true Bool.bne_false decide_eq_true_eq Bool.not_eq_eq_eq_not Nat.mul_one List.size_toArray List.length_cons List.length_nil Nat.le_refl ldK_int ldK_bool ldK_str ldK_slice ldK_ptr ldK_map ldK_agg ldK_other ldO_int ldO_bool ldO_str ldO_slice ldO_ptr ldO_map ldO_other ldA_some cellsO_new cellsO_nil cellsC_some cellsO_drew cellsO_alloc cA_add cS_add cA_new cA_old fA_new fA_old setO_some cS_same cS_off cS_blk World.cell?_drew World.frozen?_drew World.frozen?_setCell World.size_alloc World.size_drew World.size_setCell heldX_eq heldX_add chg_refl chg_drew ovr_nil ovr_cons Option.getD_some Option.getD_none Addr.add_lit Nat.add_zero Option.some.injEq exists_eq' exists_eq_left' Value.int.injEq Value.bool.injEq Value.pointer.injEq Value.string.injEq
end Go.Ann
section
attribute [go_sem_proc] reduceCtorEq Nat.reduceBEq Nat.reduceEqDiff Nat.reduceAdd Nat.reduceMul Int.reduceNe Int.reduceEq Int.reduceLT Int.reduceLE Int.reduceNeg Int.reduceAdd Int.reduceSub Int.reduceMul Int.reduceToNat
attribute [go_sem_proc ↓] reduceIte
attribute [go_sem] beq_self_eq_true
end

namespace Go.Proofs.Ytbeoedgoikcbpaa
open Go Go.Ann
@[go_sem] theorem ty3tyK : tyK Try.prog 3 = .int .i64 := by kernel_rfl
@[go_sem] theorem ty3sizeT : sizeT Try.prog 3 = some 1 := by kernel_rfl
@[go_sem] theorem ty3zeroT : zeroT Try.prog 3 = some (.int .i64 0) := by kernel_rfl
@[go_sem] theorem ty3conc : Program.concrete Try.prog 3 = true := by kernel_rfl
@[go_sem] theorem ty4tyK : tyK Try.prog 4 = .bool := by kernel_rfl
@[go_sem] theorem ty4isBoolT : isBoolT Try.prog 4 = true := by kernel_rfl
@[go_sem] theorem ty4sizeT : sizeT Try.prog 4 = some 1 := by kernel_rfl
@[go_sem] theorem ty4zeroT : zeroT Try.prog 4 = some (.bool false) := by kernel_rfl
@[go_sem] theorem ty4conc : Program.concrete Try.prog 4 = true := by kernel_rfl
@[go_sem] theorem ty5tyK : tyK Try.prog 5 = .int .u8 := by kernel_rfl
@[go_sem] theorem ty5sizeT : sizeT Try.prog 5 = some 1 := by kernel_rfl
@[go_sem] theorem ty5zeroT : zeroT Try.prog 5 = some (.int .u8 0) := by kernel_rfl
@[go_sem] theorem ty5conc : Program.concrete Try.prog 5 = true := by kernel_rfl
@[go_sem] theorem ty9tyK : tyK Try.prog 9 = .str := by kernel_rfl
@[go_sem] theorem ty9isStrT : isStrT Try.prog 9 = true := by kernel_rfl
@[go_sem] theorem ty9sizeT : sizeT Try.prog 9 = some 1 := by kernel_rfl
@[go_sem] theorem ty9zeroT : zeroT Try.prog 9 = some (.string (ofL [])) := by kernel_rfl
@[go_sem] theorem ty9conc : Program.concrete Try.prog 9 = true := by kernel_rfl
@[go_sem] theorem ty22tyK : tyK Try.prog 22 = .slice false 58 := by kernel_rfl
@[go_sem] theorem ty22isSliceT : isSliceT Try.prog 22 = true := by kernel_rfl
@[go_sem] theorem ty22sliI : sliI Try.prog 22 = some 11 := by kernel_rfl
@[go_sem] theorem ty22mkI : mkI Try.prog 22 = some (58, 11, 88, (.agg #[(.int .i64 0), (.int .i64 0), (.int .i64 0), (.int .i64 0), (.int .i64 0), (.int .i64 0), (.int .i64 0), (.bool false), (.int .i64 0), (.int .i64 0), (.int .i64 0)])) := by kernel_rfl
@[go_sem] theorem ty22sizeT : sizeT Try.prog 22 = some 1 := by kernel_rfl
@[go_sem] theorem ty22zeroT : zeroT Try.prog 22 = some (.slice none 0 0) := by kernel_rfl
@[go_sem] theorem ty22conc : Program.concrete Try.prog 22 = true := by kernel_rfl
@[go_sem] theorem ty24tyK : tyK Try.prog 24 = .agg 3 := by kernel_rfl
@[go_sem] theorem ty24sizeT : sizeT Try.prog 24 = some 3 := by kernel_rfl
@[go_sem] theorem ty24zeroT : zeroT Try.prog 24 = some (.agg #[(.int .i64 0), (.int .i64 0), (.slice none 0 0)]) := by kernel_rfl
@[go_sem] theorem ty24conc : Program.concrete Try.prog 24 = true := by kernel_rfl
@[go_sem] theorem ty24plc : plcT Try.prog 24 = some [(0, 1), (1, 1), (2, 1)] := by kernel_rfl
@[go_sem] theorem ty24fld0 : fldI Try.prog 24 0 = some (0, 1, false) := by kernel_rfl
@[go_sem] theorem ty24fld1 : fldI Try.prog 24 1 = some (1, 1, false) := by kernel_rfl
@[go_sem] theorem ty24fld2 : fldI Try.prog 24 2 = some (2, 1, false) := by kernel_rfl
@[go_sem] theorem ty25tyK : tyK Try.prog 25 = .slice false 36 := by kernel_rfl
@[go_sem] theorem ty25isSliceT : isSliceT Try.prog 25 = true := by kernel_rfl
@[go_sem] theorem ty25sliI : sliI Try.prog 25 = some 1 := by kernel_rfl
@[go_sem] theorem ty25mkI : mkI Try.prog 25 = some (36, 1, 24, (.slice none 0 0)) := by kernel_rfl
@[go_sem] theorem ty25sizeT : sizeT Try.prog 25 = some 1 := by kernel_rfl
@[go_sem] theorem ty25zeroT : zeroT Try.prog 25 = some (.slice none 0 0) := by kernel_rfl
@[go_sem] theorem ty25conc : Program.concrete Try.prog 25 = true := by kernel_rfl
@[go_sem] theorem ty27tyK : tyK Try.prog 27 = .agg 3 := by kernel_rfl
@[go_sem] theorem ty27sizeT : sizeT Try.prog 27 = some 3 := by kernel_rfl
@[go_sem] theorem ty27zeroT : zeroT Try.prog 27 = some (.agg #[(.slice none 0 0), (.slice none 0 0), (.int .i64 0)]) := by kernel_rfl
@[go_sem] theorem ty27conc : Program.concrete Try.prog 27 = true := by kernel_rfl
@[go_sem] theorem ty27plc : plcT Try.prog 27 = some [(0, 1), (1, 1), (2, 1)] := by kernel_rfl
@[go_sem] theorem ty27fld0 : fldI Try.prog 27 0 = some (0, 1, false) := by kernel_rfl
@[go_sem] theorem ty27fld1 : fldI Try.prog 27 1 = some (1, 1, false) := by kernel_rfl
@[go_sem] theorem ty27fld2 : fldI Try.prog 27 2 = some (2, 1, false) := by kernel_rfl
@[go_sem] theorem ty28tyK : tyK Try.prog 28 = .int .i64 := by kernel_rfl
@[go_sem] theorem ty28sizeT : sizeT Try.prog 28 = some 1 := by kernel_rfl
@[go_sem] theorem ty28zeroT : zeroT Try.prog 28 = some (.int .i64 0) := by kernel_rfl
@[go_sem] theorem ty28conc : Program.concrete Try.prog 28 = true := by kernel_rfl
@[go_sem] theorem ty36tyK : tyK Try.prog 36 = .slice false 3 := by kernel_rfl
@[go_sem] theorem ty36isSliceT : isSliceT Try.prog 36 = true := by kernel_rfl
@[go_sem] theorem ty36sliI : sliI Try.prog 36 = some 1 := by kernel_rfl
@[go_sem] theorem ty36mkI : mkI Try.prog 36 = some (3, 1, 8, (.int .i64 0)) := by kernel_rfl
@[go_sem] theorem ty36sizeT : sizeT Try.prog 36 = some 1 := by kernel_rfl
@[go_sem] theorem ty36zeroT : zeroT Try.prog 36 = some (.slice none 0 0) := by kernel_rfl
@[go_sem] theorem ty36conc : Program.concrete Try.prog 36 = true := by kernel_rfl
@[go_sem] theorem ty44tyK : tyK Try.prog 44 = .int .u16 := by kernel_rfl
@[go_sem] theorem ty44sizeT : sizeT Try.prog 44 = some 1 := by kernel_rfl
@[go_sem] theorem ty44zeroT : zeroT Try.prog 44 = some (.int .u16 0) := by kernel_rfl
@[go_sem] theorem ty44conc : Program.concrete Try.prog 44 = true := by kernel_rfl
@[go_sem] theorem ty47tyK : tyK Try.prog 47 = .slice false 24 := by kernel_rfl
@[go_sem] theorem ty47isSliceT : isSliceT Try.prog 47 = true := by kernel_rfl
@[go_sem] theorem ty47sliI : sliI Try.prog 47 = some 3 := by kernel_rfl
@[go_sem] theorem ty47mkI : mkI Try.prog 47 = some (24, 3, 40, (.agg #[(.int .i64 0), (.int .i64 0), (.slice none 0 0)])) := by kernel_rfl
@[go_sem] theorem ty47sizeT : sizeT Try.prog 47 = some 1 := by kernel_rfl
@[go_sem] theorem ty47zeroT : zeroT Try.prog 47 = some (.slice none 0 0) := by kernel_rfl
@[go_sem] theorem ty47conc : Program.concrete Try.prog 47 = true := by kernel_rfl
@[go_sem] theorem ty58tyK : tyK Try.prog 58 = .agg 11 := by kernel_rfl
@[go_sem] theorem ty58sizeT : sizeT Try.prog 58 = some 11 := by kernel_rfl
@[go_sem] theorem ty58zeroT : zeroT Try.prog 58 = some (.agg #[(.int .i64 0), (.int .i64 0), (.int .i64 0), (.int .i64 0), (.int .i64 0), (.int .i64 0), (.int .i64 0), (.bool false), (.int .i64 0), (.int .i64 0), (.int .i64 0)]) := by kernel_rfl
@[go_sem] theorem ty58conc : Program.concrete Try.prog 58 = true := by kernel_rfl
@[go_sem] theorem ty58plc : plcT Try.prog 58 = some [(0, 1), (1, 1), (2, 1), (3, 1), (4, 1), (5, 1), (6, 1), (7, 1), (8, 1), (9, 1), (10, 1)] := by kernel_rfl
@[go_sem] theorem ty58flat : flatT Try.prog 58 = some [.int, .int, .int, .int, .int, .int, .int, .bool, .int, .int, .int] := by kernel_rfl
@[go_sem] theorem ty58fld0 : fldI Try.prog 58 0 = some (0, 1, false) := by kernel_rfl
@[go_sem] theorem ty58fld1 : fldI Try.prog 58 1 = some (1, 1, false) := by kernel_rfl
@[go_sem] theorem ty58fld2 : fldI Try.prog 58 2 = some (2, 1, false) := by kernel_rfl
@[go_sem] theorem ty58fld3 : fldI Try.prog 58 3 = some (3, 1, false) := by kernel_rfl
@[go_sem] theorem ty58fld4 : fldI Try.prog 58 4 = some (4, 1, false) := by kernel_rfl
@[go_sem] theorem ty58fld5 : fldI Try.prog 58 5 = some (5, 1, false) := by kernel_rfl
@[go_sem] theorem ty58fld6 : fldI Try.prog 58 6 = some (6, 1, false) := by kernel_rfl
@[go_sem] theorem ty58fld7 : fldI Try.prog 58 7 = some (7, 1, false) := by kernel_rfl
@[go_sem] theorem ty58fld8 : fldI Try.prog 58 8 = some (8, 1, false) := by kernel_rfl
@[go_sem] theorem ty58fld9 : fldI Try.prog 58 9 = some (9, 1, false) := by kernel_rfl
@[go_sem] theorem ty58fld10 : fldI Try.prog 58 10 = some (10, 1, false) := by kernel_rfl
@[go_sem] theorem ty63tyK : tyK Try.prog 63 = .int .u32 := by kernel_rfl
@[go_sem] theorem ty63sizeT : sizeT Try.prog 63 = some 1 := by kernel_rfl
@[go_sem] theorem ty63zeroT : zeroT Try.prog 63 = some (.int .u32 0) := by kernel_rfl
@[go_sem] theorem ty63conc : Program.concrete Try.prog 63 = true := by kernel_rfl
@[go_sem] theorem ty76tyK : tyK Try.prog 76 = .int .u64 := by kernel_rfl
@[go_sem] theorem ty76sizeT : sizeT Try.prog 76 = some 1 := by kernel_rfl
@[go_sem] theorem ty76zeroT : zeroT Try.prog 76 = some (.int .u64 0) := by kernel_rfl
@[go_sem] theorem ty76conc : Program.concrete Try.prog 76 = true := by kernel_rfl
@[go_sem] theorem ty96tyK : tyK Try.prog 96 = .map := by kernel_rfl
@[go_sem] theorem ty96isMapT : isMapT Try.prog 96 = true := by kernel_rfl
@[go_sem] theorem ty96sizeT : sizeT Try.prog 96 = some 1 := by kernel_rfl
@[go_sem] theorem ty96zeroT : zeroT Try.prog 96 = some (.map none) := by kernel_rfl
@[go_sem] theorem ty96conc : Program.concrete Try.prog 96 = true := by kernel_rfl
@[go_sem] theorem ty97tyK : tyK Try.prog 97 = .slice false 22 := by kernel_rfl
@[go_sem] theorem ty97isSliceT : isSliceT Try.prog 97 = true := by kernel_rfl
@[go_sem] theorem ty97sliI : sliI Try.prog 97 = some 1 := by kernel_rfl
@[go_sem] theorem ty97mkI : mkI Try.prog 97 = some (22, 1, 24, (.slice none 0 0)) := by kernel_rfl
@[go_sem] theorem ty97sizeT : sizeT Try.prog 97 = some 1 := by kernel_rfl
@[go_sem] theorem ty97zeroT : zeroT Try.prog 97 = some (.slice none 0 0) := by kernel_rfl
@[go_sem] theorem ty97conc : Program.concrete Try.prog 97 = true := by kernel_rfl
@[go_sem] theorem ty99tyK : tyK Try.prog 99 = .agg 4 := by kernel_rfl
@[go_sem] theorem ty99sizeT : sizeT Try.prog 99 = some 4 := by kernel_rfl
@[go_sem] theorem ty99zeroT : zeroT Try.prog 99 = some (.agg #[(.slice none 0 0), (.map none), (.slice none 0 0), (.int .i64 0)]) := by kernel_rfl
@[go_sem] theorem ty99conc : Program.concrete Try.prog 99 = true := by kernel_rfl
@[go_sem] theorem ty99plc : plcT Try.prog 99 = some [(0, 1), (1, 1), (2, 1), (3, 1)] := by kernel_rfl
@[go_sem] theorem ty99fld0 : fldI Try.prog 99 0 = some (0, 1, false) := by kernel_rfl
@[go_sem] theorem ty99fld1 : fldI Try.prog 99 1 = some (1, 1, false) := by kernel_rfl
@[go_sem] theorem ty99fld2 : fldI Try.prog 99 2 = some (2, 1, false) := by kernel_rfl
@[go_sem] theorem ty99fld3 : fldI Try.prog 99 3 = some (3, 1, false) := by kernel_rfl
@[go_sem] theorem ty114tyK : tyK Try.prog 114 = .int .u64 := by kernel_rfl
@[go_sem] theorem ty114sizeT : sizeT Try.prog 114 = some 1 := by kernel_rfl
@[go_sem] theorem ty114zeroT : zeroT Try.prog 114 = some (.int .u64 0) := by kernel_rfl
@[go_sem] theorem ty114conc : Program.concrete Try.prog 114 = true := by kernel_rfl
@[go_sem] theorem ty121tyK : tyK Try.prog 121 = .agg 4 := by kernel_rfl
@[go_sem] theorem ty121sizeT : sizeT Try.prog 121 = some 4 := by kernel_rfl
@[go_sem] theorem ty121zeroT : zeroT Try.prog 121 = some (.agg #[(.int .i64 0), (.int .i64 0), (.int .i64 0), (.int .i64 0)]) := by kernel_rfl
@[go_sem] theorem ty121conc : Program.concrete Try.prog 121 = true := by kernel_rfl
@[go_sem] theorem ty121plc : plcT Try.prog 121 = some [(0, 1), (1, 1), (2, 1), (3, 1)] := by kernel_rfl
@[go_sem] theorem ty121flat : flatT Try.prog 121 = some [.int, .int, .int, .int] := by kernel_rfl
@[go_sem] theorem ty121fld0 : fldI Try.prog 121 0 = some (0, 1, false) := by kernel_rfl
@[go_sem] theorem ty121fld1 : fldI Try.prog 121 1 = some (1, 1, false) := by kernel_rfl
@[go_sem] theorem ty121fld2 : fldI Try.prog 121 2 = some (2, 1, false) := by kernel_rfl
@[go_sem] theorem ty121fld3 : fldI Try.prog 121 3 = some (3, 1, false) := by kernel_rfl
@[go_sem] theorem ty134tyK : tyK Try.prog 134 = .agg 3 := by kernel_rfl
@[go_sem] theorem ty134sizeT : sizeT Try.prog 134 = some 3 := by kernel_rfl
@[go_sem] theorem ty134zeroT : zeroT Try.prog 134 = some (.agg #[(.int .i64 0), (.int .u32 0), (.string (ofL []))]) := by kernel_rfl
@[go_sem] theorem ty134conc : Program.concrete Try.prog 134 = true := by kernel_rfl
@[go_sem] theorem ty134plc : plcT Try.prog 134 = some [(0, 1), (1, 1), (2, 1)] := by kernel_rfl
@[go_sem] theorem ty134flat : flatT Try.prog 134 = some [.int, .int, .str] := by kernel_rfl
@[go_sem] theorem ty134fld0 : fldI Try.prog 134 0 = some (0, 1, false) := by kernel_rfl
@[go_sem] theorem ty134fld1 : fldI Try.prog 134 1 = some (1, 1, false) := by kernel_rfl
@[go_sem] theorem ty134fld2 : fldI Try.prog 134 2 = some (2, 1, false) := by kernel_rfl
@[go_sem] theorem ty137tyK : tyK Try.prog 137 = .int .i64 := by kernel_rfl
@[go_sem] theorem ty137sizeT : sizeT Try.prog 137 = some 1 := by kernel_rfl
@[go_sem] theorem ty137zeroT : zeroT Try.prog 137 = some (.int .i64 0) := by kernel_rfl
@[go_sem] theorem ty137conc : Program.concrete Try.prog 137 = true := by kernel_rfl
@[go_sem] theorem ty146tyK : tyK Try.prog 146 = .slice true 5 := by kernel_rfl
@[go_sem] theorem ty146isSliceT : isSliceT Try.prog 146 = true := by kernel_rfl
@[go_sem] theorem ty146sliI : sliI Try.prog 146 = some 1 := by kernel_rfl
@[go_sem] theorem ty146mkI : mkI Try.prog 146 = some (5, 1, 1, (.int .u8 0)) := by kernel_rfl
@[go_sem] theorem ty146sizeT : sizeT Try.prog 146 = some 1 := by kernel_rfl
@[go_sem] theorem ty146zeroT : zeroT Try.prog 146 = some (.slice none 0 0) := by kernel_rfl
@[go_sem] theorem ty146conc : Program.concrete Try.prog 146 = true := by kernel_rfl
@[go_sem] theorem ty148tyK : tyK Try.prog 148 = .slice false 121 := by kernel_rfl
@[go_sem] theorem ty148isSliceT : isSliceT Try.prog 148 = true := by kernel_rfl
@[go_sem] theorem ty148sliI : sliI Try.prog 148 = some 4 := by kernel_rfl
@[go_sem] theorem ty148mkI : mkI Try.prog 148 = some (121, 4, 32, (.agg #[(.int .i64 0), (.int .i64 0), (.int .i64 0), (.int .i64 0)])) := by kernel_rfl
@[go_sem] theorem ty148sizeT : sizeT Try.prog 148 = some 1 := by kernel_rfl
@[go_sem] theorem ty148zeroT : zeroT Try.prog 148 = some (.slice none 0 0) := by kernel_rfl
@[go_sem] theorem ty148conc : Program.concrete Try.prog 148 = true := by kernel_rfl
noncomputable def c3code : Code := match Try.f3.body with | some c => c | none => .skip
noncomputable def c3S0 (_ : Unit) : Cmd := .ret
noncomputable def c3S1 (_ : Unit) : Cmd := (.seq (.ops [
  ⟨some 23, .move (.tmp 8), 28, none⟩,
  ⟨some 24, .binOp .eql 28 (.tmp 23) (.const (.int .i64 34)) 28, 4, none⟩,
  ⟨some 25, .move (.tmp 24), 4, none⟩,
  ⟨some 26, .load 27 (.tmp 7), 27, (some (25, true))⟩,
  ⟨some 27, .build 27 #[], 27, (some (25, true))⟩,
  ⟨some 28, .call ⟨.value (.func 13), #[(.tmp 26), (.tmp 27)], #[27, 27]⟩, 4, (some (25, true))⟩,
  ⟨some 29, .pick (.tmp 25) (.tmp 28) (.const (.bool false)), 4, none⟩,
  ⟨some 30, .move (.tmp 29), 4, none⟩,
  ⟨some 31, .call ⟨.value (.func 14), #[], #[]⟩, 4, (some (30, true))⟩,
  ⟨some 32, .pick (.tmp 30) (.tmp 31) (.const (.bool false)), 4, none⟩,
  ⟨some 6, .assign (.tmp 32), 4, none⟩] [6]) (sg c3S0))
noncomputable def c3S2 (_ : Unit) : Cmd := .ret
noncomputable def c3S3 (_ : Unit) : Cmd := (.cond (.tmp 36)
  (.seq (.ops [
  ⟨some 37, .call ⟨.value (.func 14), #[], #[]⟩, 4, none⟩,
  ⟨some 6, .assign (.tmp 37), 4, none⟩] [6]) (sg c3S2))
  (.skip [1, 2, 3]))
noncomputable def c3S4 (_ : Unit) : Cmd := .ret
noncomputable def c3S5 (_ : Unit) : Cmd := (.seq (.ops [
 ⟨some 52, .load 27 (.tmp 9), 27, none⟩,
 ⟨some 53, .load 27 (.tmp 11), 27, none⟩,
 ⟨some 54, .call ⟨.value (.func 13), #[(.tmp 52), (.tmp 53)], #[27, 27]⟩, 4, none⟩,
 ⟨some 55, .move (.tmp 54), 4, none⟩,
 ⟨some 56, .move (.tmp 10), 28, (some (55, true))⟩,
 ⟨some 57, .move (.tmp 12), 3, (some (55, true))⟩,
 ⟨some 58, .binOp .eql 3 (.tmp 56) (.tmp 57) 3, 4, (some (55, true))⟩,
 ⟨some 59, .pick (.tmp 55) (.tmp 58) (.const (.bool false)), 4, none⟩,
 ⟨some 60, .move (.tmp 59), 4, none⟩,
 ⟨some 61, .call ⟨.value (.func 14), #[], #[]⟩, 4, (some (60, true))⟩,
 ⟨some 62, .pick (.tmp 60) (.tmp 61) (.const (.bool false)), 4, none⟩,
 ⟨some 6, .assign (.tmp 62), 4, none⟩] [6]) (sg c3S4))
noncomputable def c3S6 (_ : Unit) : Cmd := (.seq (.ops [
 ⟨some 46, .load 24 (.tmp 3), 24, none⟩,
 ⟨some 47, .move (.tmp 1), 25, none⟩,
 ⟨some 48, .move (.tmp 2), 3, none⟩,
 ⟨some 49, .call ⟨.value (.func 16), #[(.tmp 46), (.tmp 47), (.tmp 48)], #[24, 25, 3]⟩, 34, none⟩,
 ⟨some 45, .move (.tmp 49), 34, none⟩,
 ⟨some 50, .extract (.tmp 45) 0, 27, none⟩,
 ⟨some 51, .extract (.tmp 45) 1, 3, none⟩,
 ⟨some 11, .alloc 27, 0, none⟩,
 ⟨none, .store 27 (.tmp 11) (.tmp 50), 0, none⟩,
 ⟨some 12, .assign (.tmp 51), 3, none⟩] [9, 10, 11, 12]) (sg c3S5))
noncomputable def c3S7 (_ : Unit) : Cmd := (.seq (.ops [
 ⟨some 39, .load 24 (.tmp 3), 24, none⟩,
 ⟨some 40, .move (.tmp 1), 25, none⟩,
 ⟨some 41, .move (.tmp 2), 3, none⟩,
 ⟨some 42, .call ⟨.value (.func 12), #[(.tmp 39), (.tmp 40), (.tmp 41)], #[24, 25, 3]⟩, 29, none⟩,
 ⟨some 38, .move (.tmp 42), 29, none⟩,
 ⟨some 43, .extract (.tmp 38) 0, 27, none⟩,
 ⟨some 44, .extract (.tmp 38) 1, 28, none⟩,
 ⟨some 9, .alloc 27, 0, none⟩,
 ⟨none, .store 27 (.tmp 9) (.tmp 43), 0, none⟩,
 ⟨some 10, .assign (.tmp 44), 28, none⟩] [1, 2, 3, 9, 10]) (sg c3S6))
noncomputable def c3S8 (_ : Unit) : Cmd := (.seq (.seq (.ops [
 ⟨some 33, .load 24 (.tmp 3), 24, none⟩,
 ⟨some 34, .move (.tmp 1), 25, none⟩,
 ⟨some 35, .call ⟨.value (.func 15), #[(.tmp 33), (.tmp 34), (.const (.int .i64 6))], #[24, 25, 3]⟩, 4, none⟩,
 ⟨some 36, .unOp .not 4 (.tmp 35), 4, none⟩] [1, 2, 3, 36]) (sg c3S3)) (sg c3S7))
noncomputable def c3 : Cmd := (.seq (.ops [
 ⟨some 3, .box 24 (.tmp 0), 0, none⟩,
 ⟨some 6, .assign (.const (.bool false)), 4, none⟩] [1, 2, 3])
 (.seq (.seq (.ops [
 ⟨some 13, .fieldAddr 24 (.tmp 3) 2, 0, none⟩,
 ⟨some 14, .load 22 (.tmp 13), 22, none⟩,
 ⟨some 15, .call ⟨.builtin .len, #[(.tmp 14)], #[22]⟩, 3, none⟩,
 ⟨some 16, .binOp .gtr 3 (.tmp 15) (.const (.int .i64 16)) 3, 4, none⟩] [1, 2, 3, 16])
 (.cond (.tmp 16)
  (.seq (.ops [
  ⟨some 18, .load 24 (.tmp 3), 24, none⟩,
  ⟨some 19, .move (.tmp 2), 3, none⟩,
  ⟨some 20, .call ⟨.value (.func 12), #[(.tmp 18), (.const (.slice none 0 0)), (.tmp 19)], #[24, 25, 3]⟩, 29, none⟩,
  ⟨some 17, .move (.tmp 20), 29, none⟩,
  ⟨some 21, .extract (.tmp 17) 0, 27, none⟩,
  ⟨some 22, .extract (.tmp 17) 1, 28, none⟩,
  ⟨some 7, .alloc 27, 0, none⟩,
  ⟨none, .store 27 (.tmp 7) (.tmp 21), 0, none⟩,
  ⟨some 8, .assign (.tmp 22), 28, none⟩] [7, 8]) (sg c3S1))
  (.skip [1, 2, 3]))) (sg c3S8)))
@[go_sem] theorem go3 : goFunc Try.prog 3 = true := by kernel_rfl
noncomputable def c4S0 (_ : Unit) : Cmd := .ret
noncomputable def c4S1 (_ : Unit) : Cmd := (.seq (.block 1 (.ops [
 ⟨some 15, .move (.tmp 3), 3, none⟩,
 ⟨some 16, .move (.tmp 0), 25, none⟩,
 ⟨some 17, .move (.tmp 4), 3, none⟩,
 ⟨some 18, .indexAddr 25 (.tmp 16) (.tmp 17), 0, none⟩,
 ⟨some 19, .load 36 (.tmp 18), 36, none⟩,
 ⟨some 20, .call ⟨.builtin .len, #[(.tmp 19)], #[36]⟩, 3, none⟩,
 ⟨some 21, .binOp .add 3 (.tmp 15) (.tmp 20) 3, 3, none⟩,
 ⟨some 3, .assign (.tmp 21), 3, none⟩] [0, 3, 4]))
 (.ops [
 ⟨some 13, .move (.tmp 4), 3, none⟩,
 ⟨some 14, .binOp .add 3 (.tmp 13) (.const (.int .i64 1)) 3, 3, none⟩,
 ⟨some 4, .assign (.tmp 14), 3, none⟩] [0, 3, 4]))
noncomputable def c4L0 (_ : Unit) : Cmd := (.seq (.seq (.ops [
 ⟨some 9, .move (.tmp 4), 3, none⟩,
 ⟨some 10, .move (.tmp 0), 25, none⟩,
 ⟨some 11, .call ⟨.builtin .len, #[(.tmp 10)], #[25]⟩, 3, none⟩,
 ⟨some 12, .binOp .lss 3 (.tmp 9) (.tmp 11) 3, 4, none⟩] [0, 3, 4, 12])
 (.cond (.tmp 12)
  (.skip [0, 3, 4])
  (.exit 0 [0, 3]))) (sg c4S1))
noncomputable def c4S2 (_ : Unit) : Cmd := .ret
noncomputable def c4S3 (_ : Unit) : Cmd := (.seq (.ops [
 ⟨some 22, .move (.tmp 3), 3, none⟩,
 ⟨some 23, .binOp .gtr 3 (.tmp 22) (.const (.int .i64 600)) 3, 4, none⟩,
 ⟨some 24, .move (.tmp 23), 4, none⟩,
 ⟨some 25, .move (.tmp 0), 25, (some (24, false))⟩,
 ⟨some 26, .call ⟨.value (.func 18), #[(.tmp 25)], #[25]⟩, 25, (some (24, false))⟩,
 ⟨some 27, .move (.tmp 0), 25, (some (24, false))⟩,
 ⟨some 28, .call ⟨.value (.func 19), #[(.tmp 27)], #[25]⟩, 25, (some (24, false))⟩,
 ⟨some 29, .call ⟨.value (.func 17), #[(.tmp 26), (.tmp 28)], #[25, 25]⟩, 4, (some (24, false))⟩,
 ⟨some 30, .move (.tmp 29), 4, (some (24, false))⟩,
 ⟨some 31, .call ⟨.value (.func 14), #[], #[]⟩, 4, (some (30, true))⟩,
 ⟨some 32, .pick (.tmp 30) (.tmp 31) (.const (.bool false)), 4, (some (24, false))⟩,
 ⟨some 33, .pick (.tmp 24) (.const (.bool true)) (.tmp 32), 4, none⟩,
 ⟨some 2, .assign (.tmp 33), 4, none⟩] [2]) (sg c4S2))
noncomputable def c4S4 (_ : Unit) : Cmd := (.seq (.ops [
 ⟨some 3, .assign (.const (.int .i64 0)), 3, none⟩] [0, 3])
 (.seq (.seq (.ops [
 ⟨some 4, .assign (.const (.int .i64 0)), 3, none⟩] [0, 3, 4])
 (.block 0 (.loop (sg c4L0)))) (sg c4S3)))
noncomputable def c4 : Cmd := (.seq (.ops [
 ⟨some 2, .assign (.const (.bool false)), 4, none⟩] [0])
 (.seq (.seq (.ops [
 ⟨some 5, .move (.tmp 0), 25, none⟩,
 ⟨some 6, .call ⟨.builtin .len, #[(.tmp 5)], #[25]⟩, 3, none⟩,
 ⟨some 7, .binOp .gtr 3 (.tmp 6) (.const (.int .i64 60)) 3, 4, none⟩] [0, 7])
 (.cond (.tmp 7)
  (.seq (.ops [
  ⟨some 8, .call ⟨.value (.func 14), #[], #[]⟩, 4, none⟩,
  ⟨some 2, .assign (.tmp 8), 4, none⟩] [2]) (sg c4S0))
  (.skip [0]))) (sg c4S4)))
@[go_sem] theorem go4 : goFunc Try.prog 4 = true := by kernel_rfl
@[go_sem] theorem go5 : goFunc Try.prog 5 = true := by kernel_rfl
noncomputable def c6code : Code := match Try.f6.body with | some c => c | none => .skip
noncomputable def c6S0 (_ : Unit) : Cmd := .ret
noncomputable def c6S1 (_ : Unit) : Cmd := (.cond (.tmp 23)
  (.seq (.ops [
  ⟨some 24, .call ⟨.value (.func 14), #[], #[]⟩, 4, none⟩,
  ⟨some 6, .assign (.tmp 24), 4, none⟩] [6]) (sg c6S0))
  (.skip [1, 2, 3]))
noncomputable def c6S2 (_ : Unit) : Cmd := .ret
noncomputable def c6S3 (_ : Unit) : Cmd := .ret
noncomputable def c6S4 (_ : Unit) : Cmd := (.seq (.ops [
 ⟨some 66, .fieldAddr 27 (.tmp 11) 1, 0, none⟩,
 ⟨some 67, .load 25 (.tmp 66), 25, none⟩,
 ⟨some 68, .move (.tmp 13), 25, none⟩,
 ⟨some 69, .call ⟨.value (.func 17), #[(.tmp 67), (.tmp 68)], #[25, 25]⟩, 4, none⟩,
 ⟨some 70, .move (.tmp 69), 4, none⟩,
 ⟨some 71, .fieldAddr 27 (.tmp 11) 2, 0, (some (70, true))⟩,
 ⟨some 72, .load 3 (.tmp 71), 3, (some (70, true))⟩,
 ⟨some 73, .fieldAddr 27 (.tmp 7) 2, 0, (some (70, true))⟩,
 ⟨some 74, .load 3 (.tmp 73), 3, (some (70, true))⟩,
 ⟨some 75, .fieldAddr 27 (.tmp 9) 2, 0, (some (70, true))⟩,
 ⟨some 76, .load 3 (.tmp 75), 3, (some (70, true))⟩,
 ⟨some 77, .binOp .add 3 (.tmp 74) (.tmp 76) 3, 3, (some (70, true))⟩,
 ⟨some 78, .binOp .leq 3 (.tmp 72) (.tmp 77) 3, 4, (some (70, true))⟩,
 ⟨some 79, .pick (.tmp 70) (.tmp 78) (.const (.bool false)), 4, none⟩,
 ⟨some 80, .move (.tmp 79), 4, none⟩,
 ⟨some 81, .fieldAddr 27 (.tmp 11) 2, 0, (some (80, true))⟩,
 ⟨some 82, .load 3 (.tmp 81), 3, (some (80, true))⟩,
 ⟨some 83, .fieldAddr 27 (.tmp 7) 2, 0, (some (80, true))⟩,
 ⟨some 84, .load 3 (.tmp 83), 3, (some (80, true))⟩,
 ⟨some 85, .fieldAddr 27 (.tmp 9) 2, 0, (some (80, true))⟩,
 ⟨some 86, .load 3 (.tmp 85), 3, (some (80, true))⟩,
 ⟨some 87, .call ⟨.builtin .max, #[(.tmp 84), (.tmp 86)], #[3, 3]⟩, 3, (some (80, true))⟩,
 ⟨some 88, .binOp .geq 3 (.tmp 82) (.tmp 87) 3, 4, (some (80, true))⟩,
 ⟨some 89, .pick (.tmp 80) (.tmp 88) (.const (.bool false)), 4, none⟩,
 ⟨some 90, .move (.tmp 89), 4, none⟩,
 ⟨some 91, .call ⟨.value (.func 14), #[], #[]⟩, 4, (some (90, true))⟩,
 ⟨some 92, .pick (.tmp 90) (.tmp 91) (.const (.bool false)), 4, none⟩,
 ⟨some 6, .assign (.tmp 92), 4, none⟩] [6]) (sg c6S3))
noncomputable def c6S5 (_ : Unit) : Cmd := (.seq (.draw (drawOps 1 c6code) [7, 9, 11, 13]) (sg c6S4))
noncomputable def c6S6 (_ : Unit) : Cmd := (.seq (.seq (.ops [
 ⟨some 47, .move (.tmp 8), 28, none⟩,
 ⟨some 48, .binOp .neq 28 (.tmp 47) (.const (.int .i64 0)) 28, 4, none⟩,
 ⟨some 49, .move (.tmp 48), 4, none⟩,
 ⟨some 50, .move (.tmp 10), 28, (some (49, false))⟩,
 ⟨some 51, .binOp .neq 28 (.tmp 50) (.const (.int .i64 0)) 28, 4, (some (49, false))⟩,
 ⟨some 52, .pick (.tmp 49) (.const (.bool true)) (.tmp 51), 4, none⟩,
 ⟨some 53, .move (.tmp 52), 4, none⟩,
 ⟨some 54, .move (.tmp 12), 28, (some (53, false))⟩,
 ⟨some 55, .binOp .neq 28 (.tmp 54) (.const (.int .i64 0)) 28, 4, (some (53, false))⟩,
 ⟨some 56, .pick (.tmp 53) (.const (.bool true)) (.tmp 55), 4, none⟩] [7, 9, 11, 56])
 (.cond (.tmp 56)
  (.seq (.ops [
  ⟨some 57, .call ⟨.value (.func 14), #[], #[]⟩, 4, none⟩,
  ⟨some 6, .assign (.tmp 57), 4, none⟩] [6]) (sg c6S2))
  (.skip [7, 9, 11]))) (sg c6S5))
noncomputable def c6S7 (_ : Unit) : Cmd := (.seq (.draw (drawOps 0 c6code) [7, 8, 9, 10, 11, 12]) (sg c6S6))
noncomputable def c6S8 (_ : Unit) : Cmd := (.seq (.ops [
 ⟨some 32, .load 24 (.tmp 3), 24, none⟩,
 ⟨some 33, .move (.tmp 2), 25, none⟩,
 ⟨some 34, .call ⟨.value (.func 12), #[(.tmp 32), (.tmp 33), (.const (.int .i64 32768))], #[24, 25, 3]⟩, 29, none⟩,
 ⟨some 31, .move (.tmp 34), 29, none⟩,
 ⟨some 35, .extract (.tmp 31) 0, 27, none⟩,
 ⟨some 36, .extract (.tmp 31) 1, 28, none⟩,
 ⟨some 9, .alloc 27, 0, none⟩,
 ⟨none, .store 27 (.tmp 9) (.tmp 35), 0, none⟩,
 ⟨some 10, .assign (.tmp 36), 28, none⟩] [1, 2, 3, 7, 8, 9, 10]) (sg c6S7))
noncomputable def c6S9 (_ : Unit) : Cmd := (.seq (.ops [
 ⟨some 26, .load 24 (.tmp 3), 24, none⟩,
 ⟨some 27, .move (.tmp 1), 25, none⟩,
 ⟨some 28, .call ⟨.value (.func 12), #[(.tmp 26), (.tmp 27), (.const (.int .i64 32768))], #[24, 25, 3]⟩, 29, none⟩,
 ⟨some 25, .move (.tmp 28), 29, none⟩,
 ⟨some 29, .extract (.tmp 25) 0, 27, none⟩,
 ⟨some 30, .extract (.tmp 25) 1, 28, none⟩,
 ⟨some 7, .alloc 27, 0, none⟩,
 ⟨none, .store 27 (.tmp 7) (.tmp 29), 0, none⟩,
 ⟨some 8, .assign (.tmp 30), 28, none⟩] [1, 2, 3, 7, 8]) (sg c6S8))
noncomputable def c6 : Cmd := (.seq (.ops [
 ⟨some 3, .box 24 (.tmp 0), 0, none⟩,
 ⟨some 6, .assign (.const (.bool false)), 4, none⟩] [1, 2, 3])
 (.seq (.seq (.ops [
 ⟨some 14, .load 24 (.tmp 3), 24, none⟩,
 ⟨some 15, .move (.tmp 1), 25, none⟩,
 ⟨some 16, .call ⟨.value (.func 15), #[(.tmp 14), (.tmp 15), (.const (.int .i64 6))], #[24, 25, 3]⟩, 4, none⟩,
 ⟨some 17, .unOp .not 4 (.tmp 16), 4, none⟩,
 ⟨some 18, .move (.tmp 17), 4, none⟩,
 ⟨some 19, .load 24 (.tmp 3), 24, (some (18, false))⟩,
 ⟨some 20, .move (.tmp 2), 25, (some (18, false))⟩,
 ⟨some 21, .call ⟨.value (.func 15), #[(.tmp 19), (.tmp 20), (.const (.int .i64 6))], #[24, 25, 3]⟩, 4, (some (18, false))⟩,
 ⟨some 22, .unOp .not 4 (.tmp 21), 4, (some (18, false))⟩,
 ⟨some 23, .pick (.tmp 18) (.const (.bool true)) (.tmp 22), 4, none⟩] [1, 2, 3, 23]) (sg c6S1)) (sg c6S9)))
@[go_sem] theorem go6 : goFunc Try.prog 6 = true := by kernel_rfl
noncomputable def c7S0 (_ : Unit) : Cmd := .ret
noncomputable def c7S1 (_ : Unit) : Cmd := (.cond (.tmp 18)
  (.seq (.ops [
  ⟨some 19, .call ⟨.value (.func 14), #[], #[]⟩, 4, none⟩,
  ⟨some 6, .assign (.tmp 19), 4, none⟩] [6]) (sg c7S0))
  (.skip [1, 2, 3]))
noncomputable def c7S2 (_ : Unit) : Cmd := .ret
noncomputable def c7S3 (_ : Unit) : Cmd := .ret
noncomputable def c7S4 (_ : Unit) : Cmd := (.seq (.ops [
 ⟨some 57, .move (.tmp 10), 28, none⟩,
 ⟨some 58, .binOp .eql 28 (.tmp 57) (.const (.int .i64 0)) 28, 4, none⟩,
 ⟨some 59, .move (.tmp 58), 4, none⟩,
 ⟨some 60, .move (.tmp 12), 28, (some (59, true))⟩,
 ⟨some 61, .move (.tmp 10), 28, (some (59, true))⟩,
 ⟨some 62, .binOp .eql 28 (.tmp 60) (.tmp 61) 28, 4, (some (59, true))⟩,
 ⟨some 63, .pick (.tmp 59) (.tmp 62) (.const (.bool false)), 4, none⟩,
 ⟨some 64, .move (.tmp 63), 4, none⟩,
 ⟨some 65, .move (.tmp 14), 28, (some (64, true))⟩,
 ⟨some 66, .binOp .eql 28 (.tmp 65) (.const (.int .i64 35)) 28, 4, (some (64, true))⟩,
 ⟨some 67, .pick (.tmp 64) (.tmp 66) (.const (.bool false)), 4, none⟩,
 ⟨some 68, .move (.tmp 67), 4, none⟩,
 ⟨some 69, .load 27 (.tmp 9), 27, (some (68, true))⟩,
 ⟨some 70, .load 27 (.tmp 7), 27, (some (68, true))⟩,
 ⟨some 71, .call ⟨.value (.func 13), #[(.tmp 69), (.tmp 70)], #[27, 27]⟩, 4, (some (68, true))⟩,
 ⟨some 72, .pick (.tmp 68) (.tmp 71) (.const (.bool false)), 4, none⟩,
 ⟨some 73, .move (.tmp 72), 4, none⟩,
 ⟨some 74, .load 27 (.tmp 11), 27, (some (73, true))⟩,
 ⟨some 75, .load 27 (.tmp 7), 27, (some (73, true))⟩,
 ⟨some 76, .call ⟨.value (.func 13), #[(.tmp 74), (.tmp 75)], #[27, 27]⟩, 4, (some (73, true))⟩,
 ⟨some 77, .pick (.tmp 73) (.tmp 76) (.const (.bool false)), 4, none⟩,
 ⟨some 78, .move (.tmp 77), 4, none⟩,
 ⟨some 79, .call ⟨.value (.func 14), #[], #[]⟩, 4, (some (78, true))⟩,
 ⟨some 80, .pick (.tmp 78) (.tmp 79) (.const (.bool false)), 4, none⟩,
 ⟨some 6, .assign (.tmp 80), 4, none⟩] [6]) (sg c7S3))
noncomputable def c7S5 (_ : Unit) : Cmd := (.seq (.ops [
 ⟨some 49, .load 24 (.tmp 3), 24, none⟩,
 ⟨some 50, .move (.tmp 1), 25, none⟩,
 ⟨some 51, .fieldAddr 27 (.tmp 7) 2, 0, none⟩,
 ⟨some 52, .load 3 (.tmp 51), 3, none⟩,
 ⟨some 53, .binOp .sub 3 (.tmp 52) (.const (.int .i64 1)) 3, 3, none⟩,
 ⟨some 54, .call ⟨.value (.func 12), #[(.tmp 49), (.tmp 50), (.tmp 53)], #[24, 25, 3]⟩, 29, none⟩,
 ⟨some 48, .move (.tmp 54), 29, none⟩,
 ⟨some 55, .extract (.tmp 48) 0, 27, none⟩,
 ⟨some 56, .extract (.tmp 48) 1, 28, none⟩,
 ⟨some 13, .alloc 27, 0, none⟩,
 ⟨none, .store 27 (.tmp 13) (.tmp 55), 0, none⟩,
 ⟨some 14, .assign (.tmp 56), 28, none⟩] [7, 9, 10, 11, 12, 14]) (sg c7S4))
noncomputable def c7S6 (_ : Unit) : Cmd := (.seq (.ops [
 ⟨some 38, .load 24 (.tmp 3), 24, none⟩,
 ⟨some 39, .move (.tmp 1), 25, none⟩,
 ⟨some 40, .fieldAddr 27 (.tmp 7) 2, 0, none⟩,
 ⟨some 41, .load 3 (.tmp 40), 3, none⟩,
 ⟨some 42, .move (.tmp 2), 44, none⟩,
 ⟨some 43, .convert 44 3 (.tmp 42), 3, none⟩,
 ⟨some 44, .binOp .add 3 (.tmp 41) (.tmp 43) 3, 3, none⟩,
 ⟨some 45, .call ⟨.value (.func 12), #[(.tmp 38), (.tmp 39), (.tmp 44)], #[24, 25, 3]⟩, 29, none⟩,
 ⟨some 37, .move (.tmp 45), 29, none⟩,
 ⟨some 46, .extract (.tmp 37) 0, 27, none⟩,
 ⟨some 47, .extract (.tmp 37) 1, 28, none⟩,
 ⟨some 11, .alloc 27, 0, none⟩,
 ⟨none, .store 27 (.tmp 11) (.tmp 46), 0, none⟩,
 ⟨some 12, .assign (.tmp 47), 28, none⟩] [1, 3, 7, 9, 10, 11, 12]) (sg c7S5))
noncomputable def c7S7 (_ : Unit) : Cmd := (.seq (.ops [
 ⟨some 30, .load 24 (.tmp 3), 24, none⟩,
 ⟨some 31, .move (.tmp 1), 25, none⟩,
 ⟨some 32, .fieldAddr 27 (.tmp 7) 2, 0, none⟩,
 ⟨some 33, .load 3 (.tmp 32), 3, none⟩,
 ⟨some 34, .call ⟨.value (.func 12), #[(.tmp 30), (.tmp 31), (.tmp 33)], #[24, 25, 3]⟩, 29, none⟩,
 ⟨some 29, .move (.tmp 34), 29, none⟩,
 ⟨some 35, .extract (.tmp 29) 0, 27, none⟩,
 ⟨some 36, .extract (.tmp 29) 1, 28, none⟩,
 ⟨some 9, .alloc 27, 0, none⟩,
 ⟨none, .store 27 (.tmp 9) (.tmp 35), 0, none⟩,
 ⟨some 10, .assign (.tmp 36), 28, none⟩] [1, 2, 3, 7, 9, 10]) (sg c7S6))
noncomputable def c7S8 (_ : Unit) : Cmd := (.seq (.seq (.ops [
 ⟨some 26, .move (.tmp 8), 28, none⟩,
 ⟨some 27, .binOp .neq 28 (.tmp 26) (.const (.int .i64 0)) 28, 4, none⟩] [1, 2, 3, 7, 27])
 (.cond (.tmp 27)
  (.seq (.ops [
  ⟨some 28, .call ⟨.value (.func 14), #[], #[]⟩, 4, none⟩,
  ⟨some 6, .assign (.tmp 28), 4, none⟩] [6]) (sg c7S2))
  (.skip [1, 2, 3, 7]))) (sg c7S7))
noncomputable def c7S9 (_ : Unit) : Cmd := (.seq (.ops [
 ⟨some 21, .load 24 (.tmp 3), 24, none⟩,
 ⟨some 22, .move (.tmp 1), 25, none⟩,
 ⟨some 23, .call ⟨.value (.func 12), #[(.tmp 21), (.tmp 22), (.const (.int .i64 32768))], #[24, 25, 3]⟩, 29, none⟩,
 ⟨some 20, .move (.tmp 23), 29, none⟩,
 ⟨some 24, .extract (.tmp 20) 0, 27, none⟩,
 ⟨some 25, .extract (.tmp 20) 1, 28, none⟩,
 ⟨some 7, .alloc 27, 0, none⟩,
 ⟨none, .store 27 (.tmp 7) (.tmp 24), 0, none⟩,
 ⟨some 8, .assign (.tmp 25), 28, none⟩] [1, 2, 3, 7, 8]) (sg c7S8))
noncomputable def c7 : Cmd := (.seq (.ops [
 ⟨some 3, .box 24 (.tmp 0), 0, none⟩,
 ⟨some 6, .assign (.const (.bool false)), 4, none⟩] [1, 2, 3])
 (.seq (.seq (.ops [
 ⟨some 15, .load 24 (.tmp 3), 24, none⟩,
 ⟨some 16, .move (.tmp 1), 25, none⟩,
 ⟨some 17, .call ⟨.value (.func 15), #[(.tmp 15), (.tmp 16), (.const (.int .i64 6))], #[24, 25, 3]⟩, 4, none⟩,
 ⟨some 18, .unOp .not 4 (.tmp 17), 4, none⟩] [1, 2, 3, 18]) (sg c7S1)) (sg c7S9)))
@[go_sem] theorem go7 : goFunc Try.prog 7 = true := by kernel_rfl
noncomputable def c8code : Code := match Try.f8.body with | some c => c | none => .skip
noncomputable def c8S0 (_ : Unit) : Cmd := .ret
noncomputable def c8S1 (_ : Unit) : Cmd := (.cond (.tmp 19)
  (.seq (.ops [
  ⟨some 20, .call ⟨.value (.func 14), #[], #[]⟩, 4, none⟩,
  ⟨some 2, .assign (.tmp 20), 4, none⟩] [2]) (sg c8S0))
  (.skip [0]))
noncomputable def c8S2 (_ : Unit) : Cmd := (.ops [
 ⟨some 65, .fieldAddr 27 (.tmp 8) 1, 0, none⟩,
 ⟨some 66, .load 25 (.tmp 65), 25, none⟩,
 ⟨some 5, .assign (.tmp 66), 25, none⟩] [3, 4, 5, 6, 7])
noncomputable def c8S3 (_ : Unit) : Cmd := (.seq (.seq (.ops [
 ⟨some 63, .move (.tmp 9), 28, none⟩,
 ⟨some 64, .binOp .neq 28 (.tmp 63) (.const (.int .i64 0)) 28, 4, none⟩] [3, 4, 6, 7, 8, 64])
 (.cond (.tmp 64)
  (.seq (.ops [
  ⟨some 2, .assign (.const (.bool false)), 4, none⟩] [2])
  .ret)
  (.skip [3, 4, 6, 7, 8]))) (sg c8S2))
noncomputable def c8S4 (_ : Unit) : Cmd := (.ops [
 ⟨some 52, .move (.tmp 7), 3, none⟩,
 ⟨some 53, .binOp .add 3 (.tmp 52) (.const (.int .i64 1)) 3, 3, none⟩,
 ⟨some 7, .assign (.tmp 53), 3, none⟩] [3, 4, 5, 6, 7])
noncomputable def c8S5 (_ : Unit) : Cmd := (.seq (.block 3 (.seq (.ops [
 ⟨some 55, .move (.tmp 6), 47, none⟩,
 ⟨some 56, .move (.tmp 7), 3, none⟩,
 ⟨some 57, .indexAddr 47 (.tmp 55) (.tmp 56), 0, none⟩,
 ⟨some 58, .load 24 (.tmp 57), 24, none⟩,
 ⟨some 59, .move (.tmp 5), 25, none⟩,
 ⟨some 60, .call ⟨.value (.func 12), #[(.tmp 58), (.tmp 59), (.const (.int .i64 32768))], #[24, 25, 3]⟩, 29, none⟩,
 ⟨some 54, .move (.tmp 60), 29, none⟩,
 ⟨some 61, .extract (.tmp 54) 0, 27, none⟩,
 ⟨some 62, .extract (.tmp 54) 1, 28, none⟩,
 ⟨some 8, .alloc 27, 0, none⟩,
 ⟨none, .store 27 (.tmp 8) (.tmp 61), 0, none⟩,
 ⟨some 9, .assign (.tmp 62), 28, none⟩] [3, 4, 6, 7, 8, 9]) (sg c8S3))) (sg c8S4))
noncomputable def c8L0 (_ : Unit) : Cmd := (.seq (.seq (.ops [
 ⟨some 48, .move (.tmp 7), 3, none⟩,
 ⟨some 49, .move (.tmp 6), 47, none⟩,
 ⟨some 50, .call ⟨.builtin .len, #[(.tmp 49)], #[47]⟩, 3, none⟩,
 ⟨some 51, .binOp .lss 3 (.tmp 48) (.tmp 50) 3, 4, none⟩] [3, 4, 5, 6, 7, 51])
 (.cond (.tmp 51)
  (.skip [3, 4, 5, 6, 7])
  (.exit 2 [3, 4, 5]))) (sg c8S5))
noncomputable def c8S6 (_ : Unit) : Cmd := (.cond (.tmp 90)
  (.seq (.ops [
  ⟨some 2, .assign (.const (.bool false)), 4, none⟩] [2])
  .ret)
  (.skip [3, 4]))
noncomputable def c8S7 (_ : Unit) : Cmd := (.seq (.ops [
 ⟨some 82, .move (.tmp 11), 28, none⟩,
 ⟨some 83, .binOp .neq 28 (.tmp 82) (.const (.int .i64 0)) 28, 4, none⟩,
 ⟨some 84, .move (.tmp 83), 4, none⟩,
 ⟨some 85, .fieldAddr 27 (.tmp 10) 1, 0, (some (84, false))⟩,
 ⟨some 86, .load 25 (.tmp 85), 25, (some (84, false))⟩,
 ⟨some 87, .move (.tmp 5), 25, (some (84, false))⟩,
 ⟨some 88, .call ⟨.value (.func 17), #[(.tmp 86), (.tmp 87)], #[25, 25]⟩, 4, (some (84, false))⟩,
 ⟨some 89, .unOp .not 4 (.tmp 88), 4, (some (84, false))⟩,
 ⟨some 90, .pick (.tmp 84) (.const (.bool true)) (.tmp 89), 4, none⟩] [3, 4, 90]) (sg c8S6))
noncomputable def c8S8 (_ : Unit) : Cmd := (.seq (.draw (drawOps 0 c8code) [3, 4, 5, 10, 11]) (sg c8S7))
noncomputable def c8S9 (_ : Unit) : Cmd := (.seq (.seq (.ops [
 ⟨some 7, .assign (.const (.int .i64 0)), 3, none⟩] [3, 4, 5, 6, 7])
 (.block 2 (.loop (sg c8L0)))) (sg c8S8))
noncomputable def c8S10 (_ : Unit) : Cmd := (.seq (.ops [
 ⟨some 43, .move (.tmp 3), 47, none⟩,
 ⟨some 44, .move (.tmp 4), 3, none⟩,
 ⟨some 45, .indexAddr 47 (.tmp 43) (.tmp 44), 0, none⟩,
 ⟨some 46, .load 24 (.tmp 45), 24, none⟩,
 ⟨some 47, .call ⟨.value (.func 24), #[(.tmp 46)], #[24]⟩, 47, none⟩,
 ⟨some 6, .assign (.tmp 47), 47, none⟩] [3, 4, 5, 6]) (sg c8S9))
noncomputable def c8S11 (_ : Unit) : Cmd := (.seq (.ops [
 ⟨some 36, .move (.tmp 3), 47, none⟩,
 ⟨some 37, .move (.tmp 4), 3, none⟩,
 ⟨some 38, .indexAddr 47 (.tmp 36) (.tmp 37), 0, none⟩,
 ⟨some 39, .fieldAddr 24 (.tmp 38) 1, 0, none⟩,
 ⟨some 40, .load 3 (.tmp 39), 3, none⟩,
 ⟨some 41, .call ⟨.value (.func 23), #[(.tmp 40)], #[3]⟩, 36, none⟩,
 ⟨some 42, .buildSlice 25 1 #[(0, (.tmp 41))], 25, none⟩,
 ⟨some 5, .assign (.tmp 42), 25, none⟩] [3, 4, 5]) (sg c8S10))
noncomputable def c8S12 (_ : Unit) : Cmd := (.ops [
 ⟨some 27, .move (.tmp 4), 3, none⟩,
 ⟨some 28, .binOp .add 3 (.tmp 27) (.const (.int .i64 1)) 3, 3, none⟩,
 ⟨some 4, .assign (.tmp 28), 3, none⟩] [3, 4])
noncomputable def c8S13 (_ : Unit) : Cmd := (.seq (.block 1 (.seq (.seq (.ops [
 ⟨some 29, .move (.tmp 3), 47, none⟩,
 ⟨some 30, .move (.tmp 4), 3, none⟩,
 ⟨some 31, .indexAddr 47 (.tmp 29) (.tmp 30), 0, none⟩,
 ⟨some 32, .fieldAddr 24 (.tmp 31) 2, 0, none⟩,
 ⟨some 33, .load 22 (.tmp 32), 22, none⟩,
 ⟨some 34, .call ⟨.builtin .len, #[(.tmp 33)], #[22]⟩, 3, none⟩,
 ⟨some 35, .binOp .gtr 3 (.tmp 34) (.const (.int .i64 7)) 3, 4, none⟩] [3, 4, 35])
 (.cond (.tmp 35)
  (.exit 1 [3, 4])
  (.skip [3, 4]))) (sg c8S11))) (sg c8S12))
noncomputable def c8L1 (_ : Unit) : Cmd := (.seq (.seq (.ops [
 ⟨some 23, .move (.tmp 4), 3, none⟩,
 ⟨some 24, .move (.tmp 3), 47, none⟩,
 ⟨some 25, .call ⟨.builtin .len, #[(.tmp 24)], #[47]⟩, 3, none⟩,
 ⟨some 26, .binOp .lss 3 (.tmp 23) (.tmp 25) 3, 4, none⟩] [3, 4, 26])
 (.cond (.tmp 26)
  (.skip [3, 4])
  (.exit 0 []))) (sg c8S13))
noncomputable def c8S14 (_ : Unit) : Cmd := .ret
noncomputable def c8S15 (_ : Unit) : Cmd := (.seq (.ops [
 ⟨some 91, .call ⟨.value (.func 14), #[], #[]⟩, 4, none⟩,
 ⟨some 2, .assign (.tmp 91), 4, none⟩] [2]) (sg c8S14))
noncomputable def c8S16 (_ : Unit) : Cmd := (.seq (.seq (.ops [
 ⟨some 4, .assign (.const (.int .i64 0)), 3, none⟩] [3, 4])
 (.block 0 (.loop (sg c8L1)))) (sg c8S15))
noncomputable def c8S17 (_ : Unit) : Cmd := (.seq (.ops [
 ⟨some 21, .move (.tmp 0), 22, none⟩,
 ⟨some 22, .call ⟨.value (.func 22), #[(.tmp 21)], #[22]⟩, 47, none⟩,
 ⟨some 3, .assign (.tmp 22), 47, none⟩] [3]) (sg c8S16))
noncomputable def c8 : Cmd := (.seq (.ops [
 ⟨some 2, .assign (.const (.bool false)), 4, none⟩] [0])
 (.seq (.seq (.ops [
 ⟨some 12, .move (.tmp 0), 22, none⟩,
 ⟨some 13, .call ⟨.builtin .len, #[(.tmp 12)], #[22]⟩, 3, none⟩,
 ⟨some 14, .binOp .gtr 3 (.tmp 13) (.const (.int .i64 64)) 3, 4, none⟩,
 ⟨some 15, .move (.tmp 14), 4, none⟩,
 ⟨some 16, .move (.tmp 0), 22, (some (15, false))⟩,
 ⟨some 17, .call ⟨.value (.func 21), #[(.tmp 16)], #[22]⟩, 3, (some (15, false))⟩,
 ⟨some 18, .binOp .neq 3 (.tmp 17) (.const (.int .i64 0)) 3, 4, (some (15, false))⟩,
 ⟨some 19, .pick (.tmp 15) (.const (.bool true)) (.tmp 18), 4, none⟩] [0, 19]) (sg c8S1)) (sg c8S17)))
@[go_sem] theorem go8 : goFunc Try.prog 8 = true := by kernel_rfl
@[go_sem] theorem go12 : goFunc Try.prog 12 = true := by kernel_rfl
@[go_sem] theorem go13 : goFunc Try.prog 13 = true := by kernel_rfl
noncomputable def c14S0 (_ : Unit) : Cmd := .ret
noncomputable def c14S1 (_ : Unit) : Cmd := (.seq (.ops [
 ⟨some 19, .move (.tmp 2), 28, none⟩,
 ⟨some 20, .binOp .eql 28 (.tmp 19) (.const (.int .i64 0)) 28, 4, none⟩,
 ⟨some 21, .move (.tmp 20), 4, none⟩,
 ⟨some 22, .move (.tmp 4), 28, (some (21, true))⟩,
 ⟨some 23, .move (.tmp 2), 28, (some (21, true))⟩,
 ⟨some 24, .binOp .eql 28 (.tmp 22) (.tmp 23) 28, 4, (some (21, true))⟩,
 ⟨some 25, .pick (.tmp 21) (.tmp 24) (.const (.bool false)), 4, none⟩,
 ⟨some 26, .move (.tmp 25), 4, none⟩,
 ⟨some 27, .fieldAddr 27 (.tmp 1) 2, 0, (some (26, true))⟩,
 ⟨some 28, .load 3 (.tmp 27), 3, (some (26, true))⟩,
 ⟨some 29, .binOp .eql 3 (.tmp 28) (.const (.int .i64 4)) 3, 4, (some (26, true))⟩,
 ⟨some 30, .pick (.tmp 26) (.tmp 29) (.const (.bool false)), 4, none⟩,
 ⟨some 31, .move (.tmp 30), 4, none⟩,
 ⟨some 32, .fieldAddr 27 (.tmp 1) 1, 0, (some (31, true))⟩,
 ⟨some 33, .load 25 (.tmp 32), 25, (some (31, true))⟩,
 ⟨some 34, .buildSlice 36 1 #[(0, (.const (.int .i64 1)))], 36, (some (31, true))⟩,
 ⟨some 35, .buildSlice 25 1 #[(0, (.tmp 34))], 25, (some (31, true))⟩,
 ⟨some 36, .call ⟨.value (.func 17), #[(.tmp 33), (.tmp 35)], #[25, 25]⟩, 4, (some (31, true))⟩,
 ⟨some 37, .pick (.tmp 31) (.tmp 36) (.const (.bool false)), 4, none⟩,
 ⟨some 38, .move (.tmp 37), 4, none⟩,
 ⟨some 39, .fieldAddr 27 (.tmp 3) 2, 0, (some (38, true))⟩,
 ⟨some 40, .load 3 (.tmp 39), 3, (some (38, true))⟩,
 ⟨some 41, .binOp .eql 3 (.tmp 40) (.const (.int .i64 2)) 3, 4, (some (38, true))⟩,
 ⟨some 42, .pick (.tmp 38) (.tmp 41) (.const (.bool false)), 4, none⟩,
 ⟨some 43, .move (.tmp 42), 4, none⟩,
 ⟨some 44, .fieldAddr 27 (.tmp 3) 1, 0, (some (43, true))⟩,
 ⟨some 45, .load 25 (.tmp 44), 25, (some (43, true))⟩,
 ⟨some 46, .call ⟨.builtin .len, #[(.tmp 45)], #[25]⟩, 3, (some (43, true))⟩,
 ⟨some 47, .binOp .eql 3 (.tmp 46) (.const (.int .i64 0)) 3, 4, (some (43, true))⟩,
 ⟨some 48, .pick (.tmp 43) (.tmp 47) (.const (.bool false)), 4, none⟩,
 ⟨some 0, .assign (.tmp 48), 4, none⟩] [0]) (sg c14S0))
noncomputable def c14S2 (_ : Unit) : Cmd := (.seq (.ops [
 ⟨some 13, .call ⟨.value (.func 34), #[(.const (.int .i64 2))], #[3]⟩, 24, none⟩,
 ⟨some 14, .buildSlice 36 1 #[(0, (.const (.int .i64 0)))], 36, none⟩,
 ⟨some 15, .buildSlice 25 1 #[(0, (.tmp 14))], 25, none⟩,
 ⟨some 16, .call ⟨.value (.func 12), #[(.tmp 13), (.tmp 15), (.const (.int .i64 9))], #[24, 25, 3]⟩, 29, none⟩,
 ⟨some 12, .move (.tmp 16), 29, none⟩,
 ⟨some 17, .extract (.tmp 12) 0, 27, none⟩,
 ⟨some 18, .extract (.tmp 12) 1, 28, none⟩,
 ⟨some 3, .alloc 27, 0, none⟩,
 ⟨none, .store 27 (.tmp 3) (.tmp 17), 0, none⟩,
 ⟨some 4, .assign (.tmp 18), 28, none⟩] [1, 2, 3, 4]) (sg c14S1))
noncomputable def c14 : Cmd := (.seq (.ops [
 ⟨some 0, .assign (.const (.bool false)), 4, none⟩] [])
 (.seq (.ops [
 ⟨some 6, .call ⟨.value (.func 34), #[(.const (.int .i64 0))], #[3]⟩, 24, none⟩,
 ⟨some 7, .buildSlice 36 1 #[(0, (.const (.int .i64 0)))], 36, none⟩,
 ⟨some 8, .buildSlice 25 1 #[(0, (.tmp 7))], 25, none⟩,
 ⟨some 9, .call ⟨.value (.func 12), #[(.tmp 6), (.tmp 8), (.const (.int .i64 9))], #[24, 25, 3]⟩, 29, none⟩,
 ⟨some 5, .move (.tmp 9), 29, none⟩,
 ⟨some 10, .extract (.tmp 5) 0, 27, none⟩,
 ⟨some 11, .extract (.tmp 5) 1, 28, none⟩,
 ⟨some 1, .alloc 27, 0, none⟩,
 ⟨none, .store 27 (.tmp 1) (.tmp 10), 0, none⟩,
 ⟨some 2, .assign (.tmp 11), 28, none⟩] [1, 2]) (sg c14S2)))
@[go_sem] theorem go14 : goFunc Try.prog 14 = true := by kernel_rfl
@[go_sem] theorem go15 : goFunc Try.prog 15 = true := by kernel_rfl
@[go_sem] theorem go16 : goFunc Try.prog 16 = true := by kernel_rfl
@[go_sem] theorem go17 : goFunc Try.prog 17 = true := by kernel_rfl
@[go_sem] theorem go18 : goFunc Try.prog 18 = true := by kernel_rfl
@[go_sem] theorem go19 : goFunc Try.prog 19 = true := by kernel_rfl
@[go_sem] theorem go20 : goFunc Try.prog 20 = true := by kernel_rfl
@[go_sem] theorem go21 : goFunc Try.prog 21 = true := by kernel_rfl
@[go_sem] theorem go22 : goFunc Try.prog 22 = true := by kernel_rfl
@[go_sem] theorem go23 : goFunc Try.prog 23 = true := by kernel_rfl
@[go_sem] theorem go24 : goFunc Try.prog 24 = true := by kernel_rfl
noncomputable def c29code : Code := match Try.f29.body with | some c => c | none => .skip
noncomputable def c29S0 (_ : Unit) : Cmd := (.cond (.tmp 25)
  (.seq (.ops [
  ⟨some 4, .assign (.const (.bool false)), 4, none⟩] [4])
  .ret)
  (.skip [0, 1, 5]))
noncomputable def c29S1 (_ : Unit) : Cmd := (.ops [
 ⟨some 15, .move (.tmp 5), 3, none⟩,
 ⟨some 16, .binOp .add 3 (.tmp 15) (.const (.int .i64 1)) 3, 3, none⟩,
 ⟨some 5, .assign (.tmp 16), 3, none⟩] [0, 1, 5])
noncomputable def c29S2 (_ : Unit) : Cmd := (.seq (.block 1 (.seq (.draw (drawOps 0 c29code) [0, 1, 5, 25]) (sg c29S0))) (sg c29S1))
noncomputable def c29L0 (_ : Unit) : Cmd := (.seq (.seq (.ops [
 ⟨some 11, .move (.tmp 5), 3, none⟩,
 ⟨some 12, .move (.tmp 0), 36, none⟩,
 ⟨some 13, .call ⟨.builtin .len, #[(.tmp 12)], #[36]⟩, 3, none⟩,
 ⟨some 14, .binOp .lss 3 (.tmp 11) (.tmp 13) 3, 4, none⟩] [0, 1, 5, 14])
 (.cond (.tmp 14)
  (.skip [0, 1, 5])
  (.exit 0 []))) (sg c29S2))
noncomputable def c29S3 (_ : Unit) : Cmd := (.seq (.ops [
 ⟨some 4, .assign (.const (.bool true)), 4, none⟩] [4])
 .ret)
noncomputable def c29S4 (_ : Unit) : Cmd := (.seq (.seq (.ops [
 ⟨some 5, .assign (.const (.int .i64 0)), 3, none⟩] [0, 1, 5])
 (.block 0 (.loop (sg c29L0)))) (sg c29S3))
noncomputable def c29 : Cmd := (.seq (.ops [
 ⟨some 4, .assign (.const (.bool false)), 4, none⟩] [0, 1])
 (.seq (.seq (.ops [
 ⟨some 6, .move (.tmp 0), 36, none⟩,
 ⟨some 7, .call ⟨.builtin .len, #[(.tmp 6)], #[36]⟩, 3, none⟩,
 ⟨some 8, .move (.tmp 1), 36, none⟩,
 ⟨some 9, .call ⟨.builtin .len, #[(.tmp 8)], #[36]⟩, 3, none⟩,
 ⟨some 10, .binOp .neq 3 (.tmp 7) (.tmp 9) 3, 4, none⟩] [0, 1, 10])
 (.cond (.tmp 10)
  (.seq (.ops [
  ⟨some 4, .assign (.const (.bool false)), 4, none⟩] [4])
  .ret)
  (.skip [0, 1]))) (sg c29S4)))
noncomputable def c29D0 : List (Bool × Ins) := [
 (true, ⟨some 17, .move (.tmp 0), 36, none⟩),
 (true, ⟨some 18, .move (.tmp 5), 3, none⟩),
 (true, ⟨some 19, .indexAddr 36 (.tmp 17) (.tmp 18), 0, none⟩),
 (false, ⟨some 20, .load 3 (.tmp 19), 3, none⟩),
 (true, ⟨some 21, .move (.tmp 1), 36, none⟩),
 (true, ⟨some 22, .move (.tmp 5), 3, none⟩),
 (true, ⟨some 23, .indexAddr 36 (.tmp 21) (.tmp 22), 0, none⟩),
 (false, ⟨some 24, .load 3 (.tmp 23), 3, none⟩),
 (true, ⟨some 25, .binOp .neq 3 (.tmp 20) (.tmp 24) 3, 4, none⟩)]
theorem c29draw0 {L : List Nat} {ρ : Env} {w : World} {Q : Post} (h : DL Try.prog c29D0 L ρ w.drew Q) : drawW Try.prog (drawOps 0 c29code) L ρ w Q :=
  drawW_still [true, true, true, false, true, true, true, false, true] c29D0 (by kernel_rfl) (by kernel_rfl) (by kernel_rfl) h
set_option maxRecDepth 100000 in
theorem ent29 (a0 a1 : Value) (w : World) (K : Value → World → Prop) (h : W Try.prog c29 [(0, a0), (1, a1)] w (finQ Try.prog [.tmp 4] K)) : Ret Try.prog 29 [a0, a1] w K :=
  Ret_of_W (code := c29code) Try.func29 (by kernel_rfl) (by kernel_rfl) (of_decide_eq_true (by kernel_rfl)) h
@[go_sem] theorem go29 : goFunc Try.prog 29 = true := by kernel_rfl
@[go_sem] theorem go30 : goFunc Try.prog 30 = true := by kernel_rfl
@[go_sem] theorem go31 : goFunc Try.prog 31 = true := by kernel_rfl
@[go_sem] theorem go32 : goFunc Try.prog 32 = true := by kernel_rfl
noncomputable def c33code : Code := match Try.f33.body with | some c => c | none => .skip
noncomputable def c33S0 (_ : Unit) : Cmd := (.seq (.ops [
 ⟨some 28, .move (.tmp 6), 36, none⟩,
 ⟨some 4, .assign (.tmp 28), 36, none⟩,
 ⟨some 5, .assign (.const (.bool true)), 4, none⟩] [4, 5])
 .ret)
noncomputable def c33S1 (_ : Unit) : Cmd := (.seq (.seq (.ops [
 ⟨some 16, .move (.tmp 8), 4, none⟩,
 ⟨some 17, .unOp .not 4 (.tmp 16), 4, none⟩,
 ⟨some 18, .move (.tmp 17), 4, none⟩,
 ⟨some 19, .fieldAddr 58 (.tmp 3) 7, 0, (some (18, false))⟩,
 ⟨some 20, .load 4 (.tmp 19), 4, (some (18, false))⟩,
 ⟨some 21, .move (.tmp 20), 4, (some (18, false))⟩,
 ⟨some 22, .move (.tmp 7), 3, (some (21, true))⟩,
 ⟨some 23, .fieldAddr 58 (.tmp 3) 8, 0, (some (21, true))⟩,
 ⟨some 24, .load 3 (.tmp 23), 3, (some (21, true))⟩,
 ⟨some 25, .binOp .neq 3 (.tmp 22) (.tmp 24) 3, 4, (some (21, true))⟩,
 ⟨some 26, .pick (.tmp 21) (.tmp 25) (.const (.bool false)), 4, (some (18, false))⟩,
 ⟨some 27, .pick (.tmp 18) (.const (.bool true)) (.tmp 26), 4, none⟩] [6, 27])
 (.cond (.tmp 27)
  (.seq (.ops [
  ⟨some 4, .assign (.const (.slice none 0 0)), 36, none⟩,
  ⟨some 5, .assign (.const (.bool false)), 4, none⟩] [4, 5])
  .ret)
  (.skip [6]))) (sg c33S0))
noncomputable def c33 : Cmd := (.seq (.ops [
 ⟨some 3, .box 58 (.tmp 1), 0, none⟩,
 ⟨some 4, .assign (.const (.slice none 0 0)), 36, none⟩,
 ⟨some 5, .assign (.const (.bool false)), 4, none⟩] [0, 3])
 (.seq (.ops [
 ⟨some 10, .move (.tmp 0), 36, none⟩,
 ⟨some 11, .load 58 (.tmp 3), 58, none⟩,
 ⟨some 12, .call ⟨.value (.func 66), #[(.tmp 10), (.tmp 11)], #[36, 58]⟩, 106, none⟩,
 ⟨some 9, .move (.tmp 12), 106, none⟩,
 ⟨some 13, .extract (.tmp 9) 0, 36, none⟩,
 ⟨some 14, .extract (.tmp 9) 1, 3, none⟩,
 ⟨some 15, .extract (.tmp 9) 2, 4, none⟩,
 ⟨some 6, .assign (.tmp 13), 36, none⟩,
 ⟨some 7, .assign (.tmp 14), 3, none⟩,
 ⟨some 8, .assign (.tmp 15), 4, none⟩] [3, 6, 7, 8]) (sg c33S1)))
set_option maxRecDepth 100000 in
theorem ent33 (a0 a1 : Value) (w : World) (K : Value → World → Prop) (h : W Try.prog c33 [(0, a0), (1, a1)] w (finQ Try.prog [.tmp 4, .tmp 5] K)) : Ret Try.prog 33 [a0, a1] w K :=
  Ret_of_W (code := c33code) Try.func33 (by kernel_rfl) (by kernel_rfl) (of_decide_eq_true (by kernel_rfl)) h
@[go_sem] theorem go33 : goFunc Try.prog 33 = true := by kernel_rfl
@[go_sem] theorem go34 : goFunc Try.prog 34 = true := by kernel_rfl
@[go_sem] theorem go35 : goFunc Try.prog 35 = true := by kernel_rfl
@[go_sem] theorem go36 : goFunc Try.prog 36 = true := by kernel_rfl
@[go_sem] theorem go37 : goFunc Try.prog 37 = true := by kernel_rfl
@[go_sem] theorem go38 : goFunc Try.prog 38 = true := by kernel_rfl
noncomputable def c39code : Code := match Try.f39.body with | some c => c | none => .skip
noncomputable def c39S0 (_ : Unit) : Cmd := .ret
noncomputable def c39S1 (_ : Unit) : Cmd := (.seq (.ops [
 ⟨some 5, .buildSlice 36 0 #[], 36, none⟩,
 ⟨some 6, .move (.tmp 0), 36, none⟩,
 ⟨some 7, .call ⟨.builtin .append, #[(.tmp 5), (.tmp 6)], #[36, 36]⟩, 36, none⟩,
 ⟨some 2, .assign (.tmp 7), 36, none⟩] [2]) (sg c39S0))
noncomputable def c39 : Cmd := (.seq (.ops [
 ⟨some 2, .assign (.const (.slice none 0 0)), 36, none⟩] [0])
 (.seq (.seq (.ops [
 ⟨some 3, .move (.tmp 0), 36, none⟩,
 ⟨some 4, .binOp .eql 36 (.tmp 3) (.const (.slice none 0 0)) 36, 4, none⟩] [0, 4])
 (.cond (.tmp 4)
  (.seq (.ops [
  ⟨some 2, .assign (.const (.slice none 0 0)), 36, none⟩] [2])
  .ret)
  (.skip [0]))) (sg c39S1)))
set_option maxRecDepth 100000 in
theorem ent39 (a0 : Value) (w : World) (K : Value → World → Prop) (h : W Try.prog c39 [(0, a0)] w (finQ Try.prog [.tmp 2] K)) : Ret Try.prog 39 [a0] w K :=
  Ret_of_W (code := c39code) Try.func39 (by kernel_rfl) (by kernel_rfl) (of_decide_eq_true (by kernel_rfl)) h
@[go_sem] theorem go39 : goFunc Try.prog 39 = true := by kernel_rfl
@[go_sem] theorem go41 : goFunc Try.prog 41 = true := by kernel_rfl
@[go_sem] theorem go42 : goFunc Try.prog 42 = true := by kernel_rfl
noncomputable def c43code : Code := match Try.f43.body with | some c => c | none => .skip
noncomputable def c43S0 (_ : Unit) : Cmd := (.ops [
 ⟨some 21, .binOp .add 3 (.tmp 12) (.const (.int .i64 1)) 3, 3, none⟩,
 ⟨some 12, .move (.tmp 21), 3, none⟩] [3, 10, 11, 12])
noncomputable def c43S1 (_ : Unit) : Cmd := (.seq (.block 1 (.seq (.ops [
 ⟨some 14, .indexAddr 36 (.tmp 10) (.tmp 12), 0, none⟩,
 ⟨some 15, .load 3 (.tmp 14), 3, none⟩,
 ⟨some 5, .assign (.tmp 15), 3, none⟩] [3, 5, 10, 11, 12])
 (.ops [
 ⟨some 16, .move (.tmp 3), 9, none⟩,
 ⟨some 17, .move (.tmp 5), 3, none⟩,
 ⟨some 18, .call ⟨.value (.func 73), #[(.tmp 17)], #[3]⟩, 114, none⟩,
 ⟨some 19, .call ⟨.value (.func 72), #[(.tmp 18)], #[114]⟩, 9, none⟩,
 ⟨some 20, .binOp .add 9 (.tmp 16) (.tmp 19) 9, 9, none⟩,
 ⟨some 3, .assign (.tmp 20), 9, none⟩] [3, 10, 11, 12]))) (sg c43S0))
noncomputable def c43L0 (_ : Unit) : Cmd := (.seq (.ops [
 ⟨some 13, .binOp .lss 3 (.tmp 12) (.tmp 11) 3, 0, none⟩] [3, 10, 11, 12, 13])
 (.seq (.cond (.tmp 13)
  (.skip [3, 10, 11, 12])
  (.exit 0 [3])) (sg c43S1)))
noncomputable def c43S2 (_ : Unit) : Cmd := (.seq (.ops [
 ⟨some 22, .move (.tmp 3), 9, none⟩,
 ⟨some 2, .assign (.tmp 22), 9, none⟩] [2])
 .ret)
noncomputable def c43S3 (_ : Unit) : Cmd := (.seq (.seq (.ops [
 ⟨some 10, .move (.tmp 0), 36, none⟩,
 ⟨some 11, .call ⟨.builtin .len, #[(.tmp 10)], #[36]⟩, 3, none⟩,
 ⟨some 12, .move (.const (.int .i64 0)), 3, none⟩] [3, 10, 11, 12])
 (.block 0 (.loop (sg c43L0)))) (sg c43S2))
noncomputable def c43 : Cmd := (.seq (.ops [
 ⟨some 2, .assign (.const (.string (ofL []))), 9, none⟩] [0])
 (.seq (.ops [
 ⟨some 6, .move (.tmp 0), 36, none⟩,
 ⟨some 7, .call ⟨.builtin .len, #[(.tmp 6)], #[36]⟩, 3, none⟩,
 ⟨some 8, .convert 3 114 (.tmp 7), 114, none⟩,
 ⟨some 9, .call ⟨.value (.func 72), #[(.tmp 8)], #[114]⟩, 9, none⟩,
 ⟨some 3, .assign (.tmp 9), 9, none⟩] [0, 3]) (sg c43S3)))
set_option maxRecDepth 100000 in
theorem ent43 (a0 : Value) (w : World) (K : Value → World → Prop) (h : W Try.prog c43 [(0, a0)] w (finQ Try.prog [.tmp 2] K)) : Ret Try.prog 43 [a0] w K :=
  Ret_of_W (code := c43code) Try.func43 (by kernel_rfl) (by kernel_rfl) (of_decide_eq_true (by kernel_rfl)) h
@[go_sem] theorem go43 : goFunc Try.prog 43 = true := by kernel_rfl
@[go_sem] theorem go44 : goFunc Try.prog 44 = true := by kernel_rfl
@[go_sem] theorem go45 : goFunc Try.prog 45 = true := by kernel_rfl
@[go_sem] theorem go46 : goFunc Try.prog 46 = true := by kernel_rfl
@[go_sem] theorem go47 : goFunc Try.prog 47 = true := by kernel_rfl
@[go_sem] theorem go48 : goFunc Try.prog 48 = true := by kernel_rfl
@[go_sem] theorem go49 : goFunc Try.prog 49 = true := by kernel_rfl
@[go_sem] theorem go50 : goFunc Try.prog 50 = true := by kernel_rfl
@[go_sem] theorem go51 : goFunc Try.prog 51 = true := by kernel_rfl
@[go_sem] theorem go52 : goFunc Try.prog 52 = true := by kernel_rfl
noncomputable def c53code : Code := match Try.f53.body with | some c => c | none => .skip
noncomputable def c53 : Cmd := (.seq (.ops [
 ⟨some 2, .box 58 (.tmp 0), 0, none⟩,
 ⟨some 3, .box 58 (.tmp 1), 0, none⟩,
 ⟨some 4, .assign (.const (.bool false)), 4, none⟩] [2, 3])
 (.seq (.ops [
 ⟨some 5, .fieldAddr 58 (.tmp 2) 7, 0, none⟩,
 ⟨some 6, .load 4 (.tmp 5), 4, none⟩,
 ⟨some 7, .move (.tmp 6), 4, none⟩,
 ⟨some 8, .fieldAddr 58 (.tmp 2) 10, 0, (some (7, true))⟩,
 ⟨some 9, .load 3 (.tmp 8), 3, (some (7, true))⟩,
 ⟨some 10, .fieldAddr 58 (.tmp 3) 9, 0, (some (7, true))⟩,
 ⟨some 11, .load 3 (.tmp 10), 3, (some (7, true))⟩,
 ⟨some 12, .binOp .lss 3 (.tmp 9) (.tmp 11) 3, 4, (some (7, true))⟩,
 ⟨some 13, .pick (.tmp 7) (.tmp 12) (.const (.bool false)), 4, none⟩,
 ⟨some 4, .assign (.tmp 13), 4, none⟩] [4])
 .ret))
set_option maxRecDepth 100000 in
theorem ent53 (a0 a1 : Value) (w : World) (K : Value → World → Prop) (h : W Try.prog c53 [(0, a0), (1, a1)] w (finQ Try.prog [.tmp 4] K)) : Ret Try.prog 53 [a0, a1] w K :=
  Ret_of_W (code := c53code) Try.func53 (by kernel_rfl) (by kernel_rfl) (of_decide_eq_true (by kernel_rfl)) h
@[go_sem] theorem go53 : goFunc Try.prog 53 = true := by kernel_rfl
noncomputable def c65code : Code := match Try.f65.body with | some c => c | none => .skip
noncomputable def c65 : Cmd := (.seq (.ops [
 ⟨some 2, .box 58 (.tmp 0), 0, none⟩,
 ⟨some 3, .box 58 (.tmp 1), 0, none⟩,
 ⟨some 4, .assign (.const (.bool false)), 4, none⟩] [2, 3])
 (.seq (.ops [
 ⟨some 5, .fieldAddr 58 (.tmp 2) 7, 0, none⟩,
 ⟨some 6, .load 4 (.tmp 5), 4, none⟩,
 ⟨some 7, .move (.tmp 6), 4, none⟩,
 ⟨some 8, .fieldAddr 58 (.tmp 2) 10, 0, (some (7, true))⟩,
 ⟨some 9, .load 3 (.tmp 8), 3, (some (7, true))⟩,
 ⟨some 10, .fieldAddr 58 (.tmp 3) 9, 0, (some (7, true))⟩,
 ⟨some 11, .load 3 (.tmp 10), 3, (some (7, true))⟩,
 ⟨some 12, .binOp .lss 3 (.tmp 9) (.tmp 11) 3, 4, (some (7, true))⟩,
 ⟨some 13, .pick (.tmp 7) (.tmp 12) (.const (.bool false)), 4, none⟩,
 ⟨some 4, .assign (.tmp 13), 4, none⟩] [4])
 .ret))
set_option maxRecDepth 100000 in
theorem ent65 (a0 a1 : Value) (w : World) (K : Value → World → Prop) (h : W Try.prog c65 [(0, a0), (1, a1)] w (finQ Try.prog [.tmp 4] K)) : Ret Try.prog 65 [a0, a1] w K :=
  Ret_of_W (code := c65code) Try.func65 (by kernel_rfl) (by kernel_rfl) (of_decide_eq_true (by kernel_rfl)) h
@[go_sem] theorem go65 : goFunc Try.prog 65 = true := by kernel_rfl
noncomputable def c66code : Code := match Try.f66.body with | some c => c | none => .skip
noncomputable def c66S0 (_ : Unit) : Cmd := .ret
noncomputable def c66S1 (_ : Unit) : Cmd := (.seq (.ops [
  ⟨some 18, .move (.tmp 7), 36, none⟩,
  ⟨some 19, .load 58 (.tmp 3), 58, none⟩,
  ⟨some 20, .call ⟨.value (.func 92), #[(.tmp 18), (.tmp 19)], #[36, 58]⟩, 106, none⟩,
  ⟨some 21, .extract (.tmp 20) 0, 36, none⟩,
  ⟨some 22, .extract (.tmp 20) 1, 3, none⟩,
  ⟨some 23, .extract (.tmp 20) 2, 4, none⟩,
  ⟨some 4, .assign (.tmp 21), 36, none⟩,
  ⟨some 5, .assign (.tmp 22), 3, none⟩,
  ⟨some 6, .assign (.tmp 23), 4, none⟩] [4, 5, 6]) (sg c66S0))
noncomputable def c66S2 (_ : Unit) : Cmd := .ret
noncomputable def c66S3 (_ : Unit) : Cmd := .ret
noncomputable def c66S4 (_ : Unit) : Cmd := (.cond (.tmp 55)
       (.seq (.ops [
       ⟨some 4, .assign (.const (.slice none 0 0)), 36, none⟩,
       ⟨some 5, .assign (.const (.int .i64 0)), 3, none⟩,
       ⟨some 6, .assign (.const (.bool true)), 4, none⟩] [4, 5, 6])
       .ret)
       (.skip []))
noncomputable def c66S5 (_ : Unit) : Cmd := (.cond (.tmp 24)
   (.seq (.ops [
   ⟨some 27, .move (.tmp 7), 36, none⟩,
   ⟨some 28, .load 58 (.tmp 3), 58, none⟩,
   ⟨some 29, .call ⟨.value (.func 93), #[(.tmp 27), (.tmp 28)], #[36, 58]⟩, 106, none⟩,
   ⟨some 30, .extract (.tmp 29) 0, 36, none⟩,
   ⟨some 31, .extract (.tmp 29) 1, 3, none⟩,
   ⟨some 32, .extract (.tmp 29) 2, 4, none⟩,
   ⟨some 4, .assign (.tmp 30), 36, none⟩,
   ⟨some 5, .assign (.tmp 31), 3, none⟩,
   ⟨some 6, .assign (.tmp 32), 4, none⟩] [4, 5, 6]) (sg c66S2))
   (.seq (.ops [
   ⟨some 34, .binOp .eql 3 (.tmp 11) (.const (.int .i64 5)) 3, 4, none⟩,
   ⟨some 33, .assign (.tmp 34), 4, none⟩] [3, 7, 11, 33])
   (.cond (.tmp 33)
    (.seq (.ops [
    ⟨some 35, .move (.tmp 7), 36, none⟩,
    ⟨some 36, .load 58 (.tmp 3), 58, none⟩,
    ⟨some 37, .call ⟨.value (.func 94), #[(.tmp 35), (.tmp 36)], #[36, 58]⟩, 106, none⟩,
    ⟨some 38, .extract (.tmp 37) 0, 36, none⟩,
    ⟨some 39, .extract (.tmp 37) 1, 3, none⟩,
    ⟨some 40, .extract (.tmp 37) 2, 4, none⟩,
    ⟨some 4, .assign (.tmp 38), 36, none⟩,
    ⟨some 5, .assign (.tmp 39), 3, none⟩,
    ⟨some 6, .assign (.tmp 40), 4, none⟩] [4, 5, 6]) (sg c66S3))
    (.seq (.ops [
    ⟨some 42, .binOp .eql 3 (.tmp 11) (.const (.int .i64 6)) 3, 4, none⟩,
    ⟨some 41, .assign (.tmp 42), 4, none⟩] [3, 7, 41])
    (.cond (.tmp 41)
     (.block 1 (.seq (.ops [
     ⟨some 44, .fieldAddr 58 (.tmp 3) 4, 0, none⟩,
     ⟨some 45, .load 3 (.tmp 44), 3, none⟩,
     ⟨some 46, .binOp .eql 3 (.tmp 45) (.const (.int .i64 13)) 3, 4, none⟩,
     ⟨some 47, .move (.tmp 46), 4, none⟩,
     ⟨some 48, .move (.tmp 7), 36, (some (47, true))⟩,
     ⟨some 49, .call ⟨.builtin .len, #[(.tmp 48)], #[36]⟩, 3, (some (47, true))⟩,
     ⟨some 50, .binOp .eql 3 (.tmp 49) (.const (.int .i64 0)) 3, 4, (some (47, true))⟩,
     ⟨some 51, .pick (.tmp 47) (.tmp 50) (.const (.bool false)), 4, none⟩,
     ⟨some 43, .assign (.tmp 51), 4, none⟩] [3, 7, 43])
     (.cond (.tmp 43)
      (.seq (.ops [
      ⟨some 52, .fieldAddr 58 (.tmp 3) 1, 0, none⟩,
      ⟨some 53, .load 3 (.tmp 52), 3, none⟩,
      ⟨some 54, .buildSlice 36 1 #[(0, (.tmp 53))], 36, none⟩,
      ⟨some 4, .assign (.tmp 54), 36, none⟩,
      ⟨some 5, .assign (.const (.int .i64 0)), 3, none⟩,
      ⟨some 6, .assign (.const (.bool true)), 4, none⟩] [4, 5, 6])
      .ret)
      (.seq (.draw (drawOps 0 c66code) [55]) (sg c66S4)))))
     (.skip []))))))
noncomputable def c66S6 (_ : Unit) : Cmd := (.cond (.tmp 12)
  (.seq (.seq (.ops [
  ⟨some 15, .move (.tmp 7), 36, none⟩,
  ⟨some 16, .call ⟨.builtin .len, #[(.tmp 15)], #[36]⟩, 3, none⟩,
  ⟨some 17, .binOp .neq 3 (.tmp 16) (.const (.int .i64 1)) 3, 4, none⟩] [3, 7, 17])
  (.cond (.tmp 17)
   (.seq (.ops [
   ⟨some 4, .assign (.const (.slice none 0 0)), 36, none⟩,
   ⟨some 5, .assign (.const (.int .i64 0)), 3, none⟩,
   ⟨some 6, .assign (.const (.bool false)), 4, none⟩] [4, 5, 6])
   .ret)
   (.skip [3, 7]))) (sg c66S1))
  (.seq (.seq (.ops [
  ⟨some 25, .binOp .eql 3 (.tmp 11) (.const (.int .i64 3)) 3, 4, none⟩,
  ⟨some 24, .assign (.tmp 25), 4, none⟩] [3, 7, 11, 24])
  (.cond (.tmp 24)
   (.skip [3, 7, 11, 24])
   (.ops [
   ⟨some 26, .binOp .eql 3 (.tmp 11) (.const (.int .i64 4)) 3, 4, none⟩,
   ⟨some 24, .assign (.tmp 26), 4, none⟩] [3, 7, 11, 24]))) (sg c66S5)))
noncomputable def c66S7 (_ : Unit) : Cmd := (.seq (.ops [
 ⟨some 4, .assign (.const (.slice none 0 0)), 36, none⟩,
 ⟨some 5, .assign (.const (.int .i64 0)), 3, none⟩,
 ⟨some 6, .assign (.const (.bool false)), 4, none⟩] [4, 5, 6])
 .ret)
noncomputable def c66S8 (_ : Unit) : Cmd := (.seq (.seq (.ops [
 ⟨some 10, .fieldAddr 58 (.tmp 3) 3, 0, none⟩,
 ⟨some 11, .load 3 (.tmp 10), 3, none⟩] [3, 7, 11])
 (.block 0 (.seq (.seq (.ops [
 ⟨some 13, .binOp .eql 3 (.tmp 11) (.const (.int .i64 1)) 3, 4, none⟩,
 ⟨some 12, .assign (.tmp 13), 4, none⟩] [3, 7, 11, 12])
 (.cond (.tmp 12)
  (.skip [3, 7, 11, 12])
  (.ops [
  ⟨some 14, .binOp .eql 3 (.tmp 11) (.const (.int .i64 2)) 3, 4, none⟩,
  ⟨some 12, .assign (.tmp 14), 4, none⟩] [3, 7, 11, 12]))) (sg c66S6)))) (sg c66S7))
noncomputable def c66 : Cmd := (.seq (.ops [
 ⟨some 3, .box 58 (.tmp 1), 0, none⟩,
 ⟨some 4, .assign (.const (.slice none 0 0)), 36, none⟩,
 ⟨some 5, .assign (.const (.int .i64 0)), 3, none⟩,
 ⟨some 6, .assign (.const (.bool false)), 4, none⟩] [0, 3])
 (.seq (.ops [
 ⟨some 8, .move (.tmp 0), 36, none⟩,
 ⟨some 9, .call ⟨.value (.func 39), #[(.tmp 8)], #[36]⟩, 36, none⟩,
 ⟨some 7, .assign (.tmp 9), 36, none⟩] [3, 7]) (sg c66S8)))
noncomputable def c66D0 : List (Bool × Ins) := [
 (true, ⟨some 56, .fieldAddr 58 (.tmp 3) 4, 0, none⟩),
 (false, ⟨some 57, .load 3 (.tmp 56), 3, none⟩),
 (true, ⟨some 58, .binOp .eql 3 (.tmp 57) (.const (.int .i64 14)) 3, 4, none⟩),
 (true, ⟨some 59, .move (.tmp 58), 4, none⟩),
 (true, ⟨some 60, .move (.tmp 7), 36, (some (59, true))⟩),
 (true, ⟨some 61, .call ⟨.builtin .len, #[(.tmp 60)], #[36]⟩, 3, (some (59, true))⟩),
 (true, ⟨some 62, .binOp .eql 3 (.tmp 61) (.const (.int .i64 1)) 3, 4, (some (59, true))⟩),
 (true, ⟨some 63, .pick (.tmp 59) (.tmp 62) (.const (.bool false)), 4, none⟩),
 (true, ⟨some 64, .move (.tmp 63), 4, none⟩),
 (true, ⟨some 65, .move (.tmp 7), 36, (some (64, true))⟩),
 (true, ⟨some 66, .indexAddr 36 (.tmp 65) (.const (.int .i64 0)), 0, (some (64, true))⟩),
 (false, ⟨some 67, .load 3 (.tmp 66), 3, (some (64, true))⟩),
 (true, ⟨some 68, .fieldAddr 58 (.tmp 3) 1, 0, (some (64, true))⟩),
 (false, ⟨some 69, .load 3 (.tmp 68), 3, (some (64, true))⟩),
 (true, ⟨some 70, .binOp .eql 3 (.tmp 67) (.tmp 69) 3, 4, (some (64, true))⟩),
 (true, ⟨some 71, .pick (.tmp 64) (.tmp 70) (.const (.bool false)), 4, none⟩),
 (true, ⟨some 55, .assign (.tmp 71), 4, none⟩)]
theorem c66draw0 {L : List Nat} {ρ : Env} {w : World} {Q : Post} (h : DL Try.prog c66D0 L ρ w.drew Q) : drawW Try.prog (drawOps 0 c66code) L ρ w Q :=
  drawW_still [true, false, true, true, true, true, true, true, true, true, true, false, true, false, true, true, true] c66D0 (by kernel_rfl) (by kernel_rfl) (by kernel_rfl) h
set_option maxRecDepth 100000 in
theorem ent66 (a0 a1 : Value) (w : World) (K : Value → World → Prop) (h : W Try.prog c66 [(0, a0), (1, a1)] w (finQ Try.prog [.tmp 4, .tmp 5, .tmp 6] K)) : Ret Try.prog 66 [a0, a1] w K :=
  Ret_of_W (code := c66code) Try.func66 (by kernel_rfl) (by kernel_rfl) (of_decide_eq_true (by kernel_rfl)) h
@[go_sem] theorem go66 : goFunc Try.prog 66 = true := by kernel_rfl
@[go_sem] theorem go67 : goFunc Try.prog 67 = true := by kernel_rfl
@[go_sem] theorem go68 : goFunc Try.prog 68 = true := by kernel_rfl
noncomputable def c72code : Code := match Try.f72.body with | some c => c | none => .skip
noncomputable def c72S0 (_ : Unit) : Cmd := (.ops [
 ⟨some 12, .move (.tmp 0), 114, none⟩,
 ⟨some 13, .binOp .shr 114 (.tmp 12) (.const (.int .u64 7)) 76, 114, none⟩,
 ⟨some 0, .assign (.tmp 13), 114, none⟩] [0, 3])
noncomputable def c72S1 (_ : Unit) : Cmd := (.block 1 (.seq (.ops [
 ⟨some 6, .move (.tmp 3), 146, none⟩,
 ⟨some 7, .move (.tmp 0), 114, none⟩,
 ⟨some 8, .convert 114 5 (.tmp 7), 5, none⟩,
 ⟨some 9, .binOp .or 5 (.tmp 8) (.const (.int .u8 128)) 5, 5, none⟩,
 ⟨some 10, .buildSlice 146 1 #[(0, (.tmp 9))], 146, none⟩,
 ⟨some 11, .call ⟨.builtin .append, #[(.tmp 6), (.tmp 10)], #[146, 146]⟩, 146, none⟩,
 ⟨some 3, .assign (.tmp 11), 146, none⟩] [0, 3]) (sg c72S0)))
noncomputable def c72L0 (_ : Unit) : Cmd := (.seq (.seq (.ops [
 ⟨some 4, .move (.tmp 0), 114, none⟩,
 ⟨some 5, .binOp .geq 114 (.tmp 4) (.const (.int .u64 128)) 114, 4, none⟩] [0, 3, 5])
 (.cond (.tmp 5)
  (.skip [0, 3])
  (.exit 0 [0, 3]))) (sg c72S1))
noncomputable def c72S2 (_ : Unit) : Cmd := .ret
noncomputable def c72S3 (_ : Unit) : Cmd := (.seq (.ops [
 ⟨some 14, .move (.tmp 3), 146, none⟩,
 ⟨some 15, .move (.tmp 0), 114, none⟩,
 ⟨some 16, .convert 114 5 (.tmp 15), 5, none⟩,
 ⟨some 17, .buildSlice 146 1 #[(0, (.tmp 16))], 146, none⟩,
 ⟨some 18, .call ⟨.builtin .append, #[(.tmp 14), (.tmp 17)], #[146, 146]⟩, 146, none⟩,
 ⟨some 19, .convert 146 9 (.tmp 18), 9, none⟩,
 ⟨some 2, .assign (.tmp 19), 9, none⟩] [2]) (sg c72S2))
noncomputable def c72 : Cmd := (.seq (.ops [
 ⟨some 2, .assign (.const (.string (ofL []))), 9, none⟩] [0])
 (.seq (.ops [
 ⟨some 3, .assign (.const (.slice none 0 0)), 146, none⟩] [0, 3])
 (.seq (.block 0 (.loop (sg c72L0))) (sg c72S3))))
set_option maxRecDepth 100000 in
theorem ent72 (a0 : Value) (w : World) (K : Value → World → Prop) (h : W Try.prog c72 [(0, a0)] w (finQ Try.prog [.tmp 2] K)) : Ret Try.prog 72 [a0] w K :=
  Ret_of_W (code := c72code) Try.func72 (by kernel_rfl) (by kernel_rfl) (of_decide_eq_true (by kernel_rfl)) h
@[go_sem] theorem go72 : goFunc Try.prog 72 = true := by kernel_rfl
noncomputable def c73code : Code := match Try.f73.body with | some c => c | none => .skip
noncomputable def c73 : Cmd := (.seq (.ops [
 ⟨some 2, .assign (.const (.int .u64 0)), 114, none⟩] [0])
 (.seq (.ops [
 ⟨some 3, .move (.tmp 0), 3, none⟩,
 ⟨some 4, .convert 3 114 (.tmp 3), 114, none⟩,
 ⟨some 5, .binOp .shl 114 (.tmp 4) (.const (.int .u64 1)) 76, 114, none⟩,
 ⟨some 6, .move (.tmp 0), 3, none⟩,
 ⟨some 7, .binOp .shr 3 (.tmp 6) (.const (.int .u64 63)) 76, 3, none⟩,
 ⟨some 8, .convert 3 114 (.tmp 7), 114, none⟩,
 ⟨some 9, .binOp .xor 114 (.tmp 5) (.tmp 8) 114, 114, none⟩,
 ⟨some 2, .assign (.tmp 9), 114, none⟩] [2])
 .ret))
set_option maxRecDepth 100000 in
theorem ent73 (a0 : Value) (w : World) (K : Value → World → Prop) (h : W Try.prog c73 [(0, a0)] w (finQ Try.prog [.tmp 2] K)) : Ret Try.prog 73 [a0] w K :=
  Ret_of_W (code := c73code) Try.func73 (by kernel_rfl) (by kernel_rfl) (of_decide_eq_true (by kernel_rfl)) h
@[go_sem] theorem go73 : goFunc Try.prog 73 = true := by kernel_rfl
@[go_sem] theorem go74 : goFunc Try.prog 74 = true := by kernel_rfl
@[go_sem] theorem go75 : goFunc Try.prog 75 = true := by kernel_rfl
@[go_sem] theorem go76 : goFunc Try.prog 76 = true := by kernel_rfl
noncomputable def c77code : Code := match Try.f77.body with | some c => c | none => .skip
noncomputable def c77 : Cmd := (.seq (.ops [
 ⟨some 6, .assign (.const (.bool false)), 4, none⟩] [0, 1, 2])
 (.seq (.ops [
 ⟨some 7, .move (.tmp 0), 3, none⟩,
 ⟨some 8, .move (.tmp 1), 3, none⟩,
 ⟨some 9, .binOp .geq 3 (.tmp 7) (.tmp 8) 3, 4, none⟩,
 ⟨some 10, .move (.tmp 9), 4, none⟩,
 ⟨some 11, .move (.tmp 0), 3, (some (10, true))⟩,
 ⟨some 12, .move (.tmp 2), 3, (some (10, true))⟩,
 ⟨some 13, .binOp .leq 3 (.tmp 11) (.tmp 12) 3, 4, (some (10, true))⟩,
 ⟨some 14, .pick (.tmp 10) (.tmp 13) (.const (.bool false)), 4, none⟩,
 ⟨some 6, .assign (.tmp 14), 4, none⟩] [6])
 .ret))
set_option maxRecDepth 100000 in
theorem ent77 (a0 a1 a2 : Value) (w : World) (K : Value → World → Prop) (h : W Try.prog c77 [(0, a0), (1, a1), (2, a2)] w (finQ Try.prog [.tmp 6] K)) : Ret Try.prog 77 [a0, a1, a2] w K :=
  Ret_of_W (code := c77code) Try.func77 (by kernel_rfl) (by kernel_rfl) (of_decide_eq_true (by kernel_rfl)) h
@[go_sem] theorem go77 : goFunc Try.prog 77 = true := by kernel_rfl
noncomputable def c78code : Code := match Try.f78.body with | some c => c | none => .skip
noncomputable def c78S0 (_ : Unit) : Cmd := (.ops [
 ⟨some 13, .move (.tmp 7), 3, none⟩,
 ⟨some 14, .binOp .add 3 (.tmp 13) (.const (.int .i64 1)) 3, 3, none⟩,
 ⟨some 7, .assign (.tmp 14), 3, none⟩] [0, 1, 4, 6, 7])
noncomputable def c78S1 (_ : Unit) : Cmd := (.seq (.block 1 (.seq (.ops [
 ⟨some 15, .move (.tmp 6), 148, none⟩,
 ⟨some 16, .move (.tmp 7), 3, none⟩,
 ⟨some 17, .indexAddr 148 (.tmp 15) (.tmp 16), 0, none⟩,
 ⟨some 18, .fieldAddr 121 (.tmp 17) 0, 0, none⟩,
 ⟨some 19, .load 3 (.tmp 18), 3, none⟩,
 ⟨some 20, .move (.tmp 0), 3, none⟩,
 ⟨some 21, .binOp .eql 3 (.tmp 19) (.tmp 20) 3, 4, none⟩,
 ⟨some 22, .move (.tmp 21), 4, none⟩,
 ⟨some 23, .move (.tmp 6), 148, (some (22, true))⟩,
 ⟨some 24, .move (.tmp 7), 3, (some (22, true))⟩,
 ⟨some 25, .indexAddr 148 (.tmp 23) (.tmp 24), 0, (some (22, true))⟩,
 ⟨some 26, .fieldAddr 121 (.tmp 25) 1, 0, (some (22, true))⟩,
 ⟨some 27, .load 3 (.tmp 26), 3, (some (22, true))⟩,
 ⟨some 28, .move (.tmp 1), 3, (some (22, true))⟩,
 ⟨some 29, .binOp .eql 3 (.tmp 27) (.tmp 28) 3, 4, (some (22, true))⟩,
 ⟨some 30, .pick (.tmp 22) (.tmp 29) (.const (.bool false)), 4, none⟩] [0, 1, 4, 6, 7, 30])
 (.cond (.tmp 30)
  (.seq (.ops [
  ⟨some 31, .move (.tmp 6), 148, none⟩,
  ⟨some 32, .move (.tmp 7), 3, none⟩,
  ⟨some 33, .indexAddr 148 (.tmp 31) (.tmp 32), 0, none⟩,
  ⟨some 34, .load 121 (.tmp 33), 121, none⟩,
  ⟨none, .store 121 (.tmp 4) (.tmp 34), 0, none⟩,
  ⟨some 5, .assign (.const (.bool true)), 4, none⟩] [4, 5])
  .ret)
  (.skip [0, 1, 4, 6, 7])))) (sg c78S0))
noncomputable def c78L0 (_ : Unit) : Cmd := (.seq (.seq (.ops [
 ⟨some 9, .move (.tmp 7), 3, none⟩,
 ⟨some 10, .move (.tmp 6), 148, none⟩,
 ⟨some 11, .call ⟨.builtin .len, #[(.tmp 10)], #[148]⟩, 3, none⟩,
 ⟨some 12, .binOp .lss 3 (.tmp 9) (.tmp 11) 3, 4, none⟩] [0, 1, 4, 6, 7, 12])
 (.cond (.tmp 12)
  (.skip [0, 1, 4, 6, 7])
  (.exit 0 [4]))) (sg c78S1))
noncomputable def c78S2 (_ : Unit) : Cmd := (.seq (.ops [
 ⟨some 35, .build 121 #[], 121, none⟩,
 ⟨none, .store 121 (.tmp 4) (.tmp 35), 0, none⟩,
 ⟨some 5, .assign (.const (.bool false)), 4, none⟩] [4, 5])
 .ret)
noncomputable def c78S3 (_ : Unit) : Cmd := (.seq (.seq (.ops [
 ⟨some 7, .assign (.const (.int .i64 0)), 3, none⟩] [0, 1, 4, 6, 7])
 (.block 0 (.loop (sg c78L0)))) (sg c78S2))
noncomputable def c78 : Cmd := (.seq (.ops [
 ⟨some 4, .alloc 121, 0, none⟩,
 ⟨some 5, .assign (.const (.bool false)), 4, none⟩] [0, 1, 4])
 (.seq (.ops [
 ⟨some 8, .call ⟨.value (.func 109), #[], #[]⟩, 148, none⟩,
 ⟨some 6, .assign (.tmp 8), 148, none⟩] [0, 1, 4, 6]) (sg c78S3)))
set_option maxRecDepth 100000 in
theorem ent78 (a0 a1 : Value) (w : World) (K : Value → World → Prop) (h : W Try.prog c78 [(0, a0), (1, a1)] w (finQ Try.prog [.cell 4 121, .tmp 5] K)) : Ret Try.prog 78 [a0, a1] w K :=
  Ret_of_W (code := c78code) Try.func78 (by kernel_rfl) (by kernel_rfl) (of_decide_eq_true (by kernel_rfl)) h
@[go_sem] theorem go78 : goFunc Try.prog 78 = true := by kernel_rfl
noncomputable def c79code : Code := match Try.f79.body with | some c => c | none => .skip
noncomputable def c79S0 (_ : Unit) : Cmd := .ret
noncomputable def c79S1 (_ : Unit) : Cmd := .ret
noncomputable def c79S2 (_ : Unit) : Cmd := .ret
noncomputable def c79S3 (_ : Unit) : Cmd := (.seq (.ops [
 ⟨some 25, .move (.tmp 0), 3, none⟩,
 ⟨some 26, .call ⟨.value (.func 77), #[(.tmp 25), (.const (.int .i64 (-1))), (.const (.int .i64 1073741824))], #[3, 3, 3]⟩, 4, none⟩,
 ⟨some 4, .assign (.tmp 26), 4, none⟩] [4]) (sg c79S2))
noncomputable def c79S4 (_ : Unit) : Cmd := (.seq (.seq (.ops [
 ⟨some 21, .move (.tmp 1), 3, none⟩,
 ⟨some 22, .binOp .eql 3 (.tmp 21) (.const (.int .i64 3)) 3, 4, none⟩] [0, 22])
 (.cond (.tmp 22)
  (.seq (.ops [
  ⟨some 23, .move (.tmp 0), 3, none⟩,
  ⟨some 24, .call ⟨.value (.func 77), #[(.tmp 23), (.const (.int .i64 (-1073741824))), (.const (.int .i64 1073741824))], #[3, 3, 3]⟩, 4, none⟩,
  ⟨some 4, .assign (.tmp 24), 4, none⟩] [4]) (sg c79S1))
  (.skip [0]))) (sg c79S3))
noncomputable def c79S5 (_ : Unit) : Cmd := (.seq (.seq (.ops [
 ⟨some 17, .move (.tmp 1), 3, none⟩,
 ⟨some 18, .binOp .eql 3 (.tmp 17) (.const (.int .i64 2)) 3, 4, none⟩] [0, 1, 18])
 (.cond (.tmp 18)
  (.seq (.ops [
  ⟨some 19, .move (.tmp 0), 3, none⟩,
  ⟨some 20, .call ⟨.value (.func 77), #[(.tmp 19), (.const (.int .i64 0)), (.const (.int .i64 1073741824))], #[3, 3, 3]⟩, 4, none⟩,
  ⟨some 4, .assign (.tmp 20), 4, none⟩] [4]) (sg c79S0))
  (.skip [0, 1]))) (sg c79S4))
noncomputable def c79S6 (_ : Unit) : Cmd := (.seq (.seq (.ops [
 ⟨some 9, .move (.tmp 1), 3, none⟩,
 ⟨some 10, .binOp .eql 3 (.tmp 9) (.const (.int .i64 1)) 3, 4, none⟩] [0, 1, 10])
 (.cond (.tmp 10)
  (.seq (.ops [
  ⟨some 11, .move (.tmp 0), 3, none⟩,
  ⟨some 12, .binOp .eql 3 (.tmp 11) (.const (.int .i64 0)) 3, 4, none⟩,
  ⟨some 13, .move (.tmp 12), 4, none⟩,
  ⟨some 14, .move (.tmp 0), 3, (some (13, false))⟩,
  ⟨some 15, .binOp .eql 3 (.tmp 14) (.const (.int .i64 1)) 3, 4, (some (13, false))⟩,
  ⟨some 16, .pick (.tmp 13) (.const (.bool true)) (.tmp 15), 4, none⟩,
  ⟨some 4, .assign (.tmp 16), 4, none⟩] [4])
  .ret)
  (.skip [0, 1]))) (sg c79S5))
noncomputable def c79 : Cmd := (.seq (.ops [
 ⟨some 4, .assign (.const (.bool false)), 4, none⟩] [0, 1])
 (.seq (.seq (.ops [
 ⟨some 5, .move (.tmp 1), 3, none⟩,
 ⟨some 6, .binOp .eql 3 (.tmp 5) (.const (.int .i64 0)) 3, 4, none⟩] [0, 1, 6])
 (.cond (.tmp 6)
  (.seq (.ops [
  ⟨some 7, .move (.tmp 0), 3, none⟩,
  ⟨some 8, .binOp .eql 3 (.tmp 7) (.const (.int .i64 0)) 3, 4, none⟩,
  ⟨some 4, .assign (.tmp 8), 4, none⟩] [4])
  .ret)
  (.skip [0, 1]))) (sg c79S6)))
set_option maxRecDepth 100000 in
theorem ent79 (a0 a1 : Value) (w : World) (K : Value → World → Prop) (h : W Try.prog c79 [(0, a0), (1, a1)] w (finQ Try.prog [.tmp 4] K)) : Ret Try.prog 79 [a0, a1] w K :=
  Ret_of_W (code := c79code) Try.func79 (by kernel_rfl) (by kernel_rfl) (of_decide_eq_true (by kernel_rfl)) h
@[go_sem] theorem go79 : goFunc Try.prog 79 = true := by kernel_rfl
noncomputable def c92code : Code := match Try.f92.body with | some c => c | none => .skip
noncomputable def c92S0 (_ : Unit) : Cmd := .ret
noncomputable def c92S1 (_ : Unit) : Cmd := (.cond (.tmp 41)
     (.seq (.ops [
     ⟨some 42, .fieldAddr 58 (.tmp 3) 6, 0, none⟩,
     ⟨some 43, .load 3 (.tmp 42), 3, none⟩,
     ⟨some 44, .buildSlice 36 1 #[(0, (.tmp 43))], 36, none⟩,
     ⟨some 4, .assign (.tmp 44), 36, none⟩,
     ⟨some 5, .assign (.const (.int .i64 1)), 3, none⟩,
     ⟨some 6, .assign (.const (.bool true)), 4, none⟩] [4, 5, 6])
     .ret)
     (.skip [0]))
noncomputable def c92S2 (_ : Unit) : Cmd := (.seq (.ops [
    ⟨some 45, .move (.tmp 0), 36, none⟩,
    ⟨some 4, .assign (.tmp 45), 36, none⟩,
    ⟨some 5, .assign (.const (.int .i64 0)), 3, none⟩,
    ⟨some 6, .assign (.const (.bool true)), 4, none⟩] [4, 5, 6])
    .ret)
noncomputable def c92S3 (_ : Unit) : Cmd := (.seq (.ops [
 ⟨some 4, .assign (.const (.slice none 0 0)), 36, none⟩,
 ⟨some 5, .assign (.const (.int .i64 0)), 3, none⟩,
 ⟨some 6, .assign (.const (.bool false)), 4, none⟩] [4, 5, 6])
 .ret)
noncomputable def c92 : Cmd := (.seq (.ops [
 ⟨some 3, .box 58 (.tmp 1), 0, none⟩,
 ⟨some 4, .assign (.const (.slice none 0 0)), 36, none⟩,
 ⟨some 5, .assign (.const (.int .i64 0)), 3, none⟩,
 ⟨some 6, .assign (.const (.bool false)), 4, none⟩] [0, 3])
 (.seq (.block 0 (.seq (.ops [
 ⟨some 8, .fieldAddr 58 (.tmp 3) 4, 0, none⟩,
 ⟨some 9, .load 3 (.tmp 8), 3, none⟩,
 ⟨some 10, .binOp .eql 3 (.tmp 9) (.const (.int .i64 1)) 3, 4, none⟩,
 ⟨some 7, .assign (.tmp 10), 4, none⟩] [0, 3, 7])
 (.cond (.tmp 7)
  (.seq (.draw (drawOps 0 c92code) [4, 5, 6]) (sg c92S0))
  (.seq (.ops [
  ⟨some 16, .fieldAddr 58 (.tmp 3) 3, 0, none⟩,
  ⟨some 17, .load 3 (.tmp 16), 3, none⟩,
  ⟨some 18, .binOp .eql 3 (.tmp 17) (.const (.int .i64 1)) 3, 4, none⟩,
  ⟨some 19, .move (.tmp 18), 4, none⟩,
  ⟨some 20, .fieldAddr 58 (.tmp 3) 4, 0, (some (19, true))⟩,
  ⟨some 21, .load 3 (.tmp 20), 3, (some (19, true))⟩,
  ⟨some 22, .binOp .eql 3 (.tmp 21) (.const (.int .i64 2)) 3, 4, (some (19, true))⟩,
  ⟨some 23, .pick (.tmp 19) (.tmp 22) (.const (.bool false)), 4, none⟩,
  ⟨some 15, .assign (.tmp 23), 4, none⟩] [0, 3, 15])
  (.cond (.tmp 15)
   (.seq (.ops [
   ⟨some 24, .fieldAddr 58 (.tmp 3) 5, 0, none⟩,
   ⟨some 25, .load 3 (.tmp 24), 3, none⟩,
   ⟨some 26, .buildSlice 36 1 #[(0, (.tmp 25))], 36, none⟩,
   ⟨some 4, .assign (.tmp 26), 36, none⟩,
   ⟨some 5, .assign (.const (.int .i64 0)), 3, none⟩,
   ⟨some 6, .assign (.const (.bool true)), 4, none⟩] [4, 5, 6])
   .ret)
   (.seq (.ops [
   ⟨some 28, .fieldAddr 58 (.tmp 3) 3, 0, none⟩,
   ⟨some 29, .load 3 (.tmp 28), 3, none⟩,
   ⟨some 30, .binOp .eql 3 (.tmp 29) (.const (.int .i64 1)) 3, 4, none⟩,
   ⟨some 31, .move (.tmp 30), 4, none⟩,
   ⟨some 32, .fieldAddr 58 (.tmp 3) 4, 0, (some (31, true))⟩,
   ⟨some 33, .load 3 (.tmp 32), 3, (some (31, true))⟩,
   ⟨some 34, .binOp .eql 3 (.tmp 33) (.const (.int .i64 3)) 3, 4, (some (31, true))⟩,
   ⟨some 35, .pick (.tmp 31) (.tmp 34) (.const (.bool false)), 4, none⟩,
   ⟨some 27, .assign (.tmp 35), 4, none⟩] [0, 3, 27])
   (.cond (.tmp 27)
    (.seq (.seq (.draw (drawOps 1 c92code) [0, 3, 41]) (sg c92S1)) (sg c92S2))
    (.seq (.ops [
    ⟨some 47, .fieldAddr 58 (.tmp 3) 3, 0, none⟩,
    ⟨some 48, .load 3 (.tmp 47), 3, none⟩,
    ⟨some 49, .binOp .eql 3 (.tmp 48) (.const (.int .i64 2)) 3, 4, none⟩,
    ⟨some 50, .move (.tmp 49), 4, none⟩,
    ⟨some 51, .fieldAddr 58 (.tmp 3) 4, 0, (some (50, true))⟩,
    ⟨some 52, .load 3 (.tmp 51), 3, (some (50, true))⟩,
    ⟨some 53, .binOp .eql 3 (.tmp 52) (.const (.int .i64 4)) 3, 4, (some (50, true))⟩,
    ⟨some 54, .pick (.tmp 50) (.tmp 53) (.const (.bool false)), 4, none⟩,
    ⟨some 46, .assign (.tmp 54), 4, none⟩] [0, 3, 46])
    (.cond (.tmp 46)
     (.seq (.opsX [
     ⟨some 55, .move (.tmp 0), 36, none⟩,
     ⟨some 56, .indexAddr 36 (.tmp 55) (.const (.int .i64 0)), 0, none⟩,
     ⟨some 57, .load 3 (.tmp 56), 3, none⟩,
     ⟨some 58, .binOp .add 3 (.tmp 57) (.const (.int .i64 1)) 3, 3, none⟩,
     ⟨some 59, .buildSlice 36 1 #[(0, (.tmp 58))], 36, none⟩,
     ⟨some 4, .assign (.tmp 59), 36, none⟩,
     ⟨some 5, .assign (.const (.int .i64 0)), 3, none⟩,
     ⟨some 6, .assign (.const (.bool true)), 4, none⟩] [4, 5, 6])
     .ret)
     (.seq (.ops [
     ⟨some 61, .fieldAddr 58 (.tmp 3) 3, 0, none⟩,
     ⟨some 62, .load 3 (.tmp 61), 3, none⟩,
     ⟨some 63, .binOp .eql 3 (.tmp 62) (.const (.int .i64 2)) 3, 4, none⟩,
     ⟨some 64, .move (.tmp 63), 4, none⟩,
     ⟨some 65, .fieldAddr 58 (.tmp 3) 4, 0, (some (64, true))⟩,
     ⟨some 66, .load 3 (.tmp 65), 3, (some (64, true))⟩,
     ⟨some 67, .binOp .eql 3 (.tmp 66) (.const (.int .i64 5)) 3, 4, (some (64, true))⟩,
     ⟨some 68, .pick (.tmp 64) (.tmp 67) (.const (.bool false)), 4, none⟩,
     ⟨some 60, .assign (.tmp 68), 4, none⟩] [0, 60])
     (.cond (.tmp 60)
      (.seq (.opsX [
      ⟨some 69, .move (.tmp 0), 36, none⟩,
      ⟨some 70, .indexAddr 36 (.tmp 69) (.const (.int .i64 0)), 0, none⟩,
      ⟨some 71, .load 3 (.tmp 70), 3, none⟩,
      ⟨some 72, .binOp .sub 3 (.tmp 71) (.const (.int .i64 1)) 3, 3, none⟩,
      ⟨some 73, .buildSlice 36 1 #[(0, (.tmp 72))], 36, none⟩,
      ⟨some 4, .assign (.tmp 73), 36, none⟩,
      ⟨some 5, .assign (.const (.int .i64 0)), 3, none⟩,
      ⟨some 6, .assign (.const (.bool true)), 4, none⟩] [4, 5, 6])
      .ret)
      (.skip [])))))))))))) (sg c92S3)))
noncomputable def c92D0 : List (Bool × Ins) := [
 (true, ⟨some 11, .move (.tmp 0), 36, none⟩),
 (true, ⟨some 12, .move (.tmp 0), 36, none⟩),
 (true, ⟨some 13, .indexAddr 36 (.tmp 12) (.const (.int .i64 0)), 0, none⟩),
 (true, ⟨some 4, .assign (.tmp 11), 36, none⟩),
 (false, ⟨some 14, .load 3 (.tmp 13), 3, none⟩),
 (true, ⟨some 5, .assign (.tmp 14), 3, none⟩),
 (true, ⟨some 6, .assign (.const (.bool true)), 4, none⟩)]
theorem c92draw0 {L : List Nat} {ρ : Env} {w : World} {Q : Post} (h : DL Try.prog c92D0 L ρ w.drew Q) : drawW Try.prog (drawOps 0 c92code) L ρ w Q :=
  drawW_by [(true, 0), (true, 1), (true, 2), (true, 4), (false, 3), (true, 5), (true, 6)] c92D0 (by kernel_rfl) (by kernel_rfl) (by kernel_rfl) h
noncomputable def c92D1 : List (Bool × Ins) := [
 (true, ⟨some 36, .move (.tmp 0), 36, none⟩),
 (true, ⟨some 37, .indexAddr 36 (.tmp 36) (.const (.int .i64 0)), 0, none⟩),
 (false, ⟨some 38, .load 3 (.tmp 37), 3, none⟩),
 (true, ⟨some 39, .fieldAddr 58 (.tmp 3) 5, 0, none⟩),
 (false, ⟨some 40, .load 3 (.tmp 39), 3, none⟩),
 (true, ⟨some 41, .binOp .eql 3 (.tmp 38) (.tmp 40) 3, 4, none⟩)]
theorem c92draw1 {L : List Nat} {ρ : Env} {w : World} {Q : Post} (h : DL Try.prog c92D1 L ρ w.drew Q) : drawW Try.prog (drawOps 1 c92code) L ρ w Q :=
  drawW_still [true, true, false, true, false, true] c92D1 (by kernel_rfl) (by kernel_rfl) (by kernel_rfl) h
set_option maxRecDepth 100000 in
theorem ent92 (a0 a1 : Value) (w : World) (K : Value → World → Prop) (h : W Try.prog c92 [(0, a0), (1, a1)] w (finQ Try.prog [.tmp 4, .tmp 5, .tmp 6] K)) : Ret Try.prog 92 [a0, a1] w K :=
  Ret_of_W (code := c92code) Try.func92 (by kernel_rfl) (by kernel_rfl) (of_decide_eq_true (by kernel_rfl)) h
@[go_sem] theorem go92 : goFunc Try.prog 92 = true := by kernel_rfl
noncomputable def c93code : Code := match Try.f93.body with | some c => c | none => .skip
noncomputable def c93S0 (_ : Unit) : Cmd := .ret
noncomputable def c93S1 (_ : Unit) : Cmd := .ret
noncomputable def c93S2 (_ : Unit) : Cmd := (.seq (.draw (drawOps 0 c93code) [4, 5, 6]) (sg c93S1))
noncomputable def c93S3 (_ : Unit) : Cmd := .ret
noncomputable def c93S4 (_ : Unit) : Cmd := (.seq (.draw (drawOps 1 c93code) [4, 5, 6]) (sg c93S3))
noncomputable def c93S5 (_ : Unit) : Cmd := (.cond (.tmp 10)
  (.seq (.ops [
  ⟨some 27, .move (.tmp 0), 36, none⟩,
  ⟨some 28, .fieldAddr 58 (.tmp 3) 5, 0, none⟩,
  ⟨some 29, .load 3 (.tmp 28), 3, none⟩,
  ⟨some 30, .buildSlice 36 1 #[(0, (.tmp 29))], 36, none⟩,
  ⟨some 31, .call ⟨.builtin .append, #[(.tmp 27), (.tmp 30)], #[36, 36]⟩, 36, none⟩,
  ⟨some 4, .assign (.tmp 31), 36, none⟩,
  ⟨some 5, .assign (.const (.int .i64 0)), 3, none⟩,
  ⟨some 6, .assign (.const (.bool true)), 4, none⟩] [4, 5, 6]) (sg c93S0))
  (.seq (.ops [
  ⟨some 33, .fieldAddr 58 (.tmp 3) 3, 0, none⟩,
  ⟨some 34, .load 3 (.tmp 33), 3, none⟩,
  ⟨some 35, .binOp .eql 3 (.tmp 34) (.const (.int .i64 3)) 3, 4, none⟩,
  ⟨some 36, .move (.tmp 35), 4, none⟩,
  ⟨some 37, .fieldAddr 58 (.tmp 3) 4, 0, (some (36, true))⟩,
  ⟨some 38, .load 3 (.tmp 37), 3, (some (36, true))⟩,
  ⟨some 39, .binOp .eql 3 (.tmp 38) (.const (.int .i64 7)) 3, 4, (some (36, true))⟩,
  ⟨some 40, .pick (.tmp 36) (.tmp 39) (.const (.bool false)), 4, none⟩,
  ⟨some 32, .assign (.tmp 40), 4, none⟩] [0, 3, 7, 32])
  (.cond (.tmp 32)
   (.seq (.seq (.ops [
   ⟨some 41, .move (.tmp 7), 3, none⟩,
   ⟨some 42, .binOp .eql 3 (.tmp 41) (.const (.int .i64 0)) 3, 4, none⟩] [0, 42])
   (.cond (.tmp 42)
    (.seq (.ops [
    ⟨some 43, .move (.tmp 0), 36, none⟩,
    ⟨some 4, .assign (.tmp 43), 36, none⟩,
    ⟨some 5, .assign (.const (.int .i64 (-1))), 3, none⟩,
    ⟨some 6, .assign (.const (.bool true)), 4, none⟩] [4, 5, 6])
    .ret)
    (.skip [0]))) (sg c93S2))
   (.seq (.ops [
   ⟨some 50, .fieldAddr 58 (.tmp 3) 3, 0, none⟩,
   ⟨some 51, .load 3 (.tmp 50), 3, none⟩,
   ⟨some 52, .binOp .eql 3 (.tmp 51) (.const (.int .i64 4)) 3, 4, none⟩,
   ⟨some 53, .move (.tmp 52), 4, none⟩,
   ⟨some 54, .fieldAddr 58 (.tmp 3) 4, 0, (some (53, true))⟩,
   ⟨some 55, .load 3 (.tmp 54), 3, (some (53, true))⟩,
   ⟨some 56, .binOp .eql 3 (.tmp 55) (.const (.int .i64 9)) 3, 4, (some (53, true))⟩,
   ⟨some 57, .pick (.tmp 53) (.tmp 56) (.const (.bool false)), 4, none⟩,
   ⟨some 49, .assign (.tmp 57), 4, none⟩] [0, 7, 49])
   (.cond (.tmp 49)
    (.seq (.seq (.ops [
    ⟨some 58, .move (.tmp 7), 3, none⟩,
    ⟨some 59, .binOp .eql 3 (.tmp 58) (.const (.int .i64 0)) 3, 4, none⟩] [0, 7, 59])
    (.cond (.tmp 59)
     (.seq (.ops [
     ⟨some 60, .move (.tmp 0), 36, none⟩,
     ⟨some 4, .assign (.tmp 60), 36, none⟩,
     ⟨some 5, .assign (.const (.int .i64 (-1))), 3, none⟩,
     ⟨some 6, .assign (.const (.bool true)), 4, none⟩] [4, 5, 6])
     .ret)
     (.skip [0, 7]))) (sg c93S4))
    (.skip []))))))
noncomputable def c93S6 (_ : Unit) : Cmd := (.seq (.ops [
 ⟨some 4, .assign (.const (.slice none 0 0)), 36, none⟩,
 ⟨some 5, .assign (.const (.int .i64 0)), 3, none⟩,
 ⟨some 6, .assign (.const (.bool false)), 4, none⟩] [4, 5, 6])
 .ret)
noncomputable def c93 : Cmd := (.seq (.ops [
 ⟨some 3, .box 58 (.tmp 1), 0, none⟩,
 ⟨some 4, .assign (.const (.slice none 0 0)), 36, none⟩,
 ⟨some 5, .assign (.const (.int .i64 0)), 3, none⟩,
 ⟨some 6, .assign (.const (.bool false)), 4, none⟩] [0, 3])
 (.seq (.ops [
 ⟨some 8, .move (.tmp 0), 36, none⟩,
 ⟨some 9, .call ⟨.builtin .len, #[(.tmp 8)], #[36]⟩, 3, none⟩,
 ⟨some 7, .assign (.tmp 9), 3, none⟩] [0, 3, 7])
 (.seq (.block 0 (.seq (.seq (.ops [
 ⟨some 11, .fieldAddr 58 (.tmp 3) 3, 0, none⟩,
 ⟨some 12, .load 3 (.tmp 11), 3, none⟩,
 ⟨some 13, .binOp .eql 3 (.tmp 12) (.const (.int .i64 3)) 3, 4, none⟩,
 ⟨some 14, .move (.tmp 13), 4, none⟩,
 ⟨some 15, .fieldAddr 58 (.tmp 3) 4, 0, (some (14, true))⟩,
 ⟨some 16, .load 3 (.tmp 15), 3, (some (14, true))⟩,
 ⟨some 17, .binOp .eql 3 (.tmp 16) (.const (.int .i64 6)) 3, 4, (some (14, true))⟩,
 ⟨some 18, .pick (.tmp 14) (.tmp 17) (.const (.bool false)), 4, none⟩,
 ⟨some 10, .assign (.tmp 18), 4, none⟩] [0, 3, 7, 10])
 (.cond (.tmp 10)
  (.skip [0, 3, 7, 10])
  (.ops [
  ⟨some 19, .fieldAddr 58 (.tmp 3) 3, 0, none⟩,
  ⟨some 20, .load 3 (.tmp 19), 3, none⟩,
  ⟨some 21, .binOp .eql 3 (.tmp 20) (.const (.int .i64 4)) 3, 4, none⟩,
  ⟨some 22, .move (.tmp 21), 4, none⟩,
  ⟨some 23, .fieldAddr 58 (.tmp 3) 4, 0, (some (22, true))⟩,
  ⟨some 24, .load 3 (.tmp 23), 3, (some (22, true))⟩,
  ⟨some 25, .binOp .eql 3 (.tmp 24) (.const (.int .i64 8)) 3, 4, (some (22, true))⟩,
  ⟨some 26, .pick (.tmp 22) (.tmp 25) (.const (.bool false)), 4, none⟩,
  ⟨some 10, .assign (.tmp 26), 4, none⟩] [0, 3, 7, 10]))) (sg c93S5))) (sg c93S6))))
noncomputable def c93D0 : List (Bool × Ins) := [
 (true, ⟨some 44, .move (.tmp 0), 36, none⟩),
 (true, ⟨some 45, .slice 36 (.tmp 44) (some (.const (.int .i64 1))) none none, 36, none⟩),
 (true, ⟨some 46, .move (.tmp 0), 36, none⟩),
 (true, ⟨some 47, .indexAddr 36 (.tmp 46) (.const (.int .i64 0)), 0, none⟩),
 (true, ⟨some 4, .assign (.tmp 45), 36, none⟩),
 (false, ⟨some 48, .load 3 (.tmp 47), 3, none⟩),
 (true, ⟨some 5, .assign (.tmp 48), 3, none⟩),
 (true, ⟨some 6, .assign (.const (.bool true)), 4, none⟩)]
theorem c93draw0 {L : List Nat} {ρ : Env} {w : World} {Q : Post} (h : DL Try.prog c93D0 L ρ w.drew Q) : drawW Try.prog (drawOps 0 c93code) L ρ w Q :=
  drawW_by [(true, 0), (true, 1), (true, 2), (true, 3), (true, 5), (false, 4), (true, 6), (true, 7)] c93D0 (by kernel_rfl) (by kernel_rfl) (by kernel_rfl) h
noncomputable def c93D1 : List (Bool × Ins) := [
 (true, ⟨some 61, .move (.tmp 0), 36, none⟩),
 (true, ⟨some 62, .move (.tmp 7), 3, none⟩),
 (true, ⟨some 63, .binOp .sub 3 (.tmp 62) (.const (.int .i64 1)) 3, 3, none⟩),
 (true, ⟨some 64, .slice 36 (.tmp 61) none (some (.tmp 63)) none, 36, none⟩),
 (true, ⟨some 65, .move (.tmp 0), 36, none⟩),
 (true, ⟨some 66, .move (.tmp 7), 3, none⟩),
 (true, ⟨some 67, .binOp .sub 3 (.tmp 66) (.const (.int .i64 1)) 3, 3, none⟩),
 (true, ⟨some 68, .indexAddr 36 (.tmp 65) (.tmp 67), 0, none⟩),
 (true, ⟨some 4, .assign (.tmp 64), 36, none⟩),
 (false, ⟨some 69, .load 3 (.tmp 68), 3, none⟩),
 (true, ⟨some 5, .assign (.tmp 69), 3, none⟩),
 (true, ⟨some 6, .assign (.const (.bool true)), 4, none⟩)]
theorem c93draw1 {L : List Nat} {ρ : Env} {w : World} {Q : Post} (h : DL Try.prog c93D1 L ρ w.drew Q) : drawW Try.prog (drawOps 1 c93code) L ρ w Q :=
  drawW_by [(true, 0), (true, 1), (true, 2), (true, 3), (true, 4), (true, 5), (true, 6), (true, 7), (true, 9), (false, 8), (true, 10), (true, 11)] c93D1 (by kernel_rfl) (by kernel_rfl) (by kernel_rfl) h
set_option maxRecDepth 100000 in
theorem ent93 (a0 a1 : Value) (w : World) (K : Value → World → Prop) (h : W Try.prog c93 [(0, a0), (1, a1)] w (finQ Try.prog [.tmp 4, .tmp 5, .tmp 6] K)) : Ret Try.prog 93 [a0, a1] w K :=
  Ret_of_W (code := c93code) Try.func93 (by kernel_rfl) (by kernel_rfl) (of_decide_eq_true (by kernel_rfl)) h
@[go_sem] theorem go93 : goFunc Try.prog 93 = true := by kernel_rfl
noncomputable def c94code : Code := match Try.f94.body with | some c => c | none => .skip
noncomputable def c94S0 (_ : Unit) : Cmd := .ret
noncomputable def c94S1 (_ : Unit) : Cmd := .ret
noncomputable def c94S2 (_ : Unit) : Cmd := .ret
noncomputable def c94S3 (_ : Unit) : Cmd := (.cond (.tmp 16)
  (.seq (.ops [
  ⟨some 33, .move (.tmp 0), 36, none⟩,
  ⟨some 34, .fieldAddr 58 (.tmp 3) 4, 0, none⟩,
  ⟨some 35, .load 3 (.tmp 34), 3, none⟩,
  ⟨some 36, .binOp .eql 3 (.tmp 35) (.const (.int .i64 12)) 3, 4, none⟩,
  ⟨some 37, .move (.tmp 36), 4, none⟩,
  ⟨some 38, .move (.tmp 8), 4, (some (37, true))⟩,
  ⟨some 39, .pick (.tmp 37) (.tmp 38) (.const (.bool false)), 4, none⟩,
  ⟨some 40, .call ⟨.value (.func 122), #[(.tmp 39)], #[4]⟩, 3, none⟩,
  ⟨some 4, .assign (.tmp 33), 36, none⟩,
  ⟨some 5, .assign (.tmp 40), 3, none⟩,
  ⟨some 6, .assign (.const (.bool true)), 4, none⟩] [4, 5, 6]) (sg c94S0))
  (.seq (.ops [
  ⟨some 42, .fieldAddr 58 (.tmp 3) 4, 0, none⟩,
  ⟨some 43, .load 3 (.tmp 42), 3, none⟩,
  ⟨some 44, .binOp .eql 3 (.tmp 43) (.const (.int .i64 10)) 3, 4, none⟩,
  ⟨some 41, .assign (.tmp 44), 4, none⟩] [0, 3, 7, 41])
  (.cond (.tmp 41)
   (.seq (.ops [
   ⟨some 45, .move (.tmp 0), 36, none⟩,
   ⟨some 46, .move (.tmp 7), 3, none⟩,
   ⟨some 47, .fieldAddr 58 (.tmp 3) 5, 0, none⟩,
   ⟨some 48, .load 3 (.tmp 47), 3, none⟩,
   ⟨some 49, .buildSlice 36 1 #[(0, (.tmp 48))], 36, none⟩,
   ⟨some 50, .call ⟨.value (.func 123), #[(.tmp 45), (.tmp 46), (.tmp 49)], #[36, 3, 36]⟩, 36, none⟩,
   ⟨some 4, .assign (.tmp 50), 36, none⟩,
   ⟨some 5, .assign (.const (.int .i64 1)), 3, none⟩,
   ⟨some 6, .assign (.const (.bool true)), 4, none⟩] [4, 5, 6]) (sg c94S1))
   (.seq (.ops [
   ⟨some 52, .fieldAddr 58 (.tmp 3) 4, 0, none⟩,
   ⟨some 53, .load 3 (.tmp 52), 3, none⟩,
   ⟨some 54, .binOp .eql 3 (.tmp 53) (.const (.int .i64 11)) 3, 4, none⟩,
   ⟨some 51, .assign (.tmp 54), 4, none⟩] [0, 7, 51])
   (.cond (.tmp 51)
    (.seq (.ops [
    ⟨some 55, .move (.tmp 0), 36, none⟩,
    ⟨some 56, .move (.tmp 7), 3, none⟩,
    ⟨some 57, .move (.tmp 7), 3, none⟩,
    ⟨some 58, .binOp .add 3 (.tmp 57) (.const (.int .i64 1)) 3, 3, none⟩,
    ⟨some 59, .call ⟨.value (.func 124), #[(.tmp 55), (.tmp 56), (.tmp 58)], #[36, 3, 3]⟩, 36, none⟩,
    ⟨some 4, .assign (.tmp 59), 36, none⟩,
    ⟨some 5, .assign (.const (.int .i64 1)), 3, none⟩,
    ⟨some 6, .assign (.const (.bool true)), 4, none⟩] [4, 5, 6]) (sg c94S2))
    (.skip []))))))
noncomputable def c94S4 (_ : Unit) : Cmd := (.seq (.ops [
 ⟨some 4, .assign (.const (.slice none 0 0)), 36, none⟩,
 ⟨some 5, .assign (.const (.int .i64 0)), 3, none⟩,
 ⟨some 6, .assign (.const (.bool false)), 4, none⟩] [4, 5, 6])
 .ret)
noncomputable def c94S5 (_ : Unit) : Cmd := (.seq (.block 0 (.seq (.seq (.ops [
 ⟨some 17, .fieldAddr 58 (.tmp 3) 4, 0, none⟩,
 ⟨some 18, .load 3 (.tmp 17), 3, none⟩,
 ⟨some 19, .binOp .eql 3 (.tmp 18) (.const (.int .i64 12)) 3, 4, none⟩,
 ⟨some 16, .assign (.tmp 19), 4, none⟩] [0, 3, 7, 8, 16])
 (.cond (.tmp 16)
  (.skip [0, 3, 7, 8, 16])
  (.seq (.ops [
  ⟨some 20, .fieldAddr 58 (.tmp 3) 4, 0, none⟩,
  ⟨some 21, .load 3 (.tmp 20), 3, none⟩,
  ⟨some 22, .binOp .eql 3 (.tmp 21) (.const (.int .i64 10)) 3, 4, none⟩,
  ⟨some 23, .move (.tmp 22), 4, none⟩,
  ⟨some 24, .move (.tmp 8), 4, (some (23, true))⟩,
  ⟨some 25, .pick (.tmp 23) (.tmp 24) (.const (.bool false)), 4, none⟩,
  ⟨some 16, .assign (.tmp 25), 4, none⟩] [0, 3, 7, 8, 16])
  (.cond (.tmp 16)
   (.skip [0, 3, 7, 8, 16])
   (.ops [
   ⟨some 26, .fieldAddr 58 (.tmp 3) 4, 0, none⟩,
   ⟨some 27, .load 3 (.tmp 26), 3, none⟩,
   ⟨some 28, .binOp .eql 3 (.tmp 27) (.const (.int .i64 11)) 3, 4, none⟩,
   ⟨some 29, .move (.tmp 28), 4, none⟩,
   ⟨some 30, .move (.tmp 8), 4, (some (29, true))⟩,
   ⟨some 31, .unOp .not 4 (.tmp 30), 4, (some (29, true))⟩,
   ⟨some 32, .pick (.tmp 29) (.tmp 31) (.const (.bool false)), 4, none⟩,
   ⟨some 16, .assign (.tmp 32), 4, none⟩] [0, 3, 7, 8, 16]))))) (sg c94S3))) (sg c94S4))
noncomputable def c94 : Cmd := (.seq (.ops [
 ⟨some 3, .box 58 (.tmp 1), 0, none⟩,
 ⟨some 4, .assign (.const (.slice none 0 0)), 36, none⟩,
 ⟨some 5, .assign (.const (.int .i64 0)), 3, none⟩,
 ⟨some 6, .assign (.const (.bool false)), 4, none⟩] [0, 3])
 (.seq (.ops [
 ⟨some 10, .move (.tmp 0), 36, none⟩,
 ⟨some 11, .fieldAddr 58 (.tmp 3) 5, 0, none⟩,
 ⟨some 12, .load 3 (.tmp 11), 3, none⟩,
 ⟨some 13, .call ⟨.value (.func 121), #[(.tmp 10), (.tmp 12)], #[36, 3]⟩, 142, none⟩,
 ⟨some 9, .move (.tmp 13), 142, none⟩,
 ⟨some 14, .extract (.tmp 9) 0, 3, none⟩,
 ⟨some 15, .extract (.tmp 9) 1, 4, none⟩,
 ⟨some 7, .assign (.tmp 14), 3, none⟩,
 ⟨some 8, .assign (.tmp 15), 4, none⟩] [0, 3, 7, 8]) (sg c94S5)))
set_option maxRecDepth 100000 in
theorem ent94 (a0 a1 : Value) (w : World) (K : Value → World → Prop) (h : W Try.prog c94 [(0, a0), (1, a1)] w (finQ Try.prog [.tmp 4, .tmp 5, .tmp 6] K)) : Ret Try.prog 94 [a0, a1] w K :=
  Ret_of_W (code := c94code) Try.func94 (by kernel_rfl) (by kernel_rfl) (of_decide_eq_true (by kernel_rfl)) h
@[go_sem] theorem go94 : goFunc Try.prog 94 = true := by kernel_rfl
@[go_sem] theorem go106 : goFunc Try.prog 106 = true := by kernel_rfl
@[go_sem] theorem go107 : goFunc Try.prog 107 = true := by kernel_rfl
@[go_sem] theorem go108 : goFunc Try.prog 108 = true := by kernel_rfl
noncomputable def c109code : Code := match Try.f109.body with | some c => c | none => .skip
noncomputable def c109 : Cmd := (.seq (.ops [
 ⟨some 0, .assign (.const (.slice none 0 0)), 148, none⟩] [])
 (.seq (.ops [
 ⟨some 1, .build 121 #[(0, (.const (.int .i64 1))), (1, (.const (.int .i64 1))), (2, (.const (.int .i64 0))), (3, (.const (.int .i64 2)))], 121, none⟩,
 ⟨some 2, .build 121 #[(0, (.const (.int .i64 1))), (1, (.const (.int .i64 2))), (2, (.const (.int .i64 1))), (3, (.const (.int .i64 0)))], 121, none⟩,
 ⟨some 3, .build 121 #[(0, (.const (.int .i64 1))), (1, (.const (.int .i64 3))), (2, (.const (.int .i64 2))), (3, (.const (.int .i64 1)))], 121, none⟩,
 ⟨some 4, .build 121 #[(0, (.const (.int .i64 2))), (1, (.const (.int .i64 1))), (2, (.const (.int .i64 0))), (3, (.const (.int .i64 3)))], 121, none⟩,
 ⟨some 5, .build 121 #[(0, (.const (.int .i64 2))), (1, (.const (.int .i64 4))), (2, (.const (.int .i64 0))), (3, (.const (.int .i64 0)))], 121, none⟩,
 ⟨some 6, .build 121 #[(0, (.const (.int .i64 2))), (1, (.const (.int .i64 5))), (2, (.const (.int .i64 0))), (3, (.const (.int .i64 0)))], 121, none⟩,
 ⟨some 7, .build 121 #[(0, (.const (.int .i64 3))), (1, (.const (.int .i64 6))), (2, (.const (.int .i64 1))), (3, (.const (.int .i64 0)))], 121, none⟩,
 ⟨some 8, .build 121 #[(0, (.const (.int .i64 3))), (1, (.const (.int .i64 7))), (2, (.const (.int .i64 0))), (3, (.const (.int .i64 4)))], 121, none⟩,
 ⟨some 9, .build 121 #[(0, (.const (.int .i64 4))), (1, (.const (.int .i64 8))), (2, (.const (.int .i64 1))), (3, (.const (.int .i64 0)))], 121, none⟩,
 ⟨some 10, .build 121 #[(0, (.const (.int .i64 4))), (1, (.const (.int .i64 9))), (2, (.const (.int .i64 0))), (3, (.const (.int .i64 4)))], 121, none⟩,
 ⟨some 11, .build 121 #[(0, (.const (.int .i64 5))), (1, (.const (.int .i64 10))), (2, (.const (.int .i64 1))), (3, (.const (.int .i64 1)))], 121, none⟩,
 ⟨some 12, .build 121 #[(0, (.const (.int .i64 5))), (1, (.const (.int .i64 11))), (2, (.const (.int .i64 1))), (3, (.const (.int .i64 1)))], 121, none⟩,
 ⟨some 13, .build 121 #[(0, (.const (.int .i64 5))), (1, (.const (.int .i64 12))), (2, (.const (.int .i64 1))), (3, (.const (.int .i64 1)))], 121, none⟩,
 ⟨some 14, .build 121 #[(0, (.const (.int .i64 6))), (1, (.const (.int .i64 13))), (2, (.const (.int .i64 0))), (3, (.const (.int .i64 0)))], 121, none⟩,
 ⟨some 15, .build 121 #[(0, (.const (.int .i64 6))), (1, (.const (.int .i64 14))), (2, (.const (.int .i64 0))), (3, (.const (.int .i64 0)))], 121, none⟩,
 ⟨some 16, .buildSlice 148 15 #[(0, (.tmp 1)), (1, (.tmp 2)), (2, (.tmp 3)), (3, (.tmp 4)), (4, (.tmp 5)), (5, (.tmp 6)), (6, (.tmp 7)), (7, (.tmp 8)), (8, (.tmp 9)), (9, (.tmp 10)), (10, (.tmp 11)), (11, (.tmp 12)), (12, (.tmp 13)), (13, (.tmp 14)), (14, (.tmp 15))], 148, none⟩,
 ⟨some 0, .assign (.tmp 16), 148, none⟩] [0])
 .ret))
set_option maxRecDepth 100000 in
theorem ent109 (w : World) (K : Value → World → Prop) (h : W Try.prog c109 [] w (finQ Try.prog [.tmp 0] K)) : Ret Try.prog 109 [] w K :=
  Ret_of_W (code := c109code) Try.func109 (by kernel_rfl) (by kernel_rfl) (of_decide_eq_true (by kernel_rfl)) h
@[go_sem] theorem go109 : goFunc Try.prog 109 = true := by kernel_rfl
noncomputable def c122code : Code := match Try.f122.body with | some c => c | none => .skip
noncomputable def c122S0 (_ : Unit) : Cmd := (.seq (.ops [
 ⟨some 2, .assign (.const (.int .i64 0)), 3, none⟩] [2])
 .ret)
noncomputable def c122 : Cmd := (.seq (.ops [
 ⟨some 2, .assign (.const (.int .i64 0)), 3, none⟩] [0])
 (.seq (.seq (.ops [
 ⟨some 3, .move (.tmp 0), 4, none⟩] [3])
 (.cond (.tmp 3)
  (.seq (.ops [
  ⟨some 2, .assign (.const (.int .i64 1)), 3, none⟩] [2])
  .ret)
  (.skip []))) (sg c122S0)))
set_option maxRecDepth 100000 in
theorem ent122 (a0 : Value) (w : World) (K : Value → World → Prop) (h : W Try.prog c122 [(0, a0)] w (finQ Try.prog [.tmp 2] K)) : Ret Try.prog 122 [a0] w K :=
  Ret_of_W (code := c122code) Try.func122 (by kernel_rfl) (by kernel_rfl) (of_decide_eq_true (by kernel_rfl)) h
@[go_sem] theorem go122 : goFunc Try.prog 122 = true := by kernel_rfl
end Go.Proofs.Ytbeoedgoikcbpaa

namespace Go.Proofs.Ytbeoedgoikcbpaa
set_option linter.unusedSimpArgs false
set_option linter.unusedVariables false
set_option maxRecDepth 100000
open Go Go.Ann Go.RowKit
def u8 (n : Nat) : UInt8 := UInt8.ofNat n
def varL (n : Nat) : List UInt8 := if h : n < 128 then [u8 n] else u8 (n % 128 + 128) :: varL (n / 128)
termination_by n
decreasing_by omega
theorem varL_lt {n : Nat} (h : n < 128) : varL n = [u8 n] := by rw [varL, dif_pos h]
theorem varL_ge {n : Nat} (h : ¬ n < 128) : varL n = u8 (n % 128 + 128) :: varL (n / 128) := by rw [varL, dif_neg h]
theorem varL_len {k : Nat} : ∀ {n : Nat}, n < 128 ^ (k + 1) → (varL n).length ≤ k + 1 := by
  induction k with
  | zero => intro n h; rw [varL_lt (by simpa using h)]; simp
  | succ k ih =>
    intro n h
    by_cases hn : n < 128
    · rw [varL_lt hn]; simp
    · rw [varL_ge hn, List.length_cons]
      have : n / 128 < 128 ^ (k + 1) := by
        rw [Nat.div_lt_iff_lt_mul (by decide)]
        rw [Nat.pow_succ] at h; omega
      have := ih this
      omega
theorem varL_10 {n : Nat} (h : n < 18446744073709551616) : (varL n).length ≤ 10 := varL_len (k := 9) (by omega)
def byteC (b : UInt8) : Value := .int .u8 b.toNat
theorem wrap_u8 (n : Nat) : IntKind.u8.wrap (n : Int) = ((u8 n).toNat : Int) := by
  rw [wrap_u8_mod]; unfold u8; simp
theorem or128 : ∀ x : Fin 256, bits BinOp.or IntKind.u8 (x.val : Int) 128 = ((x.val % 128 + 128 : Nat) : Int) := by decide +kernel
theorem or_u8 (m : Nat) : bits BinOp.or IntKind.u8 (IntKind.u8.wrap (m : Int)) 128 = ((u8 (m % 128 + 128)).toNat : Int) := by
  have h := or128 ⟨m % 256, by omega⟩
  have e : IntKind.u8.wrap (m : Int) = ((m % 256 : Nat) : Int) := by rw [wrap_u8_mod]; omega
  rw [e, h]
  unfold u8
  simp
  omega
theorem byte_one (b : UInt8) : ∀ u ∈ [byteC b], u.oneCell' = true := by intro u hu; rw [List.mem_singleton] at hu; subst hu; rfl
theorem var_ok (n : Nat) (w : World) (hn : n < 18446744073709551616) : Ret Try.prog 72 [.int .u64 n] w fun u w' => u = .string (ofL (varL n)) ∧ Gr w w' := by
  refine ent72 _ _ _ ?_
  simp (disch := first | omega | exact okFill_t rfl | exact okSize_t rfl | exact fun h => h | (simp only [World.size_alloc, World.size_drew, World.size_setCell, size_fill, bytesW]; omega)) only [go_sem, c72, c72S0, c72S1, c72L0, c72S2, c72S3]
  have s1 := (St.start (W0 := w)).nilRow 5 1
  refine W_loopU (fun x : Nat × List UInt8 × Value => [(0, .int .u64 x.1), (3, x.2.2)]) (fun x w' => St w w' (fun _ => False) [.row x.2.2 5 1 x.2.1.length (x.2.1.map byteC)] [] ∧ w.drawn ≤ w'.drawn ∧ varL n = x.2.1 ++ varL x.1 ∧ x.1 < 128 ^ (10 - x.2.1.length) ∧ x.2.1.length ≤ 9) (fun x => x.1) (n, [], .slice none 0 0) rfl ⟨s1, Nat.le_refl _, rfl, by simp; omega, by simp⟩ ?_
  rintro ⟨m, pre, v⟩ w1 ⟨s1, hd, hv, hm, hp⟩
  simp only at s1 hd hv hm hp
  obtain ⟨a, c, rfl, _⟩ := own_slice (s1.row 0 rfl)
  by_cases hlt : m < 128
  · have hlt' : ¬ (128 : Int) ≤ m := by omega
    simp (disch := first | omega | exact okFill_t rfl | exact okSize_t rfl | exact fun h => h | (simp only [World.size_alloc, World.size_drew, World.size_setCell, size_fill, bytesW]; omega)) only [go_sem, c72, c72S0, c72S1, c72L0, c72S2, c72S3, hlt']
    rw [wrap_u8]
    refine bsW_ones ty146mkI rfl rfl (by decide) (by decide) (byte_one _) ?_
    simp (disch := first | omega | exact okFill_t rfl | exact okSize_t rfl | exact fun h => h | (simp only [World.size_alloc, World.size_drew, World.size_setCell, size_fill, bytesW]; omega)) only [go_sem, c72, c72S0, c72S1, c72L0, c72S2, c72S3]
    have hx : Rd (w1.alloc (.cells #[byteC (u8 m)] 5)) 1 (.slice (some ⟨w1.heap.size, 0, none⟩) 1 1) 1 [byteC (u8 m)] := rd_new (n := 1) (cs := #[byteC (u8 m)]) rfl
    refine rawB_D ((s1.alloc' (.cells #[byteC (u8 m)] 5)).append 0 rfl ty146mkI rfl (by decide) hx (byte_one _) (by omega) (by omega) ?_)
    intro v6 w6 s6 c6 d6
    simp only [List.set_cons_zero] at s6
    obtain ⟨a6, c6', rfl, _⟩ := own_slice (s6.row 0 rfl)
    simp (disch := first | omega | exact okFill_t rfl | exact okSize_t rfl | exact fun h => h | (simp only [World.size_alloc, World.size_drew, World.size_setCell, size_fill, bytesW]; omega)) only [go_sem, c72, c72S0, c72S1, c72L0, c72S2, c72S3]
    obtain ⟨g, rfl⟩ : ∃ g, a6 = some ⟨g, 0, none⟩ := by
      obtain ⟨_, ⟨e, h0⟩ | ⟨g, cap, cur, e, _⟩⟩ := s6.row 0 rfl
      · cases h0
      · cases e; exact ⟨_, rfl⟩
    have hc := (s6.row 0 rfl).cells rfl
    refine ⟨varL n, by rw [hv, varL_lt hlt]; simp, fun j b hb => ?_, rfl, s6.bel, Nat.le_trans hd d6⟩
    rw [hv, varL_lt hlt] at hb
    refine hc j _ ?_
    have : pre.map byteC ++ [byteC (u8 m)] = (pre ++ [u8 m]).map byteC := by simp
    rw [this, List.getElem?_map, hb]
    rfl
  · have hlt' : (128 : Int) ≤ m := by omega
    simp (disch := first | omega | exact okFill_t rfl | exact okSize_t rfl | exact fun h => h | (simp only [World.size_alloc, World.size_drew, World.size_setCell, size_fill, bytesW]; omega)) only [go_sem, c72, c72S0, c72S1, c72L0, c72S2, c72S3, hlt']
    rw [or_u8]
    refine bsW_ones ty146mkI rfl rfl (by decide) (by decide) (byte_one _) ?_
    simp (disch := first | omega | exact okFill_t rfl | exact okSize_t rfl | exact fun h => h | (simp only [World.size_alloc, World.size_drew, World.size_setCell, size_fill, bytesW]; omega)) only [go_sem, c72, c72S0, c72S1, c72L0, c72S2, c72S3]
    have hx : Rd (w1.alloc (.cells #[byteC (u8 (m % 128 + 128))] 5)) 1 (.slice (some ⟨w1.heap.size, 0, none⟩) 1 1) 1 [byteC (u8 (m % 128 + 128))] := rd_new (n := 1) (cs := #[byteC (u8 (m % 128 + 128))]) rfl
    refine rawB_D ((s1.alloc' (.cells #[byteC (u8 (m % 128 + 128))] 5)).append 0 rfl ty146mkI rfl (by decide) hx (byte_one _) (by omega) (by omega) ?_)
    intro v6 w6 s6 c6 d6
    simp only [List.set_cons_zero] at s6
    simp (disch := first | omega | exact okFill_t rfl | exact okSize_t rfl | exact fun h => h | (simp only [World.size_alloc, World.size_drew, World.size_setCell, size_fill, bytesW]; omega)) only [go_sem, c72, c72S0, c72S1, c72L0, c72S2, c72S3]
    have e1 : (m : Int) / 2 ^ min 7 64 = ((m / 128 : Nat) : Int) := by
      rw [show (2 : Int) ^ min 7 64 = 128 by decide]; omega
    rw [e1]
    have e2 : pre.map byteC ++ [byteC (u8 (m % 128 + 128))] = (pre ++ [u8 (m % 128 + 128)]).map byteC := by simp
    rw [e2] at s6
    have hp2 : pre.length ≤ 8 := by
      rcases Nat.lt_or_ge 8 pre.length with h | h
      · have : pre.length = 9 := by omega
        rw [this] at hm
        omega
      · exact h
    refine ⟨(m / 128, pre ++ [u8 (m % 128 + 128)], v6), rfl, ⟨by rw [List.length_append]; exact s6, Nat.le_trans hd d6, by simp only; rw [hv, varL_ge hlt, List.append_assoc]; rfl, ?_, by simp; omega⟩, by simp only; omega⟩
    simp only [List.length_append, List.length_singleton]
    rw [Nat.div_lt_iff_lt_mul (by decide), ← Nat.pow_succ]
    rw [show (10 - (pre.length + 1)).succ = 10 - pre.length by omega]
    exact hm
def foldN (n : Int) : Nat := if 0 ≤ n then (2 * n).toNat else (-2 * n - 1).toNat
theorem xor_zero (x : Nat) (h : x < 18446744073709551616) : bits .xor .u64 (x : Int) 0 = x := by
  have e : (BitVec.ofInt 64 (x : Int) ^^^ BitVec.ofInt 64 0).toNat = x := by
    rw [BitVec.toNat_xor]
    have h2 : (BitVec.ofInt 64 (x : Int)).toNat = x := by
      rw [BitVec.ofInt_natCast, BitVec.toNat_ofNat]; exact Nat.mod_eq_of_lt (by omega)
    have h3 : (BitVec.ofInt 64 0).toNat = 0 := by decide
    rw [h2, h3, Nat.xor_zero]
  show IntKind.u64.wrap (((BitVec.ofInt 64 (x : Int) ^^^ BitVec.ofInt 64 0).toNat : Nat) : Int) = _
  rw [e, wrap_u64_id _ (by omega) (by omega)]
theorem xor_ones (x : Nat) (h : x < 18446744073709551616) : bits .xor .u64 (x : Int) 18446744073709551615 = ((18446744073709551615 - x : Nat) : Int) := by
  have e : (BitVec.ofInt 64 (x : Int) ^^^ BitVec.ofInt 64 18446744073709551615).toNat = 18446744073709551615 - x := by
    have h2 : (BitVec.ofInt 64 (x : Int)).toNat = x := by
      rw [BitVec.ofInt_natCast, BitVec.toNat_ofNat]; exact Nat.mod_eq_of_lt (by omega)
    have h3 : BitVec.ofInt 64 18446744073709551615 = BitVec.allOnes 64 := by decide
    rw [h3, BitVec.xor_allOnes, BitVec.toNat_not, h2]
  show IntKind.u64.wrap (((BitVec.ofInt 64 (x : Int) ^^^ BitVec.ofInt 64 18446744073709551615).toNat : Nat) : Int) = _
  rw [e, wrap_u64_id _ (by omega) (by omega)]
theorem wrap_u64 (n : Int) : IntKind.u64.wrap n = n % 18446744073709551616 := by
  simp [IntKind.wrap, IntKind.signed, IntKind.bits]
theorem foldN_lt (n : Int) (h : I64 n) : foldN n < 18446744073709551616 := by
  obtain ⟨h1, h2⟩ := h
  unfold foldN; split <;> omega
theorem fold_ok (n : Int) (w : World) (h : I64 n) : Ret Try.prog 73 [.int .i64 n] w fun u w' => u = .int .u64 (foldN n) ∧ w' = w := by
  obtain ⟨h1, h2⟩ := h
  refine ent73 _ _ _ ?_
  simp (disch := first | omega | exact okFill_t rfl | exact okSize_t rfl | exact fun h => h | (simp only [World.size_alloc, World.size_drew, World.size_setCell, size_fill, bytesW]; omega)) only [go_sem, c73]
  rw [show (2 : Int) ^ min 1 64 = 2 by decide, show (2 : Int) ^ min 63 64 = 9223372036854775808 by decide]
  unfold foldN
  by_cases hn : 0 ≤ n
  · rw [if_pos hn]
    obtain ⟨m, rfl⟩ := Int.eq_ofNat_of_zero_le hn
    have e1 : (m : Int) / 9223372036854775808 = 0 := by omega
    have e2 : IntKind.u64.wrap (IntKind.u64.wrap (m : Int) * 2) = ((2 * m : Nat) : Int) := by rw [wrap_u64, wrap_u64]; omega
    have e3 : IntKind.u64.wrap 0 = 0 := by decide
    rw [e1, e2, e3, xor_zero _ (by omega)]
    omega
  · rw [if_neg hn]
    obtain ⟨m, hm⟩ : ∃ m : Nat, n = -(m : Int) := ⟨(-n).toNat, by omega⟩
    subst hm
    have e1 : -(m : Int) / 9223372036854775808 = -1 := by omega
    have e2 : IntKind.u64.wrap (IntKind.u64.wrap (-(m : Int)) * 2) = ((18446744073709551616 - 2 * m : Nat) : Int) := by rw [wrap_u64, wrap_u64]; omega
    have e3 : IntKind.u64.wrap (-1) = 18446744073709551615 := by decide
    rw [e1, e2, e3, xor_ones _ (by omega)]
    omega
end Go.Proofs.Ytbeoedgoikcbpaa

namespace Go.Proofs.Ytbeoedgoikcbpaa
set_option linter.unusedSimpArgs false
set_option linter.unusedVariables false
set_option maxRecDepth 100000
open Go Go.Ann Go.RowKit
def intE (n : Int) : List Value := [.int .i64 n]
theorem intE_len (n : Int) : (intE n).length = 1 := rfl
theorem intE_one (n : Int) : ∀ u ∈ intE n, u.oneCell' = true := by intro u hu; simp only [intE, List.mem_singleton] at hu; subst hu; rfl
theorem RdS.int {w : World} {ad : Addr} {n cap : Nat} {l : List Int} (h : RdS w 1 intE (.slice (some ad) n cap) l) {k : Nat} (hk : k < l.length) : w.cell? (ad.add k) = some (.int .i64 l[k]) :=
  RdS.at1 (e1 := fun r => .int .i64 r) h hk
def txt (l : List Int) : List UInt8 := varL l.length ++ l.flatMap fun n => varL (foldN n)
def Ok64 (l : List Int) : Prop := ∀ n ∈ l, I64 n
theorem flat_len {l : List Int} (h : Ok64 l) : (l.flatMap fun n => varL (foldN n)).length ≤ 10 * l.length := by
  induction l with
  | nil => simp
  | cons n l ih =>
    have h1 := varL_10 (foldN_lt n (h n (List.mem_cons_self ..)))
    have h2 := ih fun m hm => h m (List.mem_cons_of_mem _ hm)
    rw [List.flatMap_cons, List.length_append, List.length_cons]; omega
theorem text_ok (v : Value) (l : List Int) (w : World) (h : RdS w 1 intE v l) (h64 : Ok64 l) (hl : l.length ≤ 1000000) : Ret Try.prog 43 [v] w fun u w' => u = .string (ofL (txt l)) ∧ Gr w w' := by
  obtain ⟨a, c, rfl, _⟩ := h.form
  refine ent43 _ _ _ ?_
  simp (disch := first | omega | exact okFill_t rfl | exact okSize_t rfl | exact fun h => h | (simp only [World.size_alloc, World.size_drew, World.size_setCell, size_fill, bytesW]; omega)) only [go_sem, c43, c43S0, c43S1, c43L0, c43S2, c43S3]
  have e0 : IntKind.u64.wrap (l.length : Int) = ((l.length : Nat) : Int) := by rw [wrap_u64]; omega
  rw [e0]
  refine Ret.mono (var_ok l.length w (by omega)) ?_
  rintro _ w1 ⟨rfl, g1⟩
  simp (disch := first | omega | exact okFill_t rfl | exact okSize_t rfl | exact fun h => h | (simp only [World.size_alloc, World.size_drew, World.size_setCell, size_fill, bytesW]; omega)) only [go_sem, c43, c43S0, c43S1, c43L0, c43S2, c43S3]
  have h10 := varL_10 (show l.length < 18446744073709551616 by omega)
  refine W_loopU (fun k : Nat => [(3, .string (ofL (varL l.length ++ (l.take k).flatMap fun n => varL (foldN n)))), (12, .int .i64 k)]) (fun k w' => Gr w w' ∧ k ≤ l.length) (fun k => l.length - k) 0 (by simp [ovr, lk]) ⟨g1, Nat.zero_le _⟩ ?_
  rintro k w2 ⟨g2, hk⟩
  by_cases hlt : k < l.length
  · have hlt' : (k : Int) < l.length := by omega
    obtain ⟨p, rfl⟩ := h.ptr (by omega)
    have ek := RdS.int (h.below g2.below (by decide)) hlt
    have hk64 : I64 l[k] := h64 _ (List.getElem_mem hlt)
    simp (disch := first | omega | exact okFill_t rfl | exact okSize_t rfl | exact fun h => h | (simp only [World.size_alloc, World.size_drew, World.size_setCell, size_fill, bytesW]; omega)) only [go_sem, c43, c43S0, c43S1, c43L0, c43S2, c43S3, hlt', ek]
    refine ⟨by omega, Ret.mono (fold_ok l[k] w2 hk64) ?_⟩
    rintro _ w3 ⟨rfl, rfl⟩
    simp (disch := first | omega | exact okFill_t rfl | exact okSize_t rfl | exact fun h => h | (simp only [World.size_alloc, World.size_drew, World.size_setCell, size_fill, bytesW]; omega)) only [go_sem, c43, c43S0, c43S1, c43L0, c43S2, c43S3]
    refine Ret.mono (var_ok (foldN l[k]) w3 (foldN_lt _ hk64)) ?_
    rintro _ w4 ⟨rfl, g4⟩
    simp (disch := first | omega | exact okFill_t rfl | exact okSize_t rfl | exact fun h => h | (simp only [World.size_alloc, World.size_drew, World.size_setCell, size_fill, bytesW]; omega)) only [go_sem, c43, c43S0, c43S1, c43L0, c43S2, c43S3]
    have hb := flat_len (l := l.take k) fun n hn => h64 n (List.mem_of_mem_take hn)
    have hv := varL_10 (foldN_lt _ hk64)
    rw [List.length_take] at hb
    refine ⟨?_, ⟨by omega, by omega⟩, k + 1, ?_, ⟨g2.trans g4, by omega⟩, by omega⟩
    · simp only [List.length_append]; omega
    · rw [List.take_succ_eq_append_getElem hlt, List.flatMap_append, List.append_assoc]; simp
  · have hlt' : ¬ (k : Int) < l.length := by omega
    simp (disch := first | omega | exact okFill_t rfl | exact okSize_t rfl | exact fun h => h | (simp only [World.size_alloc, World.size_drew, World.size_setCell, size_fill, bytesW]; omega)) only [go_sem, c43, c43S0, c43S1, c43L0, c43S2, c43S3, hlt']
    rw [List.take_of_length_le (by omega)]
    exact ⟨rfl, g2⟩
end Go.Proofs.Ytbeoedgoikcbpaa

namespace Go.Proofs.Ytbeoedgoikcbpaa
set_option linter.unusedSimpArgs false
set_option linter.unusedVariables false
set_option maxRecDepth 100000
open Go Go.Ann Go.RowKit
theorem varL_cut {n m : Nat} {a b : List UInt8} (hn : n < 18446744073709551616) (hm : m < 18446744073709551616) (h : varL n ++ a = varL m ++ b) : n = m ∧ a = b := by
  have key : ∀ k n m : Nat, n < k → varL n ++ a = varL m ++ b → n = m ∧ a = b := by
    intro k
    induction k with
    | zero => intro n m h; omega
    | succ k ih =>
      intro n m hk h
      by_cases h1 : n < 128 <;> by_cases h2 : m < 128
      · rw [varL_lt h1, varL_lt h2] at h
        simp only [List.cons_append, List.nil_append, List.cons.injEq] at h
        have := congrArg UInt8.toNat h.1
        simp [u8] at this
        exact ⟨by omega, h.2⟩
      · rw [varL_lt h1, varL_ge h2] at h
        simp only [List.cons_append, List.nil_append, List.cons.injEq] at h
        have := congrArg UInt8.toNat h.1
        simp [u8] at this
        omega
      · rw [varL_ge h1, varL_lt h2] at h
        simp only [List.cons_append, List.nil_append, List.cons.injEq] at h
        have := congrArg UInt8.toNat h.1
        simp [u8] at this
        omega
      · rw [varL_ge h1, varL_ge h2] at h
        simp only [List.cons_append, List.cons.injEq] at h
        obtain ⟨e, r⟩ := ih _ _ (by omega) h.2
        have := congrArg UInt8.toNat h.1
        simp [u8] at this
        exact ⟨by omega, r⟩
  exact key (n + 1) n m (by omega) h
theorem foldN_inj {a b : Int} (h : foldN a = foldN b) : a = b := by
  unfold foldN at h; split at h <;> split at h <;> omega
theorem txt_inj {l m : List Int} (hl : Ok64 l) (hm : Ok64 m) (h1 : l.length < 18446744073709551616) (h2 : m.length < 18446744073709551616) (h : txt l = txt m) : l = m := by
  obtain ⟨hlen, k⟩ := varL_cut h1 h2 h
  clear h h1 h2
  induction l generalizing m with
  | nil => simp at hlen; exact (List.eq_nil_of_length_eq_zero hlen.symm).symm
  | cons a l ih =>
    cases m with
    | nil => simp at hlen
    | cons b m =>
      rw [List.flatMap_cons, List.flatMap_cons] at k
      obtain ⟨e, r⟩ := varL_cut (foldN_lt _ (hl a (by simp))) (foldN_lt _ (hm b (by simp))) k
      have hl' : Ok64 l := fun n hn => hl n (List.mem_cons_of_mem _ hn)
      have hm' : Ok64 m := fun n hn => hm n (List.mem_cons_of_mem _ hn)
      rw [foldN_inj e, ih hl' hm' (by simpa using hlen) r]
def OkS (s : List Int) : Prop := Ok64 s ∧ s.length ≤ 1000000
theorem OkS.inj {a b : List Int} (ha : OkS a) (hb : OkS b) (h : txt a = txt b) : a = b := by
  have := ha.2; have := hb.2
  exact txt_inj ha.1 hb.1 (by omega) (by omega) h
def ltS (a b : List Int) : Bool := Op.bytesLess (txt a) (txt b)
def Uniq (l u : List (List Int)) : Prop := u.Pairwise (fun a b => ltS a b = true) ∧ ∀ x, x ∈ u ↔ x ∈ l
end Go.Proofs.Ytbeoedgoikcbpaa

namespace Go.Proofs.Ytbeoedgoikcbpaa
set_option linter.unusedSimpArgs false
set_option linter.unusedVariables false
set_option maxRecDepth 100000
open Go Go.Ann Go.RowKit
theorem ints_one (l : List Int) : ∀ u ∈ l.flatMap intE, u.oneCell' = true := by intro u hu; obtain ⟨a, _, h⟩ := List.mem_flatMap.1 hu; exact intE_one a u h
theorem iclone_ok (v : Value) (l : List Int) (w : World) (h : RdS w 1 intE v l) (hl : l.length ≤ 1000000) :
    Ret Try.prog 39 [v] w fun u w' => w'.ownsRow w.heap.size 3 1 u l.length (l.flatMap intE) ∧ Below w.heap.size w w' := by
  obtain ⟨a, c, rfl, _⟩ := h.form
  refine ent39 _ _ _ ?_
  simp (disch := first | omega | exact okFill_t rfl | exact okSize_t rfl | exact fun h => h | (simp only [World.size_alloc, World.size_drew, World.size_setCell, size_fill, bytesW]; omega)) only [go_sem, c39, c39S0, c39S1]
  have hSt := (St.start (W0 := w)).emptyRow 3 1
  refine ⟨fun ha => ?_, fun ha => bsW_none ty36mkI ?_⟩
  · cases a with
    | some a => cases ha
    | none =>
      have h0 : l = [] := by
        cases l with
        | nil => rfl
        | cons x l => obtain ⟨p, hp⟩ := h.ptr (by simp); cases hp
      subst h0
      exact ⟨⟨rfl, .inl ⟨rfl, rfl⟩⟩, Below.refl _ _⟩
  simp (disch := first | omega | exact okFill_t rfl | exact okSize_t rfl | exact fun h => h | (simp only [World.size_alloc, World.size_drew, World.size_setCell, size_fill, bytesW]; omega)) only [go_sem, c39, c39S0, c39S1]
  refine hSt.append 0 rfl ty36mkI rfl (by decide) (h.below hSt.bel (by decide)) (ints_one l) (by omega) (by omega) ?_
  intro v2 w2 s2 _
  have e2 := s2.row 0 rfl
  rw [Nat.zero_add, List.nil_append] at e2
  simp (disch := first | omega | exact okFill_t rfl | exact okSize_t rfl | exact fun h => h | (simp only [World.size_alloc, World.size_drew, World.size_setCell, size_fill, bytesW]; omega)) only [go_sem, c39, c39S0, c39S1]
  exact ⟨e2, s2.bel⟩
end Go.Proofs.Ytbeoedgoikcbpaa

namespace Go.Proofs.Ytbeoedgoikcbpaa
set_option linter.unusedSimpArgs false
set_option linter.unusedVariables false
set_option maxRecDepth 100000
open Go Go.Ann Go.RowKit
abbrev VS := Value × List Int
end Go.Proofs.Ytbeoedgoikcbpaa

namespace Go.Proofs.Ytbeoedgoikcbpaa
open Go Go.Proofs Go.Shelf
set_option linter.unusedVariables false
def layIns_ren : Go.Shelf.Ren := ⟨fun | 21 => 123 | 27 => 135 | 28 => 136 | 35 => 139 | 39 => 140 | n => n, fun | 22 => 36 | 3 => 3 | 4 => 4 | 0 => 0 | n => n, fun | n => n⟩
theorem layIns : Go.Proofs.Lays2.n21 Try.prog layIns_ren := {
    mixed := by kernel_rfl,
    f21 := Try.func123.trans (congrArg some (by kernel_rfl)),
    f27 := Try.func135.trans (congrArg some (by kernel_rfl)),
    f28 := Try.func136.trans (congrArg some (by kernel_rfl)),
    f35 := Try.func139.trans (congrArg some (by kernel_rfl)),
    f39 := Try.func140.trans (congrArg some (by kernel_rfl)),
    t0 := Try.underlying0,
    a0 := Try.isAgg0,
    z0 := Try.sizeOf0,
    v0 := Try.zeroValue0,
    t3 := Try.underlying3,
    a3 := Try.isAgg3,
    z3 := Try.sizeOf3,
    v3 := Try.zeroValue3,
    t4 := Try.underlying4,
    a4 := Try.isAgg4,
    z4 := Try.sizeOf4,
    v4 := Try.zeroValue4,
    t22 := Try.underlying36,
    a22 := Try.isAgg36,
    z22 := Try.sizeOf36,
    v22 := Try.zeroValue36,
    i3 := by kernel_rfl }
def layDel_ren : Go.Shelf.Ren := ⟨fun | 23 => 124 | n => n, fun | 22 => 36 | 3 => 3 | 4 => 4 | 0 => 0 | n => n, fun | n => n⟩
theorem layDel : Go.Proofs.Lays2.n23 Try.prog layDel_ren := {
    mixed := by kernel_rfl,
    f23 := Try.func124.trans (congrArg some (by kernel_rfl)),
    t0 := Try.underlying0,
    a0 := Try.isAgg0,
    z0 := Try.sizeOf0,
    v0 := Try.zeroValue0,
    t3 := Try.underlying3,
    a3 := Try.isAgg3,
    z3 := Try.sizeOf3,
    v3 := Try.zeroValue3,
    t4 := Try.underlying4,
    a4 := Try.isAgg4,
    z4 := Try.sizeOf4,
    v4 := Try.zeroValue4,
    t22 := Try.underlying36,
    a22 := Try.isAgg36,
    z22 := Try.sizeOf36,
    v22 := Try.zeroValue36,
    i3 := by kernel_rfl }
def layBin_ren : Go.Shelf.Ren := ⟨fun | 25 => 121 | 31 => 133 | 32 => 134 | 37 => 89 | n => n, fun | 22 => 36 | 3 => 3 | 4 => 4 | 40 => 76 | 0 => 0 | n => n, fun | n => n⟩
theorem layBin : Go.Proofs.Lays2.n25 Try.prog layBin_ren := {
    mixed := by kernel_rfl,
    f25 := Try.func121.trans (congrArg some (by kernel_rfl)),
    f31 := Try.func133.trans (congrArg some (by kernel_rfl)),
    f32 := Try.func134.trans (congrArg some (by kernel_rfl)),
    f37 := Try.func89.trans (congrArg some (by kernel_rfl)),
    t0 := Try.underlying0,
    a0 := Try.isAgg0,
    z0 := Try.sizeOf0,
    v0 := Try.zeroValue0,
    t3 := Try.underlying3,
    a3 := Try.isAgg3,
    z3 := Try.sizeOf3,
    v3 := Try.zeroValue3,
    t4 := Try.underlying4,
    a4 := Try.isAgg4,
    z4 := Try.sizeOf4,
    v4 := Try.zeroValue4,
    t22 := Try.underlying36,
    a22 := Try.isAgg36,
    z22 := Try.sizeOf36,
    v22 := Try.zeroValue36,
    t40 := Try.underlying76,
    a40 := Try.isAgg76,
    z40 := Try.sizeOf76,
    v40 := Try.zeroValue76 }
end Go.Proofs.Ytbeoedgoikcbpaa

namespace Go.Proofs.Ytbeoedgoikcbpaa
set_option linter.unusedSimpArgs false
set_option linter.unusedVariables false
set_option maxRecDepth 100000
open Go Go.Ann Go.RowKit Go.Shelf Go.Sort
abbrev SV (w : World) (g : Nat) : Type := { p : VS // RdS w 1 intE p.1 p.2 ∧ OkS p.2 ∧ p.1.ownBlock ≠ some g }
instance (w : World) (g : Nat) : Inhabited (SV w g) := ⟨⟨(.slice none 0 0, []), RdS.nil, ⟨(fun n h => nomatch h), Nat.zero_le _⟩, (fun e => nomatch e)⟩⟩
def SV.enc {w : World} {g : Nat} (x : SV w g) : Value := x.1.1
theorem SV.one {w : World} {g : Nat} : OneCell (SV.enc (w := w) (g := g)) := by
  intro x
  obtain ⟨a, c, e, _⟩ := x.2.1.form
  unfold SV.enc
  rw [e]; rfl
theorem sorted_blk {α : Type} [Inhabited α] {enc : α → Value} {w : World} {g m : Nat} {ty : TypeId} {d d' : Array α} {rest : List Value} (hB : Blk w g (d.toList.map enc ++ rest).toArray ty) (hd : d'.size = d.size) (os : Array Obj) :
    Blk (sortWorld enc w g 0 m d' os) g (d'.toList.map enc ++ rest).toArray ty ∧ Chg (fun k => k = g) w (sortWorld enc w g 0 m d' os) := by
  have hg : g < w.heap.size := hB.lt
  have hh : (sortWorld enc w g 0 m d' os).heap = w.heap.modify g (onCells (putCells enc 0 d')) ++ os := rfl
  have hc : putCells enc 0 d' (d.toList.map enc ++ rest).toArray = (d'.toList.map enc ++ rest).toArray := by
    refine Array.ext_getElem? fun i => ?_
    unfold putCells
    rw [Array.getElem?_mapIdx, List.getElem?_toArray, List.getElem?_toArray]
    rcases Nat.lt_or_ge i d'.size with hi | hi
    · rw [List.getElem?_append_left (by simp; omega), List.getElem?_append_left (by simpa using hi)]
      simp only [List.getElem?_map, Array.getElem?_toList, Array.getElem?_eq_getElem (show i < d.size by omega), Array.getElem?_eq_getElem hi, Option.map_some, Nat.zero_le, Nat.zero_add, true_and, if_pos hi, Nat.sub_zero]
      rw [getElem!_pos d' i hi]
    · rw [List.getElem?_append_right (by simp; omega), List.getElem?_append_right (by simpa using hi)]
      simp only [List.length_map, Array.length_toList, hd]
      cases rest[i - d.size]? with
      | none => rfl
      | some u => simp; omega
  refine ⟨?_, rfl, rfl, rfl, ?_, fun j hj hne => ?_⟩
  · show (sortWorld enc w g 0 m d' os).heap[g]? = _
    rw [hh, Array.getElem?_append_left (by rw [Array.size_modify]; exact hg), Array.getElem?_modify, if_pos rfl, hB, Option.map_some]
    simp only [onCells, hc]
  · rw [hh, Array.size_append, Array.size_modify]; omega
  · rw [hh, Array.getElem?_append_left (by rw [Array.size_modify]; exact hj), Array.getElem?_modify, if_neg (fun e => hne e.symm)]
end Go.Proofs.Ytbeoedgoikcbpaa

namespace Go.Proofs.Ytbeoedgoikcbpaa
set_option linter.unusedSimpArgs false
set_option linter.unusedVariables false
set_option maxRecDepth 100000
open Go Go.Ann Go.RowKit
structure RowS (w : World) (v : Value) (D : List VS) : Prop where
  row : Rd w 1 v D.length (D.map Prod.fst)
  rd : ∀ p ∈ D, RdS w 1 intE p.1 p.2
theorem RowS.form {w : World} {v : Value} {D : List VS} (h : RowS w v D) : ∃ a c, v = .slice a D.length c ∧ D.length ≤ c := by
  obtain ⟨_, a, c, e, hc, _⟩ := h.row
  exact ⟨a, c, e, hc⟩
end Go.Proofs.Ytbeoedgoikcbpaa

namespace Go.Proofs.Ytbeoedgoikcbpaa
set_option linter.unusedSimpArgs false
set_option linter.unusedVariables false
set_option maxRecDepth 100000
open Go Go.Ann Go.RowKit
theorem offA_zero {a : Option Addr} {c sz : Nat} : offA a c 0 sz = a := by
  unfold offA
  rw [Nat.zero_mul]
  split
  · rfl
  · cases a with
    | none => rfl
    | some a => exact congrArg some (by unfold Addr.add; rfl)
theorem rd_take {w : World} {sz n k cap : Nat} {a : Option Addr} {xs : List Value} (h : Rd w sz (.slice a n cap) n xs) (hk : k ≤ n) : Rd w sz (.slice (offA a cap 0 sz) k cap) k (xs.take (k * sz)) := by
  rw [offA_zero]; exact h.take hk
theorem rd_drop {w : World} {sz n k cap : Nat} {a : Option Addr} {xs : List Value} (h : Rd w sz (.slice a n cap) n xs) (hk : k ≤ n) : Rd w sz (.slice (offA a cap k sz) (n - k) (cap - k)) (n - k) (xs.drop (k * sz)) := by
  obtain ⟨h1, a', cap', he, h2, h3⟩ := h
  simp only [Value.slice.injEq, true_and] at he
  obtain ⟨rfl, rfl⟩ := he
  refine ⟨by rw [List.length_drop, h1, Nat.sub_mul], _, _, rfl, by omega, fun h => ?_⟩
  obtain ⟨ad, rfl, h4⟩ := h3 (by omega)
  refine ⟨ad.add (k * sz), by unfold offA; rw [if_neg (by omega)]; rfl, fun j u hu => ?_⟩
  rw [add_add]
  rw [List.getElem?_drop] at hu
  exact h4 _ u hu
end Go.Proofs.Ytbeoedgoikcbpaa

namespace Go.Proofs.Ytbeoedgoikcbpaa
set_option linter.unusedSimpArgs false
set_option linter.unusedVariables false
set_option maxRecDepth 100000
open Go Go.Ann Go.RowKit
theorem ints_ok (va vb : Value) (a b : List Int) (w : World) (ha : RdS w 1 intE va a) (hb : RdS w 1 intE vb b) (hl : a.length ≤ 1000000) :
    Ret Try.prog 29 [va, vb] w fun u w' => u = .bool (decide (a = b)) ∧ Below w.heap.size w w' := by
  obtain ⟨pa, ca, rfl, _⟩ := ha.form
  obtain ⟨pb, cb, rfl, _⟩ := hb.form
  refine ent29 _ _ _ _ ?_
  simp (disch := first | omega | exact okFill_t rfl | exact okSize_t rfl | exact fun h => h | (simp only [World.size_alloc, World.size_drew, World.size_setCell, size_fill, bytesW]; omega)) only [go_sem, c29, c29S0, c29S1, c29S2, c29L0, c29S3, c29S4]
  refine ⟨fun hne => ⟨?_, Below.refl _ _⟩, fun heq => ?_⟩
  · rw [decide_eq_false (fun e => hne (by rw [e]))]
  have hlen : a.length = b.length := by omega
  refine W_loopU (fun k : Nat => [(5, .int .i64 k)]) (fun k w' => Below w.heap.size w w' ∧ k ≤ a.length ∧ a.take k = b.take k) (fun k => a.length - k) 0 rfl ⟨Below.refl _ _, Nat.zero_le _, rfl⟩ ?_
  rintro k w2 ⟨g2, hk, he⟩
  by_cases hlt : k < a.length
  · have hlt' : (k : Int) < a.length := by omega
    obtain ⟨p, rfl⟩ := ha.ptr (by omega)
    obtain ⟨q, rfl⟩ := hb.ptr (by omega)
    have ea := RdS.int (ha.below g2 (by decide)) hlt
    have eb := RdS.int (hb.below g2 (by decide)) (show k < b.length by omega)
    simp (disch := first | omega | exact okFill_t rfl | exact okSize_t rfl | exact fun h => h | (simp only [World.size_alloc, World.size_drew, World.size_setCell, size_fill, bytesW]; omega)) only [go_sem, c29, c29S0, c29S1, c29S2, c29L0, c29S3, c29S4, hlt']
    refine c29draw0 ?_
    simp (disch := first | omega | exact okFill_t rfl | exact okSize_t rfl | exact fun h => h | (simp only [World.size_alloc, World.size_drew, World.size_setCell, size_fill, bytesW]; omega)) only [go_sem, c29, c29S0, c29S1, c29S2, c29L0, c29S3, c29S4, c29D0, ea, eb]
    have gd : Below w.heap.size w w2.drew := Below.next g2 (Below.refl _ w2).drew
    have hkb : k < b.length := by omega
    refine ⟨⟨by omega, by omega⟩, ⟨by omega, by omega⟩, fun e => ⟨?_, gd⟩, fun e => ⟨⟨by omega, by omega⟩, k + 1, rfl, ⟨gd, by omega, ?_⟩, by omega⟩⟩
    · rw [decide_eq_false (fun h => e (by subst h; rfl))]
    · rw [List.take_succ_eq_append_getElem hlt, List.take_succ_eq_append_getElem hkb, he, e]
  · have hlt' : ¬ (k : Int) < a.length := by omega
    simp (disch := first | omega | exact okFill_t rfl | exact okSize_t rfl | exact fun h => h | (simp only [World.size_alloc, World.size_drew, World.size_setCell, size_fill, bytesW]; omega)) only [go_sem, c29, c29S0, c29S1, c29S2, c29L0, c29S3, c29S4, hlt']
    rw [List.take_of_length_le (by omega), List.take_of_length_le (by omega)] at he
    exact ⟨by rw [decide_eq_true he], g2⟩
end Go.Proofs.Ytbeoedgoikcbpaa

namespace Go.Proofs.Ytbeoedgoikcbpaa
set_option linter.unusedSimpArgs false
set_option linter.unusedVariables false
set_option maxRecDepth 100000
open Go Go.Ann Go.RowKit
structure OpT where
  ID : Int
  Proc : Int
  Object : Int
  Kind : Int
  Method : Int
  Arg : Int
  Second : Int
  Done : Bool
  Result : Int
  Invoke : Int
  Return : Int
def OpT.enc (a : OpT) : List Value := [.int .i64 a.ID, .int .i64 a.Proc, .int .i64 a.Object, .int .i64 a.Kind, .int .i64 a.Method, .int .i64 a.Arg, .int .i64 a.Second, .bool a.Done, .int .i64 a.Result, .int .i64 a.Invoke, .int .i64 a.Return]
def OpT.wf (a : OpT) : Prop := kOk .i64 a.ID ∧ kOk .i64 a.Proc ∧ kOk .i64 a.Object ∧ kOk .i64 a.Kind ∧ kOk .i64 a.Method ∧ kOk .i64 a.Arg ∧ kOk .i64 a.Second ∧ kOk .i64 a.Result ∧ kOk .i64 a.Invoke ∧ kOk .i64 a.Return
theorem OpT.len (a : OpT) : a.enc.length = 11 := rfl
theorem OpT.one (a : OpT) : ∀ u ∈ a.enc, u.oneCell' = true := by intro u hu; simp only [OpT.enc, List.mem_cons, List.not_mem_nil, or_false] at hu; rcases hu with rfl | rfl | rfl | rfl | rfl | rfl | rfl | rfl | rfl | rfl | rfl <;> rfl
theorem OpT.ones (l : List OpT) : ∀ u ∈ l.flatMap OpT.enc, u.oneCell' = true := by intro u hu; obtain ⟨a, _, h⟩ := List.mem_flatMap.1 hu; exact a.one u h
theorem OpT.at (a : OpT) : a.enc[0]? = some (.int .i64 a.ID) ∧ a.enc[1]? = some (.int .i64 a.Proc) ∧ a.enc[2]? = some (.int .i64 a.Object) ∧ a.enc[3]? = some (.int .i64 a.Kind) ∧ a.enc[4]? = some (.int .i64 a.Method) ∧ a.enc[5]? = some (.int .i64 a.Arg) ∧ a.enc[6]? = some (.int .i64 a.Second) ∧ a.enc[7]? = some (.bool a.Done) ∧ a.enc[8]? = some (.int .i64 a.Result) ∧ a.enc[9]? = some (.int .i64 a.Invoke) ∧ a.enc[10]? = some (.int .i64 a.Return) := ⟨rfl, rfl, rfl, rfl, rfl, rfl, rfl, rfl, rfl, rfl, rfl⟩
set_option maxRecDepth 100000 in
theorem opens_OpT : Opens Try.prog 58 (fun _ (a : OpT) cs => cs = a.enc ∧ a.wf) := by
  intro H enc w base sp hd fuel cs x hx
  obtain ⟨hl, hf⟩ := opens_fields Try.underlying58 hx
  rw [show Try.prog.cellsOf 58 = 11 by kernel_rfl] at hl
  have c_0 : Try.prog.cellsOf 4 = 1 := by kernel_rfl
  have c_1 : Try.prog.cellsOf 3 = 1 := by kernel_rfl
  match cs, hl with
  | [v0, v1, v2, v3, v4, v5, v6, v7, v8, v9, v10], _ =>
    obtain ⟨n0, y0, g0⟩ := hf 0 _ rfl
    have h0 : DataW.trod enc Try.prog w base sp hd n0 3 (List.take (Try.prog.cellsOf 3) [v0, v1, v2, v3, v4, v5, v6, v7, v8, v9, v10]) = some y0 := g0
    rw [c_1] at h0
    obtain ⟨a0, e0⟩ := opens_int Try.underlying3 enc w base sp hd n0 [v0] y0 h0
    have r0 : v0 = _ := (List.cons.inj e0.1).1
    obtain ⟨n1, y1, g1⟩ := hf 1 _ rfl
    have h1 : DataW.trod enc Try.prog w base sp hd n1 3 (List.take (Try.prog.cellsOf 3) [v1, v2, v3, v4, v5, v6, v7, v8, v9, v10]) = some y1 := g1
    rw [c_1] at h1
    obtain ⟨a1, e1⟩ := opens_int Try.underlying3 enc w base sp hd n1 [v1] y1 h1
    have r1 : v1 = _ := (List.cons.inj e1.1).1
    obtain ⟨n2, y2, g2⟩ := hf 2 _ rfl
    have h2 : DataW.trod enc Try.prog w base sp hd n2 3 (List.take (Try.prog.cellsOf 3) [v2, v3, v4, v5, v6, v7, v8, v9, v10]) = some y2 := g2
    rw [c_1] at h2
    obtain ⟨a2, e2⟩ := opens_int Try.underlying3 enc w base sp hd n2 [v2] y2 h2
    have r2 : v2 = _ := (List.cons.inj e2.1).1
    obtain ⟨n3, y3, g3⟩ := hf 3 _ rfl
    have h3 : DataW.trod enc Try.prog w base sp hd n3 3 (List.take (Try.prog.cellsOf 3) [v3, v4, v5, v6, v7, v8, v9, v10]) = some y3 := g3
    rw [c_1] at h3
    obtain ⟨a3, e3⟩ := opens_int Try.underlying3 enc w base sp hd n3 [v3] y3 h3
    have r3 : v3 = _ := (List.cons.inj e3.1).1
    obtain ⟨n4, y4, g4⟩ := hf 4 _ rfl
    have h4 : DataW.trod enc Try.prog w base sp hd n4 3 (List.take (Try.prog.cellsOf 3) [v4, v5, v6, v7, v8, v9, v10]) = some y4 := g4
    rw [c_1] at h4
    obtain ⟨a4, e4⟩ := opens_int Try.underlying3 enc w base sp hd n4 [v4] y4 h4
    have r4 : v4 = _ := (List.cons.inj e4.1).1
    obtain ⟨n5, y5, g5⟩ := hf 5 _ rfl
    have h5 : DataW.trod enc Try.prog w base sp hd n5 3 (List.take (Try.prog.cellsOf 3) [v5, v6, v7, v8, v9, v10]) = some y5 := g5
    rw [c_1] at h5
    obtain ⟨a5, e5⟩ := opens_int Try.underlying3 enc w base sp hd n5 [v5] y5 h5
    have r5 : v5 = _ := (List.cons.inj e5.1).1
    obtain ⟨n6, y6, g6⟩ := hf 6 _ rfl
    have h6 : DataW.trod enc Try.prog w base sp hd n6 3 (List.take (Try.prog.cellsOf 3) [v6, v7, v8, v9, v10]) = some y6 := g6
    rw [c_1] at h6
    obtain ⟨a6, e6⟩ := opens_int Try.underlying3 enc w base sp hd n6 [v6] y6 h6
    have r6 : v6 = _ := (List.cons.inj e6.1).1
    obtain ⟨n7, y7, g7⟩ := hf 7 _ rfl
    have h7 : DataW.trod enc Try.prog w base sp hd n7 4 (List.take (Try.prog.cellsOf 4) [v7, v8, v9, v10]) = some y7 := g7
    rw [c_0] at h7
    obtain ⟨a7, e7⟩ := opens_bool Try.underlying4 enc w base sp hd n7 [v7] y7 h7
    have r7 : v7 = _ := (List.cons.inj e7).1
    obtain ⟨n8, y8, g8⟩ := hf 8 _ rfl
    have h8 : DataW.trod enc Try.prog w base sp hd n8 3 (List.take (Try.prog.cellsOf 3) [v8, v9, v10]) = some y8 := g8
    rw [c_1] at h8
    obtain ⟨a8, e8⟩ := opens_int Try.underlying3 enc w base sp hd n8 [v8] y8 h8
    have r8 : v8 = _ := (List.cons.inj e8.1).1
    obtain ⟨n9, y9, g9⟩ := hf 9 _ rfl
    have h9 : DataW.trod enc Try.prog w base sp hd n9 3 (List.take (Try.prog.cellsOf 3) [v9, v10]) = some y9 := g9
    rw [c_1] at h9
    obtain ⟨a9, e9⟩ := opens_int Try.underlying3 enc w base sp hd n9 [v9] y9 h9
    have r9 : v9 = _ := (List.cons.inj e9.1).1
    obtain ⟨n10, y10, g10⟩ := hf 10 _ rfl
    have h10 : DataW.trod enc Try.prog w base sp hd n10 3 (List.take (Try.prog.cellsOf 3) [v10]) = some y10 := g10
    rw [c_1] at h10
    obtain ⟨a10, e10⟩ := opens_int Try.underlying3 enc w base sp hd n10 [v10] y10 h10
    have r10 : v10 = _ := (List.cons.inj e10.1).1
    exact ⟨⟨a0, a1, a2, a3, a4, a5, a6, a7, a8, a9, a10⟩, by rw [r0, r1, r2, r3, r4, r5, r6, r7, r8, r9, r10]; rfl, e0.2, e1.2, e2.2, e3.2, e4.2, e5.2, e6.2, e8.2, e9.2, e10.2⟩
end Go.Proofs.Ytbeoedgoikcbpaa

namespace Go.Proofs.Ytbeoedgoikcbpaa
set_option linter.unusedSimpArgs false
set_option linter.unusedVariables false
set_option maxRecDepth 100000
open Go Go.Ann Go.RowKit
def numP (x : Int) (o : OpT) : Option (List Int × Int) :=
  if o.Method = 1 then some ([x], x)
  else if o.Kind = 1 ∧ o.Method = 2 then some ([o.Arg], 0)
  else if o.Kind = 1 ∧ o.Method = 3 then (if x = o.Arg then some ([o.Second], 1) else some ([x], 0))
  else if o.Kind = 2 ∧ o.Method = 4 then some ([IntKind.i64.wrap (x + 1)], 0)
  else if o.Kind = 2 ∧ o.Method = 5 then some ([IntKind.i64.wrap (x - 1)], 0)
  else none
def StepR (w w' : World) (v : Value) (r : Option (List Int × Int)) (t : Value) : Prop :=
  ∃ u a ok, t = .tuple #[u, .int .i64 a, .bool ok] ∧ match r with
    | none => ok = false
    | some (s, n) => ok = true ∧ a = n ∧ RdS w' 1 intE u s ∧ ∀ k, slFoot u k → v.ownBlock = some k ∨ w.heap.size ≤ k
theorem int_new {w : World} {b : Nat} (x : Int) (hb : b = w.heap.size) : RdS (w.alloc (.cells #[.int .i64 x] 3)) 1 intE (.slice (some ⟨b, 0, none⟩) 1 1) [x] := by
  subst hb
  exact rd_new (n := 1) (cs := #[.int .i64 x]) rfl
theorem number_ok (v : Value) (x : Int) (o : OpT) (w : World) (h : RdS w 1 intE v [x]) :
    Ret Try.prog 92 [v, .agg o.enc.toArray] w fun u w' => StepR w w' v (numP x o) u ∧ Below w.heap.size w w' := by
  obtain ⟨a, c, rfl, _⟩ := h.form
  obtain ⟨p, rfl⟩ := h.ptr (by simp)
  refine ent92 _ _ _ _ ?_
  have ho := o.at
  have hw1 : Below w.heap.size w (w.alloc (.cells o.enc.toArray 58)) := (Below.refl _ w).alloc (Nat.le_refl _) _
  have h1 := h.below hw1 (by decide)
  have ep := RdS.int h1 (k := 0) (by simp)
  rw [show p.add 0 = p from rfl, show ([x] : List Int)[0] = x from rfl] at ep
  have hw2 : Below w.heap.size w (w.alloc (.cells o.enc.toArray 58)).drew := hw1.drew
  have ep2 : (w.alloc (.cells o.enc.toArray 58)).drew.cell? p = some (.int .i64 x) := ep
  have lp : p.block < w.heap.size := h.blt intE_len (by decide) (by simp)
  have one : ∀ (n : Int) (K : Value → World → Prop), (∀ u w', RdS w' 1 intE u [n] → (∀ k, slFoot u k → w.heap.size ≤ k) → Below w.heap.size w w' → K u w') → bsW Try.prog 36 1 [0] [.int .i64 n] (w.alloc (.cells o.enc.toArray 58)) K := fun n K hK => by
    refine bsW_ones ty36mkI rfl rfl (by decide) (by decide) (intE_one n) ?_
    refine hK _ _ (int_new n rfl) (fun k hk => ?_) (Below.next hw1 ((Below.refl _ _).alloc (Nat.le_refl _) _))
    have := slFoot_own hk
    simp only [Value.ownBlock, Option.some.injEq, World.size_alloc] at this
    omega
  have no : ∀ {w' : World}, numP x o = none → StepR w w' (.slice (some p) 1 c) (numP x o) (.tuple #[.slice none 0 0, .int .i64 0, .bool false]) := fun e => ⟨_, _, _, rfl, by rw [e]⟩
  by_cases m1 : o.Method = 1
  · have e : numP x o = some ([x], x) := by unfold numP; rw [if_pos m1]
    simp (disch := first | omega | exact okFill_t rfl | exact okSize_t rfl | exact fun h => h | (simp only [World.size_alloc, World.size_drew, World.size_setCell, size_fill, bytesW]; omega)) only [go_sem, c92, c92S0, c92S1, c92S2, c92S3, ho, m1]
    refine c92draw0 ?_
    have hd2 : (w.alloc (.cells o.enc.toArray 58)).drew.heap.size = w.heap.size + 1 := by simp
    simp (disch := first | omega | exact okFill_t rfl | exact okSize_t rfl | exact fun h => h | (simp only [World.size_alloc, World.size_drew, World.size_setCell, size_fill, bytesW]; omega)) only [go_sem, c92, c92S0, c92S1, c92S2, c92S3, c92D0, ep, ep2]
    exact ⟨⟨_, _, _, rfl, by rw [e]; exact ⟨rfl, rfl, h.below hw2 (by decide), fun k hk => .inl (slFoot_own hk)⟩⟩, hw2⟩
  by_cases k1 : o.Kind = 1
  · by_cases m2 : o.Method = 2
    · have e : numP x o = some ([o.Arg], 0) := by unfold numP; rw [if_neg m1, if_pos ⟨k1, m2⟩]
      simp (disch := first | omega | exact okFill_t rfl | exact okSize_t rfl | exact fun h => h | (simp only [World.size_alloc, World.size_drew, World.size_setCell, size_fill, bytesW]; omega)) only [go_sem, c92, c92S0, c92S1, c92S2, c92S3, ho, k1, m2]
      refine one _ _ fun u w' hr hf hb => ?_
      simp (disch := first | omega | exact okFill_t rfl | exact okSize_t rfl | exact fun h => h | (simp only [World.size_alloc, World.size_drew, World.size_setCell, size_fill, bytesW]; omega)) only [go_sem, c92, c92S0, c92S1, c92S2, c92S3]
      exact ⟨⟨u, _, _, rfl, by rw [e]; exact ⟨rfl, rfl, hr, fun k hk => .inr (hf k hk)⟩⟩, hb⟩
    by_cases m3 : o.Method = 3
    · simp (disch := first | omega | exact okFill_t rfl | exact okSize_t rfl | exact fun h => h | (simp only [World.size_alloc, World.size_drew, World.size_setCell, size_fill, bytesW]; omega)) only [go_sem, c92, c92S0, c92S1, c92S2, c92S3, ho, k1, m3]
      refine c92draw1 ?_
      simp (disch := first | omega | exact okFill_t rfl | exact okSize_t rfl | exact fun h => h | (simp only [World.size_alloc, World.size_drew, World.size_setCell, size_fill, bytesW]; omega)) only [go_sem, c92, c92S0, c92S1, c92S2, c92S3, c92D1, ep, ep2, ho]
      refine ⟨fun e0 => ?_, fun e0 => ?_⟩
      · have e : numP x o = some ([o.Second], 1) := by unfold numP; simp [m1, k1, m2, m3, e0]
        refine bsW_ones ty36mkI rfl rfl (by decide) (by decide) (intE_one _) ?_
        simp (disch := first | omega | exact okFill_t rfl | exact okSize_t rfl | exact fun h => h | (simp only [World.size_alloc, World.size_drew, World.size_setCell, size_fill, bytesW]; omega)) only [go_sem, c92, c92S0, c92S1, c92S2, c92S3]
        have hi := int_new (w := w.alloc (.cells o.enc.toArray 58)) (b := w.heap.size + 1) o.Second (by simp)
        have bb := (Below.refl (w.alloc (.cells o.enc.toArray 58)).heap.size (w.alloc (.cells o.enc.toArray 58))).alloc (Nat.le_refl _) (.cells #[.int .i64 o.Second] 3)
        refine ⟨⟨_, _, _, rfl, by
          rw [e]
          refine ⟨rfl, rfl, hi.below (Below.refl _ _).drew (by decide), fun k hk => .inr ?_⟩
          have := slFoot_own hk
          simp only [Value.ownBlock, Option.some.injEq] at this
          omega⟩, (Below.next hw1 bb).drew⟩
      · have e : numP x o = some ([x], 0) := by unfold numP; simp [m1, k1, m2, m3, e0]
        exact ⟨⟨_, _, _, rfl, by rw [e]; exact ⟨rfl, rfl, h.below hw2 (by decide), fun k hk => .inl (slFoot_own hk)⟩⟩, hw2⟩
    · have e : numP x o = none := by unfold numP; simp [m1, k1, m2, m3]
      simp (disch := first | omega | exact okFill_t rfl | exact okSize_t rfl | exact fun h => h | (simp only [World.size_alloc, World.size_drew, World.size_setCell, size_fill, bytesW]; omega)) only [go_sem, c92, c92S0, c92S1, c92S2, c92S3, ho, k1, m1, m2, m3]
      exact ⟨no e, hw1⟩
  by_cases k2 : o.Kind = 2
  · by_cases m4 : o.Method = 4
    · have e : numP x o = some ([IntKind.i64.wrap (x + 1)], 0) := by unfold numP; simp [m4, k2]
      simp (disch := first | omega | exact okFill_t rfl | exact okSize_t rfl | exact fun h => h | (simp only [World.size_alloc, World.size_drew, World.size_setCell, size_fill, bytesW]; omega)) only [go_sem, c92, c92S0, c92S1, c92S2, c92S3, ho, k2, m4, ep]
      refine one _ _ fun u w' hr hf hb => ?_
      simp (disch := first | omega | exact okFill_t rfl | exact okSize_t rfl | exact fun h => h | (simp only [World.size_alloc, World.size_drew, World.size_setCell, size_fill, bytesW]; omega)) only [go_sem, c92, c92S0, c92S1, c92S2, c92S3]
      exact ⟨⟨u, _, _, rfl, by rw [e]; exact ⟨rfl, rfl, hr, fun k hk => .inr (hf k hk)⟩⟩, hb⟩
    by_cases m5 : o.Method = 5
    · have e : numP x o = some ([IntKind.i64.wrap (x - 1)], 0) := by unfold numP; simp [m5, k2]
      simp (disch := first | omega | exact okFill_t rfl | exact okSize_t rfl | exact fun h => h | (simp only [World.size_alloc, World.size_drew, World.size_setCell, size_fill, bytesW]; omega)) only [go_sem, c92, c92S0, c92S1, c92S2, c92S3, ho, k2, m5, ep]
      refine one _ _ fun u w' hr hf hb => ?_
      simp (disch := first | omega | exact okFill_t rfl | exact okSize_t rfl | exact fun h => h | (simp only [World.size_alloc, World.size_drew, World.size_setCell, size_fill, bytesW]; omega)) only [go_sem, c92, c92S0, c92S1, c92S2, c92S3]
      exact ⟨⟨u, _, _, rfl, by rw [e]; exact ⟨rfl, rfl, hr, fun k hk => .inr (hf k hk)⟩⟩, hb⟩
    · have e : numP x o = none := by unfold numP; simp [m1, k2, m4, m5]
      simp (disch := first | omega | exact okFill_t rfl | exact okSize_t rfl | exact fun h => h | (simp only [World.size_alloc, World.size_drew, World.size_setCell, size_fill, bytesW]; omega)) only [go_sem, c92, c92S0, c92S1, c92S2, c92S3, ho, k2, m1, m4, m5]
      exact ⟨no e, hw1⟩
  · have e : numP x o = none := by unfold numP; simp [m1, k1, k2]
    simp (disch := first | omega | exact okFill_t rfl | exact okSize_t rfl | exact fun h => h | (simp only [World.size_alloc, World.size_drew, World.size_setCell, size_fill, bytesW]; omega)) only [go_sem, c92, c92S0, c92S1, c92S2, c92S3, ho, k1, k2, m1]
    exact ⟨no e, hw1⟩
end Go.Proofs.Ytbeoedgoikcbpaa

namespace Go.Proofs.Ytbeoedgoikcbpaa
set_option linter.unusedSimpArgs false
set_option linter.unusedVariables false
set_option maxRecDepth 100000
open Go Go.Ann Go.RowKit
def listP (s : List Int) (o : OpT) : Option (List Int × Int) :=
  if (o.Kind = 3 ∧ o.Method = 6) ∨ (o.Kind = 4 ∧ o.Method = 8) then some (s ++ [o.Arg], 0)
  else if o.Kind = 3 ∧ o.Method = 7 then (match s with | [] => some ([], -1) | x :: r => some (r, x))
  else if o.Kind = 4 ∧ o.Method = 9 then (if h : s = [] then some ([], -1) else some (s.dropLast, s.getLast h))
  else none
theorem ints_take : ∀ (s : List Int) (k : Nat), (s.take k).flatMap intE = (s.flatMap intE).take k
  | [], k => by simp
  | x :: s, 0 => rfl
  | x :: s, k + 1 => by rw [List.take_succ_cons, List.flatMap_cons, List.flatMap_cons, ints_take s k]; rfl
theorem offA_own {ad : Addr} {c lo n m k : Nat} (h : slFoot (.slice (offA (some ad) c lo 1) n m) k) : ad.block = k := by
  have := slFoot_own h
  unfold offA at this
  split at this
  · simpa [Value.ownBlock] using this
  · simpa [Value.ownBlock, add_block] using this
theorem list_ok (v : Value) (s : List Int) (o : OpT) (w : World) (B : Nat) (hB : B ≤ w.heap.size) (h : w.ownsRow B 3 1 v s.length (s.flatMap intE)) (hl : s.length ≤ 1000000) :
    Ret Try.prog 93 [v, .agg o.enc.toArray] w fun u w' => StepR w w' v (listP s o) u ∧ Chg (fun k => v.ownBlock = some k) w w' := by
  obtain ⟨a, c, rfl, _⟩ := own_slice h
  refine ent93 _ _ _ _ ?_
  have ho := o.at
  have hw1 : Below w.heap.size w (w.alloc (.cells o.enc.toArray 58)) := (Below.refl _ w).alloc (Nat.le_refl _) _
  have hc1 : Chg (fun k => (Value.slice a s.length c).ownBlock = some k) w (w.alloc (.cells o.enc.toArray 58)) := Chg.of_below hw1
  have hr : RdS w 1 intE (.slice a s.length c) s := RdS.of_own' h s rfl rfl
  have no : ∀ {w' : World}, listP s o = none → StepR w w' (.slice a s.length c) (listP s o) (.tuple #[.slice none 0 0, .int .i64 0, .bool false]) := fun e => ⟨_, _, _, rfl, by rw [e]⟩
  have emp : s = [] → listP s o = some ([], -1) → StepR w (w.alloc (.cells o.enc.toArray 58)) (.slice a s.length c) (listP s o) (.tuple #[.slice a s.length c, .int .i64 (-1), .bool true]) := fun e e2 => ⟨_, _, _, rfl, by
    rw [e2]
    have := hr.below hw1 (by decide)
    subst e
    exact ⟨rfl, rfl, this, fun k hk => .inl (slFoot_own hk)⟩⟩
  have app : ∀ {ty : TypeId} {cs : Array Bool} {K : Value → World → Prop}, (∀ u w', RdS w' 1 intE u (s ++ [o.Arg]) → (∀ k, slFoot u k → (Value.slice a s.length c).ownBlock = some k ∨ w.heap.size ≤ k) → Chg (fun k => (Value.slice a s.length c).ownBlock = some k) w w' → K u w') →
      rawB Try.prog .append #[36, 36] ty cs [.slice a s.length c, .slice (some ⟨w.heap.size + 1, 0, none⟩) 1 1] ((w.alloc (.cells o.enc.toArray 58)).alloc (.cells #[.int .i64 o.Arg] 3)) K := by
    intro ty cs K hK
    have bb := (Below.refl (w.alloc (.cells o.enc.toArray 58)).heap.size (w.alloc (.cells o.enc.toArray 58))).alloc (Nat.le_refl _) (.cells #[.int .i64 o.Arg] 3)
    have hb2 := Below.next hw1 bb
    have ho2 := (Chg.of_below (S := fun _ => False) hb2).own h fun _ _ h => h
    have hi := int_new (w := w.alloc (.cells o.enc.toArray 58)) (b := w.heap.size + 1) o.Arg (by simp)
    obtain ⟨_, a', c', e, _, hp⟩ := hi
    cases e
    obtain ⟨ad, had, hcell⟩ := hp (by simp)
    cases had
    refine rawB_append (m := 1) ty36mkI rfl (by decide) ho2 (by simp [intE]) hcell (ints_one _) (by decide) (by omega) (by omega) (by have := hb2.size; omega) ?_
    intro g cap w' hown hg hgb hgl
    have hown' : w'.ownsRow B 3 1 (.slice (some ⟨g, 0, none⟩) (s.length + 1) cap) (s.length + 1) ((s ++ [o.Arg]).flatMap intE) := by
      rw [List.flatMap_append]; exact hown
    refine hK _ _ (RdS.of_own' hown' (s ++ [o.Arg]) (by simp) rfl) (fun k hk => ?_) ((Chg.of_below hb2).trans ⟨hg.os, hg.tape, hg.output, hg.size, fun k hk hS => hg.block k hk fun e => hS e.symm⟩)
    have := slFoot_own hk
    simp only [Value.ownBlock, Option.some.injEq] at this
    subst this
    rcases hgb with h | h
    · exact .inl h
    · right; rw [h]; simp; omega
  by_cases k3 : o.Kind = 3
  · by_cases m6 : o.Method = 6
    · simp (disch := first | omega | exact okFill_t rfl | exact okSize_t rfl | exact fun h => h | (simp only [World.size_alloc, World.size_drew, World.size_setCell, size_fill, bytesW]; omega)) only [go_sem, c93, c93S0, c93S1, c93S2, c93S3, c93S4, c93S5, c93S6, ho, k3, m6]
      refine bsW_ones ty36mkI rfl rfl (by decide) (by decide) (intE_one _) ?_
      simp (disch := first | omega | exact okFill_t rfl | exact okSize_t rfl | exact fun h => h | (simp only [World.size_alloc, World.size_drew, World.size_setCell, size_fill, bytesW]; omega)) only [go_sem, c93, c93S0, c93S1, c93S2, c93S3, c93S4, c93S5, c93S6]
      refine app fun u w' hu hf hc => ?_
      simp (disch := first | omega | exact okFill_t rfl | exact okSize_t rfl | exact fun h => h | (simp only [World.size_alloc, World.size_drew, World.size_setCell, size_fill, bytesW]; omega)) only [go_sem, c93, c93S0, c93S1, c93S2, c93S3, c93S4, c93S5, c93S6]
      exact ⟨⟨u, _, _, rfl, by rw [show listP s o = some (s ++ [o.Arg], 0) by unfold listP; simp [k3, m6]]; exact ⟨rfl, rfl, hu, hf⟩⟩, hc⟩
    by_cases m7 : o.Method = 7
    · simp (disch := first | omega | exact okFill_t rfl | exact okSize_t rfl | exact fun h => h | (simp only [World.size_alloc, World.size_drew, World.size_setCell, size_fill, bytesW]; omega)) only [go_sem, c93, c93S0, c93S1, c93S2, c93S3, c93S4, c93S5, c93S6, ho, k3, m7]
      refine ⟨fun h0 => ⟨emp (List.eq_nil_of_length_eq_zero (by omega)) (by have : s = [] := List.eq_nil_of_length_eq_zero (by omega); subst this; unfold listP; simp [k3, m7]), hc1⟩, fun h0 => ?_⟩
      have h0' : 0 < s.length := by omega
      obtain ⟨ad, rfl⟩ := hr.ptr h0'
      have hr2 : RdS (w.alloc (.cells o.enc.toArray 58)).drew 1 intE (.slice (some ad) s.length c) s := hr.below hw1.drew (by decide)
      have hcd : Chg (fun k => (Value.slice (some ad) s.length c).ownBlock = some k) w (w.alloc (.cells o.enc.toArray 58)).drew := Chg.of_below hw1.drew
      obtain ⟨x, r, rfl⟩ : ∃ x r, s = x :: r := by
        cases s with
        | nil => simp at h0'
        | cons x r => exact ⟨x, r, rfl⟩
      have ep := RdS.int hr2 (k := 0) h0'
      rw [show ad.add 0 = ad from rfl, show (x :: r)[0] = x from rfl] at ep
      refine c93draw0 ?_
      simp (disch := first | omega | exact okFill_t rfl | exact okSize_t rfl | exact fun h => h | (simp only [World.size_alloc, World.size_drew, World.size_setCell, size_fill, bytesW]; omega)) only [go_sem, c93, c93S0, c93S1, c93S2, c93S3, c93S4, c93S5, c93S6, c93D0, ep]
      refine ⟨by omega, by omega, ⟨_, _, _, rfl, ?_⟩⟩
      rw [show listP (x :: r) o = some (r, x) by unfold listP; simp [k3, m7]]
      refine ⟨rfl, rfl, ?_, fun k hk => .inl ?_⟩
      · have := rd_drop (k := 1) (show Rd _ 1 (.slice (some ad) (x :: r).length c) (x :: r).length ((x :: r).flatMap intE) from hr2) (by simp)
        exact this
      · rw [← offA_own hk]; rfl
    · simp (disch := first | omega | exact okFill_t rfl | exact okSize_t rfl | exact fun h => h | (simp only [World.size_alloc, World.size_drew, World.size_setCell, size_fill, bytesW]; omega)) only [go_sem, c93, c93S0, c93S1, c93S2, c93S3, c93S4, c93S5, c93S6, ho, k3, m6, m7]
      exact ⟨no (by unfold listP; simp [k3, m6, m7]), hc1⟩
  by_cases k4 : o.Kind = 4
  · by_cases m8 : o.Method = 8
    · simp (disch := first | omega | exact okFill_t rfl | exact okSize_t rfl | exact fun h => h | (simp only [World.size_alloc, World.size_drew, World.size_setCell, size_fill, bytesW]; omega)) only [go_sem, c93, c93S0, c93S1, c93S2, c93S3, c93S4, c93S5, c93S6, ho, k4, m8]
      refine bsW_ones ty36mkI rfl rfl (by decide) (by decide) (intE_one _) ?_
      simp (disch := first | omega | exact okFill_t rfl | exact okSize_t rfl | exact fun h => h | (simp only [World.size_alloc, World.size_drew, World.size_setCell, size_fill, bytesW]; omega)) only [go_sem, c93, c93S0, c93S1, c93S2, c93S3, c93S4, c93S5, c93S6]
      refine app fun u w' hu hf hc => ?_
      simp (disch := first | omega | exact okFill_t rfl | exact okSize_t rfl | exact fun h => h | (simp only [World.size_alloc, World.size_drew, World.size_setCell, size_fill, bytesW]; omega)) only [go_sem, c93, c93S0, c93S1, c93S2, c93S3, c93S4, c93S5, c93S6]
      exact ⟨⟨u, _, _, rfl, by rw [show listP s o = some (s ++ [o.Arg], 0) by unfold listP; simp [k4, m8]]; exact ⟨rfl, rfl, hu, hf⟩⟩, hc⟩
    by_cases m9 : o.Method = 9
    · simp (disch := first | omega | exact okFill_t rfl | exact okSize_t rfl | exact fun h => h | (simp only [World.size_alloc, World.size_drew, World.size_setCell, size_fill, bytesW]; omega)) only [go_sem, c93, c93S0, c93S1, c93S2, c93S3, c93S4, c93S5, c93S6, ho, k4, m9]
      refine ⟨fun h0 => ⟨emp (List.eq_nil_of_length_eq_zero (by omega)) (by have : s = [] := List.eq_nil_of_length_eq_zero (by omega); subst this; unfold listP; simp [k4, m9]), hc1⟩, fun h0 => ?_⟩
      have h0' : 0 < s.length := by omega
      obtain ⟨ad, rfl⟩ := hr.ptr h0'
      have hr2 : RdS (w.alloc (.cells o.enc.toArray 58)).drew 1 intE (.slice (some ad) s.length c) s := hr.below hw1.drew (by decide)
      have hcd : Chg (fun k => (Value.slice (some ad) s.length c).ownBlock = some k) w (w.alloc (.cells o.enc.toArray 58)).drew := Chg.of_below hw1.drew
      have hne : s ≠ [] := fun e => by subst e; simp at h0'
      have ep := RdS.int hr2 (k := s.length - 1) (by omega)
      have ti : ((s.length : Int) - 1).toNat = s.length - 1 := by omega
      refine c93draw1 ?_
      simp (disch := first | omega | exact okFill_t rfl | exact okSize_t rfl | exact fun h => h | (simp only [World.size_alloc, World.size_drew, World.size_setCell, size_fill, bytesW]; omega)) only [go_sem, c93, c93S0, c93S1, c93S2, c93S3, c93S4, c93S5, c93S6, c93D1, ti, ep]
      have hcap : s.length ≤ c := by
        obtain ⟨_, c', e, hc⟩ := hr.form
        cases e; exact hc
      refine ⟨⟨by omega, by omega⟩, ⟨by omega, by omega⟩, ⟨by omega, by omega⟩, ⟨by omega, by omega⟩, ⟨_, _, _, rfl, ?_⟩⟩
      rw [show listP s o = some (s.dropLast, s.getLast hne) by unfold listP; simp [k4, m9, hne]]
      refine ⟨rfl, (List.getLast_eq_getElem hne).symm, ?_, fun k hk => .inl ?_⟩
      · have := rd_take (k := s.length - 1) (show Rd _ 1 (.slice (some ad) s.length c) s.length (s.flatMap intE) from hr2) (by omega)
        have e : s.dropLast.flatMap intE = (s.flatMap intE).take ((s.length - 1) * 1) := by
          rw [Nat.mul_one, List.dropLast_eq_take]
          exact ints_take s _
        have e2 : s.dropLast.length = s.length - 1 := List.length_dropLast
        unfold RdS
        rw [e, e2]
        exact this
      · rw [← offA_own hk]; rfl
    · simp (disch := first | omega | exact okFill_t rfl | exact okSize_t rfl | exact fun h => h | (simp only [World.size_alloc, World.size_drew, World.size_setCell, size_fill, bytesW]; omega)) only [go_sem, c93, c93S0, c93S1, c93S2, c93S3, c93S4, c93S5, c93S6, ho, k4, m8, m9]
      exact ⟨no (by unfold listP; simp [k4, m8, m9]), hc1⟩
  · simp (disch := first | omega | exact okFill_t rfl | exact okSize_t rfl | exact fun h => h | (simp only [World.size_alloc, World.size_drew, World.size_setCell, size_fill, bytesW]; omega)) only [go_sem, c93, c93S0, c93S1, c93S2, c93S3, c93S4, c93S5, c93S6, ho, k3, k4]
    exact ⟨no (by unfold listP; simp [k3, k4]), hc1⟩
end Go.Proofs.Ytbeoedgoikcbpaa

namespace Go.Proofs.Ytbeoedgoikcbpaa
set_option linter.unusedSimpArgs false
set_option linter.unusedVariables false
set_option maxRecDepth 100000
open Go Go.Ann Go.RowKit Go.Shelf
theorem drewN_below {w : World} (q : Nat) : Below w.heap.size w (w.drewN q) := ⟨rfl, rfl, rfl, Nat.le_refl _, fun _ _ => rfl⟩
theorem bsearch_ok (v : Value) (s : List Int) (x : Int) (w : World) (h : RdS w 1 intE v s) (hv : ∀ a n c, v = .slice (some a) n c → n ≠ 0 → a.spot = none) (hl : s.length ≤ 1000000) (hs : s.Pairwise (· ≤ ·)) :
    Ret Try.prog 121 [v, .int .i64 x] w fun u w' => u = .tuple #[.int .i64 (s.countP (· < x) : Nat), .bool (s.contains x)] ∧ Below w.heap.size w w' := by
  obtain ⟨a, c, rfl, _⟩ := h.form
  rcases Nat.eq_zero_or_pos s.length with h0 | h0
  · have e : s = [] := List.eq_nil_of_length_eq_zero h0
    subst e
    exact (Any.slices_BinarySearch_int_empty layBin a c x w).mono fun e w' ⟨h1, h2⟩ => ⟨_, h1, rfl, by rw [h2]; exact Below.refl _ _⟩
  · obtain ⟨ad, rfl⟩ := h.ptr h0
    have hsp := hv ad _ _ rfl (by omega)
    have had : ad = ⟨ad.block, ad.off, none⟩ := by cases ad; simp only at hsp; subst hsp; rfl
    have hc : ∀ j, j < s.length → w.cell? ⟨ad.block, ad.off + j, none⟩ = some (.int .i64 (s.getD j 0)) := fun j hj => by
      have := RdS.int h hj
      rw [had, Addr.add_lit] at this
      rw [this, List.getD_eq_getElem?_getD, List.getElem?_eq_getElem hj]; rfl
    have := Any.slices_BinarySearch_int layBin ad.block ad.off s.length c s x w (Nat.le_refl _) (by omega) hc (by rw [List.take_length]; exact hs)
    rw [List.take_length, ← had] at this
    exact this.mono fun e w' ⟨h1, q, h2⟩ => ⟨_, h1, rfl, by rw [h2]; exact drewN_below q⟩
end Go.Proofs.Ytbeoedgoikcbpaa

namespace Go.Proofs.Ytbeoedgoikcbpaa
set_option linter.unusedSimpArgs false
set_option linter.unusedVariables false
set_option maxRecDepth 100000
open Go Go.Ann Go.RowKit Go.Shelf Go.Sort
theorem delete_ok (g cap i : Nat) (s : List Int) (rest : List Value) (w : World) (hB : Blk w g (s.map (Value.int .i64) ++ rest).toArray 3) (hc : s.length ≤ cap) (hm : cap ≤ 9223372036854775807) (hi : i < s.length) :
    Ret Try.prog 124 [.slice (some ⟨g, 0, none⟩) s.length cap, .int .i64 i, .int .i64 (i + 1)] w fun u w' =>
      u = .slice (some ⟨g, 0, none⟩) (s.length - 1) cap ∧ (∃ rest', Blk w' g ((s.take i ++ s.drop (i + 1)).map (Value.int .i64) ++ rest').toArray 3) ∧ Chg (fun k => k = g) w w' := by
  have hH : Holds (Value.int .i64) w g 0 s.toArray := by
    intro j hj
    have hj' : j < s.length := by simpa using hj
    rw [hB.cell, hB.frozen]
    refine ⟨?_, rfl⟩
    rw [List.getElem?_toArray, Nat.zero_add, List.getElem?_append_left (by simpa using hj'), List.getElem?_map, List.getElem?_eq_getElem hj', getElem!_pos s.toArray j hj]
    rfl
  have h := Any.slices_Delete_int layDel g 0 cap i (i + 1) s w hH hc hm (by omega) (by omega)
  refine h.mono ?_
  rintro e w' ⟨rfl, q, rfl⟩
  have hsz : (s.take i ++ s.drop (i + 1) ++ List.replicate (i + 1 - i) 0).toArray.size = s.toArray.size := by simp; omega
  have hb := sorted_blk (m := q) (d := s.toArray) (rest := rest) (enc := Value.int .i64) (by simpa using hB) hsz #[]
  have e : sortWorld (Value.int .i64) w g 0 q (s.take i ++ s.drop (i + 1) ++ List.replicate (i + 1 - i) 0).toArray #[] = putRow (Value.int .i64) (Sort.ahead w q) g 0 (s.take i ++ s.drop (i + 1) ++ List.replicate (i + 1 - i) 0).toArray := grow_empty _
  rw [e] at hb
  refine ⟨_, rfl, by rw [show i + 1 - i = 1 by omega], ⟨(List.replicate (i + 1 - i) (0 : Int)).map (Value.int .i64) ++ rest, ?_⟩, hb.2⟩
  have := hb.1
  simp only [List.toList_toArray, List.map_append, List.append_assoc] at this ⊢
  exact this
end Go.Proofs.Ytbeoedgoikcbpaa

namespace Go.Proofs.Ytbeoedgoikcbpaa
set_option linter.unusedSimpArgs false
set_option linter.unusedVariables false
set_option maxRecDepth 100000
open Go Go.Ann Go.RowKit Go.Shelf
theorem setCells_blk {g : Nat} {e : TypeId} : ∀ (vs mid pre post : List Value) (o : Nat) (w : World), Blk w g (pre ++ (mid ++ post)).toArray e → mid.length = vs.length → pre.length = o →
    Blk (w.setCells g o vs) g (pre ++ (vs ++ post)).toArray e ∧ Chg (fun k => k = g) w (w.setCells g o vs)
  | [], [], pre, post, o, w, h, _, _ => ⟨h, Chg.refl _ _⟩
  | [], _ :: _, pre, post, o, w, h, hl, _ => by simp at hl
  | _ :: _, [], pre, post, o, w, h, hl, _ => by simp at hl
  | v :: vs, m :: mid, pre, post, o, w, h, hl, ho => by
    have h1 : Blk (w.setCell ⟨g, o, none⟩ v) g ((pre ++ [v]) ++ (mid ++ post)).toArray e := by
      have := h.set o v
      rw [List.setIfInBounds_toArray, List.set_append_right _ _ (by omega), ho, Nat.sub_self] at this
      simpa using this
    obtain ⟨h2, h3⟩ := setCells_blk vs mid (pre ++ [v]) post (o + 1) _ h1 (by simpa using hl) (by simp [ho])
    refine ⟨by simpa [World.setCells] using h2, ?_⟩
    simp only [World.setCells]
    exact Chg.trans ((Chg.refl (fun k => k = g) w).setCell ⟨g, o, none⟩ v (fun _ => rfl)) h3
theorem intE_map (s : List Int) : s.flatMap intE = s.map (Value.int .i64) := by
  induction s with
  | nil => rfl
  | cons x s ih => rw [List.flatMap_cons, ih]; rfl
theorem rd_of_blk {w : World} {g cap : Nat} {s : List Int} {rest : List Value} {t : TypeId} (hB : Blk w g (s.map (Value.int .i64) ++ rest).toArray t) (hc : s.length ≤ cap) {n : Nat} (hn : n = s.length) : RdS w 1 intE (.slice (some ⟨g, 0, none⟩) n cap) s := by
  subst hn
  refine ⟨by rw [intE_map]; simp, _, cap, rfl, hc, fun _ => ⟨_, rfl, fun j u hu => ?_⟩⟩
  rw [intE_map] at hu
  rw [Addr.add_lit, Nat.zero_add, hB.cell, List.getElem?_toArray, List.getElem?_append_left (by have := (List.getElem?_eq_some_iff.1 hu).1; exact this)]
  exact hu
theorem arr_app (l : List Value) (A : Array Value) : l.toArray ++ A = (l ++ A.toList).toArray := by apply Array.ext'; simp
theorem blk_new {w : World} {cs : Array Value} {t : TypeId} {l : List Value} {b : Nat} (hb : b = w.heap.size) (e : cs.toList = l) : Blk (w.alloc (.cells cs t)) b l.toArray t := by subst hb e; exact Blk.new
theorem zeroC_len (n : Nat) : (Builtin.zeroCells (Value.int .i64 0).cells n).toList.length = n := by
  simp [Builtin.zeroCells, Value.cells]
theorem ins_ok (v : Value) (s : List Int) (i : Nat) (x : Int) (b : Nat) (w : World) (B : Nat) (hB : B ≤ w.heap.size) (h : w.ownsRow B 3 1 v s.length (s.flatMap intE)) (hx : Blk w b #[.int .i64 x] 3) (hne : v.ownBlock ≠ some b) (hi : i ≤ s.length) (hl : s.length ≤ 1000000) :
    Ret Try.prog 123 [v, .int .i64 i, .slice (some ⟨b, 0, none⟩) 1 1] w fun u w' => RdS w' 1 intE u (s.take i ++ x :: s.drop i) ∧ (∀ k, slFoot u k → v.ownBlock = some k ∨ w.heap.size ≤ k) ∧ Chg (fun k => v.ownBlock = some k) w w' := by
  have h1v : ∀ u ∈ [Value.int .i64 x], u.oneCell' = true := by intro u hu; rw [List.mem_singleton] at hu; subst hu; rfl
  have hvs : ∀ j u, [Value.int .i64 x][j]? = some u → w.cell? ⟨b, 0 + j, none⟩ = some u := fun j u hj => by rw [Nat.zero_add, hx.cell]; simpa using hj
  have hcl : (s.map (Value.int .i64)).length = s.length := by simp
  have h1c : ∀ u ∈ s.map (Value.int .i64), u.oneCell' = true := fun u hu => by obtain ⟨y, _, rfl⟩ := List.mem_map.1 hu; rfl
  have hlen : (s.take i ++ x :: s.drop i).length = s.length + 1 := by simp; omega
  rw [intE_map] at h
  rcases h.2 with ⟨rfl, h0⟩ | ⟨g, c, cur, rfl, hg, hb, hnc, hcm, hcs, htk⟩
  · have hs : s = [] := List.eq_nil_of_length_eq_zero h0
    subst hs
    obtain rfl : i = 0 := by simpa using hi
    have := Any2.slices_Insert_int_end_grow layIns none 0 0 b 0 1 1 [] [.int .i64 x] w (by omega) (by omega) (by omega) (by omega) rfl rfl (fun _ => rfl) (fun a ha => by cases ha) hvs h1v
    refine this.mono ?_
    rintro e w' ⟨rfl, rfl⟩
    refine ⟨_, rfl, rd_of_blk (s := [x]) (rest := (Builtin.zeroCells (Value.int .i64 0).cells (grownCap w (0 + 1) 0 3 - (0 + 1))).toList) (t := 3) ?_ (by simpa using grownCap_ge w (0 + 1) 0 _) rfl, fun k hk => .inr ?_, Chg.of_below ((Below.refl _ w).drew.alloc (Nat.le_refl _) _)⟩
    · exact blk_new rfl (by rw [arr_app]; rfl)
    · have := slFoot_own hk
      simp only [Value.ownBlock, Option.some.injEq] at this
      omega
  · have hlt : g < w.heap.size := Blk.lt hb
    have hgb : b ≠ g := fun e => hne (by rw [e]; rfl)
    simp only [Nat.mul_one] at hcs htk
    have hcur : cur = (s.map (Value.int .i64) ++ cur.toList.drop s.length).toArray := by
      apply Array.ext'
      rw [List.toList_toArray, ← htk, List.take_append_drop]
    obtain ⟨tl, htl⟩ : ∃ tl, tl = cur.toList.drop s.length := ⟨_, rfl⟩
    rw [← htl] at hcur
    have htll : tl.length = c - s.length := by rw [htl, List.length_drop, Array.length_toList, hcs]
    have hbb : Blk w g (s.map (Value.int .i64) ++ tl).toArray 3 := by rw [← hcur]; exact hb
    have hmax : c ≤ 9223372036854775807 := hcm
    have hcells : ∀ j u, (s.map (Value.int .i64))[j]? = some u → w.cell? ⟨g, 0 + j, none⟩ = some u := fun j u hj => by
      rw [Nat.zero_add, hbb.cell, List.getElem?_toArray, List.getElem?_append_left (List.getElem?_eq_some_iff.1 hj).1]; exact hj
    have hsome : ∀ j, j < c → (w.cell? ⟨g, 0 + j, none⟩).isSome = true := fun j hj => by
      rw [Nat.zero_add, hbb.cell, List.getElem?_toArray, List.getElem?_eq_getElem (by simp; omega)]; rfl
    have hfz : ∀ j, w.frozen? ⟨g, j, none⟩ = false := hbb.frozen
    have own : ∀ {k n c'}, slFoot (.slice (some ⟨g, 0, none⟩) n c') k → (Value.slice (some ⟨g, 0, none⟩) s.length c).ownBlock = some k ∨ w.heap.size ≤ k := fun hk => .inl (by have := slFoot_own hk; simpa [Value.ownBlock] using this)
    have new : ∀ {k n c'}, slFoot (.slice (some ⟨w.heap.size, 0, none⟩) n c') k → (Value.slice (some ⟨g, 0, none⟩) s.length c).ownBlock = some k ∨ w.heap.size ≤ k := fun hk => .inr (by have := slFoot_own hk; simp only [Value.ownBlock, Option.some.injEq] at this; omega)
    have chgo : ∀ {w' : World}, Chg (fun k => k = g) w w' → Chg (fun k => (Value.slice (some ⟨g, 0, none⟩) s.length c).ownBlock = some k) w w' := fun hc => ⟨hc.os, hc.tape, hc.output, hc.size, fun k hk hS => hc.block k hk fun e => hS (by rw [e]; rfl)⟩
    rcases Nat.lt_or_ge i s.length with hin | hin
    · have e1 : s.map (Value.int .i64) = (s.take i).map (Value.int .i64) ++ (s.drop i).map (Value.int .i64) := by rw [← List.map_append, List.take_append_drop]
      rcases Nat.lt_or_ge c (s.length + 1) with hroom | hroom
      · have := Any2.slices_Insert_int_grow layIns g 0 s.length c i b 0 1 1 (s.map (Value.int .i64)) [.int .i64 x] w hin (by omega) hnc hroom (by omega) hcl rfl hcells hvs h1c h1v
        refine this.mono ?_
        rintro e w' ⟨rfl, rfl⟩
        obtain ⟨G, hG⟩ : ∃ G, G = grownCap w (s.length + 1) c 3 := ⟨_, rfl⟩
        have hGe : s.length + 1 ≤ G := by rw [hG]; exact grownCap_ge w (s.length + 1) c _
        obtain ⟨Z1, hZ1⟩ : ∃ Z, Z = (Builtin.zeroCells (Value.int .i64 0).cells (s.length + 1 - i)).toList := ⟨_, rfl⟩
        obtain ⟨Z2, hZ2⟩ : ∃ Z, Z = (Builtin.zeroCells (Value.int .i64 0).cells (G - (s.length + 1))).toList := ⟨_, rfl⟩
        have lz1 : Z1.length = s.length + 1 - i := by rw [hZ1]; exact zeroC_len _
        obtain ⟨z, Z1', rfl⟩ : ∃ z Z, Z1 = z :: Z := by
          cases Z1 with
          | nil => simp at lz1; omega
          | cons z Z => exact ⟨z, Z, rfl⟩
        have b0 : Blk (w.alloc (.cells (((s.map (Value.int .i64)).take i).toArray ++ Builtin.zeroCells (Value.int .i64 0).cells (s.length + 1 - i) ++ Builtin.zeroCells (Value.int .i64 0).cells (G - (s.length + 1))) 3)) w.heap.size ((s.take i).map (Value.int .i64) ++ ([z] ++ (Z1' ++ Z2))).toArray 3 := by
          refine blk_new rfl ?_
          rw [arr_app, arr_app, ← hZ1, ← hZ2, ← List.map_take]
          simp
        have hlen1 : ((s.take i).map (Value.int .i64)).length = i := by simp; omega
        obtain ⟨b1, c1⟩ := setCells_blk [Value.int .i64 x] [z] ((s.take i).map (Value.int .i64)) (Z1' ++ Z2) i _ b0.drew rfl hlen1
        have b1' := b1
        rw [← List.append_assoc] at b1'
        obtain ⟨b2, c2⟩ := setCells_blk ((s.drop i).map (Value.int .i64)) Z1' ((s.take i).map (Value.int .i64) ++ [Value.int .i64 x]) Z2 (i + 1) _ b1'.drew (by simp at lz1 ⊢; omega) (by simp; omega)
        rw [← List.map_drop, show layIns_ren.t 3 = 3 from rfl]
        refine ⟨_, rfl, rd_of_blk (s := s.take i ++ x :: s.drop i) (rest := Z2) (t := 3) (by rw [← hG]; simpa using b2) (by rw [hlen]; exact grownCap_ge w (s.length + 1) c _) hlen.symm, fun k hk => new hk, ?_⟩
        rw [← hG]
        have hdr : ∀ {S : Nat → Prop} {a : World}, Chg S a a.drew := fun {S a} => (Chg.refl S a).drew
        have cc : Chg (fun k => k = w.heap.size) (w.alloc (.cells (((s.map (Value.int .i64)).take i).toArray ++ Builtin.zeroCells (Value.int .i64 0).cells (s.length + 1 - i) ++ Builtin.zeroCells (Value.int .i64 0).cells (G - (s.length + 1))) 3)) _ := hdr.trans (c1.trans (hdr.trans c2))
        exact Chg.of_below (((Below.refl _ w).alloc (Nat.le_refl _) _).trans (cc.below (by simp) fun k hk e => by omega))
      · have hmid : ∃ t0 tl', tl = t0 :: tl' := by
          cases tl with
          | nil => simp at htll; omega
          | cons t0 tl' => exact ⟨t0, tl', rfl⟩
        obtain ⟨t0, tl', rfl⟩ := hmid
        have hshA : w.shape? b = some (3, 1) := by unfold World.shape?; rw [hx]; rfl
        have hshB : w.shape? g = some (3, cur.size) := by unfold World.shape?; rw [hb]
        have := Any2.slices_Insert_int_shift layIns g 0 s.length c i b 0 1 1 (s.map (Value.int .i64)) [.int .i64 x] w hin (by omega) hroom hmax hgb hcl rfl hcells (fun j hj => hsome j (by omega)) (fun j _ => hfz _) hvs h1c h1v _ _ _ _ hshA hshB (by omega) (hx.frozen 0) (hx.frozen 1)
        refine this.mono ?_
        rintro e w' ⟨rfl, rfl⟩
        have hdi : (s.drop i).map (Value.int .i64) = Value.int .i64 s[i] :: (s.drop (i + 1)).map (Value.int .i64) := by rw [List.drop_eq_getElem_cons hin]; rfl
        have b0 : Blk w g (((s.take i).map (Value.int .i64) ++ [Value.int .i64 s[i]]) ++ (((s.drop (i + 1)).map (Value.int .i64) ++ [t0]) ++ tl')).toArray 3 := by
          have := hbb
          rw [e1, hdi] at this
          simpa using this
        obtain ⟨b1, c1⟩ := setCells_blk ((s.drop i).map (Value.int .i64)) _ _ _ (i + 1) _ b0.drew (by simp; omega) (by simp; omega)
        have b1' : Blk (w.drew.setCells g (i + 1) ((s.drop i).map (Value.int .i64))) g ((s.take i).map (Value.int .i64) ++ ([Value.int .i64 s[i]] ++ ((s.drop i).map (Value.int .i64) ++ tl'))).toArray 3 := by simpa using b1
        obtain ⟨b2, c2⟩ := setCells_blk [Value.int .i64 x] _ _ _ i _ b1' rfl (by simp; omega)
        rw [← List.map_drop, Nat.zero_add, Nat.zero_add]
        refine ⟨_, rfl, rd_of_blk (s := s.take i ++ x :: s.drop i) (rest := tl') (t := 3) (by simpa using b2) (by rw [hlen]; exact hroom) hlen.symm, fun k hk => own hk, chgo ((Chg.refl _ w).drew.trans (c1.trans c2))⟩
    · obtain rfl : i = s.length := by omega
      have e2 : s.take s.length ++ x :: s.drop s.length = s ++ [x] := by rw [List.take_length, List.drop_length]
      rw [e2] at hlen ⊢
      rcases Nat.lt_or_ge c (s.length + 1) with hroom | hroom
      · have := Any2.slices_Insert_int_end_grow layIns (some ⟨g, 0, none⟩) s.length c b 0 1 1 (s.map (Value.int .i64)) [.int .i64 x] w (by omega) hnc hroom (by omega) hcl rfl (fun h => by cases h) (fun a ha j u hj => by cases ha; rw [Addr.add_lit]; exact hcells j u hj) hvs h1v
        refine this.mono ?_
        rintro e w' ⟨rfl, rfl⟩
        refine ⟨_, rfl, rd_of_blk (s := s ++ [x]) (rest := (Builtin.zeroCells (Value.int .i64 0).cells (grownCap w (s.length + 1) c 3 - (s.length + 1))).toList) (t := 3) ?_ (by rw [hlen]; exact grownCap_ge w (s.length + 1) c _) hlen.symm, fun k hk => new hk, Chg.of_below ((Below.refl _ w).drew.alloc (Nat.le_refl _) _)⟩
        refine blk_new rfl ?_
        rw [arr_app, List.map_append]; rfl
      · have hmid : ∃ t0 tl', tl = t0 :: tl' := by
          cases tl with
          | nil => simp at htll; omega
          | cons t0 tl' => exact ⟨t0, tl', rfl⟩
        obtain ⟨t0, tl', rfl⟩ := hmid
        have := Any2.slices_Insert_int_end_room layIns g 0 s.length c b 0 1 1 [.int .i64 x] w (by omega) hroom hmax rfl (fun j hj => by have := hsome (s.length + j) (by omega); rwa [← Nat.add_assoc] at this) (fun j _ => hfz _) hvs h1v
        refine this.mono ?_
        rintro e w' ⟨rfl, rfl⟩
        obtain ⟨b1, c1⟩ := setCells_blk [Value.int .i64 x] [t0] (s.map (Value.int .i64)) tl' s.length w hbb rfl (by simp)
        rw [Nat.zero_add]
        refine ⟨_, rfl, rd_of_blk (s := s ++ [x]) (rest := tl') (t := 3) (by rw [List.map_append]; simpa using b1) (by rw [hlen]; exact hroom) hlen.symm, fun k hk => own hk, chgo c1⟩
end Go.Proofs.Ytbeoedgoikcbpaa

namespace Go.Proofs.Ytbeoedgoikcbpaa
set_option linter.unusedSimpArgs false
set_option linter.unusedVariables false
set_option maxRecDepth 100000
open Go Go.Ann Go.RowKit Go.Shelf
def insP (s : List Int) (x : Int) : List Int := s.take (s.countP (· < x)) ++ x :: s.drop (s.countP (· < x))
def delP (s : List Int) (x : Int) : List Int := s.filter (fun y => !decide (y = x))
def setP (s : List Int) (o : OpT) : Option (List Int × Int) :=
  if o.Method = 12 then some (s, if o.Arg ∈ s then 1 else 0)
  else if o.Method = 10 then (if o.Arg ∈ s then some (s, 0) else some (insP s o.Arg, 1))
  else if o.Method = 11 then (if o.Arg ∈ s then some (delP s o.Arg, 1) else some (s, 0))
  else none
theorem count_zero {x y : Int} {r : List Int} (h : ∀ a ∈ r, y < a) (hx : x ≤ y) : r.countP (· < x) = 0 := by
  rw [List.countP_eq_zero]
  intro a ha
  have := h a ha
  simp; omega
theorem insP_cons_lt {y x : Int} {r : List Int} (h : y < x) : insP (y :: r) x = y :: insP r x := by
  unfold insP
  rw [List.countP_cons_of_pos (by simpa using h)]
  rfl
theorem insP_cons_ge {y x : Int} {r : List Int} (hs : ∀ a ∈ r, y < a) (h : x ≤ y) : insP (y :: r) x = x :: y :: r := by
  unfold insP
  rw [List.countP_cons_of_neg (by simp; omega), count_zero hs h]
  rfl
theorem insP_mem {x a : Int} {s : List Int} : a ∈ insP s x ↔ a = x ∨ a ∈ s := by
  unfold insP
  rw [List.mem_append, List.mem_cons]
  have : a ∈ s ↔ a ∈ s.take (s.countP (· < x)) ∨ a ∈ s.drop (s.countP (· < x)) := by rw [← List.mem_append, List.take_append_drop]
  rw [this]
  constructor
  · rintro (h | h | h)
    · exact .inr (.inl h)
    · exact .inl h
    · exact .inr (.inr h)
  · rintro (h | h | h)
    · exact .inr (.inl h)
    · exact .inl h
    · exact .inr (.inr h)
theorem insP_sorted {x : Int} : ∀ {s : List Int}, s.Pairwise (· < ·) → x ∉ s → (insP s x).Pairwise (· < ·)
  | [], _, _ => by simp [insP]
  | y :: r, hs, hx => by
    obtain ⟨h1, h2⟩ := List.pairwise_cons.1 hs
    have hne : x ≠ y := fun e => hx (by rw [e]; exact List.mem_cons_self ..)
    rcases Int.lt_or_le y x with h | h
    · rw [insP_cons_lt h]
      refine List.pairwise_cons.2 ⟨fun a ha => ?_, insP_sorted h2 fun hm => hx (List.mem_cons_of_mem _ hm)⟩
      rcases insP_mem.1 ha with e | ha
      · omega
      · exact h1 a ha
    · rw [insP_cons_ge h1 h]
      refine List.pairwise_cons.2 ⟨fun a ha => ?_, hs⟩
      rcases List.mem_cons.1 ha with e | ha
      · omega
      · have := h1 a ha; omega
theorem delP_sorted {x : Int} {s : List Int} (hs : s.Pairwise (· < ·)) : (delP s x).Pairwise (· < ·) := hs.filter _
theorem delP_cut {x : Int} : ∀ {s : List Int}, s.Pairwise (· < ·) → x ∈ s → s.countP (· < x) < s.length ∧ s.take (s.countP (· < x)) ++ s.drop (s.countP (· < x) + 1) = delP s x
  | y :: r, hs, hx => by
    obtain ⟨h1, h2⟩ := List.pairwise_cons.1 hs
    rcases Int.lt_or_le y x with h | h
    · have hr : x ∈ r := by
        rcases List.mem_cons.1 hx with e | e
        · omega
        · exact e
      obtain ⟨i1, i2⟩ := delP_cut h2 hr
      rw [List.countP_cons_of_pos (by simpa using h)]
      refine ⟨by simp; omega, ?_⟩
      rw [List.take_succ_cons, List.drop_succ_cons, List.cons_append, i2]
      unfold delP
      rw [List.filter_cons_of_pos (by simp; omega)]
    · have e : x = y := by
        rcases List.mem_cons.1 hx with e | e
        · exact e
        · have := h1 x e; omega
      subst e
      rw [List.countP_cons_of_neg (by simp), count_zero h1 (Int.le_refl _)]
      refine ⟨by simp, ?_⟩
      unfold delP
      rw [List.filter_cons_of_neg (by simp), List.take_zero, List.nil_append, List.drop_succ_cons, List.drop_zero]
      exact (List.filter_eq_self.2 fun a ha => by have := h1 a ha; simp; omega).symm
theorem flag_ok (b : Bool) (w : World) : Ret Try.prog 122 [.bool b] w fun u w' => u = .int .i64 (if b = true then 1 else 0) ∧ w' = w := by
  refine ent122 _ _ _ ?_
  cases b
  · simp (disch := first | omega | exact okFill_t rfl | exact okSize_t rfl | exact fun h => h | (simp only [World.size_alloc, World.size_drew, World.size_setCell, size_fill, bytesW]; omega)) only [go_sem, c122, c122S0]
  · simp (disch := first | omega | exact okFill_t rfl | exact okSize_t rfl | exact fun h => h | (simp only [World.size_alloc, World.size_drew, World.size_setCell, size_fill, bytesW]; omega)) only [go_sem, c122, c122S0]
theorem own_blk {w : World} {B n : Nat} {v : Value} {s : List Int} (h : w.ownsRow B 3 1 v n (s.flatMap intE)) (h0 : 0 < n) : ∃ g cap rest, v = .slice (some ⟨g, 0, none⟩) n cap ∧ n ≤ cap ∧ cap ≤ 9223372036854775807 ∧ B ≤ g ∧ Blk w g (s.map (Value.int .i64) ++ rest).toArray 3 := by
  rcases h.2 with ⟨rfl, h1⟩ | ⟨g, c, cur, rfl, hg, hb, hnc, hcm, hcs, htk⟩
  · omega
  · rw [intE_map, Nat.mul_one] at htk
    refine ⟨g, c, cur.toList.drop n, rfl, hnc, hcm, hg, ?_⟩
    rw [← htk, List.take_append_drop]; exact hb
theorem set_ok (v : Value) (s : List Int) (o : OpT) (w : World) (B : Nat) (hB : B ≤ w.heap.size) (h : w.ownsRow B 3 1 v s.length (s.flatMap intE)) (hl : s.length ≤ 1000000) (hs : s.Pairwise (· < ·)) :
    Ret Try.prog 94 [v, .agg o.enc.toArray] w fun u w' => StepR w w' v (setP s o) u ∧ Chg (fun k => v.ownBlock = some k) w w' := by
  obtain ⟨a, c, rfl, _⟩ := own_slice h
  refine ent94 _ _ _ _ ?_
  have ho := o.at
  have hw1 : Below w.heap.size w (w.alloc (.cells o.enc.toArray 58)) := (Below.refl _ w).alloc (Nat.le_refl _) _
  have hr : RdS w 1 intE (.slice a s.length c) s := RdS.of_own' h s rfl rfl
  have hsp : ∀ a' n c', Value.slice a s.length c = .slice (some a') n c' → n ≠ 0 → a'.spot = none := fun a' n c' e hn => by
    cases e
    obtain ⟨g, cap, rest, e, _⟩ := own_blk h (by omega)
    cases e; rfl
  simp (disch := first | omega | exact okFill_t rfl | exact okSize_t rfl | exact fun h => h | (simp only [World.size_alloc, World.size_drew, World.size_setCell, size_fill, bytesW]; omega)) only [go_sem, c94, c94S0, c94S1, c94S2, c94S3, c94S4, ho]
  refine ⟨by kernel_rfl, Ret.mono (bsearch_ok _ s o.Arg _ (hr.below hw1 (by decide)) hsp hl (hs.imp fun h => Int.le_of_lt h)) ?_⟩
  rintro _ w2 ⟨rfl, b2⟩
  have bb := Below.next hw1 b2
  have cb : ∀ {S : Nat → Prop}, Chg S w w2 := Chg.of_below bb
  have hB2 : Blk w2 w.heap.size o.enc.toArray 58 := Blk.new.below b2 Blk.new.lt
  have r2 := hB2.rules
  have same : ∀ {n : Int} {b : Bool}, setP s o = some (s, n) → StepR w w2 (.slice a s.length c) (setP s o) (.tuple #[.slice a s.length c, .int .i64 n, .bool true]) := fun e => ⟨_, _, _, rfl, by
    rw [e]; exact ⟨rfl, rfl, hr.below bb (by decide), fun k hk => .inl (slFoot_own hk)⟩⟩
  have hcle := List.countP_le_length (p := fun y : Int => decide (y < o.Arg)) (l := s)
  have own2 := (cb (S := fun _ => False)).own h fun _ _ h => h
  by_cases m12 : o.Method = 12
  · cases hin : s.contains o.Arg with
    | true =>
      have e : setP s o = some (s, 1) := by unfold setP; rw [if_pos m12, if_pos (by simpa using hin)]
      simp (disch := first | omega | exact okFill_t rfl | exact okSize_t rfl | exact fun h => h | (simp only [World.size_alloc, World.size_drew, World.size_setCell, size_fill, bytesW]; omega)) only [go_sem, c94, c94S0, c94S1, c94S2, c94S3, c94S4, c94S5, r2, ho, m12]
      refine Ret.mono (flag_ok _ _) ?_
      rintro _ _ ⟨rfl, rfl⟩
      simp (disch := first | omega | exact okFill_t rfl | exact okSize_t rfl | exact fun h => h | (simp only [World.size_alloc, World.size_drew, World.size_setCell, size_fill, bytesW]; omega)) only [go_sem, c94, c94S0, c94S1, c94S2, c94S3, c94S4, c94S5]
      exact ⟨same (b := true) e, cb⟩
    | false =>
      have e : setP s o = some (s, 0) := by unfold setP; rw [if_pos m12, if_neg (by simpa using hin)]
      simp (disch := first | omega | exact okFill_t rfl | exact okSize_t rfl | exact fun h => h | (simp only [World.size_alloc, World.size_drew, World.size_setCell, size_fill, bytesW]; omega)) only [go_sem, c94, c94S0, c94S1, c94S2, c94S3, c94S4, c94S5, r2, ho, m12]
      refine Ret.mono (flag_ok _ _) ?_
      rintro _ _ ⟨rfl, rfl⟩
      simp (disch := first | omega | exact okFill_t rfl | exact okSize_t rfl | exact fun h => h | (simp only [World.size_alloc, World.size_drew, World.size_setCell, size_fill, bytesW]; omega)) only [go_sem, c94, c94S0, c94S1, c94S2, c94S3, c94S4, c94S5]
      exact ⟨same (b := true) e, cb⟩
  by_cases m10 : o.Method = 10
  · cases hin : s.contains o.Arg with
    | true =>
      have e : setP s o = some (s, 0) := by unfold setP; rw [if_neg m12, if_pos m10, if_pos (by simpa using hin)]
      simp (disch := first | omega | exact okFill_t rfl | exact okSize_t rfl | exact fun h => h | (simp only [World.size_alloc, World.size_drew, World.size_setCell, size_fill, bytesW]; omega)) only [go_sem, c94, c94S0, c94S1, c94S2, c94S3, c94S4, c94S5, r2, ho, m10]
      refine Ret.mono (flag_ok _ _) ?_
      rintro _ _ ⟨rfl, rfl⟩
      simp (disch := first | omega | exact okFill_t rfl | exact okSize_t rfl | exact fun h => h | (simp only [World.size_alloc, World.size_drew, World.size_setCell, size_fill, bytesW]; omega)) only [go_sem, c94, c94S0, c94S1, c94S2, c94S3, c94S4, c94S5]
      exact ⟨same (b := true) e, cb⟩
    | false =>
      have e : setP s o = some (insP s o.Arg, 1) := by unfold setP; rw [if_neg m12, if_pos m10, if_neg (by simpa using hin)]
      simp (disch := first | omega | exact okFill_t rfl | exact okSize_t rfl | exact fun h => h | (simp only [World.size_alloc, World.size_drew, World.size_setCell, size_fill, bytesW]; omega)) only [go_sem, c94, c94S0, c94S1, c94S2, c94S3, c94S4, c94S5, r2, ho, m10]
      refine bsW_ones ty36mkI rfl rfl (by decide) (by decide) (intE_one _) ?_
      simp (disch := first | omega | exact okFill_t rfl | exact okSize_t rfl | exact fun h => h | (simp only [World.size_alloc, World.size_drew, World.size_setCell, size_fill, bytesW]; omega)) only [go_sem, c94, c94S0, c94S1, c94S2, c94S3, c94S4, c94S5]
      have b3 := (Below.refl w2.heap.size w2).alloc (Nat.le_refl _) (.cells #[.int .i64 o.Arg] 3)
      have own3 := (Chg.of_below (S := fun _ => False) b3).own own2 fun _ _ h => h
      have hsz := b2.size
      have hsz1 := bb.size
      refine ⟨by kernel_rfl, Ret.mono (ins_ok _ s (s.countP (· < o.Arg)) o.Arg w2.heap.size _ B (by simp; omega) own3 Blk.new (fun e => ?_) hcle hl) ?_⟩
      · have := World.ownsRow.lt h _ e
        omega
      rintro u w4 ⟨h4, f4, c4⟩
      simp (disch := first | omega | exact okFill_t rfl | exact okSize_t rfl | exact fun h => h | (simp only [World.size_alloc, World.size_drew, World.size_setCell, size_fill, bytesW]; omega)) only [go_sem, c94, c94S0, c94S1, c94S2, c94S3, c94S4, c94S5]
      refine ⟨⟨_, _, _, rfl, ?_⟩, (cb.trans (Chg.of_below b3)).trans c4⟩
      rw [e]
      refine ⟨rfl, rfl, h4, fun k hk => (f4 k hk).imp id fun h => ?_⟩
      simp only [World.size_alloc] at h
      omega
  by_cases m11 : o.Method = 11
  · cases hin : s.contains o.Arg with
    | true =>
      have hmem : o.Arg ∈ s := by simpa using hin
      have e : setP s o = some (delP s o.Arg, 1) := by unfold setP; rw [if_neg m12, if_neg m10, if_pos m11, if_pos hmem]
      obtain ⟨d1, d2⟩ := delP_cut hs hmem
      simp (disch := first | omega | exact okFill_t rfl | exact okSize_t rfl | exact fun h => h | (simp only [World.size_alloc, World.size_drew, World.size_setCell, size_fill, bytesW]; omega)) only [go_sem, c94, c94S0, c94S1, c94S2, c94S3, c94S4, c94S5, r2, ho, m11]
      obtain ⟨g, cap, rest, e1, hnc, hcm, hg, hblk⟩ := own_blk own2 (by omega)
      cases e1
      refine ⟨⟨by omega, by omega⟩, by kernel_rfl, Ret.mono (delete_ok g c (s.countP (· < o.Arg)) s rest w2 hblk hnc hcm d1) ?_⟩
      rintro _ w4 ⟨rfl, ⟨rest', h4⟩, c4⟩
      simp (disch := first | omega | exact okFill_t rfl | exact okSize_t rfl | exact fun h => h | (simp only [World.size_alloc, World.size_drew, World.size_setCell, size_fill, bytesW]; omega)) only [go_sem, c94, c94S0, c94S1, c94S2, c94S3, c94S4, c94S5]
      rw [d2] at h4
      have hlen : s.length - 1 = (delP s o.Arg).length := by rw [← d2]; simp; omega
      refine ⟨⟨_, _, _, rfl, ?_⟩, cb.trans ⟨c4.os, c4.tape, c4.output, c4.size, fun k hk hS => c4.block k hk fun e => hS (by rw [e]; rfl)⟩⟩
      rw [e]
      exact ⟨rfl, rfl, rd_of_blk h4 (by omega) hlen, fun k hk => .inl (by have := slFoot_own hk; exact this)⟩
    | false =>
      have e : setP s o = some (s, 0) := by unfold setP; rw [if_neg m12, if_neg m10, if_pos m11, if_neg (by simpa using hin)]
      simp (disch := first | omega | exact okFill_t rfl | exact okSize_t rfl | exact fun h => h | (simp only [World.size_alloc, World.size_drew, World.size_setCell, size_fill, bytesW]; omega)) only [go_sem, c94, c94S0, c94S1, c94S2, c94S3, c94S4, c94S5, r2, ho, m11]
      refine Ret.mono (flag_ok _ _) ?_
      rintro _ _ ⟨rfl, rfl⟩
      simp (disch := first | omega | exact okFill_t rfl | exact okSize_t rfl | exact fun h => h | (simp only [World.size_alloc, World.size_drew, World.size_setCell, size_fill, bytesW]; omega)) only [go_sem, c94, c94S0, c94S1, c94S2, c94S3, c94S4, c94S5]
      exact ⟨same (b := true) e, cb⟩
  · have e : setP s o = none := by unfold setP; rw [if_neg m12, if_neg m10, if_neg m11]
    cases hin : s.contains o.Arg
    all_goals
      simp (disch := first | omega | exact okFill_t rfl | exact okSize_t rfl | exact fun h => h | (simp only [World.size_alloc, World.size_drew, World.size_setCell, size_fill, bytesW]; omega)) only [go_sem, c94, c94S0, c94S1, c94S2, c94S3, c94S4, c94S5, r2, ho, m10, m11, m12]
      exact ⟨⟨_, _, _, rfl, by rw [e]⟩, cb⟩
end Go.Proofs.Ytbeoedgoikcbpaa

namespace Go.Proofs.Ytbeoedgoikcbpaa
set_option linter.unusedSimpArgs false
set_option linter.unusedVariables false
set_option maxRecDepth 100000
open Go Go.Ann Go.RowKit Go.Shelf
def numL (s : List Int) (o : OpT) : Option (List Int × Int) := match s with | [x] => numP x o | _ => none
theorem numL_not {s : List Int} {o : OpT} (h : ∀ x, s = [x] → False) : numL s o = none := by
  unfold numL
  split
  · exact absurd rfl (h _)
  · rfl
def doP (s : List Int) (o : OpT) : Option (List Int × Int) :=
  if o.Kind = 1 ∨ o.Kind = 2 then numL s o
  else if o.Kind = 3 ∨ o.Kind = 4 then listP s o
  else if o.Kind = 5 then setP s o
  else if o.Kind = 6 then (if o.Method = 13 ∧ s = [] then some ([o.Proc], 0) else if o.Method = 14 ∧ s = [o.Proc] then some ([], 0) else none)
  else none
def stepP (s : List Int) (o : OpT) : Option (List Int) :=
  match doP s o with
  | some (t, n) => if o.Done = true ∧ n ≠ o.Result then none else some t
  | none => none
def StepF (w w' : World) (r : Option (List Int × Int)) (t : Value) : Prop :=
  ∃ u a ok, t = .tuple #[u, .int .i64 a, .bool ok] ∧ match r with
    | none => ok = false
    | some (s, n) => ok = true ∧ a = n ∧ RdS w' 1 intE u s ∧ ∀ k, slFoot u k → w.heap.size ≤ k
theorem StepR.fresh {w w2 w3 : World} {v t : Value} {r : Option (List Int × Int)} (h : StepR w2 w3 v r t) (hv : ∀ k, v.ownBlock = some k → w.heap.size ≤ k) (hs : w.heap.size ≤ w2.heap.size) : StepF w w3 r t := by
  obtain ⟨u, a, ok, e, hm⟩ := h
  refine ⟨u, a, ok, e, ?_⟩
  cases r with
  | none => exact hm
  | some p =>
    obtain ⟨s, n⟩ := p
    obtain ⟨h1, h2, h3, h4⟩ := hm
    exact ⟨h1, h2, h3, fun k hk => (h4 k hk).elim (hv k) fun h => Nat.le_trans hs h⟩
theorem do_ok (v : Value) (s : List Int) (o : OpT) (w : World) (h : RdS w 1 intE v s) (hl : s.length ≤ 1000000) (hs : o.Kind = 5 → s.Pairwise (· < ·)) :
    Ret Try.prog 66 [v, .agg o.enc.toArray] w fun u w' => StepF w w' (doP s o) u ∧ Below w.heap.size w w' := by
  refine ent66 _ _ _ _ ?_
  have ho := o.at
  have hw1 : Below w.heap.size w (w.alloc (.cells o.enc.toArray 58)) := (Below.refl _ w).alloc (Nat.le_refl _) _
  simp (disch := first | omega | exact okFill_t rfl | exact okSize_t rfl | exact fun h => h | (simp only [World.size_alloc, World.size_drew, World.size_setCell, size_fill, bytesW]; omega)) only [go_sem, c66, c66S0, c66S1, c66S2, c66S3, c66S4, c66S5, c66S6, c66S7]
  refine Ret.mono (iclone_ok v s _ (h.below hw1 (by decide)) hl) ?_
  rintro u w2 ⟨own2, b2⟩
  have bb := Below.next hw1 b2
  have hB2 : Blk w2 w.heap.size o.enc.toArray 58 := Blk.new.below b2 Blk.new.lt
  have r2 := hB2.rules
  have hl11 : okSize o.enc.toArray 11 = true := rfl
  obtain ⟨a, c, rfl, hac⟩ := own_slice own2
  have rd2 : RdS w2 1 intE (.slice a s.length c) s := RdS.of_own' own2 s rfl rfl
  have lt2 : ∀ k, (Value.slice a s.length c).ownBlock = some k → w.heap.size ≤ k := fun k hk => by
    have := (World.ownsRow.lt own2 k hk).1
    simp only [World.size_alloc] at this; omega
  have hsz1 : w.heap.size + 1 ≤ w2.heap.size := by have := b2.size; simpa using this
  have chg : ∀ {w' : World}, Chg (fun k => (Value.slice a s.length c).ownBlock = some k) w2 w' → Below w.heap.size w w' := fun hc => bb.trans (hc.below bb.size fun k hk e => by have := lt2 k e; omega)
  have bad : ∀ {u : Value} {n : Int}, doP s o = none → StepF w w2 (doP s o) (.tuple #[u, .int .i64 n, .bool false]) := fun e => ⟨_, _, _, rfl, by rw [e]⟩
  have number : o.Kind = 1 ∨ o.Kind = 2 → (∀ x, s = [x] → False) ∨ ∃ x, s = [x] := fun _ => by
    cases s with
    | nil => exact .inl fun x e => by cases e
    | cons x r => cases r with
      | nil => exact .inr ⟨x, rfl⟩
      | cons y r => exact .inl fun x e => by cases e
  have hd1 : o.Kind = 1 ∨ o.Kind = 2 → doP s o = numL s o := fun e => by unfold doP; rw [if_pos e]
  by_cases k1 : o.Kind = 1
  · simp (disch := first | omega | exact okFill_t rfl | exact okSize_t rfl | exact fun h => h | (simp only [World.size_alloc, World.size_drew, World.size_setCell, size_fill, bytesW]; omega)) only [go_sem, c66, c66S0, c66S1, c66S2, c66S3, c66S4, c66S5, c66S6, c66S7, c66S8, r2, ho, k1]
    rcases number (.inl k1) with hn | ⟨x, rfl⟩
    · have hne : (s.length : Int) ≠ 1 := fun e => by
        obtain ⟨x, hx⟩ := List.length_eq_one_iff.1 (show s.length = 1 by omega)
        exact hn x hx
      refine ⟨fun _ => ⟨bad ?_, bb⟩, fun e => absurd e hne⟩
      rw [hd1 (.inl k1), numL_not hn]
    · refine ⟨fun e => absurd rfl e, fun _ => ?_⟩
      simp (disch := first | omega | exact okFill_t rfl | exact okSize_t rfl | exact fun h => h | (simp only [World.size_alloc, World.size_drew, World.size_setCell, size_fill, bytesW]; omega)) only [go_sem, c66, c66S0, c66S1, c66S2, c66S3, c66S4, c66S5, c66S6, c66S7, c66S8, r2]
      refine Ret.mono (number_ok _ x o w2 rd2) ?_
      rintro _ w3 ⟨h3, b3⟩
      have h3' := StepR.fresh h3 lt2 (by omega)
      obtain ⟨u3, a3, ok3, rfl, hm⟩ := h3
      simp (disch := first | omega | exact okFill_t rfl | exact okSize_t rfl | exact fun h => h | (simp only [World.size_alloc, World.size_drew, World.size_setCell, size_fill, bytesW]; omega)) only [go_sem, c66, c66S0, c66S1, c66S2, c66S3, c66S4, c66S5, c66S6, c66S7, c66S8]
      rw [hd1 (.inl k1)]
      exact ⟨h3', Below.next bb b3⟩
  by_cases k2 : o.Kind = 2
  · simp (disch := first | omega | exact okFill_t rfl | exact okSize_t rfl | exact fun h => h | (simp only [World.size_alloc, World.size_drew, World.size_setCell, size_fill, bytesW]; omega)) only [go_sem, c66, c66S0, c66S1, c66S2, c66S3, c66S4, c66S5, c66S6, c66S7, c66S8, r2, ho, k2]
    rcases number (.inr k2) with hn | ⟨x, rfl⟩
    · have hne : (s.length : Int) ≠ 1 := fun e => by
        obtain ⟨x, hx⟩ := List.length_eq_one_iff.1 (show s.length = 1 by omega)
        exact hn x hx
      refine ⟨fun _ => ⟨bad ?_, bb⟩, fun e => absurd e hne⟩
      rw [hd1 (.inr k2), numL_not hn]
    · refine ⟨fun e => absurd rfl e, fun _ => ?_⟩
      simp (disch := first | omega | exact okFill_t rfl | exact okSize_t rfl | exact fun h => h | (simp only [World.size_alloc, World.size_drew, World.size_setCell, size_fill, bytesW]; omega)) only [go_sem, c66, c66S0, c66S1, c66S2, c66S3, c66S4, c66S5, c66S6, c66S7, c66S8, r2]
      refine Ret.mono (number_ok _ x o w2 rd2) ?_
      rintro _ w3 ⟨h3, b3⟩
      have h3' := StepR.fresh h3 lt2 (by omega)
      obtain ⟨u3, a3, ok3, rfl, hm⟩ := h3
      simp (disch := first | omega | exact okFill_t rfl | exact okSize_t rfl | exact fun h => h | (simp only [World.size_alloc, World.size_drew, World.size_setCell, size_fill, bytesW]; omega)) only [go_sem, c66, c66S0, c66S1, c66S2, c66S3, c66S4, c66S5, c66S6, c66S7, c66S8]
      rw [hd1 (.inr k2)]
      exact ⟨h3', Below.next bb b3⟩
  have hb1 : (w.alloc (.cells o.enc.toArray 58)).heap.size ≤ w2.heap.size := b2.size
  by_cases k3 : o.Kind = 3
  · have hd : doP s o = listP s o := by unfold doP; rw [if_neg (by simp [k1, k2]), if_pos (.inl k3)]
    simp (disch := first | omega | exact okFill_t rfl | exact okSize_t rfl | exact fun h => h | (simp only [World.size_alloc, World.size_drew, World.size_setCell, size_fill, bytesW]; omega)) only [go_sem, c66, c66S0, c66S1, c66S2, c66S3, c66S4, c66S5, c66S6, c66S7, c66S8, r2, ho, k3]
    refine Ret.mono (list_ok _ s o w2 _ hb1 own2 hl) ?_
    rintro _ w3 ⟨h3, c3⟩
    have h3' := StepR.fresh h3 lt2 (by omega)
    obtain ⟨u3, a3, ok3, rfl, hm⟩ := h3
    simp (disch := first | omega | exact okFill_t rfl | exact okSize_t rfl | exact fun h => h | (simp only [World.size_alloc, World.size_drew, World.size_setCell, size_fill, bytesW]; omega)) only [go_sem, c66, c66S0, c66S1, c66S2, c66S3, c66S4, c66S5, c66S6, c66S7, c66S8]
    rw [hd]
    exact ⟨h3', chg c3⟩
  by_cases k4 : o.Kind = 4
  · have hd : doP s o = listP s o := by unfold doP; rw [if_neg (by simp [k1, k2]), if_pos (.inr k4)]
    simp (disch := first | omega | exact okFill_t rfl | exact okSize_t rfl | exact fun h => h | (simp only [World.size_alloc, World.size_drew, World.size_setCell, size_fill, bytesW]; omega)) only [go_sem, c66, c66S0, c66S1, c66S2, c66S3, c66S4, c66S5, c66S6, c66S7, c66S8, r2, ho, k4]
    refine Ret.mono (list_ok _ s o w2 _ hb1 own2 hl) ?_
    rintro _ w3 ⟨h3, c3⟩
    have h3' := StepR.fresh h3 lt2 (by omega)
    obtain ⟨u3, a3, ok3, rfl, hm⟩ := h3
    simp (disch := first | omega | exact okFill_t rfl | exact okSize_t rfl | exact fun h => h | (simp only [World.size_alloc, World.size_drew, World.size_setCell, size_fill, bytesW]; omega)) only [go_sem, c66, c66S0, c66S1, c66S2, c66S3, c66S4, c66S5, c66S6, c66S7, c66S8]
    rw [hd]
    exact ⟨h3', chg c3⟩
  by_cases k5 : o.Kind = 5
  · have hd : doP s o = setP s o := by unfold doP; rw [if_neg (by simp [k1, k2]), if_neg (by simp [k3, k4]), if_pos k5]
    simp (disch := first | omega | exact okFill_t rfl | exact okSize_t rfl | exact fun h => h | (simp only [World.size_alloc, World.size_drew, World.size_setCell, size_fill, bytesW]; omega)) only [go_sem, c66, c66S0, c66S1, c66S2, c66S3, c66S4, c66S5, c66S6, c66S7, c66S8, r2, ho, k5]
    refine Ret.mono (set_ok _ s o w2 _ hb1 own2 hl (hs k5)) ?_
    rintro _ w3 ⟨h3, c3⟩
    have h3' := StepR.fresh h3 lt2 (by omega)
    obtain ⟨u3, a3, ok3, rfl, hm⟩ := h3
    simp (disch := first | omega | exact okFill_t rfl | exact okSize_t rfl | exact fun h => h | (simp only [World.size_alloc, World.size_drew, World.size_setCell, size_fill, bytesW]; omega)) only [go_sem, c66, c66S0, c66S1, c66S2, c66S3, c66S4, c66S5, c66S6, c66S7, c66S8]
    rw [hd]
    exact ⟨h3', chg c3⟩
  by_cases k6 : o.Kind = 6
  · have hd : doP s o = (if o.Method = 13 ∧ s = [] then some ([o.Proc], 0) else if o.Method = 14 ∧ s = [o.Proc] then some ([], 0) else none) := by unfold doP; rw [if_neg (by simp [k1, k2]), if_neg (by simp [k3, k4]), if_neg k5, if_pos k6]
    have rdd := hB2.drew.rules
    have bbd : Below w.heap.size w w2.drew := bb.drew
    have rd2d : RdS w2.drew 1 intE (.slice a s.length c) s := rd2.below (Below.refl _ w2).drew (by decide)
    have fresh : ∀ {k n c'}, slFoot (.slice (some ⟨w2.heap.size, 0, none⟩) n c') k → w.heap.size ≤ k := fun hk => by
      have := slFoot_own hk
      simp only [Value.ownBlock, Option.some.injEq] at this
      omega
    have badd : ∀ {u : Value} {n : Int}, doP s o = none → StepF w w2.drew (doP s o) (.tuple #[u, .int .i64 n, .bool false]) := fun e => ⟨_, _, _, rfl, by rw [e]⟩
    by_cases m13 : o.Method = 13
    · simp (disch := first | omega | exact okFill_t rfl | exact okSize_t rfl | exact fun h => h | (simp only [World.size_alloc, World.size_drew, World.size_setCell, size_fill, bytesW]; omega)) only [go_sem, c66, c66S0, c66S1, c66S2, c66S3, c66S4, c66S5, c66S6, c66S7, c66S8, r2, ho, k6, m13]
      refine ⟨fun h0 => ?_, fun h0 => ?_⟩
      · obtain rfl : s = [] := List.eq_nil_of_length_eq_zero (by omega)
        refine bsW_ones ty36mkI rfl rfl (by decide) (by decide) (intE_one _) ?_
        simp (disch := first | omega | exact okFill_t rfl | exact okSize_t rfl | exact fun h => h | (simp only [World.size_alloc, World.size_drew, World.size_setCell, size_fill, bytesW]; omega)) only [go_sem, c66, c66S0, c66S1, c66S2, c66S3, c66S4, c66S5, c66S6, c66S7, c66S8]
        refine ⟨⟨_, _, _, rfl, ?_⟩, Below.next bb ((Below.refl _ _).alloc (Nat.le_refl _) _)⟩
        rw [hd, if_pos ⟨m13, rfl⟩]
        exact ⟨rfl, rfl, int_new o.Proc rfl, fun k hk => fresh hk⟩
      · refine c66draw0 ?_
        simp (disch := first | omega | exact okFill_t rfl | exact okSize_t rfl | exact fun h => h | (simp only [World.size_alloc, World.size_drew, World.size_setCell, size_fill, bytesW]; omega)) only [go_sem, c66, c66S0, c66S1, c66S2, c66S3, c66S4, c66S5, c66S6, c66S7, c66S8, c66D0, rdd, ho, m13]
        have : s ≠ [] := fun e => h0 (by rw [e]; rfl)
        exact ⟨badd (by rw [hd]; simp [this, m13]), bbd⟩
    · simp (disch := first | omega | exact okFill_t rfl | exact okSize_t rfl | exact fun h => h | (simp only [World.size_alloc, World.size_drew, World.size_setCell, size_fill, bytesW]; omega)) only [go_sem, c66, c66S0, c66S1, c66S2, c66S3, c66S4, c66S5, c66S6, c66S7, c66S8, r2, ho, k6, m13]
      refine c66draw0 ?_
      by_cases m14 : o.Method = 14
      · simp (disch := first | omega | exact okFill_t rfl | exact okSize_t rfl | exact fun h => h | (simp only [World.size_alloc, World.size_drew, World.size_setCell, size_fill, bytesW]; omega)) only [go_sem, c66, c66S0, c66S1, c66S2, c66S3, c66S4, c66S5, c66S6, c66S7, c66S8, c66D0, rdd, ho, m14]
        refine ⟨fun h1 => ?_, fun h1 => ?_⟩
        · obtain ⟨x, rfl⟩ := List.length_eq_one_iff.1 (show s.length = 1 by omega)
          obtain ⟨p, rfl⟩ := rd2d.ptr (by simp)
          have ep := RdS.int rd2d (k := 0) (by simp)
          rw [show p.add 0 = p from rfl, show ([x] : List Int)[0] = x from rfl] at ep
          simp (disch := first | omega | exact okFill_t rfl | exact okSize_t rfl | exact fun h => h | (simp only [World.size_alloc, World.size_drew, World.size_setCell, size_fill, bytesW]; omega)) only [go_sem, c66, c66S0, c66S1, c66S2, c66S3, c66S4, c66S5, c66S6, c66S7, c66S8, c66D0, rdd, ho, ep]
          refine ⟨fun e => ⟨⟨_, _, _, rfl, ?_⟩, bbd⟩, fun e => ⟨badd ?_, bbd⟩⟩
          · rw [hd, if_neg (by simp), if_pos ⟨m14, by rw [e]⟩]
            exact ⟨rfl, rfl, RdS.nil, fun k hk => absurd hk slFoot_none⟩
          · rw [hd, if_neg (by simp), if_neg (by simp [e])]
        · have : s ≠ [o.Proc] := fun e => h1 (by rw [e]; rfl)
          exact ⟨badd (by rw [hd]; simp [m13, this]), bbd⟩
      · simp (disch := first | omega | exact okFill_t rfl | exact okSize_t rfl | exact fun h => h | (simp only [World.size_alloc, World.size_drew, World.size_setCell, size_fill, bytesW]; omega)) only [go_sem, c66, c66S0, c66S1, c66S2, c66S3, c66S4, c66S5, c66S6, c66S7, c66S8, c66D0, rdd, ho, m14]
        exact ⟨badd (by rw [hd]; simp [m13, m14]), bbd⟩
  · have hd : doP s o = none := by unfold doP; rw [if_neg (by simp [k1, k2]), if_neg (by simp [k3, k4]), if_neg k5, if_neg k6]
    simp (disch := first | omega | exact okFill_t rfl | exact okSize_t rfl | exact fun h => h | (simp only [World.size_alloc, World.size_drew, World.size_setCell, size_fill, bytesW]; omega)) only [go_sem, c66, c66S0, c66S1, c66S2, c66S3, c66S4, c66S5, c66S6, c66S7, c66S8, r2, ho, k1, k2, k3, k4, k5, k6]
    exact ⟨bad hd, bb⟩
theorem step_ok (v : Value) (s : List Int) (o : OpT) (w : World) (h : RdS w 1 intE v s) (hl : s.length ≤ 1000000) (hs : o.Kind = 5 → s.Pairwise (· < ·)) :
    Ret Try.prog 33 [v, .agg o.enc.toArray] w fun u w' => (∃ t ok, u = .tuple #[t, .bool ok] ∧ match stepP s o with
      | none => ok = false
      | some s' => ok = true ∧ RdS w' 1 intE t s' ∧ ∀ k, slFoot t k → w.heap.size ≤ k) ∧ Below w.heap.size w w' := by
  refine ent33 _ _ _ _ ?_
  have ho := o.at
  have hw1 : Below w.heap.size w (w.alloc (.cells o.enc.toArray 58)) := (Below.refl _ w).alloc (Nat.le_refl _) _
  simp (disch := first | omega | exact okFill_t rfl | exact okSize_t rfl | exact fun h => h | (simp only [World.size_alloc, World.size_drew, World.size_setCell, size_fill, bytesW]; omega)) only [go_sem, c33, c33S0]
  refine Ret.mono (do_ok v s o _ (h.below hw1 (by decide)) hl hs) ?_
  rintro _ w2 ⟨⟨t, a, ok, rfl, hm⟩, b2⟩
  have bb := Below.next hw1 b2
  have hB2 : Blk w2 w.heap.size o.enc.toArray 58 := Blk.new.below b2 Blk.new.lt
  have r2 := hB2.rules
  cases hd : doP s o with
  | none =>
    rw [hd] at hm
    subst hm
    have e : stepP s o = none := by unfold stepP; rw [hd]
    simp (disch := first | omega | exact okFill_t rfl | exact okSize_t rfl | exact fun h => h | (simp only [World.size_alloc, World.size_drew, World.size_setCell, size_fill, bytesW]; omega)) only [go_sem, c33, c33S0, c33S1, r2, ho]
    exact ⟨⟨_, _, rfl, by rw [e]⟩, bb⟩
  | some p =>
    obtain ⟨s', n⟩ := p
    rw [hd] at hm
    obtain ⟨rfl, rfl, h3, f3⟩ := hm
    have f3' : ∀ k, slFoot t k → w.heap.size ≤ k := fun k hk => by have := f3 k hk; simp only [World.size_alloc] at this; omega
    obtain ⟨ta, tc, rfl, _⟩ := h3.form
    cases hdn : o.Done with
    | false =>
      have e : stepP s o = some s' := by unfold stepP; rw [hd]; simp [hdn]
      simp (disch := first | omega | exact okFill_t rfl | exact okSize_t rfl | exact fun h => h | (simp only [World.size_alloc, World.size_drew, World.size_setCell, size_fill, bytesW]; omega)) only [go_sem, c33, c33S0, c33S1, r2, ho, hdn]
      exact ⟨⟨_, _, rfl, by rw [e]; exact ⟨rfl, h3, f3'⟩⟩, bb⟩
    | true =>
      simp (disch := first | omega | exact okFill_t rfl | exact okSize_t rfl | exact fun h => h | (simp only [World.size_alloc, World.size_drew, World.size_setCell, size_fill, bytesW]; omega)) only [go_sem, c33, c33S0, c33S1, r2, ho, hdn]
      refine ⟨fun hne => ⟨⟨_, _, rfl, ?_⟩, bb⟩, fun heq => ⟨⟨_, _, rfl, ?_⟩, bb⟩⟩
      · rw [show stepP s o = none by unfold stepP; rw [hd]; simp [hdn, hne]]
      · rw [show stepP s o = some s' by unfold stepP; rw [hd]; simp [hdn, heq]]
        exact ⟨rfl, h3, f3'⟩
end Go.Proofs.Ytbeoedgoikcbpaa

namespace Go.Proofs.Ytbeoedgoikcbpaa
set_option linter.unusedSimpArgs false
set_option linter.unusedVariables false
set_option maxRecDepth 100000
open Go Go.Ann Go.RowKit
def before (a b : OpT) : Bool := a.Done && decide (a.Return < b.Invoke)
theorem rbefore_ok (a b : OpT) (w : World) : Ret Try.prog 53 [.agg a.enc.toArray, .agg b.enc.toArray] w fun v w' => v = .bool (before a b) ∧ Below w.heap.size w w' := by
  refine ent53 _ _ _ _ ?_
  have ha := a.at; have hb := b.at
  simp (disch := first | omega | exact okFill_t rfl | exact okSize_t rfl | exact fun h => h | (simp only [World.size_alloc, World.size_drew, World.size_setCell, size_fill, bytesW]; omega)) only [go_sem, c53, ha, hb]
  unfold before
  refine ⟨fun h => ?_, fun h => ?_⟩
  · rw [h]; exact ⟨by simp, by (repeat' (first | with_reducible exact Below.refl _ _ | with_reducible assumption | (with_reducible refine Below.drew ?_) | (with_reducible refine Below.alloc ?_ ?_ _) | (with_reducible refine Below.setCell ?_ ?_ _) | (with_reducible refine Below.fill ?_ ?_) | (with_reducible refine Below.via (by assumption) ?_ ?_) | omega | (simp only [World.size_alloc, World.size_drew, World.size_setCell, size_fill, bytesW]; omega)))⟩
  · rw [h]; exact ⟨by simp, by (repeat' (first | with_reducible exact Below.refl _ _ | with_reducible assumption | (with_reducible refine Below.drew ?_) | (with_reducible refine Below.alloc ?_ ?_ _) | (with_reducible refine Below.setCell ?_ ?_ _) | (with_reducible refine Below.fill ?_ ?_) | (with_reducible refine Below.via (by assumption) ?_ ?_) | omega | (simp only [World.size_alloc, World.size_drew, World.size_setCell, size_fill, bytesW]; omega)))⟩
theorem before_ok (a b : OpT) (w : World) : Ret Try.prog 65 [.agg a.enc.toArray, .agg b.enc.toArray] w fun v w' => v = .bool (before a b) ∧ Below w.heap.size w w' := by
  refine ent65 _ _ _ _ ?_
  have ha := a.at; have hb := b.at
  simp (disch := first | omega | exact okFill_t rfl | exact okSize_t rfl | exact fun h => h | (simp only [World.size_alloc, World.size_drew, World.size_setCell, size_fill, bytesW]; omega)) only [go_sem, c65, ha, hb]
  unfold before
  refine ⟨fun h => ?_, fun h => ?_⟩
  · rw [h]; exact ⟨by simp, by (repeat' (first | with_reducible exact Below.refl _ _ | with_reducible assumption | (with_reducible refine Below.drew ?_) | (with_reducible refine Below.alloc ?_ ?_ _) | (with_reducible refine Below.setCell ?_ ?_ _) | (with_reducible refine Below.fill ?_ ?_) | (with_reducible refine Below.via (by assumption) ?_ ?_) | omega | (simp only [World.size_alloc, World.size_drew, World.size_setCell, size_fill, bytesW]; omega)))⟩
  · rw [h]; exact ⟨by simp, by (repeat' (first | with_reducible exact Below.refl _ _ | with_reducible assumption | (with_reducible refine Below.drew ?_) | (with_reducible refine Below.alloc ?_ ?_ _) | (with_reducible refine Below.setCell ?_ ?_ _) | (with_reducible refine Below.fill ?_ ?_) | (with_reducible refine Below.via (by assumption) ?_ ?_) | omega | (simp only [World.size_alloc, World.size_drew, World.size_setCell, size_fill, bytesW]; omega)))⟩
end Go.Proofs.Ytbeoedgoikcbpaa

namespace Go.Proofs.Ytbeoedgoikcbpaa
set_option linter.unusedSimpArgs false
set_option linter.unusedVariables false
set_option maxRecDepth 100000
open Go Go.Ann Go.RowKit
def maskN : List Bool → Nat
  | [] => 0
  | b :: l => b.toNat + 2 * maskN l
theorem maskN_bit : ∀ (l : List Bool) (i : Nat), (maskN l).testBit i = l.getD i false
  | [], i => by simp [maskN]
  | b :: l, 0 => by
    rw [maskN, Nat.testBit_zero]
    cases b <;> simp [Nat.add_mod]
  | b :: l, i + 1 => by
    rw [maskN, Nat.testBit_succ, show (b.toNat + 2 * maskN l) / 2 = maskN l by cases b <;> simp <;> omega, maskN_bit l i]
    rfl
theorem maskN_lt : ∀ l : List Bool, maskN l < 2 ^ l.length
  | [] => by simp [maskN]
  | b :: l => by
    have := maskN_lt l
    rw [maskN, List.length_cons, Nat.pow_succ]
    cases b <;> simp <;> omega
theorem maskN_inj : ∀ {a b : List Bool}, a.length = b.length → maskN a = maskN b → a = b
  | [], [], _, _ => rfl
  | x :: a, y :: b, hl, h => by
    simp only [maskN] at h
    have h1 : x = y := by cases x <;> cases y <;> simp at h ⊢ <;> omega
    subst h1
    rw [maskN_inj (a := a) (b := b) (by simpa using hl) (by omega)]
theorem maskN_none (n : Nat) : maskN (List.replicate n false) = 0 := by
  induction n with
  | zero => rfl
  | succ n ih => rw [List.replicate_succ, maskN, ih]; rfl
theorem getD_set (l : List Bool) (i j : Nat) : (l.set i true).getD j false = (l.getD j false || (decide (i = j) && decide (i < l.length))) := by
  simp only [List.getD_eq_getElem?_getD, List.getElem?_set]
  by_cases h : i = j
  · subst h
    by_cases hl : i < l.length
    · simp [hl]
    · simp [hl]
  · simp [h]
theorem maskN_set {l : List Bool} {i : Nat} (hi : i < l.length) : maskN l ||| 2 ^ i = maskN (l.set i true) := by
  refine Nat.eq_of_testBit_eq fun j => ?_
  rw [Nat.testBit_or, maskN_bit, maskN_bit, getD_set, Nat.testBit_two_pow]
  simp [hi]
theorem ofInt_nat {x : Nat} (h : x < 4294967296) : (BitVec.ofInt 32 (x : Int)).toNat = x := by
  rw [BitVec.ofInt_natCast, BitVec.toNat_ofNat]; exact Nat.mod_eq_of_lt (by omega)
theorem wrap_u32 (n : Int) : IntKind.u32.wrap n = n % 4294967296 := by
  simp [IntKind.wrap, IntKind.signed, IntKind.bits]
theorem or_u32 {x y : Nat} (hx : x < 4294967296) (hy : y < 4294967296) : bits .or .u32 (x : Int) (y : Int) = ((x ||| y : Nat) : Int) := by
  have e : (BitVec.ofInt 32 (x : Int) ||| BitVec.ofInt 32 (y : Int)).toNat = x ||| y := by rw [BitVec.toNat_or, ofInt_nat hx, ofInt_nat hy]
  show IntKind.u32.wrap (((BitVec.ofInt 32 (x : Int) ||| BitVec.ofInt 32 (y : Int)).toNat : Nat) : Int) = _
  have : x ||| y < 2 ^ 32 := Nat.or_lt_two_pow (by omega) (by omega)
  rw [e, wrap_u32]; omega
theorem and1_u32 {x : Nat} (hx : x < 4294967296) : bits .and .u32 (x : Int) 1 = ((x % 2 : Nat) : Int) := by
  have e : (BitVec.ofInt 32 (x : Int) &&& BitVec.ofInt 32 1).toNat = x % 2 := by
    rw [BitVec.toNat_and, ofInt_nat hx, show (BitVec.ofInt 32 1).toNat = 1 by decide, Nat.and_one_is_mod]
  show IntKind.u32.wrap (((BitVec.ofInt 32 (x : Int) &&& BitVec.ofInt 32 1).toNat : Nat) : Int) = _
  rw [e, wrap_u32]; omega
theorem mask_bit {d : List Bool} {i : Nat} (h32 : d.length ≤ 32) : bits .and .u32 ((maskN d : Int) / 2 ^ i) 1 = if d.getD i false = true then 1 else 0 := by
  have h1 := maskN_lt d
  have hp : 2 ^ d.length ≤ 4294967296 := by rw [show (4294967296 : Nat) = 2 ^ 32 by decide]; exact Nat.pow_le_pow_right (by decide) h32
  have e : (maskN d : Int) / 2 ^ i = ((maskN d / 2 ^ i : Nat) : Int) := by norm_cast
  rw [e, and1_u32 (Nat.lt_of_le_of_lt (Nat.div_le_self _ _) (by omega))]
  have := maskN_bit d i
  rw [← this, ← Nat.shiftRight_eq_div_pow]
  unfold Nat.testBit
  rw [Nat.and_comm, Nat.and_one_is_mod]
  have h2 := Nat.mod_two_eq_zero_or_one (maskN d >>> i)
  rcases h2 with h2 | h2 <;> rw [h2] <;> rfl
end Go.Proofs.Ytbeoedgoikcbpaa

namespace Go.Proofs.Ytbeoedgoikcbpaa
set_option linter.unusedSimpArgs false
set_option linter.unusedVariables false
set_option maxRecDepth 100000
open Go Go.Ann Go.RowKit
abbrev Spot := List Bool × List Int
def mayP (l : List OpT) (d : List Bool) (i : Nat) (o : OpT) : Bool := !(d.getD i false) && ((l.map fun p => before p o).zip d).all (fun p => p.2 || !p.1)
def fullP (l : List OpT) (d : List Bool) : Bool := ((l.map fun o => o.Done).zip d).all (fun p => p.2 || !p.1)
def addP (t : List Spot) (p : Spot) : List Spot := if p ∈ t then t else t ++ [p]
def goP (l : List OpT) (p : Spot) (t : List Spot) (k : Nat) : List Spot :=
  match l[k]? with
  | none => t
  | some o => if mayP l p.1 k o then (match stepP p.2 o with
    | some s => addP t (p.1.set k true, s)
    | none => t) else t
def roundK (l : List OpT) (p : Spot) (t : List Spot) : Nat → List Spot
  | 0 => t
  | k + 1 => goP l p (roundK l p t k) k
def bfsN (l : List OpT) (t0 : List Spot) : Nat → List Spot
  | 0 => t0
  | i + 1 => match (bfsN l t0 i)[i]? with
    | some p => roundK l p (bfsN l t0 i) l.length
    | none => bfsN l t0 i
theorem addP_pre (t : List Spot) (p : Spot) : t <+: addP t p := by
  unfold addP; split
  · exact List.prefix_rfl
  · exact List.prefix_append _ _
theorem goP_pre (l : List OpT) (p : Spot) (t : List Spot) (k : Nat) : t <+: goP l p t k := by
  unfold goP
  split
  · exact List.prefix_rfl
  · split
    · split
      · exact addP_pre _ _
      · exact List.prefix_rfl
    · exact List.prefix_rfl
theorem roundK_pre (l : List OpT) (p : Spot) (t : List Spot) : ∀ k, t <+: roundK l p t k
  | 0 => List.prefix_rfl
  | k + 1 => (roundK_pre l p t k).trans (goP_pre _ _ _ _)
theorem bfsN_step (l : List OpT) (t0 : List Spot) (i : Nat) : bfsN l t0 i <+: bfsN l t0 (i + 1) := by
  rw [bfsN]; split
  · exact roundK_pre _ _ _ _
  · exact List.prefix_rfl
theorem bfsN_mono (l : List OpT) (t0 : List Spot) {i j : Nat} (h : i ≤ j) : bfsN l t0 i <+: bfsN l t0 j := by
  induction h with
  | refl => exact List.prefix_rfl
  | step _ ih => exact ih.trans (bfsN_step _ _ _)
theorem bfsN_closed {l : List OpT} {t0 : List Spot} {i j : Nat} (h : i ≤ j) (hc : (bfsN l t0 i).length ≤ i) : bfsN l t0 j = bfsN l t0 i := by
  induction h with
  | refl => rfl
  | step h ih =>
    rename_i m
    have hm : i ≤ m := h
    rw [bfsN, ih, List.getElem?_eq_none (by omega)]
def SearchR (l : List OpT) (t0 : List Spot) (b : Int) : Option (List Spot) → Prop
  | none => ∃ N, b < ((bfsN l t0 N).length : Int)
  | some T => (∃ N, bfsN l t0 N = T ∧ T.length ≤ N) ∧ (T.length : Int) ≤ b
theorem SearchR.one {l : List OpT} {t0 : List Spot} {b : Int} {r r' : Option (List Spot)} (h : SearchR l t0 b r) (k : SearchR l t0 b r') : r = r' := by
  have key : ∀ {T : List Spot}, SearchR l t0 b none → SearchR l t0 b (some T) → False := by
    rintro T ⟨N, hN⟩ ⟨⟨M, rfl, hM⟩, hb⟩
    rcases Nat.le_total N M with hle | hle
    · have := (bfsN_mono l t0 hle).length_le; omega
    · rw [bfsN_closed hle hM] at hN; omega
  cases r with
  | none => cases r' with
    | none => rfl
    | some T => exact (key h k).elim
  | some T => cases r' with
    | none => exact (key k h).elim
    | some T' =>
      obtain ⟨⟨N, h1, h2⟩, _⟩ := h
      obtain ⟨⟨M, k1, k2⟩, _⟩ := k
      subst h1 k1
      rcases Nat.le_total N M with hle | hle
      · rw [bfsN_closed hle h2]
      · rw [bfsN_closed hle k2]
theorem wrap_ok (n : Int) : I64 (IntKind.i64.wrap n) := by
  constructor <;> simp [IntKind.wrap, IntKind.signed, IntKind.bits] <;> omega
theorem kOk_i64 {n : Int} (h : kOk .i64 n) : I64 n := by
  unfold kOk Lit.wf at h
  simp [IntKind.min, IntKind.max, IntKind.signed, IntKind.bits] at h
  exact ⟨by omega, by omega⟩
theorem numP_ok {x : Int} {o : OpT} {s : List Int} {n : Int} (hw : o.wf) (hx : I64 x) (h : numP x o = some (s, n)) : Ok64 s ∧ s.length = 1 := by
  have h1 : ∀ y : Int, I64 y → Ok64 [y] ∧ [y].length = 1 := fun y hy => ⟨fun z hz => by rw [List.mem_singleton] at hz; subst hz; exact hy, rfl⟩
  obtain ⟨_, _, _, _, _, ha, hs, _⟩ := hw
  unfold numP at h
  repeat' split at h
  all_goals first | (cases h; done) | skip
  all_goals simp only [Option.some.injEq, Prod.mk.injEq] at h; obtain ⟨rfl, _⟩ := h
  · exact h1 _ hx
  · exact h1 _ (kOk_i64 ha)
  · exact h1 _ (kOk_i64 hs)
  · exact h1 _ hx
  · exact h1 _ (wrap_ok _)
  · exact h1 _ (wrap_ok _)
theorem listP_ok {s : List Int} {o : OpT} {t : List Int} {n : Int} (hw : o.wf) (hx : Ok64 s) (h : listP s o = some (t, n)) : Ok64 t ∧ t.length ≤ s.length + 1 := by
  obtain ⟨_, _, _, _, _, ha, hs, _⟩ := hw
  unfold listP at h
  repeat' split at h
  all_goals first | (cases h; done) | skip
  all_goals simp only [Option.some.injEq, Prod.mk.injEq] at h; obtain ⟨rfl, _⟩ := h
  · refine ⟨fun z hz => ?_, by simp⟩
    rcases List.mem_append.1 hz with hz | hz
    · exact hx z hz
    · rw [List.mem_singleton] at hz; subst hz; exact kOk_i64 ha
  · exact ⟨fun z hz => (by cases hz), by simp⟩
  · exact ⟨fun z hz => hx z (List.mem_cons_of_mem _ hz), by simp; omega⟩
  · exact ⟨fun z hz => (by cases hz), by simp⟩
  · exact ⟨fun z hz => hx z ((List.dropLast_subset _) hz), by simp; omega⟩
theorem setP_ok {s : List Int} {o : OpT} {t : List Int} {n : Int} (hw : o.wf) (hx : Ok64 s) (hs : s.Pairwise (· < ·)) (h : setP s o = some (t, n)) : Ok64 t ∧ t.length ≤ s.length + 1 ∧ t.Pairwise (· < ·) := by
  obtain ⟨_, _, _, _, _, ha, _, _⟩ := hw
  unfold setP at h
  repeat' split at h
  all_goals first | (cases h; done) | skip
  all_goals simp only [Option.some.injEq, Prod.mk.injEq] at h; obtain ⟨rfl, _⟩ := h
  · exact ⟨hx, by omega, hs⟩
  · exact ⟨hx, by omega, hs⟩
  · exact ⟨hx, by omega, hs⟩
  · rename_i hni _
    refine ⟨fun z hz => ?_, by unfold insP; simp; omega, insP_sorted hs hni⟩
    rcases insP_mem.1 hz with e | hz
    · subst e; exact kOk_i64 ha
    · exact hx z hz
  · exact ⟨fun z hz => hx z ((List.mem_filter.1 hz).1), by have := List.length_filter_le (fun y => !decide (y = o.Arg)) s; unfold delP; omega, delP_sorted hs⟩
  · exact ⟨hx, by omega, hs⟩
theorem stepP_ok {s : List Int} {o : OpT} {t : List Int} (hw : o.wf) (hx : Ok64 s) (hs : o.Kind = 5 → s.Pairwise (· < ·)) (h : stepP s o = some t) : Ok64 t ∧ t.length ≤ s.length + 1 ∧ (o.Kind = 5 → t.Pairwise (· < ·)) := by
  unfold stepP at h
  split at h
  case h_2 => cases h
  rename_i t' n hd
  have e : t' = t := by
    split at h
    · cases h
    · simpa using h
  subst e
  unfold doP at hd
  split at hd
  · rename_i hk
    have h5 : o.Kind ≠ 5 := by omega
    unfold numL at hd
    split at hd
    · obtain ⟨h1, h2⟩ := numP_ok hw (hx _ (List.mem_singleton.2 rfl)) hd
      exact ⟨h1, by omega, fun e => absurd e h5⟩
    · cases hd
  split at hd
  · rename_i hk
    have h5 : o.Kind ≠ 5 := by omega
    obtain ⟨h1, h2⟩ := listP_ok hw hx hd
    exact ⟨h1, h2, fun e => absurd e h5⟩
  split at hd
  · rename_i hk
    obtain ⟨h1, h2, h3⟩ := setP_ok hw hx (hs hk) hd
    exact ⟨h1, h2, fun _ => h3⟩
  split at hd
  · rename_i hk
    have h5 : o.Kind ≠ 5 := by omega
    repeat' split at hd
    all_goals first | (cases hd; done) | skip
    all_goals simp only [Option.some.injEq, Prod.mk.injEq] at hd; obtain ⟨rfl, _⟩ := hd
    · obtain ⟨_, hp, _⟩ := hw
      exact ⟨fun z hz => by rw [List.mem_singleton] at hz; subst hz; exact kOk_i64 hp, by simp, fun e => absurd e h5⟩
    · exact ⟨fun z hz => (by cases hz), by simp, fun e => absurd e h5⟩
  · cases hd
end Go.Proofs.Ytbeoedgoikcbpaa

namespace Go.Proofs.Ytbeoedgoikcbpaa
set_option linter.unusedSimpArgs false
set_option linter.unusedVariables false
set_option maxRecDepth 100000
open Go Go.Ann Go.RowKit
theorem own_mono {w : World} {B B' e sz n : Nat} {v : Value} {xs : List Value} (h : w.ownsRow B e sz v n xs) (hb : B' ≤ B) : w.ownsRow B' e sz v n xs := by
  refine ⟨h.1, ?_⟩
  rcases h.2 with h | ⟨g, c, cur, e1, hg, h2⟩
  · exact .inl h
  · exact .inr ⟨g, c, cur, e1, Nat.le_trans hb hg, h2⟩
abbrev PS := Value × Nat × List Int
end Go.Proofs.Ytbeoedgoikcbpaa

namespace Go.Proofs.Ytbeoedgoikcbpaa
set_option linter.unusedSimpArgs false
set_option linter.unusedVariables false
set_option maxRecDepth 100000
open Go Go.Ann Go.RowKit
theorem wrap_u64_nat {n : Nat} (h : n < 18446744073709551616) : IntKind.u64.wrap (n : Int) = n := wrap_u64_id _ (by omega) (by omega)
end Go.Proofs.Ytbeoedgoikcbpaa

namespace Go.Proofs.Ytbeoedgoikcbpaa
set_option linter.unusedSimpArgs false
set_option linter.unusedVariables false
set_option maxRecDepth 100000
open Go Go.Ann Go.RowKit
abbrev VSpot := Value × Spot
def ps (q : VSpot) : PS := (q.1, maskN q.2.1, q.2.2)
end Go.Proofs.Ytbeoedgoikcbpaa

namespace Go.Proofs.Ytbeoedgoikcbpaa
set_option linter.unusedSimpArgs false
set_option linter.unusedVariables false
set_option maxRecDepth 100000
open Go Go.Ann Go.RowKit
theorem own_ptr {w : World} {B e sz n m c : Nat} {a : Option Addr} {xs : List Value} (h : w.ownsRow B e sz (.slice a n c) m xs) (h0 : 0 < m) : ∃ g, a = some ⟨g, 0, none⟩ := by
  rcases h.2 with ⟨_, h1⟩ | ⟨g, cap, cur, e, _⟩
  · omega
  · simp only [Value.slice.injEq] at e
    exact ⟨g, e.1⟩
def SearchV (w' : World) (l : List OpT) (E : List (List Int)) (U0 : List (List Int)) (r : Option (List Spot)) (u : Value) : Prop :=
  match r with
  | none => u = .tuple #[.agg #[.slice none 0 0, .slice none 0 0, .int .i64 0], .int .i64 35]
  | some T => ∃ uv xv U X, u = .tuple #[.agg #[uv, xv, .int .i64 T.length], .int .i64 0] ∧ RowS w' uv U ∧ U.map Prod.snd = U0 ∧ RowS w' xv X ∧ Uniq ((T.filter fun p => fullP l p.1).map Prod.snd) (X.map Prod.snd)
end Go.Proofs.Ytbeoedgoikcbpaa

namespace Go.Proofs.Ytbeoedgoikcbpaa
set_option linter.unusedSimpArgs false
set_option linter.unusedVariables false
set_option maxRecDepth 100000
open Go Go.Ann Go.RowKit Go.WideShapes
structure Seg where
  obj : Int
  kind : Int
  ops : List OpT
end Go.Proofs.Ytbeoedgoikcbpaa

namespace Go.Proofs.Ytbeoedgoikcbpaa
set_option linter.unusedSimpArgs false
set_option linter.unusedVariables false
set_option maxRecDepth 100000
open Go Go.Ann Go.RowKit
def Tells (u : Value) (p : Prop) : Prop := ∃ b, u = .bool b ∧ (b = true → p)
end Go.Proofs.Ytbeoedgoikcbpaa

namespace Go.Proofs.Ytbeoedgoikcbpaa
set_option linter.unusedSimpArgs false
set_option linter.unusedVariables false
set_option maxRecDepth 100000
open Go Go.Ann Go.RowKit
def newAt (l : List OpT) (p : Spot) (k : Nat) : List Spot :=
  match l[k]? with
  | none => []
  | some o => if mayP l p.1 k o then (match stepP p.2 o with
    | some s => [(p.1.set k true, s)]
    | none => []) else []
def nextL (l : List OpT) (p : Spot) : Nat → List Spot
  | 0 => []
  | k + 1 => nextL l p k ++ newAt l p k
inductive Rch (l : List OpT) : Spot → Spot → Prop
  | refl (p : Spot) : Rch l p p
  | step {p q r : Spot} : Rch l p q → r ∈ nextL l q l.length → Rch l p r
theorem Rch.head {l : List OpT} {p q r : Spot} (h : q ∈ nextL l p l.length) (k : Rch l q r) : Rch l p r := by
  induction k with
  | refl => exact .step (.refl _) h
  | step _ hs ih => exact .step ih hs
theorem Rch.cases_head {l : List OpT} {p r : Spot} (h : Rch l p r) : p = r ∨ ∃ q ∈ nextL l p l.length, Rch l q r := by
  induction h with
  | refl => exact .inl rfl
  | step h1 hs ih =>
    rcases ih with rfl | ⟨q, hq, hr⟩
    · exact .inr ⟨_, hs, .refl _⟩
    · exact .inr ⟨q, hq, .step hr hs⟩
theorem RowS.ones {w : World} {v : Value} {D : List VS} (h : RowS w v D) : ∀ u ∈ D.map Prod.fst, u.oneCell' = true := fun u hu => by
  obtain ⟨p, hp, rfl⟩ := List.mem_map.1 hu
  obtain ⟨a, c, e, _⟩ := (h.rd p hp).form
  rw [e]; rfl
theorem SearchV.form {w' : World} {l : List OpT} {E U0 : List (List Int)} {r : Option (List Spot)} {u : Value} (h : SearchV w' l E U0 r u) : ∃ ya yn yc xa xn xc nn ue, u = .tuple #[.agg #[.slice ya yn yc, .slice xa xn xc, .int .i64 nn], .int .i64 ue] ∧ (ue = if r.isSome then 0 else 35) := by
  cases r with
  | none => exact ⟨_, _, _, _, _, _, _, _, h, rfl⟩
  | some T =>
    obtain ⟨_, _, _, _, e, g1, _, g2, _⟩ := h
    obtain ⟨_, _, rfl, _⟩ := g1.form
    obtain ⟨_, _, rfl, _⟩ := g2.form
    exact ⟨_, _, _, _, _, _, _, _, e, rfl⟩
end Go.Proofs.Ytbeoedgoikcbpaa

namespace Go.Proofs.Ytbeoedgoikcbpaa
set_option linter.unusedSimpArgs false
set_option linter.unusedVariables false
set_option maxRecDepth 100000
open Go Go.Ann Go.RowKit
def undone (d : List Bool) : Nat := d.count false
theorem newAt_mem {l : List OpT} {p q : Spot} {k : Nat} (hl : p.1.length = l.length) (h : q ∈ newAt l p k) : ∃ h : k < l.length, p.1[k] = false ∧ q.1 = p.1.set k true ∧ mayP l p.1 k l[k] = true ∧ stepP p.2 l[k] = some q.2 := by
  unfold newAt at h
  split at h
  · cases h
  · rename_i o ho
    obtain ⟨hk, rfl⟩ := List.getElem?_eq_some_iff.1 ho
    split at h
    · rename_i hm
      split at h
      · rename_i s hs
        rw [List.mem_singleton] at h
        subst h
        refine ⟨hk, ?_, rfl, hm, hs⟩
        have hm2 := hm
        unfold mayP at hm2
        rw [Bool.and_eq_true, Bool.not_eq_true'] at hm2
        have h1 := hm2.1
        rw [List.getD_eq_getElem?_getD, List.getElem?_eq_getElem (by omega)] at h1
        exact h1
      · cases h
    · cases h
theorem nextL_mem {l : List OpT} {p q : Spot} (hl : p.1.length = l.length) : ∀ {k : Nat}, q ∈ nextL l p k → q.1.length = l.length ∧ undone q.1 + 1 = undone p.1
  | 0, h => by cases h
  | k + 1, h => by
    rw [nextL] at h
    rcases List.mem_append.1 h with h | h
    · exact nextL_mem hl h
    · obtain ⟨hk, e, e2, _⟩ := newAt_mem hl h
      rw [e2]
      refine ⟨by rw [List.length_set]; exact hl, ?_⟩
      unfold undone
      have hp : 0 < p.1.count false := List.count_pos_iff.2 (by rw [← e]; exact List.getElem_mem _)
      rw [List.count_set (by omega), e]
      simp
      omega
end Go.Proofs.Ytbeoedgoikcbpaa

namespace Go.Proofs.Ytbeoedgoikcbpaa
set_option linter.unusedSimpArgs false
set_option linter.unusedVariables false
set_option maxRecDepth 100000
open Go Go.Ann Go.RowKit
theorem nextL_iff {l : List OpT} {p r : Spot} : ∀ {n : Nat}, r ∈ nextL l p n ↔ ∃ k, k < n ∧ r ∈ newAt l p k
  | 0 => by simp [nextL]
  | n + 1 => by
    rw [nextL, List.mem_append, nextL_iff]
    constructor
    · rintro (⟨k, h, hr⟩ | h)
      · exact ⟨k, by omega, hr⟩
      · exact ⟨n, by omega, h⟩
    · rintro ⟨k, h, hr⟩
      rcases Nat.lt_or_ge k n with h' | h'
      · exact .inl ⟨k, h', hr⟩
      · obtain rfl : k = n := by omega
        exact .inr hr
theorem newAt_iff {l : List OpT} {p r : Spot} {k : Nat} : r ∈ newAt l p k ↔ ∃ o, l[k]? = some o ∧ mayP l p.1 k o = true ∧ stepP p.2 o = some r.2 ∧ r.1 = p.1.set k true := by
  unfold newAt
  cases h : l[k]? with
  | none => simp
  | some o =>
    simp only [Option.some.injEq]
    cases hm : mayP l p.1 k o with
    | false => simp [hm]
    | true =>
      cases hs : stepP p.2 o with
      | none => simp [hs]
      | some s =>
        simp only [if_true, List.mem_singleton]
        constructor
        · rintro rfl
          exact ⟨o, rfl, hm, hs, rfl⟩
        · rintro ⟨o', rfl, _, h1, h2⟩
          rw [hs] at h1
          obtain ⟨r1, r2⟩ := r
          simp only [Option.some.injEq] at h1 h2
          rw [h1, h2]
theorem Rch.len {l : List OpT} {p q : Spot} (h : Rch l p q) : q.1.length = p.1.length := by
  induction h with
  | refl => rfl
  | step _ hs ih =>
    obtain ⟨k, _, hk⟩ := nextL_iff.1 hs
    obtain ⟨_, _, _, _, e⟩ := newAt_iff.1 hk
    rw [e, List.length_set, ih]
def Exit (l : List OpT) (s t : List Int) : Prop := ∃ d, Rch l (List.replicate l.length false, s) (d, t) ∧ fullP l d = true
end Go.Proofs.Ytbeoedgoikcbpaa

namespace Go.Proofs.Ytbeoedgoikcbpaa.Cut
set_option linter.unusedSimpArgs false
set_option linter.unusedVariables false
set_option maxRecDepth 100000
open Go Go.Ann Go.RowKit
def segR (w : World) (s : Seg) (c : List Value) : Prop := ∃ v, c = [.int .i64 s.obj, .int .i64 s.kind, v] ∧ RdS w 11 OpT.enc v s.ops ∧ (s.ops.length : Int) ≤ 9223372036854775806
theorem segR.below {w w' : World} (hb : Below w.heap.size w w') (s : Seg) (c : List Value) (h : segR w s c) : segR w' s c := by
  obtain ⟨v, rfl, h1, h2⟩ := h
  exact ⟨v, rfl, h1.below hb (by decide), h2⟩
end Go.Proofs.Ytbeoedgoikcbpaa.Cut

namespace Go.Proofs.Ytbeoedgoikcbpaa.Cut
set_option linter.unusedSimpArgs false
set_option linter.unusedVariables false
set_option maxRecDepth 100000
open Go Go.Ann Go.RowKit
def cmpI (a b : Int) : Int := if a < b then -1 else if b < a then 1 else 0
end Go.Proofs.Ytbeoedgoikcbpaa.Cut

namespace Go.Proofs.Ytbeoedgoikcbpaa.Cut
set_option linter.unusedSimpArgs false
set_option linter.unusedVariables false
set_option maxRecDepth 100000
open Go Go.Ann Go.RowKit
def orI (l : List Int) : Int := (l.find? fun x => !decide (x = 0)).getD 0
def earI (a b : OpT) : Int := orI [cmpI a.Invoke b.Invoke, cmpI a.ID b.ID]
theorem chg_da {S : Nat → Prop} {w : World} {o : Obj} : Chg S w.drew (w.alloc o).drew := (Chg.refl S w.drew).alloc o
end Go.Proofs.Ytbeoedgoikcbpaa.Cut

namespace Go.Proofs.Ytbeoedgoikcbpaa.Cut
set_option linter.unusedSimpArgs false
set_option linter.unusedVariables false
set_option maxRecDepth 100000
open Go Go.Ann Go.RowKit
instance : Inhabited OpT := ⟨⟨0, 0, 0, 0, 0, 0, 0, false, 0, 0, 0⟩⟩
def Sorts (cf : OpT → OpT → Int) (l l' : List OpT) : Prop := l'.Perm l ∧ l'.Pairwise fun a b => ¬ cf b a < 0
end Go.Proofs.Ytbeoedgoikcbpaa.Cut

namespace Go.Proofs.Ytbeoedgoikcbpaa.Cut
set_option linter.unusedSimpArgs false
set_option linter.unusedVariables false
set_option maxRecDepth 100000
open Go Go.Ann Go.RowKit
theorem orI2_neg (x y : Int) : decide (orI [x, y] < 0) = decide (x < 0 ∨ x = 0 ∧ y < 0) := by
  unfold orI
  by_cases hx : x = 0
  · subst hx
    by_cases hy : y = 0
    · subst hy; simp
    · simp [List.find?_cons, hy]
  · simp [List.find?_cons, hx]
theorem cmpI_neg (a b : Int) : (cmpI a b < 0) = (a < b) := by
  unfold cmpI
  apply propext
  split
  · omega
  · split <;> omega
theorem cmpI_zero (a b : Int) : (cmpI a b = 0) = (a = b) := by
  unfold cmpI
  apply propext
  split
  · omega
  · split <;> omega
theorem lt_ear (a b : OpT) : ltOf earI a b = decide (a.Invoke < b.Invoke ∨ a.Invoke = b.Invoke ∧ a.ID < b.ID) := by
  unfold ltOf earI
  rw [orI2_neg]
  simp only [cmpI_neg, cmpI_zero]
def cutStep (q : Seg → OpT → Bool) (mk : OpT → Int × Int) (acc : List Seg) (o : OpT) : List Seg :=
  match acc.getLast? with
  | some s => if q s o then acc ++ [⟨(mk o).1, (mk o).2, [o]⟩] else acc.dropLast ++ [⟨s.obj, s.kind, s.ops ++ [o]⟩]
  | none => [⟨(mk o).1, (mk o).2, [o]⟩]
def segC (s : Seg) (v : Value) : List Value := [.int .i64 s.obj, .int .i64 s.kind, v]
def segCells : List Seg → List Value → List Value
  | s :: l, v :: vs => segC s v ++ segCells l vs
  | _, _ => []
def segInvs : List Seg → List Value → List Inv
  | s :: l, v :: vs => .rd 11 OpT.enc v s.ops :: segInvs l vs
  | _, _ => []
theorem segCells_snoc : ∀ (l : List Seg) (vs : List Value) (s : Seg) (v : Value), vs.length = l.length → segCells (l ++ [s]) (vs ++ [v]) = segCells l vs ++ segC s v
  | [], [], s, v, _ => by simp [segCells]
  | a :: l, b :: vs, s, v, h => by simp only [List.cons_append, segCells, List.append_assoc]; rw [segCells_snoc l vs s v (by simpa using h)]
theorem segCells_length : ∀ (l : List Seg) (vs : List Value), vs.length = l.length → (segCells l vs).length = l.length * 3
  | [], [], _ => rfl
  | a :: l, b :: vs, h => by rw [segCells, List.length_append, segCells_length l vs (by simpa using h), List.length_cons]; simp only [segC, List.length_cons, List.length_nil]; omega
theorem segInvs_mem : ∀ (l : List Seg) (vs : List Value) (i : Nat) (s : Seg) (v : Value), l[i]? = some s → vs[i]? = some v → Inv.rd 11 OpT.enc v s.ops ∈ segInvs l vs
  | a :: l, b :: vs, 0, s, v, h1, h2 => by
    simp only [List.getElem?_cons_zero, Option.some.injEq] at h1 h2; subst h1; subst h2
    exact List.mem_cons_self
  | a :: l, b :: vs, i + 1, s, v, h1, h2 => List.mem_cons_of_mem _ (segInvs_mem l vs i s v (by simpa using h1) (by simpa using h2))
theorem segInvs_snoc : ∀ (l : List Seg) (vs : List Value) (s : Seg) (v : Value), vs.length = l.length → ∀ a, a ∈ segInvs (l ++ [s]) (vs ++ [v]) ↔ a = Inv.rd 11 OpT.enc v s.ops ∨ a ∈ segInvs l vs
  | [], [], s, v, _, a => by simp [segInvs]
  | x :: l, b :: vs, s, v, h, a => by simp only [List.cons_append, segInvs, List.mem_cons, segInvs_snoc l vs s v (by simpa using h)]; exact ⟨fun h => h.elim (fun h => .inr (.inl h)) fun h => h.elim .inl fun h => .inr (.inr h), fun h => h.elim (fun h => .inr (.inl h)) fun h => h.elim .inl fun h => .inr (.inr h)⟩
theorem cutStep_nil (q : Seg → OpT → Bool) (mk : OpT → Int × Int) (o : OpT) : cutStep q mk [] o = [⟨(mk o).1, (mk o).2, [o]⟩] := rfl
theorem cutStep_new {q : Seg → OpT → Bool} (mk : OpT → Int × Int) (ini : List Seg) {s : Seg} {o : OpT} (h : q s o = true) : cutStep q mk (ini ++ [s]) o = ini ++ [s] ++ [⟨(mk o).1, (mk o).2, [o]⟩] := by
  unfold cutStep
  rw [List.getLast?_concat]
  simp only [h, if_true]
theorem cutStep_old {q : Seg → OpT → Bool} (mk : OpT → Int × Int) (ini : List Seg) {s : Seg} {o : OpT} (h : q s o = false) : cutStep q mk (ini ++ [s]) o = ini ++ [⟨s.obj, s.kind, s.ops ++ [o]⟩] := by
  unfold cutStep
  rw [List.getLast?_concat, List.dropLast_concat]
  simp only [h]
  rfl
theorem cutStep_flat (q : Seg → OpT → Bool) (mk : OpT → Int × Int) (acc : List Seg) (o : OpT) : (cutStep q mk acc o).flatMap Seg.ops = acc.flatMap Seg.ops ++ [o] := by
  unfold cutStep
  cases h : acc.getLast? with
  | none => rw [List.getLast?_eq_none_iff.1 h]; rfl
  | some s =>
    obtain ⟨ini, rfl⟩ := List.getLast?_eq_some_iff.1 h
    simp only
    split
    · rw [List.flatMap_append]; rfl
    · rw [List.dropLast_concat, List.flatMap_append, List.flatMap_append, List.append_assoc]; simp
theorem cut_flat (q : Seg → OpT → Bool) (mk : OpT → Int × Int) : ∀ (l : List OpT) (acc : List Seg), (l.foldl (cutStep q mk) acc).flatMap Seg.ops = acc.flatMap Seg.ops ++ l
  | [], acc => by simp
  | o :: l, acc => by rw [List.foldl_cons, cut_flat q mk l, cutStep_flat, List.append_assoc]; rfl
theorem cutStep_ne (q : Seg → OpT → Bool) (mk : OpT → Int × Int) (acc : List Seg) (o : OpT) (h : ∀ s ∈ acc, s.ops ≠ []) : ∀ s ∈ cutStep q mk acc o, s.ops ≠ [] := by
  unfold cutStep
  cases hl : acc.getLast? with
  | none => intro s hs; simp only [List.mem_singleton] at hs; subst hs; simp
  | some x =>
    obtain ⟨ini, rfl⟩ := List.getLast?_eq_some_iff.1 hl
    simp only
    split
    · intro s hs
      rcases List.mem_append.1 hs with hs | hs
      · exact h s hs
      · simp only [List.mem_singleton] at hs; subst hs; simp
    · intro s hs
      rw [List.dropLast_concat] at hs
      rcases List.mem_append.1 hs with hs | hs
      · exact h s (List.mem_append_left _ hs)
      · simp only [List.mem_singleton] at hs; subst hs; simp
theorem cut_ne (q : Seg → OpT → Bool) (mk : OpT → Int × Int) : ∀ (l : List OpT) (acc : List Seg), (∀ s ∈ acc, s.ops ≠ []) → ∀ s ∈ l.foldl (cutStep q mk) acc, s.ops ≠ []
  | [], acc, h => h
  | o :: l, acc, h => by rw [List.foldl_cons]; exact cut_ne q mk l _ (cutStep_ne q mk acc o h)
theorem segs_len : ∀ (acc : List Seg), (∀ s ∈ acc, s.ops ≠ []) → acc.length ≤ (acc.flatMap Seg.ops).length
  | [], _ => Nat.zero_le _
  | a :: l, h => by
    have := segs_len l fun s hs => h s (List.mem_cons_of_mem _ hs)
    have ha := List.length_pos_iff.2 (h a List.mem_cons_self)
    rw [List.flatMap_cons, List.length_append, List.length_cons]; omega
theorem seg_len (acc : List Seg) (s : Seg) (h : s ∈ acc) : s.ops.length ≤ (acc.flatMap Seg.ops).length := by
  induction acc with
  | nil => cases h
  | cons a l ih =>
    rw [List.flatMap_cons, List.length_append]
    rcases List.mem_cons.1 h with rfl | h
    · omega
    · have := ih h; omega
theorem segCells_flat : ∀ (l : List Seg) (vs : List Value), (List.zipWith segC l vs).flatten = segCells l vs
  | [], vs => by cases vs <;> rfl
  | a :: l, [] => rfl
  | a :: l, b :: vs => by rw [List.zipWith_cons_cons, List.flatten_cons, segCells_flat l vs]; rfl
end Go.Proofs.Ytbeoedgoikcbpaa.Cut

namespace Go.Proofs.Ytbeoedgoikcbpaa.Cut
set_option linter.unusedSimpArgs false
set_option linter.unusedVariables false
set_option maxRecDepth 100000
open Go Go.Ann Go.RowKit
def leq (a b : OpT) : Bool := decide (a.Invoke < b.Invoke ∨ a.Invoke = b.Invoke ∧ a.ID ≤ b.ID)
theorem offA_zero {a : Option Addr} {c sz : Nat} : offA a c 0 sz = a := by
  unfold offA
  rw [Nat.zero_mul]
  split
  · rfl
  · cases a with
    | none => rfl
    | some a => exact congrArg some (by unfold Addr.add; rfl)
theorem rd_take {w : World} {sz n k cap : Nat} {a : Option Addr} {xs : List Value} (h : Rd w sz (.slice a n cap) n xs) (hk : k ≤ n) : Rd w sz (.slice (offA a cap 0 sz) k cap) k (xs.take (k * sz)) := by
  rw [offA_zero]; exact h.take hk
theorem rd_drop {w : World} {sz n k cap : Nat} {a : Option Addr} {xs : List Value} (h : Rd w sz (.slice a n cap) n xs) (hk : k ≤ n) : Rd w sz (.slice (offA a cap k sz) (n - k) (cap - k)) (n - k) (xs.drop (k * sz)) := by
  obtain ⟨h1, a', cap', he, h2, h3⟩ := h
  simp only [Value.slice.injEq, true_and] at he
  obtain ⟨rfl, rfl⟩ := he
  refine ⟨by rw [List.length_drop, h1, Nat.sub_mul], _, _, rfl, by omega, fun h => ?_⟩
  obtain ⟨ad, rfl, h4⟩ := h3 (by omega)
  refine ⟨ad.add (k * sz), by unfold offA; rw [if_neg (by omega)]; rfl, fun j u hu => ?_⟩
  rw [add_add]
  rw [List.getElem?_drop] at hu
  exact h4 _ u hu
theorem take_flat {l : List OpT} {k : Nat} : (l.flatMap OpT.enc).take (k * 11) = (l.take k).flatMap OpT.enc := by
  induction l generalizing k with
  | nil => simp
  | cons a l ih =>
    cases k with
    | zero => simp
    | succ k => rw [List.flatMap_cons, List.take_succ_cons, List.flatMap_cons, show (k + 1) * 11 = a.enc.length + k * 11 by rw [OpT.len]; omega, List.take_length_add_append, ih]
theorem drop_flat {l : List OpT} {k : Nat} : (l.flatMap OpT.enc).drop (k * 11) = (l.drop k).flatMap OpT.enc := by
  induction l generalizing k with
  | nil => simp
  | cons a l ih =>
    cases k with
    | zero => simp
    | succ k => rw [List.flatMap_cons, List.drop_succ_cons, show (k + 1) * 11 = a.enc.length + k * 11 by rw [OpT.len]; omega, List.drop_length_add_append, ih]
end Go.Proofs.Ytbeoedgoikcbpaa.Cut

namespace Go.Proofs.Ytbeoedgoikcbpaa.Cut
set_option linter.unusedSimpArgs false
set_option linter.unusedVariables false
set_option maxRecDepth 100000
open Go Go.Ann Go.RowKit
def segQ (s : Seg) (o : OpT) : Bool := s.ops.all fun x => before x o
def Piece (r : List OpT) (al : Option Addr) (cl : Nat) (s : Seg) (v : Value) : Prop := ∃ f t, f ≤ t ∧ t ≤ r.length ∧ v = .slice (offA al cl f 11) (t - f) (cl - f) ∧ s.ops = (r.take t).drop f
theorem Piece.rd {w : World} {r : List OpT} {al : Option Addr} {cl : Nat} {s : Seg} {v : Value} (h : Piece r al cl s v) (hr : RdS w 11 OpT.enc (.slice al r.length cl) r) : RdS w 11 OpT.enc v s.ops := by
  obtain ⟨f, t, h1, h2, rfl, h3⟩ := h
  have e1 := rd_drop (Rd.take (k := t) hr h2) h1
  rw [take_flat, drop_flat] at e1
  have e2 : s.ops.length = t - f := by rw [h3, List.length_drop, List.length_take]; omega
  unfold RdS
  rw [e2, h3]
  exact e1
end Go.Proofs.Ytbeoedgoikcbpaa.Cut

namespace Go.Proofs.Ytbeoedgoikcbpaa.Cut
set_option linter.unusedSimpArgs false
set_option linter.unusedVariables false
set_option maxRecDepth 100000
open Go Go.Ann Go.RowKit
def Next (l : List OpT) (any : Bool) (last : Int) (k : Nat) (found : Bool) (next : Int) : Prop :=
  (found = false ∧ ∀ o ∈ l.take k, any = true ∧ o.Object ≤ last) ∨ (found = true ∧ (∃ o ∈ l.take k, o.Object = next) ∧ (any = true → last < next) ∧ ∀ o ∈ l.take k, (any = true → last < o.Object) → next ≤ o.Object)
def left (l : List OpT) (any : Bool) (last : Int) : List OpT := l.filter fun o => !any || decide (last < o.Object)
theorem mem_take_succ {l : List OpT} {k : Nat} (hk : k < l.length) {o : OpT} : o ∈ l.take (k + 1) ↔ o ∈ l.take k ∨ o = l[k] := by
  rw [List.take_succ_eq_append_getElem hk, List.mem_append, List.mem_singleton]
theorem Next.take {l : List OpT} {any found : Bool} {last next : Int} {k : Nat} (h : Next l any last k found next) (hk : k < l.length) (h1 : any = true → last < l[k].Object) (h2 : found = true → l[k].Object < next) : Next l any last (k + 1) true l[k].Object := by
  refine .inr ⟨rfl, ⟨_, (mem_take_succ hk).2 (.inr rfl), rfl⟩, h1, fun o ho hlo => ?_⟩
  rcases (mem_take_succ hk).1 ho with ho | rfl
  · rcases h with ⟨_, h⟩ | ⟨hf, _, _, h⟩
    · have := h o ho; have := hlo this.1; omega
    · have := h o ho hlo; have := h2 hf; omega
  · exact Int.le_refl _
end Go.Proofs.Ytbeoedgoikcbpaa.Cut
