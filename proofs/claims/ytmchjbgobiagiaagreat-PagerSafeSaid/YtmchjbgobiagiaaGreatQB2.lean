/- Texts put together by program. -/
import Derived.Test.YtmchjbgobiagiaaGreatQB1
namespace Go.Ann
open Go Go.RowKit Go.WideShapes
set_option linter.unusedVariables false
set_option linter.unusedSimpArgs false
inductive Res where
  | blk (b : Nat) (cs : Array Value) (t : TypeId)
  | row (v : Value) (e sz n : Nat) (xs : List Value)
  | obj (b : Nat) (o : Obj)
def Res.own : Res → Option Nat
  | .blk b _ _ => some b
  | .row v _ _ _ _ => v.ownBlock
  | .obj b _ => some b
def Res.ok (w : World) (base : Nat) : Res → Prop
  | .blk b cs t => Blk w b cs t ∧ base ≤ b
  | .row v e sz n xs => w.ownsRow base e sz v n xs
  | .obj b o => w.heap[b]? = some o ∧ base ≤ b
structure Inv where
  holds : World → Prop
  foot : Nat → Prop
  loc : ∀ w w' : World, holds w → (∀ k, foot k → w'.heap[k]? = w.heap[k]?) → holds w'
structure St (W0 w : World) (F : Nat → Prop) (L : List Res) (I : List Inv) : Prop where
  bel : Below W0.heap.size W0 w
  foot : ∀ k, F k → W0.heap.size ≤ k ∧ k < w.heap.size
  res : ∀ r ∈ L, r.ok w W0.heap.size ∧ ∀ k, r.own = some k → ¬ F k
  nd : (L.filterMap Res.own).Nodup
  inv : ∀ a ∈ I, a.holds w ∧ ∀ k, a.foot k → k < w.heap.size ∧ ¬ F k ∧ ∀ r ∈ L, r.own ≠ some k
theorem Res.ok.lt {w : World} {base : Nat} {r : Res} (h : r.ok w base) : ∀ k, r.own = some k → base ≤ k ∧ k < w.heap.size := by
  intro k hk
  cases r with
  | blk b cs t => simp only [Res.own, Option.some.injEq] at hk; subst hk; exact ⟨h.2, h.1.lt⟩
  | row v e sz n xs => exact World.ownsRow.lt h k hk
  | obj b o => simp only [Res.own, Option.some.injEq] at hk; subst hk; exact ⟨h.2, (Array.getElem?_eq_some_iff.1 h.1).1⟩
theorem Res.ok.chg {S : Nat → Prop} {w w' : World} {base : Nat} {r : Res} (h : r.ok w base) (hc : Chg S w w') (hS : ∀ k, r.own = some k → ¬ S k) : r.ok w' base := by
  cases r with
  | blk b cs t => exact ⟨h.1.chg hc (hS b rfl), h.2⟩
  | row v e sz n xs => exact hc.own h hS
  | obj b o => exact ⟨(hc.block b (Array.getElem?_eq_some_iff.1 h.1).1 (hS b rfl)).trans h.1, h.2⟩
section
variable {W0 w w' : World} {F F' : Nat → Prop} {L : List Res} {I : List Inv}
theorem St.start : St W0 W0 (fun _ => False) [] [] := ⟨Below.refl _ _, fun _ h => h.elim, fun _ h => (by cases h), List.Pairwise.nil, fun _ h => (by cases h)⟩
theorem St.size (h : St W0 w F L I) : W0.heap.size ≤ w.heap.size := h.bel.size
theorem St.below (h : St W0 w F L I) {B : Nat} (hb : Below B w w') (hB : w.heap.size ≤ B) : St W0 w' F L I :=
  have hc : Chg (fun _ => False) w w' := Chg.of_below (hb.mono hB)
  ⟨h.bel.trans (hb.mono (Nat.le_trans h.size hB)), fun k hk => ⟨(h.foot k hk).1, Nat.lt_of_lt_of_le (h.foot k hk).2 hb.size⟩, fun r hr => ⟨(h.res r hr).1.chg hc fun _ _ h => h, (h.res r hr).2⟩, h.nd,
    fun a ha => ⟨a.loc _ _ (h.inv a ha).1 fun k hk => hb.block k (Nat.lt_of_lt_of_le ((h.inv a ha).2 k hk).1 hB), fun k hk => ⟨Nat.lt_of_lt_of_le ((h.inv a ha).2 k hk).1 hb.size, ((h.inv a ha).2 k hk).2⟩⟩⟩
theorem St.call (h : St W0 w F L I) (hb : Below w.heap.size w w') : St W0 w' F L I := h.below hb (Nat.le_refl _)
theorem St.drew (h : St W0 w F L I) : St W0 w.drew F L I := h.below ((Below.refl _ w).drew) (Nat.le_refl _)
theorem St.alloc' (h : St W0 w F L I) (o : Obj) : St W0 (w.alloc o) F L I := h.below ((Below.refl w.heap.size w).alloc (Nat.le_refl _) o) (Nat.le_refl _)
theorem fresh_nd {L : List Res} {r : Res} (hn : (L.filterMap Res.own).Nodup) (hr : ∀ k, r.own = some k → ∀ x ∈ L, x.own ≠ some k) : ((r :: L).filterMap Res.own).Nodup := by
  cases hk : r.own with
  | none => rw [List.filterMap_cons_none hk]; exact hn
  | some k =>
    rw [List.filterMap_cons_some hk]
    refine List.nodup_cons.2 ⟨fun hm => ?_, hn⟩
    obtain ⟨x, hx, hxk⟩ := List.mem_filterMap.1 hm
    exact hr k hk x hx hxk
theorem St.add (h : St W0 w F L I) (hb : Below w.heap.size w w') (r : Res) (hr : r.ok w' W0.heap.size) (hn : ∀ k, r.own = some k → w.heap.size ≤ k) : St W0 w' F (r :: L) I := by
  have h' := h.call hb
  refine ⟨h'.bel, h'.foot, ?_, fresh_nd h.nd fun k hk x hx hxk => ?_, fun a ha => ⟨(h'.inv a ha).1, fun k hk => ⟨((h'.inv a ha).2 k hk).1, ((h'.inv a ha).2 k hk).2.1, ?_⟩⟩⟩
  · intro x hx
    rcases List.mem_cons.1 hx with rfl | hx
    · exact ⟨hr, fun k hk hF => by have := (h.foot k hF).2; have := hn k hk; omega⟩
    · exact h'.res x hx
  · have := ((h.res x hx).1.lt k hxk).2; have := hn k hk; omega
  · intro x hx
    rcases List.mem_cons.1 hx with rfl | hx
    · intro e
      have := hn k e
      have := ((h.inv a ha).2 k hk).1
      omega
    · exact ((h'.inv a ha).2 k hk).2.2 x hx
theorem St.box (h : St W0 w F L I) (cs : Array Value) (t : TypeId) : St W0 (w.alloc (.cells cs t)) F (.blk w.heap.size cs t :: L) I :=
  h.add ((Below.refl _ w).alloc (Nat.le_refl _) _) _ ⟨Blk.new, h.size⟩ fun k hk => by simp only [Res.own, Option.some.injEq] at hk; omega
theorem St.nilRow (h : St W0 w F L I) (e sz : Nat) : St W0 w F (.row (.slice none 0 0) e sz 0 [] :: L) I :=
  h.add (Below.refl _ w) _ (World.ownsRow_nil _ _ _ _) fun k hk => by simp [Res.own, Value.ownBlock] at hk
theorem St.sub (h : St W0 w F L I) {L' : List Res} (hs : L'.Sublist L) : St W0 w F L' I :=
  ⟨h.bel, h.foot, fun r hr => h.res r (hs.subset hr), h.nd.sublist (hs.filterMap _), fun a ha => ⟨(h.inv a ha).1, fun k hk => ⟨((h.inv a ha).2 k hk).1, ((h.inv a ha).2 k hk).2.1, fun r hr => ((h.inv a ha).2 k hk).2.2 r (hs.subset hr)⟩⟩⟩
theorem St.perm (h : St W0 w F L I) {L' : List Res} (hs : L'.Perm L) : St W0 w F L' I :=
  ⟨h.bel, h.foot, fun r hr => h.res r (hs.subset hr), (hs.filterMap _).nodup_iff.2 h.nd, fun a ha => ⟨(h.inv a ha).1, fun k hk => ⟨((h.inv a ha).2 k hk).1, ((h.inv a ha).2 k hk).2.1, fun r hr => ((h.inv a ha).2 k hk).2.2 r (hs.subset hr)⟩⟩⟩
theorem St.inv_sub (h : St W0 w F L I) {I' : List Inv} (hs : ∀ a ∈ I', a ∈ I) : St W0 w F L I' := ⟨h.bel, h.foot, h.res, h.nd, fun a ha => h.inv a (hs a ha)⟩
theorem nd_other {L : List Res} (hn : (L.filterMap Res.own).Nodup) {i j : Nat} {r x : Res} (hi : L[i]? = some r) (hj : L[j]? = some x) (hij : i ≠ j) {k : Nat} (hr : r.own = some k) : x.own ≠ some k := by
  intro hx
  induction L generalizing i j with
  | nil => simp at hi
  | cons y l ih =>
    match i, j, hi, hj, hij with
    | 0, 0, _, _, h => exact h rfl
    | 0, j + 1, hi, hj, _ =>
      simp only [List.getElem?_cons_zero, Option.some.injEq] at hi; subst hi
      simp only [List.getElem?_cons_succ] at hj
      rw [List.filterMap_cons_some hr] at hn
      exact (List.nodup_cons.1 hn).1 (List.mem_filterMap.2 ⟨x, List.mem_of_getElem? hj, hx⟩)
    | i + 1, 0, hi, hj, _ =>
      simp only [List.getElem?_cons_zero, Option.some.injEq] at hj; subst hj
      simp only [List.getElem?_cons_succ] at hi
      rw [List.filterMap_cons_some hx] at hn
      exact (List.nodup_cons.1 hn).1 (List.mem_filterMap.2 ⟨r, List.mem_of_getElem? hi, hr⟩)
    | i + 1, j + 1, hi, hj, h =>
      simp only [List.getElem?_cons_succ] at hi hj
      refine ih ?_ hi hj (by omega)
      cases hy : y.own with
      | none => rw [List.filterMap_cons_none hy] at hn; exact hn
      | some m => rw [List.filterMap_cons_some hy] at hn; exact (List.nodup_cons.1 hn).2
theorem nd_set {L : List Res} {i : Nat} {r r' : Res} (hn : (L.filterMap Res.own).Nodup) (hi : L[i]? = some r) (h : ∀ k, r'.own = some k → r.own = some k ∨ ∀ x ∈ L, x.own ≠ some k) : ((L.set i r').filterMap Res.own).Nodup := by
  induction L generalizing i with
  | nil => simp at hi
  | cons y l ih =>
    match i, hi with
    | 0, hi =>
      simp only [List.getElem?_cons_zero, Option.some.injEq] at hi; subst hi
      simp only [List.set_cons_zero]
      have hl : (l.filterMap Res.own).Nodup := by
        cases hy : y.own with
        | none => rw [List.filterMap_cons_none hy] at hn; exact hn
        | some m => rw [List.filterMap_cons_some hy] at hn; exact (List.nodup_cons.1 hn).2
      refine fresh_nd hl fun k hk x hx => ?_
      rcases h k hk with h1 | h1
      · intro e
        rw [List.filterMap_cons_some h1] at hn
        exact (List.nodup_cons.1 hn).1 (List.mem_filterMap.2 ⟨x, hx, e⟩)
      · exact h1 x (List.mem_cons_of_mem _ hx)
    | i + 1, hi =>
      simp only [List.getElem?_cons_succ] at hi
      simp only [List.set_cons_succ]
      have hl : (l.filterMap Res.own).Nodup := by
        cases hy : y.own with
        | none => rw [List.filterMap_cons_none hy] at hn; exact hn
        | some m => rw [List.filterMap_cons_some hy] at hn; exact (List.nodup_cons.1 hn).2
      refine fresh_nd (ih hl hi fun k hk => (h k hk).imp id fun h1 x hx => h1 x (List.mem_cons_of_mem _ hx)) fun k hk x hx => ?_
      intro e
      obtain ⟨j, hj, hjx⟩ := List.mem_iff_getElem.1 hx
      rw [List.getElem_set] at hjx
      split at hjx
      · subst hjx
        rcases h k e with h1 | h1
        · have : (y :: l)[0]? = some y := rfl
          exact nd_other hn (i := i + 1) (j := 0) (by simpa using hi) this (by omega) h1 hk
        · exact h1 y List.mem_cons_self hk
      · rw [List.filterMap_cons_some hk] at hn
        subst hjx
        exact (List.nodup_cons.1 hn).1 (List.mem_filterMap.2 ⟨_, List.getElem_mem _, e⟩)
theorem St.upd (h : St W0 w F L I) (i : Nat) {r : Res} (hi : L[i]? = some r) (hc : Chg (fun k => r.own = some k) w w') (r' : Res) (hr : r'.ok w' W0.heap.size) (hn : ∀ k, r'.own = some k → r.own = some k ∨ w.heap.size ≤ k) : St W0 w' F (L.set i r') I := by
  have hm := List.mem_of_getElem? hi
  have hlow := fun k hk => ((h.res r hm).1.lt k hk)
  have hset : ∀ x ∈ L.set i r', x = r' ∨ ∃ j, j ≠ i ∧ L[j]? = some x := by
    intro x hx
    obtain ⟨j, hj, hjx⟩ := List.mem_iff_getElem.1 hx
    rw [List.getElem_set] at hjx
    split at hjx
    · exact .inl hjx.symm
    · rename_i hij
      exact .inr ⟨j, fun e => hij e.symm, by rw [← hjx]; exact List.getElem?_eq_getElem (by simpa using hj)⟩
  have hF : ∀ k, r'.own = some k → ¬ F k := fun k hk hF => by
    rcases hn k hk with h1 | h1
    · exact (h.res r hm).2 k h1 hF
    · have := (h.foot k hF).2; omega
  refine ⟨h.bel.trans (hc.below h.size fun k hk hS => by have := (hlow k hS).1; omega), fun k hk => ⟨(h.foot k hk).1, Nat.lt_of_lt_of_le (h.foot k hk).2 hc.size⟩, ?_, nd_set h.nd hi fun k hk => ?_, ?_⟩
  · intro x hx
    rcases hset x hx with rfl | ⟨j, hji, hj⟩
    · exact ⟨hr, hF⟩
    · have hx' := List.mem_of_getElem? hj
      exact ⟨(h.res x hx').1.chg hc fun k hk hrk => nd_other h.nd hi hj (Ne.symm hji) hrk hk, (h.res x hx').2⟩
  · rcases hn k hk with h1 | h1
    · exact .inl h1
    · exact .inr fun x hx hxk => by have := ((h.res x hx).1.lt k hxk).2; omega
  · intro a ha
    refine ⟨a.loc _ _ (h.inv a ha).1 fun k hk => hc.block k ((h.inv a ha).2 k hk).1 (((h.inv a ha).2 k hk).2.2 r hm), fun k hk => ⟨Nat.lt_of_lt_of_le ((h.inv a ha).2 k hk).1 hc.size, ((h.inv a ha).2 k hk).2.1, fun x hx => ?_⟩⟩
    rcases hset x hx with rfl | ⟨j, hji, hj⟩
    · intro e
      rcases hn k e with h1 | h1
      · exact ((h.inv a ha).2 k hk).2.2 r hm h1
      · have := ((h.inv a ha).2 k hk).1; omega
    · exact ((h.inv a ha).2 k hk).2.2 x (List.mem_of_getElem? hj)
theorem St.blk (h : St W0 w F L I) (i : Nat) {b : Nat} {cs : Array Value} {t : TypeId} (hi : L[i]? = some (.blk b cs t)) : Blk w b cs t := (h.res _ (List.mem_of_getElem? hi)).1.1
theorem St.low (h : St W0 w F L I) (i : Nat) {b : Nat} {cs : Array Value} {t : TypeId} (hi : L[i]? = some (.blk b cs t)) : W0.heap.size ≤ b ∧ b < w.heap.size := ⟨(h.res _ (List.mem_of_getElem? hi)).1.2, (h.blk i hi).lt⟩
theorem St.row (h : St W0 w F L I) (i : Nat) {v : Value} {e sz n : Nat} {xs : List Value} (hi : L[i]? = some (.row v e sz n xs)) : w.ownsRow W0.heap.size e sz v n xs := (h.res _ (List.mem_of_getElem? hi)).1
theorem St.obj (h : St W0 w F L I) (i : Nat) {b : Nat} {o : Obj} (hi : L[i]? = some (.obj b o)) : w.heap[b]? = some o := (h.res _ (List.mem_of_getElem? hi)).1.1
theorem St.lay (h : St W0 w F L I) (o : Obj) : St W0 (w.alloc o) F (.obj w.heap.size o :: L) I :=
  h.add ((Below.refl _ w).alloc (Nat.le_refl _) _) _ ⟨World.alloc_heap_new w o, h.size⟩ fun k hk => by simp only [Res.own, Option.some.injEq] at hk; omega
theorem St.putObj (h : St W0 w F L I) (i : Nat) {b : Nat} {o : Obj} (hi : L[i]? = some (.obj b o)) (o' : Obj) : St W0 (w.putObj b o') F (L.set i (.obj b o')) I :=
  h.upd i hi ((Chg.refl _ w).grown (grownBy_putObj' w b o') fun k hk _ => hk) (.obj b o')
    ⟨World.putObj_heap_same (Array.getElem?_eq_some_iff.1 (h.obj i hi)).1, (h.res _ (List.mem_of_getElem? hi)).1.2⟩ fun k hk => .inl hk
theorem St.ne (h : St W0 w F L I) (i j : Nat) {r x : Res} (hi : L[i]? = some r) (hj : L[j]? = some x) (hij : i ≠ j) {k : Nat} (hr : r.own = some k) : x.own ≠ some k := nd_other h.nd hi hj hij hr
theorem St.rules (h : St W0 w F L I) (i : Nat) {b : Nat} {cs : Array Value} {t : TypeId} (hi : L[i]? = some (.blk b cs t)) : (∀ i, w.cell? ⟨b, i, none⟩ = cs[i]?) ∧ (∀ i, w.frozen? ⟨b, i, none⟩ = false) ∧ (∀ n, okSize cs n = true → cellsO w ⟨b, 0, none⟩ 0 n = some cs.toList) := (h.blk i hi).rules
theorem St.set (h : St W0 w F L I) (i : Nat) {b : Nat} {cs : Array Value} {t : TypeId} (hi : L[i]? = some (.blk b cs t)) (j : Nat) (v : Value) : St W0 (w.setCell ⟨b, j, none⟩ v) F (L.set i (.blk b (cs.setIfInBounds j v) t)) I :=
  h.upd i hi ((Chg.refl _ w).setCell _ _ fun _ => rfl) _ ⟨(h.blk i hi).set j v, (h.low i hi).1⟩ fun k hk => .inl hk
theorem St.grow (h : St W0 w F L I) (i : Nat) {v v' : Value} {e sz n n' : Nat} {xs xs' : List Value} (hi : L[i]? = some (.row v e sz n xs)) (hg : w.grownBy w' v.ownBlock) (hr : w'.ownsRow W0.heap.size e sz v' n' xs')
    (hn : ∀ k, v'.ownBlock = some k → v.ownBlock = some k ∨ w.heap.size ≤ k) : St W0 w' F (L.set i (.row v' e sz n' xs')) I :=
  h.upd i hi ((Chg.refl _ w).grown hg fun k hk _ => hk) (.row v' e sz n' xs') hr hn
theorem St.put (h : St W0 w F L I) (i : Nat) {g cap : Nat} {e sz n : Nat} {xs : List Value} (hi : L[i]? = some (.row (.slice (some ⟨g, 0, none⟩) n cap) e sz n xs)) (j : Nat) (u : Value) :
    St W0 (w.setCell ⟨g, j, none⟩ u) F (L.set i (.row (.slice (some ⟨g, 0, none⟩) n cap) e sz n (xs.set j u))) I :=
  h.upd i hi ((Chg.refl _ w).setCell ⟨g, j, none⟩ u fun _ => rfl) (.row (.slice (some ⟨g, 0, none⟩) n cap) e sz n (xs.set j u)) ((h.row i hi).stored j u).1 fun k hk => .inl hk
theorem St.keep (h : St W0 w F L I) (a : Inv) (ha : a.holds w) (hf : ∀ k, a.foot k → k < w.heap.size ∧ ¬ F k ∧ ∀ r ∈ L, r.own ≠ some k) : St W0 w F L (a :: I) :=
  ⟨h.bel, h.foot, h.res, h.nd, fun x hx => by
    rcases List.mem_cons.1 hx with rfl | hx
    · exact ⟨ha, hf⟩
    · exact h.inv x hx⟩
theorem St.seal {r : Res} (h : St W0 w F (r :: L) I) (a : Inv) (ha : a.holds w) (hf : ∀ k, a.foot k → r.own = some k) : St W0 w F L (a :: I) := by
  have hr := h.res r List.mem_cons_self
  refine (h.sub (List.sublist_cons_self r L)).keep a ha fun k hk => ?_
  have e := hf k hk
  refine ⟨(hr.1.lt k e).2, hr.2 k e, fun x hx hxk => ?_⟩
  obtain ⟨j, hj, rfl⟩ := List.mem_iff_getElem.1 hx
  exact nd_other h.nd (i := 0) (j := j + 1) rfl (by simp [List.getElem?_eq_getElem hj]) (by omega) e hxk
theorem St.get (h : St W0 w F L I) (i : Nat) {a : Inv} (hi : I[i]? = some a) : a.holds w := (h.inv a (List.mem_of_getElem? hi)).1
end
section
variable {P : Program} {W0 w : World} {F : Nat → Prop} {L : List Res} {I : List Inv} {K : Value → World → Prop}
theorem St.fill (h : St W0 w F L I) (i : Nat) {b : Nat} {z cs : Array Value} {t : TypeId} (hi : L[i]? = some (.blk b z t)) (hs : z.size = cs.size) : St W0 (w.fill b cs) F (L.set i (.blk b cs t)) I :=
  h.upd i hi ((Chg.refl _ w).fill fun _ => rfl) _ ⟨(h.blk i hi).fill hs, (h.low i hi).1⟩ fun k hk => .inl hk
theorem bsW_none {t e size bytes : Nat} {z : Value} (hm : mkI P t = some (e, size, bytes, z)) (hK : K (.slice (some ⟨w.heap.size, 0, none⟩) 0 0) (w.alloc (.cells #[] e))) : bsW P t 0 [] [] w K := by
  obtain ⟨i, hu, hi, hzz, rfl, rfl⟩ := mkI_some hm
  refine ⟨_, _, ?_, hK⟩
  simp [Instr.buildSlice, Sem.run_bind, run_underlying hu, Result.andThen, run_sizeOf w hi, zipP, Instr.fill, newRow, run_newObj_alloc]
  congr 2
  exact Array.eq_empty_of_size_eq_zero (by simp)
theorem St.emptyRow (h : St W0 w F L I) (e sz : Nat) : St W0 (w.alloc (.cells #[] e)) F (.row (.slice (some ⟨w.heap.size, 0, none⟩) 0 0) e sz 0 [] :: L) I :=
  h.add ((Below.refl _ w).alloc (Nat.le_refl _) _) _ (by
    refine ⟨by simp, .inr ⟨w.heap.size, 0, #[], rfl, h.size, Blk.new, Nat.le_refl _, Nat.zero_le _, by simp, by simp⟩⟩) fun k hk => by simp only [Res.own, Value.ownBlock, Option.some.injEq] at hk; omega
theorem own_slice {base e sz n : Nat} {v : Value} {xs : List Value} (h : w.ownsRow base e sz v n xs) : ∃ a cap, v = .slice a n cap ∧ n ≤ cap := by
  rcases h.2 with ⟨rfl, rfl⟩ | ⟨g, cap, cur, rfl, _, _, hn, _⟩
  · exact ⟨none, 0, rfl, Nat.le_refl _⟩
  · exact ⟨_, cap, rfl, hn⟩
theorem rawB_append0 {t ty e size bytes : Nat} {z : Value} {cs : Array Bool} {a a' : Option Addr} {n cap c : Nat}
    (hm : mkI P t = some (e, size, bytes, z)) (hle : n ≤ cap) (hK : K (.slice a n cap) w) : rawB P .append #[t, t] ty cs [.slice a n cap, .slice a' 0 c] w K := by
  obtain ⟨i, hu, hi, hzz, hsi, hby⟩ := mkI_some hm
  refine ⟨_, w, ?_, hK⟩
  cases a <;> cases a' <;> simp [builtin, Builtin.append_, run_underlying hu, sizeOf, typeInfo, hi, Builtin.lenOf, Builtin.firstCells, loadCells, loadCellsFrom, hle, storeCells]
theorem St.append {t ty e sz bytes : Nat} {z : Value} {cs : Array Bool} {n m : Nat} {v x : Value} {xs ys : List Value} (h : St W0 w F L I) (i : Nat) (hi : L[i]? = some (.row v e sz n xs))
    (hm : mkI P t = some (e, sz, bytes, z)) (hzs : z.cells.size = sz) (hsz : 0 < sz) (hx : Rd w sz x m ys) (h1 : ∀ u ∈ ys, u.oneCell' = true) (hbytes : (n + m) * bytes ≤ 140737488355328) (h63 : n + m ≤ 9223372036854775807)
    (hK : ∀ v' w', St W0 w' F (L.set i (.row v' e sz (n + m) (xs ++ ys))) I → Chg (fun k => v.ownBlock = some k) w w' → K v' w') : rawB P .append #[t, t] ty cs [v, x] w K := by
  have hr := h.row i hi
  obtain ⟨hl, a, c, rfl, hac, hcell⟩ := hx
  obtain ⟨a', cap', rfl, hac'⟩ := own_slice hr
  rcases Nat.eq_zero_or_pos m with hm0 | hm0
  · subst hm0
    have hy : ys = [] := List.eq_nil_of_length_eq_zero (by rw [hl]; simp)
    subst hy
    refine rawB_append0 hm hac' (hK _ _ ?_ (Chg.refl _ _))
    rw [List.append_nil, Nat.add_zero]
    have : L.set i (.row (.slice a' n cap') e sz n xs) = L := by
      apply List.ext_getElem?
      intro j
      rw [List.getElem?_set]
      split
      · rename_i e; subst e; rw [hi]; simp [(List.getElem?_eq_some_iff.1 hi).1]
      · rfl
    rw [this]; exact h
  · obtain ⟨ad, rfl, hc⟩ := hcell (by omega)
    refine rawB_append hm hzs hsz hr hl hc h1 hm0 hbytes h63 h.size ?_
    intro g cap w' hown hgr hg hlt
    refine hK _ _ (h.grow i hi hgr hown fun k hk => ?_) ((Chg.refl _ w).grown hgr fun k hk _ => hk)
    simp only [Value.ownBlock, Option.some.injEq] at hk
    subst hk
    exact hg.imp id fun e => Nat.le_of_eq e.symm
theorem rd_new {t : TypeId} {sz n : Nat} {cs : Array Value} (hs : cs.size = n * sz) : Rd (w.alloc (.cells cs t)) sz (.slice (some ⟨w.heap.size, 0, none⟩) n n) n cs.toList :=
  ⟨by simpa using hs, _, n, rfl, Nat.le_refl _, fun _ => ⟨_, rfl, fun j u hu => by rw [Addr.add_lit, Nat.zero_add, cA_new rfl]; simpa using hu⟩⟩
end
theorem RdS.of_own' {α : Type} {w : World} {B e sz n : Nat} {enc : α → List Value} {v : Value} {ys : List Value} (h : w.ownsRow B e sz v n ys) (xs : List α) (hn : n = xs.length) (hy : ys = xs.flatMap enc) : RdS w sz enc v xs := by
  subst hn hy; exact RdS.of_own h
def slFoot (v : Value) (k : Nat) : Prop := ∃ a n c, v = .slice (some a) n c ∧ n ≠ 0 ∧ k = a.block
theorem slFoot_own {v : Value} {k : Nat} (h : slFoot v k) : v.ownBlock = some k := by
  obtain ⟨a, n, c, rfl, _, rfl⟩ := h; rfl
theorem Rd.loc {w w' : World} {sz n : Nat} {v : Value} {xs : List Value} (h : Rd w sz v n xs) (hk : ∀ k, slFoot v k → w'.heap[k]? = w.heap[k]?) : Rd w' sz v n xs := by
  obtain ⟨h1, a, cap, rfl, h2, h3⟩ := h
  refine ⟨h1, a, cap, rfl, h2, fun hn => ?_⟩
  obtain ⟨ad, rfl, h4⟩ := h3 hn
  exact ⟨ad, rfl, fun j u hu => (World.cell?_of_block (hk _ (by rw [add_block]; exact ⟨_, _, _, rfl, hn, rfl⟩))).trans (h4 j u hu)⟩
theorem Rd.footLt {w : World} {sz n : Nat} {v : Value} {xs : List Value} (h : Rd w sz v n xs) (hs : 0 < sz) {k : Nat} (hk : slFoot v k) : k < w.heap.size := by
  obtain ⟨h1, a, cap, rfl, h2, h3⟩ := h
  obtain ⟨a', n', c', e, hn, rfl⟩ := hk
  simp only [Value.slice.injEq] at e
  obtain ⟨rfl, rfl, rfl⟩ := e
  obtain ⟨ad, e, h4⟩ := h3 hn
  simp only [Option.some.injEq] at e; subst e
  have h0 : 0 < xs.length := by rw [h1]; exact Nat.mul_pos (Nat.pos_of_ne_zero hn) hs
  have := World.block_lt_of_cell? w _ (h4 0 xs[0] (List.getElem?_eq_getElem h0))
  rwa [add_block] at this
theorem RdS.footLt {α : Type} {w : World} {sz : Nat} {enc : α → List Value} {v : Value} {xs : List α} (h : RdS w sz enc v xs) (hs : 0 < sz) {k : Nat} (hk : slFoot v k) : k < w.heap.size := Rd.footLt h hs hk
def Inv.rd {α : Type} (sz : Nat) (enc : α → List Value) (v : Value) (xs : List α) : Inv := ⟨fun w => RdS w sz enc v xs, slFoot v, fun _ _ h hk => Rd.loc h hk⟩
section
variable {W0 w w' : World} {F : Nat → Prop} {L : List Res} {I : List Inv} {α : Type} {sz : Nat} {enc : α → List Value} {v : Value} {xs : List α}
theorem St.addRd (h : St W0 w F L I) (hb : Below w.heap.size w w') (hr : RdS w' sz enc v xs) (hs : 0 < sz) (hf : ∀ k, slFoot v k → k < W0.heap.size ∨ (∃ a ∈ I, a.foot k) ∨ w.heap.size ≤ k) : St W0 w' F L (.rd sz enc v xs :: I) := by
  refine (h.call hb).keep _ hr fun k hk => ⟨hr.footLt hs hk, fun hF => ?_, fun r hr' e => ?_⟩
  · have hF' := h.foot k hF
    rcases hf k hk with h1 | ⟨a, ha, h1⟩ | h1
    · omega
    · exact ((h.inv a ha).2 k h1).2.1 hF
    · omega
  · have hl := (h.res r hr').1.lt k e
    rcases hf k hk with h1 | ⟨a, ha, h1⟩ | h1
    · omega
    · exact ((h.inv a ha).2 k h1).2.2 r hr' e
    · omega
theorem St.old (h : St W0 w F L I) (hr : RdS W0 sz enc v xs) (hs : 0 < sz) : St W0 w F L (.rd sz enc v xs :: I) :=
  h.addRd (Below.refl _ _) (hr.below h.bel hs) hs fun k hk => .inl (hr.footLt hs hk)
theorem St.rd (h : St W0 w F L I) (i : Nat) (hi : I[i]? = some (.rd sz enc v xs)) : RdS w sz enc v xs := h.get i hi
end
end Go.Ann

namespace Go.Ann
open Go Go.RowKit
set_option linter.unusedVariables false
set_option linter.unusedSimpArgs false
section
variable {P : Program} {N : Nat}
def lowE : Env → Env
  | [] => []
  | (m, v) :: ρ => if m < 1000000 then (m, v) :: lowE ρ else lowE ρ
theorem lowE_nil : lowE [] = [] := rfl
theorem lowE_cons {m : Nat} {v : Value} {ρ : Env} : lowE ((m, v) :: ρ) = if m < 1000000 then (m, v) :: lowE ρ else lowE ρ := rfl
def zipE : List Nat → List Value → Env → Env
  | p :: ps, v :: vs, ρ => zipE ps vs ((p, v) :: ρ)
  | _, _, ρ => ρ
theorem zipE_nil {vs : List Value} {ρ : Env} : zipE [] vs ρ = ρ := by cases vs <;> rfl
theorem zipE_none {ps : List Nat} {ρ : Env} : zipE ps [] ρ = ρ := by cases ps <;> rfl
theorem zipE_cons {p : Nat} {ps : List Nat} {v : Value} {vs : List Value} {ρ : Env} : zipE (p :: ps) (v :: vs) ρ = zipE ps vs ((p, v) :: ρ) := rfl
attribute [go_sem] lowE_nil lowE_cons zipE_nil zipE_none zipE_cons
theorem W_rangeF {g : Operand} {ps L : List Nat} {a b : Cmd} {ρ : Env} {w : World} {Q : Post} : W P (.rangeF g ps a b L) ρ w Q = RangeW P g ps a b ρ w (keepQ L Q) := (rfl)
theorem keepQ_normal {L : List Nat} {ρ : Env} {w : World} {Q : Post} : keepQ L Q .normal ρ w = Q .normal (restr L ρ) w := (rfl)
theorem keepQ_ret {L : List Nat} {ρ : Env} {w : World} {Q : Post} : keepQ L Q .ret ρ w = Q .ret ρ w := (rfl)
theorem keepQ_exit {L : List Nat} {ρ : Env} {w : World} {Q : Post} {i : Nat} : keepQ L Q (.exit i) ρ w = Q (.exit i) ρ w := (rfl)
theorem mark_beq {D n : Nat} : (D + 1000000 == n) = decide (D + 1000000 = n) := by rw [Bool.eq_iff_iff, beq_iff_eq, decide_eq_true_eq]
theorem marks_one {D : Nat} {v : Value} : marksD [(D + 1000000, v)] = [D] := by simp [marksD]
attribute [go_sem] W_rangeF mark_beq marks_one keepQ_normal keepQ_ret keepQ_exit
end
end Go.Ann

namespace Go.Ann
open Go Go.RowKit
def Gr (w w' : World) : Prop := Below w.heap.size w w' ∧ w.drawn ≤ w'.drawn
theorem Gr.refl (w : World) : Gr w w := ⟨Below.refl _ _, Nat.le_refl _⟩
theorem Gr.below {w w' : World} (h : Gr w w') : Below w.heap.size w w' := h.1
theorem Gr.trans {a b c : World} (h : Gr a b) (k : Gr b c) : Gr a c := ⟨Below.next h.1 k.1, Nat.le_trans h.2 k.2⟩
end Go.Ann

namespace Go.Ann
set_option linter.unusedSimpArgs false
set_option linter.unusedVariables false
open Go Go.RowKit
inductive ST where
  | nil
  | one (k i : Nat) (r : ST)
  | alt (i : Nat) (r q : ST)
  | stop
inductive GT where
  | nil
  | one (k : Nat) (x : Ins) (r : GT)
  | alt (x : Ins) (r q : GT)
  | stop
def insOf (l : List Oper) (i : Nat) : Option Ins :=
  match l[i]? with
  | none => none
  | some o => match stripG l o.guard with
    | some g => some ⟨o.dst, o.op, o.type, g⟩
    | none => none
def insT (l : List Oper) : ST → Option GT
  | .nil => some .nil
  | .stop => some .stop
  | .one k i r => match insOf l i, insT l r with
    | some x, some t => some (.one k x t)
    | _, _ => none
  | .alt i r q => match insOf l i, insT l r, insT l q with
    | some x, some t, some u => some (.alt x t u)
    | _, _, _ => none
def stepX (P : Program) (S : World → Prop) (k : Nat) (x : Ins) (ρ : Env) (w : World) (C : Env → World → Prop) : Prop :=
  match x.g with
  | none => opG P S k x.op x.ty ρ w fun v w' => C (put ρ x.dst v) w'
  | some (s, b) => match lk ρ s with
    | some (.bool c) => (c = b → opG P S k x.op x.ty ((s, .bool b) :: ρ) w fun v w' => C (put ((s, .bool b) :: ρ) x.dst v) w') ∧ (c = !b → C (put ((s, .bool !b) :: ρ) x.dst undef) w)
    | some (.tuple _) => C (put ρ x.dst undef) w
    | _ => False
def DT (P : Program) (S : World → Prop) : GT → List Nat → Env → World → Post → Prop
  | .nil, L, ρ, w, Q => Q .normal (restr L ρ) w
  | .one k x r, L, ρ, w, Q => stepX P S k x ρ w fun ρ' w' => DT P S r L ρ' w' Q
  | .alt x r q, L, ρ, w, Q => (stepX P S 2 x ρ w fun ρ' w' => DT P S r L ρ' w' Q) ∧ DT P S q L ρ w Q
  | .stop, _, _, _, _ => True
section
variable {P : Program} {S : World → Prop} {w : World} {ρ : Env} {Q : Post} {r q : GT} {L : List Nat} {d : Option Nat} {ty : TypeId} {k : Nat} {op : Op} {s : Nat} {b c : Bool} {x : Ins}
def DTn (P : Program) (S : World → Prop) (r : GT) (L : List Nat) (ρ : Env) (d : Option Nat) (Q : Post) : Value → World → Prop := fun v w => DT P S r L (put ρ d v) w Q
def DTs (P : Program) (S : World → Prop) (r : GT) (L : List Nat) (ρ : Env) (d : Option Nat) (Q : Post) : Value → World → Prop := fun v w => S w ∧ DT P S r L (put ρ d v) w Q
def opT (P : Program) (S : World → Prop) (k : Nat) (op : Op) (ty : TypeId) (r : GT) (L : List Nat) (ρ : Env) (d : Option Nat) (w : World) (Q : Post) : Prop := opG P S k op ty ρ w (DTn P S r L ρ d Q)
def dT (P : Program) (S : World → Prop) (o : Option Value) (s : Nat) (b : Bool) (k : Nat) (d : Option Nat) (op : Op) (ty : TypeId) (r : GT) (L : List Nat) (ρ : Env) (w : World) (Q : Post) : Prop :=
  match o with
  | some (.bool c) => (c = b → opT P S k op ty r L ((s, .bool b) :: ρ) d w Q) ∧ (c = !b → DT P S r L (put ((s, .bool !b) :: ρ) d undef) w Q)
  | some (.tuple _) => DT P S r L (put ρ d undef) w Q
  | _ => False
def nxT (P : Program) (S : World → Prop) (k : Nat) (x : Ins) (r : GT) (L : List Nat) (ρ : Env) (w : World) (Q : Post) : Prop := stepX P S k x ρ w fun ρ' w' => DT P S r L ρ' w' Q
theorem DT_nil : DT P S .nil L ρ w Q = Q .normal (restr L ρ) w := (rfl)
theorem DT_stop : DT P S .stop L ρ w Q = True := (rfl)
theorem DT_one : DT P S (.one k x r) L ρ w Q = nxT P S k x r L ρ w Q := (rfl)
theorem DT_alt : DT P S (.alt x r q) L ρ w Q = (nxT P S 2 x r L ρ w Q ∧ DT P S q L ρ w Q) := (rfl)
theorem nxT_plain : nxT P S k ⟨d, op, ty, none⟩ r L ρ w Q = opT P S k op ty r L ρ d w Q := (rfl)
theorem nxT_guard : nxT P S k ⟨d, op, ty, some (s, b)⟩ r L ρ w Q = dT P S (lk ρ s) s b k d op ty r L ρ w Q := by
  simp only [nxT, stepX, dT]; rfl
theorem DTn_app {v : Value} : DTn P S r L ρ d Q v w = DT P S r L (put ρ d v) w Q := (rfl)
theorem DTs_app {v : Value} : DTs P S r L ρ d Q v w = (S w ∧ DT P S r L (put ρ d v) w Q) := (rfl)
theorem opT_0 : opT P S 0 op ty r L ρ d w Q = pureW P op ty ρ w (DTn P S r L ρ d Q) := (rfl)
theorem opT_1 {t : TypeId} {x : Operand} : opT P S 1 (.load t x) ty r L ρ d w Q = ptrW (fun p => heldW P S t p w (DTn P S r L ρ d Q)) (ev ρ x) := (rfl)
theorem opT_2 : opT P S 2 op ty r L ρ d w Q = (noY ρ op ∧ opW P op ty ρ w (DTs P S r L ρ d Q)) := (rfl)
theorem dT_t : dT P S (some (.bool true)) s true k d op ty r L ρ w Q = opT P S k op ty r L ((s, .bool true) :: ρ) d w Q := by simp [dT]
theorem dT_f : dT P S (some (.bool false)) s false k d op ty r L ρ w Q = opT P S k op ty r L ((s, .bool false) :: ρ) d w Q := by simp [dT]
theorem dT_tf : dT P S (some (.bool true)) s false k d op ty r L ρ w Q = DT P S r L (put ((s, .bool true) :: ρ) d undef) w Q := by simp [dT]
theorem dT_ft : dT P S (some (.bool false)) s true k d op ty r L ρ w Q = DT P S r L (put ((s, .bool false) :: ρ) d undef) w Q := by simp [dT]
theorem dT_gen : dT P S (some (.bool c)) s b k d op ty r L ρ w Q = ((c = b → opT P S k op ty r L ((s, .bool b) :: ρ) d w Q) ∧ (c = !b → DT P S r L (put ((s, .bool !b) :: ρ) d undef) w Q)) := (rfl)
theorem dT_undef : dT P S (some undef) s b k d op ty r L ρ w Q = DT P S r L (put ρ d undef) w Q := (rfl)
end
attribute [go_sem low] dT_gen
attribute [go_sem] DT_nil DT_stop DT_one DT_alt nxT_plain nxT_guard DTn_app DTs_app opT_0 opT_1 opT_2 dT_t dT_f dT_tf dT_ft dT_undef
end Go.Ann

namespace Go.Ann
open Go Go.RowKit
set_option linter.unusedVariables false
set_option linter.unusedSimpArgs false
section
variable {κ : Type} {P : Program} {enc : κ → Value} {t : TypeId}
variable [DecidableEq κ]
structure KeyT (P : Program) (t : TypeId) (enc : κ → Value) (d : TypeDesc) : Prop where
  und : P.underlying t = some d
  chk' : ∀ (n : Nat) (w : World) (em : Bool) (a : κ), (Instr.checkKey em (n + 2) t (enc a)).run P w = .ok () w
  now : ∀ a b : κ, Instr.sameNow d (enc a) (enc b) = none ∨ Instr.sameNow d (enc a) (enc b) = some (decide (a = b))
  eq : ∀ (w : World) (a b : κ), (Op.equal t (enc a) (enc b)).run P w = .ok (decide (a = b)) w
theorem KeyT.chk {d : TypeDesc} (h : KeyT P t enc d) (w : World) (em : Bool) (a : κ) : (Instr.checkKey em 10000 t (enc a)).run P w = .ok () w := h.chk' 9998 w em a
variable {d : TypeDesc}
end
section
variable {P : Program} {t : TypeId}
end
end Go.Ann

namespace Go.Ann
open Go Go.RowKit
attribute [go_sem] storeW_fill List.setIfInBounds_toArray List.set_cons_zero List.set_cons_succ List.getElem_toArray List.getElem_cons_zero List.getElem_cons_succ Nat.reduceLeDiff Nat.reduceSub okSt_nil okSt_cons fillO_some fillO_none cF_same cF_blk fF_any size_fill Value.oneCell' Int.toNat_natCast Int.cast_ofNat_Int cast0 cast1 Int.natCast_add add_block add_off Classical.not_not decide_not Bool.not_eq_false decide_true decide_false Bool.true_beq Bool.false_beq beq_true beq_false Bool.true_bne Bool.false_bne Bool.bne_true Bool.bne_false decide_eq_true_eq Bool.not_eq_eq_eq_not Nat.mul_one List.size_toArray List.length_cons List.length_nil Nat.le_refl ldK_int ldK_bool ldK_str ldK_slice ldK_ptr ldK_map ldK_agg ldK_other ldO_int ldO_bool ldO_str ldO_slice ldO_ptr ldO_map ldO_other ldA_some cellsO_new cellsO_nil cellsC_some cellsO_drew cellsO_alloc cA_add cS_add cA_new cA_old fA_new fA_old setO_some cS_same cS_off cS_blk World.cell?_drew World.frozen?_drew World.frozen?_setCell World.size_alloc World.size_drew World.size_setCell heldX_eq heldX_add chg_refl chg_drew ovr_nil ovr_cons Option.getD_some Option.getD_none Addr.add_lit Nat.add_zero Option.some.injEq exists_eq' exists_eq_left' Value.int.injEq Value.bool.injEq Value.pointer.injEq Value.string.injEq
end Go.Ann
section
attribute [go_sem_proc] reduceCtorEq Nat.reduceBEq Nat.reduceEqDiff Nat.reduceAdd Nat.reduceMul Int.reduceNe Int.reduceEq Int.reduceLT Int.reduceLE Int.reduceNeg Int.reduceAdd Int.reduceSub Int.reduceMul Int.reduceToNat
attribute [go_sem_proc ↓] reduceIte
attribute [go_sem] beq_self_eq_true
end

namespace Go.Ann
open Go Go.RowKit
set_option linter.unusedVariables false
set_option linter.unusedSimpArgs false
attribute [go_sem_proc] reduceCtorEq Nat.reduceBEq Nat.reduceEqDiff Nat.reduceAdd Nat.reduceMul Int.reduceNe Int.reduceEq Int.reduceLT Int.reduceLE Int.reduceNeg Int.reduceAdd Int.reduceSub Int.reduceMul Int.reduceToNat
attribute [go_sem_proc ↓] reduceIte
attribute [go_sem] beq_self_eq_true
section
variable {κ ν : Type} {P : Program} {ek : κ → Value} {ev : ν → Value} {t : TypeId}
def entG (ek : κ → Value) (ev : ν → Value) (x : κ × ν × Nat) : MapEntry := { key := ek x.1, val := ev x.2.1, born := x.2.2 }
def mapG (ek : κ → Value) (ev : ν → Value) (l : List (κ × ν × Nat)) (c : Nat) : Obj := .map (l.map (entG ek ev)).toArray c
theorem mmG {m : TypeId} {w : World} {K : Value → World → Prop} (hK : K (.map (some w.heap.size)) (w.alloc (mapG ek ev [] 0))) : mmW P m w K := by
  refine ⟨_, _, ?_, hK⟩
  unfold Instr.makeMap
  simp [Sem.run_bind, Result.andThen, run_newObj_alloc]
  rfl
variable [DecidableEq κ]
def getM (a : κ) : List (κ × ν × Nat) → Option ν
  | [] => none
  | x :: l => if a = x.1 then some x.2.1 else getM a l
def setM (a : κ) (v : ν) (c : Nat) : List (κ × ν × Nat) → List (κ × ν × Nat)
  | [] => [(a, v, c)]
  | x :: l => if a = x.1 then (x.1, v, x.2.2) :: l else x :: setM a v c l
def whereM (ev : ν → Value) (a : κ) : List (κ × ν × Nat) → Nat → Option (Nat × Value)
  | [], _ => none
  | x :: l, i => if a = x.1 then some (i, ev x.2.1) else whereM ev a l (i + 1)
theorem whereM_get (a : κ) : ∀ (l : List (κ × ν × Nat)) (i : Nat), (whereM ev a l i).map Prod.snd = (getM a l).map ev
  | [], _ => rfl
  | x :: l, i => by
    simp only [whereM, getM]
    split
    · rfl
    · exact whereM_get a l (i + 1)
variable {d : TypeDesc}
theorem findNow_G (hk : KeyT P t ek d) (a : κ) : ∀ (l : List (κ × ν × Nat)) (i : Nat), Instr.findNow d (ek a) (l.map (entG ek ev)) i = none ∨ Instr.findNow d (ek a) (l.map (entG ek ev)) i = some (whereM ev a l i)
  | [], i => .inr rfl
  | b :: l, i => by
    simp only [List.map_cons, entG, Instr.findNow, whereM]
    rcases hk.now a b.1 with h | h
    · exact .inl (by rw [h])
    · rw [h]
      by_cases e : a = b.1
      · rw [decide_eq_true e, if_pos e]; exact .inr rfl
      · rw [decide_eq_false e, if_neg e]; exact findNow_G hk a l _
theorem findAsk_G (hk : KeyT P t ek d) (w : World) (a : κ) : ∀ (l : List (κ × ν × Nat)) (i : Nat), (Instr.findAsking t (ek a) (l.map (entG ek ev)) i).run P w = .ok (whereM ev a l i) w
  | [], i => rfl
  | b :: l, i => by
    simp only [List.map_cons, entG, Instr.findAsking, whereM, Sem.run_bind, hk.eq w a b.1, Result.andThen_ok]
    by_cases e : a = b.1
    · rw [decide_eq_true e, if_pos e]; rfl
    · rw [decide_eq_false e, if_neg e]
      simp only [Bool.false_eq_true, if_false]
      exact findAsk_G hk w a l _
theorem findKey_G (hk : KeyT P t ek d) (w : World) (a : κ) (l : List (κ × ν × Nat)) : (Instr.findKey t (ek a) (l.map (entG ek ev))).run P w = .ok (whereM ev a l 0) w := by
  unfold Instr.findKey
  simp only [Sem.run_bind, run_underlying hk.und, Result.andThen_ok]
  rcases findNow_G (ev := ev) hk a l 0 with h | h
  · rw [h]; exact findAsk_G hk w a l 0
  · rw [h]; rfl
def luG (ev : ν → Value) (z : Value) : Option ν → Bool → Value
  | some v, true => .tuple #[ev v, .bool true]
  | none, true => .tuple #[z, .bool false]
  | some v, false => ev v
  | none, false => z
theorem luG_map {m e : TypeId} {w : World} {K : Value → World → Prop} {r c : Nat} {ok : Bool} {z : Value} (hk : KeyT P t ek d) (hm : P.underlying m = some (.map t e)) {l : List (κ × ν × Nat)} (hr : w.heap[r]? = some (mapG ek ev l c)) (a : κ)
    (hz : (zeroValue e).run P w = .ok z w) (hK : K (luG ev z (getM a l) ok) w) : luW P m (.map (some r)) (ek a) ok w K := by
  refine ⟨_, _, ?_, hK⟩
  unfold Instr.lookup
  have hg : (getObj r).run P w = .ok (.map (l.map (entG ek ev)).toArray c) w := run_getObj_map w r _ _ hr
  simp only [Sem.run_bind, run_underlying hm, Result.andThen_ok, hg, Sem.run_pure, hk.chk, findKey_G hk, List.toList_toArray]
  have h := whereM_get (ev := ev) a l 0
  cases hw : whereM ev a l 0 with
  | some p =>
    rw [hw] at h
    cases hg2 : getM a l with
    | none => rw [hg2] at h; cases h
    | some v =>
      rw [hg2] at h
      obtain ⟨pj, pv⟩ := p
      simp only [Option.map_some, Option.some.injEq] at h
      subst h
      cases ok <;> rfl
  | none =>
    rw [hw] at h
    cases hg2 : getM a l with
    | some v => rw [hg2] at h; cases h
    | none =>
      simp only [Sem.run_bind, hz, Result.andThen_ok]
      cases ok <;> rfl
theorem whereM_set (a : κ) (v : ν) (c : Nat) : ∀ (l : List (κ × ν × Nat)) (i j : Nat) (u : Value), whereM ev a l i = some (j, u) → i ≤ j ∧ j - i < l.length ∧ (∃ x, (l.map (entG ek ev))[j - i]? = some (entG ek ev x) ∧ x.1 = a) ∧ (setM a v c l).map (entG ek ev) = (l.map (entG ek ev)).modify (j - i) (fun e => { e with key := ek a, val := ev v })
  | [], _, _, _, h => by cases h
  | x :: l, i, j, u, h => by
    simp only [whereM] at h
    split at h
    · rename_i e
      simp only [Option.some.injEq, Prod.mk.injEq] at h
      obtain ⟨rfl, rfl⟩ := h
      refine ⟨Nat.le_refl _, by simp, ⟨x, by simp, e.symm⟩, ?_⟩
      rw [show setM a v c (x :: l) = (x.1, v, x.2.2) :: l from if_pos e]
      simp only [Nat.sub_self, List.map_cons, List.modify_zero_cons, entG, e]
    · rename_i e
      obtain ⟨h1, h2, ⟨y, h3, h4⟩, h5⟩ := whereM_set a v c l (i + 1) j u h
      have e1 : j - i = (j - (i + 1)) + 1 := by omega
      refine ⟨by omega, by simp only [List.length_cons]; omega, ⟨y, ?_, h4⟩, ?_⟩
      · rw [e1, List.map_cons, List.getElem?_cons_succ]; exact h3
      · rw [e1]
        simp only [setM, if_neg e, List.map_cons, List.modify_succ_cons, h5]
theorem whereM_none {a : κ} (v : ν) (c : Nat) : ∀ {l : List (κ × ν × Nat)} {i : Nat}, whereM ev a l i = none → setM a v c l = l ++ [(a, v, c)] ∧ getM a l = none
  | [], _, _ => ⟨rfl, rfl⟩
  | x :: l, i, h => by
    simp only [whereM] at h
    split at h
    · cases h
    · rename_i e
      obtain ⟨h1, h2⟩ := whereM_none v c h
      exact ⟨by simp only [setM, if_neg e, h1, List.cons_append], by simp only [getM, if_neg e, h2]⟩
theorem muG_map {m e : TypeId} {w : World} {K : Value → World → Prop} {r c : Nat} (hk : KeyT P t ek d) (hm : P.underlying m = some (.map t e)) (hs : ∀ a : κ, Instr.sameBits 10000 (ek a) (ek a) = true) {l : List (κ × ν × Nat)} (hr : w.heap[r]? = some (mapG ek ev l c)) (a : κ) (v : ν)
    (hK : K undef (w.putObj r (mapG ek ev (setM a v c l) (if (getM a l).isSome then c else c + 1)))) : muW P m (.map (some r)) (ek a) (ev v) w K := by
  have hg : (getObj r).run P w = .ok (.map (l.map (entG ek ev)).toArray c) w := run_getObj_map w r _ _ hr
  have hs' : ∀ o, (setObj r o).run P w = .ok () (w.putObj r o) := fun o => by simp [setObj, Sem.run, hr, mapG, World.putObj]
  cases hw : whereM ev a l 0 with
  | none =>
    obtain ⟨h1, h2⟩ := whereM_none v c hw
    refine ⟨_, ?_, hK⟩
    unfold Instr.mapUpdate
    simp only [Sem.run_bind, run_underlying hm, Result.andThen_ok, hg, Sem.run_pure, hk.chk, findKey_G hk, List.toList_toArray, hw]
    rw [hs', h1]
    have e : (l.map (entG ek ev)).toArray.push { key := ek a, val := ev v, born := c } = ((l ++ [(a, v, c)]).map (entG ek ev)).toArray := by
      rw [List.map_append]; simp [entG]
    rw [e, h2]; rfl
  | some p =>
    obtain ⟨j, u⟩ := p
    obtain ⟨_, h2, ⟨x, h3, h4⟩, h5⟩ := whereM_set (ek := ek) a v c l 0 j u hw
    rw [Nat.sub_zero] at h2 h3 h5
    have hsome : (getM a l).isSome = true := by
      have := whereM_get (ev := ev) a l 0
      rw [hw] at this
      cases h : getM a l with
      | none => rw [h] at this; cases this
      | some _ => rfl
    rw [if_pos hsome] at hK
    refine ⟨_, ?_, hK⟩
    unfold Instr.mapUpdate
    simp only [Sem.run_bind, run_underlying hm, Result.andThen_ok, hg, Sem.run_pure, hk.chk, findKey_G hk, List.toList_toArray, hw]
    have e0 : ((((l.map (entG ek ev)).toArray)[j]?).map (·.key)).getD (ek a) = ek a := by
      rw [List.getElem?_toArray, h3]; simp [entG, h4]
    have e1 : (Instr.keyThatStays ((((l.map (entG ek ev)).toArray)[j]?).map (·.key)|>.getD (ek a)) (ek a)).run P w = .ok (ek a) w := by
      rw [e0]; unfold Instr.keyThatStays; rw [if_pos (hs a)]; rfl
    rw [e1]
    simp only [Result.andThen_ok]
    rw [hs']
    unfold mapG
    rw [h5]
    congr 3
    apply Array.ext'
    simp [Array.toList_modify]
theorem keyT_int {ki : IntKind} (ht : P.underlying t = some (.int ki)) : KeyT P t (fun n : Int => .int ki n) (.int ki) := by
  refine ⟨ht, fun n w em a => ?_, fun a b => .inr ?_, fun w a b => ?_⟩
  · simp only [Instr.checkKey, Sem.run_bind, run_underlying ht, Result.andThen_ok]; rfl
  · simp [Instr.sameNow]; rfl
  · show (Op.equalIn 10000 t _ _).run P w = _
    rw [run_equalIn_int w 9999 t ki ki a b ht]
    rfl
end
section
variable {P : Program} {w : World} {K : Value → World → Prop}
theorem rgG {m t e : TypeId} {r clock : Nat} {es : Array MapEntry} (hm : P.underlying m = some (.map t e)) (hr : w.heap[r]? = some (.map es clock)) (hK : K (.pointer (some ⟨w.heap.size, 0, none⟩)) (w.alloc (.mapIter (some r) clock #[] clock))) : rgW P m (.map (some r)) w K := by
  refine ⟨_, _, ?_, hK⟩
  unfold Instr.range
  have hg : (getObj r).run P w = .ok (.map es clock) w := run_getObj_map w r _ _ hr
  simp only [Sem.run_bind, run_underlying hm, Result.andThen_ok, hg, Sem.run_pure, run_newObj_alloc]
theorem nxG {ty q r since c0 clock : Nat} {seen : Array Nat} {es : Array MapEntry} (hq : w.heap[q]? = some (.mapIter (some r) since seen c0)) (hr : w.heap[r]? = some (.map es clock)) (hold : ∀ x ∈ es.toList, x.born < since) (hsc : since ≤ c0)
    (h0 : (leftOf es seen).size = 0 → K (.tuple #[.bool false]) w) (h1 : ∀ e ∈ (leftOf es seen).toList, ∀ w1, (w1 = w ∨ w1 = w.drew) → K (.tuple #[.bool true, e.key, e.val]) (w1.putObj q (.mapIter (some r) since (seen.push e.born) clock))) :
    nxW P (.pointer (some ⟨q, 0, none⟩)) false ty w K := by
  rcases run_next_at w ty q r since c0 seen es clock hq hr hold hsc with ⟨h, hrun⟩ | ⟨e, he, w1, hw1, hrun⟩
  · exact ⟨_, _, hrun, h0 h⟩
  · exact ⟨_, _, hrun, h1 e he w1 hw1⟩
theorem enG {q r since clock : Nat} {seen : Array Nat} {es : Array MapEntry} {e : MapEntry} (hq : w.heap[q]? = some (.mapIter (some r) since (seen.push e.born) clock)) (hr : w.heap[r]? = some (.map es clock)) (he : e ∈ es.toList) (hn : (es.toList.map (·.born)).Nodup)
    (hK : K (.tuple #[e.key, e.val]) w) : enW P (.pointer (some ⟨q, 0, none⟩)) w K := ⟨_, _, run_entry_at w q r since seen es clock e hq hr he hn, hK⟩
theorem clearG {m t e ty : TypeId} {cs : Array Bool} {r clock : Nat} {es : Array MapEntry} (hm : P.underlying m = some (.map t e)) (hr : w.heap[r]? = some (.map es clock)) (hK : K (.tuple #[]) (w.putObj r (.map #[] clock))) : rawB P .clear #[m] ty cs [.map (some r)] w K := by
  refine ⟨_, _, ?_, hK⟩
  have hg : (getObj r).run P w = .ok (.map es clock) w := run_getObj_map w r _ _ hr
  have hs' : ∀ o, (setObj r o).run P w = .ok () (w.putObj r o) := fun o => by simp [setObj, Sem.run, hr, World.putObj]
  simp [builtin, Builtin.clear_, run_underlying hm, hg, hs']
theorem St.copy {W0 : World} {F : Nat → Prop} {L : List Res} {I : List Inv} {dT sT ty e sz bytes g n cap k o m dc sc i : Nat} {z : Value} {cs : Array Bool} {xs : List Value} (h : St W0 w F L I) (hi : L[i]? = some (.row (.slice (some ⟨g, 0, none⟩) n cap) e sz n xs))
    (hm : mkI P dT = some (e, sz, bytes, z)) (ho : o + k ≤ n) (hmk : m + k ≤ n) (h1 : ∀ u ∈ xs, u.oneCell' = true) {kd ks : Nat} (hk : min ks kd = k)
    (hK : ∀ w', St W0 w' F (L.set i (.row (.slice (some ⟨g, 0, none⟩) n cap) e sz n (xs.take (o * sz) ++ (xs.drop (m * sz)).take (k * sz) ++ xs.drop ((o + k) * sz)))) I → K (goInt (k : Nat)) w') :
    rawB P .copy #[dT, sT] ty cs [.slice (some ⟨g, o * sz, none⟩) kd dc, .slice (some ⟨g, m * sz, none⟩) ks sc] w K := by
  obtain ⟨inf, hu, hinf, _, hsi, _⟩ := mkI_some hm
  have hr := h.row i hi
  have hlen : xs.length = n * sz := hr.1
  rcases hr.2 with ⟨h', _⟩ | ⟨g', cap', cur, h', hb, hg, hnc, hcm, hcs, htake⟩
  · simp at h'
  simp only [Value.slice.injEq, Option.some.injEq, Addr.mk.injEq, and_true, true_and] at h'
  obtain ⟨rfl, rfl⟩ := h'
  have a1 : (o + k) * sz ≤ n * sz := Nat.mul_le_mul_right _ ho
  have a2 : (m + k) * sz ≤ n * sz := Nat.mul_le_mul_right _ hmk
  have a3 : n * sz ≤ cap * sz := Nat.mul_le_mul_right _ hnc
  rw [Nat.add_mul] at a1 a2
  have hcl : ((xs.drop (m * sz)).take (k * sz)).length = k * sz := by rw [List.length_take, List.length_drop]; omega
  have hsrc : ∀ j v, ((xs.drop (m * sz)).take (k * sz))[j]? = some v → w.cell? ((⟨g, m * sz, none⟩ : Addr).add j) = some v := fun j v hj => by
    rw [List.getElem?_take] at hj
    split at hj
    · rw [List.getElem?_drop] at hj
      have e : (⟨g, m * sz, none⟩ : Addr).add j = ⟨g, m * sz + j, none⟩ := by unfold Addr.add; split <;> simp_all
      rw [e, hr.cellAt _ (by omega), hj]
    · cases hj
  have hl := run_loadCells_list (P := P) w ⟨g, m * sz, none⟩ _ hsrc
  have h1' : ∀ v ∈ (xs.drop (m * sz)).take (k * sz), v.oneCell' = true := fun v hv => h1 v (List.mem_of_mem_drop (List.mem_of_mem_take hv))
  have hst := run_storeCells_at P g (o * sz) e _ 0 cur w hg (by rw [hcl, hcs]; omega) h1'
  rw [hcl] at hl hst
  have hrow : (w.setRow g (cur.toList.take (o * sz) ++ (xs.drop (m * sz)).take (k * sz) ++ cur.toList.drop (o * sz + k * sz)).toArray).ownsRow W0.heap.size e sz (.slice (some ⟨g, 0, none⟩) n cap) n (xs.take (o * sz) ++ (xs.drop (m * sz)).take (k * sz) ++ xs.drop ((o + k) * sz)) := by
    have hcur : cur.toList.length = cap * sz := by rw [Array.length_toList, hcs]
    refine ⟨?_, .inr ⟨g, cap, _, rfl, hb, setRow_heap w g cur _ e _ hg, hnc, hcm, ?_, ?_⟩⟩
    · simp only [List.length_append, hcl, List.length_take, List.length_drop, Nat.add_mul]; omega
    · simp only [List.size_toArray, List.length_append, hcl, List.length_take, List.length_drop]; omega
    · simp only [List.toList_toArray]
      rw [← htake]
      apply List.ext_getElem?
      intro j
      simp only [List.getElem?_take, List.getElem?_append, List.length_append, List.length_take, List.length_drop, List.getElem?_drop, hcur, hcl]
      rw [← htake] at hcl
      simp only [List.length_take, List.length_drop, hcur] at hcl
      simp only [Nat.add_mul, List.length_take, hcur, List.length_drop, hcl]
      have e1 : min (o * sz) (cap * sz) = o * sz := by omega
      have e2 : min (o * sz) (min (n * sz) (cap * sz)) = o * sz := by omega
      simp only [e1, e2]
      by_cases c1 : j < n * sz
      · rw [if_pos c1]
        by_cases c2 : j < o * sz
        · rw [if_pos (by omega), if_pos c2, if_pos (by omega), if_pos c2, if_pos c2, if_pos c1, if_pos (by omega)]
        · by_cases c3 : j < o * sz + k * sz
          · rw [if_pos (by omega), if_neg c2, if_pos (by omega), if_neg c2, if_pos c3]
          · rw [if_neg (by omega), if_neg (by omega), if_pos (by omega)]
      · rw [if_neg c1, if_neg (by omega), if_neg (by omega)]
  refine ⟨_, w.setRow g (cur.toList.take (o * sz) ++ (xs.drop (m * sz)).take (k * sz) ++ cur.toList.drop (o * sz + k * sz)).toArray, ?_, hK _ (h.upd i hi ?_ _ hrow fun k' hk' => .inl hk')⟩
  · simp only [Nat.add_zero] at hst
    have hk' : Nat.min ks kd = k := hk
    simp [builtin, Builtin.copy_, run_underlying hu, Builtin.lenOf, Builtin.firstCells, sizeOf, typeInfo, hinf, ← hsi, hk', hl]
    simp [hst]
  · refine (Chg.refl _ w).grown (row := some g) ⟨rfl, rfl, rfl, by simp, fun j hj hne => ?_⟩ fun j hj _ => by
      simp only [Option.some.injEq] at hj; subst hj; rfl
    simp only [World.setRow, Array.getElem?_modify]
    rw [if_neg (fun e => hne (by rw [e]))]
def Same (X : Nat → Prop) (w0 w' : World) : Prop := ∀ b, X b → w'.heap[b]? = w0.heap[b]?
theorem Same.refl (X : Nat → Prop) (w : World) : Same X w w := fun _ _ => rfl
theorem heldS_held {X : Nat → Prop} {t : TypeId} {w0 : World} {p : Addr} (h2 : X p.block) (h3 : loadW P t p w0 fun v _ => K v w) : heldW P (Same X w0) t p w K := by
  have key : ∀ w' j, Same X w0 w' → w'.cell? (p.add j) = w0.cell? (p.add j) := fun w' j hc => by
    have e : (p.add j).block = p.block := by unfold Addr.add; split <;> rfl
    exact World.cell?_of_block (hc _ (by rw [e]; exact h2))
  have key0 : ∀ w', Same X w0 w' → w'.cell? p = w0.cell? p := fun w' hc => by have := key w' 0 hc; simpa only [Addr.add_zero'] using this
  unfold heldW
  unfold loadW at h3 ⊢
  cases hk : tyK P t with
  | int k => rw [hk] at h3; obtain ⟨n, hc, hK⟩ := h3; exact ⟨_, fun w' hw => ⟨n, (key0 w' hw).trans hc, rfl, rfl⟩, hK⟩
  | bool => rw [hk] at h3; obtain ⟨n, hc, hK⟩ := h3; exact ⟨_, fun w' hw => ⟨n, (key0 w' hw).trans hc, rfl, rfl⟩, hK⟩
  | str => rw [hk] at h3; obtain ⟨n, hc, hK⟩ := h3; exact ⟨_, fun w' hw => ⟨n, (key0 w' hw).trans hc, rfl, rfl⟩, hK⟩
  | slice u e => rw [hk] at h3; obtain ⟨x, n, c, hc, hK⟩ := h3; exact ⟨_, fun w' hw => ⟨x, n, c, (key0 w' hw).trans hc, rfl, rfl⟩, hK⟩
  | ptr => rw [hk] at h3; obtain ⟨n, hc, hK⟩ := h3; exact ⟨_, fun w' hw => ⟨n, (key0 w' hw).trans hc, rfl, rfl⟩, hK⟩
  | map => rw [hk] at h3; obtain ⟨n, hc, hK⟩ := h3; exact ⟨_, fun w' hw => ⟨n, (key0 w' hw).trans hc, rfl, rfl⟩, hK⟩
  | agg n => rw [hk] at h3; obtain ⟨cs, hc, hl, hK⟩ := h3; exact ⟨_, fun w' hw => ⟨cs, fun i v hv => (key w' i hw).trans (hc i v hv), hl, rfl, rfl⟩, hK⟩
  | other => rw [hk] at h3; obtain ⟨n, hc, hK⟩ := h3; exact ⟨_, fun w' hw => ⟨n, (key0 w' hw).trans hc, rfl, rfl⟩, hK⟩
  | none => rw [hk] at h3; exact h3.elim
@[go_sem] theorem heldS_eq {X : Nat → Prop} {t : TypeId} {w0 : World} {b i : Nat} (h2 : X b) : heldW P (Same X w0) t ⟨b, i, none⟩ w K = loadW P t ⟨b, i, none⟩ w0 fun v _ => K v w := by
  apply propext
  exact ⟨fun ⟨v, h, hk⟩ => loadW_mono (h w0 (Same.refl _ _)) fun u hu => by rw [hu.1]; exact hk, heldS_held h2⟩
end
end Go.Ann

namespace Go.Ann
open Go Go.RowKit
set_option linter.unusedVariables false
set_option linter.unusedSimpArgs false
def overL (xs : List Value) (o : Nat) (vs : List Value) : List Value := xs.take o ++ vs ++ xs.drop (o + vs.length)
theorem overL_length {xs vs : List Value} {o : Nat} (h : o + vs.length ≤ xs.length) : (overL xs o vs).length = xs.length := by
  unfold overL; simp only [List.length_append, List.length_take, List.length_drop]; omega
theorem overL_take {xs vs : List Value} {o k : Nat} (h : o + vs.length = k) (h' : k ≤ xs.length) : (overL xs o vs).take k = xs.take o ++ vs := by
  unfold overL
  have : (xs.take o ++ vs).length = k := by rw [List.length_append, List.length_take]; omega
  rw [← this, List.take_left]
section
variable {P : Program} {w : World} {K : Value → World → Prop} {g t e sz bytes : Nat} {z : Value} {cur : Array Value}
theorem storeB {vs : List Value} {o : Nat} (hB : Blk w g cur e) (hf : o + vs.length ≤ cur.size) (h1 : ∀ u ∈ vs, u.oneCell' = true) :
    (storeCells ⟨g, o, none⟩ vs).run P w = .ok () (w.setRow g (overL cur.toList o vs).toArray) ∧ Blk (w.setRow g (overL cur.toList o vs).toArray) g (overL cur.toList o vs).toArray e ∧ Chg (fun k => k = g) w (w.setRow g (overL cur.toList o vs).toArray) := by
  have hst := run_storeCells_at P g o e vs 0 cur w hB (by simpa using hf) h1
  simp only [Nat.add_zero] at hst
  refine ⟨hst, setRow_heap w g cur _ e _ hB, ?_⟩
  refine (Chg.refl _ w).grown (row := some g) ⟨rfl, rfl, rfl, by simp, fun j hj hne => ?_⟩ fun j hj _ => by
    simp only [Option.some.injEq] at hj; subst hj; rfl
  simp only [World.setRow, Array.getElem?_modify]
  rw [if_neg (fun e => hne (by rw [e]))]
theorem appendB {ty n m cap c : Nat} {src : Option Addr} {cs : Array Bool} {ys : List Value} (hm : mkI P t = some (e, sz, bytes, z)) (hB : Blk w g cur e) (hfit : n + m ≤ cap) (hcap : cap * sz ≤ cur.size) (hy : Rd w sz (.slice src m c) m ys) (h1 : ∀ u ∈ ys, u.oneCell' = true)
    (hK : ∀ w', Blk w' g (overL cur.toList (n * sz) ys).toArray e → Chg (fun k => k = g) w w' → K (.slice (some ⟨g, 0, none⟩) (n + m) cap) w') :
    rawB P .append #[t, t] ty cs [.slice (some ⟨g, 0, none⟩) n cap, .slice src m c] w K := by
  obtain ⟨i, hu, hi, _, hsi, _⟩ := mkI_some hm
  obtain ⟨hl, a', c', he, _, hr⟩ := hy
  simp only [Value.slice.injEq, true_and] at he
  obtain ⟨rfl, rfl⟩ := he
  have hmul : (n + m) * sz ≤ cap * sz := Nat.mul_le_mul_right _ hfit
  rw [Nat.add_mul] at hmul
  have hf : n * sz + ys.length ≤ cur.size := by omega
  obtain ⟨r1, r2, r3⟩ := storeB (P := P) hB hf h1
  rcases Nat.eq_zero_or_pos m with h0 | h0
  · subst h0
    have hy0 : ys = [] := List.eq_nil_of_length_eq_zero (by rw [hl]; simp)
    subst hy0
    refine ⟨_, _, ?_, hK _ r2 r3⟩
    have hst := run_storeCells_at P g (n * sz) e [] 0 cur w hB (by simpa using hf) h1
    have hfc : (Builtin.firstCells sz 0 (.slice src 0 c)).run P w = .ok #[] w := by
      cases src with
      | none => rfl
      | some a => simp [Builtin.firstCells, loadCells, loadCellsFrom]
    have ha : (Builtin.append_ #[t, t] ty #[.slice (some ⟨g, 0, none⟩) n cap, .slice src 0 c]).run P w = .ok (.slice (some ⟨g, 0, none⟩) (n + 0) cap) (w.setRow g (overL cur.toList (n * sz) []).toArray) := by
      simp [Builtin.append_, run_underlying hu, sizeOf, typeInfo, hi, Builtin.lenOf, Addr.add_lit, ← hsi, hfc, r1, (show n ≤ cap by omega)]
    simp [builtin, ha]
  · obtain ⟨ad, rfl, h4⟩ := hr (by omega)
    have hroom := run_append_room (P := P) (w := w) t ty e i hu hi g n cap cur hB ad m c ys (by rw [hl, hsi]) h4 h1 hfit (by rw [← hsi]; exact hf)
    refine ⟨_, _, ?_, hK _ r2 r3⟩
    rw [← hsi] at hroom
    simp [builtin, hroom, overL]
theorem overL_nil {xs : List Value} {o : Nat} : overL xs o [] = xs := by
  unfold overL; simp [List.take_append_drop]
theorem copyB {dT sT ty o kd dc ks sc k : Nat} {a : Addr} {cs : Array Bool} {ys : List Value} (hm : mkI P dT = some (e, sz, bytes, z)) (hB : Blk w g cur e) (hk : min ks kd = k) (hl : ys.length = k * sz) (hy : ∀ j u, ys[j]? = some u → w.cell? (a.add j) = some u) (h1 : ∀ u ∈ ys, u.oneCell' = true) (hf : o + ys.length ≤ cur.size)
    (hK : ∀ w', Blk w' g (overL cur.toList o ys).toArray e → Chg (fun k => k = g) w w' → K (goInt (k : Nat)) w') :
    rawB P .copy #[dT, sT] ty cs [.slice (some ⟨g, o, none⟩) kd dc, .slice (some a) ks sc] w K := by
  obtain ⟨i, hu, hi, _, hsi, _⟩ := mkI_some hm
  obtain ⟨r1, r2, r3⟩ := storeB (P := P) hB hf h1
  have hll := run_loadCells_list (P := P) w a ys hy
  rw [hl] at hll
  have hk' : Nat.min ks kd = k := hk
  refine ⟨_, _, ?_, hK _ r2 r3⟩
  simp [builtin, Builtin.copy_, run_underlying hu, Builtin.lenOf, Builtin.firstCells, sizeOf, typeInfo, hi, ← hsi, hk', hll, r1]
theorem clearB {ty o n c : Nat} {cs : Array Bool} (hm : mkI P t = some (e, sz, bytes, z)) (hzs : z.cells.size = sz) (h1 : ∀ u ∈ z.cells.toList, u.oneCell' = true) (hB : Blk w g cur e) (hf : o + n * sz ≤ cur.size)
    (hK : ∀ w' ys, ys.length = n * sz → Blk w' g (overL cur.toList o ys).toArray e → Chg (fun k => k = g) w w' → K (.tuple #[]) w') :
    rawB P .clear #[t] ty cs [.slice (some ⟨g, o, none⟩) n c] w K := by
  obtain ⟨i, hu, hi, hzz, hsi, _⟩ := mkI_some hm
  rcases Nat.eq_zero_or_pos n with h0 | h0
  · subst h0
    refine ⟨_, w, ?_, hK w [] (by simp) (by rw [overL_nil]; exact hB) (Chg.refl _ _)⟩
    simp [builtin, Builtin.clear_, run_underlying hu]
  · have hl : (Builtin.zeroCells z.cells n).toList.length = n * sz := by rw [Array.length_toList, size_zeroCells, hzs]
    have h1' : ∀ u ∈ (Builtin.zeroCells z.cells n).toList, u.oneCell' = true := fun u hu => by
      rw [Array.mem_toList_iff] at hu
      unfold Builtin.zeroCells at hu
      rw [Array.mem_map] at hu
      obtain ⟨j, hj, rfl⟩ := hu
      rw [Array.mem_range] at hj
      have hp : 0 < z.cells.size := by
        rcases Nat.eq_zero_or_pos z.cells.size with h | h
        · rw [h] at hj; omega
        · exact h
      rw [getElem!_pos z.cells _ (Nat.mod_lt _ hp)]
      exact h1 _ (by simp)
    obtain ⟨r1, r2, r3⟩ := storeB (P := P) (o := o) hB (by rw [hl]; exact hf) h1'
    refine ⟨_, _, ?_, hK _ _ hl r2 r3⟩
    obtain ⟨m, rfl⟩ : ∃ m, n = m + 1 := ⟨n - 1, by omega⟩
    simp [builtin, Builtin.clear_, run_underlying hu, zeroValue, typeInfo, hi, hzz, r1]
theorem growB {tn ty m cap : Nat} {a : Option Addr} {kq kn : IntKind} {cs : Array Bool} (hm : mkI P t = some (e, sz, bytes, z)) (htn : P.underlying tn = some (.int kn)) (hzs : z.cells.size = sz) (hsz : 0 < sz) (h0 : 0 < m) (hg : cap < m) (h63 : m ≤ 9223372036854775807) (hb : m * bytes ≤ 140737488355328)
    (hK : ∀ G Z, m ≤ G → G ≤ maxLen → Z.size = G * sz → K (.slice (some ⟨w.heap.size, 0, none⟩) m G) (w.drew.alloc (.cells Z e))) :
    rawB P .append #[t, tn] ty cs [.slice a 0 cap, .int kq m] w K := by
  obtain ⟨i, hu, hi, hzz, hsi, hby⟩ := mkI_some hm
  have hold : (Builtin.firstCells i.size 0 (.slice a 0 cap)).run P w.drew = .ok ([] : List Value).toArray w.drew := by
    cases a with
    | none => rfl
    | some a => simp [Builtin.firstCells, loadCells, loadCellsFrom]
  have h := Lib.run_append_grow_zeros w t tn ty e i z kq kn hu htn hi hzz a 0 cap [] hold m h0 (by omega) (by omega) (by omega) (by rw [← hby]; omega) (by rw [← hby, Nat.zero_add]; exact growslice_fits hg hb)
  rw [Nat.zero_add] at h
  refine ⟨_, _, ?_, hK (grownCap w m cap e) (([] : List Value).toArray ++ Builtin.zeroCells z.cells m ++ Builtin.zeroCells z.cells (grownCap w m cap e - m)) (grownCap_ge w m cap e) (grownCap_le_maxLen w m cap e (by simp only [maxLen]; omega)) ?_⟩
  · simp [builtin, h]
  · have := grownCap_ge w m cap e
    simp only [Array.size_append, size_zeroCells, hzs, List.size_toArray, List.length_nil, Nat.zero_add, ← Nat.add_mul]
    congr 1
    omega
theorem overlapsW {f tR la ca lb cb : Nat} {fn : Func} {a b : Addr} {ca' cb' : Array Value} {ta tb : TypeId} (hf : P.funcs[f]? = some fn) (hname : (fn.name == "runtime.NumGoroutine") = false) (hb : fn.body.isNone = true) (hn : Extern.findNext fn = none) (he : Extern.find fn = some (Extern.SlicesOverlaps.overlaps #[t, t] #[tR]))
    (hm : mkI P t = some (e, sz, bytes, z)) (hne : a.block ≠ b.block) (hA : Blk w a.block ca' ta) (hBb : Blk w b.block cb' tb) (hk : 0 < cb'.size) (hK : K (.bool false) w) :
    extW P f [.slice (some a) la ca, .slice (some b) lb cb] w K := by
  obtain ⟨i, hu, hi, hzz, hsi, hby⟩ := mkI_some hm
  refine ⟨.bool false, w, ?_, hK⟩
  have hsa : w.shape? a.block = some (ta, ca'.size) := by unfold World.shape?; rw [hA]
  have hsb : w.shape? b.block = some (tb, cb'.size) := by unfold World.shape?; rw [hBb]
  have hfz : ∀ p : Addr, p.block = a.block → w.frozen? p = false := fun p hp => by unfold World.frozen?; rw [hp, hA]; simp
  rw [run_callFunc_extern hf hname hb hn he, Lib.run_overlaps_apart w t tR e hu i.size (fun w => by simp [sizeOf, typeInfo, hi]) a b la ca lb cb hne ta tb ca'.size cb'.size hsa hsb (by omega) (hfz _ rfl) (hfz _ rfl)]
  rfl
end
end Go.Ann
