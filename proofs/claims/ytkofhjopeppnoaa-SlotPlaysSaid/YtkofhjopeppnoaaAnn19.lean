/- What the row's step hands over of an argument that is a slice or a struct: lists of typed things that can be read. -/
import Derived.Test.YtkofhjopeppnoaaAnn18
import Derived.Test.YtkofhjopeppnoaaAnn15
import Derived.Deep.Slices
import Derived.OpenShut
namespace Go.Ann
open Go Go.RowKit Go.WideShapes
set_option linter.unusedVariables false
set_option linter.unusedSimpArgs false

/-- A slice of things of a fixed size that can be read. -/
def RdS {α : Type} (w : World) (sz : Nat) (enc : α → List Value) (v : Value) (xs : List α) : Prop := Rd w sz v xs.length (xs.flatMap enc)
/-- A slice of things that are told by a relation. -/
def RdR {α : Type} (w : World) (sz : Nat) (R : World → α → List Value → Prop) (v : Value) (xs : List α) : Prop :=
  ∃ cs : List (List Value), cs.length = xs.length ∧ (∀ (i : Nat) (c : List Value) (x : α), cs[i]? = some c → xs[i]? = some x → c.length = sz ∧ R w x c) ∧ Rd w sz v xs.length cs.flatten

section
variable {α : Type} {w : World} {sz : Nat} {enc : α → List Value} {v : Value} {xs : List α}
theorem RdS.form (h : RdS w sz enc v xs) : ∃ a cap, v = .slice a xs.length cap ∧ xs.length ≤ cap := by
  obtain ⟨_, a, cap, rfl, h2, _⟩ := h
  exact ⟨a, cap, rfl, h2⟩
theorem RdS.ptr {a : Option Addr} {n cap : Nat} (h : RdS w sz enc (.slice a n cap) xs) (h0 : 0 < xs.length) : ∃ ad, a = some ad := by
  obtain ⟨_, a', cap', he, h2, h3⟩ := h
  simp only [Value.slice.injEq] at he
  obtain ⟨rfl, rfl, rfl⟩ := he
  obtain ⟨ad, rfl, _⟩ := h3 (by omega)
  exact ⟨ad, rfl⟩
theorem RdS.at {ad : Addr} {n cap : Nat} (h : RdS w sz enc (.slice (some ad) n cap) xs) (hsz : ∀ x, (enc x).length = sz) {k : Nat} (hk : k < xs.length) : cellsO w (ad.add (k * sz)) 0 sz = some (enc xs[k]) := by
  obtain ⟨h1, a', cap', he, h2, h3⟩ := h
  simp only [Value.slice.injEq] at he
  obtain ⟨rfl, rfl, rfl⟩ := he
  obtain ⟨ad', e, h4⟩ := h3 (by omega)
  simp only [Option.some.injEq] at e; subst e
  exact cellsAt_iff.1 ⟨cellsAt_flat hsz h4 (List.getElem?_eq_getElem hk), hsz _⟩
theorem cellsO_one {p : Addr} {u : Value} (h : cellsO w p 0 1 = some [u]) : w.cell? p = some u := by
  have := (of_cellsO h).2 0 u rfl
  simpa only [Nat.add_zero, Addr.add_zero'] using this
theorem RdS.at1 {e1 : α → Value} {ad : Addr} {n cap : Nat} (h : RdS w 1 (fun x => [e1 x]) (.slice (some ad) n cap) xs) {k : Nat} (hk : k < xs.length) : w.cell? (ad.add k) = some (e1 xs[k]) := by
  have := h.at (fun _ => rfl) hk
  rw [Nat.mul_one] at this
  exact cellsO_one this
/-- One field of an element. -/
theorem RdS.atF {ad : Addr} {n cap : Nat} (h : RdS w sz enc (.slice (some ad) n cap) xs) (hsz : ∀ x, (enc x).length = sz) {k : Nat} (hk : k < xs.length) {j : Nat} {u : Value} (hj : (enc xs[k])[j]? = some u) : w.cell? ((ad.add (k * sz)).add j) = some u := by
  have := (of_cellsO (h.at hsz hk)).2 j u hj
  rwa [Nat.zero_add] at this
theorem RdS.at0 {ad : Addr} {n cap : Nat} (h : RdS w sz enc (.slice (some ad) n cap) xs) (hsz : ∀ x, (enc x).length = sz) {k : Nat} (hk : k < xs.length) {u : Value} (hj : (enc xs[k])[0]? = some u) : w.cell? (ad.add (k * sz)) = some u := by
  have := h.atF hsz hk hj
  rwa [Addr.add_zero'] at this
theorem add_off (p : Addr) (m : Nat) : (p.add m).off = p.off + m := by unfold Addr.add; split <;> simp_all
theorem add_lit1 (p : Addr) (m j : Nat) (hj : 0 < j) : (p.add m).add j = ⟨p.block, p.off + m + j, none⟩ := by
  rw [show ((p.add m).add j) = { (p.add m) with off := (p.add m).off + j, spot := none } by rw [Addr.add, if_neg (by omega)]]
  show (⟨(p.add m).block, (p.add m).off + j, none⟩ : Addr) = _
  rw [add_off, add_block]
/-- The cells of an element, as rules. -/
theorem RdS.elt {ad : Addr} {n cap : Nat} (h : RdS w sz enc (.slice (some ad) n cap) xs) (hsz : ∀ x, (enc x).length = sz) (h0 : 0 < sz) {k : Nat} (hk : k < xs.length) :
    w.cell? (ad.add (k * sz)) = (enc xs[k])[0]? ∧ ∀ j, 0 < j → j < sz → w.cell? ⟨ad.block, ad.off + k * sz + j, none⟩ = (enc xs[k])[j]? := by
  have key : ∀ j, j < sz → w.cell? ((ad.add (k * sz)).add j) = (enc xs[k])[j]? := fun j hj => by
    have hl : j < (enc xs[k]).length := by rw [hsz]; exact hj
    rw [List.getElem?_eq_getElem hl]
    exact h.atF hsz hk (List.getElem?_eq_getElem hl)
  refine ⟨by have := key 0 h0; rwa [Addr.add_zero'] at this, fun j h1 h2 => ?_⟩
  rw [← add_lit1 _ _ _ h1]; exact key j h2
theorem RdS.chg {S : Nat → Prop} {w' : World} {a : Option Addr} {n cap : Nat} (h : RdS w sz enc (.slice a n cap) xs) (hc : Chg S w w') (hS : ∀ p, a = some p → ¬ S p.block) : RdS w' sz enc (.slice a n cap) xs := by
  have e : n = xs.length := by
    obtain ⟨_, a', cap', he, _⟩ := h
    simp only [Value.slice.injEq] at he
    exact he.2.1
  subst e
  exact Chg.rd hc h hS
theorem RdS.below {w' : World} (h : RdS w sz enc v xs) (hb : Below w.heap.size w w') (hs : 0 < sz) : RdS w' sz enc v xs := Rd.below h hb hs
theorem RdS.eltB {w' : World} {ad : Addr} {n cap : Nat} (h : RdS w sz enc (.slice (some ad) n cap) xs) (hb : Below w.heap.size w w') (hsz : ∀ x, (enc x).length = sz) (h0 : 0 < sz) {k : Nat} (hk : k < xs.length) :
    w'.cell? (ad.add (k * sz)) = (enc xs[k])[0]? ∧ ∀ j, 0 < j → j < sz → w'.cell? ⟨ad.block, ad.off + k * sz + j, none⟩ = (enc xs[k])[j]? := (h.below hb h0).elt hsz h0 hk
theorem RdS.blt {ad : Addr} {n cap : Nat} (h : RdS w sz enc (.slice (some ad) n cap) xs) (hsz : ∀ x, (enc x).length = sz) (h0 : 0 < sz) (hk : 0 < xs.length) : ad.block < w.heap.size := by
  have := (h.elt hsz h0 hk).1
  rw [List.getElem?_eq_getElem (show 0 < (enc xs[0]).length by rw [hsz]; exact h0)] at this
  have := World.block_lt_of_cell? w _ this
  rwa [add_block] at this
theorem RdS.of_own {B e : Nat} (h : w.ownsRow B e sz v xs.length (xs.flatMap enc)) : RdS w sz enc v xs := Rd.of_own h
theorem cellsO_below {w' : World} {p : Addr} {n : Nat} {cs : List Value} (hb : Below w.heap.size w w') (h : cellsO w p 0 n = some cs) : cellsO w' p 0 n = some cs := by
  obtain ⟨h1, h2⟩ := cellsAt_iff.2 h
  exact cellsAt_iff.1 ⟨h1.below hb, h2⟩
theorem cell_below {w' : World} {p : Addr} {u : Value} (hb : Below w.heap.size w w') (h : w.cell? p = some u) : w'.cell? p = some u :=
  (hb.cell (World.block_lt_of_cell? w _ h)).trans h
theorem RdS.nil : RdS w sz enc (.slice none 0 0) [] := ⟨by simp, none, 0, rfl, Nat.le_refl _, fun h => absurd rfl h⟩
end

/-! ### Slices of things that are told by a relation. -/
section
variable {α : Type} {w w' : World} {sz : Nat} {R : World → α → List Value → Prop} {v : Value} {xs : List α}
theorem RdR.form (h : RdR w sz R v xs) : ∃ a cap, v = .slice a xs.length cap ∧ xs.length ≤ cap := by
  obtain ⟨cs, _, _, _, a, cap, rfl, h2, _⟩ := h
  exact ⟨a, cap, rfl, h2⟩
theorem RdR.ptr {a : Option Addr} {n cap : Nat} (h : RdR w sz R (.slice a n cap) xs) (h0 : 0 < xs.length) : ∃ ad, a = some ad := by
  obtain ⟨cs, _, _, _, a', cap', he, h2, h3⟩ := h
  simp only [Value.slice.injEq] at he
  obtain ⟨rfl, rfl, rfl⟩ := he
  obtain ⟨ad, rfl, _⟩ := h3 (by omega)
  exact ⟨ad, rfl⟩
theorem flatten_at : ∀ (cs : List (List Value)) (k j : Nat) (c : List Value) (u : Value), (∀ c ∈ cs, c.length = sz) → cs[k]? = some c → c[j]? = some u → cs.flatten[k * sz + j]? = some u
  | [], k, j, c, u, _, h, _ => by simp at h
  | d :: cs, 0, j, c, u, hs, h, hu => by
    simp only [List.getElem?_cons_zero, Option.some.injEq] at h; subst h
    rw [Nat.zero_mul, Nat.zero_add, List.flatten_cons, List.getElem?_append_left (List.getElem?_eq_some_iff.1 hu).1]
    exact hu
  | d :: cs, k + 1, j, c, u, hs, h, hu => by
    have hd : d.length = sz := hs d List.mem_cons_self
    rw [List.flatten_cons, List.getElem?_append_right (by rw [hd, Nat.add_mul]; omega), hd]
    rw [show (k + 1) * sz + j - sz = k * sz + j by rw [Nat.add_mul]; omega]
    exact flatten_at cs k j c u (fun x hx => hs x (List.mem_cons_of_mem _ hx)) (by simpa using h) hu
/-- An element: what it is, and its cells as rules. -/
theorem RdR.elt {ad : Addr} {n cap : Nat} (h : RdR w sz R (.slice (some ad) n cap) xs) (h0 : 0 < sz) {k : Nat} (hk : k < xs.length) :
    ∃ c, c.length = sz ∧ R w xs[k] c ∧ cellsO w (ad.add (k * sz)) 0 sz = some c ∧ (w.cell? (ad.add (k * sz)) = c[0]? ∧ ∀ j, 0 < j → j < sz → w.cell? ⟨ad.block, ad.off + k * sz + j, none⟩ = c[j]?) := by
  obtain ⟨cs, h1, h2, h3, a', cap', he, h4, h5⟩ := h
  simp only [Value.slice.injEq] at he
  obtain ⟨rfl, rfl, rfl⟩ := he
  obtain ⟨ad', e, h6⟩ := h5 (by omega)
  simp only [Option.some.injEq] at e; subst e
  have hkc : k < cs.length := by omega
  have hel := h2 k cs[k] xs[k] (List.getElem?_eq_getElem hkc) (List.getElem?_eq_getElem hk)
  have hall : ∀ c ∈ cs, c.length = sz := by
    intro c hc
    obtain ⟨i, hi, rfl⟩ := List.mem_iff_getElem.1 hc
    exact (h2 i cs[i] (xs[i]'(by omega)) (List.getElem?_eq_getElem hi) (List.getElem?_eq_getElem (by omega))).1
  have key : ∀ j, j < sz → w.cell? ((ad.add (k * sz)).add j) = cs[k][j]? := fun j hj => by
    have hj' : j < cs[k].length := by rw [hel.1]; exact hj
    rw [List.getElem?_eq_getElem hj', add_add]
    exact h6 _ _ (flatten_at cs k j cs[k] _ hall (List.getElem?_eq_getElem hkc) (List.getElem?_eq_getElem hj'))
  refine ⟨cs[k], hel.1, hel.2, cellsAt_iff.1 ⟨fun j u hu => ?_, hel.1⟩, ?_, fun j h1 h2 => ?_⟩
  · rw [key j (by rw [← hel.1]; exact (List.getElem?_eq_some_iff.1 hu).1)]; exact hu
  · have := key 0 h0; rwa [Addr.add_zero'] at this
  · rw [← add_lit1 _ _ _ h1]; exact key j h2
theorem RdR.blt {ad : Addr} {n cap : Nat} (h : RdR w sz R (.slice (some ad) n cap) xs) (h0 : 0 < sz) (hk : 0 < xs.length) : ad.block < w.heap.size := by
  obtain ⟨c, hc, _, _, h1, _⟩ := h.elt h0 hk
  rw [List.getElem?_eq_getElem (show 0 < c.length by rw [hc]; exact h0)] at h1
  have := World.block_lt_of_cell? w _ h1
  rwa [add_block] at this
theorem RdR.below (h : RdR w sz R v xs) (hb : Below w.heap.size w w') (hs : 0 < sz) (hR : ∀ x c, R w x c → R w' x c) : RdR w' sz R v xs := by
  obtain ⟨cs, h1, h2, h3⟩ := h
  exact ⟨cs, h1, fun i c x hc hx => ⟨(h2 i c x hc hx).1, hR _ _ (h2 i c x hc hx).2⟩, Rd.below h3 hb hs⟩
theorem RdR.imp {R' : World → α → List Value → Prop} (h : RdR w sz R v xs) (hR : ∀ x c, x ∈ xs → R w x c → R' w x c) : RdR w sz R' v xs := by
  obtain ⟨cs, h1, h2, h3⟩ := h
  exact ⟨cs, h1, fun i c x hc hx => ⟨(h2 i c x hc hx).1, hR _ _ (List.mem_of_getElem? hx) (h2 i c x hc hx).2⟩, h3⟩
theorem RdR.nil : RdR w sz R (.slice none 0 0) [] := ⟨[], rfl, fun i c x h => by simp at h, by simp, none, 0, rfl, Nat.le_refl _, fun h => absurd rfl h⟩
end

/-- How a type's things are read off their cells. -/
def Opens {α : Type} (P : Program) (t : TypeId) (R : World → α → List Value → Prop) : Prop :=
  ∀ {H : Type} (enc : TypeId × Value → H) (w : World) (base : Nat) (sp : Nat → Bool) (hd : Bool) (fuel : Nat) (cs : List Value) (x : DataW H × List MemPlace),
    DataW.trod enc P w base sp hd fuel t cs = some x → ∃ a, R w a cs
section
variable {P : Program} {t e : TypeId} {α β : Type}
theorem Opens.mono {R : World → α → List Value → Prop} {R' : World → β → List Value → Prop} (h : Opens P t R) (hr : ∀ w a cs, R w a cs → ∃ b, R' w b cs) : Opens P t R' := by
  intro H enc w base sp hd fuel cs x hx
  obtain ⟨a, ha⟩ := h enc w base sp hd fuel cs x hx
  exact hr w a cs ha
def kOk (k : IntKind) (n : Int) : Prop := (Lit.int k n).wf = true
def intR (k : IntKind) (_ : World) (n : Int) (cs : List Value) : Prop := cs = [.int k n] ∧ kOk k n
def boolR (_ : World) (b : Bool) (cs : List Value) : Prop := cs = [.bool b]
def strR (_ : World) (l : List UInt8) (cs : List Value) : Prop := cs = [.string (ofL l)] ∧ (l.length : Int) ≤ 9223372036854775807
theorem opens_int {k : IntKind} (ht : P.underlying t = some (.int k)) : Opens P t (intR k) := by
  intro H enc w base sp hd fuel cs x hx
  obtain ⟨n, rfl, _, h⟩ := DataW.trod_int ht hx
  exact ⟨n, rfl, h⟩
theorem opens_bool (ht : P.underlying t = some .bool) : Opens P t boolR := by
  intro H enc w base sp hd fuel cs x hx
  obtain ⟨b, rfl, _⟩ := DataW.trod_bool ht hx
  exact ⟨b, rfl⟩
theorem opens_str (ht : P.underlying t = some .string) : Opens P t strR := by
  intro H enc w base sp hd fuel cs x hx
  obtain ⟨s, rfl, _, h⟩ := DataW.trod_string ht hx
  exact ⟨toL s, rfl, len_of_max h⟩
theorem opens_slice {R : World → α → List Value → Prop} {sz : Nat} (he : Opens P e R) (ht : P.underlying t = some (.slice e)) (hc : P.cellsOf e = sz) :
    Opens P t (fun w (xs : List α) cs => ∃ v, cs = [v] ∧ RdR w sz R v xs ∧ (xs.length : Int) ≤ 9223372036854775807) := by
  intro H enc w base sp hd fuel cs x hx
  rcases Go.Deep.open_slice ht hx with ⟨rfl, _⟩ | ⟨a, len, cap, m, n, D, Pl, rfl, _, hl, hm, hmm, _, hel⟩
  · exact ⟨[], _, rfl, ⟨[], rfl, fun i c x h => by simp at h, by simp, none, 0, rfl, Nat.le_refl _, fun h => absurd rfl h⟩, by simp⟩
  have hlm : len ≤ m := by rw [hmm]; split <;> omega
  have each : ∀ i, i < len → ∃ q : List Value × α, w.cells? base (a.add (i * sz)) sz = some q.1 ∧ R w q.2 q.1 := by
    intro i hi
    obtain ⟨cs', h1, h2⟩ := hel i (by omega)
    obtain ⟨y, hy⟩ := he enc w base sp hd n cs' _ h2
    rw [hc] at h1
    exact ⟨(cs', y), h1, hy⟩
  by_cases h0 : len = 0
  · subst h0
    exact ⟨[], _, rfl, ⟨[], rfl, fun i c x h => by simp at h, by simp, some a, cap, rfl, hl, fun h => absurd rfl h⟩, by simp⟩
  obtain ⟨q0, _⟩ := each 0 (by omega)
  haveI : Inhabited (List Value × α) := ⟨q0⟩
  obtain ⟨q, hq⟩ := Go.Deep.choose_lt each
  have hln : ∀ i, i < len → (q i).1.length = sz := fun i hi => (World.cells?_some (hq i hi).1).2.1
  have hml : maxLen = 9223372036854775807 := by decide
  refine ⟨(List.range len).map fun i => (q i).2, _, rfl, ⟨(List.range len).map fun i => (q i).1, by simp, ?_, ?_, some a, cap, by simp, by simpa using hl, fun _ => ⟨a, rfl, ?_⟩⟩, by simp; omega⟩
  · intro i c y h1 h2
    simp only [List.getElem?_map, Option.map_eq_some_iff] at h1 h2
    obtain ⟨i1, e1, rfl⟩ := h1
    obtain ⟨i2, e2, rfl⟩ := h2
    rw [e1] at e2
    simp only [Option.some.injEq] at e2; subst e2
    have := List.mem_range.1 (List.mem_of_getElem? e1)
    exact ⟨hln _ this, (hq _ this).2⟩
  · rw [List.length_flatten]
    have : ∀ (l : List Nat), (∀ i ∈ l, i < len) → ((l.map fun i => (q i).1).map List.length).sum = l.length * sz := by
      intro l
      induction l with
      | nil => intro _; simp
      | cons i l ih =>
        intro h
        simp only [List.map_cons, List.sum_cons, List.length_cons]
        rw [ih fun j hj => h j (List.mem_cons_of_mem _ hj), hln i (h i List.mem_cons_self), Nat.add_mul]; omega
    rw [this (List.range len) fun i hi => List.mem_range.1 hi]
    simp
  · intro j u hj
    have hsz0 : 0 < sz := by
      rcases Nat.eq_zero_or_pos sz with hz | hz
      · exfalso
        have : ((List.range len).map fun i => (q i).1).flatten = [] := by
          rw [List.flatten_eq_nil_iff]
          intro l hl
          obtain ⟨i, hi, rfl⟩ := List.mem_map.1 hl
          exact List.eq_nil_of_length_eq_zero (by rw [hln i (List.mem_range.1 hi), hz])
        rw [this] at hj; simp at hj
      · exact hz
    have hmap : ((List.range len).map fun i => (q i).1).flatten = (List.range len).flatMap fun i => ((List.range sz).map fun s => (q i).1.getD s default) := by
      rw [List.flatMap_def]
      congr 1
      refine List.map_congr_left fun i hi => ?_
      have hl' := hln i (List.mem_range.1 hi)
      apply List.ext_getElem?
      intro s
      by_cases hs : s < sz
      · simp [hs, List.getElem?_eq_getElem (show s < (q i).1.length by omega)]
      · rw [List.getElem?_eq_none (by omega), List.getElem?_eq_none (by simp; omega)]
    rw [hmap] at hj
    have hd' : j = (j / sz) * sz + j % sz := by rw [Nat.mul_comm]; exact (Nat.div_add_mod j sz).symm
    have hm' : j % sz < sz := Nat.mod_lt _ hsz0
    rw [hd', flat_get (fun i => (List.range sz).map fun s => (q i).1.getD s default) sz (fun i => by simp) (List.range len) (j / sz) (j % sz) hm'] at hj
    simp only [Option.bind_eq_some_iff] at hj
    obtain ⟨i, hi, hj⟩ := hj
    have hi' := List.getElem?_eq_some_iff.1 hi
    obtain ⟨hi1, hi2⟩ := hi'
    simp only [List.getElem_range] at hi2
    subst hi2
    have hlt : j / sz < len := by simpa using hi1
    obtain ⟨_, _, hcell⟩ := World.cells?_some (hq _ hlt).1
    have h9 := hcell (j % sz) hm'
    rw [add_add, ← hd'] at h9
    rw [h9]
    have hl' := hln _ hlt
    simp only [List.getElem?_map, List.getElem?_range hm', Option.map_some, Option.some.injEq] at hj
    rw [← hj, List.getElem?_eq_getElem (by omega), List.getD_eq_getElem?_getD, List.getElem?_eq_getElem (by omega)]; rfl

/-- Things that are plainly encoded. -/
theorem RdR.plain {w : World} {R : World → α → List Value → Prop} {sz : Nat} {enc : α → List Value} {ok : α → Prop} {v : Value} {xs : List α} (h : RdR w sz R v xs) (hr : ∀ x c, R w x c → c = enc x ∧ ok x) :
    RdS w sz enc v xs ∧ ∀ x ∈ xs, ok x := by
  obtain ⟨cs, h1, h2, h3⟩ := h
  have hcs : cs = xs.map enc := by
    apply List.ext_getElem?
    intro i
    by_cases hi : i < cs.length
    · have := h2 i cs[i] (xs[i]'(by omega)) (List.getElem?_eq_getElem hi) (List.getElem?_eq_getElem (by omega))
      rw [List.getElem?_eq_getElem hi, List.getElem?_map, List.getElem?_eq_getElem (by omega), (hr _ _ this.2).1]; rfl
    · rw [List.getElem?_eq_none (by omega), List.getElem?_eq_none (by simp; omega)]
  constructor
  · unfold RdS
    rw [List.flatMap_def, ← hcs]
    exact h3
  · intro x hx
    obtain ⟨i, hi, rfl⟩ := List.mem_iff_getElem.1 hx
    exact (hr _ _ (h2 i (cs[i]'(by omega)) xs[i] (List.getElem?_eq_getElem (by omega)) (List.getElem?_eq_getElem hi)).2).2

/-- A field's cells. -/
theorem opens_fields {fs : Array Field} (ht : P.underlying t = some (.struct fs)) {H : Type} {enc : TypeId × Value → H} {w : World} {base : Nat} {sp : Nat → Bool} {hd : Bool} {fuel : Nat} {cs : List Value} {x : DataW H × List MemPlace}
    (h : DataW.trod enc P w base sp hd fuel t cs = some x) : cs.length = P.cellsOf t ∧ ∀ (i : Nat) (f : Field), fs[i]? = some f → ∃ n y, DataW.trod enc P w base sp hd n f.type ((cs.drop f.offset).take (P.cellsOf f.type)) = some y := by
  obtain ⟨xs, n, rfl, _, h1, h2, h3⟩ := DataW.trod_struct ht h
  refine ⟨h1, fun i f hf => ⟨n, ?_⟩⟩
  have := h3 i f hf
  have hi : i < xs.length := by rw [h2]; exact (Array.getElem?_eq_some_iff.1 hf).1
  rw [List.getElem?_eq_getElem hi] at this
  exact ⟨_, this⟩
/-- An argument that is a slice. -/
theorem Opens.slice_arg {H : Type} {enc : TypeId × Value → H} {w : World} {r : Reach} {b base : Nat} {sp : Nat → Bool} {hd : Bool} {v : Value} {d : DataW H} {ps : List MemPlace} {R : World → List α → Value → Prop}
    (h : Opens P t (fun w (xs : List α) cs => ∃ v, cs = [v] ∧ R w xs v)) (ht : P.underlying t = some (.slice e)) (hv : Value.okWide P w r b t v) (hk : DataW.Trod enc P w base sp hd t v d ps) : ∃ xs, R w xs v := by
  obtain ⟨fuel, hk⟩ := hk
  obtain ⟨xs, v', h1, h2⟩ := h enc w base sp hd fuel _ _ hk
  obtain ⟨a, n, c, rfl⟩ := okWide_slice ht hv
  simp only [Value.cells, List.cons.injEq, and_true] at h1
  subst h1
  exact ⟨xs, h2⟩
/-- An argument that is a struct. -/
theorem Opens.struct_arg {H : Type} {enc : TypeId × Value → H} {w : World} {r : Reach} {b base : Nat} {sp : Nat → Bool} {hd : Bool} {v : Value} {d : DataW H} {ps : List MemPlace} {R : World → α → List Value → Prop} {fs : Array Field}
    (h : Opens P t R) (ht : P.underlying t = some (.struct fs)) (hv : Value.okWide P w r b t v) (hk : DataW.Trod enc P w base sp hd t v d ps) : ∃ a cs, v = .agg cs.toArray ∧ R w a cs := by
  obtain ⟨fuel, hk⟩ := hk
  obtain ⟨a, h1⟩ := h enc w base sp hd fuel _ _ hk
  obtain ⟨cs, rfl, _⟩ := okWide_struct ht hv
  exact ⟨a, cs.toList, by simp, h1⟩
end
end Go.Ann
