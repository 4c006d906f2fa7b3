/- The program's cutting by objects is one by objects. -/
import Derived.Test.YtobamkckamnmoaaC11
namespace Go.Proofs.Ytobamkckamnmoaa
set_option linter.unusedSimpArgs false
set_option linter.unusedVariables false
set_option maxRecDepth 100000
open Go Go.Ann Go.RowKit
def objQ (s : Seg) (o : OpT) : Bool := !decide (s.obj = o.Object)
def objMk (o : OpT) : Int × Int := (o.Object, o.Kind)
/-- A cutting of what has been seen, in order. -/
structure Seen (r : List OpT) (acc : List Seg) : Prop where
  up : acc.Pairwise fun a b => a.obj < b.obj
  ops : ∀ s ∈ acc, s.ops = ofObj s.obj r
  kind : ∀ s ∈ acc, ∃ o r, s.ops = o :: r ∧ s.kind = o.Kind
  all : ∀ o ∈ r, ∃ s ∈ acc, s.obj = o.Object
  top : ∀ s ∈ acc, ∃ o ∈ r, s.obj = o.Object
theorem ofObj_append (x : Int) (a b : List OpT) : ofObj x (a ++ b) = ofObj x a ++ ofObj x b := List.filter_append ..
theorem ofObj_one (x : Int) (o : OpT) : ofObj x [o] = if o.Object = x then [o] else [] := by unfold ofObj; by_cases h : o.Object = x <;> simp [h]
theorem Seen.step {r : List OpT} {acc : List Seg} (h : Seen r acc) (o : OpT) (hle : ∀ x ∈ r, x.Object ≤ o.Object) : Seen (r ++ [o]) (cutStep objQ objMk acc o) := by
  have low : ∀ s ∈ acc, s.obj ≤ o.Object := fun s hs => by obtain ⟨x, hx, e⟩ := h.top s hs; rw [e]; exact hle x hx
  have fresh : (∀ s ∈ acc, s.obj < o.Object) → Seen (r ++ [o]) (acc ++ [⟨o.Object, o.Kind, [o]⟩]) := by
    intro hlt
    have hno : ofObj o.Object r = [] := by
      unfold ofObj
      rw [List.filter_eq_nil_iff]
      intro x hx
      obtain ⟨s, hs, e⟩ := h.all x hx
      have := hlt s hs
      simp; omega
    refine ⟨?_, fun s hs => ?_, fun s hs => ?_, fun x hx => ?_, fun s hs => ?_⟩
    · rw [List.pairwise_append]
      refine ⟨h.up, List.pairwise_singleton _ _, fun a ha b hb => ?_⟩
      simp only [List.mem_singleton] at hb; subst hb
      exact hlt a ha
    · rcases List.mem_append.1 hs with hs | hs
      · rw [ofObj_append, ← h.ops s hs, ofObj_one, if_neg (by have := hlt s hs; omega), List.append_nil]
      · simp only [List.mem_singleton] at hs; subst hs
        rw [ofObj_append, hno, ofObj_one, if_pos rfl]; rfl
    · rcases List.mem_append.1 hs with hs | hs
      · exact h.kind s hs
      · simp only [List.mem_singleton] at hs; subst hs; exact ⟨o, [], rfl, rfl⟩
    · rcases List.mem_append.1 hx with hx | hx
      · obtain ⟨s, hs, e⟩ := h.all x hx
        exact ⟨s, List.mem_append_left _ hs, e⟩
      · simp only [List.mem_singleton] at hx; subst hx
        exact ⟨_, List.mem_append_right _ (List.mem_singleton_self _), rfl⟩
    · rcases List.mem_append.1 hs with hs | hs
      · obtain ⟨x, hx, e⟩ := h.top s hs
        exact ⟨x, List.mem_append_left _ hx, e⟩
      · simp only [List.mem_singleton] at hs; subst hs
        exact ⟨o, List.mem_append_right _ (List.mem_singleton_self _), rfl⟩
  rcases List.eq_nil_or_concat acc with rfl | ⟨ini, s, he⟩
  · exact fresh fun s hs => by cases hs
  · rw [List.concat_eq_append] at he
    subst he
    have hup := List.pairwise_append.1 h.up
    have hslow := low s (by simp)
    by_cases hso : s.obj = o.Object
    · rw [cutStep_old _ _ (by unfold objQ; simp [hso])]
      have hini : ∀ t ∈ ini, t.obj < s.obj := fun t ht => hup.2.2 t ht s (by simp)
      refine ⟨?_, fun t ht => ?_, fun t ht => ?_, fun x hx => ?_, fun t ht => ?_⟩
      · rw [List.pairwise_append]
        refine ⟨hup.1, List.pairwise_singleton _ _, fun a ha b hb => ?_⟩
        simp only [List.mem_singleton] at hb; subst hb
        exact hini a ha
      · rcases List.mem_append.1 ht with ht | ht
        · rw [ofObj_append, ← h.ops t (List.mem_append_left _ ht), ofObj_one, if_neg (by have := hini t ht; omega), List.append_nil]
        · simp only [List.mem_singleton] at ht; subst ht
          simp only
          rw [ofObj_append, ← h.ops s (by simp), ofObj_one, if_pos hso.symm]
      · rcases List.mem_append.1 ht with ht | ht
        · exact h.kind t (List.mem_append_left _ ht)
        · simp only [List.mem_singleton] at ht; subst ht
          obtain ⟨x, y, e, hk⟩ := h.kind s (by simp)
          exact ⟨x, y ++ [o], by simp only; rw [e]; rfl, hk⟩
      · rcases List.mem_append.1 hx with hx | hx
        · obtain ⟨t, ht, e⟩ := h.all x hx
          rcases List.mem_append.1 ht with ht | ht
          · exact ⟨t, List.mem_append_left _ ht, e⟩
          · simp only [List.mem_singleton] at ht; subst ht
            exact ⟨_, List.mem_append_right _ (List.mem_singleton_self _), e⟩
        · simp only [List.mem_singleton] at hx; subst hx
          exact ⟨_, List.mem_append_right _ (List.mem_singleton_self _), hso⟩
      · rcases List.mem_append.1 ht with ht | ht
        · obtain ⟨x, hx, e⟩ := h.top t (List.mem_append_left _ ht)
          exact ⟨x, List.mem_append_left _ hx, e⟩
        · simp only [List.mem_singleton] at ht; subst ht
          exact ⟨o, List.mem_append_right _ (List.mem_singleton_self _), hso⟩
    · rw [cutStep_new _ _ (by unfold objQ; simp [hso])]
      refine fresh fun t ht => ?_
      rcases List.mem_append.1 ht with ht | ht
      · have := hup.2.2 t ht s (by simp); omega
      · simp only [List.mem_singleton] at ht; subst ht; omega
theorem seen_fold : ∀ (b a : List OpT) (acc : List Seg), Seen a acc → (a ++ b).Pairwise (fun x y => x.Object ≤ y.Object) → Seen (a ++ b) (b.foldl (cutStep objQ objMk) acc)
  | [], a, acc, h, _ => by rw [List.append_nil]; exact h
  | o :: b, a, acc, h, hp => by
    have := seen_fold b (a ++ [o]) _ (h.step o fun x hx => (List.pairwise_append.1 hp).2.2 x hx o List.mem_cons_self) (by rw [List.append_assoc]; exact hp)
    rw [List.append_assoc] at this
    exact this
theorem objects_by {l r : List OpT} (h : Sorts objI l r) : ByObj l (r.foldl (cutStep objQ objMk) []) := by
  have hp : r.Pairwise fun x y => x.Object ≤ y.Object := h.2.imp fun {a b} e => by rw [obj_neg] at e; omega
  have s := seen_fold r [] [] ⟨List.Pairwise.nil, (fun s h => by cases h), (fun s h => by cases h), (fun s h => by cases h), (fun s h => by cases h)⟩ hp
  rw [List.nil_append] at s
  refine ⟨s.up, fun t ht => ⟨?_, ?_⟩, s.kind, fun o ho => s.all o (h.1.mem_iff.2 ho)⟩
  · rw [s.ops t ht]; exact h.1.filter _
  · rw [s.ops t ht]
    have h2 : (ofObj t.obj r).Pairwise fun a b => ¬ objI b a < 0 := h.2.sublist List.filter_sublist
    refine List.Pairwise.imp_of_mem ?_ h2
    intro a b ha hb e
    have ea := (List.mem_filter.1 ha).2
    have eb := (List.mem_filter.1 hb).2
    rw [decide_eq_true_eq] at ea eb
    rw [obj_neg] at e
    rw [ear_neg]
    omega
end Go.Proofs.Ytobamkckamnmoaa
