/- Cutting an object's operations: what the segments are. -/
import Derived.Test.YtobamkckamnmoaaC14
namespace Go.Proofs.Ytobamkckamnmoaa
set_option linter.unusedSimpArgs false
set_option linter.unusedVariables false
set_option maxRecDepth 100000
open Go Go.Ann Go.RowKit
/-- No part of it is ahead of all that follows. -/
def NoCut (l : List OpT) : Prop := ∀ p o q, l = p ++ o :: q → p ≠ [] → p.all (fun x => before x o) = false
structure Cutting (acc : List Seg) : Prop where
  apart : acc.Pairwise fun s t => ∀ x ∈ s.ops, ∀ y ∈ t.ops, before x y = true
  one : ∀ s ∈ acc, NoCut s.ops
theorem before_later {x o y : OpT} (h : before x o = true) (hy : o.Invoke ≤ y.Invoke) : before x y = true := by
  unfold before at *
  rw [Bool.and_eq_true, decide_eq_true_eq] at *
  exact ⟨h.1, by omega⟩
theorem noCut_single (o : OpT) : NoCut [o] := fun p x q h hp => by
  cases p with
  | nil => exact absurd rfl hp
  | cons a p => cases p <;> simp at h
theorem noCut_snoc {l : List OpT} {o : OpT} (h : NoCut l) (ho : l.all (fun x => before x o) = false) : NoCut (l ++ [o]) := fun p x q e hp => by
  rcases List.eq_nil_or_concat q with rfl | ⟨q', z, rfl⟩
  · have e' := List.append_inj' e rfl
    obtain ⟨rfl, e2⟩ := e'
    simp only [List.cons.injEq, and_true] at e2
    subst e2; exact ho
  · rw [List.concat_eq_append, ← List.cons_append, ← List.append_assoc] at e
    have e' := List.append_inj' e rfl
    exact h p x q' e'.1 hp
theorem Cutting.step {mk : OpT → Int × Int} {acc : List Seg} (h : Cutting acc) (hne : ∀ s ∈ acc, s.ops ≠ []) (o : OpT) (hle : ∀ x ∈ acc.flatMap Seg.ops, x.Invoke ≤ o.Invoke) : Cutting (cutStep segQ mk acc o) := by
  rcases List.eq_nil_or_concat acc with rfl | ⟨ini, s, he⟩
  · rw [cutStep_nil]
    exact ⟨List.pairwise_singleton _ _, fun s hs => by rw [List.mem_singleton.1 hs]; exact noCut_single o⟩
  · rw [List.concat_eq_append] at he
    subst he
    have hap := List.pairwise_append.1 h.apart
    obtain ⟨y, hy⟩ := List.exists_mem_of_ne_nil _ (hne s (by simp))
    have hyo : y.Invoke ≤ o.Invoke := hle y (List.mem_flatMap.2 ⟨s, by simp, hy⟩)
    have far : ∀ a ∈ ini, ∀ x ∈ a.ops, before x o = true := fun a ha x hx => before_later (hap.2.2 a ha s (by simp) x hx y hy) hyo
    cases hq : segQ s o with
    | true =>
      rw [cutStep_new mk ini hq]
      refine ⟨?_, fun t ht => ?_⟩
      · rw [List.pairwise_append]
        refine ⟨h.apart, List.pairwise_singleton _ _, fun a ha b hb x hx z hz => ?_⟩
        rw [List.mem_singleton] at hb; subst hb
        simp only [List.mem_singleton] at hz; subst hz
        rcases List.mem_append.1 ha with ha | ha
        · exact far a ha x hx
        · rw [List.mem_singleton] at ha; subst ha
          unfold segQ at hq
          rw [List.all_eq_true] at hq
          exact hq x hx
      · rcases List.mem_append.1 ht with ht | ht
        · exact h.one t ht
        · rw [List.mem_singleton] at ht; subst ht
          exact noCut_single o
    | false =>
      rw [cutStep_old mk ini hq]
      refine ⟨?_, fun t ht => ?_⟩
      · rw [List.pairwise_append]
        refine ⟨hap.1, List.pairwise_singleton _ _, fun a ha b hb x hx z hz => ?_⟩
        rw [List.mem_singleton] at hb; subst hb
        simp only at hz
        rcases List.mem_append.1 hz with hz | hz
        · exact hap.2.2 a ha s (by simp) x hx z hz
        · rw [List.mem_singleton] at hz; subst hz
          exact far a ha x hx
      · rcases List.mem_append.1 ht with ht | ht
        · exact h.one t (List.mem_append_left _ ht)
        · rw [List.mem_singleton] at ht; subst ht
          exact noCut_snoc (h.one s (by simp)) hq
theorem cutting_fold (mk : OpT → Int × Int) : ∀ (b : List OpT) (acc : List Seg), Cutting acc → (∀ s ∈ acc, s.ops ≠ []) → (acc.flatMap Seg.ops ++ b).Pairwise (fun x y => x.Invoke ≤ y.Invoke) → Cutting (b.foldl (cutStep segQ mk) acc)
  | [], acc, h, _, _ => h
  | o :: b, acc, h, hne, hp => by
    rw [List.foldl_cons]
    refine cutting_fold mk b _ (h.step hne o fun x hx => (List.pairwise_append.1 hp).2.2 x hx o List.mem_cons_self) (cutStep_ne segQ mk acc o hne) ?_
    rw [cutStep_flat, List.append_assoc]
    exact hp
theorem cutting {l : List OpT} (h : l.Pairwise fun a b => ¬ earI b a < 0) (mk : OpT → Int × Int) : Cutting (l.foldl (cutStep segQ mk) []) :=
  cutting_fold mk l [] ⟨List.Pairwise.nil, fun s h => by cases h⟩ (fun s h => by cases h) (by
    rw [List.flatMap_nil, List.nil_append]
    exact h.imp fun {a b} e => by rw [ear_neg] at e; omega)
theorem noCut_fold {l : List OpT} (h : NoCut l) (p : Int × Int) : ∀ n, n < l.length → (l.take (n + 1)).foldl (cutStep segQ fun _ => p) [] = [⟨p.1, p.2, l.take (n + 1)⟩]
  | 0, hn => by
    rw [List.take_succ_eq_append_getElem hn, List.take_zero]; rfl
  | n + 1, hn => by
    rw [List.take_succ_eq_append_getElem hn, List.foldl_append, noCut_fold h p n (by omega)]
    have hq : segQ ⟨p.1, p.2, l.take (n + 1)⟩ l[n + 1] = false := by
      refine h (l.take (n + 1)) l[n + 1] (l.drop (n + 2)) ?_ ?_
      · rw [← List.drop_eq_getElem_cons hn, List.take_append_drop]
      · intro e
        have := congrArg List.length e
        rw [List.length_take, List.length_nil] at this
        omega
    exact cutStep_old (fun _ => p) [] hq
theorem noCut_one {l : List OpT} (h : NoCut l) (hl : l ≠ []) (p : Int × Int) : l.foldl (cutStep segQ fun _ => p) [] = [⟨p.1, p.2, l⟩] := by
  have := List.length_pos_iff.2 hl
  have e := noCut_fold h p (l.length - 1) (by omega)
  rw [show l.length - 1 + 1 = l.length by omega, List.take_length] at e
  exact e
theorem seg_sub : ∀ {acc : List Seg} {s : Seg}, s ∈ acc → s.ops.Sublist (acc.flatMap Seg.ops)
  | a :: l, s, h => by
    rw [List.flatMap_cons]
    rcases List.mem_cons.1 h with rfl | h
    · exact List.sublist_append_left _ _
    · exact (seg_sub h).trans (List.sublist_append_right _ _)
/-- What is known of the objects. -/
theorem objects_sorted {l : List OpT} {acc : List Seg} (h : ByObj l acc) (hp : Pure l) {s : Seg} (hs : s ∈ acc) : s.ops.Pairwise (fun a b => ¬ earI b a < 0) ∧ Pure s.ops ∧ ∀ o ∈ s.ops, o ∈ l ∧ o.Object = s.obj := by
  have hm : ∀ o ∈ s.ops, o ∈ l ∧ o.Object = s.obj := fun o ho => by
    have := (h.sorts s hs).1.mem_iff.1 ho
    unfold ofObj at this
    rw [List.mem_filter, decide_eq_true_eq] at this
    exact this
  exact ⟨(h.sorts s hs).2, fun a ha b hb => hp a (hm a ha).1 b (hm b hb).1, hm⟩
theorem sorts_self {l r : List OpT} (hp : Pure l) (hs : l.Pairwise fun a b => ¬ earI b a < 0) (h : Sorts earI l r) : r = l := sorts_unique hp h ⟨List.Perm.refl _, hs⟩
end Go.Proofs.Ytobamkckamnmoaa
