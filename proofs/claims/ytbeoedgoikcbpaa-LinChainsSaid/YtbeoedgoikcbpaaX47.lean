/- Texts put together by program: L39, L42, L45, D2, D3, D4, D5, D6, D8, D9, D10, D11, D14, D15, L46, L47. -/
import Derived.Test.YtbeoedgoikcbpaaP5
namespace Go.Proofs.Ytbeoedgoikcbpaa
set_option linter.unusedSimpArgs false
set_option linter.unusedVariables false
set_option maxRecDepth 100000
open Go Go.Ann Go.RowKit
/-- The spot that one operation more leads to. -/
def newAt (l : List OpT) (p : Spot) (k : Nat) : List Spot :=
  match l[k]? with
  | none => []
  | some o => if mayP l p.1 k o then (match stepP p.2 o with
    | some s => [(p.1.set k true, s)]
    | none => []) else []
/-- The next spots of a spot, in order. -/
def nextL (l : List OpT) (p : Spot) : Nat → List Spot
  | 0 => []
  | k + 1 => nextL l p k ++ newAt l p k
theorem goP_eq (l : List OpT) (p : Spot) (t : List Spot) (k : Nat) : goP l p t k = (match newAt l p k with | [] => t | q :: _ => addP t q) := by
  unfold goP newAt
  cases l[k]? with
  | none => rfl
  | some o =>
    simp only
    cases mayP l p.1 k o with
    | false => rfl
    | true =>
      simp only [if_true]
      cases stepP p.2 o <;> rfl
theorem newAt_one (l : List OpT) (p : Spot) (k : Nat) : newAt l p k = [] ∨ ∃ q, newAt l p k = [q] := by
  unfold newAt
  split
  · exact .inl rfl
  · split
    · split
      · exact .inr ⟨_, rfl⟩
      · exact .inl rfl
    · exact .inl rfl
theorem addP_mem {t : List Spot} {p q : Spot} : q ∈ addP t p ↔ q ∈ t ∨ q = p := by
  unfold addP
  split
  · rename_i h
    exact ⟨.inl, fun h' => h'.elim id fun e => by rw [e]; exact h⟩
  · rw [List.mem_append, List.mem_singleton]
theorem addP_nodup {t : List Spot} {p : Spot} (h : t.Nodup) : (addP t p).Nodup := by
  unfold addP
  split
  · exact h
  · rename_i hn
    refine List.nodup_append.2 ⟨h, by simp, fun a ha b hb e => ?_⟩
    rw [List.mem_singleton] at hb
    subst hb e
    exact hn ha
theorem roundK_mem {l : List OpT} {p : Spot} {t : List Spot} {q : Spot} : ∀ k, q ∈ roundK l p t k ↔ q ∈ t ∨ q ∈ nextL l p k
  | 0 => by simp [roundK, nextL]
  | k + 1 => by
    have ih := roundK_mem (l := l) (p := p) (t := t) (q := q) k
    rw [roundK, nextL, List.mem_append, goP_eq]
    rcases newAt_one l p k with e | ⟨r, e⟩
    · rw [e, ih]; simp
    · rw [e]
      simp only
      rw [addP_mem, ih, List.mem_singleton, or_assoc]
theorem goP_nodup {l : List OpT} {p : Spot} {t : List Spot} {k : Nat} (h : t.Nodup) : (goP l p t k).Nodup := by
  unfold goP
  split
  · exact h
  · split
    · split
      · exact addP_nodup h
      · exact h
    · exact h
theorem roundK_nodup {l : List OpT} {p : Spot} {t : List Spot} (h : t.Nodup) : ∀ k, (roundK l p t k).Nodup
  | 0 => h
  | k + 1 => goP_nodup (roundK_nodup h k)
theorem bfsN_nodup {l : List OpT} {t0 : List Spot} (h : t0.Nodup) : ∀ N, (bfsN l t0 N).Nodup
  | 0 => h
  | N + 1 => by
    rw [bfsN]; split
    · exact roundK_nodup (bfsN_nodup h N) _
    · exact bfsN_nodup h N
/-- What can be come to. -/
inductive Rch (l : List OpT) : Spot → Spot → Prop
  | refl (p : Spot) : Rch l p p
  | step {p q r : Spot} : Rch l p q → r ∈ nextL l q l.length → Rch l p r
theorem Rch.head {l : List OpT} {p q r : Spot} (h : q ∈ nextL l p l.length) (k : Rch l q r) : Rch l p r := by
  induction k with
  | refl => exact .step (.refl _) h
  | step _ hs ih => exact .step ih hs
theorem Rch.trans {l : List OpT} {p q r : Spot} (h : Rch l p q) (k : Rch l q r) : Rch l p r := by
  induction k with
  | refl => exact h
  | step _ hs ih => exact .step ih hs
theorem Rch.cases_head {l : List OpT} {p r : Spot} (h : Rch l p r) : p = r ∨ ∃ q ∈ nextL l p l.length, Rch l q r := by
  induction h with
  | refl => exact .inl rfl
  | step h1 hs ih =>
    rcases ih with rfl | ⟨q, hq, hr⟩
    · exact .inr ⟨_, hs, .refl _⟩
    · exact .inr ⟨q, hq, .step hr hs⟩
theorem bfsN_rch {l : List OpT} {t0 : List Spot} : ∀ N, ∀ q ∈ bfsN l t0 N, ∃ p ∈ t0, Rch l p q
  | 0 => fun q hq => ⟨q, hq, .refl q⟩
  | N + 1 => by
    intro q hq
    rw [bfsN] at hq
    split at hq
    · rename_i p hp
      rcases (roundK_mem _).1 hq with hq | hq
      · exact bfsN_rch N q hq
      · obtain ⟨p0, h0, hr⟩ := bfsN_rch N p (List.mem_of_getElem? hp)
        exact ⟨p0, h0, .step hr hq⟩
    · exact bfsN_rch N q hq
theorem bfsN_done {l : List OpT} {t0 : List Spot} : ∀ {N i : Nat} {p : Spot}, i < N → (bfsN l t0 N)[i]? = some p → ∀ q ∈ nextL l p l.length, q ∈ bfsN l t0 N
  | 0, i, p, h, _ => by omega
  | N + 1, i, p, h, hp => by
    intro q hq
    have hpre := bfsN_step l t0 N
    rcases Nat.lt_or_ge i N with hi | hi
    · by_cases hl : i < (bfsN l t0 N).length
      · have hp' : (bfsN l t0 N)[i]? = some p := by
          obtain ⟨t, ht⟩ := hpre
          rw [← ht, List.getElem?_append_left hl] at hp
          exact hp
        exact hpre.subset (bfsN_done hi hp' q hq)
      · have hc : bfsN l t0 (N + 1) = bfsN l t0 N := bfsN_closed (by omega) (by omega)
        rw [hc, List.getElem?_eq_none (by omega)] at hp
        cases hp
    · obtain rfl : i = N := by omega
      by_cases hl : i < (bfsN l t0 i).length
      · have hp' : (bfsN l t0 i)[i]? = some p := by
          obtain ⟨t, ht⟩ := hpre
          rw [← ht, List.getElem?_append_left hl] at hp
          exact hp
        rw [bfsN, hp']
        exact (roundK_mem _).2 (.inr hq)
      · have hc : bfsN l t0 (i + 1) = bfsN l t0 i := bfsN_closed (by omega) (by omega)
        rw [hc, List.getElem?_eq_none (by omega)] at hp
        cases hp
/-- A search that ends has come to all that can be come to. -/
theorem closed_mem {l : List OpT} {t0 T : List Spot} (h : ∃ N, bfsN l t0 N = T ∧ T.length ≤ N) (q : Spot) : q ∈ T ↔ ∃ p ∈ t0, Rch l p q := by
  obtain ⟨N, rfl, hN⟩ := h
  refine ⟨bfsN_rch N q, ?_⟩
  rintro ⟨p, hp, hr⟩
  induction hr with
  | refl => exact (bfsN_mono l t0 (Nat.zero_le N)).subset hp
  | step _ hs ih =>
    obtain ⟨i, hi, e⟩ := List.mem_iff_getElem.1 ih
    exact bfsN_done (i := i) (N := N) (Nat.lt_of_lt_of_le hi hN) (by rw [List.getElem?_eq_getElem hi, e]) _ hs
theorem startP_nodup {n : Nat} {E U : List (List Int)} (h : Uniq E U) : (startP n U).Nodup := by
  unfold startP
  have hn := uniq_nodup h
  induction U with
  | nil => simp
  | cons s U ih =>
    rw [List.map_cons]
    obtain ⟨h1, h2⟩ := List.nodup_cons.1 hn
    refine List.nodup_cons.2 ⟨fun hm => ?_, ?_⟩
    · obtain ⟨t, ht, e⟩ := List.mem_map.1 hm
      simp only [Prod.mk.injEq, true_and] at e
      exact h1 (by rw [← e]; exact ht)
    · have : ∀ {U : List (List Int)}, U.Nodup → (U.map fun s => ((List.replicate n false, s) : Spot)).Nodup := by
        intro U
        induction U with
        | nil => intro _; simp
        | cons s U ih =>
          intro hn
          obtain ⟨h1, h2⟩ := List.nodup_cons.1 hn
          rw [List.map_cons]
          refine List.nodup_cons.2 ⟨fun hm => ?_, ih h2⟩
          obtain ⟨t, ht, e⟩ := List.mem_map.1 hm
          simp only [Prod.mk.injEq, true_and] at e
          exact h1 (by rw [← e]; exact ht)
      exact this h2
/-- More than enough changes nothing. -/
theorem SearchR.more {l : List OpT} {t0 T : List Spot} {b c : Int} (h : SearchR l t0 b (some T)) (hc : (T.length : Int) ≤ c) : SearchR l t0 c (some T) := ⟨h.1, hc⟩
theorem SearchR.less {l : List OpT} {t0 T : List Spot} {b c : Int} (h : SearchR l t0 b (some T)) (hc : c < (T.length : Int)) : SearchR l t0 c none := by
  obtain ⟨⟨N, h1, h2⟩, _⟩ := h
  exact ⟨N, by rw [h1]; exact hc⟩
theorem exits_mem {l : List OpT} {T : List Spot} {X : List (List Int)} (h : Uniq ((T.filter fun p => fullP l p.1).map Prod.snd) X) (s : List Int) : s ∈ X ↔ ∃ d, (d, s) ∈ T ∧ fullP l d = true := by
  rw [h.2 s, List.mem_map]
  constructor
  · rintro ⟨⟨d, s'⟩, hp, rfl⟩
    obtain ⟨h1, h2⟩ := List.mem_filter.1 hp
    exact ⟨d, h1, h2⟩
  · rintro ⟨d, h1, h2⟩
    exact ⟨(d, s), List.mem_filter.2 ⟨h1, h2⟩, rfl⟩
theorem RowS.ones {w : World} {v : Value} {D : List VS} (h : RowS w v D) : ∀ u ∈ D.map Prod.fst, u.oneCell' = true := fun u hu => by
  obtain ⟨p, hp, rfl⟩ := List.mem_map.1 hu
  obtain ⟨a, c, e, _⟩ := (h.rd p hp).form
  rw [e]; rfl
theorem SearchV.form {w' : World} {l : List OpT} {E U0 : List (List Int)} {r : Option (List Spot)} {u : Value} (h : SearchV w' l E U0 r u) : ∃ ya yn yc xa xn xc nn ue, u = .tuple #[.agg #[.slice ya yn yc, .slice xa xn xc, .int .i64 nn], .int .i64 ue] ∧ (ue = if r.isSome then 0 else 35) := by
  cases r with
  | none => exact ⟨_, _, _, _, _, _, _, _, h, rfl⟩
  | some T =>
    obtain ⟨_, _, _, _, e, g1, _, g2, _⟩ := h
    obtain ⟨_, _, rfl, _⟩ := g1.form
    obtain ⟨_, _, rfl, _⟩ := g2.form
    exact ⟨_, _, _, _, _, _, _, _, e, rfl⟩
/-- What a summary of a search that came to its end is. -/
theorem SearchV.some {w' : World} {l : List OpT} {E U0 : List (List Int)} {T : List Spot} {ya xa : Option Addr} {yn yc xn xc : Nat} {nn ue : Int} (h : SearchV w' l E U0 (some T) (.tuple #[.agg #[.slice ya yn yc, .slice xa xn xc, .int .i64 nn], .int .i64 ue])) :
    ue = 0 ∧ nn = T.length ∧ ∃ U X, RowS w' (.slice ya yn yc) U ∧ U.map Prod.snd = U0 ∧ RowS w' (.slice xa xn xc) X ∧ Uniq ((T.filter fun p => fullP l p.1).map Prod.snd) (X.map Prod.snd) := by
  obtain ⟨uv, xv, U, X, e, h1, h2, h3, h4⟩ := h
  simp only [Value.tuple.injEq, Array.mk.injEq, List.cons.injEq, Value.agg.injEq, Value.int.injEq, true_and, and_true] at e
  obtain ⟨⟨rfl, rfl, rfl⟩, rfl⟩ := e
  exact ⟨rfl, rfl, U, X, h1, h2, h3, h4⟩
theorem Uniq.len {T : List Spot} {l : List OpT} {X : List VS} (h : Uniq ((T.filter fun p => fullP l p.1).map Prod.snd) (X.map Prod.snd)) : X.length ≤ T.length := by
  have h1 := uniq_le h
  have h2 := List.length_filter_le (fun p : Spot => fullP l p.1) T
  simp only [List.length_map] at h1
  omega
theorem SearchV.below {w w' : World} {l : List OpT} {E U0 : List (List Int)} {r : Option (List Spot)} {u : Value} (h : SearchV w l E U0 r u) (hb : Below w.heap.size w w') : SearchV w' l E U0 r u := by
  cases r with
  | none => exact h
  | some T =>
    obtain ⟨uv, xv, U, X, h1, h2, h3, h4, h5⟩ := h
    exact ⟨uv, xv, U, X, h1, h2.below hb, h3, h4.below hb, h5⟩
theorem heap_fill {w : World} {b k : Nat} {cs : Array Value} (h : k ≠ b) : (w.fill b cs).heap[k]? = w.heap[k]? := by
  have : ∀ (l : List Value) (i : Nat) (w : World), (setCellsW w ⟨b, 0, none⟩ i l).heap[k]? = w.heap[k]? := by
    intro l
    induction l with
    | nil => intro i w; rfl
    | cons v r ih => intro i w; rw [setCellsW, Addr.add_lit]; exact (ih _ _).trans (Below.heap_setCell w _ v k h)
  exact this _ _ _
theorem SearchF.fill {w' : World} {l : List OpT} {E U0 : List (List Int)} {r : Option (List Spot)} {u : Value} {b z : Nat} {cs : Array Value} (h : SearchF b w' l E U0 r u) (hz : z < b) : SearchV (w'.fill z cs) l E U0 r u := by
  cases r with
  | none => exact h
  | some T =>
    obtain ⟨uv, xv, U, X, h1, h2, h3, h4, h5, h6, h7⟩ := h
    exact ⟨uv, xv, U, X, h1, h2.loc fun k hk => heap_fill (by have := h6 k hk; omega), h3, h4.loc fun k hk => heap_fill (by have := h7 k hk; omega), h5⟩
theorem row1 {w : World} {ev : Value} {s : List Int} {t : TypeId} (h : RdS w 1 intE ev s) : RowS (w.alloc (.cells #[ev] t)) (.slice (some ⟨w.heap.size, 0, none⟩) 1 1) [(ev, s)] :=
  ⟨rd_new (sz := 1) (n := 1) rfl, fun p hp => by
    rw [List.mem_singleton] at hp; subst hp
    exact h.below ((Below.refl _ w).alloc (Nat.le_refl _) _) (by decide)⟩
end Go.Proofs.Ytbeoedgoikcbpaa
namespace Go.Proofs.Ytbeoedgoikcbpaa
set_option linter.unusedSimpArgs false
set_option linter.unusedVariables false
set_option maxRecDepth 100000
open Go Go.Ann Go.RowKit
/-- All ways on from a spot, at most m operations long. -/
def allP (l : List OpT) : Nat → Spot → List Spot
  | 0, p => [p]
  | m + 1, p => p :: (nextL l p l.length).flatMap (allP l m)
def ordP (l : List OpT) (m : Nat) (p : Spot) : List (List Int) := ((allP l m p).filter fun q => fullP l q.1).map Prod.snd
def undone (d : List Bool) : Nat := d.count false
def pth : Nat → Nat
  | 0 => 1
  | m + 1 => 1 + (m + 1) * pth m
theorem newAt_mem {l : List OpT} {p q : Spot} {k : Nat} (hl : p.1.length = l.length) (h : q ∈ newAt l p k) : ∃ h : k < l.length, p.1[k] = false ∧ q.1 = p.1.set k true ∧ mayP l p.1 k l[k] = true ∧ stepP p.2 l[k] = some q.2 := by
  unfold newAt at h
  split at h
  · cases h
  · rename_i o ho
    obtain ⟨hk, rfl⟩ := List.getElem?_eq_some_iff.1 ho
    split at h
    · rename_i hm
      split at h
      · rename_i s hs
        rw [List.mem_singleton] at h
        subst h
        refine ⟨hk, ?_, rfl, hm, hs⟩
        have hm2 := hm
        unfold mayP at hm2
        rw [Bool.and_eq_true, Bool.not_eq_true'] at hm2
        have h1 := hm2.1
        rw [List.getD_eq_getElem?_getD, List.getElem?_eq_getElem (by omega)] at h1
        exact h1
      · cases h
    · cases h
theorem nextL_mem {l : List OpT} {p q : Spot} (hl : p.1.length = l.length) : ∀ {k : Nat}, q ∈ nextL l p k → q.1.length = l.length ∧ undone q.1 + 1 = undone p.1
  | 0, h => by cases h
  | k + 1, h => by
    rw [nextL] at h
    rcases List.mem_append.1 h with h | h
    · exact nextL_mem hl h
    · obtain ⟨hk, e, e2, _⟩ := newAt_mem hl h
      rw [e2]
      refine ⟨by rw [List.length_set]; exact hl, ?_⟩
      unfold undone
      have hp : 0 < p.1.count false := List.count_pos_iff.2 (by rw [← e]; exact List.getElem_mem _)
      rw [List.count_set (by omega), e]
      simp
      omega
theorem nextL_len {l : List OpT} {p : Spot} (hl : p.1.length = l.length) : ∀ k, (nextL l p k).length ≤ (p.1.take k).count false
  | 0 => by simp [nextL]
  | k + 1 => by
    have ih := nextL_len (l := l) (p := p) hl k
    rw [nextL, List.length_append]
    rcases newAt_one l p k with e | ⟨q, e⟩
    · rw [e]
      have : (p.1.take k).count false ≤ (p.1.take (k + 1)).count false := List.Sublist.count_le _ (List.take_prefix_take_left (by omega)).sublist
      simp only [List.length_nil]; omega
    · obtain ⟨hk, h0, _⟩ := newAt_mem (q := q) hl (by rw [e]; simp)
      rw [e, List.take_succ_eq_append_getElem (by omega), List.count_append, h0]
      simp
      omega
theorem flatLe {α β : Type} {f : α → List β} {c : Nat} : ∀ {l : List α}, (∀ a ∈ l, (f a).length ≤ c) → (l.flatMap f).length ≤ l.length * c
  | [], _ => by simp
  | a :: l, h => by
    have ih := flatLe (l := l) fun x hx => h x (List.mem_cons_of_mem _ hx)
    have h1 := h a (List.mem_cons_self ..)
    rw [List.flatMap_cons, List.length_append, List.length_cons, Nat.add_mul]
    omega
theorem allP_len {l : List OpT} : ∀ {m : Nat} {p : Spot}, p.1.length = l.length → undone p.1 ≤ m → (allP l m p).length ≤ pth m
  | 0, p, _, _ => by simp [allP, pth]
  | m + 1, p, hl, hm => by
    rw [allP, pth, List.length_cons]
    have h1 := flatLe (f := allP l m) (c := pth m) (l := nextL l p l.length) fun q hq => by
      obtain ⟨h1, h2⟩ := nextL_mem hl hq
      exact allP_len h1 (by omega)
    have h2 := nextL_len hl l.length
    rw [← hl, List.take_length, hl] at h2
    have h3 : (nextL l p l.length).length * pth m ≤ (m + 1) * pth m := Nat.mul_le_mul_right _ (by unfold undone at hm; omega)
    omega
theorem nextL_none {l : List OpT} {p : Spot} (hl : p.1.length = l.length) (h : undone p.1 = 0) : nextL l p l.length = [] := by
  have h2 := nextL_len hl l.length
  rw [← hl, List.take_length, hl] at h2
  exact List.eq_nil_of_length_eq_zero (by unfold undone at h; omega)
theorem allP_mem {l : List OpT} : ∀ {m : Nat} {p q : Spot}, p.1.length = l.length → undone p.1 ≤ m → (q ∈ allP l m p ↔ Rch l p q)
  | 0, p, q, hl, hm => by
    rw [allP, List.mem_singleton]
    constructor
    · rintro rfl; exact .refl _
    · intro h
      rcases h.cases_head with h | ⟨r, hr, _⟩
      · exact h.symm
      · rw [nextL_none hl (by omega)] at hr; cases hr
  | m + 1, p, q, hl, hm => by
    rw [allP, List.mem_cons, List.mem_flatMap]
    constructor
    · rintro (rfl | ⟨r, hr, h⟩)
      · exact .refl _
      · obtain ⟨h1, h2⟩ := nextL_mem hl hr
        exact .head hr ((allP_mem h1 (by omega)).1 h)
    · intro h
      rcases h.cases_head with h | ⟨r, hr, h⟩
      · exact .inl h.symm
      · obtain ⟨h1, h2⟩ := nextL_mem hl hr
        exact .inr ⟨r, hr, (allP_mem h1 (by omega)).2 h⟩
theorem ordP_zero {l : List OpT} {p : Spot} : ordP l 0 p = if fullP l p.1 then [p.2] else [] := by
  unfold ordP allP
  cases h : fullP l p.1 <;> simp [h]
theorem ordP_succ {l : List OpT} {m : Nat} {p : Spot} : ordP l (m + 1) p = (if fullP l p.1 then [p.2] else []) ++ (nextL l p l.length).flatMap (ordP l m) := by
  have e : ((nextL l p l.length).flatMap (allP l m)).filter (fun q => fullP l q.1) = (nextL l p l.length).flatMap fun q => (allP l m q).filter fun q => fullP l q.1 := by
    rw [List.filter_flatMap]
  unfold ordP
  rw [allP, List.filter_cons]
  cases h : fullP l p.1
  · simp only [Bool.false_eq_true, if_false, List.nil_append]
    rw [e, List.map_flatMap]
  · simp only [if_true, List.map_cons, List.singleton_append]
    rw [e, List.map_flatMap]
theorem ordP_len {l : List OpT} {m : Nat} {p : Spot} (hl : p.1.length = l.length) (hm : undone p.1 ≤ m) : (ordP l m p).length ≤ pth m := by
  unfold ordP
  rw [List.length_map]
  exact Nat.le_trans (List.length_filter_le ..) (allP_len hl hm)
theorem ordP_mem {l : List OpT} {m : Nat} {p : Spot} (hl : p.1.length = l.length) (hm : undone p.1 ≤ m) (s : List Int) : s ∈ ordP l m p ↔ ∃ d, Rch l p (d, s) ∧ fullP l d = true := by
  unfold ordP
  rw [List.mem_map]
  constructor
  · rintro ⟨⟨d, s'⟩, hp, rfl⟩
    obtain ⟨h1, h2⟩ := List.mem_filter.1 hp
    exact ⟨d, (allP_mem hl hm).1 h1, h2⟩
  · rintro ⟨d, h1, h2⟩
    exact ⟨(d, s), List.mem_filter.2 ⟨(allP_mem hl hm).2 h1, h2⟩, rfl⟩
/-- How many spots there are at most. -/
theorem bfsN_few {l : List OpT} {m : Nat} {p : Spot} (hl : p.1.length = l.length) (hm : undone p.1 ≤ m) (N : Nat) : (bfsN l [p] N).length ≤ pth m :=
  Nat.le_trans (nodup_le (bfsN_nodup (by simp) N) fun q hq => by
    obtain ⟨r, hr, h⟩ := bfsN_rch N q hq
    rw [List.mem_singleton] at hr
    subst hr
    exact (allP_mem hl hm).2 h) (allP_len hl hm)
end Go.Proofs.Ytbeoedgoikcbpaa
namespace Go.Proofs.Ytbeoedgoikcbpaa
set_option linter.unusedSimpArgs false
set_option linter.unusedVariables false
set_option maxRecDepth 100000
open Go Go.Ann Go.RowKit
theorem nextL_iff {l : List OpT} {p r : Spot} : ∀ {n : Nat}, r ∈ nextL l p n ↔ ∃ k, k < n ∧ r ∈ newAt l p k
  | 0 => by simp [nextL]
  | n + 1 => by
    rw [nextL, List.mem_append, nextL_iff]
    constructor
    · rintro (⟨k, h, hr⟩ | h)
      · exact ⟨k, by omega, hr⟩
      · exact ⟨n, by omega, h⟩
    · rintro ⟨k, h, hr⟩
      rcases Nat.lt_or_ge k n with h' | h'
      · exact .inl ⟨k, h', hr⟩
      · obtain rfl : k = n := by omega
        exact .inr hr
theorem newAt_iff {l : List OpT} {p r : Spot} {k : Nat} : r ∈ newAt l p k ↔ ∃ o, l[k]? = some o ∧ mayP l p.1 k o = true ∧ stepP p.2 o = some r.2 ∧ r.1 = p.1.set k true := by
  unfold newAt
  cases h : l[k]? with
  | none => simp
  | some o =>
    simp only [Option.some.injEq]
    cases hm : mayP l p.1 k o with
    | false => simp [hm]
    | true =>
      cases hs : stepP p.2 o with
      | none => simp [hs]
      | some s =>
        simp only [if_true, List.mem_singleton]
        constructor
        · rintro rfl
          exact ⟨o, rfl, hm, hs, rfl⟩
        · rintro ⟨o', rfl, _, h1, h2⟩
          rw [hs] at h1
          obtain ⟨r1, r2⟩ := r
          simp only [Option.some.injEq] at h1 h2
          rw [h1, h2]
theorem zipT {α : Type} (f : α → Bool) : ∀ (a : List α) (d : List Bool), d.length = a.length → (∀ x ∈ a, f x = true) → ((a.map f).zip d).all (fun p => p.2 || !p.1) = d.all id
  | [], [], _, _ => rfl
  | [], _ :: _, h, _ => by simp at h
  | _ :: _, [], h, _ => by simp at h
  | x :: a, e :: d, h, hf => by
    have ih := zipT f a d (by simpa using h) fun y hy => hf y (List.mem_cons_of_mem _ hy)
    rw [List.map_cons, List.zip_cons_cons, List.all_cons, List.all_cons, ih, hf x (List.mem_cons_self ..)]
    simp
theorem zipF {α : Type} (f : α → Bool) : ∀ (a : List α) (d : List Bool), (∀ x ∈ a, f x = false) → ((a.map f).zip d).all (fun p => p.2 || !p.1) = true
  | [], _, _ => rfl
  | _ :: _, [], _ => rfl
  | x :: a, e :: d, hf => by
    have ih := zipF f a d fun y hy => hf y (List.mem_cons_of_mem _ hy)
    rw [List.map_cons, List.zip_cons_cons, List.all_cons, ih, hf x (List.mem_cons_self ..)]
    simp
theorem all_T {d : List Bool} (h : d.all id = true) : d = List.replicate d.length true :=
  List.eq_replicate_iff.2 ⟨rfl, fun b hb => by simpa using List.all_eq_true.1 h b hb⟩
theorem mayP_left {a b : List OpT} {d1 d2 : List Bool} {i : Nat} {o : OpT} (h1 : d1.length = a.length) (hi : i < a.length) (ho : ∀ y ∈ b, before y o = false) : mayP (a ++ b) (d1 ++ d2) i o = mayP a d1 i o := by
  unfold mayP
  rw [List.map_append, List.zip_append (by simp [h1]), List.all_append, zipF (fun p => before p o) b d2 ho, List.getD_eq_getElem?_getD, List.getD_eq_getElem?_getD, List.getElem?_append_left (by omega), Bool.and_true]
theorem mayP_right {a b : List OpT} {d1 d2 : List Bool} {j : Nat} {o : OpT} (h1 : d1.length = a.length) (ho : ∀ x ∈ a, before x o = true) : mayP (a ++ b) (d1 ++ d2) (a.length + j) o = (d1.all id && mayP b d2 j o) := by
  unfold mayP
  rw [List.map_append, List.zip_append (by simp [h1]), List.all_append, zipT (fun p => before p o) a d1 h1 ho, List.getD_eq_getElem?_getD, List.getD_eq_getElem?_getD, List.getElem?_append_right (by omega), h1, Nat.add_sub_cancel_left]
  cases d1.all id <;> simp
theorem fullP_app {a b : List OpT} {d1 d2 : List Bool} (h1 : d1.length = a.length) : fullP (a ++ b) (d1 ++ d2) = (fullP a d1 && fullP b d2) := by
  unfold fullP
  rw [List.map_append, List.zip_append (by simp [h1]), List.all_append]
theorem fullP_done {a : List OpT} {d : List Bool} (h1 : d.length = a.length) (ha : ∀ x ∈ a, x.Done = true) : fullP a d = d.all id := zipT (fun o : OpT => o.Done) a d h1 ha
theorem Rch.len {l : List OpT} {p q : Spot} (h : Rch l p q) : q.1.length = p.1.length := by
  induction h with
  | refl => rfl
  | step _ hs ih =>
    obtain ⟨k, _, hk⟩ := nextL_iff.1 hs
    obtain ⟨_, _, _, _, e⟩ := newAt_iff.1 hk
    rw [e, List.length_set, ih]
/-- All of a stand before all of b, and none of b before one of a. -/
structure Apart (a b : List OpT) : Prop where
  up : ∀ x ∈ a, ∀ y ∈ b, before x y = true
  dn : ∀ x ∈ a, ∀ y ∈ b, before y x = false
theorem set_left {d1 d2 : List Bool} {i : Nat} (h : i < d1.length) : (d1 ++ d2).set i true = d1.set i true ++ d2 := by
  rw [List.set_append_left _ _ h]
theorem set_right {d1 d2 : List Bool} {j n : Nat} (h : d1.length = n) : (d1 ++ d2).set (n + j) true = d1 ++ d2.set j true := by
  rw [List.set_append_right _ _ (by omega), h, Nat.add_sub_cancel_left]
theorem Rch.first {a b : List OpT} (hab : Apart a b) {p q : Spot} (hp : p.1.length = a.length) (h : Rch a p q) (d2 : List Bool) : Rch (a ++ b) (p.1 ++ d2, p.2) (q.1 ++ d2, q.2) := by
  induction h with
  | refl => exact .refl _
  | @step q r hq hs ih =>
    obtain ⟨k, hk, hr⟩ := nextL_iff.1 hs
    obtain ⟨o, ho, hm, hst, e⟩ := newAt_iff.1 hr
    have hql := hq.len.trans hp
    refine ih.step (nextL_iff.2 ⟨k, by rw [List.length_append]; omega, newAt_iff.2 ⟨o, by rw [List.getElem?_append_left hk]; exact ho, ?_, hst, ?_⟩⟩)
    · rw [mayP_left hql hk fun y hy => hab.dn o (List.mem_of_getElem? ho) y hy]; exact hm
    · simp only
      rw [set_left (by omega), e]
theorem Rch.second {a b : List OpT} (hab : Apart a b) {p q : Spot} (h : Rch b p q) : Rch (a ++ b) (List.replicate a.length true ++ p.1, p.2) (List.replicate a.length true ++ q.1, q.2) := by
  induction h with
  | refl => exact .refl _
  | @step q r hq hs ih =>
    obtain ⟨k, hk, hr⟩ := nextL_iff.1 hs
    obtain ⟨o, ho, hm, hst, e⟩ := newAt_iff.1 hr
    refine ih.step (nextL_iff.2 ⟨a.length + k, by rw [List.length_append]; omega, newAt_iff.2 ⟨o, by rw [List.getElem?_append_right (by omega), Nat.add_sub_cancel_left]; exact ho, ?_, hst, ?_⟩⟩)
    · rw [mayP_right (by simp) fun x hx => hab.up x hx o (List.mem_of_getElem? ho), hm]
      simp
    · simp only
      rw [set_right (by simp), e]
theorem Rch.split {a b : List OpT} (hab : Apart a b) {s : List Int} {q : Spot} (h : Rch (a ++ b) (List.replicate a.length false ++ List.replicate b.length false, s) q) :
    (∃ e t, q = (e ++ List.replicate b.length false, t) ∧ e.length = a.length ∧ Rch a (List.replicate a.length false, s) (e, t)) ∨
    ∃ e t u, q = (List.replicate a.length true ++ e, t) ∧ Rch a (List.replicate a.length false, s) (List.replicate a.length true, u) ∧ Rch b (List.replicate b.length false, u) (e, t) := by
  induction h with
  | refl => exact .inl ⟨_, _, rfl, by simp, .refl _⟩
  | @step q r hq hs ih =>
    obtain ⟨k, hk, hr⟩ := nextL_iff.1 hs
    obtain ⟨o, ho, hm, hst, e⟩ := newAt_iff.1 hr
    obtain ⟨r1, r2⟩ := r
    simp only at e hst
    subst e
    rcases ih with ⟨e, t, rfl, he, hR⟩ | ⟨e, t, u, rfl, hR1, hR2⟩
    · simp only at hm hst ⊢
      rcases Nat.lt_or_ge k a.length with hka | hka
      · rw [List.getElem?_append_left hka] at ho
        rw [mayP_left he hka fun y hy => hab.dn o (List.mem_of_getElem? ho) y hy] at hm
        refine .inl ⟨e.set k true, r2, by rw [set_left (by omega)], by rw [List.length_set]; exact he, hR.step (nextL_iff.2 ⟨k, hka, newAt_iff.2 ⟨o, ho, hm, hst, rfl⟩⟩)⟩
      · obtain ⟨j, rfl⟩ : ∃ j, k = a.length + j := ⟨k - a.length, by omega⟩
        rw [List.getElem?_append_right (by omega), Nat.add_sub_cancel_left] at ho
        rw [mayP_right he fun x hx => hab.up x hx o (List.mem_of_getElem? ho), Bool.and_eq_true] at hm
        have eT := all_T hm.1
        rw [he] at eT
        subst eT
        refine .inr ⟨(List.replicate b.length false).set j true, r2, t, by rw [set_right (by simp)], hR, (Rch.refl _).step (nextL_iff.2 ⟨j, by rw [List.length_append] at hk; omega, newAt_iff.2 ⟨o, ho, hm.2, hst, rfl⟩⟩)⟩
    · simp only at hm hst ⊢
      rcases Nat.lt_or_ge k a.length with hka | hka
      · exfalso
        unfold mayP at hm
        rw [Bool.and_eq_true, Bool.not_eq_true', List.getD_eq_getElem?_getD, List.getElem?_append_left (by simpa using hka)] at hm
        have := hm.1
        rw [List.getElem?_eq_getElem (by simpa using hka)] at this
        simp at this
      · obtain ⟨j, rfl⟩ : ∃ j, k = a.length + j := ⟨k - a.length, by omega⟩
        rw [List.getElem?_append_right (by omega), Nat.add_sub_cancel_left] at ho
        rw [mayP_right (by simp) fun x hx => hab.up x hx o (List.mem_of_getElem? ho), Bool.and_eq_true] at hm
        refine .inr ⟨e.set j true, r2, u, by rw [set_right (by simp)], hR1, hR2.step (nextL_iff.2 ⟨j, by rw [List.length_append] at hk; omega, newAt_iff.2 ⟨o, ho, hm.2, hst, rfl⟩⟩)⟩
/-- The states that a segment's operations lead to. -/
def Exit (l : List OpT) (s t : List Int) : Prop := ∃ d, Rch l (List.replicate l.length false, s) (d, t) ∧ fullP l d = true
theorem Exit.app {a b : List OpT} (hab : Apart a b) (ha : ∀ x ∈ a, x.Done = true) {s t : List Int} : Exit (a ++ b) s t ↔ ∃ u, Exit a s u ∧ Exit b u t := by
  unfold Exit
  rw [List.length_append, ← List.replicate_append_replicate]
  constructor
  · rintro ⟨d, hr, hf⟩
    rcases hr.split hab with ⟨e, t', h1, he, h2⟩ | ⟨e, t', u, h1, h2, h3⟩
    · simp only [Prod.mk.injEq] at h1
      obtain ⟨rfl, rfl⟩ := h1
      rw [fullP_app he, Bool.and_eq_true] at hf
      exact ⟨t, ⟨e, h2, hf.1⟩, ⟨_, .refl _, hf.2⟩⟩
    · simp only [Prod.mk.injEq] at h1
      obtain ⟨rfl, rfl⟩ := h1
      rw [fullP_app (by simp), Bool.and_eq_true] at hf
      exact ⟨u, ⟨_, h2, hf.1⟩, ⟨e, h3, hf.2⟩⟩
  · rintro ⟨u, ⟨d1, h1, f1⟩, ⟨d2, h2, f2⟩⟩
    have hl1 : d1.length = a.length := by have := h1.len; simpa using this
    have f1' := f1
    rw [fullP_done hl1 ha] at f1'
    have eT := all_T f1'
    rw [hl1] at eT
    subst eT
    refine ⟨List.replicate a.length true ++ d2, (h1.first hab (by simp) _).trans (h2.second hab), ?_⟩
    rw [fullP_app (by simp), f1, f2]; rfl
end Go.Proofs.Ytbeoedgoikcbpaa
namespace Go.Proofs.Ytbeoedgoikcbpaa.Cut
set_option linter.unusedSimpArgs false
set_option linter.unusedVariables false
set_option maxRecDepth 100000
open Go Go.Ann Go.RowKit

theorem take_all_eq {α : Type} {a b : List α} (hl : a.length = b.length) (h : ∀ k, (h1 : k < a.length) → (h2 : k < b.length) → a[k] = b[k]) : a = b := List.ext_getElem hl h
/-- Operations of one number are one. -/
def Pure (l : List OpT) : Prop := ∀ a ∈ l, ∀ b ∈ l, a.ID = b.ID → a = b
def segR (w : World) (s : Seg) (c : List Value) : Prop := ∃ v, c = [.int .i64 s.obj, .int .i64 s.kind, v] ∧ RdS w 11 OpT.enc v s.ops ∧ (s.ops.length : Int) ≤ 9223372036854775806
theorem segR.below {w w' : World} (hb : Below w.heap.size w w') (s : Seg) (c : List Value) (h : segR w s c) : segR w' s c := by
  obtain ⟨v, rfl, h1, h2⟩ := h
  exact ⟨v, rfl, h1.below hb (by decide), h2⟩
end Go.Proofs.Ytbeoedgoikcbpaa.Cut
namespace Go.Proofs.Ytbeoedgoikcbpaa.Cut
set_option linter.unusedSimpArgs false
set_option linter.unusedVariables false
set_option maxRecDepth 100000
open Go Go.Ann Go.RowKit
def cmpI (a b : Int) : Int := if a < b then -1 else if b < a then 1 else 0
end Go.Proofs.Ytbeoedgoikcbpaa.Cut
namespace Go.Proofs.Ytbeoedgoikcbpaa.Cut
set_option linter.unusedSimpArgs false
set_option linter.unusedVariables false
set_option maxRecDepth 100000
open Go Go.Ann Go.RowKit
def orI (l : List Int) : Int := (l.find? fun x => !decide (x = 0)).getD 0
def earI (a b : OpT) : Int := orI [cmpI a.Invoke b.Invoke, cmpI a.ID b.ID]
def objI (a b : OpT) : Int := orI [cmpI a.Object b.Object, earI a b]
theorem chg_da {S : Nat → Prop} {w : World} {o : Obj} : Chg S w.drew (w.alloc o).drew := (Chg.refl S w.drew).alloc o
end Go.Proofs.Ytbeoedgoikcbpaa.Cut
namespace Go.Proofs.Ytbeoedgoikcbpaa.Cut
set_option linter.unusedSimpArgs false
set_option linter.unusedVariables false
set_option maxRecDepth 100000
open Go Go.Ann Go.RowKit
instance : Inhabited OpT := ⟨⟨0, 0, 0, 0, 0, 0, 0, false, 0, 0, 0⟩⟩
/-- What sorting makes. -/
def Sorts (cf : OpT → OpT → Int) (l l' : List OpT) : Prop := l'.Perm l ∧ l'.Pairwise fun a b => ¬ cf b a < 0
end Go.Proofs.Ytbeoedgoikcbpaa.Cut
namespace Go.Proofs.Ytbeoedgoikcbpaa.Cut
set_option linter.unusedSimpArgs false
set_option linter.unusedVariables false
set_option maxRecDepth 100000
open Go Go.Ann Go.RowKit
theorem orI2_neg (x y : Int) : decide (orI [x, y] < 0) = decide (x < 0 ∨ x = 0 ∧ y < 0) := by
  unfold orI
  by_cases hx : x = 0
  · subst hx
    by_cases hy : y = 0
    · subst hy; simp
    · simp [List.find?_cons, hy]
  · simp [List.find?_cons, hx]
theorem cmpI_neg (a b : Int) : (cmpI a b < 0) = (a < b) := by
  unfold cmpI
  apply propext
  split
  · omega
  · split <;> omega
theorem cmpI_zero (a b : Int) : (cmpI a b = 0) = (a = b) := by
  unfold cmpI
  apply propext
  split
  · omega
  · split <;> omega
theorem lt_ear (a b : OpT) : ltOf earI a b = decide (a.Invoke < b.Invoke ∨ a.Invoke = b.Invoke ∧ a.ID < b.ID) := by
  unfold ltOf earI
  rw [orI2_neg]
  simp only [cmpI_neg, cmpI_zero]
theorem ear_neg (a b : OpT) : (earI a b < 0) = (a.Invoke < b.Invoke ∨ a.Invoke = b.Invoke ∧ a.ID < b.ID) := by
  have := lt_ear a b
  unfold ltOf at this
  exact propext (decide_eq_decide.1 this)
theorem lt_obj (a b : OpT) : ltOf objI a b = decide (a.Object < b.Object ∨ a.Object = b.Object ∧ (a.Invoke < b.Invoke ∨ a.Invoke = b.Invoke ∧ a.ID < b.ID)) := by
  unfold ltOf objI
  rw [orI2_neg]
  simp only [cmpI_neg, cmpI_zero, ear_neg]
theorem obj_neg (a b : OpT) : (objI a b < 0) = (a.Object < b.Object ∨ a.Object = b.Object ∧ (a.Invoke < b.Invoke ∨ a.Invoke = b.Invoke ∧ a.ID < b.ID)) := by
  have := lt_obj a b
  unfold ltOf at this
  exact propext (decide_eq_decide.1 this)
/-- One operation more: a new segment where q says so. -/
def cutStep (q : Seg → OpT → Bool) (mk : OpT → Int × Int) (acc : List Seg) (o : OpT) : List Seg :=
  match acc.getLast? with
  | some s => if q s o then acc ++ [⟨(mk o).1, (mk o).2, [o]⟩] else acc.dropLast ++ [⟨s.obj, s.kind, s.ops ++ [o]⟩]
  | none => [⟨(mk o).1, (mk o).2, [o]⟩]
def segC (s : Seg) (v : Value) : List Value := [.int .i64 s.obj, .int .i64 s.kind, v]
def segCells : List Seg → List Value → List Value
  | s :: l, v :: vs => segC s v ++ segCells l vs
  | _, _ => []
def segInvs : List Seg → List Value → List Inv
  | s :: l, v :: vs => .rd 11 OpT.enc v s.ops :: segInvs l vs
  | _, _ => []
theorem segCells_snoc : ∀ (l : List Seg) (vs : List Value) (s : Seg) (v : Value), vs.length = l.length → segCells (l ++ [s]) (vs ++ [v]) = segCells l vs ++ segC s v
  | [], [], s, v, _ => by simp [segCells]
  | a :: l, b :: vs, s, v, h => by simp only [List.cons_append, segCells, List.append_assoc]; rw [segCells_snoc l vs s v (by simpa using h)]
theorem segCells_length : ∀ (l : List Seg) (vs : List Value), vs.length = l.length → (segCells l vs).length = l.length * 3
  | [], [], _ => rfl
  | a :: l, b :: vs, h => by rw [segCells, List.length_append, segCells_length l vs (by simpa using h), List.length_cons]; simp only [segC, List.length_cons, List.length_nil]; omega
theorem segInvs_mem : ∀ (l : List Seg) (vs : List Value) (i : Nat) (s : Seg) (v : Value), l[i]? = some s → vs[i]? = some v → Inv.rd 11 OpT.enc v s.ops ∈ segInvs l vs
  | a :: l, b :: vs, 0, s, v, h1, h2 => by
    simp only [List.getElem?_cons_zero, Option.some.injEq] at h1 h2; subst h1; subst h2
    exact List.mem_cons_self
  | a :: l, b :: vs, i + 1, s, v, h1, h2 => List.mem_cons_of_mem _ (segInvs_mem l vs i s v (by simpa using h1) (by simpa using h2))
theorem segInvs_snoc : ∀ (l : List Seg) (vs : List Value) (s : Seg) (v : Value), vs.length = l.length → ∀ a, a ∈ segInvs (l ++ [s]) (vs ++ [v]) ↔ a = Inv.rd 11 OpT.enc v s.ops ∨ a ∈ segInvs l vs
  | [], [], s, v, _, a => by simp [segInvs]
  | x :: l, b :: vs, s, v, h, a => by simp only [List.cons_append, segInvs, List.mem_cons, segInvs_snoc l vs s v (by simpa using h)]; exact ⟨fun h => h.elim (fun h => .inr (.inl h)) fun h => h.elim .inl fun h => .inr (.inr h), fun h => h.elim (fun h => .inr (.inl h)) fun h => h.elim .inl fun h => .inr (.inr h)⟩
theorem cutStep_nil (q : Seg → OpT → Bool) (mk : OpT → Int × Int) (o : OpT) : cutStep q mk [] o = [⟨(mk o).1, (mk o).2, [o]⟩] := rfl
theorem cutStep_new {q : Seg → OpT → Bool} (mk : OpT → Int × Int) (ini : List Seg) {s : Seg} {o : OpT} (h : q s o = true) : cutStep q mk (ini ++ [s]) o = ini ++ [s] ++ [⟨(mk o).1, (mk o).2, [o]⟩] := by
  unfold cutStep
  rw [List.getLast?_concat]
  simp only [h, if_true]
theorem cutStep_old {q : Seg → OpT → Bool} (mk : OpT → Int × Int) (ini : List Seg) {s : Seg} {o : OpT} (h : q s o = false) : cutStep q mk (ini ++ [s]) o = ini ++ [⟨s.obj, s.kind, s.ops ++ [o]⟩] := by
  unfold cutStep
  rw [List.getLast?_concat, List.dropLast_concat]
  simp only [h]
  rfl
theorem cutStep_flat (q : Seg → OpT → Bool) (mk : OpT → Int × Int) (acc : List Seg) (o : OpT) : (cutStep q mk acc o).flatMap Seg.ops = acc.flatMap Seg.ops ++ [o] := by
  unfold cutStep
  cases h : acc.getLast? with
  | none => rw [List.getLast?_eq_none_iff.1 h]; rfl
  | some s =>
    obtain ⟨ini, rfl⟩ := List.getLast?_eq_some_iff.1 h
    simp only
    split
    · rw [List.flatMap_append]; rfl
    · rw [List.dropLast_concat, List.flatMap_append, List.flatMap_append, List.append_assoc]; simp
theorem cut_flat (q : Seg → OpT → Bool) (mk : OpT → Int × Int) : ∀ (l : List OpT) (acc : List Seg), (l.foldl (cutStep q mk) acc).flatMap Seg.ops = acc.flatMap Seg.ops ++ l
  | [], acc => by simp
  | o :: l, acc => by rw [List.foldl_cons, cut_flat q mk l, cutStep_flat, List.append_assoc]; rfl
theorem cutStep_ne (q : Seg → OpT → Bool) (mk : OpT → Int × Int) (acc : List Seg) (o : OpT) (h : ∀ s ∈ acc, s.ops ≠ []) : ∀ s ∈ cutStep q mk acc o, s.ops ≠ [] := by
  unfold cutStep
  cases hl : acc.getLast? with
  | none => intro s hs; simp only [List.mem_singleton] at hs; subst hs; simp
  | some x =>
    obtain ⟨ini, rfl⟩ := List.getLast?_eq_some_iff.1 hl
    simp only
    split
    · intro s hs
      rcases List.mem_append.1 hs with hs | hs
      · exact h s hs
      · simp only [List.mem_singleton] at hs; subst hs; simp
    · intro s hs
      rw [List.dropLast_concat] at hs
      rcases List.mem_append.1 hs with hs | hs
      · exact h s (List.mem_append_left _ hs)
      · simp only [List.mem_singleton] at hs; subst hs; simp
theorem cut_ne (q : Seg → OpT → Bool) (mk : OpT → Int × Int) : ∀ (l : List OpT) (acc : List Seg), (∀ s ∈ acc, s.ops ≠ []) → ∀ s ∈ l.foldl (cutStep q mk) acc, s.ops ≠ []
  | [], acc, h => h
  | o :: l, acc, h => by rw [List.foldl_cons]; exact cut_ne q mk l _ (cutStep_ne q mk acc o h)
theorem segs_len : ∀ (acc : List Seg), (∀ s ∈ acc, s.ops ≠ []) → acc.length ≤ (acc.flatMap Seg.ops).length
  | [], _ => Nat.zero_le _
  | a :: l, h => by
    have := segs_len l fun s hs => h s (List.mem_cons_of_mem _ hs)
    have ha := List.length_pos_iff.2 (h a List.mem_cons_self)
    rw [List.flatMap_cons, List.length_append, List.length_cons]; omega
theorem seg_len (acc : List Seg) (s : Seg) (h : s ∈ acc) : s.ops.length ≤ (acc.flatMap Seg.ops).length := by
  induction acc with
  | nil => cases h
  | cons a l ih =>
    rw [List.flatMap_cons, List.length_append]
    rcases List.mem_cons.1 h with rfl | h
    · omega
    · have := ih h; omega
theorem segCells_flat : ∀ (l : List Seg) (vs : List Value), (List.zipWith segC l vs).flatten = segCells l vs
  | [], vs => by cases vs <;> rfl
  | a :: l, [] => rfl
  | a :: l, b :: vs => by rw [List.zipWith_cons_cons, List.flatten_cons, segCells_flat l vs]; rfl
end Go.Proofs.Ytbeoedgoikcbpaa.Cut
namespace Go.Proofs.Ytbeoedgoikcbpaa.Cut
set_option linter.unusedSimpArgs false
set_option linter.unusedVariables false
set_option maxRecDepth 100000
open Go Go.Ann Go.RowKit
/-- Ahead of it, or with it. -/
def leq (a b : OpT) : Bool := decide (a.Invoke < b.Invoke ∨ a.Invoke = b.Invoke ∧ a.ID ≤ b.ID)
theorem leq_ear (a b : OpT) : leq a b = true ↔ ¬ earI b a < 0 := by
  unfold leq
  rw [ear_neg, decide_eq_true_eq]
  omega
theorem sorts_ins {r : List OpT} {o : OpT} {n : Nat} (hs : r.Pairwise fun a b => ¬ earI b a < 0) (h1 : ∀ j, (h : j < r.length) → j < n → leq r[j] o = true) (h2 : (h : n < r.length) → leq r[n] o = false) : (r.take n ++ [o] ++ r.drop n).Pairwise fun a b => ¬ earI b a < 0 := by
  have tr : ∀ x y z : OpT, ¬ earI y x < 0 → ¬ earI z y < 0 → ¬ earI z x < 0 := fun x y z a b => by rw [ear_neg] at *; omega
  rw [List.append_assoc, List.pairwise_append]
  have hpre : ∀ a ∈ r.take n, leq a o = true := fun a ha => by
    obtain ⟨j, hj, rfl⟩ := List.mem_iff_getElem.1 ha
    rw [List.length_take] at hj
    rw [List.getElem_take]
    exact h1 j (by omega) (by omega)
  have hpost : ∀ b ∈ r.drop n, ¬ earI b o < 0 := fun b hb => by
    obtain ⟨j, hj, rfl⟩ := List.mem_iff_getElem.1 hb
    rw [List.length_drop] at hj
    rw [List.getElem_drop]
    have e := h2 (by omega)
    have e' : ¬ leq r[n] o = true := by rw [e]; decide
    rw [leq_ear] at e'
    have e2 : ¬ earI r[n] o < 0 := by rw [ear_neg] at *; omega
    rcases Nat.eq_zero_or_pos j with rfl | hj0
    · exact e2
    · exact tr _ _ _ e2 (List.pairwise_iff_getElem.1 hs n (n + j) (by omega) (by omega) (by omega))
  refine ⟨hs.sublist (List.take_sublist _ _), ?_, fun a ha b hb => ?_⟩
  · rw [List.singleton_append, List.pairwise_cons]
    exact ⟨hpost, hs.sublist (List.drop_sublist _ _)⟩
  · have ha' := (leq_ear _ _).1 (hpre a ha)
    rcases List.mem_append.1 hb with hb | hb
    · simp only [List.mem_singleton] at hb; subst hb; exact ha'
    · exact tr _ _ _ ha' (hpost b hb)
theorem perm_ins {l r : List OpT} {i n : Nat} (hp : r.Perm (l.take i)) (hi : i < l.length) : (r.take n ++ [l[i]] ++ r.drop n).Perm (l.take (i + 1)) := by
  rw [List.take_succ_eq_append_getElem hi]
  have h1 : (r.take n ++ [l[i]] ++ r.drop n).Perm (l[i] :: (r.take n ++ r.drop n)) := by
    rw [List.append_assoc]; exact List.perm_middle
  rw [List.take_append_drop] at h1
  exact h1.trans ((hp.cons _).trans (List.perm_append_singleton _ _).symm)
theorem offA_zero {a : Option Addr} {c sz : Nat} : offA a c 0 sz = a := by
  unfold offA
  rw [Nat.zero_mul]
  split
  · rfl
  · cases a with
    | none => rfl
    | some a => exact congrArg some (by unfold Addr.add; rfl)
theorem rd_take {w : World} {sz n k cap : Nat} {a : Option Addr} {xs : List Value} (h : Rd w sz (.slice a n cap) n xs) (hk : k ≤ n) : Rd w sz (.slice (offA a cap 0 sz) k cap) k (xs.take (k * sz)) := by
  rw [offA_zero]; exact h.take hk
theorem rd_drop {w : World} {sz n k cap : Nat} {a : Option Addr} {xs : List Value} (h : Rd w sz (.slice a n cap) n xs) (hk : k ≤ n) : Rd w sz (.slice (offA a cap k sz) (n - k) (cap - k)) (n - k) (xs.drop (k * sz)) := by
  obtain ⟨h1, a', cap', he, h2, h3⟩ := h
  simp only [Value.slice.injEq, true_and] at he
  obtain ⟨rfl, rfl⟩ := he
  refine ⟨by rw [List.length_drop, h1, Nat.sub_mul], _, _, rfl, by omega, fun h => ?_⟩
  obtain ⟨ad, rfl, h4⟩ := h3 (by omega)
  refine ⟨ad.add (k * sz), by unfold offA; rw [if_neg (by omega)]; rfl, fun j u hu => ?_⟩
  rw [add_add]
  rw [List.getElem?_drop] at hu
  exact h4 _ u hu
theorem take_flat {l : List OpT} {k : Nat} : (l.flatMap OpT.enc).take (k * 11) = (l.take k).flatMap OpT.enc := by
  induction l generalizing k with
  | nil => simp
  | cons a l ih =>
    cases k with
    | zero => simp
    | succ k => rw [List.flatMap_cons, List.take_succ_cons, List.flatMap_cons, show (k + 1) * 11 = a.enc.length + k * 11 by rw [OpT.len]; omega, List.take_length_add_append, ih]
theorem drop_flat {l : List OpT} {k : Nat} : (l.flatMap OpT.enc).drop (k * 11) = (l.drop k).flatMap OpT.enc := by
  induction l generalizing k with
  | nil => simp
  | cons a l ih =>
    cases k with
    | zero => simp
    | succ k => rw [List.flatMap_cons, List.drop_succ_cons, show (k + 1) * 11 = a.enc.length + k * 11 by rw [OpT.len]; omega, List.drop_length_add_append, ih]
theorem ins38 {W0 w : World} {Q : Post} {q : Addr} {c i n co : Nat} {ao : Option Addr} {l r : List OpT} (h : RdS W0 11 OpT.enc (.slice (some q) l.length c) l) (hl : l.length ≤ 100) (hr : r.length ≤ 100) (hi : i < l.length) (hn : n ≤ r.length)
    (s : St W0 w (fun _ => False) [.row (.slice ao r.length co) 58 11 r.length (r.flatMap OpT.enc)] [])
    (hQ : ∀ v' w', St W0 w' (fun _ => False) [.row v' 58 11 (r.take n ++ [l[i]] ++ r.drop n).length ((r.take n ++ [l[i]] ++ r.drop n).flatMap OpT.enc)] [] → Q .normal [(0, .slice (some q) l.length c), (3, v'), (4, .int .i64 i)] w') :
    W Try.prog (c52S4 ()) [(0, .slice (some q) l.length c), (3, .slice ao r.length co), (4, .int .i64 i), (5, .int .i64 n)] w Q := by
  simp (disch := first | omega | exact okFill_t rfl | exact okSize_t rfl | exact fun h => h | (simp only [World.size_alloc, World.size_drew, World.size_setCell, size_fill, bytesW]; omega)) only [go_sem, ↓reduceIte, reduceCtorEq, Nat.reduceBEq, Nat.reduceEqDiff, Nat.reduceAdd, Nat.reduceMul, Int.reduceNe, Int.reduceEq, Int.reduceLT, Int.reduceLE, Int.reduceNeg, Int.reduceAdd, Int.reduceSub, Int.reduceMul, Int.reduceToNat, beq_self_eq_true, c52, c52S0, c52S1, c52L0, c52S2, c52S3, c52S4, c52S5, c52S6, c52L1, c52S7]
  refine bsW_none ty22mkI ?_
  have s2 := s.emptyRow 58 11
  generalize w.alloc (.cells #[] 58) = w2 at s2 ⊢
  simp (disch := first | omega | exact okFill_t rfl | exact okSize_t rfl | exact fun h => h | (simp only [World.size_alloc, World.size_drew, World.size_setCell, size_fill, bytesW]; omega)) only [go_sem, ↓reduceIte, reduceCtorEq, Nat.reduceBEq, Nat.reduceEqDiff, Nat.reduceAdd, Nat.reduceMul, Int.reduceNe, Int.reduceEq, Int.reduceLT, Int.reduceLE, Int.reduceNeg, Int.reduceAdd, Int.reduceSub, Int.reduceMul, Int.reduceToNat, beq_self_eq_true, c52, c52S0, c52S1, c52L0, c52S2, c52S3, c52S4, c52S5, c52S6, c52L1, c52S7]
  have hco : r.length ≤ co := by
    obtain ⟨a', c', e, h⟩ := own_slice (s2.row 1 rfl)
    cases e; exact h
  have e1 : (r.take n).length = n := by rw [List.length_take]; omega
  refine ⟨⟨by omega, by omega⟩, ?_⟩
  refine s2.append 0 rfl ty22mkI rfl (by decide) (rd_take (Rd.of_own (s2.row 1 rfl)) hn) (by rw [take_flat]; exact OpT.ones _) (by omega) (by omega) ?_
  intro v3 w3 s3 _
  simp only [List.set_cons_zero, List.nil_append, take_flat, Nat.zero_add] at s3
  obtain ⟨a3, c3, rfl, _⟩ := own_slice (s3.row 0 rfl)
  have eo := h.eltB s3.bel OpT.len (by decide) hi
  have ato := l[i].at
  have ci := cellsO_below s3.bel (h.at OpT.len hi)
  simp (disch := first | omega | exact okFill_t rfl | exact okSize_t rfl | exact fun h => h | (simp only [World.size_alloc, World.size_drew, World.size_setCell, size_fill, bytesW]; omega)) only [go_sem, ↓reduceIte, reduceCtorEq, Nat.reduceBEq, Nat.reduceEqDiff, Nat.reduceAdd, Nat.reduceMul, Int.reduceNe, Int.reduceEq, Int.reduceLT, Int.reduceLE, Int.reduceNeg, Int.reduceAdd, Int.reduceSub, Int.reduceMul, Int.reduceToNat, beq_self_eq_true, c52, c52S0, c52S1, c52L0, c52S2, c52S3, c52S4, c52S5, c52S6, c52L1, c52S7, ci]
  refine ⟨⟨by omega, by omega⟩, bsW_agg ty22mkI rfl (by decide) (by decide) ?_⟩
  have hrd : Rd (w3.alloc (.cells l[i].enc.toArray 58)) 11 (.slice (some ⟨w3.heap.size, 0, none⟩) 1 1) 1 l[i].enc := rd_new (t := 58) (sz := 11) (n := 1) (cs := l[i].enc.toArray) rfl
  have s4 := s3.alloc' (.cells l[i].enc.toArray 58)
  generalize w3.alloc (.cells l[i].enc.toArray 58) = w4 at s4 hrd ⊢
  simp (disch := first | omega | exact okFill_t rfl | exact okSize_t rfl | exact fun h => h | (simp only [World.size_alloc, World.size_drew, World.size_setCell, size_fill, bytesW]; omega)) only [go_sem, ↓reduceIte, reduceCtorEq, Nat.reduceBEq, Nat.reduceEqDiff, Nat.reduceAdd, Nat.reduceMul, Int.reduceNe, Int.reduceEq, Int.reduceLT, Int.reduceLE, Int.reduceNeg, Int.reduceAdd, Int.reduceSub, Int.reduceMul, Int.reduceToNat, beq_self_eq_true, c52, c52S0, c52S1, c52L0, c52S2, c52S3, c52S4, c52S5, c52S6, c52L1, c52S7, ci]
  refine s4.append 0 rfl ty22mkI rfl (by decide) hrd l[i].one (by omega) (by omega) ?_
  intro v5 w5 s5 _
  simp only [List.set_cons_zero] at s5
  obtain ⟨a5, c5, rfl, _⟩ := own_slice (s5.row 0 rfl)
  simp (disch := first | omega | exact okFill_t rfl | exact okSize_t rfl | exact fun h => h | (simp only [World.size_alloc, World.size_drew, World.size_setCell, size_fill, bytesW]; omega)) only [go_sem, ↓reduceIte, reduceCtorEq, Nat.reduceBEq, Nat.reduceEqDiff, Nat.reduceAdd, Nat.reduceMul, Int.reduceNe, Int.reduceEq, Int.reduceLT, Int.reduceLE, Int.reduceNeg, Int.reduceAdd, Int.reduceSub, Int.reduceMul, Int.reduceToNat, beq_self_eq_true, c52, c52S0, c52S1, c52L0, c52S2, c52S3, c52S4, c52S5, c52S6, c52L1, c52S7]
  refine ⟨⟨by omega, by omega⟩, ?_⟩
  refine s5.append 0 rfl ty22mkI rfl (by decide) (rd_drop (Rd.of_own (s5.row 1 rfl)) hn) (by rw [drop_flat]; exact OpT.ones _) (by omega) (by omega) ?_
  intro v6 w6 s6 _
  simp only [List.set_cons_zero, drop_flat] at s6
  simp (disch := first | omega | exact okFill_t rfl | exact okSize_t rfl | exact fun h => h | (simp only [World.size_alloc, World.size_drew, World.size_setCell, size_fill, bytesW]; omega)) only [go_sem, ↓reduceIte, reduceCtorEq, Nat.reduceBEq, Nat.reduceEqDiff, Nat.reduceAdd, Nat.reduceMul, Int.reduceNe, Int.reduceEq, Int.reduceLT, Int.reduceLE, Int.reduceNeg, Int.reduceAdd, Int.reduceSub, Int.reduceMul, Int.reduceToNat, beq_self_eq_true, c52, c52S0, c52S1, c52L0, c52S2, c52S3, c52S4, c52S5, c52S6, c52L1, c52S7]
  refine hQ _ _ ?_
  have s7 := s6.sub (L' := [_]) ((List.nil_sublist _).cons_cons _)
  have el : (r.take n ++ [l[i]] ++ r.drop n).length = n + 1 + (r.length - n) := by
    rw [List.length_append, List.length_append, e1, List.length_drop]; rfl
  have ef : (r.take n ++ [l[i]] ++ r.drop n).flatMap OpT.enc = (r.take n).flatMap OpT.enc ++ l[i].enc ++ (r.drop n).flatMap OpT.enc := by
    rw [List.flatMap_append, List.flatMap_append]; simp
  rw [el, ef]
  exact s7
theorem sorted_ok (v : Value) (l : List OpT) (w : World) (h : RdS w 11 OpT.enc v l) (hl : l.length ≤ 100) :
    Ret Try.prog 52 [v] w fun u w' => (∃ r, Sorts earI l r ∧ w'.ownsRow w.heap.size 58 11 u r.length (r.flatMap OpT.enc)) ∧ Below w.heap.size w w' := by
  obtain ⟨a, c, rfl, _⟩ := h.form
  refine ent52 _ _ _ ?_
  simp (disch := first | omega | exact okFill_t rfl | exact okSize_t rfl | exact fun h => h | (simp only [World.size_alloc, World.size_drew, World.size_setCell, size_fill, bytesW]; omega)) only [go_sem, ↓reduceIte, reduceCtorEq, Nat.reduceBEq, Nat.reduceEqDiff, Nat.reduceAdd, Nat.reduceMul, Int.reduceNe, Int.reduceEq, Int.reduceLT, Int.reduceLE, Int.reduceNeg, Int.reduceAdd, Int.reduceSub, Int.reduceMul, Int.reduceToNat, beq_self_eq_true, c52, c52S0, c52S1, c52L0, c52S2, c52S3, c52S4, c52S5, c52S6, c52L1, c52S7]
  refine W_loopU (fun x : Nat × Value => [(3, x.2), (4, .int .i64 x.1)]) (fun x w' => x.1 ≤ l.length ∧ ∃ r, Sorts earI (l.take x.1) r ∧ St w w' (fun _ => False) [.row x.2 58 11 r.length (r.flatMap OpT.enc)] []) (fun x => l.length - x.1) (0, .slice none 0 0) rfl ⟨Nat.zero_le _, [], ⟨List.Perm.refl _, List.Pairwise.nil⟩, (St.start (W0 := w)).nilRow 58 11⟩ ?_
  rintro ⟨i, vo⟩ w1 ⟨hi, r, ⟨hp, hs⟩, s1⟩
  simp only at hi hp s1
  have hrl : r.length = i := by rw [hp.length_eq, List.length_take]; omega
  obtain ⟨ao, co, rfl, _⟩ := own_slice (s1.row 0 rfl)
  by_cases hlt : i < l.length
  · have hlt' : (i : Int) < l.length := by omega
    obtain ⟨q, rfl⟩ := h.ptr (by omega)
    simp (disch := first | omega | exact okFill_t rfl | exact okSize_t rfl | exact fun h => h | (simp only [World.size_alloc, World.size_drew, World.size_setCell, size_fill, bytesW]; omega)) only [go_sem, ↓reduceIte, reduceCtorEq, Nat.reduceBEq, Nat.reduceEqDiff, Nat.reduceAdd, Nat.reduceMul, Int.reduceNe, Int.reduceEq, Int.reduceLT, Int.reduceLE, Int.reduceNeg, Int.reduceAdd, Int.reduceSub, Int.reduceMul, Int.reduceToNat, beq_self_eq_true, c52, c52S0, c52S1, c52L0, c52S2, c52S3, c52S5, c52S6, c52L1, c52S7, hlt']
    refine W_loopU (fun n : Nat => [(5, .int .i64 n)]) (fun n w' => n ≤ r.length ∧ (∀ j, (h : j < r.length) → j < n → leq r[j] l[i] = true) ∧ St w w' (fun _ => False) [.row (.slice ao r.length co) 58 11 r.length (r.flatMap OpT.enc)] []) (fun n => r.length - n) 0 rfl ⟨Nat.zero_le _, fun j _ h => by omega, s1⟩ ?_
    rintro n w2 ⟨hn, hle, s2⟩
    have eo := h.eltB s2.bel OpT.len (by decide) hlt
    have ato := l[i].at
    by_cases hnr : n < r.length
    · have hnr' : (n : Int) < r.length := by omega
      have hro : RdS w2 11 OpT.enc (.slice ao r.length co) r := RdS.of_own (s2.row 0 rfl)
      obtain ⟨p, rfl⟩ := hro.ptr (by omega)
      have er := hro.elt OpT.len (by decide) hnr
      have atr := r[n].at
      simp (disch := first | omega | exact okFill_t rfl | exact okSize_t rfl | exact fun h => h | (simp only [World.size_alloc, World.size_drew, World.size_setCell, size_fill, bytesW]; omega)) only [go_sem, ↓reduceIte, reduceCtorEq, Nat.reduceBEq, Nat.reduceEqDiff, Nat.reduceAdd, Nat.reduceMul, Int.reduceNe, Int.reduceEq, Int.reduceLT, Int.reduceLE, Int.reduceNeg, Int.reduceAdd, Int.reduceSub, Int.reduceMul, Int.reduceToNat, beq_self_eq_true, c52, c52S0, c52S1, c52L0, c52S2, c52S3, c52S5, c52S6, c52L1, c52S7]
      refine c52draw0 ?_
      simp (disch := first | omega | exact okFill_t rfl | exact okSize_t rfl | exact fun h => h | (simp only [World.size_alloc, World.size_drew, World.size_setCell, size_fill, bytesW]; omega)) only [go_sem, ↓reduceIte, reduceCtorEq, Nat.reduceBEq, Nat.reduceEqDiff, Nat.reduceAdd, Nat.reduceMul, Int.reduceNe, Int.reduceEq, Int.reduceLT, Int.reduceLE, Int.reduceNeg, Int.reduceAdd, Int.reduceSub, Int.reduceMul, Int.reduceToNat, beq_self_eq_true, c52, c52S0, c52S1, c52L0, c52S2, c52S3, c52S5, c52S6, c52L1, c52S7, c52D0, eo, ato, er, atr, hnr']
      have stp : leq r[n] l[i] = true → (n + 1 ≤ r.length ∧ (∀ (j : Nat) (h : j < r.length), j < n + 1 → leq r[j] l[i] = true) ∧ St w w2.drew (fun _ => False) [.row (.slice (some p) r.length co) 58 11 r.length (r.flatMap OpT.enc)] []) := fun hy => ⟨by omega, fun j h1 h2 => by
        rcases Nat.lt_or_ge j n with h' | h'
        · exact hle j h1 h'
        · obtain rfl : j = n := by omega
          exact hy, s2.drew⟩
      have hy : leq r[n] l[i] = decide (r[n].Invoke < l[i].Invoke ∨ r[n].Invoke = l[i].Invoke ∧ r[n].ID ≤ l[i].ID) := rfl
      refine ⟨by omega, ⟨by omega, by omega⟩, fun e1 => ⟨by omega, ⟨by omega, by omega⟩, fun e2 => ⟨by omega, ⟨by omega, by omega⟩, fun e3 => ⟨⟨by omega, by omega⟩, n + 1, rfl, stp (by rw [hy]; exact decide_eq_true (by omega)), by omega⟩, fun e3 => ?_⟩, fun e2 => ?_⟩, fun e1 => ⟨⟨by omega, by omega⟩, n + 1, rfl, stp (by rw [hy]; exact decide_eq_true (by omega)), by omega⟩⟩
      · have hno : leq r[n] l[i] = false := by rw [hy]; exact decide_eq_false (by omega)
        refine ins38 h hl (by omega) hlt hn s2.drew ?_
        intro v9 w9 s9
        simp (disch := first | omega | exact okFill_t rfl | exact okSize_t rfl | exact fun h => h | (simp only [World.size_alloc, World.size_drew, World.size_setCell, size_fill, bytesW]; omega)) only [go_sem, ↓reduceIte, reduceCtorEq, Nat.reduceBEq, Nat.reduceEqDiff, Nat.reduceAdd, Nat.reduceMul, Int.reduceNe, Int.reduceEq, Int.reduceLT, Int.reduceLE, Int.reduceNeg, Int.reduceAdd, Int.reduceSub, Int.reduceMul, Int.reduceToNat, beq_self_eq_true, c52, c52S0, c52S1, c52L0, c52S2, c52S3, c52S4, c52S5, c52S6, c52L1, c52S7]
        refine ⟨⟨by omega, by omega⟩, (i + 1, _), rfl, ⟨by simp only; omega, _, ⟨?_, sorts_ins hs hle fun _ => hno⟩, s9⟩, by simp only; omega⟩
        exact perm_ins hp hlt
      · have hno : leq r[n] l[i] = false := by rw [hy]; exact decide_eq_false (by omega)
        refine ins38 h hl (by omega) hlt hn s2.drew ?_
        intro v9 w9 s9
        simp (disch := first | omega | exact okFill_t rfl | exact okSize_t rfl | exact fun h => h | (simp only [World.size_alloc, World.size_drew, World.size_setCell, size_fill, bytesW]; omega)) only [go_sem, ↓reduceIte, reduceCtorEq, Nat.reduceBEq, Nat.reduceEqDiff, Nat.reduceAdd, Nat.reduceMul, Int.reduceNe, Int.reduceEq, Int.reduceLT, Int.reduceLE, Int.reduceNeg, Int.reduceAdd, Int.reduceSub, Int.reduceMul, Int.reduceToNat, beq_self_eq_true, c52, c52S0, c52S1, c52L0, c52S2, c52S3, c52S4, c52S5, c52S6, c52L1, c52S7]
        refine ⟨⟨by omega, by omega⟩, (i + 1, _), rfl, ⟨by simp only; omega, _, ⟨?_, sorts_ins hs hle fun _ => hno⟩, s9⟩, by simp only; omega⟩
        exact perm_ins hp hlt
    · have hnr' : ¬ (n : Int) < r.length := by omega
      simp (disch := first | omega | exact okFill_t rfl | exact okSize_t rfl | exact fun h => h | (simp only [World.size_alloc, World.size_drew, World.size_setCell, size_fill, bytesW]; omega)) only [go_sem, ↓reduceIte, reduceCtorEq, Nat.reduceBEq, Nat.reduceEqDiff, Nat.reduceAdd, Nat.reduceMul, Int.reduceNe, Int.reduceEq, Int.reduceLT, Int.reduceLE, Int.reduceNeg, Int.reduceAdd, Int.reduceSub, Int.reduceMul, Int.reduceToNat, beq_self_eq_true, c52, c52S0, c52S1, c52L0, c52S2, c52S3, c52S5, c52S6, c52L1, c52S7]
      refine c52draw0 ?_
      simp (disch := first | omega | exact okFill_t rfl | exact okSize_t rfl | exact fun h => h | (simp only [World.size_alloc, World.size_drew, World.size_setCell, size_fill, bytesW]; omega)) only [go_sem, ↓reduceIte, reduceCtorEq, Nat.reduceBEq, Nat.reduceEqDiff, Nat.reduceAdd, Nat.reduceMul, Int.reduceNe, Int.reduceEq, Int.reduceLT, Int.reduceLE, Int.reduceNeg, Int.reduceAdd, Int.reduceSub, Int.reduceMul, Int.reduceToNat, beq_self_eq_true, c52, c52S0, c52S1, c52L0, c52S2, c52S3, c52S5, c52S6, c52L1, c52S7, c52D0, hnr']
      refine ins38 h hl (by omega) hlt hn s2.drew ?_
      intro v9 w9 s9
      simp (disch := first | omega | exact okFill_t rfl | exact okSize_t rfl | exact fun h => h | (simp only [World.size_alloc, World.size_drew, World.size_setCell, size_fill, bytesW]; omega)) only [go_sem, ↓reduceIte, reduceCtorEq, Nat.reduceBEq, Nat.reduceEqDiff, Nat.reduceAdd, Nat.reduceMul, Int.reduceNe, Int.reduceEq, Int.reduceLT, Int.reduceLE, Int.reduceNeg, Int.reduceAdd, Int.reduceSub, Int.reduceMul, Int.reduceToNat, beq_self_eq_true, c52, c52S0, c52S1, c52L0, c52S2, c52S3, c52S4, c52S5, c52S6, c52L1, c52S7]
      refine ⟨⟨by omega, by omega⟩, (i + 1, _), rfl, ⟨by simp only; omega, _, ⟨?_, sorts_ins hs hle fun h => absurd h (by omega)⟩, s9⟩, by simp only; omega⟩
      exact perm_ins hp hlt
  · have hlt' : ¬ (i : Int) < l.length := by omega
    simp (disch := first | omega | exact okFill_t rfl | exact okSize_t rfl | exact fun h => h | (simp only [World.size_alloc, World.size_drew, World.size_setCell, size_fill, bytesW]; omega)) only [go_sem, ↓reduceIte, reduceCtorEq, Nat.reduceBEq, Nat.reduceEqDiff, Nat.reduceAdd, Nat.reduceMul, Int.reduceNe, Int.reduceEq, Int.reduceLT, Int.reduceLE, Int.reduceNeg, Int.reduceAdd, Int.reduceSub, Int.reduceMul, Int.reduceToNat, beq_self_eq_true, c52, c52S0, c52S1, c52L0, c52S2, c52S3, c52S4, c52S5, c52S6, c52L1, c52S7, hlt']
    have hil : i = l.length := by omega
    subst hil
    rw [List.take_length] at hp
    exact ⟨⟨r, ⟨hp, hs⟩, s1.row 0 rfl⟩, s1.bel⟩
end Go.Proofs.Ytbeoedgoikcbpaa.Cut
namespace Go.Proofs.Ytbeoedgoikcbpaa.Cut
set_option linter.unusedSimpArgs false
set_option linter.unusedVariables false
set_option maxRecDepth 100000
open Go Go.Ann Go.RowKit
def segQ (s : Seg) (o : OpT) : Bool := s.ops.all fun x => before x o
/-- A piece of a row. -/
def Piece (r : List OpT) (al : Option Addr) (cl : Nat) (s : Seg) (v : Value) : Prop := ∃ f t, f ≤ t ∧ t ≤ r.length ∧ v = .slice (offA al cl f 11) (t - f) (cl - f) ∧ s.ops = (r.take t).drop f
theorem Piece.rd {w : World} {r : List OpT} {al : Option Addr} {cl : Nat} {s : Seg} {v : Value} (h : Piece r al cl s v) (hr : RdS w 11 OpT.enc (.slice al r.length cl) r) : RdS w 11 OpT.enc v s.ops := by
  obtain ⟨f, t, h1, h2, rfl, h3⟩ := h
  have e1 := rd_drop (Rd.take (k := t) hr h2) h1
  rw [take_flat, drop_flat] at e1
  have e2 : s.ops.length = t - f := by rw [h3, List.length_drop, List.length_take]; omega
  unfold RdS
  rw [e2, h3]
  exact e1
theorem take_drop_succ {r : List OpT} {f i : Nat} (h : i < r.length) (hf : f ≤ i) : (r.take (i + 1)).drop f = (r.take i).drop f ++ [r[i]] := by
  rw [List.take_succ_eq_append_getElem h, List.drop_append_of_le_length (by rw [List.length_take]; omega)]
theorem all_less {r : List OpT} {f k i : Nat} {p : OpT → Bool} (hk : k ≤ i) (h : ((r.take k).drop f).all p = false) : ((r.take i).drop f).all p = false := by
  rw [List.all_eq_false] at h ⊢
  obtain ⟨x, hx, hp⟩ := h
  exact ⟨x, ((List.take_sublist_take_left hk).drop f).subset hx, hp⟩
theorem put17 {W0 w : World} {Q : Post} {f i bo cl : Nat} {al : Option Addr} {b : Bool} {obj kind : Int} {va vo : Value} {r : List OpT} {out : List Seg} {vs : List Value} {I : List Inv} (hr : r.length ≤ 100) (ho : out.length ≤ 100) (hf : f ≤ i) (hi : i ≤ r.length) (hcl : r.length ≤ cl)
    (s : St W0 w (fun _ => False) [.row vo 24 3 out.length (segCells out vs), .blk bo #[.int .i64 obj, .int .i64 kind, va] 24] I)
    (h1 : b = true ∨ i = r.length → ∀ v' w', St W0 w' (fun _ => False) [.row v' 24 3 (out.length + 1) (segCells out vs ++ segC ⟨obj, kind, []⟩ (.slice (offA al cl f 11) (i - f) (cl - f))), .blk bo #[.int .i64 obj, .int .i64 kind, va] 24] I → Q .normal [(1, .pointer (some ⟨bo, 0, none⟩)), (3, .slice al r.length cl), (4, v'), (5, .int .i64 i), (6, .int .i64 i)] w')
    (h2 : b = false → i ≠ r.length → Q .normal [(1, .pointer (some ⟨bo, 0, none⟩)), (3, .slice al r.length cl), (4, vo), (5, .int .i64 f), (6, .int .i64 i)] w) :
    W Try.prog (c24S3 ()) [(1, .pointer (some ⟨bo, 0, none⟩)), (3, .slice al r.length cl), (4, vo), (5, .int .i64 f), (6, .int .i64 i), (7, .bool b)] w Q := by
  have hb := s.rules 1 rfl
  have hlow := s.low 1 rfl
  have grow : ∀ (Q' : Post) (x : Value), (∀ v' w', St W0 w' (fun _ => False) [.row v' 24 3 (out.length + 1) (segCells out vs ++ segC ⟨obj, kind, []⟩ (.slice (offA al cl f 11) (i - f) (cl - f))), .blk bo #[.int .i64 obj, .int .i64 kind, va] 24] I → Q' .normal [(1, .pointer (some ⟨bo, 0, none⟩)), (3, .slice al r.length cl), (4, v'), (6, .int .i64 i)] w') → drawW Try.prog (drawOps 1 c24code) [1, 3, 4, 6] [(1, .pointer (some ⟨bo, 0, none⟩)), (3, .slice al r.length cl), (4, vo), (5, .int .i64 f), (6, .int .i64 i), (46, x)] w Q' := by
    intro Q' x hQ'
    have hne : vo.ownBlock ≠ some bo := s.ne 1 0 rfl rfl (by decide) rfl
    refine c24draw1 (Chg (fun k => vo.ownBlock = some k) _) (Chg.refl _ _) ?_
    simp (disch := first | omega | exact okFill_t rfl | exact okSize_t rfl | exact fun h => h | (simp only [World.size_alloc, World.size_drew, World.size_setCell, size_fill, bytesW]; omega)) only [go_sem, ↓reduceIte, reduceCtorEq, Nat.reduceBEq, Nat.reduceEqDiff, Nat.reduceAdd, Nat.reduceMul, Int.reduceNe, Int.reduceEq, Int.reduceLT, Int.reduceLE, Int.reduceNeg, Int.reduceAdd, Int.reduceSub, Int.reduceMul, Int.reduceToNat, beq_self_eq_true, c24, c24S0, c24S1, c24L0, c24S2, c24S3, c24S4, c24S5, c24L1, c24S6, c24S7, c24D1, hb, hne]
    refine ⟨⟨by omega, by omega, by omega⟩, bdW_built (cells := (segC ⟨obj, kind, []⟩ (.slice (offA al cl f 11) (i - f) (cl - f))).toArray) (by kernel_rfl) ?_⟩
    simp (disch := first | omega | exact okFill_t rfl | exact okSize_t rfl | exact fun h => h | (simp only [World.size_alloc, World.size_drew, World.size_setCell, size_fill, bytesW]; omega)) only [go_sem, ↓reduceIte, reduceCtorEq, Nat.reduceBEq, Nat.reduceEqDiff, Nat.reduceAdd, Nat.reduceMul, Int.reduceNe, Int.reduceEq, Int.reduceLT, Int.reduceLE, Int.reduceNeg, Int.reduceAdd, Int.reduceSub, Int.reduceMul, Int.reduceToNat, beq_self_eq_true, c24, c24S0, c24S1, c24L0, c24S2, c24S3, c24S4, c24S5, c24L1, c24S6, c24S7, c24D1, hb, hne]
    refine bsW_agg ty47mkI rfl (by decide) (by decide) ?_
    simp (disch := first | omega | exact okFill_t rfl | exact okSize_t rfl | exact fun h => h | (simp only [World.size_alloc, World.size_drew, World.size_setCell, size_fill, bytesW]; omega)) only [go_sem, ↓reduceIte, reduceCtorEq, Nat.reduceBEq, Nat.reduceEqDiff, Nat.reduceAdd, Nat.reduceMul, Int.reduceNe, Int.reduceEq, Int.reduceLT, Int.reduceLE, Int.reduceNeg, Int.reduceAdd, Int.reduceSub, Int.reduceMul, Int.reduceToNat, beq_self_eq_true, c24, c24S0, c24S1, c24L0, c24S2, c24S3, c24S4, c24S5, c24L1, c24S6, c24S7, c24D1, hb, hne]
    obtain ⟨sc, hsc⟩ : ∃ sc, sc = segC ⟨obj, kind, []⟩ (.slice (offA al cl f 11) (i - f) (cl - f)) := ⟨_, rfl⟩
    rw [← hsc] at hQ' ⊢
    have h1 : ∀ u ∈ sc, u.oneCell' = true := by intro u hu; rw [hsc] at hu; simp only [segC, List.mem_cons, List.not_mem_nil, or_false] at hu; rcases hu with rfl | rfl | rfl <;> rfl
    have hl3 : sc.toArray.size = 1 * 3 := by rw [hsc]; rfl
    have hrd : Rd (w.alloc (.cells sc.toArray 24)).drew 3 (.slice (some ⟨w.heap.size, 0, none⟩) 1 1) 1 sc := rd_new (w := w.drew) (t := 24) (sz := 3) (n := 1) (cs := sc.toArray) hl3
    have s2 : St W0 (w.alloc (.cells sc.toArray 24)).drew _ _ _ := (s.alloc' (.cells sc.toArray 24)).drew
    refine ⟨chg_da, s2.append 0 rfl ty47mkI rfl (by decide) hrd h1 (by omega) (by omega) ?_⟩
    intro v3 w3 s3 c3
    simp only [List.set_cons_zero] at s3
    simp (disch := first | omega | exact okFill_t rfl | exact okSize_t rfl | exact fun h => h | (simp only [World.size_alloc, World.size_drew, World.size_setCell, size_fill, bytesW]; omega)) only [go_sem, ↓reduceIte, reduceCtorEq, Nat.reduceBEq, Nat.reduceEqDiff, Nat.reduceAdd, Nat.reduceMul, Int.reduceNe, Int.reduceEq, Int.reduceLT, Int.reduceLE, Int.reduceNeg, Int.reduceAdd, Int.reduceSub, Int.reduceMul, Int.reduceToNat, beq_self_eq_true, c24, c24S0, c24S1, c24L0, c24S2, c24S3, c24S4, c24S5, c24L1, c24S6, c24S7, c24D1, hb, hne]
    exact ⟨chg_da.trans c3, hQ' _ _ s3⟩
  cases b with
  | true =>
    simp (disch := first | omega | exact okFill_t rfl | exact okSize_t rfl | exact fun h => h | (simp only [World.size_alloc, World.size_drew, World.size_setCell, size_fill, bytesW]; omega)) only [go_sem, ↓reduceIte, reduceCtorEq, Nat.reduceBEq, Nat.reduceEqDiff, Nat.reduceAdd, Nat.reduceMul, Int.reduceNe, Int.reduceEq, Int.reduceLT, Int.reduceLE, Int.reduceNeg, Int.reduceAdd, Int.reduceSub, Int.reduceMul, Int.reduceToNat, beq_self_eq_true, c24, c24S0, c24S1, c24L0, c24S2, c24S3, c24S4, c24S5, c24L1, c24S6, c24S7]
    refine grow _ _ fun v' w' s' => ?_
    simp (disch := first | omega | exact okFill_t rfl | exact okSize_t rfl | exact fun h => h | (simp only [World.size_alloc, World.size_drew, World.size_setCell, size_fill, bytesW]; omega)) only [go_sem, ↓reduceIte, reduceCtorEq, Nat.reduceBEq, Nat.reduceEqDiff, Nat.reduceAdd, Nat.reduceMul, Int.reduceNe, Int.reduceEq, Int.reduceLT, Int.reduceLE, Int.reduceNeg, Int.reduceAdd, Int.reduceSub, Int.reduceMul, Int.reduceToNat, beq_self_eq_true, c24, c24S0, c24S1, c24L0, c24S2, c24S3, c24S4, c24S5, c24L1, c24S6, c24S7]
    exact h1 (.inl rfl) v' w' s'
  | false =>
    simp (disch := first | omega | exact okFill_t rfl | exact okSize_t rfl | exact fun h => h | (simp only [World.size_alloc, World.size_drew, World.size_setCell, size_fill, bytesW]; omega)) only [go_sem, ↓reduceIte, reduceCtorEq, Nat.reduceBEq, Nat.reduceEqDiff, Nat.reduceAdd, Nat.reduceMul, Int.reduceNe, Int.reduceEq, Int.reduceLT, Int.reduceLE, Int.reduceNeg, Int.reduceAdd, Int.reduceSub, Int.reduceMul, Int.reduceToNat, beq_self_eq_true, c24, c24S0, c24S1, c24L0, c24S2, c24S3, c24S4, c24S5, c24L1, c24S6, c24S7]
    refine ⟨fun e => ?_, fun e => h2 rfl (by omega)⟩
    refine grow _ _ fun v' w' s' => ?_
    simp (disch := first | omega | exact okFill_t rfl | exact okSize_t rfl | exact fun h => h | (simp only [World.size_alloc, World.size_drew, World.size_setCell, size_fill, bytesW]; omega)) only [go_sem, ↓reduceIte, reduceCtorEq, Nat.reduceBEq, Nat.reduceEqDiff, Nat.reduceAdd, Nat.reduceMul, Int.reduceNe, Int.reduceEq, Int.reduceLT, Int.reduceLE, Int.reduceNeg, Int.reduceAdd, Int.reduceSub, Int.reduceMul, Int.reduceToNat, beq_self_eq_true, c24, c24S0, c24S1, c24L0, c24S2, c24S3, c24S4, c24S5, c24L1, c24S6, c24S7]
    exact h1 (.inr (by omega)) v' w' s'
theorem rsegments_ok (obj kind : Int) (v : Value) (l : List OpT) (w : World) (h : RdS w 11 OpT.enc v l) (hl : l.length ≤ 100) :
    Ret Try.prog 24 [.agg #[.int .i64 obj, .int .i64 kind, v]] w fun u w' => (∃ r, Sorts earI l r ∧ RdR w' 3 segR u (r.foldl (cutStep segQ fun _ => (obj, kind)) [])) ∧ Below w.heap.size w w' := by
  obtain ⟨a, c, rfl, _⟩ := h.form
  refine ent24 _ _ _ ?_
  simp (disch := first | omega | exact okFill_t rfl | exact okSize_t rfl | exact fun h => h | (simp only [World.size_alloc, World.size_drew, World.size_setCell, size_fill, bytesW]; omega)) only [go_sem, ↓reduceIte, reduceCtorEq, Nat.reduceBEq, Nat.reduceEqDiff, Nat.reduceAdd, Nat.reduceMul, Int.reduceNe, Int.reduceEq, Int.reduceLT, Int.reduceLE, Int.reduceNeg, Int.reduceAdd, Int.reduceSub, Int.reduceMul, Int.reduceToNat, beq_self_eq_true, c24, c24S0, c24S1, c24L0, c24S2, c24S3, c24S4, c24S5, c24L1, c24S6, c24S7]
  have s1 := (St.start (W0 := w)).box #[.int .i64 obj, .int .i64 kind, .slice a l.length c] 24
  have h1 := h.below s1.bel (by decide)
  generalize w.alloc (.cells #[.int .i64 obj, .int .i64 kind, .slice a l.length c] 24) = w1 at s1 h1 ⊢
  refine Ret.mono (sorted_ok _ _ _ h1 hl) ?_
  rintro vl w2 ⟨⟨r, hs, o2⟩, b2⟩
  have hrl : r.length = l.length := hs.1.length_eq
  have s2 := (s1.add b2 (.row vl 58 11 r.length (r.flatMap OpT.enc)) (own_mono o2 s1.size) fun k hk => (o2.lt k hk).1).seal (.rd 11 OpT.enc vl r) (RdS.of_own o2) fun k hk => slFoot_own hk
  obtain ⟨al, cl, rfl, hcl⟩ := own_slice o2
  simp (disch := first | omega | exact okFill_t rfl | exact okSize_t rfl | exact fun h => h | (simp only [World.size_alloc, World.size_drew, World.size_setCell, size_fill, bytesW]; omega)) only [go_sem, ↓reduceIte, reduceCtorEq, Nat.reduceBEq, Nat.reduceEqDiff, Nat.reduceAdd, Nat.reduceMul, Int.reduceNe, Int.reduceEq, Int.reduceLT, Int.reduceLE, Int.reduceNeg, Int.reduceAdd, Int.reduceSub, Int.reduceMul, Int.reduceToNat, beq_self_eq_true, c24, c24S0, c24S1, c24L0, c24S2, c24S3, c24S4, c24S5, c24L1, c24S6, c24S7]
  refine W_loopU (fun x : Nat × Nat × Value => [(4, x.2.2), (5, .int .i64 x.2.1), (6, .int .i64 x.1)]) (fun x w' => 1 ≤ x.1 ∧ x.1 ≤ r.length + 1 ∧ x.2.1 ≤ x.1 ∧ ∃ out vs, vs.length = out.length ∧ out.length ≤ x.1 ∧ (∀ (j : Nat) (s : Seg) (v : Value), out[j]? = some s → vs[j]? = some v → Piece r al cl s v) ∧ (x.1 ≤ r.length → x.2.1 < x.1 ∧ (r.take x.1).foldl (cutStep segQ fun _ => (obj, kind)) [] = out ++ [(⟨obj, kind, (r.take x.1).drop x.2.1⟩ : Seg)]) ∧ (x.1 = r.length + 1 → r.foldl (cutStep segQ fun _ => (obj, kind)) [] = out) ∧
    St w w' (fun _ => False) [.row x.2.2 24 3 out.length (segCells out vs), .blk w.heap.size #[.int .i64 obj, .int .i64 kind, .slice a l.length c] 24] [.rd 11 OpT.enc (.slice al r.length cl) r]) (fun x => r.length + 1 - x.1) (1, 0, .slice none 0 0) rfl ⟨Nat.le_refl _, Nat.le_add_left 1 _, Nat.zero_le _, [], [], rfl, Nat.zero_le _, fun j s v h => (by have h' : (none : Option Seg) = some s := h; cases h'), fun hle => ⟨by decide, ?_⟩, fun he => ?_, s2.nilRow 24 3⟩ ?_
  · simp only at hle ⊢
    rw [List.drop_zero, List.take_succ_eq_append_getElem (by omega)]
    rfl
  · simp only at he
    rw [List.eq_nil_of_length_eq_zero (show r.length = 0 by omega)]; rfl
  rintro ⟨i, f, vo⟩ w3 ⟨hi1, hi2, hf, out, vs, hvs, hout, hpc, hfold, hend, s3⟩
  simp only at hi1 hi2 hf hout hfold hend s3
  by_cases hlt : i ≤ r.length
  · have hlt' : (i : Int) ≤ r.length := by omega
    simp (disch := first | omega | exact okFill_t rfl | exact okSize_t rfl | exact fun h => h | (simp only [World.size_alloc, World.size_drew, World.size_setCell, size_fill, bytesW]; omega)) only [go_sem, ↓reduceIte, reduceCtorEq, Nat.reduceBEq, Nat.reduceEqDiff, Nat.reduceAdd, Nat.reduceMul, Int.reduceNe, Int.reduceEq, Int.reduceLT, Int.reduceLE, Int.reduceNeg, Int.reduceAdd, Int.reduceSub, Int.reduceMul, Int.reduceToNat, beq_self_eq_true, c24, c24S0, c24S1, c24L0, c24S2, c24S4, c24S5, c24L1, c24S6, c24S7, hlt']
    obtain ⟨hfi, hfe⟩ := hfold hlt
    have hpiece : Piece r al cl ⟨obj, kind, (r.take i).drop f⟩ (.slice (offA al cl f 11) (i - f) (cl - f)) := ⟨f, i, hf, hlt, rfl, rfl⟩
    have hsegq : ∀ b : Bool, b = (decide ((i : Int) < r.length) && ((r.take i).drop f).all fun y => before y (r.getD i default)) → ∀ h : i < r.length, segQ ⟨obj, kind, (r.take i).drop f⟩ r[i] = b := by
      intro b hb h
      rw [hb, decide_eq_true (by omega), Bool.true_and]
      simp [segQ, List.getD_eq_getElem?_getD, h]
    have hsucc : ∀ h : i < r.length, (r.take (i + 1)).foldl (cutStep segQ fun _ => (obj, kind)) [] = cutStep segQ (fun _ => (obj, kind)) (out ++ [(⟨obj, kind, (r.take i).drop f⟩ : Seg)]) r[i] := fun h => by
      rw [List.take_succ_eq_append_getElem h, List.foldl_append, hfe]; rfl
    have new1 : ∀ b : Bool, b = (decide ((i : Int) < r.length) && ((r.take i).drop f).all fun y => before y (r.getD i default)) → (b = true ∨ i = r.length) → (i + 1 ≤ r.length → i < i + 1 ∧ (r.take (i + 1)).foldl (cutStep segQ fun _ => (obj, kind)) [] = out ++ [(⟨obj, kind, (r.take i).drop f⟩ : Seg)] ++ [(⟨obj, kind, (r.take (i + 1)).drop i⟩ : Seg)]) ∧ (i + 1 = r.length + 1 → r.foldl (cutStep segQ fun _ => (obj, kind)) [] = out ++ [(⟨obj, kind, (r.take i).drop f⟩ : Seg)]) := by
      intro b hb hor
      refine ⟨fun h => ⟨by omega, ?_⟩, fun h => ?_⟩
      · have hbt : b = true := by rcases hor with h' | h'; exact h'; omega
        rw [hsucc (by omega), cutStep_new _ _ ((hsegq b hb (by omega)).trans hbt), take_drop_succ (by omega) (Nat.le_refl _), show (r.take i).drop i = [] from List.drop_eq_nil_of_le (by rw [List.length_take]; omega)]
        rfl
      · have : i = r.length := by omega
        rw [← hfe, this, List.take_length]
    have old1 : ∀ b : Bool, b = (decide ((i : Int) < r.length) && ((r.take i).drop f).all fun y => before y (r.getD i default)) → b = false → i ≠ r.length → (i + 1 ≤ r.length → f < i + 1 ∧ (r.take (i + 1)).foldl (cutStep segQ fun _ => (obj, kind)) [] = out ++ [(⟨obj, kind, (r.take (i + 1)).drop f⟩ : Seg)]) ∧ (i + 1 = r.length + 1 → r.foldl (cutStep segQ fun _ => (obj, kind)) [] = out) := by
      intro b hb hbf hne
      refine ⟨fun h => ⟨by omega, ?_⟩, fun h => by omega⟩
      rw [hsucc (by omega), cutStep_old _ _ ((hsegq b hb (by omega)).trans hbf), take_drop_succ (by omega) hf]
    have hpc' : ∀ (j : Nat) (s : Seg) (v : Value), (out ++ [(⟨obj, kind, (r.take i).drop f⟩ : Seg)])[j]? = some s → (vs ++ [.slice (offA al cl f 11) (i - f) (cl - f)])[j]? = some v → Piece r al cl s v := by
      intro j s v hx hv
      rcases Nat.lt_or_ge j out.length with hj | hj
      · rw [List.getElem?_append_left hj] at hx
        rw [List.getElem?_append_left (by omega)] at hv
        exact hpc j s v hx hv
      · rw [List.getElem?_append_right hj] at hx
        rw [List.getElem?_append_right (by omega), hvs] at hv
        have hz : j - out.length = 0 := by
          have := (List.getElem?_eq_some_iff.1 hx).1
          simp only [List.length_singleton] at this; omega
        rw [hz] at hx hv
        simp only [List.getElem?_cons_zero, Option.some.injEq] at hx hv
        subst hx; subst hv
        exact hpiece
    have hcells : segCells (out ++ [(⟨obj, kind, (r.take i).drop f⟩ : Seg)]) (vs ++ [.slice (offA al cl f 11) (i - f) (cl - f)]) = segCells out vs ++ segC ⟨obj, kind, []⟩ (.slice (offA al cl f 11) (i - f) (cl - f)) := segCells_snoc _ _ _ _ hvs
    refine W_loopU (fun x : Bool × Nat => [(7, .bool x.1), (8, .int .i64 x.2)]) (fun x w' => f ≤ x.2 ∧ x.2 ≤ i ∧ x.1 = (decide ((i : Int) < r.length) && ((r.take x.2).drop f).all fun y => before y (r.getD i default)) ∧ St w w' (fun _ => False) [.row vo 24 3 out.length (segCells out vs), .blk w.heap.size #[.int .i64 obj, .int .i64 kind, .slice a l.length c] 24] [.rd 11 OpT.enc (.slice al r.length cl) r]) (fun x => i - x.2) (decide ((i : Int) < r.length), f) rfl ⟨Nat.le_refl _, hf, by simp only; rw [List.drop_eq_nil_of_le (by rw [List.length_take]; omega)]; simp, s3⟩ ?_
    rintro ⟨b, k⟩ w4 ⟨hfk, hki, hb, s4⟩
    simp only at hfk hki hb
    have g4 : RdS w4 11 OpT.enc (.slice al r.length cl) r := s4.get 0 rfl
    have tail : b = false ∨ k = i → b = (decide ((i : Int) < r.length) && ((r.take i).drop f).all fun y => before y (r.getD i default)) := by
      rintro (rfl | rfl)
      · rcases hd : decide ((i : Int) < r.length) with _ | _
        · rfl
        · rw [hd, Bool.true_and] at hb
          rw [Bool.true_and, all_less hki hb.symm]
      · exact hb
    by_cases hk : k < i
    · have hk' : (k : Int) < i := by omega
      cases b with
      | true =>
        have hir : i < r.length := by
          rcases hd : decide ((i : Int) < r.length) with _ | _
          · rw [hd] at hb; cases hb
          · have := of_decide_eq_true hd; omega
        have hir' : (i : Int) < r.length := by omega
        obtain ⟨q, rfl⟩ := g4.ptr (by omega)
        have ck := g4.at OpT.len (show k < r.length by omega)
        have ci := g4.at OpT.len hir
        have hql := g4.blt OpT.len (by decide) (by omega)
        simp (disch := first | omega | exact okFill_t rfl | exact okSize_t rfl | exact fun h => h | (simp only [World.size_alloc, World.size_drew, World.size_setCell, size_fill, bytesW]; omega)) only [go_sem, ↓reduceIte, reduceCtorEq, Nat.reduceBEq, Nat.reduceEqDiff, Nat.reduceAdd, Nat.reduceMul, Int.reduceNe, Int.reduceEq, Int.reduceLT, Int.reduceLE, Int.reduceNeg, Int.reduceAdd, Int.reduceSub, Int.reduceMul, Int.reduceToNat, beq_self_eq_true, c24, c24S0, c24S1, c24L0, c24S2, c24S4, c24S5, c24L1, c24S6, c24S7, hk']
        refine c24draw0 (Chg (fun _ => False) _) (Chg.refl _ _) ?_
        simp (disch := first | omega | exact okFill_t rfl | exact okSize_t rfl | exact fun h => h | (simp only [World.size_alloc, World.size_drew, World.size_setCell, size_fill, bytesW]; omega)) only [go_sem, ↓reduceIte, reduceCtorEq, Nat.reduceBEq, Nat.reduceEqDiff, Nat.reduceAdd, Nat.reduceMul, Int.reduceNe, Int.reduceEq, Int.reduceLT, Int.reduceLE, Int.reduceNeg, Int.reduceAdd, Int.reduceSub, Int.reduceMul, Int.reduceToNat, beq_self_eq_true, c24, c24S0, c24S1, c24L0, c24S2, c24S4, c24S5, c24L1, c24S6, c24S7, c24D0, hk', ck, ci, hir']
        refine ⟨⟨by omega, by omega⟩, by omega, Ret.mono (rbefore_ok r[k] r[i] _) ?_⟩
        rintro _ w5 ⟨rfl, b5⟩
        simp (disch := first | omega | exact okFill_t rfl | exact okSize_t rfl | exact fun h => h | (simp only [World.size_alloc, World.size_drew, World.size_setCell, size_fill, bytesW]; omega)) only [go_sem, ↓reduceIte, reduceCtorEq, Nat.reduceBEq, Nat.reduceEqDiff, Nat.reduceAdd, Nat.reduceMul, Int.reduceNe, Int.reduceEq, Int.reduceLT, Int.reduceLE, Int.reduceNeg, Int.reduceAdd, Int.reduceSub, Int.reduceMul, Int.reduceToNat, beq_self_eq_true, c24, c24S0, c24S1, c24L0, c24S2, c24S4, c24S5, c24L1, c24S6, c24S7, c24D0, hk', ck, ci, hir']
        refine ⟨⟨by omega, by omega⟩, (_, k + 1), rfl, ⟨by simp only; omega, by simp only; omega, ?_, (s4.drew).call b5⟩, by simp only; omega⟩
        simp only
        rw [take_drop_succ (by omega) hfk, List.all_append]
        have hpre : (((r.take k).drop f).all fun y => before y (r.getD i default)) = true := by
          have := hb.symm
          rw [Bool.and_eq_true] at this; exact this.2
        rw [hpre, List.getD_eq_getElem?_getD, List.getElem?_eq_getElem hir]
        simp only [Option.getD_some, List.all_cons, List.all_nil, Bool.true_and, Bool.and_true]
        unfold before
        cases r[k].Done <;> rfl
      | false =>
        simp (disch := first | omega | exact okFill_t rfl | exact okSize_t rfl | exact fun h => h | (simp only [World.size_alloc, World.size_drew, World.size_setCell, size_fill, bytesW]; omega)) only [go_sem, ↓reduceIte, reduceCtorEq, Nat.reduceBEq, Nat.reduceEqDiff, Nat.reduceAdd, Nat.reduceMul, Int.reduceNe, Int.reduceEq, Int.reduceLT, Int.reduceLE, Int.reduceNeg, Int.reduceAdd, Int.reduceSub, Int.reduceMul, Int.reduceToNat, beq_self_eq_true, c24, c24S0, c24S1, c24L0, c24S2, c24S4, c24S5, c24L1, c24S6, c24S7, hk']
        have hcv := tail (.inl rfl)
        refine put17 (by omega) (by omega) hf hlt hcl s4 (fun hor v' w' s5 => ?_) (fun hbf hir => ?_)
        · simp (disch := first | omega | exact okFill_t rfl | exact okSize_t rfl | exact fun h => h | (simp only [World.size_alloc, World.size_drew, World.size_setCell, size_fill, bytesW]; omega)) only [go_sem, ↓reduceIte, reduceCtorEq, Nat.reduceBEq, Nat.reduceEqDiff, Nat.reduceAdd, Nat.reduceMul, Int.reduceNe, Int.reduceEq, Int.reduceLT, Int.reduceLE, Int.reduceNeg, Int.reduceAdd, Int.reduceSub, Int.reduceMul, Int.reduceToNat, beq_self_eq_true, c24, c24S0, c24S1, c24L0, c24S2, c24S3, c24S4, c24S5, c24L1, c24S6, c24S7]
          obtain ⟨n1, n2⟩ := new1 _ hcv hor
          refine ⟨⟨by omega, by omega⟩, (i + 1, i, v'), rfl, ⟨Nat.le_add_left 1 i, Nat.succ_le_succ hlt, Nat.le_succ i, out ++ [(⟨obj, kind, (r.take i).drop f⟩ : Seg)], vs ++ [.slice (offA al cl f 11) (i - f) (cl - f)], by simp [hvs], by rw [List.length_append]; exact Nat.succ_le_succ hout, hpc', n1, n2, ?_⟩, by simp only; omega⟩
          rw [hcells, List.length_append]
          exact s5
        · simp (disch := first | omega | exact okFill_t rfl | exact okSize_t rfl | exact fun h => h | (simp only [World.size_alloc, World.size_drew, World.size_setCell, size_fill, bytesW]; omega)) only [go_sem, ↓reduceIte, reduceCtorEq, Nat.reduceBEq, Nat.reduceEqDiff, Nat.reduceAdd, Nat.reduceMul, Int.reduceNe, Int.reduceEq, Int.reduceLT, Int.reduceLE, Int.reduceNeg, Int.reduceAdd, Int.reduceSub, Int.reduceMul, Int.reduceToNat, beq_self_eq_true, c24, c24S0, c24S1, c24L0, c24S2, c24S3, c24S4, c24S5, c24L1, c24S6, c24S7]
          obtain ⟨n1, n2⟩ := old1 _ hcv hbf hir
          exact ⟨⟨by omega, by omega⟩, (i + 1, f, vo), rfl, ⟨Nat.le_add_left 1 i, Nat.succ_le_succ hlt, Nat.le_succ_of_le hf, out, vs, hvs, Nat.le_succ_of_le hout, hpc, n1, n2, s4⟩, by simp only; omega⟩
    · have hk' : ¬ (k : Int) < i := by omega
      simp (disch := first | omega | exact okFill_t rfl | exact okSize_t rfl | exact fun h => h | (simp only [World.size_alloc, World.size_drew, World.size_setCell, size_fill, bytesW]; omega)) only [go_sem, ↓reduceIte, reduceCtorEq, Nat.reduceBEq, Nat.reduceEqDiff, Nat.reduceAdd, Nat.reduceMul, Int.reduceNe, Int.reduceEq, Int.reduceLT, Int.reduceLE, Int.reduceNeg, Int.reduceAdd, Int.reduceSub, Int.reduceMul, Int.reduceToNat, beq_self_eq_true, c24, c24S0, c24S1, c24L0, c24S2, c24S4, c24S5, c24L1, c24S6, c24S7, hk']
      have hcv := tail (.inr (by omega))
      refine put17 (by omega) (by omega) hf hlt hcl s4 (fun hor v' w' s5 => ?_) (fun hbf hir => ?_)
      · simp (disch := first | omega | exact okFill_t rfl | exact okSize_t rfl | exact fun h => h | (simp only [World.size_alloc, World.size_drew, World.size_setCell, size_fill, bytesW]; omega)) only [go_sem, ↓reduceIte, reduceCtorEq, Nat.reduceBEq, Nat.reduceEqDiff, Nat.reduceAdd, Nat.reduceMul, Int.reduceNe, Int.reduceEq, Int.reduceLT, Int.reduceLE, Int.reduceNeg, Int.reduceAdd, Int.reduceSub, Int.reduceMul, Int.reduceToNat, beq_self_eq_true, c24, c24S0, c24S1, c24L0, c24S2, c24S3, c24S4, c24S5, c24L1, c24S6, c24S7]
        obtain ⟨n1, n2⟩ := new1 _ hcv hor
        refine ⟨⟨by omega, by omega⟩, (i + 1, i, v'), rfl, ⟨Nat.le_add_left 1 i, Nat.succ_le_succ hlt, Nat.le_succ i, out ++ [(⟨obj, kind, (r.take i).drop f⟩ : Seg)], vs ++ [.slice (offA al cl f 11) (i - f) (cl - f)], by simp [hvs], by rw [List.length_append]; exact Nat.succ_le_succ hout, hpc', n1, n2, ?_⟩, by simp only; omega⟩
        rw [hcells, List.length_append]
        exact s5
      · simp (disch := first | omega | exact okFill_t rfl | exact okSize_t rfl | exact fun h => h | (simp only [World.size_alloc, World.size_drew, World.size_setCell, size_fill, bytesW]; omega)) only [go_sem, ↓reduceIte, reduceCtorEq, Nat.reduceBEq, Nat.reduceEqDiff, Nat.reduceAdd, Nat.reduceMul, Int.reduceNe, Int.reduceEq, Int.reduceLT, Int.reduceLE, Int.reduceNeg, Int.reduceAdd, Int.reduceSub, Int.reduceMul, Int.reduceToNat, beq_self_eq_true, c24, c24S0, c24S1, c24L0, c24S2, c24S3, c24S4, c24S5, c24L1, c24S6, c24S7]
        obtain ⟨n1, n2⟩ := old1 _ hcv hbf hir
        exact ⟨⟨by omega, by omega⟩, (i + 1, f, vo), rfl, ⟨Nat.le_add_left 1 i, Nat.succ_le_succ hlt, Nat.le_succ_of_le hf, out, vs, hvs, Nat.le_succ_of_le hout, hpc, n1, n2, s4⟩, by simp only; omega⟩
  · have hlt' : ¬ (i : Int) ≤ r.length := by omega
    simp (disch := first | omega | exact okFill_t rfl | exact okSize_t rfl | exact fun h => h | (simp only [World.size_alloc, World.size_drew, World.size_setCell, size_fill, bytesW]; omega)) only [go_sem, ↓reduceIte, reduceCtorEq, Nat.reduceBEq, Nat.reduceEqDiff, Nat.reduceAdd, Nat.reduceMul, Int.reduceNe, Int.reduceEq, Int.reduceLT, Int.reduceLE, Int.reduceNeg, Int.reduceAdd, Int.reduceSub, Int.reduceMul, Int.reduceToNat, beq_self_eq_true, c24, c24S0, c24S1, c24L0, c24S2, c24S3, c24S4, c24S5, c24L1, c24S6, c24S7, hlt']
    have hie : i = r.length + 1 := by omega
    refine ⟨⟨r, hs, ?_⟩, s3.bel⟩
    rw [hend hie]
    have hrr : RdS w3 11 OpT.enc (.slice al r.length cl) r := s3.get 0 rfl
    refine ⟨List.zipWith segC out vs, by simp [hvs], ?_, ?_⟩
    · intro j c x hc hx
      rw [List.getElem?_zipWith, hx] at hc
      cases hv : vs[j]? with
      | none => rw [hv] at hc; cases hc
      | some v =>
        rw [hv] at hc
        simp only [Option.some.injEq] at hc
        subst hc
        refine ⟨rfl, v, rfl, (hpc j x v hx hv).rd hrr, ?_⟩
        obtain ⟨f', t', _, _, _, e⟩ := hpc j x v hx hv
        rw [e, List.length_drop, List.length_take]; omega
    · rw [segCells_flat]
      exact Rd.of_own (s3.row 0 rfl)
end Go.Proofs.Ytbeoedgoikcbpaa.Cut
namespace Go.Proofs.Ytbeoedgoikcbpaa.Cut
set_option linter.unusedSimpArgs false
set_option linter.unusedVariables false
set_option maxRecDepth 100000
open Go Go.Ann Go.RowKit
def ofObj (x : Int) (l : List OpT) : List OpT := l.filter fun o => decide (o.Object = x)
/-- What a cutting by objects is. -/
structure ByObj (l : List OpT) (acc : List Seg) : Prop where
  up : acc.Pairwise fun a b => a.obj < b.obj
  sorts : ∀ s ∈ acc, Sorts earI (ofObj s.obj l) s.ops
  kind : ∀ s ∈ acc, ∃ o r, s.ops = o :: r ∧ s.kind = o.Kind
  all : ∀ o ∈ l, ∃ s ∈ acc, s.obj = o.Object
/-- The least object above those that are done. -/
def Next (l : List OpT) (any : Bool) (last : Int) (k : Nat) (found : Bool) (next : Int) : Prop :=
  (found = false ∧ ∀ o ∈ l.take k, any = true ∧ o.Object ≤ last) ∨ (found = true ∧ (∃ o ∈ l.take k, o.Object = next) ∧ (any = true → last < next) ∧ ∀ o ∈ l.take k, (any = true → last < o.Object) → next ≤ o.Object)
/-- What is still to be cut. -/
def left (l : List OpT) (any : Bool) (last : Int) : List OpT := l.filter fun o => !any || decide (last < o.Object)
/-- A cutting by objects, so far. -/
structure Part (l : List OpT) (acc : List Seg) (any : Bool) (last : Int) : Prop where
  up : acc.Pairwise fun a b => a.obj < b.obj
  sorts : ∀ s ∈ acc, Sorts earI (ofObj s.obj l) s.ops
  kind : ∀ s ∈ acc, ∃ o r, s.ops = o :: r ∧ s.kind = o.Kind
  low : ∀ s ∈ acc, any = true ∧ s.obj ≤ last
  all : ∀ o ∈ l, o ∈ left l any last ∨ ∃ s ∈ acc, s.obj = o.Object
theorem Part.nil (l : List OpT) (x : Int) : Part l [] false x := ⟨List.Pairwise.nil, (fun s h => by cases h), (fun s h => by cases h), (fun s h => by cases h), fun o h => .inl (by unfold left; simpa using h)⟩
theorem mem_take_succ {l : List OpT} {k : Nat} (hk : k < l.length) {o : OpT} : o ∈ l.take (k + 1) ↔ o ∈ l.take k ∨ o = l[k] := by
  rw [List.take_succ_eq_append_getElem hk, List.mem_append, List.mem_singleton]
theorem Next.take {l : List OpT} {any found : Bool} {last next : Int} {k : Nat} (h : Next l any last k found next) (hk : k < l.length) (h1 : any = true → last < l[k].Object) (h2 : found = true → l[k].Object < next) : Next l any last (k + 1) true l[k].Object := by
  refine .inr ⟨rfl, ⟨_, (mem_take_succ hk).2 (.inr rfl), rfl⟩, h1, fun o ho hlo => ?_⟩
  rcases (mem_take_succ hk).1 ho with ho | rfl
  · rcases h with ⟨_, h⟩ | ⟨hf, _, _, h⟩
    · have := h o ho; have := hlo this.1; omega
    · have := h o ho hlo; have := h2 hf; omega
  · exact Int.le_refl _
theorem Next.skip {l : List OpT} {any found : Bool} {last next : Int} {k : Nat} (h : Next l any last k found next) (hk : k < l.length) (h1 : (any = true ∧ l[k].Object ≤ last) ∨ (found = true ∧ next ≤ l[k].Object)) : Next l any last (k + 1) found next := by
  rcases h with ⟨hf, h⟩ | ⟨hf, ⟨x, hx, hxe⟩, h2, h⟩
  · subst hf
    refine .inl ⟨rfl, fun o ho => ?_⟩
    rcases (mem_take_succ hk).1 ho with ho | rfl
    · exact h o ho
    · rcases h1 with h1 | h1
      · exact h1
      · cases h1.1
  · refine .inr ⟨hf, ⟨x, (mem_take_succ hk).2 (.inl hx), hxe⟩, h2, fun o ho hlo => ?_⟩
    rcases (mem_take_succ hk).1 ho with ho | rfl
    · exact h o ho hlo
    · rcases h1 with h1 | h1
      · have := hlo h1.1; omega
      · exact h1.2
theorem segs_rd {W0 w : World} {F : Nat → Prop} {L : List Res} {I : List Inv} {vo : Value} {acc : List Seg} {vs : List Value} (hvs : vs.length = acc.length) (h : St W0 w F (.row vo 24 3 acc.length (segCells acc vs) :: L) I)
    (hr : ∀ (j : Nat) (s : Seg) (v : Value), acc[j]? = some s → vs[j]? = some v → RdS w 11 OpT.enc v s.ops) (hl : ∀ s ∈ acc, (s.ops.length : Int) ≤ 9223372036854775806) : RdR w 3 segR vo acc := by
  refine ⟨List.zipWith segC acc vs, by simp [hvs], ?_, ?_⟩
  · intro j c x hc hx
    rw [List.getElem?_zipWith, hx] at hc
    cases hv : vs[j]? with
    | none => rw [hv] at hc; cases hc
    | some v =>
      rw [hv] at hc
      simp only [Option.some.injEq] at hc
      subst hc
      exact ⟨rfl, v, rfl, hr j x v hx hv, hl x (List.mem_of_getElem? hx)⟩
  · rw [segCells_flat]
    exact Rd.of_own (h.row 0 rfl)
theorem ofObj_len (x : Int) (l : List OpT) : (ofObj x l).length ≤ l.length := List.length_filter_le _ _
theorem ofObj_snoc (x : Int) {l : List OpT} {k : Nat} (hk : k < l.length) : ofObj x (l.take (k + 1)) = ofObj x (l.take k) ++ if l[k].Object = x then [l[k]] else [] := by
  rw [List.take_succ_eq_append_getElem hk]
  unfold ofObj
  rw [List.filter_append]
  by_cases h : l[k].Object = x
  · rw [if_pos h]; simp [h]
  · rw [if_neg h]; simp [h]
theorem Part.step {l : List OpT} {acc : List Seg} {any : Bool} {last next : Int} {x o : OpT} {r' : List OpT} (h : Part l acc any last) (hx : x ∈ l) (hxe : x.Object = next) (hlo : any = true → last < next) (hmin : ∀ o ∈ l, (any = true → last < o.Object) → next ≤ o.Object) (hs : Sorts earI (ofObj next l) (o :: r')) :
    Part l (acc ++ [⟨next, o.Kind, o :: r'⟩]) true next ∧ (left l true next).length < (left l any last).length := by
  refine ⟨⟨?_, fun s hm => ?_, fun s hm => ?_, fun s hm => ?_, fun y hy => ?_⟩, ?_⟩
  · rw [List.pairwise_append]
    refine ⟨h.up, List.pairwise_singleton _ _, fun a ha b hb => ?_⟩
    simp only [List.mem_singleton] at hb; subst hb
    obtain ⟨a1, a2⟩ := h.low a ha
    have := hlo a1
    simp only; omega
  · rcases List.mem_append.1 hm with hm | hm
    · exact h.sorts s hm
    · simp only [List.mem_singleton] at hm; subst hm; exact hs
  · rcases List.mem_append.1 hm with hm | hm
    · exact h.kind s hm
    · simp only [List.mem_singleton] at hm; subst hm; exact ⟨o, r', rfl, rfl⟩
  · refine ⟨rfl, ?_⟩
    rcases List.mem_append.1 hm with hm | hm
    · obtain ⟨a1, a2⟩ := h.low s hm
      have := hlo a1; omega
    · simp only [List.mem_singleton] at hm; subst hm; exact Int.le_refl _
  · rcases h.all y hy with hl | ⟨s, hm, he⟩
    · by_cases hn : y.Object = next
      · exact .inr ⟨_, List.mem_append_right _ (List.mem_singleton_self _), hn.symm⟩
      · unfold left at hl ⊢
        rw [List.mem_filter] at hl ⊢
        have := hmin y hy fun ha => by have := hl.2; rw [ha] at this; simpa using this
        exact .inl ⟨hy, by simp; omega⟩
    · exact .inr ⟨s, List.mem_append_left _ hm, he⟩
  · have hsub : (left l true next) = (left l any last).filter fun o => decide (next < o.Object) := by
      unfold left
      rw [List.filter_filter]
      apply List.filter_congr
      intro y hy
      cases any with
      | false => simp
      | true => have := hlo rfl; simp; omega
    rw [hsub]
    refine List.length_filter_lt_length_iff_exists.2 ⟨x, ?_, ?_⟩
    · unfold left
      rw [List.mem_filter]
      refine ⟨hx, ?_⟩
      cases any with
      | false => rfl
      | true => have := hlo rfl; simp; omega
    · simp; omega
theorem robjects_ok (v : Value) (l : List OpT) (w : World) (h : RdS w 11 OpT.enc v l) (hl : l.length ≤ 100) :
    Ret Try.prog 22 [v] w fun u w' => (∃ acc, ByObj l acc ∧ RdR w' 3 segR u acc) ∧ Below w.heap.size w w' := by
  obtain ⟨a, c, rfl, _⟩ := h.form
  refine ent22 _ _ _ ?_
  simp (disch := first | omega | exact okFill_t rfl | exact okSize_t rfl | exact fun h => h | (simp only [World.size_alloc, World.size_drew, World.size_setCell, size_fill, bytesW]; omega)) only [go_sem, ↓reduceIte, reduceCtorEq, Nat.reduceBEq, Nat.reduceEqDiff, Nat.reduceAdd, Nat.reduceMul, Int.reduceNe, Int.reduceEq, Int.reduceLT, Int.reduceLE, Int.reduceNeg, Int.reduceAdd, Int.reduceSub, Int.reduceMul, Int.reduceToNat, beq_self_eq_true, c22, c22S0, c22S1, c22L0, c22S2, c22S3, c22L1, c22S4, c22S5, c22S6, c22S7, c22S8, c22L2]
  refine W_loopU (fun x : Value × Int × Bool => [(3, x.1), (4, .int .i64 x.2.1), (5, .bool x.2.2)]) (fun x w' => ∃ acc vs, vs.length = acc.length ∧ acc.length + (left l x.2.2 x.2.1).length ≤ l.length ∧ St w w' (fun _ => False) [.row x.1 24 3 acc.length (segCells acc vs)] (segInvs acc vs) ∧ Part l acc x.2.2 x.2.1) (fun x => (left l x.2.2 x.2.1).length) (.slice none 0 0, 0, false) rfl ⟨[], [], rfl, by rw [List.length_nil, Nat.zero_add]; exact List.length_filter_le _ _, (St.start (W0 := w)).nilRow 24 3, Part.nil l 0⟩ ?_
  rintro ⟨vo, last, any⟩ w1 ⟨acc, vs, hvs, hlen, s1, hp⟩
  simp only at hlen s1 hp
  simp (disch := first | omega | exact okFill_t rfl | exact okSize_t rfl | exact fun h => h | (simp only [World.size_alloc, World.size_drew, World.size_setCell, size_fill, bytesW]; omega)) only [go_sem, ↓reduceIte, reduceCtorEq, Nat.reduceBEq, Nat.reduceEqDiff, Nat.reduceAdd, Nat.reduceMul, Int.reduceNe, Int.reduceEq, Int.reduceLT, Int.reduceLE, Int.reduceNeg, Int.reduceAdd, Int.reduceSub, Int.reduceMul, Int.reduceToNat, beq_self_eq_true, c22, c22S0, c22S1, c22L0, c22S2, c22S3, c22L1, c22S4, c22S5, c22S6, c22S7, c22L2]
  refine W_loopU (fun x : Int × Bool × Nat => [(6, .int .i64 x.1), (7, .bool x.2.1), (8, .int .i64 x.2.2)]) (fun x w' => w' = w1 ∧ x.2.2 ≤ l.length ∧ Next l any last x.2.2 x.2.1 x.1) (fun x => l.length - x.2.2) (0, false, 0) rfl ⟨rfl, Nat.zero_le _, .inl ⟨rfl, fun o h => by simp at h⟩⟩ ?_
  rintro ⟨next, found, k⟩ _ ⟨rfl, hk, hn⟩
  simp only at hk hn
  by_cases hkl : k < l.length
  · have hkl' : (k : Int) < l.length := by omega
    obtain ⟨q, rfl⟩ := h.ptr (by omega)
    have ek := h.eltB s1.bel OpT.len (by decide) hkl
    have ak := l[k].at
    simp (disch := first | omega | exact okFill_t rfl | exact okSize_t rfl | exact fun h => h | (simp only [World.size_alloc, World.size_drew, World.size_setCell, size_fill, bytesW]; omega)) only [go_sem, ↓reduceIte, reduceCtorEq, Nat.reduceBEq, Nat.reduceEqDiff, Nat.reduceAdd, Nat.reduceMul, Int.reduceNe, Int.reduceEq, Int.reduceLT, Int.reduceLE, Int.reduceNeg, Int.reduceAdd, Int.reduceSub, Int.reduceMul, Int.reduceToNat, beq_self_eq_true, c22, c22S0, c22S1, c22L0, c22S2, c22S3, c22L1, c22S4, c22S5, c22S6, c22S7, c22L2, hkl', ek, ak]
    have tk : (any = true → last < l[k].Object) → (found = true → l[k].Object < next) → k + 1 ≤ l.length ∧ Next l any last (k + 1) true l[k].Object := fun a b => ⟨hkl, hn.take hkl a b⟩
    have sk : ((any = true ∧ l[k].Object ≤ last) ∨ (found = true ∧ next ≤ l[k].Object)) → k + 1 ≤ l.length ∧ Next l any last (k + 1) found next := fun a => ⟨hkl, hn.skip hkl a⟩
    refine ⟨fun ha => ⟨by omega, fun h1 => ⟨fun hf => ⟨by omega, fun h2 => ⟨by omega, ⟨by omega, by omega⟩, (_, _, k + 1), rfl, tk (fun _ => h1) (fun _ => h2), by simp only; omega⟩, fun h2 => ⟨⟨by omega, by omega⟩, (_, _, k + 1), rfl, sk (.inr ⟨hf, h2⟩), by simp only; omega⟩⟩, fun hf => ⟨by omega, ⟨by omega, by omega⟩, (_, _, k + 1), rfl, tk (fun _ => h1) (fun h => by rw [hf] at h; cases h), by simp only; omega⟩⟩, fun h1 => ⟨⟨by omega, by omega⟩, (_, _, k + 1), rfl, sk (.inl ⟨ha, h1⟩), by simp only; omega⟩⟩, fun ha => ⟨fun hf => ⟨by omega, fun h2 => ⟨by omega, ⟨by omega, by omega⟩, (_, _, k + 1), rfl, tk (fun h => by rw [ha] at h; cases h) (fun _ => h2), by simp only; omega⟩, fun h2 => ⟨⟨by omega, by omega⟩, (_, _, k + 1), rfl, sk (.inr ⟨hf, h2⟩), by simp only; omega⟩⟩, fun hf => ⟨by omega, ⟨by omega, by omega⟩, (_, _, k + 1), rfl, tk (fun h => by rw [ha] at h; cases h) (fun h => by rw [hf] at h; cases h), by simp only; omega⟩⟩⟩
  · have hkl' : ¬ (k : Int) < l.length := by omega
    simp (disch := first | omega | exact okFill_t rfl | exact okSize_t rfl | exact fun h => h | (simp only [World.size_alloc, World.size_drew, World.size_setCell, size_fill, bytesW]; omega)) only [go_sem, ↓reduceIte, reduceCtorEq, Nat.reduceBEq, Nat.reduceEqDiff, Nat.reduceAdd, Nat.reduceMul, Int.reduceNe, Int.reduceEq, Int.reduceLT, Int.reduceLE, Int.reduceNeg, Int.reduceAdd, Int.reduceSub, Int.reduceMul, Int.reduceToNat, beq_self_eq_true, c22, c22S0, c22S1, c22L0, c22S2, c22S3, c22L1, c22S4, c22S5, c22S6, c22S8, c22L2, hkl']
    have hkk : k = l.length := by omega
    subst hkk
    unfold Next at hn
    rw [List.take_length] at hn
    refine ⟨fun hf => ⟨⟨acc, ⟨hp.up, hp.sorts, hp.kind, fun o ho => ?_⟩, segs_rd hvs s1 (fun j s v hs hv => ?_) fun s hs => ?_⟩, s1.bel⟩, fun hf => ?_⟩
    · rcases hn with ⟨_, hn⟩ | ⟨hn, _⟩
      · rcases hp.all o ho with h' | h'
        · unfold left at h'
          rw [List.mem_filter] at h'
          obtain ⟨a1, a2⟩ := hn o ho
          rw [a1] at h'
          have := h'.2
          simp at this
          omega
        · exact h'
      · rw [hf] at hn; cases hn
    · exact (s1.inv _ (segInvs_mem acc vs j s v hs hv)).1
    · have e1 := (hp.sorts s hs).1.length_eq
      have e2 := ofObj_len s.obj l
      omega
    · rcases hn with ⟨hn, _⟩ | ⟨_, ⟨x, hx, hxe⟩, hlo, hmin⟩
      · rw [hf] at hn; cases hn
      simp (disch := first | omega | exact okFill_t rfl | exact okSize_t rfl | exact fun h => h | (simp only [World.size_alloc, World.size_drew, World.size_setCell, size_fill, bytesW]; omega)) only [go_sem, ↓reduceIte, reduceCtorEq, Nat.reduceBEq, Nat.reduceEqDiff, Nat.reduceAdd, Nat.reduceMul, Int.reduceNe, Int.reduceEq, Int.reduceLT, Int.reduceLE, Int.reduceNeg, Int.reduceAdd, Int.reduceSub, Int.reduceMul, Int.reduceToNat, beq_self_eq_true, c22, c22S0, c22S1, c22L0, c22S2, c22S3, c22L1, c22S4, c22S5, c22S7, c22S8, c22L2]
      refine W_loopU (fun y : Value × Nat => [(9, y.1), (10, .int .i64 y.2)]) (fun y w' => y.2 ≤ l.length ∧ St w w' (fun _ => False) [.row y.1 58 11 (ofObj next (l.take y.2)).length ((ofObj next (l.take y.2)).flatMap OpT.enc), .row vo 24 3 acc.length (segCells acc vs)] (segInvs acc vs)) (fun y => l.length - y.2) (.slice none 0 0, 0) rfl ⟨Nat.zero_le _, s1.nilRow 58 11⟩ ?_
      rintro ⟨v2, k⟩ w2 ⟨hk2, s2⟩
      simp only at hk2 s2
      by_cases hkl2 : k < l.length
      · have hkl2' : (k : Int) < l.length := by omega
        obtain ⟨q, rfl⟩ := h.ptr (by omega)
        have ek := h.eltB s2.bel OpT.len (by decide) hkl2
        have ck := cellsO_below s2.bel (h.at OpT.len hkl2)
        have ak := l[k].at
        have hf1 := ofObj_len next (l.take k)
        rw [List.length_take] at hf1
        have hsn := ofObj_snoc next hkl2
        simp (disch := first | omega | exact okFill_t rfl | exact okSize_t rfl | exact fun h => h | (simp only [World.size_alloc, World.size_drew, World.size_setCell, size_fill, bytesW]; omega)) only [go_sem, ↓reduceIte, reduceCtorEq, Nat.reduceBEq, Nat.reduceEqDiff, Nat.reduceAdd, Nat.reduceMul, Int.reduceNe, Int.reduceEq, Int.reduceLT, Int.reduceLE, Int.reduceNeg, Int.reduceAdd, Int.reduceSub, Int.reduceMul, Int.reduceToNat, beq_self_eq_true, c22, c22S0, c22S1, c22L0, c22S2, c22S3, c22L1, c22S4, c22S5, c22S7, c22S8, c22L2, hkl2', ek, ak, ck]
        refine ⟨by omega, fun he => ⟨by omega, bsW_agg ty22mkI rfl (by decide) (by decide) ?_⟩, fun he => ⟨⟨by omega, by omega⟩, (v2, k + 1), rfl, ⟨hkl2, ?_⟩, by simp only; omega⟩⟩
        · have hrd : Rd (w2.alloc (.cells l[k].enc.toArray 58)) 11 (.slice (some ⟨w2.heap.size, 0, none⟩) 1 1) 1 l[k].enc := rd_new (t := 58) (sz := 11) (n := 1) (cs := l[k].enc.toArray) rfl
          have s3 := s2.alloc' (.cells l[k].enc.toArray 58)
          generalize w2.alloc (.cells l[k].enc.toArray 58) = w3 at s3 hrd ⊢
          simp (disch := first | omega | exact okFill_t rfl | exact okSize_t rfl | exact fun h => h | (simp only [World.size_alloc, World.size_drew, World.size_setCell, size_fill, bytesW]; omega)) only [go_sem, ↓reduceIte, reduceCtorEq, Nat.reduceBEq, Nat.reduceEqDiff, Nat.reduceAdd, Nat.reduceMul, Int.reduceNe, Int.reduceEq, Int.reduceLT, Int.reduceLE, Int.reduceNeg, Int.reduceAdd, Int.reduceSub, Int.reduceMul, Int.reduceToNat, beq_self_eq_true, c22, c22S0, c22S1, c22L0, c22S2, c22S3, c22L1, c22S4, c22S5, c22S7, c22S8, c22L2]
          refine s3.append 0 rfl ty22mkI rfl (by decide) hrd l[k].one (by omega) (by omega) ?_
          intro v4 w4 s4 _
          simp only [List.set_cons_zero] at s4
          simp (disch := first | omega | exact okFill_t rfl | exact okSize_t rfl | exact fun h => h | (simp only [World.size_alloc, World.size_drew, World.size_setCell, size_fill, bytesW]; omega)) only [go_sem, ↓reduceIte, reduceCtorEq, Nat.reduceBEq, Nat.reduceEqDiff, Nat.reduceAdd, Nat.reduceMul, Int.reduceNe, Int.reduceEq, Int.reduceLT, Int.reduceLE, Int.reduceNeg, Int.reduceAdd, Int.reduceSub, Int.reduceMul, Int.reduceToNat, beq_self_eq_true, c22, c22S0, c22S1, c22L0, c22S2, c22S3, c22L1, c22S4, c22S5, c22S7, c22S8, c22L2]
          refine ⟨⟨by omega, by omega⟩, (v4, k + 1), rfl, ⟨hkl2, ?_⟩, by simp only; omega⟩
          simp only
          have e2 : (ofObj next (l.take k) ++ [l[k]]).length = (ofObj next (l.take k)).length + 1 := by simp
          have e3 : (ofObj next (l.take k) ++ [l[k]]).flatMap OpT.enc = (ofObj next (l.take k)).flatMap OpT.enc ++ l[k].enc := by rw [List.flatMap_append]; simp
          rw [hsn, if_pos he, e2, e3]
          exact s4
        · simp only
          rw [hsn, if_neg he, List.append_nil]
          exact s2
      · have hkl2' : ¬ (k : Int) < l.length := by omega
        simp (disch := first | omega | exact okFill_t rfl | exact okSize_t rfl | exact fun h => h | (simp only [World.size_alloc, World.size_drew, World.size_setCell, size_fill, bytesW]; omega)) only [go_sem, ↓reduceIte, reduceCtorEq, Nat.reduceBEq, Nat.reduceEqDiff, Nat.reduceAdd, Nat.reduceMul, Int.reduceNe, Int.reduceEq, Int.reduceLT, Int.reduceLE, Int.reduceNeg, Int.reduceAdd, Int.reduceSub, Int.reduceMul, Int.reduceToNat, beq_self_eq_true, c22, c22S0, c22S1, c22L0, c22S2, c22S3, c22L1, c22S4, c22S5, c22S7, c22S8, c22L2, hkl2']
        have hkk : k = l.length := by omega
        subst hkk
        rw [List.take_length] at s2
        simp (disch := first | omega | exact okFill_t rfl | exact okSize_t rfl | exact fun h => h | (simp only [World.size_alloc, World.size_drew, World.size_setCell, size_fill, bytesW]; omega)) only [go_sem, ↓reduceIte, reduceCtorEq, Nat.reduceBEq, Nat.reduceEqDiff, Nat.reduceAdd, Nat.reduceMul, Int.reduceNe, Int.reduceEq, Int.reduceLT, Int.reduceLE, Int.reduceNeg, Int.reduceAdd, Int.reduceSub, Int.reduceMul, Int.reduceToNat, beq_self_eq_true, c22, c22S0, c22S1, c22L0, c22S2, c22S3, c22L1, c22S4, c22S5, c22S6, c22S7, c22S8, c22L2]
        refine Ret.mono (sorted_ok _ _ _ (RdS.of_own (s2.row 0 rfl)) (by have := ofObj_len next l; omega)) ?_
        rintro v3 w3 ⟨⟨r, hs, o3⟩, b3⟩
        have s3 := (s2.sub (List.sublist_cons_self _ _)).add b3 (.row v3 58 11 r.length (r.flatMap OpT.enc)) (own_mono o3 s2.size) fun k hk => (o3.lt k hk).1
        have hrx : r ≠ [] := fun e => by
          have hm : x ∈ ofObj next l := by unfold ofObj; rw [List.mem_filter]; exact ⟨hx, by simpa using hxe⟩
          have := hs.1.length_eq
          rw [e] at this
          rw [List.eq_nil_of_length_eq_zero this.symm] at hm
          cases hm
        obtain ⟨o, r', rfl⟩ := List.exists_cons_of_ne_nil hrx
        have hro : RdS w3 11 OpT.enc v3 (o :: r') := RdS.of_own o3
        obtain ⟨p, cp, rfl, _⟩ := hro.form
        obtain ⟨p, rfl⟩ := hro.ptr (by simp)
        have er := hro.elt OpT.len (by decide) (show 0 < (o :: r').length by simp)
        have ar := o.at
        have e3 : w3.cell? ⟨p.block, p.off + 3, none⟩ = some (.int .i64 o.Kind) := by
          have := er.2 3 (by decide) (by decide)
          simpa [ar] using this
        simp (disch := first | omega | exact okFill_t rfl | exact okSize_t rfl | exact fun h => h | (simp only [World.size_alloc, World.size_drew, World.size_setCell, size_fill, bytesW]; omega)) only [go_sem, ↓reduceIte, reduceCtorEq, Nat.reduceBEq, Nat.reduceEqDiff, Nat.reduceAdd, Nat.reduceMul, Int.reduceNe, Int.reduceEq, Int.reduceLT, Int.reduceLE, Int.reduceNeg, Int.reduceAdd, Int.reduceSub, Int.reduceMul, Int.reduceToNat, beq_self_eq_true, c22, c22S0, c22S1, c22L0, c22S2, c22S3, c22L1, c22S4, c22S5, c22S6, c22S7, c22S8, c22L2, er, ar, e3]
        refine ⟨by omega, bdW_built (cells := (segC ⟨next, o.Kind, []⟩ (.slice (some p) (r'.length + 1) cp)).toArray) (by kernel_rfl) ?_⟩
        simp (disch := first | omega | exact okFill_t rfl | exact okSize_t rfl | exact fun h => h | (simp only [World.size_alloc, World.size_drew, World.size_setCell, size_fill, bytesW]; omega)) only [go_sem, ↓reduceIte, reduceCtorEq, Nat.reduceBEq, Nat.reduceEqDiff, Nat.reduceAdd, Nat.reduceMul, Int.reduceNe, Int.reduceEq, Int.reduceLT, Int.reduceLE, Int.reduceNeg, Int.reduceAdd, Int.reduceSub, Int.reduceMul, Int.reduceToNat, beq_self_eq_true, c22, c22S0, c22S1, c22L0, c22S2, c22S3, c22L1, c22S4, c22S5, c22S6, c22S7, c22S8, c22L2]
        refine bsW_agg ty47mkI rfl (by decide) (by decide) ?_
        have s4 := (s3.seal (.rd 11 OpT.enc (.slice (some p) (r'.length + 1) cp) (o :: r')) hro fun k hk => slFoot_own hk).alloc' (.cells (segC ⟨next, o.Kind, []⟩ (.slice (some p) (r'.length + 1) cp)).toArray 24)
        have hrd : Rd (w3.alloc (.cells (segC ⟨next, o.Kind, []⟩ (.slice (some p) (r'.length + 1) cp)).toArray 24)) 3 (.slice (some ⟨w3.heap.size, 0, none⟩) 1 1) 1 (segC ⟨next, o.Kind, []⟩ (.slice (some p) (r'.length + 1) cp)) := rd_new (t := 24) (sz := 3) (n := 1) (cs := (segC ⟨next, o.Kind, []⟩ (.slice (some p) (r'.length + 1) cp)).toArray) rfl
        generalize w3.alloc (.cells (segC ⟨next, o.Kind, []⟩ (.slice (some p) (r'.length + 1) cp)).toArray 24) = w4 at s4 hrd ⊢
        simp (disch := first | omega | exact okFill_t rfl | exact okSize_t rfl | exact fun h => h | (simp only [World.size_alloc, World.size_drew, World.size_setCell, size_fill, bytesW]; omega)) only [go_sem, ↓reduceIte, reduceCtorEq, Nat.reduceBEq, Nat.reduceEqDiff, Nat.reduceAdd, Nat.reduceMul, Int.reduceNe, Int.reduceEq, Int.reduceLT, Int.reduceLE, Int.reduceNeg, Int.reduceAdd, Int.reduceSub, Int.reduceMul, Int.reduceToNat, beq_self_eq_true, c22, c22S0, c22S1, c22L0, c22S2, c22S3, c22L1, c22S4, c22S5, c22S6, c22S7, c22S8, c22L2]
        refine s4.append 0 rfl ty47mkI rfl (by decide) hrd (by intro u hu; simp only [segC, List.mem_cons, List.not_mem_nil, or_false] at hu; rcases hu with rfl | rfl | rfl <;> rfl) (by omega) (by omega) ?_
        intro v5 w5 s5 _
        simp only [List.set_cons_zero] at s5
        simp (disch := first | omega | exact okFill_t rfl | exact okSize_t rfl | exact fun h => h | (simp only [World.size_alloc, World.size_drew, World.size_setCell, size_fill, bytesW]; omega)) only [go_sem, ↓reduceIte, reduceCtorEq, Nat.reduceBEq, Nat.reduceEqDiff, Nat.reduceAdd, Nat.reduceMul, Int.reduceNe, Int.reduceEq, Int.reduceLT, Int.reduceLE, Int.reduceNeg, Int.reduceAdd, Int.reduceSub, Int.reduceMul, Int.reduceToNat, beq_self_eq_true, c22, c22S0, c22S1, c22L0, c22S2, c22S3, c22L1, c22S4, c22S5, c22S6, c22S7, c22S8, c22L2]
        obtain ⟨p1, p2⟩ := hp.step hx hxe hlo hmin hs
        refine ⟨(v5, next, true), rfl, ⟨acc ++ [⟨next, o.Kind, o :: r'⟩], vs ++ [.slice (some p) (r'.length + 1) cp], by simp [hvs], by simp only; rw [List.length_append, List.length_singleton]; omega, ?_, p1⟩, p2⟩
        rw [List.length_append, List.length_singleton, segCells_snoc _ _ _ _ hvs]
        refine St.inv_sub s5 fun a ha => ?_
        rcases (segInvs_snoc acc vs _ _ hvs a).1 ha with rfl | ha
        · exact List.mem_cons_self
        · exact List.mem_cons_of_mem _ ha
end Go.Proofs.Ytbeoedgoikcbpaa.Cut
namespace Go.Proofs.Ytbeoedgoikcbpaa.Cut
set_option linter.unusedSimpArgs false
set_option linter.unusedVariables false
set_option maxRecDepth 100000
open Go Go.Ann Go.RowKit
theorem sorts_unique {l a b : List OpT} (hp : Pure l) (ha : Sorts earI l a) (hb : Sorts earI l b) : a = b := by
  refine List.Perm.eq_of_pairwise ?_ ha.2 hb.2 (ha.1.trans hb.1.symm)
  intro x y hx hy h1 h2
  refine hp x (ha.1.mem_iff.1 hx) y (hb.1.mem_iff.1 hy) ?_
  rw [ear_neg] at h1 h2
  omega
/-- Two cuttings by objects are one. -/
theorem byObj_unique {l : List OpT} (hp : Pure l) : ∀ {a b : List Seg}, ByObj l a → ByObj l b → a = b := by
  intro a b ha hb
  have mem : ∀ {a b : List Seg}, ByObj l a → ByObj l b → ∀ s ∈ a, s ∈ b := by
    intro a b ha hb s hs
    obtain ⟨o, r, e, hk⟩ := ha.kind s hs
    have ho : o ∈ ofObj s.obj l := (ha.sorts s hs).1.mem_iff.1 (by rw [e]; exact List.mem_cons_self)
    unfold ofObj at ho
    rw [List.mem_filter, decide_eq_true_eq] at ho
    obtain ⟨t, ht, hto⟩ := hb.all o ho.1
    have heq : t.obj = s.obj := hto.trans ho.2
    have hops : t.ops = s.ops := by
      have h1 := hb.sorts t ht
      rw [heq] at h1
      refine sorts_unique (l := ofObj s.obj l) (fun x hx y hy => hp x ?_ y ?_) h1 (ha.sorts s hs)
      · exact (List.mem_filter.1 hx).1
      · exact (List.mem_filter.1 hy).1
    obtain ⟨o2, r2, e2, hk2⟩ := hb.kind t ht
    have : t = s := by
      rw [hops, e] at e2
      cases t; cases s
      simp only at heq hops hk hk2 e2 ⊢
      simp only [List.cons.injEq] at e2
      subst heq; subst hops
      rw [hk, hk2, e2.1]
    rw [← this]; exact ht
  have nd : ∀ {a : List Seg}, ByObj l a → a.Nodup := fun h => h.up.imp fun h e => by rw [e] at h; omega
  have hperm : a.Perm b := (List.perm_ext_iff_of_nodup (nd ha) (nd hb)).2 fun s => ⟨mem ha hb s, mem hb ha s⟩
  exact List.Perm.eq_of_pairwise (le := fun x y : Seg => x.obj < y.obj) (fun x y _ _ h1 h2 => by omega) ha.up hb.up hperm
end Go.Proofs.Ytbeoedgoikcbpaa.Cut
namespace Go.Proofs.Ytbeoedgoikcbpaa.Cut
set_option linter.unusedSimpArgs false
set_option linter.unusedVariables false
set_option maxRecDepth 100000
open Go Go.Ann Go.RowKit
theorem blk_okSt {w : World} {b : Nat} {cs : Array Value} {t : TypeId} (h : Blk w b cs t) {vs : List Value} (h1 : ∀ u ∈ vs, u.oneCell' = true) (h2 : vs.length ≤ cs.size) : okSt w b 0 vs := by
  rw [okSt_iff]
  refine ⟨h1, fun j hj => ⟨⟨cs[j]'(by omega), ?_⟩, ?_⟩⟩
  · rw [h.rules.1, Nat.zero_add]; exact Array.getElem?_eq_getElem (by omega)
  · exact h.rules.2.1 _
theorem between_ok (a b c : Int) (w : World) : Ret Try.prog 77 [.int .i64 a, .int .i64 b, .int .i64 c] w fun v w' => (∃ r, v = .bool r) ∧ Below w.heap.size w w' := by
  refine ent77 _ _ _ _ _ ?_
  simp (disch := first | omega | exact okFill_t rfl | exact okSize_t rfl | exact fun h => h | (simp only [World.size_alloc, World.size_drew, World.size_setCell, size_fill, bytesW]; omega)) only [go_sem, ↓reduceIte, reduceCtorEq, Nat.reduceBEq, Nat.reduceEqDiff, Nat.reduceAdd, Nat.reduceMul, Int.reduceNe, Int.reduceEq, Int.reduceLT, Int.reduceLE, Int.reduceNeg, Int.reduceAdd, Int.reduceSub, Int.reduceMul, Int.reduceToNat, beq_self_eq_true, c77]
  refine ⟨fun h => ?_, fun h => ?_⟩
  · (repeat' (first | with_reducible exact Below.refl _ _ | with_reducible assumption | (with_reducible refine Below.drew ?_) | (with_reducible refine Below.alloc ?_ ?_ _) | (with_reducible refine Below.setCell ?_ ?_ _) | (with_reducible refine Below.fill ?_ ?_) | (with_reducible refine Below.via (by assumption) ?_ ?_) | omega | (simp only [World.size_alloc, World.size_drew, World.size_setCell, size_fill, bytesW]; omega)))
  · (repeat' (first | with_reducible exact Below.refl _ _ | with_reducible assumption | (with_reducible refine Below.drew ?_) | (with_reducible refine Below.alloc ?_ ?_ _) | (with_reducible refine Below.setCell ?_ ?_ _) | (with_reducible refine Below.fill ?_ ?_) | (with_reducible refine Below.via (by assumption) ?_ ?_) | omega | (simp only [World.size_alloc, World.size_drew, World.size_setCell, size_fill, bytesW]; omega)))
theorem answer_ok (a b : Int) (w : World) : Ret Try.prog 79 [.int .i64 a, .int .i64 b] w fun v w' => (∃ r, v = .bool r) ∧ Below w.heap.size w w' := by
  refine ent79 _ _ _ _ ?_
  simp (disch := first | omega | exact okFill_t rfl | exact okSize_t rfl | exact fun h => h | (simp only [World.size_alloc, World.size_drew, World.size_setCell, size_fill, bytesW]; omega)) only [go_sem, ↓reduceIte, reduceCtorEq, Nat.reduceBEq, Nat.reduceEqDiff, Nat.reduceAdd, Nat.reduceMul, Int.reduceNe, Int.reduceEq, Int.reduceLT, Int.reduceLE, Int.reduceNeg, Int.reduceAdd, Int.reduceSub, Int.reduceMul, Int.reduceToNat, beq_self_eq_true, c79, c79S0, c79S1, c79S2, c79S3, c79S4, c79S5, c79S6]
  refine ⟨fun _ => by (repeat' (first | with_reducible exact Below.refl _ _ | with_reducible assumption | (with_reducible refine Below.drew ?_) | (with_reducible refine Below.alloc ?_ ?_ _) | (with_reducible refine Below.setCell ?_ ?_ _) | (with_reducible refine Below.fill ?_ ?_) | (with_reducible refine Below.via (by assumption) ?_ ?_) | omega | (simp only [World.size_alloc, World.size_drew, World.size_setCell, size_fill, bytesW]; omega))), fun _ => ⟨fun _ => ⟨fun _ => by (repeat' (first | with_reducible exact Below.refl _ _ | with_reducible assumption | (with_reducible refine Below.drew ?_) | (with_reducible refine Below.alloc ?_ ?_ _) | (with_reducible refine Below.setCell ?_ ?_ _) | (with_reducible refine Below.fill ?_ ?_) | (with_reducible refine Below.via (by assumption) ?_ ?_) | omega | (simp only [World.size_alloc, World.size_drew, World.size_setCell, size_fill, bytesW]; omega))), fun _ => by (repeat' (first | with_reducible exact Below.refl _ _ | with_reducible assumption | (with_reducible refine Below.drew ?_) | (with_reducible refine Below.alloc ?_ ?_ _) | (with_reducible refine Below.setCell ?_ ?_ _) | (with_reducible refine Below.fill ?_ ?_) | (with_reducible refine Below.via (by assumption) ?_ ?_) | omega | (simp only [World.size_alloc, World.size_drew, World.size_setCell, size_fill, bytesW]; omega)))⟩, fun _ => ⟨fun _ => Ret.mono (between_ok _ _ _ _) ?_, fun _ => ⟨fun _ => Ret.mono (between_ok _ _ _ _) ?_, fun _ => Ret.mono (between_ok _ _ _ _) ?_⟩⟩⟩⟩
  all_goals
    rintro _ w2 ⟨⟨r, rfl⟩, b2⟩
    simp (disch := first | omega | exact okFill_t rfl | exact okSize_t rfl | exact fun h => h | (simp only [World.size_alloc, World.size_drew, World.size_setCell, size_fill, bytesW]; omega)) only [go_sem, ↓reduceIte, reduceCtorEq, Nat.reduceBEq, Nat.reduceEqDiff, Nat.reduceAdd, Nat.reduceMul, Int.reduceNe, Int.reduceEq, Int.reduceLT, Int.reduceLE, Int.reduceNeg, Int.reduceAdd, Int.reduceSub, Int.reduceMul, Int.reduceToNat, beq_self_eq_true, c79, c79S0, c79S1, c79S2, c79S3, c79S4, c79S5, c79S6]
    exact b2
structure Row4 where
  kind : Int
  method : Int
  args : Int
  how : Int
def Row4.enc (r : Row4) : List Value := [.int .i64 r.kind, .int .i64 r.method, .int .i64 r.args, .int .i64 r.how]
theorem Row4.len (r : Row4) : r.enc.length = 4 := rfl
theorem Row4.one (r : Row4) : ∀ u ∈ r.enc, u.oneCell' = true := by intro u hu; simp only [Row4.enc, List.mem_cons, List.not_mem_nil, or_false] at hu; rcases hu with rfl | rfl | rfl | rfl <;> rfl
theorem Row4.at (r : Row4) : r.enc[0]? = some (.int .i64 r.kind) ∧ r.enc[1]? = some (.int .i64 r.method) ∧ r.enc[2]? = some (.int .i64 r.args) ∧ r.enc[3]? = some (.int .i64 r.how) := ⟨rfl, rfl, rfl, rfl⟩
def rowsTable : List Row4 := [⟨1, 1, 0, 2⟩, ⟨1, 2, 1, 0⟩, ⟨1, 3, 2, 1⟩, ⟨2, 1, 0, 3⟩, ⟨2, 4, 0, 0⟩, ⟨2, 5, 0, 0⟩, ⟨3, 6, 1, 0⟩, ⟨3, 7, 0, 4⟩, ⟨4, 8, 1, 0⟩, ⟨4, 9, 0, 4⟩, ⟨5, 10, 1, 1⟩, ⟨5, 11, 1, 1⟩, ⟨5, 12, 1, 1⟩, ⟨6, 13, 0, 0⟩, ⟨6, 14, 0, 0⟩]
set_option maxRecDepth 100000 in
theorem rows_ok (w : World) : Ret Try.prog 109 [] w fun v w' => RdS w' 4 Row4.enc v rowsTable ∧ Below w.heap.size w w' := by
  refine ent109 _ _ ?_
  simp (disch := first | omega | exact okFill_t rfl | exact okSize_t rfl | exact fun h => h | (simp only [World.size_alloc, World.size_drew, World.size_setCell, size_fill, bytesW]; omega)) only [go_sem, ↓reduceIte, reduceCtorEq, Nat.reduceBEq, Nat.reduceEqDiff, Nat.reduceAdd, Nat.reduceMul, Int.reduceNe, Int.reduceEq, Int.reduceLT, Int.reduceLE, Int.reduceNeg, Int.reduceAdd, Int.reduceSub, Int.reduceMul, Int.reduceToNat, beq_self_eq_true, c109]
  refine bdW_built (cells := (Row4.enc ⟨1, 1, 0, 2⟩).toArray) (by kernel_rfl) ?_
  simp (disch := first | omega | exact okFill_t rfl | exact okSize_t rfl | exact fun h => h | (simp only [World.size_alloc, World.size_drew, World.size_setCell, size_fill, bytesW]; omega)) only [go_sem, ↓reduceIte, reduceCtorEq, Nat.reduceBEq, Nat.reduceEqDiff, Nat.reduceAdd, Nat.reduceMul, Int.reduceNe, Int.reduceEq, Int.reduceLT, Int.reduceLE, Int.reduceNeg, Int.reduceAdd, Int.reduceSub, Int.reduceMul, Int.reduceToNat, beq_self_eq_true, c109]
  refine bdW_built (cells := (Row4.enc ⟨1, 2, 1, 0⟩).toArray) (by kernel_rfl) ?_
  simp (disch := first | omega | exact okFill_t rfl | exact okSize_t rfl | exact fun h => h | (simp only [World.size_alloc, World.size_drew, World.size_setCell, size_fill, bytesW]; omega)) only [go_sem, ↓reduceIte, reduceCtorEq, Nat.reduceBEq, Nat.reduceEqDiff, Nat.reduceAdd, Nat.reduceMul, Int.reduceNe, Int.reduceEq, Int.reduceLT, Int.reduceLE, Int.reduceNeg, Int.reduceAdd, Int.reduceSub, Int.reduceMul, Int.reduceToNat, beq_self_eq_true, c109]
  refine bdW_built (cells := (Row4.enc ⟨1, 3, 2, 1⟩).toArray) (by kernel_rfl) ?_
  simp (disch := first | omega | exact okFill_t rfl | exact okSize_t rfl | exact fun h => h | (simp only [World.size_alloc, World.size_drew, World.size_setCell, size_fill, bytesW]; omega)) only [go_sem, ↓reduceIte, reduceCtorEq, Nat.reduceBEq, Nat.reduceEqDiff, Nat.reduceAdd, Nat.reduceMul, Int.reduceNe, Int.reduceEq, Int.reduceLT, Int.reduceLE, Int.reduceNeg, Int.reduceAdd, Int.reduceSub, Int.reduceMul, Int.reduceToNat, beq_self_eq_true, c109]
  refine bdW_built (cells := (Row4.enc ⟨2, 1, 0, 3⟩).toArray) (by kernel_rfl) ?_
  simp (disch := first | omega | exact okFill_t rfl | exact okSize_t rfl | exact fun h => h | (simp only [World.size_alloc, World.size_drew, World.size_setCell, size_fill, bytesW]; omega)) only [go_sem, ↓reduceIte, reduceCtorEq, Nat.reduceBEq, Nat.reduceEqDiff, Nat.reduceAdd, Nat.reduceMul, Int.reduceNe, Int.reduceEq, Int.reduceLT, Int.reduceLE, Int.reduceNeg, Int.reduceAdd, Int.reduceSub, Int.reduceMul, Int.reduceToNat, beq_self_eq_true, c109]
  refine bdW_built (cells := (Row4.enc ⟨2, 4, 0, 0⟩).toArray) (by kernel_rfl) ?_
  simp (disch := first | omega | exact okFill_t rfl | exact okSize_t rfl | exact fun h => h | (simp only [World.size_alloc, World.size_drew, World.size_setCell, size_fill, bytesW]; omega)) only [go_sem, ↓reduceIte, reduceCtorEq, Nat.reduceBEq, Nat.reduceEqDiff, Nat.reduceAdd, Nat.reduceMul, Int.reduceNe, Int.reduceEq, Int.reduceLT, Int.reduceLE, Int.reduceNeg, Int.reduceAdd, Int.reduceSub, Int.reduceMul, Int.reduceToNat, beq_self_eq_true, c109]
  refine bdW_built (cells := (Row4.enc ⟨2, 5, 0, 0⟩).toArray) (by kernel_rfl) ?_
  simp (disch := first | omega | exact okFill_t rfl | exact okSize_t rfl | exact fun h => h | (simp only [World.size_alloc, World.size_drew, World.size_setCell, size_fill, bytesW]; omega)) only [go_sem, ↓reduceIte, reduceCtorEq, Nat.reduceBEq, Nat.reduceEqDiff, Nat.reduceAdd, Nat.reduceMul, Int.reduceNe, Int.reduceEq, Int.reduceLT, Int.reduceLE, Int.reduceNeg, Int.reduceAdd, Int.reduceSub, Int.reduceMul, Int.reduceToNat, beq_self_eq_true, c109]
  refine bdW_built (cells := (Row4.enc ⟨3, 6, 1, 0⟩).toArray) (by kernel_rfl) ?_
  simp (disch := first | omega | exact okFill_t rfl | exact okSize_t rfl | exact fun h => h | (simp only [World.size_alloc, World.size_drew, World.size_setCell, size_fill, bytesW]; omega)) only [go_sem, ↓reduceIte, reduceCtorEq, Nat.reduceBEq, Nat.reduceEqDiff, Nat.reduceAdd, Nat.reduceMul, Int.reduceNe, Int.reduceEq, Int.reduceLT, Int.reduceLE, Int.reduceNeg, Int.reduceAdd, Int.reduceSub, Int.reduceMul, Int.reduceToNat, beq_self_eq_true, c109]
  refine bdW_built (cells := (Row4.enc ⟨3, 7, 0, 4⟩).toArray) (by kernel_rfl) ?_
  simp (disch := first | omega | exact okFill_t rfl | exact okSize_t rfl | exact fun h => h | (simp only [World.size_alloc, World.size_drew, World.size_setCell, size_fill, bytesW]; omega)) only [go_sem, ↓reduceIte, reduceCtorEq, Nat.reduceBEq, Nat.reduceEqDiff, Nat.reduceAdd, Nat.reduceMul, Int.reduceNe, Int.reduceEq, Int.reduceLT, Int.reduceLE, Int.reduceNeg, Int.reduceAdd, Int.reduceSub, Int.reduceMul, Int.reduceToNat, beq_self_eq_true, c109]
  refine bdW_built (cells := (Row4.enc ⟨4, 8, 1, 0⟩).toArray) (by kernel_rfl) ?_
  simp (disch := first | omega | exact okFill_t rfl | exact okSize_t rfl | exact fun h => h | (simp only [World.size_alloc, World.size_drew, World.size_setCell, size_fill, bytesW]; omega)) only [go_sem, ↓reduceIte, reduceCtorEq, Nat.reduceBEq, Nat.reduceEqDiff, Nat.reduceAdd, Nat.reduceMul, Int.reduceNe, Int.reduceEq, Int.reduceLT, Int.reduceLE, Int.reduceNeg, Int.reduceAdd, Int.reduceSub, Int.reduceMul, Int.reduceToNat, beq_self_eq_true, c109]
  refine bdW_built (cells := (Row4.enc ⟨4, 9, 0, 4⟩).toArray) (by kernel_rfl) ?_
  simp (disch := first | omega | exact okFill_t rfl | exact okSize_t rfl | exact fun h => h | (simp only [World.size_alloc, World.size_drew, World.size_setCell, size_fill, bytesW]; omega)) only [go_sem, ↓reduceIte, reduceCtorEq, Nat.reduceBEq, Nat.reduceEqDiff, Nat.reduceAdd, Nat.reduceMul, Int.reduceNe, Int.reduceEq, Int.reduceLT, Int.reduceLE, Int.reduceNeg, Int.reduceAdd, Int.reduceSub, Int.reduceMul, Int.reduceToNat, beq_self_eq_true, c109]
  refine bdW_built (cells := (Row4.enc ⟨5, 10, 1, 1⟩).toArray) (by kernel_rfl) ?_
  simp (disch := first | omega | exact okFill_t rfl | exact okSize_t rfl | exact fun h => h | (simp only [World.size_alloc, World.size_drew, World.size_setCell, size_fill, bytesW]; omega)) only [go_sem, ↓reduceIte, reduceCtorEq, Nat.reduceBEq, Nat.reduceEqDiff, Nat.reduceAdd, Nat.reduceMul, Int.reduceNe, Int.reduceEq, Int.reduceLT, Int.reduceLE, Int.reduceNeg, Int.reduceAdd, Int.reduceSub, Int.reduceMul, Int.reduceToNat, beq_self_eq_true, c109]
  refine bdW_built (cells := (Row4.enc ⟨5, 11, 1, 1⟩).toArray) (by kernel_rfl) ?_
  simp (disch := first | omega | exact okFill_t rfl | exact okSize_t rfl | exact fun h => h | (simp only [World.size_alloc, World.size_drew, World.size_setCell, size_fill, bytesW]; omega)) only [go_sem, ↓reduceIte, reduceCtorEq, Nat.reduceBEq, Nat.reduceEqDiff, Nat.reduceAdd, Nat.reduceMul, Int.reduceNe, Int.reduceEq, Int.reduceLT, Int.reduceLE, Int.reduceNeg, Int.reduceAdd, Int.reduceSub, Int.reduceMul, Int.reduceToNat, beq_self_eq_true, c109]
  refine bdW_built (cells := (Row4.enc ⟨5, 12, 1, 1⟩).toArray) (by kernel_rfl) ?_
  simp (disch := first | omega | exact okFill_t rfl | exact okSize_t rfl | exact fun h => h | (simp only [World.size_alloc, World.size_drew, World.size_setCell, size_fill, bytesW]; omega)) only [go_sem, ↓reduceIte, reduceCtorEq, Nat.reduceBEq, Nat.reduceEqDiff, Nat.reduceAdd, Nat.reduceMul, Int.reduceNe, Int.reduceEq, Int.reduceLT, Int.reduceLE, Int.reduceNeg, Int.reduceAdd, Int.reduceSub, Int.reduceMul, Int.reduceToNat, beq_self_eq_true, c109]
  refine bdW_built (cells := (Row4.enc ⟨6, 13, 0, 0⟩).toArray) (by kernel_rfl) ?_
  simp (disch := first | omega | exact okFill_t rfl | exact okSize_t rfl | exact fun h => h | (simp only [World.size_alloc, World.size_drew, World.size_setCell, size_fill, bytesW]; omega)) only [go_sem, ↓reduceIte, reduceCtorEq, Nat.reduceBEq, Nat.reduceEqDiff, Nat.reduceAdd, Nat.reduceMul, Int.reduceNe, Int.reduceEq, Int.reduceLT, Int.reduceLE, Int.reduceNeg, Int.reduceAdd, Int.reduceSub, Int.reduceMul, Int.reduceToNat, beq_self_eq_true, c109]
  refine bdW_built (cells := (Row4.enc ⟨6, 14, 0, 0⟩).toArray) (by kernel_rfl) ?_
  simp (disch := first | omega | exact okFill_t rfl | exact okSize_t rfl | exact fun h => h | (simp only [World.size_alloc, World.size_drew, World.size_setCell, size_fill, bytesW]; omega)) only [go_sem, ↓reduceIte, reduceCtorEq, Nat.reduceBEq, Nat.reduceEqDiff, Nat.reduceAdd, Nat.reduceMul, Int.reduceNe, Int.reduceEq, Int.reduceLT, Int.reduceLE, Int.reduceNeg, Int.reduceAdd, Int.reduceSub, Int.reduceMul, Int.reduceToNat, beq_self_eq_true, c109]
  refine bsW_cells (cells := (rowsTable.flatMap Row4.enc).toArray) ty148mkI (by decide) (by decide) (by kernel_rfl) ?_
  simp (disch := first | omega | exact okFill_t rfl | exact okSize_t rfl | exact fun h => h | (simp only [World.size_alloc, World.size_drew, World.size_setCell, size_fill, bytesW]; omega)) only [go_sem, ↓reduceIte, reduceCtorEq, Nat.reduceBEq, Nat.reduceEqDiff, Nat.reduceAdd, Nat.reduceMul, Int.reduceNe, Int.reduceEq, Int.reduceLT, Int.reduceLE, Int.reduceNeg, Int.reduceAdd, Int.reduceSub, Int.reduceMul, Int.reduceToNat, beq_self_eq_true, c109]
  exact ⟨rd_new (w := w) (sz := 4) (n := 15) (cs := (rowsTable.flatMap Row4.enc).toArray) rfl, by (repeat' (first | with_reducible exact Below.refl _ _ | with_reducible assumption | (with_reducible refine Below.drew ?_) | (with_reducible refine Below.alloc ?_ ?_ _) | (with_reducible refine Below.setCell ?_ ?_ _) | (with_reducible refine Below.fill ?_ ?_) | (with_reducible refine Below.via (by assumption) ?_ ?_) | omega | (simp only [World.size_alloc, World.size_drew, World.size_setCell, size_fill, bytesW]; omega)))⟩
theorem find_ok (a b : Int) (w : World) : Ret Try.prog 78 [.int .i64 a, .int .i64 b] w fun v w' => (∃ r : Row4, ∃ k, v = .tuple #[.agg r.enc.toArray, .bool k]) ∧ Below w.heap.size w w' := by
  refine ent78 _ _ _ _ ?_
  simp (disch := first | omega | exact okFill_t rfl | exact okSize_t rfl | exact fun h => h | (simp only [World.size_alloc, World.size_drew, World.size_setCell, size_fill, bytesW]; omega)) only [go_sem, ↓reduceIte, reduceCtorEq, Nat.reduceBEq, Nat.reduceEqDiff, Nat.reduceAdd, Nat.reduceMul, Int.reduceNe, Int.reduceEq, Int.reduceLT, Int.reduceLE, Int.reduceNeg, Int.reduceAdd, Int.reduceSub, Int.reduceMul, Int.reduceToNat, beq_self_eq_true, c78, c78S0, c78S1, c78L0, c78S2, c78S3]
  obtain ⟨z, hz⟩ : ∃ z : Row4, z = ⟨0, 0, 0, 0⟩ := ⟨_, rfl⟩
  have s1 := (St.start (W0 := w)).box z.enc.toArray 121
  have hzz : #[Value.int .i64 0, .int .i64 0, .int .i64 0, .int .i64 0] = z.enc.toArray := by rw [hz]; rfl
  rw [hzz]
  generalize w.alloc (.cells z.enc.toArray 121) = w1 at s1 ⊢
  obtain ⟨b0, hb0⟩ : ∃ b, b = w.heap.size := ⟨_, rfl⟩
  have hbb : ∀ w', Below w.heap.size w w' → Below b0 w w' := fun _ h => by rw [hb0]; exact h
  rw [← hb0] at s1 ⊢
  have az := z.at
  refine Ret.mono (rows_ok _) ?_
  rintro vt w2 ⟨ht, b2⟩
  obtain ⟨pt, ct, rfl, _⟩ := ht.form
  have s2 := s1.call b2
  simp (disch := first | omega | exact okFill_t rfl | exact okSize_t rfl | exact fun h => h | (simp only [World.size_alloc, World.size_drew, World.size_setCell, size_fill, bytesW]; omega)) only [go_sem, ↓reduceIte, reduceCtorEq, Nat.reduceBEq, Nat.reduceEqDiff, Nat.reduceAdd, Nat.reduceMul, Int.reduceNe, Int.reduceEq, Int.reduceLT, Int.reduceLE, Int.reduceNeg, Int.reduceAdd, Int.reduceSub, Int.reduceMul, Int.reduceToNat, beq_self_eq_true, c78, c78S0, c78S1, c78L0, c78S2, c78S3]
  refine W_loopU (fun k : Nat => [(7, .int .i64 k)]) (fun k w' => Below w2.heap.size w2 w' ∧ k ≤ rowsTable.length) (fun k => rowsTable.length - k) 0 rfl ⟨Below.refl _ _, Nat.zero_le _⟩ ?_
  rintro k w3 ⟨b3, hk⟩
  have s3 := s2.call b3
  have r3 := s3.rules 0 rfl
  have h3 := ht.below b3 (by decide)
  have b03 := s3.bel
  have hsz : rowsTable.length = 15 := rfl
  generalize rowsTable = tb at *
  by_cases hlt : k < tb.length
  · have hlt' : (k : Int) < tb.length := by omega
    obtain ⟨p, rfl⟩ := ht.ptr (by omega)
    have ek := h3.eltB (Below.refl _ _) Row4.len (by decide) hlt
    have ck := h3.at Row4.len hlt
    have ak := tb[k].at
    simp (disch := first | omega | exact okFill_t rfl | exact okSize_t rfl | exact fun h => h | (simp only [World.size_alloc, World.size_drew, World.size_setCell, size_fill, bytesW]; omega)) only [go_sem, ↓reduceIte, reduceCtorEq, Nat.reduceBEq, Nat.reduceEqDiff, Nat.reduceAdd, Nat.reduceMul, Int.reduceNe, Int.reduceEq, Int.reduceLT, Int.reduceLE, Int.reduceNeg, Int.reduceAdd, Int.reduceSub, Int.reduceMul, Int.reduceToNat, beq_self_eq_true, c78, c78S0, c78S1, c78L0, c78S2, c78S3, hlt', ek, ak, ck, r3, az]
    refine ⟨by omega, fun e1 => ⟨by omega, fun e2 => ⟨by omega, tb[k].len.symm, blk_okSt (s3.blk 0 rfl) tb[k].one (Nat.le_refl _), ⟨tb[k], true, rfl⟩, hbb _ ((s3.fill 0 rfl (cs := tb[k].enc.toArray) rfl).bel)⟩, fun e2 => ⟨⟨by omega, by omega⟩, k + 1, rfl, ⟨b3, by omega⟩, by omega⟩⟩, fun e1 => ⟨⟨by omega, by omega⟩, k + 1, rfl, ⟨b3, by omega⟩, by omega⟩⟩
  · have hlt' : ¬ (k : Int) < tb.length := by omega
    simp (disch := first | omega | exact okFill_t rfl | exact okSize_t rfl | exact fun h => h | (simp only [World.size_alloc, World.size_drew, World.size_setCell, size_fill, bytesW]; omega)) only [go_sem, ↓reduceIte, reduceCtorEq, Nat.reduceBEq, Nat.reduceEqDiff, Nat.reduceAdd, Nat.reduceMul, Int.reduceNe, Int.reduceEq, Int.reduceLT, Int.reduceLE, Int.reduceNeg, Int.reduceAdd, Int.reduceSub, Int.reduceMul, Int.reduceToNat, beq_self_eq_true, c78, c78S0, c78S1, c78L0, c78S2, c78S3, hlt', r3]
    refine bdW_built (cells := z.enc.toArray) (by rw [hz]; kernel_rfl) ?_
    simp (disch := first | omega | exact okFill_t rfl | exact okSize_t rfl | exact fun h => h | (simp only [World.size_alloc, World.size_drew, World.size_setCell, size_fill, bytesW]; omega)) only [go_sem, ↓reduceIte, reduceCtorEq, Nat.reduceBEq, Nat.reduceEqDiff, Nat.reduceAdd, Nat.reduceMul, Int.reduceNe, Int.reduceEq, Int.reduceLT, Int.reduceLE, Int.reduceNeg, Int.reduceAdd, Int.reduceSub, Int.reduceMul, Int.reduceToNat, beq_self_eq_true, c78, c78S0, c78S1, c78L0, c78S2, c78S3, hlt', r3, az]
    exact ⟨z.len.symm, blk_okSt (s3.blk 0 rfl) z.one (Nat.le_refl _), ⟨z, false, rfl⟩, hbb _ ((s3.fill 0 rfl (cs := z.enc.toArray) rfl).bel)⟩
/-- An operation with an answer ends behind its start. -/
def TimeOk (o : OpT) : Prop := o.Done = true → o.Invoke < o.Return
theorem check6 {o : OpT} {w : World} {K : Value → World → Prop} {b0 : Nat} (hb0 : b0 < w.heap.size) (h0 : Blk w b0 o.enc.toArray 58) (hK : ∀ e w', Below w.heap.size w w' → (e = 0 → TimeOk o) → K (.int .i64 e) w') :
    W Try.prog (c50S6 ()) [(1, .pointer (some ⟨b0, 0, none⟩))] w (finQ Try.prog [.tmp 2] K) := by
  have r0 := h0.rules
  have ao := o.at
  simp (disch := first | omega | exact okFill_t rfl | exact okSize_t rfl | exact fun h => h | (simp only [World.size_alloc, World.size_drew, World.size_setCell, size_fill, bytesW]; omega)) only [go_sem, ↓reduceIte, reduceCtorEq, Nat.reduceBEq, Nat.reduceEqDiff, Nat.reduceAdd, Nat.reduceMul, Int.reduceNe, Int.reduceEq, Int.reduceLT, Int.reduceLE, Int.reduceNeg, Int.reduceAdd, Int.reduceSub, Int.reduceMul, Int.reduceToNat, beq_self_eq_true, c50, c50S0, c50S1, c50S2, c50S3, c50S4, c50S5, c50S6, c50S7, c50S8, c50S9, c50S10, c50S11, c50S12, r0, ao]
  refine Ret.mono (between_ok _ _ _ _) ?_
  rintro _ w2 ⟨⟨x2, rfl⟩, b2⟩
  clear r0
  have r0 := (h0.below b2 hb0).rules
  simp (disch := first | omega | exact okFill_t rfl | exact okSize_t rfl | exact fun h => h | (simp only [World.size_alloc, World.size_drew, World.size_setCell, size_fill, bytesW]; omega)) only [go_sem, ↓reduceIte, reduceCtorEq, Nat.reduceBEq, Nat.reduceEqDiff, Nat.reduceAdd, Nat.reduceMul, Int.reduceNe, Int.reduceEq, Int.reduceLT, Int.reduceLE, Int.reduceNeg, Int.reduceAdd, Int.reduceSub, Int.reduceMul, Int.reduceToNat, beq_self_eq_true, c50, c50S0, c50S1, c50S2, c50S3, c50S4, c50S5, c50S6, c50S7, c50S8, c50S9, c50S10, c50S11, c50S12, r0, ao]
  have k31 : K (.int .i64 31) w2 := hK 31 w2 b2 fun h => by cases h
  have kf : o.Done = false → K (.int .i64 0) w2 := fun hf => hK 0 w2 b2 fun _ hd => by rw [hf] at hd; cases hd
  have kt : o.Invoke < o.Return → K (.int .i64 0) w2 := fun ht => hK 0 w2 b2 fun _ _ => ht
  exact ⟨fun _ => ⟨fun _ => ⟨fun _ => k31, fun _ => ⟨fun _ => ⟨fun h => ⟨fun _ => k31, fun _ => kt h⟩, fun _ => k31⟩, kf⟩⟩, fun _ => ⟨fun _ => ⟨fun h => ⟨fun _ => k31, fun _ => kt h⟩, fun _ => k31⟩, kf⟩⟩, fun _ => k31⟩
theorem check8 {o : OpT} {r : Row4} {w : World} {K : Value → World → Prop} {b0 b1 : Nat} (m n : Int) (hb0 : b0 < w.heap.size) (h0 : Blk w b0 o.enc.toArray 58) (h1 : Blk w b1 r.enc.toArray 121)
    (hK : ∀ e w', Below w.heap.size w w' → (e = 0 → TimeOk o) → K (.int .i64 e) w') :
    W Try.prog (c50S8 ()) [(1, .pointer (some ⟨b0, 0, none⟩)), (3, .pointer (some ⟨b1, 0, none⟩)), (5, .int .i64 m), (6, .int .i64 n)] w (finQ Try.prog [.tmp 2] K) := by
  have hb1 := h1.lt
  have r0 := h0.rules
  have r1 := h1.rules
  have ao := o.at
  have ar := r.at
  simp (disch := first | omega | exact okFill_t rfl | exact okSize_t rfl | exact fun h => h | (simp only [World.size_alloc, World.size_drew, World.size_setCell, size_fill, bytesW]; omega)) only [go_sem, ↓reduceIte, reduceCtorEq, Nat.reduceBEq, Nat.reduceEqDiff, Nat.reduceAdd, Nat.reduceMul, Int.reduceNe, Int.reduceEq, Int.reduceLT, Int.reduceLE, Int.reduceNeg, Int.reduceAdd, Int.reduceSub, Int.reduceMul, Int.reduceToNat, beq_self_eq_true, c50, c50S0, c50S1, c50S2, c50S3, c50S4, c50S5, c50S6, c50S7, c50S8, c50S9, c50S10, c50S11, c50S12, r0, r1, ao, ar]
  refine Ret.mono (between_ok _ _ _ _) ?_
  rintro _ w2 ⟨⟨x2, rfl⟩, b2⟩
  clear r0 r1
  have r0 := (h0.below b2 hb0).rules
  have r1 := (h1.below b2 hb1).rules
  simp (disch := first | omega | exact okFill_t rfl | exact okSize_t rfl | exact fun h => h | (simp only [World.size_alloc, World.size_drew, World.size_setCell, size_fill, bytesW]; omega)) only [go_sem, ↓reduceIte, reduceCtorEq, Nat.reduceBEq, Nat.reduceEqDiff, Nat.reduceAdd, Nat.reduceMul, Int.reduceNe, Int.reduceEq, Int.reduceLT, Int.reduceLE, Int.reduceNeg, Int.reduceAdd, Int.reduceSub, Int.reduceMul, Int.reduceToNat, beq_self_eq_true, c50, c50S0, c50S1, c50S2, c50S3, c50S4, c50S5, c50S6, c50S7, c50S8, c50S9, c50S10, c50S11, c50S12, r0, r1, ao, ar]
  refine ⟨fun _ => Ret.mono (between_ok _ _ _ _) ?_, fun _ => hK _ _ b2 fun h => by cases h⟩
  rintro _ w3 ⟨⟨x3, rfl⟩, b3⟩
  have b03 := b2.trans (b3.mono b2.size)
  clear r0 r1
  have r0 := (h0.below b03 hb0).rules
  have r1 := (h1.below b03 hb1).rules
  simp (disch := first | omega | exact okFill_t rfl | exact okSize_t rfl | exact fun h => h | (simp only [World.size_alloc, World.size_drew, World.size_setCell, size_fill, bytesW]; omega)) only [go_sem, ↓reduceIte, reduceCtorEq, Nat.reduceBEq, Nat.reduceEqDiff, Nat.reduceAdd, Nat.reduceMul, Int.reduceNe, Int.reduceEq, Int.reduceLT, Int.reduceLE, Int.reduceNeg, Int.reduceAdd, Int.reduceSub, Int.reduceMul, Int.reduceToNat, beq_self_eq_true, c50, c50S0, c50S1, c50S2, c50S3, c50S4, c50S5, c50S7, c50S8, c50S9, c50S10, c50S11, c50S12, r0, r1, ao, ar]
  have t6 : ∀ w', Below w.heap.size w w' → W Try.prog (c50S6 ()) [(1, .pointer (some ⟨b0, 0, none⟩))] w' (finQ Try.prog [.tmp 2] K) := fun w' h => check6 (Nat.lt_of_lt_of_le hb0 h.size) (h0.below h hb0) fun e w'' b he => hK e w'' (h.trans (b.mono h.size)) he
  refine ⟨fun _ => hK _ _ b03 (fun h => by cases h), fun _ => ⟨fun _ => Ret.mono (answer_ok _ _ _) ?_, fun _ => ⟨fun _ => ⟨fun _ => hK _ _ b03 (fun h => by cases h), fun _ => t6 _ b03⟩, fun _ => t6 _ b03⟩⟩⟩
  rintro _ w4 ⟨⟨x4, rfl⟩, b4⟩
  have b04 := b03.trans (b4.mono b03.size)
  clear r0 r1
  have r0 := (h0.below b04 hb0).rules
  simp (disch := first | omega | exact okFill_t rfl | exact okSize_t rfl | exact fun h => h | (simp only [World.size_alloc, World.size_drew, World.size_setCell, size_fill, bytesW]; omega)) only [go_sem, ↓reduceIte, reduceCtorEq, Nat.reduceBEq, Nat.reduceEqDiff, Nat.reduceAdd, Nat.reduceMul, Int.reduceNe, Int.reduceEq, Int.reduceLT, Int.reduceLE, Int.reduceNeg, Int.reduceAdd, Int.reduceSub, Int.reduceMul, Int.reduceToNat, beq_self_eq_true, c50, c50S0, c50S1, c50S2, c50S3, c50S4, c50S5, c50S7, c50S8, c50S9, c50S10, c50S11, c50S12, r0, ao]
  have k2 := hK 33 w4 b04 fun h => by cases h
  have k3 := t6 w4 b04
  simp only [k2, k3, implies_true, and_self]
theorem checkOp_ok (o : OpT) (w : World) : Ret Try.prog 50 [.agg o.enc.toArray] w fun v w' => (∃ e, v = .int .i64 e ∧ (e = 0 → TimeOk o)) ∧ Below w.heap.size w w' := by
  refine ent50 _ _ _ ?_
  simp (disch := first | omega | exact okFill_t rfl | exact okSize_t rfl | exact fun h => h | (simp only [World.size_alloc, World.size_drew, World.size_setCell, size_fill, bytesW]; omega)) only [go_sem, ↓reduceIte, reduceCtorEq, Nat.reduceBEq, Nat.reduceEqDiff, Nat.reduceAdd, Nat.reduceMul, Int.reduceNe, Int.reduceEq, Int.reduceLT, Int.reduceLE, Int.reduceNeg, Int.reduceAdd, Int.reduceSub, Int.reduceMul, Int.reduceToNat, beq_self_eq_true, c50, c50S0, c50S1, c50S2, c50S3, c50S4, c50S5, c50S6, c50S7, c50S8, c50S9, c50S10, c50S11, c50S12]
  have s1 := (St.start (W0 := w)).box o.enc.toArray 58
  generalize w.alloc (.cells o.enc.toArray 58) = w1 at s1 ⊢
  obtain ⟨b0, hb0⟩ : ∃ b, b = w.heap.size := ⟨_, rfl⟩
  have hbb : ∀ w', Below w.heap.size w w' → Below b0 w w' := fun _ h => by rw [hb0]; exact h
  rw [← hb0] at s1 ⊢
  have ao := o.at
  simp (disch := first | omega | exact okFill_t rfl | exact okSize_t rfl | exact fun h => h | (simp only [World.size_alloc, World.size_drew, World.size_setCell, size_fill, bytesW]; omega)) only [go_sem, ↓reduceIte, reduceCtorEq, Nat.reduceBEq, Nat.reduceEqDiff, Nat.reduceAdd, Nat.reduceMul, Int.reduceNe, Int.reduceEq, Int.reduceLT, Int.reduceLE, Int.reduceNeg, Int.reduceAdd, Int.reduceSub, Int.reduceMul, Int.reduceToNat, beq_self_eq_true, c50, c50S0, c50S1, c50S2, c50S3, c50S4, c50S5, c50S6, c50S7, c50S8, c50S9, c50S10, c50S11, c50S12, ao]
  refine Ret.mono (between_ok _ _ _ _) ?_
  rintro _ w2 ⟨⟨x2, rfl⟩, b2⟩
  have s2 := s1.call b2
  clear s1 b2
  have r2 := s2.rules 0 rfl
  simp (disch := first | omega | exact okFill_t rfl | exact okSize_t rfl | exact fun h => h | (simp only [World.size_alloc, World.size_drew, World.size_setCell, size_fill, bytesW]; omega)) only [go_sem, ↓reduceIte, reduceCtorEq, Nat.reduceBEq, Nat.reduceEqDiff, Nat.reduceAdd, Nat.reduceMul, Int.reduceNe, Int.reduceEq, Int.reduceLT, Int.reduceLE, Int.reduceNeg, Int.reduceAdd, Int.reduceSub, Int.reduceMul, Int.reduceToNat, beq_self_eq_true, c50, c50S0, c50S1, c50S2, c50S3, c50S4, c50S5, c50S6, c50S7, c50S8, c50S9, c50S10, c50S11, c50S12, ao, r2]
  refine ⟨fun _ => Ret.mono (between_ok _ _ _ _) ?_, fun _ => hbb _ s2.bel⟩
  rintro _ w3 ⟨⟨x3, rfl⟩, b3⟩
  have s3 := s2.call b3
  clear s2 b3 r2
  have r3 := s3.rules 0 rfl
  simp (disch := first | omega | exact okFill_t rfl | exact okSize_t rfl | exact fun h => h | (simp only [World.size_alloc, World.size_drew, World.size_setCell, size_fill, bytesW]; omega)) only [go_sem, ↓reduceIte, reduceCtorEq, Nat.reduceBEq, Nat.reduceEqDiff, Nat.reduceAdd, Nat.reduceMul, Int.reduceNe, Int.reduceEq, Int.reduceLT, Int.reduceLE, Int.reduceNeg, Int.reduceAdd, Int.reduceSub, Int.reduceMul, Int.reduceToNat, beq_self_eq_true, c50, c50S0, c50S1, c50S2, c50S3, c50S4, c50S5, c50S6, c50S7, c50S8, c50S9, c50S10, c50S11, c50S12, ao, r3]
  refine ⟨fun _ => Ret.mono (between_ok _ _ _ _) ?_, fun _ => hbb _ s3.bel⟩
  rintro _ w4 ⟨⟨x4, rfl⟩, b4⟩
  have s4 := s3.call b4
  clear s3 b4 r3
  have r4 := s4.rules 0 rfl
  simp (disch := first | omega | exact okFill_t rfl | exact okSize_t rfl | exact fun h => h | (simp only [World.size_alloc, World.size_drew, World.size_setCell, size_fill, bytesW]; omega)) only [go_sem, ↓reduceIte, reduceCtorEq, Nat.reduceBEq, Nat.reduceEqDiff, Nat.reduceAdd, Nat.reduceMul, Int.reduceNe, Int.reduceEq, Int.reduceLT, Int.reduceLE, Int.reduceNeg, Int.reduceAdd, Int.reduceSub, Int.reduceMul, Int.reduceToNat, beq_self_eq_true, c50, c50S0, c50S1, c50S2, c50S3, c50S4, c50S5, c50S6, c50S7, c50S8, c50S9, c50S10, c50S11, c50S12, ao, r4]
  refine ⟨fun _ => hbb _ s4.bel, fun _ => Ret.mono (find_ok _ _ _) ?_⟩
  rintro _ w5 ⟨⟨r, kk, rfl⟩, b5⟩
  have s5 := s4.call b5
  clear s4 b5 r4
  have ar := r.at
  have r5 := s5.rules 0 rfl
  simp (disch := first | omega | exact okFill_t rfl | exact okSize_t rfl | exact fun h => h | (simp only [World.size_alloc, World.size_drew, World.size_setCell, size_fill, bytesW]; omega)) only [go_sem, ↓reduceIte, reduceCtorEq, Nat.reduceBEq, Nat.reduceEqDiff, Nat.reduceAdd, Nat.reduceMul, Int.reduceNe, Int.reduceEq, Int.reduceLT, Int.reduceLE, Int.reduceNeg, Int.reduceAdd, Int.reduceSub, Int.reduceMul, Int.reduceToNat, beq_self_eq_true, c50, c50S0, c50S1, c50S2, c50S3, c50S4, c50S5, c50S6, c50S7, c50S9, c50S10, c50S11, c50S12, ao, ar, r5]
  have s6 := s5.box r.enc.toArray 121
  generalize w5.alloc (.cells r.enc.toArray 121) = w6 at s6 ⊢
  have b6 := s6.bel
  have t6 := fun m n => check8 (o := o) (r := r) m n (s6.low 1 rfl).2 (s6.blk 1 rfl) (s6.blk 0 rfl) (K := fun v w' => (∃ e, v = .int .i64 e ∧ (e = 0 → TimeOk o)) ∧ Below b0 w w') fun e w' b he => ⟨⟨e, rfl, he⟩, hbb _ (b6.trans (b.mono b6.size))⟩
  exact ⟨r.len.symm, fun _ => hbb _ b6, fun _ => ⟨fun _ => ⟨fun _ => t6 _ _, fun _ => t6 _ _⟩, fun _ => ⟨fun _ => t6 _ _, fun _ => t6 _ _⟩⟩⟩
theorem beside_ok (va : Value) (l : List OpT) (o : OpT) (w : World) (ha : RdS w 11 OpT.enc va l) (hl : (l.length : Int) ≤ 9223372036854775806) :
    Ret Try.prog 51 [va, .agg o.enc.toArray] w fun v w' => (∃ e, v = .int .i64 e ∧ (e = 0 → ∀ x ∈ l, x.ID ≠ o.ID → x.Object = o.Object → x.Kind = o.Kind)) ∧ Below w.heap.size w w' := by
  obtain ⟨pa, ca, rfl, _⟩ := ha.form
  refine ent51 _ _ _ _ ?_
  simp (disch := first | omega | exact okFill_t rfl | exact okSize_t rfl | exact fun h => h | (simp only [World.size_alloc, World.size_drew, World.size_setCell, size_fill, bytesW]; omega)) only [go_sem, ↓reduceIte, reduceCtorEq, Nat.reduceBEq, Nat.reduceEqDiff, Nat.reduceAdd, Nat.reduceMul, Int.reduceNe, Int.reduceEq, Int.reduceLT, Int.reduceLE, Int.reduceNeg, Int.reduceAdd, Int.reduceSub, Int.reduceMul, Int.reduceToNat, beq_self_eq_true, c51, c51S0, c51S1, c51S2, c51L0, c51S3, c51S4, c51S5, c51L1, c51S6, c51S7]
  have s1 := (St.start (W0 := w)).box o.enc.toArray 58
  have h1 := ha.below s1.bel (by decide)
  generalize w.alloc (.cells o.enc.toArray 58) = w1 at s1 h1 ⊢
  obtain ⟨b0, hb0⟩ : ∃ b, b = w.heap.size := ⟨_, rfl⟩
  have hbb : ∀ w', Below w.heap.size w w' → Below b0 w w' := fun _ h => by rw [hb0]; exact h
  rw [← hb0] at s1 ⊢
  have ao := o.at
  refine W_loopU (fun k : Nat => [(5, .int .i64 k)]) (fun k w' => Below w1.heap.size w1 w' ∧ k ≤ l.length ∧ ∀ j, (h : j < l.length) → j < k → l[j].ID ≠ o.ID → l[j].Object = o.Object → l[j].Kind = o.Kind) (fun k => l.length - k) 0 rfl ⟨Below.refl _ _, Nat.zero_le _, fun j _ h => by omega⟩ ?_
  rintro k w2 ⟨b2, hk, he⟩
  have s2 := s1.call b2
  have r2 := s2.rules 0 rfl
  have h2 := h1.below b2 (by decide)
  by_cases hlt : k < l.length
  · have hlt' : (k : Int) < l.length := by omega
    obtain ⟨p, rfl⟩ := ha.ptr (by omega)
    have ek := h2.eltB (Below.refl _ _) OpT.len (by decide) hlt
    have ak := l[k].at
    simp (disch := first | omega | exact okFill_t rfl | exact okSize_t rfl | exact fun h => h | (simp only [World.size_alloc, World.size_drew, World.size_setCell, size_fill, bytesW]; omega)) only [go_sem, ↓reduceIte, reduceCtorEq, Nat.reduceBEq, Nat.reduceEqDiff, Nat.reduceAdd, Nat.reduceMul, Int.reduceNe, Int.reduceEq, Int.reduceLT, Int.reduceLE, Int.reduceNeg, Int.reduceAdd, Int.reduceSub, Int.reduceMul, Int.reduceToNat, beq_self_eq_true, c51, c51S0, c51S1, c51S2, c51L0, c51S3, c51S4, c51S5, c51L1, c51S6, c51S7, hlt']
    refine c51draw0 ?_
    simp (disch := first | omega | exact okFill_t rfl | exact okSize_t rfl | exact fun h => h | (simp only [World.size_alloc, World.size_drew, World.size_setCell, size_fill, bytesW]; omega)) only [go_sem, ↓reduceIte, reduceCtorEq, Nat.reduceBEq, Nat.reduceEqDiff, Nat.reduceAdd, Nat.reduceMul, Int.reduceNe, Int.reduceEq, Int.reduceLT, Int.reduceLE, Int.reduceNeg, Int.reduceAdd, Int.reduceSub, Int.reduceMul, Int.reduceToNat, beq_self_eq_true, c51, c51S0, c51S1, c51S2, c51L0, c51S3, c51S4, c51S5, c51L1, c51S6, c51S7, c51D0, r2, ek, ak, ao]
    have b02 : Below w.heap.size w w2.drew := (s1.bel.trans (b2.mono s1.size)).drew
    have go : (l[k].ID ≠ o.ID → l[k].Object = o.Object → l[k].Kind = o.Kind) → ∀ j, (h : j < l.length) → j < k + 1 → l[j].ID ≠ o.ID → l[j].Object = o.Object → l[j].Kind = o.Kind := fun hx j h1 h3 => by
      rcases Nat.lt_or_ge j k with h' | h'
      · exact he j h1 h'
      · obtain rfl : j = k := by omega
        exact hx
    refine ⟨⟨by omega, by omega⟩, fun e1 => ⟨⟨by omega, by omega⟩, fun e2 => ⟨⟨by omega, by omega⟩, fun e3 => hbb _ (b02), fun e3 => ⟨⟨by omega, by omega⟩, k + 1, rfl, ⟨b2.drew, by omega, go fun _ _ => e3⟩, by omega⟩⟩, fun e2 => ⟨⟨by omega, by omega⟩, k + 1, rfl, ⟨b2.drew, by omega, go fun _ h => absurd h e2⟩, by omega⟩⟩, fun e1 => ⟨⟨by omega, by omega⟩, k + 1, rfl, ⟨b2.drew, by omega, go fun h => absurd e1 h⟩, by omega⟩⟩
  · have hlt' : ¬ (k : Int) < l.length := by omega
    simp (disch := first | omega | exact okFill_t rfl | exact okSize_t rfl | exact fun h => h | (simp only [World.size_alloc, World.size_drew, World.size_setCell, size_fill, bytesW]; omega)) only [go_sem, ↓reduceIte, reduceCtorEq, Nat.reduceBEq, Nat.reduceEqDiff, Nat.reduceAdd, Nat.reduceMul, Int.reduceNe, Int.reduceEq, Int.reduceLT, Int.reduceLE, Int.reduceNeg, Int.reduceAdd, Int.reduceSub, Int.reduceMul, Int.reduceToNat, beq_self_eq_true, c51, c51S0, c51S1, c51S2, c51L0, c51S3, c51S4, c51S5, c51L1, c51S6, c51S7, hlt']
    have hall : ∀ x ∈ l, x.ID ≠ o.ID → x.Object = o.Object → x.Kind = o.Kind := fun x hx => by
      obtain ⟨j, hj, rfl⟩ := List.mem_iff_getElem.1 hx
      exact he j hj (by omega)
    clear he
    refine W_loopU (fun k : Nat => [(6, .int .i64 k)]) (fun k w' => Below w1.heap.size w1 w' ∧ k ≤ l.length) (fun k => l.length - k) 0 rfl ⟨b2, Nat.zero_le _⟩ ?_
    clear r2 h2 s2 b2
    rintro k w3 ⟨b3, hk⟩
    have s3 := s1.call b3
    have r3 := s3.rules 0 rfl
    have h3 := h1.below b3 (by decide)
    by_cases hlt : k < l.length
    · have hlt' : (k : Int) < l.length := by omega
      obtain ⟨p, rfl⟩ := ha.ptr (by omega)
      have ek := h3.eltB (Below.refl _ _) OpT.len (by decide) hlt
      have ck := h3.at OpT.len hlt
      have ak := l[k].at
      simp (disch := first | omega | exact okFill_t rfl | exact okSize_t rfl | exact fun h => h | (simp only [World.size_alloc, World.size_drew, World.size_setCell, size_fill, bytesW]; omega)) only [go_sem, ↓reduceIte, reduceCtorEq, Nat.reduceBEq, Nat.reduceEqDiff, Nat.reduceAdd, Nat.reduceMul, Int.reduceNe, Int.reduceEq, Int.reduceLT, Int.reduceLE, Int.reduceNeg, Int.reduceAdd, Int.reduceSub, Int.reduceMul, Int.reduceToNat, beq_self_eq_true, c51, c51S0, c51S1, c51S2, c51L0, c51S3, c51S4, c51S5, c51L1, c51S6, c51S7, hlt']
      have hp3 := h3.blt OpT.len (by decide) (by omega)
      have hb3 := s3.low 0 rfl
      have hd3 : w3.drew.heap.size = w3.heap.size := rfl
      refine c51draw1 (Chg (fun _ => False) _) (Chg.refl _ _) ?_
      simp (disch := first | omega | exact okFill_t rfl | exact okSize_t rfl | exact fun h => h | (simp only [World.size_alloc, World.size_drew, World.size_setCell, size_fill, bytesW]; omega)) only [go_sem, ↓reduceIte, reduceCtorEq, Nat.reduceBEq, Nat.reduceEqDiff, Nat.reduceAdd, Nat.reduceMul, Int.reduceNe, Int.reduceEq, Int.reduceLT, Int.reduceLE, Int.reduceNeg, Int.reduceAdd, Int.reduceSub, Int.reduceMul, Int.reduceToNat, beq_self_eq_true, c51, c51S0, c51S1, c51S2, c51L0, c51S3, c51S4, c51S5, c51L1, c51S6, c51S7, c51D1, r3, ek, ak, ao, ck]
      have b03 : Below w1.heap.size w1 w3.drew := b3.drew
      refine ⟨⟨by omega, by omega⟩, fun e1 => ⟨⟨by omega, by omega⟩, fun e2 => ⟨⟨by omega, by omega⟩, Ret.mono (rbefore_ok _ _ _) ?_⟩, fun e2 => ⟨⟨by omega, by omega⟩, k + 1, rfl, ⟨b03, by omega⟩, by omega⟩⟩, fun e1 => ⟨⟨by omega, by omega⟩, k + 1, rfl, ⟨b03, by omega⟩, by omega⟩⟩
      rintro _ w4 ⟨rfl, b4⟩
      have b34 : Below w3.heap.size w3 w4 := (Below.refl _ w3).drew.trans b4
      have h4 := h3.below b34 (by decide)
      have ck4 := h4.at OpT.len hlt
      have s4 := s3.call b34
      have r4 := s4.rules 0 rfl
      have b04 : Below w1.heap.size w1 w4 := b3.trans (b34.mono b3.size)
      simp (disch := first | omega | exact okFill_t rfl | exact okSize_t rfl | exact fun h => h | (simp only [World.size_alloc, World.size_drew, World.size_setCell, size_fill, bytesW]; omega)) only [go_sem, ↓reduceIte, reduceCtorEq, Nat.reduceBEq, Nat.reduceEqDiff, Nat.reduceAdd, Nat.reduceMul, Int.reduceNe, Int.reduceEq, Int.reduceLT, Int.reduceLE, Int.reduceNeg, Int.reduceAdd, Int.reduceSub, Int.reduceMul, Int.reduceToNat, beq_self_eq_true, c51, c51S0, c51S1, c51S2, c51L0, c51S3, c51S4, c51S5, c51L1, c51S6, c51S7, c51D1, r3, r4, ek, ak, ao, ck, ck4]
      refine ⟨Chg.of_below b4, fun e3 => ⟨⟨by omega, by omega⟩, Chg.of_below b4, Ret.mono (rbefore_ok _ _ _) ?_⟩, fun e3 => ⟨⟨by omega, by omega⟩, k + 1, rfl, ⟨b04, by omega⟩, by omega⟩⟩
      rintro _ w5 ⟨rfl, b5⟩
      have b05 : Below w1.heap.size w1 w5 := b04.trans (b5.mono b04.size)
      simp (disch := first | omega | exact okFill_t rfl | exact okSize_t rfl | exact fun h => h | (simp only [World.size_alloc, World.size_drew, World.size_setCell, size_fill, bytesW]; omega)) only [go_sem, ↓reduceIte, reduceCtorEq, Nat.reduceBEq, Nat.reduceEqDiff, Nat.reduceAdd, Nat.reduceMul, Int.reduceNe, Int.reduceEq, Int.reduceLT, Int.reduceLE, Int.reduceNeg, Int.reduceAdd, Int.reduceSub, Int.reduceMul, Int.reduceToNat, beq_self_eq_true, c51, c51S0, c51S1, c51S2, c51L0, c51S3, c51S4, c51S5, c51L1, c51S6, c51S7, c51D1, r3, r4, ek, ak, ao, ck, ck4]
      exact ⟨(Chg.of_below b4).trans (Chg.of_below b5), fun _ => hbb _ (s1.bel.trans (b05.mono s1.size)), fun _ => ⟨⟨by omega, by omega⟩, k + 1, rfl, ⟨b05, by omega⟩, by omega⟩⟩
    · have hlt' : ¬ (k : Int) < l.length := by omega
      simp (disch := first | omega | exact okFill_t rfl | exact okSize_t rfl | exact fun h => h | (simp only [World.size_alloc, World.size_drew, World.size_setCell, size_fill, bytesW]; omega)) only [go_sem, ↓reduceIte, reduceCtorEq, Nat.reduceBEq, Nat.reduceEqDiff, Nat.reduceAdd, Nat.reduceMul, Int.reduceNe, Int.reduceEq, Int.reduceLT, Int.reduceLE, Int.reduceNeg, Int.reduceAdd, Int.reduceSub, Int.reduceMul, Int.reduceToNat, beq_self_eq_true, c51, c51S0, c51S1, c51S2, c51L0, c51S3, c51S4, c51S5, c51L1, c51S6, c51S7, hlt']
      exact ⟨hall, hbb _ ((s1.bel.trans (b3.mono s1.size)))⟩
theorem rising_pairwise {l : List OpT} (h : ∀ j, (h : j + 1 < l.length) → l[j].ID < l[j + 1].ID) : l.Pairwise fun a b => a.ID < b.ID := by
  rw [List.pairwise_iff_getElem]
  intro i j hi hj hij
  induction j with
  | zero => omega
  | succ j ih =>
    rcases Nat.lt_or_ge i j with h1 | h1
    · exact Int.lt_trans (ih (by omega) h1) (h j hj)
    · obtain rfl : i = j := by omega
      exact h i hj
theorem pair_id {l : List OpT} (hp : l.Pairwise fun a b => a.ID < b.ID) : Pure l := fun a ha b hb e => by
  obtain ⟨i, hi, rfl⟩ := List.mem_iff_getElem.1 ha
  obtain ⟨j, hj, rfl⟩ := List.mem_iff_getElem.1 hb
  rw [List.pairwise_iff_getElem] at hp
  rcases Nat.lt_trichotomy i j with h | rfl | h
  · have := hp i j hi hj h; omega
  · rfl
  · have := hp j i hj hi h; omega
/-- What an accepted history is, as far as is needed here. -/
def Hist (l : List OpT) : Prop := l.Pairwise (fun a b => a.ID < b.ID) ∧ (∀ a ∈ l, ∀ b ∈ l, a.Object = b.Object → a.Kind = b.Kind) ∧ ∀ a ∈ l, TimeOk a
theorem check_ok (va : Value) (l : List OpT) (w : World) (ha : RdS w 11 OpT.enc va l) (hl : (l.length : Int) ≤ 9223372036854775806) :
    Ret Try.prog 21 [va] w fun v w' => (∃ e, v = .int .i64 e ∧ (e = 0 → Hist l ∧ l.length ≤ 64)) ∧ Below w.heap.size w w' := by
  obtain ⟨pa, ca, rfl, _⟩ := ha.form
  refine ent21 _ _ _ ?_
  simp (disch := first | omega | exact okFill_t rfl | exact okSize_t rfl | exact fun h => h | (simp only [World.size_alloc, World.size_drew, World.size_setCell, size_fill, bytesW]; omega)) only [go_sem, ↓reduceIte, reduceCtorEq, Nat.reduceBEq, Nat.reduceEqDiff, Nat.reduceAdd, Nat.reduceMul, Int.reduceNe, Int.reduceEq, Int.reduceLT, Int.reduceLE, Int.reduceNeg, Int.reduceAdd, Int.reduceSub, Int.reduceMul, Int.reduceToNat, beq_self_eq_true, c21, c21S0, c21S1, c21S2, c21S3, c21S4, c21L0, c21S5, c21S6, c21S7, c21L1, c21S8, c21S9, c21S10]
  refine ⟨fun _ => Below.refl _ _, fun h64 => ?_⟩
  refine W_loopU (fun k : Nat => [(3, .int .i64 k)]) (fun k w' => Below w.heap.size w w' ∧ k ≤ l.length ∧ (∀ j, (h : j < l.length) → j < k → TimeOk l[j]) ∧ ∀ j, (h : j + 1 < l.length) → j + 1 < k → l[j].ID < l[j + 1].ID) (fun k => l.length - k) 0 rfl ⟨Below.refl _ _, Nat.zero_le _, (fun j _ h => by omega), fun j _ h => by omega⟩ ?_
  rintro k w2 ⟨b2, hk, ht, he⟩
  have h2 := ha.below b2 (by decide)
  by_cases hlt : k < l.length
  · have hlt' : (k : Int) < l.length := by omega
    obtain ⟨p, rfl⟩ := ha.ptr (by omega)
    have ek := h2.at OpT.len hlt
    simp (disch := first | omega | exact okFill_t rfl | exact okSize_t rfl | exact fun h => h | (simp only [World.size_alloc, World.size_drew, World.size_setCell, size_fill, bytesW]; omega)) only [go_sem, ↓reduceIte, reduceCtorEq, Nat.reduceBEq, Nat.reduceEqDiff, Nat.reduceAdd, Nat.reduceMul, Int.reduceNe, Int.reduceEq, Int.reduceLT, Int.reduceLE, Int.reduceNeg, Int.reduceAdd, Int.reduceSub, Int.reduceMul, Int.reduceToNat, beq_self_eq_true, c21, c21S0, c21S1, c21S2, c21S3, c21S4, c21L0, c21S5, c21S6, c21S7, c21L1, c21S8, c21S9, c21S10, hlt', ek]
    refine ⟨by omega, Ret.mono (checkOp_ok _ _) ?_⟩
    rintro _ w3 ⟨⟨e, rfl, het⟩, b3⟩
    have b03 := b2.trans (b3.mono b2.size)
    simp (disch := first | omega | exact okFill_t rfl | exact okSize_t rfl | exact fun h => h | (simp only [World.size_alloc, World.size_drew, World.size_setCell, size_fill, bytesW]; omega)) only [go_sem, ↓reduceIte, reduceCtorEq, Nat.reduceBEq, Nat.reduceEqDiff, Nat.reduceAdd, Nat.reduceMul, Int.reduceNe, Int.reduceEq, Int.reduceLT, Int.reduceLE, Int.reduceNeg, Int.reduceAdd, Int.reduceSub, Int.reduceMul, Int.reduceToNat, beq_self_eq_true, c21, c21S0, c21S1, c21S2, c21S3, c21S4, c21L0, c21S5, c21S6, c21S7, c21L1, c21S8, c21S9, c21S10]
    refine ⟨fun e0 => ⟨fun h => absurd h e0, b03⟩, fun e0 => ?_⟩
    have htn : e = 0 → ∀ j, (h : j < l.length) → j < k + 1 → TimeOk l[j] := fun e0 j h1 h2 => by
      rcases Nat.lt_or_ge j k with h' | h'
      · exact ht j h1 h'
      · obtain rfl : j = k := by omega
        exact het e0
    have h3 := ha.below b03 (by decide)
    have ek3 := h3.eltB (Below.refl _ _) OpT.len (by decide) hlt
    have ak := l[k].at
    rcases Nat.eq_zero_or_pos k with rfl | hk0
    · refine c21draw0 ?_
      simp (disch := first | omega | exact okFill_t rfl | exact okSize_t rfl | exact fun h => h | (simp only [World.size_alloc, World.size_drew, World.size_setCell, size_fill, bytesW]; omega)) only [go_sem, ↓reduceIte, reduceCtorEq, Nat.reduceBEq, Nat.reduceEqDiff, Nat.reduceAdd, Nat.reduceMul, Int.reduceNe, Int.reduceEq, Int.reduceLT, Int.reduceLE, Int.reduceNeg, Int.reduceAdd, Int.reduceSub, Int.reduceMul, Int.reduceToNat, beq_self_eq_true, c21, c21S0, c21S1, c21S2, c21S3, c21S4, c21L0, c21S5, c21S6, c21S7, c21L1, c21S8, c21S9, c21S10, c21D0, hlt', ek3, ak]
      exact ⟨⟨by omega, by omega⟩, 1, rfl, ⟨b03.drew, by omega, htn e0, fun j _ h => by omega⟩, by omega⟩
    · have ej3 := h3.eltB (Below.refl _ _) OpT.len (by decide) (show k - 1 < l.length by omega)
      have aj := l[k - 1].at
      have hk1 : (k : Int) - 1 = (k - 1 : Nat) := by omega
      refine c21draw0 ?_
      simp (disch := first | omega | exact okFill_t rfl | exact okSize_t rfl | exact fun h => h | (simp only [World.size_alloc, World.size_drew, World.size_setCell, size_fill, bytesW]; omega)) only [go_sem, ↓reduceIte, reduceCtorEq, Nat.reduceBEq, Nat.reduceEqDiff, Nat.reduceAdd, Nat.reduceMul, Int.reduceNe, Int.reduceEq, Int.reduceLT, Int.reduceLE, Int.reduceNeg, Int.reduceAdd, Int.reduceSub, Int.reduceMul, Int.reduceToNat, beq_self_eq_true, c21, c21S0, c21S1, c21S2, c21S3, c21S4, c21L0, c21S5, c21S6, c21S7, c21L1, c21S8, c21S9, c21S10, c21D0, hlt', ek3, ak, hk1, ej3, aj]
      refine ⟨fun _ => ⟨by omega, ⟨by omega, by omega⟩, ⟨by omega, by omega⟩, fun _ => b03.drew, fun e1 => ⟨⟨by omega, by omega⟩, k + 1, rfl, ⟨b03.drew, by omega, htn e0, fun j h1 h3 => ?_⟩, by omega⟩⟩, fun h => by omega⟩
      rcases Nat.lt_or_ge (j + 1) k with h' | h'
      · exact he j h1 h'
      · have h4 : j = k - 1 := by omega
        subst h4
        have h5 : l[k - 1 + 1] = l[k] := by congr 1; omega
        rw [h5]; exact e1
  · have hlt' : ¬ (k : Int) < l.length := by omega
    simp (disch := first | omega | exact okFill_t rfl | exact okSize_t rfl | exact fun h => h | (simp only [World.size_alloc, World.size_drew, World.size_setCell, size_fill, bytesW]; omega)) only [go_sem, ↓reduceIte, reduceCtorEq, Nat.reduceBEq, Nat.reduceEqDiff, Nat.reduceAdd, Nat.reduceMul, Int.reduceNe, Int.reduceEq, Int.reduceLT, Int.reduceLE, Int.reduceNeg, Int.reduceAdd, Int.reduceSub, Int.reduceMul, Int.reduceToNat, beq_self_eq_true, c21, c21S0, c21S1, c21S2, c21S3, c21S4, c21L0, c21S5, c21S6, c21S7, c21L1, c21S8, c21S9, c21S10, hlt']
    have hp : l.Pairwise fun a b => a.ID < b.ID := rising_pairwise fun j h => he j h (by omega)
    have hto : ∀ a ∈ l, TimeOk a := fun a ha => by
      obtain ⟨j, hj, rfl⟩ := List.mem_iff_getElem.1 ha
      exact ht j hj (by omega)
    clear he ht
    refine W_loopU (fun k : Nat => [(5, .int .i64 k)]) (fun k w' => Below w.heap.size w w' ∧ k ≤ l.length ∧ ∀ j, (h : j < l.length) → j < k → ∀ x ∈ l, x.ID ≠ l[j].ID → x.Object = l[j].Object → x.Kind = l[j].Kind) (fun k => l.length - k) 0 rfl ⟨b2, Nat.zero_le _, fun j _ h => by omega⟩ ?_
    clear h2 b2
    rintro k w3 ⟨b3, hk, he⟩
    have h3 := ha.below b3 (by decide)
    by_cases hlt : k < l.length
    · have hlt' : (k : Int) < l.length := by omega
      obtain ⟨p, rfl⟩ := ha.ptr (by omega)
      have ek := h3.at OpT.len hlt
      simp (disch := first | omega | exact okFill_t rfl | exact okSize_t rfl | exact fun h => h | (simp only [World.size_alloc, World.size_drew, World.size_setCell, size_fill, bytesW]; omega)) only [go_sem, ↓reduceIte, reduceCtorEq, Nat.reduceBEq, Nat.reduceEqDiff, Nat.reduceAdd, Nat.reduceMul, Int.reduceNe, Int.reduceEq, Int.reduceLT, Int.reduceLE, Int.reduceNeg, Int.reduceAdd, Int.reduceSub, Int.reduceMul, Int.reduceToNat, beq_self_eq_true, c21, c21S0, c21S1, c21S2, c21S3, c21S4, c21L0, c21S5, c21S6, c21S7, c21L1, c21S8, c21S9, c21S10, hlt', ek]
      refine ⟨by omega, Ret.mono (beside_ok _ _ _ _ h3 hl) ?_⟩
      rintro _ w4 ⟨⟨e, rfl, hee⟩, b4⟩
      simp (disch := first | omega | exact okFill_t rfl | exact okSize_t rfl | exact fun h => h | (simp only [World.size_alloc, World.size_drew, World.size_setCell, size_fill, bytesW]; omega)) only [go_sem, ↓reduceIte, reduceCtorEq, Nat.reduceBEq, Nat.reduceEqDiff, Nat.reduceAdd, Nat.reduceMul, Int.reduceNe, Int.reduceEq, Int.reduceLT, Int.reduceLE, Int.reduceNeg, Int.reduceAdd, Int.reduceSub, Int.reduceMul, Int.reduceToNat, beq_self_eq_true, c21, c21S0, c21S1, c21S2, c21S3, c21S4, c21L0, c21S5, c21S6, c21S7, c21L1, c21S8, c21S9, c21S10]
      have b04 := b3.trans (b4.mono b3.size)
      refine ⟨fun e0 => ⟨fun h => absurd h e0, b04⟩, fun e0 => ⟨⟨by omega, by omega⟩, k + 1, rfl, ⟨b04, by omega, fun j h1 h3 => ?_⟩, by omega⟩⟩
      rcases Nat.lt_or_ge j k with h' | h'
      · exact he j h1 h'
      · obtain rfl : j = k := by omega
        exact hee e0
    · have hlt' : ¬ (k : Int) < l.length := by omega
      simp (disch := first | omega | exact okFill_t rfl | exact okSize_t rfl | exact fun h => h | (simp only [World.size_alloc, World.size_drew, World.size_setCell, size_fill, bytesW]; omega)) only [go_sem, ↓reduceIte, reduceCtorEq, Nat.reduceBEq, Nat.reduceEqDiff, Nat.reduceAdd, Nat.reduceMul, Int.reduceNe, Int.reduceEq, Int.reduceLT, Int.reduceLE, Int.reduceNeg, Int.reduceAdd, Int.reduceSub, Int.reduceMul, Int.reduceToNat, beq_self_eq_true, c21, c21S0, c21S1, c21S2, c21S3, c21S4, c21L0, c21S5, c21S6, c21S7, c21L1, c21S8, c21S9, c21S10, hlt']
      refine ⟨⟨⟨hp, (fun a h1 b h2 e => ?_), hto⟩, by omega⟩, b3⟩
      by_cases hid : a.ID = b.ID
      · rw [pair_id hp a h1 b h2 hid]
      · obtain ⟨j, hj, rfl⟩ := List.mem_iff_getElem.1 h2
        exact he j hj (by omega) a h1 hid e
end Go.Proofs.Ytbeoedgoikcbpaa.Cut
namespace Go.Proofs.Ytbeoedgoikcbpaa.Cut
set_option linter.unusedSimpArgs false
set_option linter.unusedVariables false
set_option maxRecDepth 100000
open Go Go.Ann Go.RowKit
/-- No part of it is ahead of all that follows. -/
def NoCut (l : List OpT) : Prop := ∀ p o q, l = p ++ o :: q → p ≠ [] → p.all (fun x => before x o) = false
structure Cutting (acc : List Seg) : Prop where
  apart : acc.Pairwise fun s t => ∀ x ∈ s.ops, ∀ y ∈ t.ops, before x y = true
  one : ∀ s ∈ acc, NoCut s.ops
theorem before_later {x o y : OpT} (h : before x o = true) (hy : o.Invoke ≤ y.Invoke) : before x y = true := by
  unfold before at *
  rw [Bool.and_eq_true, decide_eq_true_eq] at *
  exact ⟨h.1, by omega⟩
theorem noCut_single (o : OpT) : NoCut [o] := fun p x q h hp => by
  cases p with
  | nil => exact absurd rfl hp
  | cons a p => cases p <;> simp at h
theorem noCut_snoc {l : List OpT} {o : OpT} (h : NoCut l) (ho : l.all (fun x => before x o) = false) : NoCut (l ++ [o]) := fun p x q e hp => by
  rcases List.eq_nil_or_concat q with rfl | ⟨q', z, rfl⟩
  · have e' := List.append_inj' e rfl
    obtain ⟨rfl, e2⟩ := e'
    simp only [List.cons.injEq, and_true] at e2
    subst e2; exact ho
  · rw [List.concat_eq_append, ← List.cons_append, ← List.append_assoc] at e
    have e' := List.append_inj' e rfl
    exact h p x q' e'.1 hp
theorem Cutting.step {mk : OpT → Int × Int} {acc : List Seg} (h : Cutting acc) (hne : ∀ s ∈ acc, s.ops ≠ []) (o : OpT) (hle : ∀ x ∈ acc.flatMap Seg.ops, x.Invoke ≤ o.Invoke) : Cutting (cutStep segQ mk acc o) := by
  rcases List.eq_nil_or_concat acc with rfl | ⟨ini, s, he⟩
  · rw [cutStep_nil]
    exact ⟨List.pairwise_singleton _ _, fun s hs => by rw [List.mem_singleton.1 hs]; exact noCut_single o⟩
  · rw [List.concat_eq_append] at he
    subst he
    have hap := List.pairwise_append.1 h.apart
    obtain ⟨y, hy⟩ := List.exists_mem_of_ne_nil _ (hne s (by simp))
    have hyo : y.Invoke ≤ o.Invoke := hle y (List.mem_flatMap.2 ⟨s, by simp, hy⟩)
    have far : ∀ a ∈ ini, ∀ x ∈ a.ops, before x o = true := fun a ha x hx => before_later (hap.2.2 a ha s (by simp) x hx y hy) hyo
    cases hq : segQ s o with
    | true =>
      rw [cutStep_new mk ini hq]
      refine ⟨?_, fun t ht => ?_⟩
      · rw [List.pairwise_append]
        refine ⟨h.apart, List.pairwise_singleton _ _, fun a ha b hb x hx z hz => ?_⟩
        rw [List.mem_singleton] at hb; subst hb
        simp only [List.mem_singleton] at hz; subst hz
        rcases List.mem_append.1 ha with ha | ha
        · exact far a ha x hx
        · rw [List.mem_singleton] at ha; subst ha
          unfold segQ at hq
          rw [List.all_eq_true] at hq
          exact hq x hx
      · rcases List.mem_append.1 ht with ht | ht
        · exact h.one t ht
        · rw [List.mem_singleton] at ht; subst ht
          exact noCut_single o
    | false =>
      rw [cutStep_old mk ini hq]
      refine ⟨?_, fun t ht => ?_⟩
      · rw [List.pairwise_append]
        refine ⟨hap.1, List.pairwise_singleton _ _, fun a ha b hb x hx z hz => ?_⟩
        rw [List.mem_singleton] at hb; subst hb
        simp only at hz
        rcases List.mem_append.1 hz with hz | hz
        · exact hap.2.2 a ha s (by simp) x hx z hz
        · rw [List.mem_singleton] at hz; subst hz
          exact far a ha x hx
      · rcases List.mem_append.1 ht with ht | ht
        · exact h.one t (List.mem_append_left _ ht)
        · rw [List.mem_singleton] at ht; subst ht
          exact noCut_snoc (h.one s (by simp)) hq
theorem cutting_fold (mk : OpT → Int × Int) : ∀ (b : List OpT) (acc : List Seg), Cutting acc → (∀ s ∈ acc, s.ops ≠ []) → (acc.flatMap Seg.ops ++ b).Pairwise (fun x y => x.Invoke ≤ y.Invoke) → Cutting (b.foldl (cutStep segQ mk) acc)
  | [], acc, h, _, _ => h
  | o :: b, acc, h, hne, hp => by
    rw [List.foldl_cons]
    refine cutting_fold mk b _ (h.step hne o fun x hx => (List.pairwise_append.1 hp).2.2 x hx o List.mem_cons_self) (cutStep_ne segQ mk acc o hne) ?_
    rw [cutStep_flat, List.append_assoc]
    exact hp
theorem cutting {l : List OpT} (h : l.Pairwise fun a b => ¬ earI b a < 0) (mk : OpT → Int × Int) : Cutting (l.foldl (cutStep segQ mk) []) :=
  cutting_fold mk l [] ⟨List.Pairwise.nil, fun s h => by cases h⟩ (fun s h => by cases h) (by
    rw [List.flatMap_nil, List.nil_append]
    exact h.imp fun {a b} e => by rw [ear_neg] at e; omega)
theorem noCut_fold {l : List OpT} (h : NoCut l) (p : Int × Int) : ∀ n, n < l.length → (l.take (n + 1)).foldl (cutStep segQ fun _ => p) [] = [⟨p.1, p.2, l.take (n + 1)⟩]
  | 0, hn => by
    rw [List.take_succ_eq_append_getElem hn, List.take_zero]; rfl
  | n + 1, hn => by
    rw [List.take_succ_eq_append_getElem hn, List.foldl_append, noCut_fold h p n (by omega)]
    have hq : segQ ⟨p.1, p.2, l.take (n + 1)⟩ l[n + 1] = false := by
      refine h (l.take (n + 1)) l[n + 1] (l.drop (n + 2)) ?_ ?_
      · rw [← List.drop_eq_getElem_cons hn, List.take_append_drop]
      · intro e
        have := congrArg List.length e
        rw [List.length_take, List.length_nil] at this
        omega
    exact cutStep_old (fun _ => p) [] hq
theorem noCut_one {l : List OpT} (h : NoCut l) (hl : l ≠ []) (p : Int × Int) : l.foldl (cutStep segQ fun _ => p) [] = [⟨p.1, p.2, l⟩] := by
  have := List.length_pos_iff.2 hl
  have e := noCut_fold h p (l.length - 1) (by omega)
  rw [show l.length - 1 + 1 = l.length by omega, List.take_length] at e
  exact e
theorem seg_sub : ∀ {acc : List Seg} {s : Seg}, s ∈ acc → s.ops.Sublist (acc.flatMap Seg.ops)
  | a :: l, s, h => by
    rw [List.flatMap_cons]
    rcases List.mem_cons.1 h with rfl | h
    · exact List.sublist_append_left _ _
    · exact (seg_sub h).trans (List.sublist_append_right _ _)
/-- What is known of the objects. -/
theorem objects_sorted {l : List OpT} {acc : List Seg} (h : ByObj l acc) (hp : Pure l) {s : Seg} (hs : s ∈ acc) : s.ops.Pairwise (fun a b => ¬ earI b a < 0) ∧ Pure s.ops ∧ ∀ o ∈ s.ops, o ∈ l ∧ o.Object = s.obj := by
  have hm : ∀ o ∈ s.ops, o ∈ l ∧ o.Object = s.obj := fun o ho => by
    have := (h.sorts s hs).1.mem_iff.1 ho
    unfold ofObj at this
    rw [List.mem_filter, decide_eq_true_eq] at this
    exact this
  exact ⟨(h.sorts s hs).2, fun a ha b hb => hp a (hm a ha).1 b (hm b hb).1, hm⟩
theorem sorts_self {l r : List OpT} (hp : Pure l) (hs : l.Pairwise fun a b => ¬ earI b a < 0) (h : Sorts earI l r) : r = l := sorts_unique hp h ⟨List.Perm.refl _, hs⟩
end Go.Proofs.Ytbeoedgoikcbpaa.Cut
namespace Go.Proofs.Ytbeoedgoikcbpaa
set_option linter.unusedSimpArgs false
set_option linter.unusedVariables false
set_option maxRecDepth 100000
open Go Go.Ann Go.RowKit
theorem rch_good {K : Int} {M : Nat} {l : List OpT} (hK : ∀ o ∈ l, o.Kind = K) (hw : ∀ o ∈ l, o.wf) {p q : Spot} (h : Rch l p q) (hp : Good K M l.length p) : Good K M l.length q := by
  induction h with
  | refl => exact hp
  | step _ hs ih =>
    obtain ⟨k, hk, hr⟩ := nextL_iff.1 hs
    obtain ⟨o, ho, hm, hst, e⟩ := newAt_iff.1 hr
    obtain ⟨hk', rfl⟩ := List.getElem?_eq_some_iff.1 ho
    have := ih.go hk' hK hw hm hst
    rw [← e] at this
    exact this
/-- The states behind the operations of pre, in order, each once. -/
structure Chain (pre : List OpT) (s0 : List Int) (E : List (List Int)) : Prop where
  up : E.Pairwise fun a b => ltS a b = true
  mem : ∀ t, t ∈ E ↔ Exit pre s0 t
theorem exit_nil {s t : List Int} : Exit [] s t ↔ t = s := by
  unfold Exit
  constructor
  · rintro ⟨d, h, _⟩
    rcases h.cases_head with h | ⟨r, hr, _⟩
    · simp only [List.length_nil, List.replicate_zero, Prod.mk.injEq] at h
      exact h.2.symm
    · simp [nextL] at hr
  · rintro rfl
    exact ⟨[], .refl _, rfl⟩
theorem Chain.start (s0 : List Int) : Chain [] s0 [s0] := ⟨by simp, fun t => by rw [exit_nil, List.mem_singleton]⟩
theorem Chain.one {pre : List OpT} {s0 : List Int} {E E' : List (List Int)} (h : Chain pre s0 E) (k : Chain pre s0 E') : E = E' := uniq_one h.up k.up fun t => (h.mem t).trans (k.mem t).symm
theorem start_mem {n : Nat} {E U0 : List (List Int)} (hU : Uniq E U0) (p : Spot) : p ∈ startP n U0 ↔ ∃ u ∈ E, p = (List.replicate n false, u) := by
  unfold startP
  rw [List.mem_map]
  constructor
  · rintro ⟨t, ht, e⟩; exact ⟨t, (hU.2 t).1 ht, e.symm⟩
  · rintro ⟨u, hu, rfl⟩; exact ⟨u, (hU.2 u).2 hu, rfl⟩
theorem Chain.step {pre b : List OpT} {s0 : List Int} {E U0 X : List (List Int)} {T : List Spot} {bud : Int} (h : Chain pre s0 E) (hab : Apart pre b) (hd : ∀ x ∈ pre, x.Done = true) (hU : Uniq E U0) (hR : SearchR b (startP b.length U0) bud (some T)) (hX : Uniq ((T.filter fun p => fullP b p.1).map Prod.snd) X) : Chain (pre ++ b) s0 X := by
  refine ⟨hX.1, fun t => ?_⟩
  rw [exits_mem hX, Exit.app hab hd]
  constructor
  · rintro ⟨d, h1, h2⟩
    obtain ⟨p, hp, hr⟩ := (closed_mem hR.1 _).1 h1
    obtain ⟨u, hu, rfl⟩ := (start_mem hU p).1 hp
    exact ⟨u, (h.mem u).1 hu, d, hr, h2⟩
  · rintro ⟨u, h1, d, h2, h3⟩
    exact ⟨d, (closed_mem hR.1 _).2 ⟨_, (start_mem hU _).2 ⟨u, (h.mem u).2 h1, rfl⟩, h2⟩, h3⟩
theorem Chain.good {pre : List OpT} {s0 : List Int} {E : List (List Int)} {K : Int} {M : Nat} (h : Chain pre s0 E) (hK : ∀ o ∈ pre, o.Kind = K) (hw : ∀ o ∈ pre, o.wf) (h0 : Good K M pre.length (List.replicate pre.length false, s0)) {t : List Int} (ht : t ∈ E) : Ok64 t ∧ t.length ≤ M + pre.length ∧ (K = 5 → t.Pairwise (· < ·)) := by
  obtain ⟨d, h1, _⟩ := (h.mem t).1 ht
  have g := rch_good hK hw h1 h0
  refine ⟨g.ok, ?_, g.ris⟩
  have h2 := g.sz
  have h3 := List.count_le_length (a := true) (l := d)
  have h4 := g.len
  simp only at h2 h4
  omega
theorem inj_nodup {α β : Type} {f : α → β} (hf : ∀ a b, f a = f b → a = b) : ∀ {l : List α}, l.Nodup → (l.map f).Nodup
  | [], _ => by simp
  | a :: l, h => by
    obtain ⟨h1, h2⟩ := List.nodup_cons.1 h
    rw [List.map_cons]
    refine List.nodup_cons.2 ⟨fun hm => ?_, inj_nodup hf h2⟩
    obtain ⟨b, hb, e⟩ := List.mem_map.1 hm
    exact h1 (hf _ _ e ▸ hb)
theorem Chain.few {pre b : List OpT} {s0 : List Int} {E U0 : List (List Int)} (h : Chain pre s0 E) (hab : Apart pre b) (hd : ∀ x ∈ pre, x.Done = true) (hU : Uniq E U0) (hl : (pre ++ b).length ≤ 7) (N : Nat) : (bfsN b (startP b.length U0) N).length ≤ 13700 := by
  have und : undone (List.replicate (pre ++ b).length false) ≤ (pre ++ b).length := by
    unfold undone
    have := List.count_le_length (a := false) (l := List.replicate (pre ++ b).length false)
    rwa [List.length_replicate] at this
  have hp : ∀ m, m ≤ 7 → pth m ≤ 13700 := by decide
  have h1 := allP_len (l := pre ++ b) (m := (pre ++ b).length) (p := (List.replicate (pre ++ b).length false, s0)) (by simp) und
  have h2 := hp _ hl
  have nd := inj_nodup (f := fun q : Spot => ((List.replicate pre.length true ++ q.1, q.2) : Spot)) (fun a c e => by
    simp only [Prod.mk.injEq, List.append_cancel_left_eq] at e
    exact Prod.ext e.1 e.2) (bfsN_nodup (startP_nodup (n := b.length) hU) N (l := b))
  have h3 := nodup_le nd (l := allP (pre ++ b) (pre ++ b).length (List.replicate (pre ++ b).length false, s0)) fun q hq => by
    obtain ⟨r, hr, rfl⟩ := List.mem_map.1 hq
    obtain ⟨p, hp, hpr⟩ := bfsN_rch N r hr
    obtain ⟨u, hu, rfl⟩ := (start_mem hU p).1 hp
    obtain ⟨d1, h4, f1⟩ := (h.mem u).1 hu
    have hl1 : d1.length = pre.length := by have := h4.len; simpa using this
    rw [fullP_done hl1 hd] at f1
    have eT := all_T f1
    rw [hl1] at eT
    subst eT
    refine (allP_mem (by simp) und).2 ?_
    rw [List.length_append, ← List.replicate_append_replicate]
    exact (h4.first hab (by simp) _).trans (hpr.second hab)
  rw [List.length_map] at h3
  omega
/-- What the cutting gives: each segment apart from all that is ahead of it. -/
theorem cut_apart {acc : List Seg} (hc : Cut.Cutting acc) (ht : ∀ s ∈ acc, ∀ o ∈ s.ops, Cut.TimeOk o) (hsort : (acc.flatMap Seg.ops).Pairwise fun a b => a.Invoke ≤ b.Invoke) {k : Nat} (hk : k < acc.length) :
    Apart ((acc.take k).flatMap Seg.ops) acc[k].ops ∧ (acc[k].ops ≠ [] → ∀ x ∈ (acc.take k).flatMap Seg.ops, x.Done = true) := by
  have up : ∀ x ∈ (acc.take k).flatMap Seg.ops, ∀ y ∈ acc[k].ops, before x y = true := fun x hx y hy => by
    obtain ⟨s, hs, hxs⟩ := List.mem_flatMap.1 hx
    obtain ⟨i, hi, rfl⟩ := List.mem_iff_getElem.1 hs
    rw [List.length_take] at hi
    rw [List.getElem_take] at hxs
    exact List.pairwise_iff_getElem.1 hc.apart i k (by omega) hk (by omega) x hxs y hy
  refine ⟨⟨up, fun x hx y hy => ?_⟩, fun hne x hx => ?_⟩
  · have h1 := up x hx y hy
    unfold before at h1 ⊢
    rw [Bool.and_eq_true, decide_eq_true_eq] at h1
    cases hyd : y.Done with
    | false => rfl
    | true =>
      have h2 := ht _ (List.getElem_mem hk) y hy hyd
      obtain ⟨s, hs, hxs⟩ := List.mem_flatMap.1 hx
      have h3 := ht s (List.mem_of_mem_take hs) x hxs h1.1
      rw [Bool.true_and, decide_eq_false_iff_not]
      omega
  · obtain ⟨y, hy⟩ := List.exists_mem_of_ne_nil _ hne
    have h1 := up x hx y hy
    unfold before at h1
    rw [Bool.and_eq_true] at h1
    exact h1.1
/-- The state that all begins with. -/
def firstP (k : Int) : List Int := if k = 1 ∨ k = 2 then [0] else []
theorem rfirst_ok (k : Int) (w : World) : Ret Try.prog 23 [.int .i64 k] w fun u w' => (RdS w' 1 intE u (firstP k) ∧ ∀ j, slFoot u j → w.heap.size ≤ j) ∧ Below w.heap.size w w' := by
  refine ent23 _ _ _ ?_
  by_cases h : k = 1 ∨ k = 2
  · have e : firstP k = [0] := if_pos h
    rw [e]
    have fin : ∀ {K : Value → World → Prop}, K (.slice (some ⟨w.heap.size, 0, none⟩) 1 1) (w.alloc (.cells #[.int .i64 0] 3)) → bsW Try.prog 36 1 [0] [.int .i64 0] w K := fun hK => bsW_ones ty36mkI rfl rfl (by decide) (by decide) (intE_one 0) hK
    have res : (RdS (w.alloc (.cells #[.int .i64 0] 3)) 1 intE (.slice (some ⟨w.heap.size, 0, none⟩) 1 1) [0] ∧ ∀ j, slFoot (.slice (some ⟨w.heap.size, 0, none⟩) 1 1) j → w.heap.size ≤ j) ∧ Below w.heap.size w (w.alloc (.cells #[.int .i64 0] 3)) := by
      refine ⟨⟨rd_new (sz := 1) (n := 1) rfl, fun j hj => ?_⟩, (Below.refl _ _).alloc (Nat.le_refl _) _⟩
      have := slFoot_own hj
      simp only [Value.ownBlock, Option.some.injEq] at this
      omega
    rcases h with rfl | rfl
    · simp (disch := first | omega | exact okFill_t rfl | exact okSize_t rfl | exact fun h => h | (simp only [World.size_alloc, World.size_drew, World.size_setCell, size_fill, bytesW]; omega)) only [go_sem, ↓reduceIte, reduceCtorEq, Nat.reduceBEq, Nat.reduceEqDiff, Nat.reduceAdd, Nat.reduceMul, Int.reduceNe, Int.reduceEq, Int.reduceLT, Int.reduceLE, Int.reduceNeg, Int.reduceAdd, Int.reduceSub, Int.reduceMul, Int.reduceToNat, beq_self_eq_true, c23, c23S0]
      refine fin ?_
      simp (disch := first | omega | exact okFill_t rfl | exact okSize_t rfl | exact fun h => h | (simp only [World.size_alloc, World.size_drew, World.size_setCell, size_fill, bytesW]; omega)) only [go_sem, ↓reduceIte, reduceCtorEq, Nat.reduceBEq, Nat.reduceEqDiff, Nat.reduceAdd, Nat.reduceMul, Int.reduceNe, Int.reduceEq, Int.reduceLT, Int.reduceLE, Int.reduceNeg, Int.reduceAdd, Int.reduceSub, Int.reduceMul, Int.reduceToNat, beq_self_eq_true, c23, c23S0]
      exact res
    · simp (disch := first | omega | exact okFill_t rfl | exact okSize_t rfl | exact fun h => h | (simp only [World.size_alloc, World.size_drew, World.size_setCell, size_fill, bytesW]; omega)) only [go_sem, ↓reduceIte, reduceCtorEq, Nat.reduceBEq, Nat.reduceEqDiff, Nat.reduceAdd, Nat.reduceMul, Int.reduceNe, Int.reduceEq, Int.reduceLT, Int.reduceLE, Int.reduceNeg, Int.reduceAdd, Int.reduceSub, Int.reduceMul, Int.reduceToNat, beq_self_eq_true, c23, c23S0]
      refine fin ?_
      simp (disch := first | omega | exact okFill_t rfl | exact okSize_t rfl | exact fun h => h | (simp only [World.size_alloc, World.size_drew, World.size_setCell, size_fill, bytesW]; omega)) only [go_sem, ↓reduceIte, reduceCtorEq, Nat.reduceBEq, Nat.reduceEqDiff, Nat.reduceAdd, Nat.reduceMul, Int.reduceNe, Int.reduceEq, Int.reduceLT, Int.reduceLE, Int.reduceNeg, Int.reduceAdd, Int.reduceSub, Int.reduceMul, Int.reduceToNat, beq_self_eq_true, c23, c23S0]
      exact res
  · have e : firstP k = [] := if_neg h
    rw [e]
    have h1 : ¬ k = 1 := fun e => h (.inl e)
    have h2 : ¬ k = 2 := fun e => h (.inr e)
    simp (disch := first | omega | exact okFill_t rfl | exact okSize_t rfl | exact fun h => h | (simp only [World.size_alloc, World.size_drew, World.size_setCell, size_fill, bytesW]; omega)) only [go_sem, ↓reduceIte, reduceCtorEq, Nat.reduceBEq, Nat.reduceEqDiff, Nat.reduceAdd, Nat.reduceMul, Int.reduceNe, Int.reduceEq, Int.reduceLT, Int.reduceLE, Int.reduceNeg, Int.reduceAdd, Int.reduceSub, Int.reduceMul, Int.reduceToNat, beq_self_eq_true, c23, c23S0, h1, h2]
    refine ⟨⟨⟨by simp, none, 0, rfl, Nat.le_refl _, fun h => absurd rfl h⟩, fun j hj => ?_⟩, Below.refl _ _⟩
    have := slFoot_own hj
    simp [Value.ownBlock] at this
end Go.Proofs.Ytbeoedgoikcbpaa
namespace Go.Proofs.Ytbeoedgoikcbpaa
set_option linter.unusedSimpArgs false
set_option linter.unusedVariables false
set_option maxRecDepth 100000
open Go Go.Ann Go.RowKit Go.WideShapes
theorem good0 (K : Int) (n : Nat) : Good K 1 n (List.replicate n false, firstP K) := by
  refine ⟨by simp, ?_, ?_, ?_⟩
  · show Ok64 (firstP K)
    unfold firstP
    split
    · intro x hx; rw [List.mem_singleton] at hx; subst hx; constructor <;> decide
    · intro x hx; cases hx
  · show (firstP K).length ≤ _
    unfold firstP
    split <;> simp
  · show K = 5 → (firstP K).Pairwise _
    unfold firstP
    split <;> simp
theorem chain_rest {w wF : World} {l : List OpT} {z : Nat} {ya xa ea : Option Addr} {yn yc xn xc ec : Nat} {nn ue : Int} {A U0 : List (List Int)} {T : List Spot} {E : List VS} {v3 v4 : Value} {Q : Post}
    (s : St w wF (fun _ => False) [.blk z #[.slice ya yn yc, .slice xa xn xc, .int .i64 nn] 27] []) (hV : SearchV wF l A U0 (some T) (.tuple #[.agg #[.slice ya yn yc, .slice xa xn xc, .int .i64 nn], .int .i64 ue])) (hE : RowS wF (.slice ea E.length ec) E)
    (one : ∀ {Y : List (List Int)}, Uniq ((T.filter fun p => fullP l p.1).map Prod.snd) Y → Y = E.map Prod.snd) (lenE : E.length ≤ 32768) (lT : (T.length : Int) ≤ 32768) (okT : ∀ p ∈ T, p.2.length ≤ 1000000) (hQ : ∀ w', Below wF.heap.size wF w' → Q .normal [(3, v3), (4, v4)] w') :
    W Try.prog (sg c8S7) [(3, v3), (4, v4), (5, .slice ea E.length ec), (10, .pointer (some ⟨z, 0, none⟩)), (11, .int .i64 ue)] wF Q := by
  obtain ⟨rfl, rfl, _, Y, _, _, hY, eY⟩ := SearchV.some hV
  have r := s.rules 0 rfl
  have e := one eY
  have lY := Uniq.len eY
  have okY : ∀ p ∈ Y, p.2.length ≤ 1000000 := fun p hp => by
    obtain ⟨d, h1, _⟩ := (exits_mem eY p.2).1 (List.mem_map.2 ⟨p, hp, rfl⟩)
    exact okT _ h1
  simp (disch := first | omega | exact okFill_t rfl | exact okSize_t rfl | exact fun h => h | (simp only [World.size_alloc, World.size_drew, World.size_setCell, size_fill, bytesW]; omega)) only [go_sem, ↓reduceIte, reduceCtorEq, Nat.reduceBEq, Nat.reduceEqDiff, Nat.reduceAdd, Nat.reduceMul, Int.reduceNe, Int.reduceEq, Int.reduceLT, Int.reduceLE, Int.reduceNeg, Int.reduceAdd, Int.reduceSub, Int.reduceMul, Int.reduceToNat, beq_self_eq_true, c8, c8S0, c8S1, c8S2, c8S3, c8S4, c8S5, c8L0, c8S6, c8S7, c8S8, c8S9, c8S10, c8S11, c8S12, c8S13, c8L1, c8S14, c8S15, c8S16, c8S17, r]
  refine Ret.mono (states_ok _ _ Y E wF hY hE okY (by omega)) ?_
  rintro _ w2 ⟨rfl, b2⟩
  rw [decide_eq_true e]
  simp (disch := first | omega | exact okFill_t rfl | exact okSize_t rfl | exact fun h => h | (simp only [World.size_alloc, World.size_drew, World.size_setCell, size_fill, bytesW]; omega)) only [go_sem, ↓reduceIte, reduceCtorEq, Nat.reduceBEq, Nat.reduceEqDiff, Nat.reduceAdd, Nat.reduceMul, Int.reduceNe, Int.reduceEq, Int.reduceLT, Int.reduceLE, Int.reduceNeg, Int.reduceAdd, Int.reduceSub, Int.reduceMul, Int.reduceToNat, beq_self_eq_true, c8, c8S0, c8S1, c8S2, c8S3, c8S4, c8S5, c8L0, c8S6, c8S7, c8S8, c8S9, c8S10, c8S11, c8S12, c8S13, c8L1, c8S14, c8S15, c8S16, c8S17]
  exact hQ w2 b2
theorem linChains_ok {w : World} {v : Value} {l : List OpT} (h : RdS w 11 OpT.enc v l) (hl : (l.length : Int) ≤ 9223372036854775807) (hw : ∀ o ∈ l, o.wf) :
    Ret Try.prog 8 [v] w fun u w' => u = .bool true ∧ Below w.heap.size w w' := by
  obtain ⟨a, c, rfl, _⟩ := h.form
  refine ent8 _ _ _ ?_
  simp (disch := first | omega | exact okFill_t rfl | exact okSize_t rfl | exact fun h => h | (simp only [World.size_alloc, World.size_drew, World.size_setCell, size_fill, bytesW]; omega)) only [go_sem, ↓reduceIte, reduceCtorEq, Nat.reduceBEq, Nat.reduceEqDiff, Nat.reduceAdd, Nat.reduceMul, Int.reduceNe, Int.reduceEq, Int.reduceLT, Int.reduceLE, Int.reduceNeg, Int.reduceAdd, Int.reduceSub, Int.reduceMul, Int.reduceToNat, beq_self_eq_true, c8, c8S0, c8S1, c8S2, c8S3, c8S4, c8S5, c8L0, c8S6, c8S7, c8S8, c8S9, c8S10, c8S11, c8S12, c8S13, c8L1, c8S14, c8S15, c8S16, c8S17]
  refine ⟨fun hle => Ret.mono (Cut.check_ok _ l _ h (by omega)) ?_, fun hgt => Ret.mono (awake_ok _) ?_⟩
  rotate_left
  · rintro _ w2 ⟨rfl, b2⟩
    simp (disch := first | omega | exact okFill_t rfl | exact okSize_t rfl | exact fun h => h | (simp only [World.size_alloc, World.size_drew, World.size_setCell, size_fill, bytesW]; omega)) only [go_sem, ↓reduceIte, reduceCtorEq, Nat.reduceBEq, Nat.reduceEqDiff, Nat.reduceAdd, Nat.reduceMul, Int.reduceNe, Int.reduceEq, Int.reduceLT, Int.reduceLE, Int.reduceNeg, Int.reduceAdd, Int.reduceSub, Int.reduceMul, Int.reduceToNat, beq_self_eq_true, c8, c8S0, c8S1, c8S2, c8S3, c8S4, c8S5, c8L0, c8S6, c8S7, c8S8, c8S9, c8S10, c8S11, c8S12, c8S13, c8L1, c8S14, c8S15, c8S16, c8S17]
    exact b2
  · rintro _ w2 ⟨⟨e, rfl, he⟩, b2⟩
    simp (disch := first | omega | exact okFill_t rfl | exact okSize_t rfl | exact fun h => h | (simp only [World.size_alloc, World.size_drew, World.size_setCell, size_fill, bytesW]; omega)) only [go_sem, ↓reduceIte, reduceCtorEq, Nat.reduceBEq, Nat.reduceEqDiff, Nat.reduceAdd, Nat.reduceMul, Int.reduceNe, Int.reduceEq, Int.reduceLT, Int.reduceLE, Int.reduceNeg, Int.reduceAdd, Int.reduceSub, Int.reduceMul, Int.reduceToNat, beq_self_eq_true, c8, c8S0, c8S1, c8S2, c8S3, c8S4, c8S5, c8L0, c8S6, c8S7, c8S8, c8S9, c8S10, c8S11, c8S12, c8S13, c8L1, c8S14, c8S15, c8S16, c8S17]
    refine ⟨fun e0 => Ret.mono (awake_ok _) ?_, fun e0 => ?_⟩
    · rintro _ w3 ⟨rfl, b3⟩
      simp (disch := first | omega | exact okFill_t rfl | exact okSize_t rfl | exact fun h => h | (simp only [World.size_alloc, World.size_drew, World.size_setCell, size_fill, bytesW]; omega)) only [go_sem, ↓reduceIte, reduceCtorEq, Nat.reduceBEq, Nat.reduceEqDiff, Nat.reduceAdd, Nat.reduceMul, Int.reduceNe, Int.reduceEq, Int.reduceLT, Int.reduceLE, Int.reduceNeg, Int.reduceAdd, Int.reduceSub, Int.reduceMul, Int.reduceToNat, beq_self_eq_true, c8, c8S0, c8S1, c8S2, c8S3, c8S4, c8S5, c8L0, c8S6, c8S7, c8S8, c8S9, c8S10, c8S11, c8S12, c8S13, c8L1, c8S14, c8S15, c8S16, c8S17]
      exact Below.next b2 b3
    obtain ⟨hist, h64⟩ := he e0
    have hpure := Cut.pair_id hist.1
    refine Ret.mono (Cut.robjects_ok _ _ _ (h.below b2 (by decide)) (by omega)) ?_
    rintro v3 w3 ⟨⟨acc, hby, hr3⟩, b3⟩
    have b03 := Below.next b2 b3
    obtain ⟨pa, ca, rfl, _⟩ := hr3.form
    simp (disch := first | omega | exact okFill_t rfl | exact okSize_t rfl | exact fun h => h | (simp only [World.size_alloc, World.size_drew, World.size_setCell, size_fill, bytesW]; omega)) only [go_sem, ↓reduceIte, reduceCtorEq, Nat.reduceBEq, Nat.reduceEqDiff, Nat.reduceAdd, Nat.reduceMul, Int.reduceNe, Int.reduceEq, Int.reduceLT, Int.reduceLE, Int.reduceNeg, Int.reduceAdd, Int.reduceSub, Int.reduceMul, Int.reduceToNat, beq_self_eq_true, c8, c8S0, c8S1, c8S2, c8S3, c8S4, c8S5, c8L0, c8S6, c8S7, c8S8, c8S9, c8S10, c8S11, c8S12, c8S13, c8L1, c8S14, c8S15, c8S16, c8S17]
    have hal : acc.length ≤ 64 := by
      have nd : (acc.map Seg.obj).Nodup := List.pairwise_map.2 (hby.up.imp fun {a b} h => by omega)
      have h1 := nodup_le nd (l := l.map OpT.Object) fun x hx => by
        obtain ⟨s, hs, rfl⟩ := List.mem_map.1 hx
        obtain ⟨o, r, e, _⟩ := hby.kind s hs
        obtain ⟨_, _, hm⟩ := Cut.objects_sorted hby hpure hs
        obtain ⟨h1, h2⟩ := hm o (by rw [e]; simp)
        rw [← h2]
        exact List.mem_map.2 ⟨o, h1, rfl⟩
      simp only [List.length_map] at h1
      omega
    refine W_loopU (fun k : Nat => [(4, .int .i64 k)]) (fun k w' => Below w3.heap.size w3 w' ∧ k ≤ acc.length) (fun k => acc.length - k) 0 rfl ⟨Below.refl _ _, Nat.zero_le _⟩ ?_
    rintro i w4 ⟨b4, hi⟩
    have b04 := Below.next b03 b4
    by_cases hlt : i < acc.length
    · have hlt' : (i : Int) < acc.length := by omega
      obtain ⟨p, rfl⟩ := hr3.ptr (by omega)
      have hr4 := hr3.below b4 (by decide) fun x c => Cut.segR.below b4 x c
      obtain ⟨cc, hcl, ⟨va, rfl, hva, hla⟩, hld, ea⟩ := hr4.elt (by decide) hlt
      obtain ⟨oa, oc, rfl, _⟩ := hva.form
      obtain ⟨hso, hpo, hmo⟩ := Cut.objects_sorted hby hpure (List.getElem_mem hlt)
      have hkind : ∀ o ∈ acc[i].ops, o.Kind = acc[i].kind := fun o ho => by
        obtain ⟨x, r, e, ek⟩ := hby.kind _ (List.getElem_mem hlt)
        have hx := hmo x (by rw [e]; simp)
        have ho' := hmo o ho
        rw [ek]
        exact hist.2.1 o ho'.1 x hx.1 (ho'.2.trans hx.2.symm)
      have hwf : ∀ o ∈ acc[i].ops, o.wf := fun o ho => hw o (hmo o ho).1
      have htime : ∀ o ∈ acc[i].ops, Cut.TimeOk o := fun o ho => hist.2.2 o (hmo o ho).1
      generalize hX : acc[i] = X at *
      simp (disch := first | omega | exact okFill_t rfl | exact okSize_t rfl | exact fun h => h | (simp only [World.size_alloc, World.size_drew, World.size_setCell, size_fill, bytesW]; omega)) only [go_sem, ↓reduceIte, reduceCtorEq, Nat.reduceBEq, Nat.reduceEqDiff, Nat.reduceAdd, Nat.reduceMul, Int.reduceNe, Int.reduceEq, Int.reduceLT, Int.reduceLE, Int.reduceNeg, Int.reduceAdd, Int.reduceSub, Int.reduceMul, Int.reduceToNat, beq_self_eq_true, c8, c8S0, c8S1, c8S2, c8S3, c8S4, c8S5, c8L0, c8S6, c8S7, c8S8, c8S9, c8S10, c8S11, c8S12, c8S13, c8L1, c8S14, c8S15, c8S16, c8S17, hlt', ea, c8L1]
      refine ⟨by omega, fun h7 => ⟨⟨by omega, by omega⟩, i + 1, rfl, ⟨b4, by omega⟩, by omega⟩, fun h7 => ⟨by omega, ?_⟩⟩
      refine Ret.mono (rfirst_ok X.kind w4) ?_
      rintro sv w5 ⟨⟨hsv, _⟩, b5⟩
      obtain ⟨sa, sc, rfl, _⟩ := hsv.form
      simp (disch := first | omega | exact okFill_t rfl | exact okSize_t rfl | exact fun h => h | (simp only [World.size_alloc, World.size_drew, World.size_setCell, size_fill, bytesW]; omega)) only [go_sem, ↓reduceIte, reduceCtorEq, Nat.reduceBEq, Nat.reduceEqDiff, Nat.reduceAdd, Nat.reduceMul, Int.reduceNe, Int.reduceEq, Int.reduceLT, Int.reduceLE, Int.reduceNeg, Int.reduceAdd, Int.reduceSub, Int.reduceMul, Int.reduceToNat, beq_self_eq_true, c8, c8S0, c8S1, c8S2, c8S3, c8S4, c8S5, c8L0, c8S6, c8S7, c8S8, c8S9, c8S10, c8S11, c8S12, c8S13, c8L1, c8S14, c8S15, c8S16, c8S17]
      have ones : ∀ u ∈ [Value.slice sa (firstP X.kind).length sc], u.oneCell' = true := fun u hu => by rw [List.mem_singleton] at hu; subst hu; rfl
      refine bsW_ones ty25mkI rfl rfl (by decide) (by decide) ones ?_
      have hr6 := row1 (t := 36) hsv
      have b56 : Below w5.heap.size w5 (w5.alloc (.cells #[.slice sa (firstP X.kind).length sc] 36)) := (Below.refl _ _).alloc (Nat.le_refl _) _
      generalize w5.alloc (.cells #[.slice sa (firstP X.kind).length sc] 36) = w6 at hr6 b56 ⊢
      have b46 := Below.next b5 b56
      have hr36 := hr4.below b46 (by decide) fun x c => Cut.segR.below b46 x c
      obtain ⟨cc6, hcl6, ⟨va6, rfl, hva6, hla6⟩, hld6, ea6⟩ := hr36.elt (by decide) hlt
      rw [hX] at hva6 hla6 hld6
      obtain ⟨oa6, oc6, rfl, _⟩ := hva6.form
      simp (disch := first | omega | exact okFill_t rfl | exact okSize_t rfl | exact fun h => h | (simp only [World.size_alloc, World.size_drew, World.size_setCell, size_fill, bytesW]; omega)) only [go_sem, ↓reduceIte, reduceCtorEq, Nat.reduceBEq, Nat.reduceEqDiff, Nat.reduceAdd, Nat.reduceMul, Int.reduceNe, Int.reduceEq, Int.reduceLT, Int.reduceLE, Int.reduceNeg, Int.reduceAdd, Int.reduceSub, Int.reduceMul, Int.reduceToNat, beq_self_eq_true, c8, c8S0, c8S1, c8S2, c8S3, c8S4, c8S5, c8L0, c8S6, c8S7, c8S8, c8S9, c8S10, c8S11, c8S12, c8S13, c8L1, c8S14, c8S15, c8S16, c8S17, hld6]
      refine ⟨by omega, ?_⟩
      refine Ret.mono (Cut.rsegments_ok _ _ _ _ _ hva6 (by omega)) ?_
      rintro v7 w7 ⟨⟨r7, hs7, hr7⟩, b7⟩
      obtain rfl := Cut.sorts_self hpo hso hs7
      have hcut := Cut.cutting hso (fun _ => (X.obj, X.kind))
      have hfl : (X.ops.foldl (Cut.cutStep Cut.segQ fun _ => (X.obj, X.kind)) []).flatMap Seg.ops = X.ops := by rw [Cut.cut_flat]; rfl
      have hne7 := Cut.cut_ne Cut.segQ (fun _ => (X.obj, X.kind)) X.ops [] fun s hs => by cases hs
      have hr7' : RdR w7 3 Cut.segR v7 (X.ops.foldl (Cut.cutStep Cut.segQ fun _ => (X.obj, X.kind)) []) := hr7
      clear hr7 hs7
      generalize X.ops.foldl (Cut.cutStep Cut.segQ fun _ => (X.obj, X.kind)) [] = segs at hr7' hcut hfl hne7
      have hsl := Cut.segs_len segs hne7
      rw [hfl] at hsl
      have hsub : ∀ s ∈ segs, s.ops.Sublist X.ops := fun s hs => by rw [← hfl]; exact Cut.seg_sub hs
      have hinv : (segs.flatMap Seg.ops).Pairwise fun a b => a.Invoke ≤ b.Invoke := by
        rw [hfl]; exact hso.imp fun {a b} e => by rw [Cut.ear_neg] at e; omega
      have htm : ∀ s ∈ segs, ∀ o ∈ s.ops, Cut.TimeOk o := fun s hs o ho => htime o ((hsub s hs).subset ho)
      obtain ⟨ps, cs, rfl, _⟩ := hr7'.form
      have hch0 : Chain [] (firstP X.kind) [firstP X.kind] := Chain.start _
      simp (disch := first | omega | exact okFill_t rfl | exact okSize_t rfl | exact fun h => h | (simp only [World.size_alloc, World.size_drew, World.size_setCell, size_fill, bytesW]; omega)) only [go_sem, ↓reduceIte, reduceCtorEq, Nat.reduceBEq, Nat.reduceEqDiff, Nat.reduceAdd, Nat.reduceMul, Int.reduceNe, Int.reduceEq, Int.reduceLT, Int.reduceLE, Int.reduceNeg, Int.reduceAdd, Int.reduceSub, Int.reduceMul, Int.reduceToNat, beq_self_eq_true, c8, c8S0, c8S1, c8S2, c8S3, c8S4, c8S5, c8L0, c8S6, c8S7, c8S9, c8S10, c8S11, c8S12, c8S13, c8L1, c8S14, c8S15, c8S16, c8S17]
      refine W_loopU (fun x : Nat × Value × List VS => [(5, x.2.1), (7, .int .i64 x.1)]) (fun x w' => Below w7.heap.size w7 w' ∧ x.1 ≤ segs.length ∧ RowS w' x.2.1 x.2.2 ∧ x.2.2.length ≤ 32768 ∧ Chain ((segs.take x.1).flatMap Seg.ops) (firstP X.kind) (x.2.2.map Prod.snd)) (fun x => segs.length - x.1) (0, .slice (some ⟨w5.heap.size, 0, none⟩) 1 1, [(.slice sa (firstP X.kind).length sc, firstP X.kind)]) rfl ⟨Below.refl _ _, Nat.zero_le _, hr6.below b7, by simp, hch0⟩ ?_
      rintro ⟨k, ev, E⟩ w8 ⟨b8, hk, hE, hEl, hch⟩
      simp only at b8 hk hE hEl hch
      obtain ⟨ea', ec', rfl, _⟩ := hE.form
      have b48 := Below.next (Below.next b46 b7) b8
      by_cases hkl : k < segs.length
      · have hkl' : (k : Int) < segs.length := by omega
        obtain ⟨q, rfl⟩ := hr7'.ptr (by omega)
        have hr8 := hr7'.below b8 (by decide) fun x c => Cut.segR.below b8 x c
        obtain ⟨ck, hckl, ⟨vk, rfl, hvk, hlk⟩, hldk, ek⟩ := hr8.elt (by decide) hkl
        obtain ⟨ka, kc, rfl, _⟩ := hvk.form
        obtain ⟨hap, hdn⟩ := cut_apart hcut htm hinv hkl
        have hdn := hdn (hne7 _ (List.getElem_mem hkl))
        have eT : (segs.take (k + 1)).flatMap Seg.ops = (segs.take k).flatMap Seg.ops ++ segs[k].ops := by
          rw [List.take_succ_eq_append_getElem hkl, List.flatMap_append]; simp
        have hsubT : ((segs.take (k + 1)).flatMap Seg.ops).Sublist X.ops := by
          have e : X.ops = (segs.take (k + 1)).flatMap Seg.ops ++ (segs.drop (k + 1)).flatMap Seg.ops := by rw [← List.flatMap_append, List.take_append_drop, hfl]
          rw [e]
          exact List.sublist_append_left _ _
        rw [eT] at hsubT
        have hlT := hsubT.length_le
        simp (disch := first | omega | exact okFill_t rfl | exact okSize_t rfl | exact fun h => h | (simp only [World.size_alloc, World.size_drew, World.size_setCell, size_fill, bytesW]; omega)) only [go_sem, ↓reduceIte, reduceCtorEq, Nat.reduceBEq, Nat.reduceEqDiff, Nat.reduceAdd, Nat.reduceMul, Int.reduceNe, Int.reduceEq, Int.reduceLT, Int.reduceLE, Int.reduceNeg, Int.reduceAdd, Int.reduceSub, Int.reduceMul, Int.reduceToNat, beq_self_eq_true, c8, c8S0, c8S1, c8S2, c8S3, c8S4, c8S5, c8L0, c8S6, c8S7, c8S8, c8S9, c8S10, c8S11, c8S12, c8S13, c8L1, c8S14, c8S15, c8S16, c8S17, c8L0, hkl', hldk]
        refine ⟨by omega, ?_⟩
        have hpre : ∀ o ∈ (segs.take k).flatMap Seg.ops, o ∈ X.ops := fun o ho => hsubT.subset (List.mem_append_left _ ho)
        have hbk : ∀ o ∈ segs[k].ops, o ∈ X.ops := fun o ho => hsubT.subset (List.mem_append_right _ ho)
        have hlk2 := hlT
        rw [List.length_append] at hlk2
        refine Ret.mono (search_ok (K := X.kind) (M := 100) hvk (by omega) (fun o ho => hkind o (hbk o ho)) (fun o ho => hwf o (hbk o ho)) hE (by omega) (by decide) (fun p hp => ?_) (by constructor <;> decide)) ?_
        · obtain ⟨g1, g2, g3⟩ := hch.good (K := X.kind) (M := 1) (fun o ho => hkind o (hpre o ho)) (fun o ho => hwf o (hpre o ho)) (good0 _ _) (List.mem_map.2 ⟨p, hp, rfl⟩)
          exact ⟨g1, by omega, g3⟩
        rintro u w9 ⟨⟨U0, r, hU, hR, hV⟩, b9⟩
        have hR : SearchR segs[k].ops (startP segs[k].ops.length U0) 32768 r := hR
        obtain ⟨T, rfl⟩ : ∃ T, r = some T := by
          cases r with
          | some T => exact ⟨T, rfl⟩
          | none =>
            obtain ⟨N, hN⟩ := hR
            have := hch.few hap hdn hU (by omega) N
            omega
        obtain ⟨ya, yn, yc, xa, xn, xc, nn, ue, rfl, _⟩ := hV.form
        obtain ⟨rfl, rfl, V, Y, hV3, eV, hY3, eY⟩ := SearchV.some hV
        have s10 := (St.start (W0 := w9)).box #[.slice ya yn yc, .slice xa xn xc, .int .i64 T.length] 27
        simp (disch := first | omega | exact okFill_t rfl | exact okSize_t rfl | exact fun h => h | (simp only [World.size_alloc, World.size_drew, World.size_setCell, size_fill, bytesW]; omega)) only [go_sem, ↓reduceIte, reduceCtorEq, Nat.reduceBEq, Nat.reduceEqDiff, Nat.reduceAdd, Nat.reduceMul, Int.reduceNe, Int.reduceEq, Int.reduceLT, Int.reduceLE, Int.reduceNeg, Int.reduceAdd, Int.reduceSub, Int.reduceMul, Int.reduceToNat, beq_self_eq_true, c8, c8S0, c8S1, c8S2, c8S3, c8S4, c8S5, c8L0, c8S6, c8S7, c8S8, c8S9, c8S10, c8S11, c8S12, c8S13, c8L1, c8S14, c8S15, c8S16, c8S17]
        have hY10 := hY3.below s10.bel
        generalize w9.alloc (.cells #[.slice ya yn yc, .slice xa xn xc, .int .i64 T.length] 27) = w10 at s10 hY10 ⊢
        generalize hz : w9.heap.size = z9 at s10 ⊢
        have r10 := s10.rules 0 rfl
        have lY := Uniq.len eY
        have lT := hR.2
        refine ⟨⟨by omega, by omega⟩, (k + 1, .slice xa xn xc, Y), rfl, ⟨Below.next (Below.next b8 b9) s10.bel, by simp only; omega, hY10, by simp only; omega, ?_⟩, by simp only; omega⟩
        simp only
        rw [eT]
        exact hch.step hap hdn hU hR eY
      · have hkl' : ¬ (k : Int) < segs.length := by omega
        have hk' : k = segs.length := by omega
        subst hk'
        rw [List.take_length, hfl] at hch
        simp (disch := first | omega | exact okFill_t rfl | exact okSize_t rfl | exact fun h => h | (simp only [World.size_alloc, World.size_drew, World.size_setCell, size_fill, bytesW]; omega)) only [go_sem, ↓reduceIte, reduceCtorEq, Nat.reduceBEq, Nat.reduceEqDiff, Nat.reduceAdd, Nat.reduceMul, Int.reduceNe, Int.reduceEq, Int.reduceLT, Int.reduceLE, Int.reduceNeg, Int.reduceAdd, Int.reduceSub, Int.reduceMul, Int.reduceToNat, beq_self_eq_true, c8, c8S0, c8S1, c8S2, c8S3, c8S4, c8S5, c8L0, c8S6, c8S7, c8S9, c8S10, c8S11, c8S12, c8S13, c8L1, c8S14, c8S15, c8S16, c8S17, c8L0, hkl']
        have hr48 := hr4.below b48 (by decide) fun x c => Cut.segR.below b48 x c
        obtain ⟨cc8, hcl8, ⟨va8, rfl, hva8, hla8⟩, hld8, ea8⟩ := hr48.elt (by decide) hlt
        rw [hX] at hva8 hla8 hld8 ea8
        obtain ⟨oa8, oc8, rfl, _⟩ := hva8.form
        have lp : p.block < w8.heap.size := by
          have := World.block_lt_of_cell? w8 _ ea8.1
          rwa [add_block] at this
        simp (disch := first | omega | exact okFill_t rfl | exact okSize_t rfl | exact fun h => h | (simp only [World.size_alloc, World.size_drew, World.size_setCell, size_fill, bytesW]; omega)) only [go_sem, ↓reduceIte, reduceCtorEq, Nat.reduceBEq, Nat.reduceEqDiff, Nat.reduceAdd, Nat.reduceMul, Int.reduceNe, Int.reduceEq, Int.reduceLT, Int.reduceLE, Int.reduceNeg, Int.reduceAdd, Int.reduceSub, Int.reduceMul, Int.reduceToNat, beq_self_eq_true, c8, c8S0, c8S1, c8S2, c8S3, c8S4, c8S5, c8L0, c8S6, c8S7, c8S8, c8S9, c8S10, c8S11, c8S12, c8S13, c8L1, c8S14, c8S15, c8S16, c8S17]
        refine c8draw0 (Chg (fun _ => False) _) (Chg.refl _ _) ?_
        simp (disch := first | omega | exact okFill_t rfl | exact okSize_t rfl | exact fun h => h | (simp only [World.size_alloc, World.size_drew, World.size_setCell, size_fill, bytesW]; omega)) only [go_sem, ↓reduceIte, reduceCtorEq, Nat.reduceBEq, Nat.reduceEqDiff, Nat.reduceAdd, Nat.reduceMul, Int.reduceNe, Int.reduceEq, Int.reduceLT, Int.reduceLE, Int.reduceNeg, Int.reduceAdd, Int.reduceSub, Int.reduceMul, Int.reduceToNat, beq_self_eq_true, c8, c8S0, c8S1, c8S2, c8S3, c8S4, c8S5, c8L0, c8S6, c8S7, c8S8, c8S9, c8S10, c8S11, c8S12, c8S13, c8L1, c8S14, c8S15, c8S16, c8S17, c8D0, hld8, ea8]
        have hE8 : RowS w8.drew (.slice ea' E.length ec') E := hE.below (Below.refl _ _).drew
        have b08 : Below w4.heap.size w4 w8.drew := b48.drew
        have t0 := St.start (W0 := w8.drew)
        have hap : Apart [] X.ops := ⟨(fun x hx => by cases hx), (fun x hx => by cases hx)⟩
        have lenE : E.length ≤ 32768 := hEl
        have whole : ∀ {U0 Y : List (List Int)} {T : List Spot}, Uniq [firstP X.kind] U0 → SearchR X.ops (startP X.ops.length U0) 32768 (some T) → Uniq ((T.filter fun p => fullP X.ops p.1).map Prod.snd) Y → Y = E.map Prod.snd := fun hU hR hY =>
          Chain.one ((Chain.start _).step hap (fun x hx => by cases hx) hU hR hY) hch
        have okT : ∀ {U0 : List (List Int)} {T : List Spot}, Uniq [firstP X.kind] U0 → SearchR X.ops (startP X.ops.length U0) 32768 (some T) → ∀ p ∈ T, p.2.length ≤ 1000000 := fun hU hR p hp => by
          obtain ⟨q, hq, hr⟩ := (closed_mem hR.1 p).1 hp
          obtain ⟨u, hu, rfl⟩ := (start_mem hU q).1 hq
          rw [List.mem_singleton] at hu
          subst hu
          exact ((rch_good hkind hwf hr (good0 _ _)).okS (by omega)).2
        have search3 : ∀ {wS : World} {vS fv : Value}, Below w8.drew.heap.size w8.drew wS → RowS wS vS [(fv, firstP X.kind)] →
            Ret Try.prog 12 [.agg #[.int .i64 X.obj, .int .i64 X.kind, .slice oa8 X.ops.length oc8], vS, .int .i64 32768] wS fun u w' => (∃ U0 T, Uniq [firstP X.kind] U0 ∧ SearchR X.ops (startP X.ops.length U0) 32768 (some T) ∧ SearchF wS.heap.size w' X.ops [firstP X.kind] U0 (some T) u) ∧ Below wS.heap.size wS w' := fun {wS vS fv} hb hr => by
          have g0 := good0 X.kind 0
          refine Ret.mono (search_okF (K := X.kind) (M := 100) (hva8.below (Below.next (Below.refl _ _).drew hb) (by decide)) (by omega) hkind hwf hr (by simp) (by decide) (fun p hp => ?_) (by constructor <;> decide)) ?_
          · rw [List.mem_singleton] at hp
            subst hp
            have := g0.sz
            simp only [List.replicate_zero, List.count_nil] at this
            exact ⟨g0.ok, by simp only; omega, g0.ris⟩
          · rintro u w' ⟨⟨U0, r, hU, hR, hV⟩, hb'⟩
            have hR : SearchR X.ops (startP X.ops.length U0) 32768 r := hR
            cases r with
            | some T => exact ⟨⟨U0, T, hU, hR, hV⟩, hb'⟩
            | none =>
              exfalso
              obtain ⟨N, hN⟩ := hR
              have := (Chain.start (firstP X.kind)).few hap (fun x hx => by cases hx) hU (by rw [List.nil_append]; omega) N
              omega
        refine ⟨⟨by omega, by omega⟩, ⟨by omega, by omega⟩, ?_, ?_, ?_⟩
        · refine Ret.mono (rfirst_ok X.kind _) ?_
          rintro fv wa ⟨⟨hfv, _⟩, ba⟩
          obtain ⟨fa, fc, rfl, _⟩ := hfv.form
          have ta := t0.call ba
          have onesF : ∀ u ∈ [Value.slice fa (firstP X.kind).length fc], u.oneCell' = true := fun u hu => by rw [List.mem_singleton] at hu; subst hu; rfl
          simp (disch := first | omega | exact okFill_t rfl | exact okSize_t rfl | exact fun h => h | (simp only [World.size_alloc, World.size_drew, World.size_setCell, size_fill, bytesW]; omega)) only [go_sem, ↓reduceIte, reduceCtorEq, Nat.reduceBEq, Nat.reduceEqDiff, Nat.reduceAdd, Nat.reduceMul, Int.reduceNe, Int.reduceEq, Int.reduceLT, Int.reduceLE, Int.reduceNeg, Int.reduceAdd, Int.reduceSub, Int.reduceMul, Int.reduceToNat, beq_self_eq_true, c8, c8S0, c8S1, c8S2, c8S3, c8S4, c8S5, c8L0, c8S6, c8S7, c8S8, c8S9, c8S10, c8S11, c8S12, c8S13, c8L1, c8S14, c8S15, c8S16, c8S17]
          have bz := Below.refl wa.heap.size wa
          refine ⟨Chg.of_below ta.bel, ?_, ?_, ?_⟩
          · refine bsW_ones ty25mkI rfl rfl (by decide) (by decide) onesF ?_
            have hfr := row1 (t := 36) (hfv.below bz (by decide))
            have tb := ta.alloc' (.cells #[.slice fa (firstP X.kind).length fc] 36)
            simp (disch := first | omega | exact okFill_t rfl | exact okSize_t rfl | exact fun h => h | (simp only [World.size_alloc, World.size_drew, World.size_setCell, size_fill, bytesW]; omega)) only [go_sem, ↓reduceIte, reduceCtorEq, Nat.reduceBEq, Nat.reduceEqDiff, Nat.reduceAdd, Nat.reduceMul, Int.reduceNe, Int.reduceEq, Int.reduceLT, Int.reduceLE, Int.reduceNeg, Int.reduceAdd, Int.reduceSub, Int.reduceMul, Int.reduceToNat, beq_self_eq_true, c8, c8S0, c8S1, c8S2, c8S3, c8S4, c8S5, c8L0, c8S6, c8S7, c8S8, c8S9, c8S10, c8S11, c8S12, c8S13, c8L1, c8S14, c8S15, c8S16, c8S17]
            refine ⟨Chg.of_below tb.bel, ?_, ?_, ?_⟩
            · refine Ret.mono (search3 tb.bel hfr) ?_
              rintro u9 w9 ⟨⟨U0, T, hU, hR, hV⟩, b9⟩
              obtain ⟨ya, yn, yc, xa, xn, xc, nn, ue, rfl, _⟩ := hV.v.form
              have t8 := tb.call b9
              have t9 := t8.box #[.slice ya yn yc, .slice xa xn xc, .int .i64 nn] 27
              simp (disch := first | omega | exact okFill_t rfl | exact okSize_t rfl | exact fun h => h | (simp only [World.size_alloc, World.size_drew, World.size_setCell, size_fill, bytesW]; omega)) only [go_sem, ↓reduceIte, reduceCtorEq, Nat.reduceBEq, Nat.reduceEqDiff, Nat.reduceAdd, Nat.reduceMul, Int.reduceNe, Int.reduceEq, Int.reduceLT, Int.reduceLE, Int.reduceNeg, Int.reduceAdd, Int.reduceSub, Int.reduceMul, Int.reduceToNat, beq_self_eq_true, c8, c8S0, c8S1, c8S2, c8S3, c8S4, c8S5, c8L0, c8S6, c8S8, c8S9, c8S10, c8S11, c8S12, c8S13, c8L1, c8S14, c8S15, c8S16, c8S17]
              refine ⟨Chg.of_below t8.bel, Chg.of_below (t8.alloc' _).bel, Chg.of_below t9.bel, ?_⟩
              refine chain_rest t9 (hV.v.below ((Below.refl _ _).alloc (Nat.le_refl _) _)) (hE8.below t9.bel) (whole hU hR) (lenE) (hR.2) (okT hU hR) fun wq bq => ?_
              simp (disch := first | omega | exact okFill_t rfl | exact okSize_t rfl | exact fun h => h | (simp only [World.size_alloc, World.size_drew, World.size_setCell, size_fill, bytesW]; omega)) only [go_sem, ↓reduceIte, reduceCtorEq, Nat.reduceBEq, Nat.reduceEqDiff, Nat.reduceAdd, Nat.reduceMul, Int.reduceNe, Int.reduceEq, Int.reduceLT, Int.reduceLE, Int.reduceNeg, Int.reduceAdd, Int.reduceSub, Int.reduceMul, Int.reduceToNat, beq_self_eq_true, c8, c8S0, c8S1, c8S2, c8S3, c8S4, c8S5, c8L0, c8S6, c8S7, c8S8, c8S9, c8S10, c8S11, c8S12, c8S13, c8L1, c8S14, c8S15, c8S16, c8S17]
              refine ⟨⟨by omega, by omega⟩, i + 1, rfl, ⟨Below.next b4 (Below.next b48 (Below.next ((Below.refl _ w8).drew) (Below.next t9.bel bq))), by omega⟩, by omega⟩
            · have tz := tb.box #[.slice none 0 0, .slice none 0 0, .int .i64 0] 27
              exact Chg.of_below tz.bel
            · have tz := tb.box #[.slice none 0 0, .slice none 0 0, .int .i64 0] 27
              rw [World.size_alloc] at tz
              refine Ret.mono (search3 tz.bel (hfr.below ((Below.refl _ _).alloc (Nat.le_refl _) _))) ?_
              rintro u9 w9 ⟨⟨U0, T, hU, hR, hV⟩, b9⟩
              obtain ⟨ya, yn, yc, xa, xn, xc, nn, ue, rfl, _⟩ := hV.v.form
              have t8 := tz.call b9
              have r8 := t8.rules 0 rfl
              have lz := (tz.low 0 rfl).2
              simp (disch := first | omega | exact okFill_t rfl | exact okSize_t rfl | exact fun h => h | (simp only [World.size_alloc, World.size_drew, World.size_setCell, size_fill, bytesW]; omega)) only [go_sem, ↓reduceIte, reduceCtorEq, Nat.reduceBEq, Nat.reduceEqDiff, Nat.reduceAdd, Nat.reduceMul, Int.reduceNe, Int.reduceEq, Int.reduceLT, Int.reduceLE, Int.reduceNeg, Int.reduceAdd, Int.reduceSub, Int.reduceMul, Int.reduceToNat, beq_self_eq_true, c8, c8S0, c8S1, c8S2, c8S3, c8S4, c8S5, c8L0, c8S6, c8S8, c8S9, c8S10, c8S11, c8S12, c8S13, c8L1, c8S14, c8S15, c8S16, c8S17, r8]
              have t9 := t8.fill 0 rfl (cs := #[.slice ya yn yc, .slice xa xn xc, .int .i64 nn]) rfl
              simp only [List.set_cons_zero] at t9
              refine ⟨Chg.of_below t8.bel, Chg.of_below t9.bel, ?_⟩
              refine chain_rest t9 (hV.fill lz) (hE8.below t9.bel) (whole hU hR) lenE hR.2 (okT hU hR) fun wq bq => ?_
              simp (disch := first | omega | exact okFill_t rfl | exact okSize_t rfl | exact fun h => h | (simp only [World.size_alloc, World.size_drew, World.size_setCell, size_fill, bytesW]; omega)) only [go_sem, ↓reduceIte, reduceCtorEq, Nat.reduceBEq, Nat.reduceEqDiff, Nat.reduceAdd, Nat.reduceMul, Int.reduceNe, Int.reduceEq, Int.reduceLT, Int.reduceLE, Int.reduceNeg, Int.reduceAdd, Int.reduceSub, Int.reduceMul, Int.reduceToNat, beq_self_eq_true, c8, c8S0, c8S1, c8S2, c8S3, c8S4, c8S5, c8L0, c8S6, c8S7, c8S8, c8S9, c8S10, c8S11, c8S12, c8S13, c8L1, c8S14, c8S15, c8S16, c8S17]
              refine ⟨⟨by omega, by omega⟩, i + 1, rfl, ⟨Below.next b4 (Below.next b48 (Below.next ((Below.refl _ w8).drew) (Below.next t9.bel bq))), by omega⟩, by omega⟩
          · have tz := ta.box #[.slice none 0 0, .slice none 0 0, .int .i64 0] 27
            exact Chg.of_below tz.bel
          · have tz := ta.box #[.slice none 0 0, .slice none 0 0, .int .i64 0] 27
            clear bz
            have bz : Below wa.heap.size wa (wa.alloc (.cells #[.slice none 0 0, .slice none 0 0, .int .i64 0] 27)) := (Below.refl _ _).alloc (Nat.le_refl _) _
            refine bsW_ones ty25mkI rfl rfl (by decide) (by decide) onesF ?_
            have hfr := row1 (t := 36) (hfv.below bz (by decide))
            have tb := tz.alloc' (.cells #[.slice fa (firstP X.kind).length fc] 36)
            simp (disch := first | omega | exact okFill_t rfl | exact okSize_t rfl | exact fun h => h | (simp only [World.size_alloc, World.size_drew, World.size_setCell, size_fill, bytesW]; omega)) only [go_sem, ↓reduceIte, reduceCtorEq, Nat.reduceBEq, Nat.reduceEqDiff, Nat.reduceAdd, Nat.reduceMul, Int.reduceNe, Int.reduceEq, Int.reduceLT, Int.reduceLE, Int.reduceNeg, Int.reduceAdd, Int.reduceSub, Int.reduceMul, Int.reduceToNat, beq_self_eq_true, c8, c8S0, c8S1, c8S2, c8S3, c8S4, c8S5, c8L0, c8S6, c8S7, c8S8, c8S9, c8S10, c8S11, c8S12, c8S13, c8L1, c8S14, c8S15, c8S16, c8S17]
            rw [World.size_alloc] at hfr
            refine ⟨Chg.of_below tb.bel, ?_⟩
            refine Ret.mono (search3 tb.bel hfr) ?_
            rintro u9 w9 ⟨⟨U0, T, hU, hR, hV⟩, b9⟩
            obtain ⟨ya, yn, yc, xa, xn, xc, nn, ue, rfl, _⟩ := hV.v.form
            have t8 := tb.call b9
            have r8 := t8.rules 0 rfl
            have lz := (tb.low 0 rfl).2
            simp (disch := first | omega | exact okFill_t rfl | exact okSize_t rfl | exact fun h => h | (simp only [World.size_alloc, World.size_drew, World.size_setCell, size_fill, bytesW]; omega)) only [go_sem, ↓reduceIte, reduceCtorEq, Nat.reduceBEq, Nat.reduceEqDiff, Nat.reduceAdd, Nat.reduceMul, Int.reduceNe, Int.reduceEq, Int.reduceLT, Int.reduceLE, Int.reduceNeg, Int.reduceAdd, Int.reduceSub, Int.reduceMul, Int.reduceToNat, beq_self_eq_true, c8, c8S0, c8S1, c8S2, c8S3, c8S4, c8S5, c8L0, c8S6, c8S8, c8S9, c8S10, c8S11, c8S12, c8S13, c8L1, c8S14, c8S15, c8S16, c8S17, r8]
            have t9 := t8.fill 0 rfl (cs := #[.slice ya yn yc, .slice xa xn xc, .int .i64 nn]) rfl
            simp only [List.set_cons_zero] at t9
            refine ⟨Chg.of_below t8.bel, Chg.of_below t9.bel, ?_⟩
            refine chain_rest t9 (hV.fill lz) (hE8.below t9.bel) (whole hU hR) lenE hR.2 (okT hU hR) fun wq bq => ?_
            simp (disch := first | omega | exact okFill_t rfl | exact okSize_t rfl | exact fun h => h | (simp only [World.size_alloc, World.size_drew, World.size_setCell, size_fill, bytesW]; omega)) only [go_sem, ↓reduceIte, reduceCtorEq, Nat.reduceBEq, Nat.reduceEqDiff, Nat.reduceAdd, Nat.reduceMul, Int.reduceNe, Int.reduceEq, Int.reduceLT, Int.reduceLE, Int.reduceNeg, Int.reduceAdd, Int.reduceSub, Int.reduceMul, Int.reduceToNat, beq_self_eq_true, c8, c8S0, c8S1, c8S2, c8S3, c8S4, c8S5, c8L0, c8S6, c8S7, c8S8, c8S9, c8S10, c8S11, c8S12, c8S13, c8L1, c8S14, c8S15, c8S16, c8S17]
            refine ⟨⟨by omega, by omega⟩, i + 1, rfl, ⟨Below.next b4 (Below.next b48 (Below.next ((Below.refl _ w8).drew) (Below.next t9.bel bq))), by omega⟩, by omega⟩
        · have tz := t0.box #[.slice none 0 0, .slice none 0 0, .int .i64 0] 27
          exact Chg.of_below tz.bel
        · have tz := t0.box #[.slice none 0 0, .slice none 0 0, .int .i64 0] 27
          rw [World.size_drew] at tz
          refine Ret.mono (rfirst_ok X.kind _) ?_
          rintro fv wa ⟨⟨hfv, _⟩, ba⟩
          obtain ⟨fa, fc, rfl, _⟩ := hfv.form
          have ta := tz.call ba
          have onesF : ∀ u ∈ [Value.slice fa (firstP X.kind).length fc], u.oneCell' = true := fun u hu => by rw [List.mem_singleton] at hu; subst hu; rfl
          simp (disch := first | omega | exact okFill_t rfl | exact okSize_t rfl | exact fun h => h | (simp only [World.size_alloc, World.size_drew, World.size_setCell, size_fill, bytesW]; omega)) only [go_sem, ↓reduceIte, reduceCtorEq, Nat.reduceBEq, Nat.reduceEqDiff, Nat.reduceAdd, Nat.reduceMul, Int.reduceNe, Int.reduceEq, Int.reduceLT, Int.reduceLE, Int.reduceNeg, Int.reduceAdd, Int.reduceSub, Int.reduceMul, Int.reduceToNat, beq_self_eq_true, c8, c8S0, c8S1, c8S2, c8S3, c8S4, c8S5, c8L0, c8S6, c8S7, c8S8, c8S9, c8S10, c8S11, c8S12, c8S13, c8L1, c8S14, c8S15, c8S16, c8S17]
          have bz := Below.refl wa.heap.size wa
          refine ⟨Chg.of_below ta.bel, ?_⟩
          refine bsW_ones ty25mkI rfl rfl (by decide) (by decide) onesF ?_
          have hfr := row1 (t := 36) (hfv.below bz (by decide))
          have tb := ta.alloc' (.cells #[.slice fa (firstP X.kind).length fc] 36)
          simp (disch := first | omega | exact okFill_t rfl | exact okSize_t rfl | exact fun h => h | (simp only [World.size_alloc, World.size_drew, World.size_setCell, size_fill, bytesW]; omega)) only [go_sem, ↓reduceIte, reduceCtorEq, Nat.reduceBEq, Nat.reduceEqDiff, Nat.reduceAdd, Nat.reduceMul, Int.reduceNe, Int.reduceEq, Int.reduceLT, Int.reduceLE, Int.reduceNeg, Int.reduceAdd, Int.reduceSub, Int.reduceMul, Int.reduceToNat, beq_self_eq_true, c8, c8S0, c8S1, c8S2, c8S3, c8S4, c8S5, c8L0, c8S6, c8S7, c8S8, c8S9, c8S10, c8S11, c8S12, c8S13, c8L1, c8S14, c8S15, c8S16, c8S17]
          refine ⟨Chg.of_below tb.bel, ?_⟩
          refine Ret.mono (search3 tb.bel hfr) ?_
          rintro u9 w9 ⟨⟨U0, T, hU, hR, hV⟩, b9⟩
          obtain ⟨ya, yn, yc, xa, xn, xc, nn, ue, rfl, _⟩ := hV.v.form
          have t8 := tb.call b9
          have r8 := t8.rules 0 rfl
          have lz := (tb.low 0 rfl).2
          simp (disch := first | omega | exact okFill_t rfl | exact okSize_t rfl | exact fun h => h | (simp only [World.size_alloc, World.size_drew, World.size_setCell, size_fill, bytesW]; omega)) only [go_sem, ↓reduceIte, reduceCtorEq, Nat.reduceBEq, Nat.reduceEqDiff, Nat.reduceAdd, Nat.reduceMul, Int.reduceNe, Int.reduceEq, Int.reduceLT, Int.reduceLE, Int.reduceNeg, Int.reduceAdd, Int.reduceSub, Int.reduceMul, Int.reduceToNat, beq_self_eq_true, c8, c8S0, c8S1, c8S2, c8S3, c8S4, c8S5, c8L0, c8S6, c8S8, c8S9, c8S10, c8S11, c8S12, c8S13, c8L1, c8S14, c8S15, c8S16, c8S17, r8]
          have t9 := t8.fill 0 rfl (cs := #[.slice ya yn yc, .slice xa xn xc, .int .i64 nn]) rfl
          simp only [List.set_cons_zero] at t9
          refine ⟨Chg.of_below t8.bel, Chg.of_below t9.bel, ?_⟩
          refine chain_rest t9 (hV.fill lz) (hE8.below t9.bel) (whole hU hR) lenE hR.2 (okT hU hR) fun wq bq => ?_
          simp (disch := first | omega | exact okFill_t rfl | exact okSize_t rfl | exact fun h => h | (simp only [World.size_alloc, World.size_drew, World.size_setCell, size_fill, bytesW]; omega)) only [go_sem, ↓reduceIte, reduceCtorEq, Nat.reduceBEq, Nat.reduceEqDiff, Nat.reduceAdd, Nat.reduceMul, Int.reduceNe, Int.reduceEq, Int.reduceLT, Int.reduceLE, Int.reduceNeg, Int.reduceAdd, Int.reduceSub, Int.reduceMul, Int.reduceToNat, beq_self_eq_true, c8, c8S0, c8S1, c8S2, c8S3, c8S4, c8S5, c8L0, c8S6, c8S7, c8S8, c8S9, c8S10, c8S11, c8S12, c8S13, c8L1, c8S14, c8S15, c8S16, c8S17]
          refine ⟨⟨by omega, by omega⟩, i + 1, rfl, ⟨Below.next b4 (Below.next b48 (Below.next ((Below.refl _ w8).drew) (Below.next t9.bel bq))), by omega⟩, by omega⟩
    · have hlt' : ¬ (i : Int) < acc.length := by omega
      simp (disch := first | omega | exact okFill_t rfl | exact okSize_t rfl | exact fun h => h | (simp only [World.size_alloc, World.size_drew, World.size_setCell, size_fill, bytesW]; omega)) only [go_sem, ↓reduceIte, reduceCtorEq, Nat.reduceBEq, Nat.reduceEqDiff, Nat.reduceAdd, Nat.reduceMul, Int.reduceNe, Int.reduceEq, Int.reduceLT, Int.reduceLE, Int.reduceNeg, Int.reduceAdd, Int.reduceSub, Int.reduceMul, Int.reduceToNat, beq_self_eq_true, c8, c8S0, c8S1, c8S2, c8S3, c8S4, c8S5, c8L0, c8S6, c8S7, c8S8, c8S9, c8S10, c8S11, c8S12, c8S13, c8L1, c8S14, c8S15, c8S16, c8S17, c8L1, hlt']
      refine Ret.mono (awake_ok _) ?_
      rintro _ w5 ⟨rfl, b5⟩
      simp (disch := first | omega | exact okFill_t rfl | exact okSize_t rfl | exact fun h => h | (simp only [World.size_alloc, World.size_drew, World.size_setCell, size_fill, bytesW]; omega)) only [go_sem, ↓reduceIte, reduceCtorEq, Nat.reduceBEq, Nat.reduceEqDiff, Nat.reduceAdd, Nat.reduceMul, Int.reduceNe, Int.reduceEq, Int.reduceLT, Int.reduceLE, Int.reduceNeg, Int.reduceAdd, Int.reduceSub, Int.reduceMul, Int.reduceToNat, beq_self_eq_true, c8, c8S0, c8S1, c8S2, c8S3, c8S4, c8S5, c8L0, c8S6, c8S7, c8S8, c8S9, c8S10, c8S11, c8S12, c8S13, c8L1, c8S14, c8S15, c8S16, c8S17]
      exact Below.next b04 b5
set_option maxRecDepth 100000 in
theorem linChains_law {H : Type} {enc : TypeId × Value → H} {w : World} {r : Reach} {b base : Nat} {sp : Nat → Bool} {hd : Bool} {v : Value} {d : DataW H} {p : List MemPlace}
    (h : Value.okWide Try.prog w r b 22 v) (k : DataW.Trod enc Try.prog w base sp hd 22 v d p) :
    Ret Try.prog 8 [v] w fun u w' => u = .bool true ∧ Below w.heap.size w w' := by
  obtain ⟨fuel, hk⟩ := k
  obtain ⟨xs, v2, e1, g1, g2, g3⟩ := opens_Ops _ _ _ _ _ _ _ _ hk
  obtain ⟨a2, n2, c2, rfl⟩ := okWide_slice Try.underlying22 h
  simp only [Value.cells, List.cons.injEq, and_true] at e1
  subst e1
  exact linChains_ok g1 g3 g2
end Go.Proofs.Ytbeoedgoikcbpaa
