/- Texts put together by program. -/
import Derived.Test.YtbeoedgoikcbpaaQB4
namespace Go.Proofs.Ytbeoedgoikcbpaa
set_option linter.unusedSimpArgs false
set_option linter.unusedVariables false
set_option maxRecDepth 100000
open Go Go.Ann Go.RowKit
theorem rfind_ok {w : World} {lv : Value} {l : List OpT} (id : Int) (h : RdS w 11 OpT.enc lv l) (hl : (l.length : Int) ≤ 9223372036854775806) :
    Ret Try.prog 63 [lv, .int .i64 id] w fun u w' => u = .int .i64 (Cut.firstI (fun o => decide (o.ID = id)) l) ∧ w' = w := by
  obtain ⟨la, lc, rfl, _⟩ := h.form
  refine ent63 _ _ _ _ ?_
  simp (disch := first | omega | exact okFill_t rfl | exact okSize_t rfl | exact fun h => h | (simp only [World.size_alloc, World.size_drew, World.size_setCell, size_fill, bytesW]; omega)) only [go_sem, c63, c63S0, c63S1, c63L0, c63S2]
  refine W_loopU (fun k : Nat => [(5, .int .i64 k)]) (fun k w' => w' = w ∧ k ≤ l.length ∧ ∀ j, (h : j < l.length) → j < k → ¬ l[j].ID = id) (fun k => l.length - k) 0 rfl ⟨rfl, Nat.zero_le _, fun j _ h => by omega⟩ ?_
  rintro k w2 ⟨e2, hk, hinv⟩
  subst w2
  by_cases hlt : k < l.length
  · have hlt' : (k : Int) < l.length := by omega
    obtain ⟨p, rfl⟩ := h.ptr (by omega)
    have eo := h.eltB (Below.refl _ _) OpT.len (by decide) hlt
    have ao := l[k].at
    simp (disch := first | omega | exact okFill_t rfl | exact okSize_t rfl | exact fun h => h | (simp only [World.size_alloc, World.size_drew, World.size_setCell, size_fill, bytesW]; omega)) only [go_sem, c63, c63S0, c63S1, c63L0, c63S2, c63L0, hlt', eo, ao]
    refine ⟨by omega, fun he => ?_, fun he => ⟨⟨by omega, by omega⟩, k + 1, rfl, ⟨by omega, fun j hj hjk => ?_⟩, by omega⟩⟩
    · exact (Cut.firstI_at hlt (by simpa using he) fun j hj hjk => by simpa using hinv j hj hjk).symm
    · rcases Nat.lt_or_ge j k with h' | h'
      · exact hinv j hj h'
      · obtain rfl : j = k := by omega
        exact he
  · have hlt' : ¬ (k : Int) < l.length := by omega
    simp (disch := first | omega | exact okFill_t rfl | exact okSize_t rfl | exact fun h => h | (simp only [World.size_alloc, World.size_drew, World.size_setCell, size_fill, bytesW]; omega)) only [go_sem, c63, c63S0, c63S1, c63L0, c63S2, c63L0, hlt']
    exact (Cut.firstI_none fun j hj => by simpa using hinv j hj (by omega)).symm
theorem rapart_ok {w : World} {lv : Value} {l : List OpT} (h : RdS w 11 OpT.enc lv l) (hl : (l.length : Int) ≤ 9223372036854775806) :
    Ret Try.prog 54 [lv] w fun u w' => Tells u ((l.map OpT.ID).Nodup) ∧ Below w.heap.size w w' := by
  obtain ⟨la, lc, rfl, _⟩ := h.form
  refine ent54 _ _ _ ?_
  simp (disch := first | omega | exact okFill_t rfl | exact okSize_t rfl | exact fun h => h | (simp only [World.size_alloc, World.size_drew, World.size_setCell, size_fill, bytesW]; omega)) only [go_sem, c54, c54S0, c54S1, c54S2, c54L0, c54S3]
  refine W_loopU (fun k : Nat => [(3, .int .i64 k)]) (fun k w' => Below w.heap.size w w' ∧ k ≤ l.length ∧ ((l.take k).map OpT.ID).Nodup) (fun k => l.length - k) 0 rfl ⟨Below.refl _ _, Nat.zero_le _, by simp⟩ ?_
  rintro k w2 ⟨b2, hk, hinv⟩
  by_cases hlt : k < l.length
  · have hlt' : (k : Int) < l.length := by omega
    obtain ⟨p, rfl⟩ := h.ptr (by omega)
    have h2 := h.below b2 (by decide)
    have eo := h2.eltB (Below.refl _ _) OpT.len (by decide) hlt
    have ao := l[k].at
    simp (disch := first | omega | exact okFill_t rfl | exact okSize_t rfl | exact fun h => h | (simp only [World.size_alloc, World.size_drew, World.size_setCell, size_fill, bytesW]; omega)) only [go_sem, c54, c54S0, c54S1, c54S2, c54L0, c54S3, c54L0, hlt']
    refine c54draw0 ?_
    simp (disch := first | omega | exact okFill_t rfl | exact okSize_t rfl | exact fun h => h | (simp only [World.size_alloc, World.size_drew, World.size_setCell, size_fill, bytesW]; omega)) only [go_sem, c54, c54S0, c54S1, c54S2, c54L0, c54S3, c54D0, hlt', eo, ao]
    have bd : Below w2.heap.size w2 w2.drew := (Below.refl _ _).drew
    have hle : lc = lc := rfl
    obtain ⟨_, _, ecap, hcap⟩ := h.form
    simp only [Value.slice.injEq, true_and] at ecap
    obtain ⟨_, rfl⟩ := ecap
    have hpre : RdS w2.drew 11 OpT.enc (.slice (offA (some p) lc 0 11) k lc) (l.take k) := by
      have h3 := Cut.rd_take (h2.below bd (by decide)) (show k ≤ l.length by omega)
      rw [Cut.take_flat] at h3
      have e : (l.take k).length = k := by rw [List.length_take]; omega
      unfold RdS
      rw [e]
      exact h3
    refine ⟨⟨by omega, by omega⟩, by omega, Ret.mono (rfind_ok l[k].ID hpre (by rw [List.length_take]; omega)) ?_⟩
    rintro _ w3 ⟨rfl, e3⟩
    subst w3
    have any := Cut.firstI_any (p := fun o : OpT => decide (o.ID = l[k].ID)) (l := l.take k)
    simp (disch := first | omega | exact okFill_t rfl | exact okSize_t rfl | exact fun h => h | (simp only [World.size_alloc, World.size_drew, World.size_setCell, size_fill, bytesW]; omega)) only [go_sem, c54, c54S0, c54S1, c54S2, c54L0, c54S3, c54D0]
    refine ⟨fun _ => ⟨tells_f, b2.drew⟩, fun hlt0 => ⟨⟨by omega, by omega⟩, k + 1, rfl, ⟨b2.drew, by omega, ?_⟩, by omega⟩⟩
    rw [decide_eq_false (by omega)] at any
    rw [List.take_succ_eq_append_getElem hlt, List.map_append]
    refine List.nodup_append.2 ⟨hinv, by simp, fun a ha b hb e => ?_⟩
    simp only [List.map_cons, List.map_nil, List.mem_singleton] at hb
    subst hb e
    obtain ⟨o, ho, e⟩ := List.mem_map.1 ha
    have := (List.any_eq_true (p := fun o : OpT => decide (o.ID = l[k].ID))).2 ⟨o, ho, by simpa using e⟩
    rw [← any] at this
    cases this
  · have hlt' : ¬ (k : Int) < l.length := by omega
    simp (disch := first | omega | exact okFill_t rfl | exact okSize_t rfl | exact fun h => h | (simp only [World.size_alloc, World.size_drew, World.size_setCell, size_fill, bytesW]; omega)) only [go_sem, c54, c54S0, c54S1, c54S2, c54L0, c54S3, c54L0, hlt']
    rw [List.take_of_length_le (by omega)] at hinv
    exact ⟨tells_t hinv, b2⟩
end Go.Proofs.Ytbeoedgoikcbpaa

namespace Go.Proofs.Ytbeoedgoikcbpaa
set_option linter.unusedSimpArgs false
set_option linter.unusedVariables false
set_option maxRecDepth 100000
open Go Go.Ann Go.RowKit
theorem osmall_ok {w : World} {ob kd most : Int} {lv : Value} {l : List OpT} (h : RdS w 11 OpT.enc lv l) (hl : (l.length : Int) ≤ 9223372036854775807) (hm : most ≤ 100) :
    Ret Try.prog 25 [.agg #[.int .i64 ob, .int .i64 kd, lv], .int .i64 most] w fun u w' => Tells u ((l.length : Int) ≤ most ∧ (∀ o ∈ l, o.Kind = kd) ∧ (l.map OpT.ID).Nodup ∧ ∀ o ∈ l, before o o = false) ∧ Below w.heap.size w w' := by
  obtain ⟨la, lc, rfl, _⟩ := h.form
  refine ent25 _ _ _ _ ?_
  have s1 := (St.start (W0 := w)).box #[.int .i64 ob, .int .i64 kd, .slice la l.length lc] 24
  have r1 := s1.rules 0 rfl
  simp (disch := first | omega | exact okFill_t rfl | exact okSize_t rfl | exact fun h => h | (simp only [World.size_alloc, World.size_drew, World.size_setCell, size_fill, bytesW]; omega)) only [go_sem, c25, c25S0, c25S1, c25S2, c25S3, c25L0, c25S4, c25S5]
  refine ⟨fun hle => Ret.mono (alike_ok (h.below s1.bel (by decide)) (by omega)) ?_, fun hgt => ⟨tells_f, s1.bel⟩⟩
  rintro _ w2 ⟨⟨b, rfl, hbt⟩, b2⟩
  have s2 := s1.call b2
  have r2 := s2.rules 0 rfl
  cases b with
  | false =>
    simp (disch := first | omega | exact okFill_t rfl | exact okSize_t rfl | exact fun h => h | (simp only [World.size_alloc, World.size_drew, World.size_setCell, size_fill, bytesW]; omega)) only [go_sem, c25, c25S0, c25S1, c25S2, c25S3, c25L0, c25S4, c25S5]
    exact ⟨tells_f, s2.bel⟩
  | true =>
    simp (disch := first | omega | exact okFill_t rfl | exact okSize_t rfl | exact fun h => h | (simp only [World.size_alloc, World.size_drew, World.size_setCell, size_fill, bytesW]; omega)) only [go_sem, c25, c25S0, c25S1, c25S2, c25S3, c25L0, c25S4, c25S5, r2]
    refine Ret.mono (rapart_ok (h.below s2.bel (by decide)) (by omega)) ?_
    rintro _ w3 ⟨⟨c, rfl, hct⟩, b3⟩
    have s3 := s2.call b3
    have r3 := s3.rules 0 rfl
    cases c with
    | false =>
      simp (disch := first | omega | exact okFill_t rfl | exact okSize_t rfl | exact fun h => h | (simp only [World.size_alloc, World.size_drew, World.size_setCell, size_fill, bytesW]; omega)) only [go_sem, c25, c25S0, c25S1, c25S2, c25S3, c25L0, c25S4, c25S5]
      exact ⟨tells_f, s3.bel⟩
    | true =>
      simp (disch := first | omega | exact okFill_t rfl | exact okSize_t rfl | exact fun h => h | (simp only [World.size_alloc, World.size_drew, World.size_setCell, size_fill, bytesW]; omega)) only [go_sem, c25, c25S0, c25S1, c25S2, c25S3, c25L0, c25S4, c25S5]
      refine W_loopU (fun k : Nat => [(5, .int .i64 k)]) (fun k w' => St w w' (fun _ => False) [.blk w.heap.size #[.int .i64 ob, .int .i64 kd, .slice la l.length lc] 24] [] ∧ k ≤ l.length ∧ ∀ o ∈ l.take k, before o o = false) (fun k => l.length - k) 0 rfl ⟨s3, Nat.zero_le _, by simp⟩ ?_
      rintro k w4 ⟨s4, hk, hinv⟩
      have r4 := s4.rules 0 rfl
      by_cases hlt : k < l.length
      · have hlt' : (k : Int) < l.length := by omega
        obtain ⟨p, rfl⟩ := h.ptr (by omega)
        have h4 := h.below s4.bel (by decide)
        have eo := h4.at OpT.len hlt
        have s5 := s4.drew
        have r5 := s5.rules 0 rfl
        have l5 : w.heap.size < w4.heap.size := (s4.low 0 rfl).2
        have lp : p.block < w4.heap.size := by
          have := h4.footLt (by decide) (k := p.block) ⟨p, _, _, rfl, by omega, rfl⟩
          exact this
        simp (disch := first | omega | exact okFill_t rfl | exact okSize_t rfl | exact fun h => h | (simp only [World.size_alloc, World.size_drew, World.size_setCell, size_fill, bytesW]; omega)) only [go_sem, c25, c25S0, c25S1, c25S2, c25S3, c25L0, c25S4, c25S5, c25L0, hlt', r4]
        refine c25draw0 (Chg (fun _ => False) _) (Chg.refl _ _) ?_
        simp (disch := first | omega | exact okFill_t rfl | exact okSize_t rfl | exact fun h => h | (simp only [World.size_alloc, World.size_drew, World.size_setCell, size_fill, bytesW]; omega)) only [go_sem, c25, c25S0, c25S1, c25S2, c25S3, c25L0, c25S4, c25S5, c25D0, r5, eo, OpT.len]
        refine ⟨⟨by omega, by omega⟩, ⟨by omega, by omega⟩, Ret.mono (rbefore_ok _ _ _) ?_⟩
        rintro _ w6 ⟨rfl, b6⟩
        have s6 := s5.call b6
        cases hb : before l[k] l[k] with
        | true =>
          simp (disch := first | omega | exact okFill_t rfl | exact okSize_t rfl | exact fun h => h | (simp only [World.size_alloc, World.size_drew, World.size_setCell, size_fill, bytesW]; omega)) only [go_sem, c25, c25S0, c25S1, c25S2, c25S3, c25L0, c25S4, c25S5, c25D0]
          exact ⟨Chg.of_below b6, tells_f, s6.bel⟩
        | false =>
          simp (disch := first | omega | exact okFill_t rfl | exact okSize_t rfl | exact fun h => h | (simp only [World.size_alloc, World.size_drew, World.size_setCell, size_fill, bytesW]; omega)) only [go_sem, c25, c25S0, c25S1, c25S2, c25S3, c25L0, c25S4, c25S5, c25D0]
          refine ⟨Chg.of_below b6, ⟨by omega, by omega⟩, k + 1, rfl, ⟨s6, by omega, fun o ho => ?_⟩, by omega⟩
          rw [List.take_succ_eq_append_getElem hlt, List.mem_append, List.mem_singleton] at ho
          rcases ho with ho | rfl
          · exact hinv o ho
          · exact hb
      · have hlt' : ¬ (k : Int) < l.length := by omega
        simp (disch := first | omega | exact okFill_t rfl | exact okSize_t rfl | exact fun h => h | (simp only [World.size_alloc, World.size_drew, World.size_setCell, size_fill, bytesW]; omega)) only [go_sem, c25, c25S0, c25S1, c25S2, c25S3, c25L0, c25S4, c25S5, c25L0, hlt', r4]
        rw [List.take_of_length_le (by omega)] at hinv
        exact ⟨tells_t ⟨hle, hbt rfl, hct rfl, hinv⟩, s4.bel⟩
end Go.Proofs.Ytbeoedgoikcbpaa

namespace Go.Proofs.Ytbeoedgoikcbpaa
set_option linter.unusedSimpArgs false
set_option linter.unusedVariables false
set_option maxRecDepth 100000
open Go Go.Ann Go.RowKit
def runP : List Int → List OpT → Option (List Int)
  | s, [] => some s
  | s, o :: l => match stepP s o with
    | none => none
    | some t => runP t l
theorem runP_snoc : ∀ {s : List Int} {l : List OpT} {o : OpT}, runP s (l ++ [o]) = (match runP s l with | none => none | some t => stepP t o)
  | s, [], o => by simp only [List.nil_append, runP]; cases stepP s o <;> rfl
  | s, p :: l, o => by
    simp only [List.cons_append, runP]
    cases stepP s p with
    | none => rfl
    | some t => exact runP_snoc
def StOk (K : Int) (M : Nat) (s : List Int) : Prop := Ok64 s ∧ s.length ≤ M ∧ (K = 5 → s.Pairwise (· < ·))
theorem StOk.go {K : Int} {M : Nat} {s t : List Int} {o : OpT} (h : StOk K M s) (hK : o.Kind = K) (hw : o.wf) (hs : stepP s o = some t) : StOk K (M + 1) t := by
  obtain ⟨h1, h2, h3⟩ := stepP_ok hw h.1 (fun e => h.2.2 (hK.symm.trans e)) hs
  exact ⟨h1, by have := h.2.1; omega, fun e => h3 (hK.trans e)⟩
end Go.Proofs.Ytbeoedgoikcbpaa

namespace Go.Proofs.Ytbeoedgoikcbpaa
set_option linter.unusedSimpArgs false
set_option linter.unusedVariables false
set_option maxRecDepth 100000
open Go Go.Ann Go.RowKit
theorem mruns_ok {w : World} {lv sv : Value} {l : List OpT} {s : List Int} {K : Int} {M : Nat} (h : RdS w 11 OpT.enc lv l) (hs : RdS w 1 intE sv s) (hl : l.length ≤ 1000) (hK : ∀ o ∈ l, o.Kind = K) (hw : ∀ o ∈ l, o.wf) (h0 : StOk K M s) (hM : M ≤ 100000) :
    Ret Try.prog 85 [sv, lv] w fun u w' => (∃ t ok, u = .tuple #[t, .bool ok] ∧ match runP s l with
      | none => ok = false
      | some s' => ok = true ∧ RdS w' 1 intE t s') ∧ Below w.heap.size w w' := by
  obtain ⟨la, lc, rfl, _⟩ := h.form
  obtain ⟨sa, sc, rfl, _⟩ := hs.form
  refine ent85 _ _ _ _ ?_
  simp (disch := first | omega | exact okFill_t rfl | exact okSize_t rfl | exact fun h => h | (simp only [World.size_alloc, World.size_drew, World.size_setCell, size_fill, bytesW]; omega)) only [go_sem, c85, c85S0, c85S1, c85S2, c85L0, c85S3, c85S4]
  refine Ret.mono (iclone_ok _ s w hs (by have := h0.2.1; omega)) ?_
  rintro cv w1 ⟨hcl, b1⟩
  have hc1 : RdS w1 1 intE cv s := RdS.of_own hcl
  obtain ⟨ca, cc, rfl, _⟩ := hc1.form
  simp (disch := first | omega | exact okFill_t rfl | exact okSize_t rfl | exact fun h => h | (simp only [World.size_alloc, World.size_drew, World.size_setCell, size_fill, bytesW]; omega)) only [go_sem, c85, c85S0, c85S1, c85S2, c85L0, c85S3, c85S4]
  refine W_loopU (fun x : Nat × Value × List Int => [(6, x.2.1), (14, .int .i64 x.1)]) (fun x w' => Below w.heap.size w w' ∧ x.1 ≤ l.length ∧ RdS w' 1 intE x.2.1 x.2.2 ∧ runP s (l.take x.1) = some x.2.2 ∧ StOk K (M + x.1) x.2.2) (fun x => l.length - x.1) (0, .slice ca s.length cc, s) rfl ⟨b1, Nat.zero_le _, hc1, rfl, h0⟩ ?_
  rintro ⟨k, tv, t⟩ w2 ⟨b2, hk, ht, hr, ho⟩
  simp only at b2 hk ht hr ho
  obtain ⟨ta, tc, rfl, _⟩ := ht.form
  by_cases hlt : k < l.length
  · have hlt' : (k : Int) < l.length := by omega
    obtain ⟨p, rfl⟩ := h.ptr (by omega)
    have eo := (h.below b2 (by decide)).at OpT.len hlt
    have hmem := List.getElem_mem hlt
    have ek : runP s (l.take (k + 1)) = stepP t l[k] := by rw [List.take_succ_eq_append_getElem hlt, runP_snoc, hr]
    simp (disch := first | omega | exact okFill_t rfl | exact okSize_t rfl | exact fun h => h | (simp only [World.size_alloc, World.size_drew, World.size_setCell, size_fill, bytesW]; omega)) only [go_sem, c85, c85S0, c85S1, c85S2, c85L0, c85S3, c85S4, c85L0, hlt', eo, OpT.len]
    refine ⟨by omega, Ret.mono (step_ok _ t l[k] _ (ht.below ((Below.refl _ _).alloc (Nat.le_refl _) (.cells l[k].enc.toArray 58)) (by decide)) (by have := ho.2.1; omega) (fun e => ho.2.2 ((hK _ hmem).symm.trans e))) ?_⟩
    rintro _ w3 ⟨⟨v, ok, rfl, hm⟩, b3⟩
    have b23 := Below.next (b2.alloc b2.size (.cells l[k].enc.toArray 58)) b3
    cases hst : stepP t l[k] with
    | none =>
      rw [hst] at hm ek
      have hm : ok = false := hm
      subst hm
      have e : runP s l = none := by
        have aux : ∀ n, runP s (l.take (k + 1 + n)) = none := by
          intro n
          induction n with
          | zero => exact ek
          | succ n ih =>
            by_cases h' : k + 1 + n < l.length
            · rw [← Nat.add_assoc, List.take_succ_eq_append_getElem h', runP_snoc, ih]
            · rw [List.take_of_length_le (by omega)] at ih ⊢
              exact ih
        have := aux l.length
        rwa [List.take_of_length_le (by omega)] at this
      simp (disch := first | omega | exact okFill_t rfl | exact okSize_t rfl | exact fun h => h | (simp only [World.size_alloc, World.size_drew, World.size_setCell, size_fill, bytesW]; omega)) only [go_sem, c85, c85S0, c85S1, c85S2, c85L0, c85S3, c85S4]
      rw [e]
      exact ⟨⟨_, _, rfl, rfl⟩, b23⟩
    | some t' =>
      rw [hst] at hm ek
      obtain ⟨rfl, h5, _⟩ := hm
      simp (disch := first | omega | exact okFill_t rfl | exact okSize_t rfl | exact fun h => h | (simp only [World.size_alloc, World.size_drew, World.size_setCell, size_fill, bytesW]; omega)) only [go_sem, c85, c85S0, c85S1, c85S2, c85L0, c85S3, c85S4]
      refine ⟨⟨by omega, by omega⟩, (k + 1, v, t'), rfl, ⟨b23, by simp only; omega, h5, ek, ?_⟩, by simp only; omega⟩
      exact ho.go (hK _ hmem) (hw _ hmem) hst
  · have hlt' : ¬ (k : Int) < l.length := by omega
    rw [List.take_of_length_le (by omega)] at hr
    simp (disch := first | omega | exact okFill_t rfl | exact okSize_t rfl | exact fun h => h | (simp only [World.size_alloc, World.size_drew, World.size_setCell, size_fill, bytesW]; omega)) only [go_sem, c85, c85S0, c85S1, c85S2, c85L0, c85S3, c85S4, c85L0, hlt']
    rw [hr]
    exact ⟨⟨_, _, rfl, rfl, ht⟩, b2⟩
end Go.Proofs.Ytbeoedgoikcbpaa

namespace Go.Proofs.Ytbeoedgoikcbpaa
set_option linter.unusedSimpArgs false
set_option linter.unusedVariables false
set_option maxRecDepth 100000
open Go Go.Ann Go.RowKit
structure GS (ls : List (List OpT)) (K : Int) (M : Nat) (p : OSpot) : Prop where
  len : ∀ l, ls[p.1]? = some l → p.2.1.length = l.length
  ok : Ok64 p.2.2
  room : p.2.2.length + work ls p.1 p.2.1 ≤ M
  up : K = 5 → p.2.2.Pairwise (· < ·)
theorem GS.okS {ls : List (List OpT)} {K : Int} {M : Nat} {p : OSpot} (h : GS ls K M p) (hM : M ≤ 1000000) : OkS p.2.2 := ⟨h.ok, by have := h.room; omega⟩
theorem GS.go {ls : List (List OpT)} {K : Int} {M g : Nat} {d : List Bool} {s t : List Int} {l : List OpT} {i : Nat} {o : OpT} (h : GS ls K M (g, d, s)) (hl : ls[g]? = some l) (ho : l[i]? = some o) (hm : mayP l d i o = true) (hst : stepP s o = some t) (hK : o.Kind = K) (hw : o.wf) :
    GS ls K M (g, d.set i true, t) ∧ work ls g (d.set i true) + 1 = work ls g d := by
  have hd := h.len l hl
  have e : newAt l (d, s) i = [(d.set i true, t)] := by unfold newAt; rw [ho]; simp [hm, hst]
  obtain ⟨hq1, hq2⟩ := nextL_mem (l := l) (p := (d, s)) (q := (d.set i true, t)) (k := i + 1) hd (by rw [nextL, e]; simp)
  have hw' := work_go (ls := ls) (g := g) hq2
  have hs : StOk K s.length s := ⟨h.ok, Nat.le_refl _, h.up⟩
  obtain ⟨g1, g2, g3⟩ := hs.go hK hw hst
  have hr := h.room
  refine ⟨⟨fun l' h' => ?_, g1, ?_, g3⟩, hw'⟩
  · rw [hl] at h'; obtain rfl := Option.some.inj h'; exact hq1
  · simp only at hr hw' ⊢; omega
theorem GS.full {ls : List (List OpT)} {K : Int} {M g : Nat} {d : List Bool} {s : List Int} {l : List OpT} (h : GS ls K M (g, d, s)) (hl : ls[g]? = some l) : GS ls K M (g + 1, nextD ls (g + 1), s) := by
  have hg := (List.getElem?_eq_some_iff.1 hl).1
  have hw := work_next (d := d) hg
  have hr := h.room
  exact ⟨fun l' h' => nextD_len h', h.ok, by simp only at hr ⊢; omega, h.up⟩
theorem loopP_low {G : List Bool → List Int → FS → Bool × FS} {l : List OpT} {d : List Bool} {s : List Int} {B : Int} (hB : 0 ≤ B) (hle : ∀ d t f, (G d t f).2.left ≤ f.left) (hG : ∀ d t f, (0 ≤ f.left → -B ≤ (G d t f).2.left) ∧ (f.left < 0 → f.left - 1 ≤ (G d t f).2.left)) :
    ∀ (n i : Nat) f, (0 ≤ f.left → -B - (n : Int) ≤ (loopP G l d s i n f).2.left) ∧ (f.left < 0 → f.left - (n : Int) ≤ (loopP G l d s i n f).2.left)
  | 0, i, f => ⟨fun h => by show _ ≤ f.left; omega, fun h => by show _ ≤ f.left; omega⟩
  | n + 1, i, f => by
    have ih := loopP_low (l := l) (d := d) (s := s) hB hle hG n (i + 1)
    rw [loopP]
    cases l[i]? with
    | none => exact ⟨fun h => by show _ ≤ f.left; omega, fun h => by show _ ≤ f.left; omega⟩
    | some o =>
      simp only
      have skip : (0 ≤ f.left → -B - ((n + 1 : Nat) : Int) ≤ (loopP G l d s (i + 1) n f).2.left) ∧ (f.left < 0 → f.left - ((n + 1 : Nat) : Int) ≤ (loopP G l d s (i + 1) n f).2.left) := by
        obtain ⟨h1, h2⟩ := ih f
        exact ⟨fun h => by have := h1 h; omega, fun h => by have := h2 h; omega⟩
      split
      · cases stepP s o with
        | none => exact skip
        | some t =>
          simp only
          have hg := hG (d.set i true) t { f with ids := f.ids ++ [o.ID] }
          have hl := hle (d.set i true) t { f with ids := f.ids ++ [o.ID] }
          generalize G (d.set i true) t { f with ids := f.ids ++ [o.ID] } = r at hg hl ⊢
          simp only at hg hl
          obtain ⟨a, b⟩ := ih { r.2 with ids := r.2.ids.dropLast }
          simp only at a b
          split
          · exact ⟨fun h => by have := hg.1 h; omega, fun h => by have := hg.2 h; omega⟩
          · refine ⟨fun h => ?_, fun h => ?_⟩
            · have := hg.1 h
              by_cases h0 : 0 ≤ r.2.left
              · have := a h0; omega
              · have := b (by omega); omega
            · have := hg.2 h
              have := b (by omega); omega
      · exact skip
theorem findP_low {ls : List (List OpT)} (h16 : ∀ l ∈ ls, l.length ≤ 16) : ∀ (k g : Nat) d s f, (0 ≤ f.left → -(17 * (k : Int)) ≤ (findP ls k g d s f).2.left) ∧ (f.left < 0 → f.left - 1 ≤ (findP ls k g d s f).2.left)
  | 0, g, d, s, f => ⟨fun h => by show _ ≤ f.left; omega, fun h => by show _ ≤ f.left; omega⟩
  | k + 1, g, d, s, f => by
    have same : (0 ≤ f.left → -(17 * ((k + 1 : Nat) : Int)) ≤ f.left) ∧ (f.left < 0 → f.left - 1 ≤ f.left) := ⟨fun h => by omega, fun h => by omega⟩
    rw [findP]
    cases hl : ls[g]? with
    | none => exact same
    | some l =>
      have hn := h16 l (List.mem_of_getElem? hl)
      simp only
      split
      · obtain ⟨a, b⟩ := findP_low h16 k (g + 1) (nextD ls (g + 1)) s f
        exact ⟨fun h => by have := a h; omega, b⟩
      · split
        · exact same
        · split
          · exact ⟨fun h => by simp only; omega, fun h => by simp only; omega⟩
          · have hL := loopP_low (l := l) (d := d) (s := s) (B := 17 * k) (by omega) (findP_left (ls := ls) k g) (fun d t f => findP_low h16 k g d t f) l.length 0 { f with left := f.left - 1, seen := (g, d, s) :: f.seen }
            generalize loopP (findP ls k g) l d s 0 l.length { f with left := f.left - 1, seen := (g, d, s) :: f.seen } = r at hL ⊢
            simp only at hL
            split
            · exact ⟨fun h => by have := hL.1 (by omega); omega, fun h => by omega⟩
            · exact ⟨fun h => by have := hL.1 (by omega); simp only; omega, fun h => by omega⟩
def DeadR (ls : List (List OpT)) (K : Int) (M W : Nat) (f f' : FS) : Prop := ∀ p ∈ f'.dead, p ∈ f.dead ∨ (GS ls K M p ∧ work ls p.1 p.2.1 ≤ W)
theorem loopP_dead {ls : List (List OpT)} {K : Int} {M g W : Nat} {G : List Bool → List Int → FS → Bool × FS} {l : List OpT} {d : List Bool} {s : List Int} (hl : ls[g]? = some l) (hs : GS ls K M (g, d, s)) (hK : ∀ o ∈ l, o.Kind = K) (hw : ∀ o ∈ l, o.wf) (hW : work ls g d ≤ W + 1)
    (hG : ∀ d' t f, GS ls K M (g, d', t) → work ls g d' ≤ W → DeadR ls K M W f (G d' t f).2) : ∀ n i f, DeadR ls K M W f (loopP G l d s i n f).2
  | 0, i, f => fun p hp => .inl hp
  | n + 1, i, f => by
    have ih := loopP_dead hl hs hK hw hW hG n (i + 1)
    rw [loopP]
    cases ho : l[i]? with
    | none => exact fun p hp => .inl hp
    | some o =>
      have hmem := List.mem_of_getElem? ho
      simp only
      split
      · rename_i hm
        cases hst : stepP s o with
        | none => exact ih f
        | some t =>
          simp only
          obtain ⟨g1, g2⟩ := hs.go hl ho hm hst (hK o hmem) (hw o hmem)
          have hg := hG (d.set i true) t { f with ids := f.ids ++ [o.ID] } g1 (by omega)
          generalize G (d.set i true) t { f with ids := f.ids ++ [o.ID] } = r at hg ⊢
          split
          · exact hg
          · intro p hp
            rcases ih { r.2 with ids := r.2.ids.dropLast } p hp with h | h
            · exact hg p h
            · exact .inr h
      · exact ih f
theorem findP_dead {ls : List (List OpT)} {K : Int} {M : Nat} (hK : ∀ l ∈ ls, ∀ o ∈ l, o.Kind = K) (hw : ∀ l ∈ ls, ∀ o ∈ l, o.wf) : ∀ (k g : Nat) d s f, GS ls K M (g, d, s) → DeadR ls K M (work ls g d) f (findP ls k g d s f).2
  | 0, g, d, s, f => fun _ p hp => .inl hp
  | k + 1, g, d, s, f => by
    intro hs
    rw [findP]
    cases hl : ls[g]? with
    | none => exact fun p hp => .inl hp
    | some l =>
      have hm := List.mem_of_getElem? hl
      have hg := (List.getElem?_eq_some_iff.1 hl).1
      have hwk := work_next (d := d) hg
      simp only
      split
      · intro p hp
        exact (findP_dead hK hw k (g + 1) _ s f (hs.full hl) p hp).imp id fun h => ⟨h.1, by have := h.2; omega⟩
      · split
        · exact fun p hp => .inl hp
        · split
          · exact fun p hp => .inl hp
          · have h1 : 1 ≤ work ls g d := by unfold work; omega
            have hL := loopP_dead (G := findP ls k g) (W := work ls g d - 1) hl hs (hK l hm) (hw l hm) (by omega) (fun d' t f' e1 e2 p hp => (findP_dead hK hw k g d' t f' e1 p hp).imp id fun h => ⟨h.1, by have := h.2; omega⟩) l.length 0 { f with left := f.left - 1, seen := (g, d, s) :: f.seen }
            have hL' : DeadR ls K M (work ls g d) f (loopP (findP ls k g) l d s 0 l.length { f with left := f.left - 1, seen := (g, d, s) :: f.seen }).2 := fun p hp => (hL p hp).imp id fun h => ⟨h.1, by have := h.2; omega⟩
            generalize loopP (findP ls k g) l d s 0 l.length { f with left := f.left - 1, seen := (g, d, s) :: f.seen } = r at hL' ⊢
            split
            · exact hL'
            · intro p hp
              rcases List.mem_cons.1 hp with rfl | hp
              · exact .inr ⟨hs, Nat.le_refl _⟩
              · exact hL' p hp
abbrev VL := Value × List OpT
structure SegW (w : World) (v : Value) (D : List VL) : Prop where
  row : Rd w 1 v D.length (D.map Prod.fst)
  rd : ∀ p ∈ D, RdS w 11 OpT.enc p.1 p.2
def SegW.foot (v : Value) (D : List VL) (k : Nat) : Prop := slFoot v k ∨ ∃ p ∈ D, slFoot p.1 k
theorem SegW.loc {w w' : World} {v : Value} {D : List VL} (h : SegW w v D) (hk : ∀ k, SegW.foot v D k → w'.heap[k]? = w.heap[k]?) : SegW w' v D :=
  ⟨Rd.loc h.row fun k hf => hk k (.inl hf), fun p hp => RdS.loc (h.rd p hp) fun k hf => hk k (.inr ⟨p, hp, hf⟩)⟩
def Inv.segw (v : Value) (D : List VL) : Inv := ⟨fun w => SegW w v D, SegW.foot v D, fun _ _ h hk => h.loc hk⟩
theorem SegW.form {w : World} {v : Value} {D : List VL} (h : SegW w v D) : ∃ a c, v = .slice a D.length c ∧ D.length ≤ c := by
  obtain ⟨_, a, c, e, hc, _⟩ := h.row
  exact ⟨a, c, e, hc⟩
theorem SegW.ptr {w : World} {a : Option Addr} {n c : Nat} {D : List VL} (h : SegW w (.slice a n c) D) (h0 : 0 < D.length) : ∃ p, a = some p := by
  obtain ⟨_, a', c', e, _, hp⟩ := h.row
  cases e
  obtain ⟨p, hp, _⟩ := hp (by omega)
  exact ⟨p, hp⟩
theorem SegW.at {w : World} {p : Addr} {n c : Nat} {D : List VL} (h : SegW w (.slice (some p) n c) D) {k : Nat} (hk : k < D.length) : w.cell? (p.add k) = some D[k].1 := by
  obtain ⟨_, a', c', e, _, hp⟩ := h.row
  cases e
  obtain ⟨q, hq, hc⟩ := hp (by omega)
  cases hq
  exact hc k _ (by simp [hk])
theorem own_cut {w : World} {B e n c m : Nat} {a : Option Addr} {xs : List Value} (h : w.ownsRow B e 1 (.slice a n c) n xs) (hm : m ≤ n) (ha : 0 < n) : w.ownsRow B e 1 (.slice a m c) m (xs.take m) := by
  obtain ⟨h1, h2⟩ := h
  refine ⟨by rw [List.length_take]; omega, ?_⟩
  rcases h2 with ⟨_, h0⟩ | ⟨g, cap, cur, e1, hg, hb, hn, hc, hs, ht⟩
  · omega
  · simp only [Value.slice.injEq] at e1
    obtain ⟨rfl, _, rfl⟩ := e1
    refine .inr ⟨g, c, cur, rfl, hg, hb, by omega, hc, hs, ?_⟩
    rw [← ht, List.take_take, Nat.mul_one, Nat.mul_one, Nat.min_eq_left hm]
end Go.Proofs.Ytbeoedgoikcbpaa

namespace Go.Proofs.Ytbeoedgoikcbpaa
set_option linter.unusedSimpArgs false
set_option linter.unusedVariables false
set_option maxRecDepth 100000
open Go Go.Ann Go.RowKit
def lw (x : Int) : Int := if x = 9223372036854775808 then -9223372036854775808 else x
def FL (x m : Nat) (lv iv : Value) (f : FS) : List Res :=
  [.blk x #[lv, .map (some m), iv, .int .i64 (lw f.left)] 99, .row iv 3 1 f.ids.length (f.ids.flatMap intE), .obj m (mapO (fun k : OKey => .agg (osE k).toArray) (f.dead.reverse.map osK))]
theorem st_mv {W0 w : World} {F : Nat → Prop} {L : List Res} {I : List Inv} {a b c z y : Res} (h : St W0 w F (a :: b :: c :: z :: y :: L) I) : St W0 w F (y :: a :: b :: c :: L) I :=
  (h.sub (L' := a :: b :: c :: y :: L) (((((List.Sublist.refl _).cons z).cons_cons c).cons_cons b).cons_cons a)).perm (List.perm_middle (a := y) (l₁ := [a, b, c]) (l₂ := L)).symm
theorem flatI_len : ∀ l : List Int, (l.flatMap intE).length = l.length
  | [] => rfl
  | a :: l => by rw [List.flatMap_cons, List.length_append, flatI_len l, List.length_cons]; simp [intE]; omega
set_option maxHeartbeats 2000000 in
theorem find_ok {ls : List (List OpT)} {D : List VL} {K : Int} {M x m : Nat} {lv : Value} (hD : D.map Prod.snd = ls) (h16 : ∀ l ∈ ls, l.length ≤ 16) (hK : ∀ l ∈ ls, ∀ o ∈ l, o.Kind = K) (hw : ∀ l ∈ ls, ∀ o ∈ l, o.wf) (hn : ls.length ≤ 1000) (hM : M ≤ 100000) :
    ∀ (k g : Nat) d s f W0 w F L I iv sv, work ls g d ≤ k → k ≤ 100000 → St W0 w F (FL x m lv iv f ++ L) (Inv.rd 1 intE sv s :: Inv.segw lv D :: I) → GS ls K M (g, d, s) → g ≤ ls.length → (∀ p ∈ f.dead, GS ls K M p) → -9223372036854775808 < f.left → f.left ≤ 9223372036854775808 → f.ids.length + work ls g d ≤ 200000 →
    Ret Try.prog 61 [.pointer (some ⟨x, 0, none⟩), .int .i64 g, .int .u32 (maskN d), sv] w fun u w' => ∃ iv', u = .bool (findP ls k g d s f).1 ∧ St W0 w' F (FL x m lv iv' (findP ls k g d s f).2 ++ L) (Inv.rd 1 intE sv s :: Inv.segw lv D :: I)
  | 0, g, d, s, f, W0, w, F, L, I, iv, sv => fun hk => by unfold work at hk; omega
  | k + 1, g, d, s, f, W0, w, F, L, I, iv, sv => by
    intro hk hk5 h hgs hg hdead hlo hhi hids
    have hlen : D.length = ls.length := by rw [← hD, List.length_map]
    have r0 := h.rules 0 rfl
    have l0 := h.low 0 rfl
    have hseg : SegW w lv D := h.get 1 rfl
    have hsv : RdS w 1 intE sv s := h.rd 0 rfl
    obtain ⟨la, lc, rfl, _⟩ := hseg.form
    obtain ⟨sa, sc, rfl, _⟩ := hsv.form
    refine ent61 _ _ _ _ _ _ ?_
    by_cases hend : g = ls.length
    · have e1 : findP ls (k + 1) g d s f = (true, f) := by rw [findP, List.getElem?_eq_none (by omega)]
      rw [e1]
      have hend' : (g : Int) = (D.length : Int) := by omega
      simp (disch := first | omega | exact okFill_t rfl | exact okSize_t rfl | exact fun h => h | (simp only [World.size_alloc, World.size_drew, World.size_setCell, size_fill, bytesW]; omega)) only [go_sem, c61, c61S0, c61S1, c61S2, c61S3, c61S4, c61S5, c61S6, c61S7, c61S8, c61S9, c61S10, c61S11, c61L0, c61S12, c61S13, c61S14, c61S15, c61S16, c61S17, c61S18, r0, hend']
      exact ⟨iv, h⟩
    · have hlt : g < D.length := by omega
      have hltl : g < ls.length := by omega
      obtain ⟨lp, rfl⟩ := hseg.ptr (by omega)
      have eg := hseg.at hlt
      have hl : ls[g]? = some ls[g] := List.getElem?_eq_getElem hltl
      have el : D[g].2 = ls[g] := by subst hD; simp
      have hrd : RdS w 11 OpT.enc D[g].1 ls[g] := by rw [← el]; exact hseg.rd _ (List.getElem_mem hlt)
      generalize hvl : D[g].1 = vl at eg hrd
      obtain ⟨va, vc, rfl, _⟩ := hrd.form
      have hd := hgs.len _ hl
      simp only at hd
      have h16g := h16 _ (List.getElem_mem hltl)
      have hend' : ¬ (g : Int) = (D.length : Int) := by omega
      have hlt' : (g : Int) < D.length := by omega
      simp (disch := first | omega | exact okFill_t rfl | exact okSize_t rfl | exact fun h => h | (simp only [World.size_alloc, World.size_drew, World.size_setCell, size_fill, bytesW]; omega)) only [go_sem, c61, c61S0, c61S2, c61S3, c61S4, c61S5, c61S6, c61S7, c61S8, c61S9, c61S10, c61S11, c61L0, c61S12, c61S13, c61S14, c61S15, c61S16, c61S18, r0, hend', eg, hlt']
      refine ⟨by omega, Ret.mono (ofull_ok hrd hd h16g) ?_⟩
      rintro _ w2 ⟨rfl, b2⟩
      have s2 := h.call b2
      clear h hseg hsv r0
      have r2 := s2.rules 0 rfl
      have l2 := s2.low 0 rfl
      cases hf : fullP ls[g] d with
      | true =>
        have e1 : findP ls (k + 1) g d s f = findP ls k (g + 1) (nextD ls (g + 1)) s f := by rw [findP, hl]; simp only [hf, if_true]
        have hwn := work_next (d := d) hltl
        have em : (maskN (nextD ls (g + 1)) : Int) = 0 := by unfold nextD; rw [maskN_none]; rfl
        have eg1 : IntKind.i64.wrap ((g : Int) + 1) = ((g + 1 : Nat) : Int) := by rw [wrap_i64 _ ⟨by omega, by omega⟩]; omega
        rw [e1]
        simp (disch := first | omega | exact okFill_t rfl | exact okSize_t rfl | exact fun h => h | (simp only [World.size_alloc, World.size_drew, World.size_setCell, size_fill, bytesW]; omega)) only [go_sem, c61, c61S0, c61S1, c61S2, c61S3, c61S4, c61S5, c61S6, c61S7, c61S8, c61S9, c61S10, c61S11, c61L0, c61S12, c61S13, c61S14, c61S15, c61S16, c61S18, eg1]
        have ih := find_ok hD h16 hK hw hn hM k (g + 1) (nextD ls (g + 1)) s f W0 w2 F L I iv (.slice sa s.length sc) (by omega) (by omega) s2 (hgs.full hl) (by omega) hdead hlo hhi (by omega)
        rw [em] at ih
        refine Ret.mono ih ?_
        rintro _ w3 ⟨iv3, rfl, s3⟩
        simp (disch := first | omega | exact okFill_t rfl | exact okSize_t rfl | exact fun h => h | (simp only [World.size_alloc, World.size_drew, World.size_setCell, size_fill, bytesW]; omega)) only [go_sem, c61, c61S0, c61S1, c61S2, c61S3, c61S4, c61S5, c61S6, c61S7, c61S8, c61S9, c61S10, c61S11, c61L0, c61S12, c61S13, c61S14, c61S15, c61S16, c61S17, c61S18]
        exact ⟨iv3, s3⟩
      | false =>
        have hsv2 : RdS w2 1 intE (.slice sa s.length sc) s := s2.rd 0 rfl
        simp (disch := first | omega | exact okFill_t rfl | exact okSize_t rfl | exact fun h => h | (simp only [World.size_alloc, World.size_drew, World.size_setCell, size_fill, bytesW]; omega)) only [go_sem, c61, c61S0, c61S1, c61S2, c61S3, c61S4, c61S5, c61S6, c61S7, c61S8, c61S9, c61S10, c61S11, c61L0, c61S12, c61S13, c61S14, c61S15, c61S17, c61S18]
        refine Ret.mono (text_ok _ s w2 hsv2 hgs.ok (hgs.okS (by omega)).2) ?_
        rintro _ w3 ⟨rfl, g3⟩
        have s3 := s2.call g3.below
        clear s2 r2 hsv2
        simp (disch := first | omega | exact okFill_t rfl | exact okSize_t rfl | exact fun h => h | (simp only [World.size_alloc, World.size_drew, World.size_setCell, size_fill, bytesW]; omega)) only [go_sem, c61, c61S0, c61S1, c61S2, c61S3, c61S4, c61S5, c61S6, c61S7, c61S8, c61S9, c61S10, c61S11, c61L0, c61S12, c61S13, c61S14, c61S15, c61S17, c61S18]
        refine bdW_built (cells := #[.int .i64 g, .int .u32 (maskN d), .string (ofL (txt s))]) (by kernel_rfl) ?_
        simp (disch := first | omega | exact okFill_t rfl | exact okSize_t rfl | exact fun h => h | (simp only [World.size_alloc, World.size_drew, World.size_setCell, size_fill, bytesW]; omega)) only [go_sem, c61, c61S0, c61S1, c61S2, c61S3, c61S4, c61S5, c61S6, c61S7, c61S8, c61S9, c61S10, c61S11, c61L0, c61S12, c61S13, c61S14, c61S15, c61S17, c61S18]
        have s4 := s3.box #[.int .i64 g, .int .u32 (maskN d), .string (ofL (txt s))] 134
        generalize w3.alloc (.cells #[.int .i64 g, .int .u32 (maskN d), .string (ofL (txt s))] 134) = w4 at s4 ⊢
        generalize w3.heap.size = y at s4 ⊢
        clear s3
        have r5 := s4.rules 1 rfl
        have q5 := s4.rules 0 rfl
        have k5 := s4.low 1 rfl
        have m5 := s4.low 0 rfl
        have s5 := s4.drew
        obtain ⟨kd, hkt⟩ := keyT_os
        simp (disch := first | omega | exact okFill_t rfl | exact okSize_t rfl | exact fun h => h | (simp only [World.size_alloc, World.size_drew, World.size_setCell, size_fill, bytesW]; omega)) only [go_sem, c61, c61S0, c61S1, c61S2, c61S3, c61S4, c61S5, c61S6, c61S7, c61S8, c61S9, c61S10, c61S11, c61L0, c61S12, c61S13, c61S14, c61S16, c61S17, c61S18]
        refine c61draw0 (Chg (fun _ => False) _) (Chg.refl _ _) ?_
        simp (disch := first | omega | exact okFill_t rfl | exact okSize_t rfl | exact fun h => h | (simp only [World.size_alloc, World.size_drew, World.size_setCell, size_fill, bytesW]; omega)) only [go_sem, c61, c61S0, c61S1, c61S2, c61S3, c61S4, c61S5, c61S6, c61S7, c61S8, c61S9, c61S10, c61S11, c61L0, c61S12, c61S13, c61S14, c61S16, c61S17, c61S18, c61D0, r5, q5]
        refine luW_map hkt Try.underlying96 (s5.obj 3 rfl) (osK (g, d, s)) (Try.zeroValue4 _) ?_
        have hmem : osK (g, d, s) ∈ f.dead.reverse.map osK ↔ (g, d, s) ∈ f.dead := by
          rw [osK_mem (ls := ls) hl hd (hgs.okS (by omega)) (fun p hp => ⟨(hdead p (List.mem_reverse.1 hp)).len, (hdead p (List.mem_reverse.1 hp)).okS (by omega)⟩), List.mem_reverse]
        by_cases hdd : (g, d, s) ∈ f.dead
        · have e1 : findP ls (k + 1) g d s f = (false, f) := by rw [findP, hl]; simp only [hf, Bool.false_eq_true, if_false, if_pos hdd]
          rw [e1]
          simp (disch := first | omega | exact okFill_t rfl | exact okSize_t rfl | exact fun h => h | (simp only [World.size_alloc, World.size_drew, World.size_setCell, size_fill, bytesW]; omega)) only [go_sem, c61, c61S0, c61S1, c61S2, c61S3, c61S4, c61S5, c61S6, c61S7, c61S8, c61S9, c61S10, c61S11, c61L0, c61S12, c61S13, c61S14, c61S15, c61S16, c61S17, c61S18, c61D0, hmem.2 hdd]
          exact ⟨iv, s5.sub (List.sublist_cons_self _ _)⟩
        · have hnd : ¬ osK (g, d, s) ∈ f.dead.reverse.map osK := fun h => hdd (hmem.1 h)
          have r6 := s5.rules 1 rfl
          have k6 := s5.low 1 rfl
          have elw : IntKind.i64.wrap (lw f.left - 1) = f.left - 1 := by
            unfold lw
            split
            · rename_i e; rw [e]; decide
            · exact wrap_i64 _ ⟨by omega, by omega⟩
          simp (disch := first | omega | exact okFill_t rfl | exact okSize_t rfl | exact fun h => h | (simp only [World.size_alloc, World.size_drew, World.size_setCell, size_fill, bytesW]; omega)) only [go_sem, c61, c61S0, c61S1, c61S2, c61S3, c61S4, c61S5, c61S6, c61S7, c61S8, c61S9, c61S10, c61S11, c61L0, c61S12, c61S13, c61S15, c61S16, c61S17, c61S18, c61D0, hnd, r5, elw]
          have s6 := ((s4.set 1 rfl 3 (.int .i64 (f.left - 1))).drew)
          generalize (w4.setCell ⟨x, 3, none⟩ (.int .i64 (f.left - 1))).drew = w6 at s6 ⊢
          clear s4 s5 r5 q5 r6
          have elw1 : lw (f.left - 1) = f.left - 1 := if_neg (by omega)
          have s6 : St W0 w6 F (.blk y #[.int .i64 g, .int .u32 (maskN d), .string (ofL (txt s))] 134 :: FL x m (.slice (some lp) D.length lc) iv { f with left := f.left - 1, seen := (g, d, s) :: f.seen } ++ L) (Inv.rd 1 intE (.slice sa s.length sc) s :: Inv.segw (.slice (some lp) D.length lc) D :: I) := by
            unfold FL
            simp only [elw1]
            exact s6
          refine ⟨fun hz => ?_, fun hz => ?_⟩
          · have e1 : findP ls (k + 1) g d s f = (false, { f with left := f.left - 1, seen := (g, d, s) :: f.seen }) := by rw [findP, hl]; simp only [hf, Bool.false_eq_true, if_false, if_neg hdd, if_pos hz]
            rw [e1]
            exact ⟨iv, rfl, s6.sub (List.sublist_cons_self _ _)⟩
          · obtain ⟨R0, hR0⟩ : ∃ r, loopP (findP ls k g) ls[g] d s 0 ls[g].length { f with left := f.left - 1, seen := (g, d, s) :: f.seen } = r := ⟨_, rfl⟩
            have e1 : findP ls (k + 1) g d s f = if R0.1 then R0 else (false, { R0.2 with dead := (g, d, s) :: R0.2.dead }) := by
              rw [findP, hl]; simp only [hf, Bool.false_eq_true, if_false, if_neg hdd, if_neg (show ¬ f.left - 1 < 0 by omega), hR0]
            rw [e1]
            simp (disch := first | omega | exact okFill_t rfl | exact okSize_t rfl | exact fun h => h | (simp only [World.size_alloc, World.size_drew, World.size_setCell, size_fill, bytesW]; omega)) only [go_sem, c61, c61S0, c61S1, c61S2, c61S3, c61S4, c61S5, c61S6, c61S7, c61S8, c61S9, c61S10, c61S11, c61L0, c61S12, c61S14, c61S15, c61S16, c61S17, c61S18]
            refine W_loopU (fun q : Nat × Value × FS => [(62, .int .i64 q.1)]) (fun q w' => St W0 w' F (.blk y #[.int .i64 g, .int .u32 (maskN d), .string (ofL (txt s))] 134 :: FL x m (.slice (some lp) D.length lc) q.2.1 q.2.2 ++ L) (Inv.rd 1 intE (.slice sa s.length sc) s :: Inv.segw (.slice (some lp) D.length lc) D :: I) ∧
              q.1 ≤ ls[g].length ∧ loopP (findP ls k g) ls[g] d s q.1 (ls[g].length - q.1) q.2.2 = R0 ∧ q.2.2.ids = f.ids ∧ -(17 * (k : Int)) - q.1 ≤ q.2.2.left ∧ q.2.2.left ≤ f.left - 1 ∧ (∀ p ∈ q.2.2.dead, GS ls K M p) ∧ (g, d, s) ∉ q.2.2.dead) (fun q => ls[g].length - q.1) (0, iv, { f with left := f.left - 1, seen := (g, d, s) :: f.seen }) rfl ⟨s6, Nat.zero_le _, hR0, rfl, by simp only; omega, Int.le_refl _, hdead, hdd⟩ ?_
            clear s6 hR0
            rintro ⟨i, iw, f6⟩ w7 ⟨s7, hi, hR, eid, hle1, hle2, hd7, hnd7⟩
            simp only at s7 hi hR eid hle1 hle2 hd7 hnd7
            have hseg7 : SegW w7 (.slice (some lp) D.length lc) D := s7.get 1 rfl
            have hrd7 : RdS w7 11 OpT.enc (.slice va ls[g].length vc) ls[g] := by have := hseg7.rd _ (List.getElem_mem hlt); rwa [el, hvl] at this
            have hsv7 : RdS w7 1 intE (.slice sa s.length sc) s := s7.rd 0 rfl
            by_cases hil : i < ls[g].length
            · have hil' : (i : Int) < ls[g].length := by omega
              obtain ⟨op, rfl⟩ := hrd7.ptr (by omega)
              have eo := hrd7.at OpT.len hil
              have ho : ls[g][i]? = some ls[g][i] := List.getElem?_eq_getElem hil
              have e2 := wrap_u64_nat (show i < 18446744073709551616 by omega)
              have e3 : bits .and .u32 ((maskN d : Int) / 2 ^ min i 32) 1 = if d.getD i false = true then 1 else 0 := by
                rw [Nat.min_eq_left (by omega)]; exact mask_bit (by omega)
              have e4 : IntKind.i64.wrap ((i : Int) + 1) = (i : Int) + 1 := wrap_i64 _ ⟨by omega, by omega⟩
              have hid : i < d.length := by omega
              have en : ls[g].length - i = (ls[g].length - (i + 1)) + 1 := by omega
              have s8 := s7.box ls[g][i].enc.toArray 58
              simp (disch := first | omega | exact okFill_t rfl | exact okSize_t rfl | exact fun h => h | (simp only [World.size_alloc, World.size_drew, World.size_setCell, size_fill, bytesW]; omega)) only [go_sem, c61, c61S0, c61S1, c61S2, c61S4, c61S5, c61S6, c61S7, c61S8, c61S10, c61S11, c61L0, c61S12, c61S13, c61S14, c61S15, c61S16, c61S17, c61S18, c61L0, hil', eo, OpT.len, e2, e3, e4]
              have stop : ∀ {w' : World} {L' : List Res}, St W0 w' F (L' ++ (.blk y #[.int .i64 g, .int .u32 (maskN d), .string (ofL (txt s))] 134 :: FL x m (.slice (some lp) D.length lc) iw f6 ++ L)) (Inv.rd 1 intE (.slice sa s.length sc) s :: Inv.segw (.slice (some lp) D.length lc) D :: I) → loopP (findP ls k g) ls[g] d s (i + 1) (ls[g].length - (i + 1)) f6 = R0 →
                  ∃ s', (s' = (i + 1, iw, f6)) ∧ (St W0 w' F (.blk y #[.int .i64 g, .int .u32 (maskN d), .string (ofL (txt s))] 134 :: FL x m (.slice (some lp) D.length lc) iw f6 ++ L) (Inv.rd 1 intE (.slice sa s.length sc) s :: Inv.segw (.slice (some lp) D.length lc) D :: I) ∧
                  i + 1 ≤ ls[g].length ∧ loopP (findP ls k g) ls[g] d s (i + 1) (ls[g].length - (i + 1)) f6 = R0 ∧ f6.ids = f.ids ∧ -(17 * (k : Int)) - ((i + 1 : Nat) : Int) ≤ f6.left ∧ f6.left ≤ f.left - 1 ∧ (∀ p ∈ f6.dead, GS ls K M p) ∧ (g, d, s) ∉ f6.dead) ∧ ls[g].length - (i + 1) < ls[g].length - i := fun hst hr => ⟨_, rfl, ⟨hst.sub (List.sublist_append_right _ _), by omega, hr, eid, by omega, hle2, hd7, hnd7⟩, by omega⟩
              have ehead : (mayP ls[g] d i ls[g][i] = true → ∀ t, stepP s ls[g][i] = some t → R0 = (let r := findP ls k g (d.set i true) t { f6 with ids := f6.ids ++ [ls[g][i].ID] }; if r.1 then r else loopP (findP ls k g) ls[g] d s (i + 1) (ls[g].length - (i + 1)) { r.2 with ids := r.2.ids.dropLast })) ∧ (mayP ls[g] d i ls[g][i] = false ∨ stepP s ls[g][i] = none → loopP (findP ls k g) ls[g] d s (i + 1) (ls[g].length - (i + 1)) f6 = R0) := by
                rw [en, loopP, ho] at hR
                simp only at hR
                refine ⟨fun h1 t h2 => ?_, fun h1 => ?_⟩
                · rw [h1, h2] at hR; simp only [if_true] at hR; exact hR.symm
                · rcases h1 with h1 | h1
                  · rw [h1] at hR; simpa using hR
                  · rw [h1] at hR; simpa using hR
              refine ⟨by omega, by omega, fun hb => Ret.mono (olate_ok (hrd7.below ((Below.refl _ _).alloc (Nat.le_refl _) _) (by decide)) hd h16g) ?_, fun hb => ?_⟩
              · have hdi : d.getD i false = false := by
                  cases h : d.getD i false with
                  | false => rfl
                  | true => rw [if_pos h] at hb; exact absurd rfl hb
                rintro _ w9 ⟨rfl, b9⟩
                have s9 := s8.call b9
                clear s8 s7
                have q9 := s9.rules 0 rfl
                rw [hdi]
                cases hz : ((ls[g].map fun p => before p ls[g][i]).zip d).all fun p => p.2 || !p.1 with
                | false =>
                  have hmay : mayP ls[g] d i ls[g][i] = false := by unfold mayP; rw [hz, Bool.and_false]
                  simp (disch := first | omega | exact okFill_t rfl | exact okSize_t rfl | exact fun h => h | (simp only [World.size_alloc, World.size_drew, World.size_setCell, size_fill, bytesW]; omega)) only [go_sem, c61, c61S0, c61S1, c61S2, c61S3, c61S4, c61S5, c61S6, c61S7, c61S8, c61S9, c61S10, c61S11, c61L0, c61S12, c61S13, c61S14, c61S15, c61S16, c61S17, c61S18, e4]
                  obtain ⟨s', rfl, h1, h2⟩ := stop (L' := [_]) s9 (ehead.2 (.inl hmay))
                  exact ⟨(i + 1, iw, f6), rfl, h1, h2⟩
                | true =>
                  have hmay : mayP ls[g] d i ls[g][i] = true := by unfold mayP; rw [hz, hdi]; rfl
                  have hmem := List.getElem_mem hil
                  have hlm := List.getElem_mem hltl
                  simp (disch := first | omega | exact okFill_t rfl | exact okSize_t rfl | exact fun h => h | (simp only [World.size_alloc, World.size_drew, World.size_setCell, size_fill, bytesW]; omega)) only [go_sem, c61, c61S0, c61S1, c61S2, c61S3, c61S4, c61S5, c61S6, c61S7, c61S8, c61S9, c61S10, c61S11, c61L0, c61S12, c61S13, c61S14, c61S15, c61S16, c61S17, c61S18, q9, OpT.len]
                  refine Ret.mono (step_ok _ s ls[g][i] _ (s9.rd 0 rfl) (hgs.okS (by omega)).2 (fun e => hgs.up ((hK _ hlm _ hmem).symm.trans e))) ?_
                  rintro _ w10 ⟨⟨v10, ok10, rfl, hm10⟩, b10⟩
                  have s10 := s9.call b10
                  cases hst : stepP s ls[g][i] with
                  | none =>
                    rw [hst] at hm10
                    have hm10 : ok10 = false := hm10
                    subst hm10
                    simp (disch := first | omega | exact okFill_t rfl | exact okSize_t rfl | exact fun h => h | (simp only [World.size_alloc, World.size_drew, World.size_setCell, size_fill, bytesW]; omega)) only [go_sem, c61, c61S0, c61S1, c61S2, c61S3, c61S4, c61S5, c61S6, c61S7, c61S8, c61S9, c61S10, c61S11, c61L0, c61S12, c61S13, c61S14, c61S15, c61S16, c61S17, c61S18, e4]
                    obtain ⟨s', rfl, h1, h2⟩ := stop (L' := [_]) s10 (ehead.2 (.inr hst))
                    exact ⟨(i + 1, iw, f6), rfl, h1, h2⟩
                  | some t =>
                    rw [hst] at hm10
                    obtain ⟨rfl, h10, f10⟩ := hm10
                    obtain ⟨ta, tc, rfl, _⟩ := h10.form
                    have s11 := s9.addRd b10 h10 (by decide) fun j hj => .inr (.inr (f10 j hj))
                    simp (disch := first | omega | exact okFill_t rfl | exact okSize_t rfl | exact fun h => h | (simp only [World.size_alloc, World.size_drew, World.size_setCell, size_fill, bytesW]; omega)) only [go_sem, c61, c61S0, c61S1, c61S2, c61S3, c61S4, c61S6, c61S7, c61S8, c61S9, c61S10, c61S11, c61L0, c61S12, c61S13, c61S14, c61S15, c61S16, c61S17, c61S18]
                    generalize w7.heap.size = z at s11 ⊢
                    clear s10 s9 q9
                    obtain ⟨ia, ic, rfl, _⟩ := own_slice (s11.row 3 rfl)
                    have r11 := s11.rules 2 rfl
                    have q11 := s11.rules 0 rfl
                    have k11 := s11.low 2 rfl
                    have m11 := s11.low 0 rfl
                    have hoi := ls[g][i].at
                    have n11 : z ≠ x := fun e => s11.ne 2 0 rfl rfl (by decide) rfl (by rw [← e]; rfl)
                    have o11 : (Value.slice ia f6.ids.length ic).ownBlock ≠ some x := s11.ne 2 3 rfl rfl (by decide) rfl
                    have p11 : (Value.slice ia f6.ids.length ic).ownBlock ≠ some z := s11.ne 0 3 rfl rfl (by decide) rfl
                    have s12 := s11.drew
                    refine c61draw1 (Chg (fun j => (Value.slice ia f6.ids.length ic).ownBlock = some j) _) (Chg.refl _ _) ?_
                    have z11 : w10.drew.heap.size = w10.heap.size := rfl
                    simp (disch := first | omega | exact okFill_t rfl | exact okSize_t rfl | exact fun h => h | (simp only [World.size_alloc, World.size_drew, World.size_setCell, size_fill, bytesW]; omega)) only [go_sem, c61, c61S0, c61S1, c61S2, c61S3, c61S4, c61S6, c61S7, c61S8, c61S9, c61S10, c61S11, c61L0, c61S12, c61S13, c61S14, c61S15, c61S16, c61S17, c61S18, c61D1, r11, q11, hoi]
                    refine bsW_ones ty36mkI rfl rfl (by decide) (by decide) (intE_one _) ?_
                    have s13 := s12.alloc' (.cells #[.int .i64 ls[g][i].ID] 3)
                    have hx : Rd (w10.drew.alloc (.cells #[.int .i64 ls[g][i].ID] 3)) 1 (.slice (some ⟨w10.drew.heap.size, 0, none⟩) 1 1) 1 [.int .i64 ls[g][i].ID] := rd_new (n := 1) (cs := #[.int .i64 ls[g][i].ID]) rfl
                    simp (disch := first | omega | exact okFill_t rfl | exact okSize_t rfl | exact fun h => h | (simp only [World.size_alloc, World.size_drew, World.size_setCell, size_fill, bytesW]; omega)) only [go_sem, c61, c61S0, c61S1, c61S2, c61S3, c61S4, c61S6, c61S7, c61S8, c61S9, c61S10, c61S11, c61L0, c61S12, c61S13, c61S14, c61S15, c61S16, c61S17, c61S18, c61D1]
                    refine ⟨Chg.of_below ((Below.refl _ _).alloc (Nat.le_refl _) _), s13.append 3 rfl ty36mkI rfl (by decide) hx (intE_one _) (by rw [eid]; omega) (by rw [eid]; omega) ?_⟩
                    intro v14 w14 s14 c14
                    simp only [List.set_cons_zero, List.set_cons_succ, List.cons_append, FL] at s14
                    obtain ⟨a14, d14, rfl, _⟩ := own_slice (s14.row 3 rfl)
                    have r14 := s14.rules 2 rfl
                    simp (disch := first | omega | exact okFill_t rfl | exact okSize_t rfl | exact fun h => h | (simp only [World.size_alloc, World.size_drew, World.size_setCell, size_fill, bytesW]; omega)) only [go_sem, c61, c61S0, c61S1, c61S2, c61S3, c61S4, c61S6, c61S7, c61S8, c61S9, c61S10, c61S11, c61L0, c61S12, c61S13, c61S14, c61S15, c61S16, c61S17, c61S18, c61D1, r14]
                    have s15 := s14.set 2 rfl 2 (.slice a14 (f6.ids.length + 1) d14)
                    generalize w14.setCell ⟨x, 2, none⟩ (.slice a14 (f6.ids.length + 1) d14) = w15 at s15 ⊢
                    obtain ⟨fn, hfn⟩ : ∃ fn : FS, fn = { f6 with ids := f6.ids ++ [ls[g][i].ID] } := ⟨_, rfl⟩
                    have s15 : St W0 w15 F (FL x m (.slice (some lp) D.length lc) (.slice a14 (f6.ids.length + 1) d14) fn ++ (.blk z ls[g][i].enc.toArray 58 :: .blk y #[.int .i64 g, .int .u32 (maskN d), .string (ofL (txt s))] 134 :: L)) (Inv.rd 1 intE (.slice ta t.length tc) t :: Inv.segw (.slice (some lp) D.length lc) D :: Inv.rd 1 intE (.slice sa s.length sc) s :: I) := by
                      refine (s15.inv_sub (I' := Inv.rd 1 intE (.slice ta t.length tc) t :: Inv.segw (.slice (some lp) D.length lc) D :: Inv.rd 1 intE (.slice sa s.length sc) s :: I) (fun a ha => ?_)).perm ?_
                      · simp only [List.mem_cons] at ha ⊢
                        rcases ha with h | h | h | h
                        · exact .inl h
                        · exact .inr (.inr (.inl h))
                        · exact .inr (.inl h)
                        · exact .inr (.inr (.inr h))
                      · subst hfn
                        have e : ((f6.ids ++ [ls[g][i].ID]).flatMap intE) = f6.ids.flatMap intE ++ [.int .i64 ls[g][i].ID] := by simp [intE]
                        simp only [FL, e, List.length_append, List.length_cons, List.length_nil]
                        exact (List.perm_append_comm (l₁ := [_, _, _]) (l₂ := [_, _])).append_right L
                    have e5 : bits BinOp.or IntKind.u32 (maskN d : Int) (IntKind.u32.wrap (1 * 2 ^ min (IntKind.u64.wrap (i : Int)).toNat 32)) = (maskN (d.set i true) : Int) := by
                      rw [e2, Int.toNat_natCast, Nat.min_eq_left (by omega), Int.one_mul, wrap_u32]
                      have hp : (2 : Nat) ^ i ≤ 2 ^ 16 := Nat.pow_le_pow_right (by decide) (by omega)
                      have hc : ((2 : Int) ^ i) = ((2 ^ i : Nat) : Int) := by simp
                      have hm : maskN d < 4294967296 := Nat.lt_of_lt_of_le (maskN_lt d) (Nat.le_trans (Nat.pow_le_pow_right (by decide) (show d.length ≤ 16 by omega)) (by decide))
                      have hq : ∀ j : Nat, j ≤ 2 ^ 16 → ((j : Int) % 4294967296) = (j : Int) := fun j hj => by omega
                      rw [hc, hq _ hp, or_u32 hm (Nat.lt_of_le_of_lt hp (by decide)), maskN_set hid]
                    rw [e5]
                    obtain ⟨gs1, wk1⟩ := hgs.go hl ho hmay hst (hK _ hlm _ hmem) (hw _ hlm _ hmem)
                    have eR := ehead.1 hmay t hst
                    have hdd1 := findP_dead hK hw k g (d.set i true) t fn gs1
                    have hids1 : (findP ls k g (d.set i true) t fn).1 = false → (findP ls k g (d.set i true) t fn).2.ids = fn.ids := findP_ids k g (d.set i true) t fn
                    have hlow1 := findP_low h16 k g (d.set i true) t fn
                    have hle3 := findP_left (ls := ls) k g (d.set i true) t fn
                    have ih := find_ok hD h16 hK hw hn hM k g (d.set i true) t fn W0 w15 F _ _ (.slice a14 (f6.ids.length + 1) d14) (.slice ta t.length tc) (by omega) (by omega) s15 gs1 hg (by subst hfn; exact hd7) (by subst hfn; simp only; omega) (by subst hfn; simp only; omega) (by subst hfn; simp only [List.length_append, List.length_cons, List.length_nil, eid]; omega)
                    rw [← hfn] at eR
                    refine Ret.mono ih ?_
                    clear ih
                    generalize findP ls k g (d.set i true) t fn = r at eR hdd1 hids1 hlow1 hle3 ⊢
                    obtain ⟨rb, rf⟩ := r
                    rintro _ w16 ⟨iv16, rfl, s16⟩
                    simp only at s16 eR hdd1 hids1 hlow1 hle3
                    cases rb with
                    | true =>
                      simp only [if_true] at eR
                      subst eR
                      simp (disch := first | omega | exact okFill_t rfl | exact okSize_t rfl | exact fun h => h | (simp only [World.size_alloc, World.size_drew, World.size_setCell, size_fill, bytesW]; omega)) only [go_sem, c61, c61S0, c61S1, c61S2, c61S3, c61S4, c61S5, c61S6, c61S7, c61S8, c61S9, c61S10, c61S11, c61L0, c61S12, c61S13, c61S14, c61S15, c61S16, c61S17, c61S18]
                      refine ⟨iv16, (s16.inv_sub fun a ha => ?_).sub ((List.Sublist.refl _).append ((List.sublist_cons_self _ _).trans (List.sublist_cons_self _ _)))⟩
                      simp only [List.mem_cons] at ha ⊢
                      rcases ha with h | h | h
                      · exact .inr (.inr (.inl h))
                      · exact .inr (.inl h)
                      · exact .inr (.inr (.inr h))
                    | false =>
                      simp only [Bool.false_eq_true, if_false] at eR
                      simp (disch := first | omega | exact okFill_t rfl | exact okSize_t rfl | exact fun h => h | (simp only [World.size_alloc, World.size_drew, World.size_setCell, size_fill, bytesW]; omega)) only [go_sem, c61, c61S0, c61S1, c61S2, c61S3, c61S4, c61S5, c61S6, c61S7, c61S8, c61S9, c61S10, c61S11, c61L0, c61S12, c61S13, c61S14, c61S15, c61S16, c61S17, c61S18]
                      have ei : rf.ids = f6.ids ++ [ls[g][i].ID] := by rw [hids1 rfl, hfn]
                      have eil : rf.ids.length = f6.ids.length + 1 := by rw [ei]; simp
                      have row16 := s16.row 1 rfl
                      obtain ⟨a16, d16, rfl, hd16⟩ := own_slice row16
                      obtain ⟨g16, rfl⟩ := own_ptr row16 (by omega)
                      have eidl : f6.ids.length = f.ids.length := by rw [eid]
                      have r16 := s16.rules 0 rfl
                      have k16 := s16.low 0 rfl
                      have ecut := own_cut row16 (show f6.ids.length ≤ rf.ids.length by omega) (by omega)
                      have s17 := s16.upd 1 rfl (Chg.refl _ _) (.row (.slice (some ⟨g16, 0, none⟩) f6.ids.length d16) 3 1 f6.ids.length ((rf.ids.flatMap intE).take f6.ids.length)) ecut fun k hk => .inl hk
                      simp only [List.set_cons_zero, List.set_cons_succ, List.cons_append, FL] at s17
                      have s18 := (s17.set 0 rfl 2 (.slice (some ⟨g16, 0, none⟩) f6.ids.length d16)).drew
                      have z16 : w16.drew.heap.size = w16.heap.size := rfl
                      have e6 : ((rf.ids.length : Int) - 1).toNat = f6.ids.length := by omega
                      have e7 : offA (some ⟨g16, 0, none⟩) d16 0 1 = some (⟨g16, 0, none⟩ : Addr) := by unfold offA; split <;> simp [Addr.add]
                      refine c61draw2 (Chg (fun _ => False) _) (Chg.refl _ _) ?_
                      simp (disch := first | omega | exact okFill_t rfl | exact okSize_t rfl | exact fun h => h | (simp only [World.size_alloc, World.size_drew, World.size_setCell, size_fill, bytesW]; omega)) only [go_sem, c61, c61S0, c61S1, c61S2, c61S3, c61S4, c61S5, c61S6, c61S7, c61S8, c61S9, c61S10, c61S11, c61L0, c61S12, c61S13, c61S14, c61S15, c61S16, c61S17, c61S18, c61D2, r16, e4, e6, e7]
                      refine ⟨⟨by omega, by omega⟩, ⟨by omega, by omega⟩, (i + 1, .slice (some ⟨g16, 0, none⟩) f6.ids.length d16, { rf with ids := rf.ids.dropLast }), rfl, ⟨?_, by omega, eR.symm, ?_, ?_, ?_, ?_, ?_⟩, by simp only; omega⟩
                      · have ed : rf.ids.dropLast = f6.ids := by rw [ei]; simp
                        have et : (rf.ids.flatMap intE).take f6.ids.length = f6.ids.flatMap intE := by
                          rw [ei, List.flatMap_append]
                          exact List.take_left' (flatI_len _)
                        rw [et] at s18
                        simp only [List.set_cons_zero] at s18
                        simp only [FL, ed]
                        refine (st_mv s18).inv_sub fun a ha => ?_
                        · simp only [List.mem_cons] at ha ⊢
                          rcases ha with h | h | h
                          · exact .inr (.inr (.inl h))
                          · exact .inr (.inl h)
                          · exact .inr (.inr (.inr h))
                      · simp only; rw [ei, ← eid]; simp
                      · have e8 : fn.left = f6.left := by rw [hfn]
                        rw [e8] at hlow1
                        simp only
                        by_cases h0 : 0 ≤ f6.left
                        · have := hlow1.1 h0; omega
                        · have := hlow1.2 (by omega); omega
                      · have e8 : fn.left = f6.left := by rw [hfn]
                        rw [e8] at hle3
                        simp only; omega
                      · intro p hp
                        rcases hdd1 p hp with h | h
                        · rw [hfn] at h; exact hd7 p h
                        · exact h.1
                      · intro hp
                        rcases hdd1 _ hp with h | h
                        · rw [hfn] at h; exact hnd7 h
                        · have := h.2; simp only at this; omega
              · have hb' : d.getD i false = true := by
                  by_cases h : d.getD i false = true
                  · exact h
                  · rw [if_neg h] at hb; cases hb
                simp (disch := first | omega | exact okFill_t rfl | exact okSize_t rfl | exact fun h => h | (simp only [World.size_alloc, World.size_drew, World.size_setCell, size_fill, bytesW]; omega)) only [go_sem, c61, c61S0, c61S1, c61S2, c61S3, c61S4, c61S5, c61S6, c61S7, c61S8, c61S9, c61S10, c61S11, c61L0, c61S12, c61S13, c61S14, c61S15, c61S16, c61S17, c61S18, e4]
                obtain ⟨s', rfl, h1, h2⟩ := stop (L' := [_]) s8 (ehead.2 (.inl (by unfold mayP; rw [hb']; rfl)))
                exact ⟨(i + 1, iw, f6), rfl, h1, h2⟩
            · have hil' : ¬ (i : Int) < ls[g].length := by omega
              have en : ls[g].length - i = 0 := by omega
              rw [en] at hR
              have hR0 : R0 = (false, f6) := hR.symm
              subst hR0
              simp only [Bool.false_eq_true, if_false]
              have s8 := s7.drew
              have r8 := s7.rules 1 rfl
              have q8 := s7.rules 0 rfl
              have k8 := s7.low 1 rfl
              have m8 := s7.low 0 rfl
              have hnm : ¬ osK (g, d, s) ∈ f6.dead.reverse.map osK := by
                rw [osK_mem (ls := ls) hl hd (hgs.okS (by omega)) (fun p hp => ⟨(hd7 p (List.mem_reverse.1 hp)).len, (hd7 p (List.mem_reverse.1 hp)).okS (by omega)⟩), List.mem_reverse]
                exact hnd7
              simp (disch := first | omega | exact okFill_t rfl | exact okSize_t rfl | exact fun h => h | (simp only [World.size_alloc, World.size_drew, World.size_setCell, size_fill, bytesW]; omega)) only [go_sem, c61, c61S0, c61S1, c61S2, c61S3, c61S4, c61S5, c61S6, c61S7, c61S8, c61S9, c61S10, c61S11, c61L0, c61S12, c61S13, c61S14, c61S15, c61S16, c61S17, c61S18, c61L0, hil']
              refine c61draw3 (Chg (fun _ => False) _) (Chg.refl _ _) ?_
              simp (disch := first | omega | exact okFill_t rfl | exact okSize_t rfl | exact fun h => h | (simp only [World.size_alloc, World.size_drew, World.size_setCell, size_fill, bytesW]; omega)) only [go_sem, c61, c61S0, c61S1, c61S2, c61S3, c61S4, c61S5, c61S6, c61S7, c61S8, c61S9, c61S10, c61S11, c61L0, c61S12, c61S13, c61S14, c61S15, c61S16, c61S17, c61S18, c61D3, r8, q8]
              refine muW_map hkt Try.underlying96 (s8.obj 3 rfl) (osK (g, d, s)) hnm ?_
              have s9 := s8.putObj 3 rfl (mapO (fun k : OKey => .agg (osE k).toArray) (f6.dead.reverse.map osK ++ [osK (g, d, s)]))
              simp (disch := first | omega | exact okFill_t rfl | exact okSize_t rfl | exact fun h => h | (simp only [World.size_alloc, World.size_drew, World.size_setCell, size_fill, bytesW]; omega)) only [go_sem, c61, c61S0, c61S1, c61S2, c61S3, c61S4, c61S5, c61S6, c61S7, c61S8, c61S9, c61S10, c61S11, c61L0, c61S12, c61S13, c61S14, c61S15, c61S16, c61S17, c61S18, c61D3]
              refine ⟨iw, ?_⟩
              have e9 : f6.dead.reverse.map osK ++ [osK (g, d, s)] = ((g, d, s) :: f6.dead).reverse.map osK := by simp
              rw [e9] at s9 ⊢
              exact s9.sub (List.sublist_cons_self _ _)
end Go.Proofs.Ytbeoedgoikcbpaa

namespace Go.Proofs.Ytbeoedgoikcbpaa
open Go Go.Proofs Go.Shelf
set_option linter.unusedVariables false
def laySortOps_ren : Go.Shelf.Ren := ⟨fun | 6 => 58 | 15 => 70 | 14 => 88 | 28 => 103 | 29 => 104 | 20 => 113 | 21 => 114 | 22 => 115 | 23 => 116 | 24 => 117 | 25 => 118 | 26 => 119 | 27 => 120 | 46 => 130 | 47 => 126 | 48 => 127 | 49 => 131 | 50 => 132 | 57 => 138 | n => n, fun | 22 => 22 | 24 => 58 | 25 => 102 | 3 => 3 | 39 => 76 | 0 => 0 | 53 => 63 | 55 => 114 | 4 => 4 | 46 => 138 | 45 => 137 | 50 => 142 | 5 => 5 | 9 => 9 | 66 => 161 | 70 => 165 | 76 => 170 | 77 => 171 | n => n, fun | n => n⟩
theorem laySortOps : Go.Proofs.SlLaysF0.n6 Try.prog laySortOps_ren := {
    mixed := by kernel_rfl,
    f6 := ⟨Try.f58.name, by decide, Try.func58.trans (congrArg some (by kernel_rfl))⟩,
    f14 := ⟨Try.f88.name, by decide, Try.func88.trans (congrArg some (by kernel_rfl))⟩,
    f15 := Try.func70.trans (congrArg some (by kernel_rfl)),
    f20 := ⟨Try.f113.name, by decide, Try.func113.trans (congrArg some (by kernel_rfl))⟩,
    f21 := ⟨Try.f114.name, by decide, Try.func114.trans (congrArg some (by kernel_rfl))⟩,
    f22 := ⟨Try.f115.name, by decide, Try.func115.trans (congrArg some (by kernel_rfl))⟩,
    f23 := ⟨Try.f116.name, by decide, Try.func116.trans (congrArg some (by kernel_rfl))⟩,
    f24 := ⟨Try.f117.name, by decide, Try.func117.trans (congrArg some (by kernel_rfl))⟩,
    f25 := ⟨Try.f118.name, by decide, Try.func118.trans (congrArg some (by kernel_rfl))⟩,
    f26 := ⟨Try.f119.name, by decide, Try.func119.trans (congrArg some (by kernel_rfl))⟩,
    f27 := ⟨Try.f120.name, by decide, Try.func120.trans (congrArg some (by kernel_rfl))⟩,
    f28 := Try.func103.trans (congrArg some (by kernel_rfl)),
    f29 := Try.func104.trans (congrArg some (by kernel_rfl)),
    f46 := ⟨Try.f130.name, by decide, Try.func130.trans (congrArg some (by kernel_rfl))⟩,
    f47 := Try.func126.trans (congrArg some (by kernel_rfl)),
    f48 := Try.func127.trans (congrArg some (by kernel_rfl)),
    f49 := ⟨Try.f131.name, by decide, Try.func131.trans (congrArg some (by kernel_rfl))⟩,
    f50 := ⟨Try.f132.name, by decide, Try.func132.trans (congrArg some (by kernel_rfl))⟩,
    f57 := ⟨Try.f138.name, by decide, Try.func138.trans (congrArg some (by kernel_rfl))⟩,
    t0 := Try.underlying0,
    a0 := Try.isAgg0,
    z0 := Try.sizeOf0,
    v0 := Try.zeroValue0,
    t3 := Try.underlying3,
    a3 := Try.isAgg3,
    z3 := Try.sizeOf3,
    v3 := Try.zeroValue3,
    t4 := Try.underlying4,
    a4 := Try.isAgg4,
    z4 := Try.sizeOf4,
    v4 := Try.zeroValue4,
    t5 := Try.underlying5,
    a5 := Try.isAgg5,
    z5 := Try.sizeOf5,
    v5 := Try.zeroValue5,
    t9 := Try.underlying9,
    a9 := Try.isAgg9,
    z9 := Try.sizeOf9,
    v9 := Try.zeroValue9,
    t22 := Try.underlying22,
    a22 := Try.isAgg22,
    z22 := Try.sizeOf22,
    v22 := Try.zeroValue22,
    t25 := Try.underlying102,
    a25 := Try.isAgg102,
    z25 := Try.sizeOf102,
    v25 := Try.zeroValue102,
    t39 := Try.underlying76,
    a39 := Try.isAgg76,
    z39 := Try.sizeOf76,
    v39 := Try.zeroValue76,
    t45 := Try.underlying137,
    a45 := Try.isAgg137,
    z45 := Try.sizeOf137,
    v45 := Try.zeroValue137,
    t46 := Try.underlying138,
    a46 := Try.isAgg138,
    z46 := Try.sizeOf138,
    v46 := Try.zeroValue138,
    t50 := Try.underlying142,
    a50 := Try.isAgg142,
    z50 := Try.sizeOf142,
    v50 := Try.zeroValue142,
    t53 := Try.underlying63,
    a53 := Try.isAgg63,
    z53 := Try.sizeOf63,
    v53 := Try.zeroValue63,
    t55 := Try.underlying114,
    a55 := Try.isAgg114,
    z55 := Try.sizeOf114,
    v55 := Try.zeroValue114,
    t66 := Try.underlying161,
    a66 := Try.isAgg161,
    z66 := Try.sizeOf161,
    v66 := Try.zeroValue161,
    t70 := Try.underlying165,
    a70 := Try.isAgg165,
    z70 := Try.sizeOf165,
    v70 := Try.zeroValue165,
    t76 := Try.underlying170,
    a76 := Try.isAgg170,
    z76 := Try.sizeOf170,
    v76 := Try.zeroValue170,
    t77 := Try.underlying171,
    a77 := Try.isAgg171,
    z77 := Try.sizeOf171,
    v77 := Try.zeroValue171 }
end Go.Proofs.Ytbeoedgoikcbpaa

namespace Go.Proofs.Ytbeoedgoikcbpaa.Cut
set_option linter.unusedSimpArgs false
set_option linter.unusedVariables false
set_option maxRecDepth 100000
open Go Go.Ann Go.RowKit
def Gr (w w' : World) : Prop := ∃ q os, w' = Go.Sort.grow (w.drewN q) os
theorem Gr.refl (w : World) : Gr w w := ⟨0, #[], by rw [Go.Sort.grow_empty]; rfl⟩
theorem Gr.alloc {w w' : World} (h : Gr w w') (o : Obj) : Gr w (w'.alloc o) := by
  obtain ⟨q, os, rfl⟩ := h
  exact ⟨q, os ++ #[o], by rw [Go.Sort.alloc_eq_grow, Go.Sort.grow_grow]⟩
theorem Gr.drew {w w' : World} (h : Gr w w') : Gr w w'.drew := by
  obtain ⟨q, os, rfl⟩ := h
  exact ⟨q + 1, os, rfl⟩
theorem Gr.trans {a b c : World} (h : Gr a b) (k : Gr b c) : Gr a c := by
  obtain ⟨q, os, rfl⟩ := h
  obtain ⟨r, ps, rfl⟩ := k
  exact ⟨q + r, os ++ ps, by rw [← Go.Sort.grow_grow]; show Go.Sort.grow (Go.Sort.grow ((a.drewN q).drewN r) os) ps = _; rw [World.drewN_drewN]⟩
theorem Gr.below {w w' : World} (h : Gr w w') : Below w.heap.size w w' := by
  obtain ⟨q, os, rfl⟩ := h
  refine ⟨rfl, rfl, rfl, ?_, fun k hk => ?_⟩
  · show w.heap.size ≤ (w.heap ++ os).size
    rw [Array.size_append]; omega
  · show (w.heap ++ os)[k]? = _
    rw [Array.getElem?_append_left hk]
theorem ints2_new {w : World} {b : Nat} {t : TypeId} (x y : Int) (hb : b = w.heap.size) : RdS (w.alloc (.cells #[.int .i64 x, .int .i64 y] t)) 1 (fun n => [.int .i64 n]) (.slice (some ⟨b, 0, none⟩) 2 2) [x, y] := by
  subst hb
  exact rd_new (n := 2) (cs := #[.int .i64 x, .int .i64 y]) rfl
theorem earlier_ok (a b : OpT) (w : World) : Ret Try.prog 86 [.agg a.enc.toArray, .agg b.enc.toArray] w fun u w' => u = .int .i64 (earI a b) ∧ Gr w w' := by
  refine ent86 _ _ _ _ ?_
  have ha := a.at; have hb := b.at
  simp (disch := first | omega | exact okFill_t rfl | exact okSize_t rfl | exact fun h => h | (simp only [World.size_alloc, World.size_drew, World.size_setCell, size_fill, bytesW]; omega)) only [go_sem, c86, c86S0, ha, hb]
  refine c86draw0 (Chg (fun _ => False) _) (Chg.refl _ _) ?_
  simp (disch := first | omega | exact okFill_t rfl | exact okSize_t rfl | exact fun h => h | (simp only [World.size_alloc, World.size_drew, World.size_setCell, size_fill, bytesW]; omega)) only [go_sem, c86, c86S0, c86D0, ha, hb]
  refine Ret.mono (compare_ok _ _ _) ?_
  rintro _ _ ⟨rfl, rfl⟩
  simp (disch := first | omega | exact okFill_t rfl | exact okSize_t rfl | exact fun h => h | (simp only [World.size_alloc, World.size_drew, World.size_setCell, size_fill, bytesW]; omega)) only [go_sem, c86, c86S0, c86D0, ha, hb]
  refine Ret.mono (compare_ok _ _ _) ?_
  rintro _ _ ⟨rfl, rfl⟩
  simp (disch := first | omega | exact okFill_t rfl | exact okSize_t rfl | exact fun h => h | (simp only [World.size_alloc, World.size_drew, World.size_setCell, size_fill, bytesW]; omega)) only [go_sem, c86, c86S0, c86D0, ha, hb]
  refine bsW_ones ty36mkI rfl rfl (by decide) (by decide) (by intro v hv; simp only [List.mem_cons, List.not_mem_nil, or_false] at hv; rcases hv with rfl | rfl <;> rfl) ?_
  simp (disch := first | omega | exact okFill_t rfl | exact okSize_t rfl | exact fun h => h | (simp only [World.size_alloc, World.size_drew, World.size_setCell, size_fill, bytesW]; omega)) only [go_sem, c86, c86S0, c86D0, ha, hb]
  refine ⟨chg_da, Ret.mono (or_ok _ [cmpI a.Invoke b.Invoke, cmpI a.ID b.ID] _ ((ints2_new _ _ (by simp)).below (Below.refl _ _).drew (by decide)) (by simp)) ?_⟩
  rintro _ _ ⟨rfl, rfl⟩
  simp (disch := first | omega | exact okFill_t rfl | exact okSize_t rfl | exact fun h => h | (simp only [World.size_alloc, World.size_drew, World.size_setCell, size_fill, bytesW]; omega)) only [go_sem, c86, c86S0, c86D0, ha, hb]
  exact ⟨chg_da, rfl, (((((Gr.refl w).alloc _).alloc _)).alloc _).drew⟩
end Go.Proofs.Ytbeoedgoikcbpaa.Cut

namespace Go.Proofs.Ytbeoedgoikcbpaa.Cut
set_option linter.unusedSimpArgs false
set_option linter.unusedVariables false
set_option maxRecDepth 100000
open Go Go.Ann Go.RowKit
theorem sortnil1 (fv : Value) (w : World) : Ret Try.prog 113 [.slice none 0 0, .int .i64 0, .int .i64 0, fv] w fun u w' => w' = w := by
  refine ent113 _ _ _ _ _ _ ?_
  simp (disch := first | omega | exact okFill_t rfl | exact okSize_t rfl | exact fun h => h | (simp only [World.size_alloc, World.size_drew, World.size_setCell, size_fill, bytesW]; omega)) only [go_sem, c113, c113S0, c113S1, c113S2, c113L0, c113S3, c113S4, c113L1]
  refine ⟨⟨by decide, by decide⟩, ?_⟩
  refine W_loopU (fun _ : Unit => []) (fun _ w' => w' = w) (fun _ => 0) () rfl rfl ?_
  rintro _ _ rfl
  simp (disch := first | omega | exact okFill_t rfl | exact okSize_t rfl | exact fun h => h | (simp only [World.size_alloc, World.size_drew, World.size_setCell, size_fill, bytesW]; omega)) only [go_sem, c113, c113S0, c113S1, c113S2, c113L0, c113S3, c113S4, c113L1]
theorem sortnil2 (fv : Value) (l : Int) (w : World) : Ret Try.prog 88 [.slice none 0 0, .int .i64 0, .int .i64 0, .int .i64 l, fv] w fun u w' => w' = w := by
  refine ent88 _ _ _ _ _ _ _ ?_
  simp (disch := first | omega | exact okFill_t rfl | exact okSize_t rfl | exact fun h => h | (simp only [World.size_alloc, World.size_drew, World.size_setCell, size_fill, bytesW]; omega)) only [go_sem, c88, c88S0, c88S1, c88S2, c88S3, c88S4, c88S5, c88S6, c88S7, c88S8, c88S9, c88S10, c88S11, c88S12, c88S13, c88S14, c88S15, c88S16, c88L0]
  refine W_loopU (fun _ : Unit => []) (fun _ w' => w' = w) (fun _ => 0) () rfl rfl ?_
  rintro _ _ rfl
  simp (disch := first | omega | exact okFill_t rfl | exact okSize_t rfl | exact fun h => h | (simp only [World.size_alloc, World.size_drew, World.size_setCell, size_fill, bytesW]; omega)) only [go_sem, c88, c88S0, c88S1, c88S2, c88S3, c88S4, c88S5, c88S6, c88S7, c88S8, c88S9, c88S10, c88S11, c88S12, c88S13, c88S14, c88S15, c88S16, c88L0]
  refine ⟨⟨by decide, by decide⟩, Ret.mono (sortnil1 _ _) ?_⟩
  rintro _ _ rfl
  simp (disch := first | omega | exact okFill_t rfl | exact okSize_t rfl | exact fun h => h | (simp only [World.size_alloc, World.size_drew, World.size_setCell, size_fill, bytesW]; omega)) only [go_sem, c88, c88S0, c88S1, c88S2, c88S3, c88S4, c88S5, c88S6, c88S7, c88S8, c88S9, c88S10, c88S11, c88S12, c88S13, c88S14, c88S15, c88S16, c88L0]
theorem sortnil (fv : Value) (w : World) : Ret Try.prog 58 [.slice none 0 0, fv] w fun u w' => w' = w := by
  refine ent58 _ _ _ _ ?_
  simp (disch := first | omega | exact okFill_t rfl | exact okSize_t rfl | exact fun h => h | (simp only [World.size_alloc, World.size_drew, World.size_setCell, size_fill, bytesW]; omega)) only [go_sem, c58]
  have hb := Any.bits_Len (SlLaysF0.n15.bits (P := Try.prog) (ρ := laySortOps_ren) { laySortOps with }) 0 w (by omega) (by omega)
  have hb' : Ret Try.prog 70 [.int .u64 (IntKind.u64.wrap 0)] w fun u w' => u = .int .i64 (Lib.bitLen 0 : Nat) ∧ w' = w := hb.mono fun e w' ⟨h1, h2⟩ => ⟨_, h1, rfl, h2⟩
  refine Ret.mono hb' ?_
  rintro _ _ ⟨rfl, rfl⟩
  simp (disch := first | omega | exact okFill_t rfl | exact okSize_t rfl | exact fun h => h | (simp only [World.size_alloc, World.size_drew, World.size_setCell, size_fill, bytesW]; omega)) only [go_sem, c58]
  refine Ret.mono (sortnil2 _ _ _) ?_
  rintro _ _ rfl
  simp (disch := first | omega | exact okFill_t rfl | exact okSize_t rfl | exact fun h => h | (simp only [World.size_alloc, World.size_drew, World.size_setCell, size_fill, bytesW]; omega)) only [go_sem, c58]
theorem flatK_eq {α : Type} [Inhabited α] {enc : α → List Value} {k : Nat} (hk : ∀ x, (enc x).length = k) (d : Array α) : (Go.Sort.flatK enc k d).toList = d.toList.flatMap enc := by
  have hl : (d.toList.flatMap enc).length = d.size * k := by
    rw [List.length_flatMap, ← Array.length_toList]
    generalize d.toList = l
    induction l with
    | nil => simp
    | cons a l ih => rw [List.map_cons, List.sum_cons, ih, hk, List.length_cons, Nat.add_mul]; omega
  refine List.ext_getElem (by rw [hl, Array.length_toList, Go.Sort.size_flatK]) fun t h1 h2 => ?_
  have ht : t < d.size * k := by omega
  have hk0 : 0 < k := Nat.pos_of_ne_zero fun h => by subst h; omega
  have hi : t / k < d.size := (Nat.div_lt_iff_lt_mul hk0).2 ht
  have hj : t % k < k := Nat.mod_lt _ hk0
  have a := Go.Sort.get_flatK enc k d t ht
  rw [getElem!_pos d _ hi, getElem!_pos (enc _) _ (by rw [hk]; exact hj), getElem!_pos _ _ (by rw [Go.Sort.size_flatK]; exact ht)] at a
  rw [Array.getElem_toList, a]
  have b := flatten_at (sz := k) (d.toList.map enc) (t / k) (t % k) (enc d[t / k]) ((enc d[t / k])[t % k]'(by rw [hk]; exact hj)) (fun c hc => by obtain ⟨x, _, rfl⟩ := List.mem_map.1 hc; exact hk x) (by rw [List.getElem?_map, List.getElem?_eq_getElem (by simpa using hi)]; rfl) (List.getElem?_eq_getElem _)
  rw [show t / k * k + t % k = t by rw [Nat.mul_comm]; exact Nat.div_add_mod t k] at b
  have c : (d.toList.flatMap enc)[t]? = some ((enc d[t / k])[t % k]'(by rw [hk]; exact hj)) := b
  rw [List.getElem?_eq_getElem h2] at c
  exact (Option.some.inj c).symm
theorem own_holdsK {α : Type} [Inhabited α] {enc : α → List Value} {k B e g n cap : Nat} {w : World} {d : Array α} (hk : ∀ x, (enc x).length = k) (hd : d.size = n) (h : w.ownsRow B e k (.slice (some ⟨g, 0, none⟩) n cap) n (d.toList.flatMap enc)) :
    Go.Sort.HoldsK enc k w g 0 d := by
  obtain ⟨hl, ⟨h0, _⟩ | ⟨g', cap', cur, he, hB, hb, hc, hm, hs, hx⟩⟩ := h
  · cases h0
  cases he
  have hblk : Blk w g cur e := hb
  intro j hj
  rw [Go.Sort.size_flatK] at hj
  have hj' : j < (Go.Sort.flatK enc k d).size := by rw [Go.Sort.size_flatK]; exact hj
  refine ⟨?_, hblk.frozen _⟩
  rw [hblk.cell, Nat.zero_add, getElem!_pos (Go.Sort.flatK enc k d) j hj']
  have e1 := flatK_eq hk d
  rw [← hx] at e1
  have e2 : (Go.Sort.flatK enc k d).toList[j]? = (cur.toList.take (n * k))[j]? := by rw [e1]
  rw [List.getElem?_take_of_lt (by rw [← hd]; exact hj), Array.getElem?_toList, Array.getElem?_toList, Array.getElem?_eq_getElem hj'] at e2
  exact e2.symm
theorem own_sorted {α : Type} [Inhabited α] {enc : α → List Value} {k B e g n cap : Nat} {w : World} {d : Array α} (hk : ∀ x, (enc x).length = k) (hd : d.size = n) (h : w.ownsRow B e k (.slice (some ⟨g, 0, none⟩) n cap) n (d.toList.flatMap enc))
    (m : Nat) (d' : Array α) (os : Array Obj) (hd' : d'.size = n) : (sortWorldK enc k w g 0 m d' os).ownsRow B e k (.slice (some ⟨g, 0, none⟩) n cap) n (d'.toList.flatMap enc) ∧ Chg (fun k => k = g) w (sortWorldK enc k w g 0 m d' os) := by
  obtain ⟨hl, ⟨h0, _⟩ | ⟨g', cap', cur, he, hB, hb, hc, hm, hs, hx⟩⟩ := h
  · cases h0
  cases he
  have hg : g < w.heap.size := (Array.getElem?_eq_some_iff.1 hb).1
  have hh : (sortWorldK enc k w g 0 m d' os).heap = w.heap.modify g (Go.Sort.onCells (Go.Sort.putCells id 0 (Go.Sort.flatK enc k d'))) ++ os := rfl
  have hgb : (sortWorldK enc k w g 0 m d' os).heap[g]? = some (.cells (Go.Sort.putCells id 0 (Go.Sort.flatK enc k d') cur) e (0, 0)) := by
    rw [hh, Array.getElem?_append_left (by rw [Array.size_modify]; exact hg), Array.getElem?_modify, if_pos rfl, hb]
    rfl
  have e1 := flatK_eq hk d'
  have hle : n * k ≤ cap * k := Nat.mul_le_mul_right _ hc
  refine ⟨⟨by rw [← e1, Array.length_toList, Go.Sort.size_flatK, hd'], .inr ⟨g, cap, _, rfl, hB, hgb, hc, hm, by unfold Go.Sort.putCells; rw [Array.size_mapIdx]; exact hs, ?_⟩⟩, rfl, rfl, rfl, ?_, fun j hj hne => ?_⟩
  · rw [← e1]
    refine List.ext_getElem (by simp only [Go.Sort.putCells, List.length_take, Array.length_toList, Array.size_mapIdx, Go.Sort.size_flatK, hs, hd']; omega) fun t h1 h2 => ?_
    rw [Array.length_toList, Go.Sort.size_flatK, hd'] at h2
    rw [List.getElem_take, Array.getElem_toList, Array.getElem_toList]
    unfold Go.Sort.putCells
    rw [Array.getElem_mapIdx, if_pos ⟨Nat.zero_le _, by rw [Go.Sort.size_flatK, hd']; omega⟩, Nat.sub_zero, getElem!_pos (Go.Sort.flatK enc k d') t (by rw [Go.Sort.size_flatK, hd']; exact h2)]
    rfl
  · rw [hh, Array.size_append, Array.size_modify]; omega
  · rw [hh, Array.getElem?_append_left (by rw [Array.size_modify]; exact hj), Array.getElem?_modify, if_neg (fun e => hne e.symm)]
theorem sort_ok (cf : OpT → OpT → Int) (g : Nat) (eg : ∀ args w, (callFunc g args).run Try.prog w = .ok (.enter g args) w) (hO : Go.Sort.SWO (ltOf cf)) (hf : ∀ a b w, Ret Try.prog g [.agg a.enc.toArray, .agg b.enc.toArray] w fun u w' => u = .int .i64 (cf a b) ∧ Gr w w')
    (v : Value) (l : List OpT) (w : World) (B : Nat) (h : w.ownsRow B 58 11 v l.length (l.flatMap OpT.enc)) (hl : l.length ≤ 100) :
    Ret Try.prog 58 [v, .func (.func g) #[] #[]] w fun _ w' => ∃ l', Sorts cf l l' ∧ w'.ownsRow B 58 11 v l.length (l'.flatMap OpT.enc) ∧ Chg (fun k => v.ownBlock = some k) w w' := by
  obtain ⟨hlen, ⟨rfl, h0⟩ | ⟨g', cap, cur, rfl, hB, hb, hc, hm, hs, hx⟩⟩ := id h
  · refine Ret.mono (sortnil _ _) ?_
    rintro _ _ rfl
    have hl0 : l = [] := List.eq_nil_of_length_eq_zero h0
    subst hl0
    exact ⟨[], ⟨List.Perm.refl _, List.Pairwise.nil⟩, h, Chg.refl _ _⟩
  have hcl : CmpLays Try.prog g #[] OpT.enc 11 cf g' 0 l.toArray.size w := fun m os dk hdk x y => by
    have e := hf x y (sortWorldK OpT.enc 11 w g' 0 m dk os)
    unfold Ret at e
    rw [Array.append_empty]
    exact e.mono fun e w' ⟨u, h1, h2, h3⟩ => ⟨by rw [h1, h2], h3⟩
  have hH : Go.Sort.HoldsK OpT.enc 11 w g' 0 l.toArray := own_holdsK OpT.len (by simp) h
  have hs := AnyQ.slices_SortFunc laySortOps 11 Try.isAgg58 Try.sizeOf58 OpT.enc OpT.len OpT.one cf hO g #[] g' 0 cap l.toArray w eg hcl hH (Array.getElem?_eq_some_iff.1 hb).1 (by simp; omega)
  refine hs.mono ?_
  rintro e w' ⟨rfl, d', n, os, hp, hs, rfl⟩
  have hsz : d'.size = l.length := hp.1
  obtain ⟨o1, o2⟩ := own_sorted OpT.len (by simp) (show w.ownsRow B 58 11 (.slice (some ⟨g', 0, none⟩) l.length cap) l.length (l.toArray.toList.flatMap OpT.enc) from h) n d' os hsz
  refine ⟨_, rfl, d'.toList, ⟨?_, ?_⟩, o1, o2.mono fun k _ e => by rw [e]; rfl⟩
  · have := hp.2.2
    simp only [List.size_toArray] at this
    rw [Array.extract_eq_self_of_le (by omega), Array.extract_eq_self_of_le (by simp)] at this
    exact this
  · rw [List.pairwise_iff_getElem]
    intro i j hi hj hij
    have := hs i j (Nat.zero_le _) hij (by simpa [hsz] using hj)
    rw [getElem!_pos d' i (by simpa using hi), getElem!_pos d' j (by simpa using hj)] at this
    simpa [ltOf] using this
end Go.Proofs.Ytbeoedgoikcbpaa.Cut

namespace Go.Proofs.Ytbeoedgoikcbpaa.Cut
set_option linter.unusedSimpArgs false
set_option linter.unusedVariables false
set_option maxRecDepth 100000
open Go Go.Ann Go.RowKit
theorem swo_ear : Go.Sort.SWO (ltOf earI) where
  irrefl x := by rw [lt_ear]; exact decide_eq_false (by omega)
  trans x y z h1 h2 := by rw [lt_ear, decide_eq_true_eq] at *; omega
  ntrans x y z h1 h2 := by rw [lt_ear, decide_eq_false_iff_not] at *; omega
def Cuts (W0 w : World) (more : List Res) (I0 : List Inv) (vo : Value) (acc : List Seg) : Prop :=
  (acc = [] ∧ vo = .slice none 0 0 ∧ St W0 w (fun _ => False) more I0) ∨
  ∃ ini s vs vl, acc = ini ++ [s] ∧ vs.length = ini.length ∧ (∀ v ∈ vs, ∀ k, slFoot v k → W0.heap.size ≤ k) ∧ St W0 w (fun _ => False) (.row vl 58 11 s.ops.length (s.ops.flatMap OpT.enc) :: .row vo 24 3 (ini.length + 1) (segCells ini vs ++ segC s vl) :: more) (segInvs ini vs ++ I0)
theorem Cuts.form {W0 w : World} {more : List Res} {I0 : List Inv} {vo : Value} {acc : List Seg} (h : Cuts W0 w more I0 vo acc) : ∃ a c, vo = .slice a acc.length c := by
  rcases h with ⟨rfl, rfl, _⟩ | ⟨ini, s, vs, vl, rfl, _, _, h⟩
  · exact ⟨_, _, rfl⟩
  · obtain ⟨a, c, rfl, _⟩ := own_slice (h.row 1 rfl)
    exact ⟨a, c, by rw [List.length_append]; rfl⟩
theorem Cuts.bel {W0 w : World} {more : List Res} {I0 : List Inv} {vo : Value} {acc : List Seg} (h : Cuts W0 w more I0 vo acc) : Below W0.heap.size W0 w := by
  rcases h with ⟨_, _, h⟩ | ⟨_, _, _, _, _, _, _, h⟩ <;> exact h.bel
theorem Cuts.call {W0 w w' : World} {more : List Res} {I0 : List Inv} {vo : Value} {acc : List Seg} (h : Cuts W0 w more I0 vo acc) (hb : Below w.heap.size w w') : Cuts W0 w' more I0 vo acc := by
  rcases h with ⟨h1, h2, h⟩ | ⟨ini, s, vs, vl, h1, h2, hN, h⟩
  · exact .inl ⟨h1, h2, h.call hb⟩
  · exact .inr ⟨ini, s, vs, vl, h1, h2, hN, h.call hb⟩
theorem Cuts.base {W0 w : World} {more : List Res} {I0 : List Inv} {vo : Value} {acc : List Seg} (h : Cuts W0 w more I0 vo acc) : St W0 w (fun _ => False) more I0 := by
  rcases h with ⟨_, _, h⟩ | ⟨_, _, _, _, _, _, _, h⟩
  · exact h
  · exact (h.sub ((List.sublist_cons_self _ _).trans (List.sublist_cons_self _ _))).inv_sub fun a ha => List.mem_append_right _ ha
theorem Cuts.box {W0 w : World} {more : List Res} {I0 : List Inv} {vo : Value} {acc : List Seg} (h : Cuts W0 w more I0 vo acc) (cs : Array Value) (t : TypeId) : Cuts W0 (w.alloc (.cells cs t)) (.blk w.heap.size cs t :: more) I0 vo acc := by
  rcases h with ⟨h1, h2, h⟩ | ⟨ini, s, vs, vl, h1, h2, hN, h⟩
  · exact .inl ⟨h1, h2, h.box cs t⟩
  · exact .inr ⟨ini, s, vs, vl, h1, h2, hN, (h.box cs t).perm (((List.Perm.swap _ _ _).cons _).trans (List.Perm.swap _ _ _))⟩
theorem Cuts.grow {W0 w : World} {more : List Res} {I0 : List Inv} {vo x : Value} {acc : List Seg} (h : Cuts W0 w more I0 vo acc) (obj kind : Int) (hn : acc.length ≤ 100) (hx : Rd w 3 x 1 (segC ⟨obj, kind, []⟩ (.slice none 0 0))) {K : Value → World → Prop} {cs : Array Bool} {ty : Nat}
    (hK : ∀ v' w', Cuts W0 w' more I0 v' (acc ++ [⟨obj, kind, []⟩]) → K v' w') : rawB Try.prog .append #[47, 47] ty cs [vo, x] w K := by
  rcases h with ⟨rfl, rfl, h⟩ | ⟨ini, s, vs, vl, rfl, hl, hN, h⟩
  · have s1 := h.nilRow 24 3
    refine s1.append 0 rfl ty47mkI rfl (by decide) hx (by intro u hu; simp only [segC, List.mem_cons, List.not_mem_nil, or_false] at hu; rcases hu with rfl | rfl | rfl <;> rfl) (by omega) (by omega) ?_
    intro v' w' s2 _
    simp only [List.set_cons_zero] at s2
    exact hK _ _ (.inr ⟨[], _, [], .slice none 0 0, rfl, rfl, (fun v hv => by cases hv), s2.nilRow 58 11⟩)
  · rw [List.length_append, List.length_singleton] at hn
    have s1 := h.seal (.rd 11 OpT.enc vl s.ops) (RdS.of_own (h.row 0 rfl)) fun k hk => slFoot_own hk
    refine s1.append 0 rfl ty47mkI rfl (by decide) hx (by intro u hu; simp only [segC, List.mem_cons, List.not_mem_nil, or_false] at hu; rcases hu with rfl | rfl | rfl <;> rfl) (by omega) (by omega) ?_
    intro v' w' s2 _
    simp only [List.set_cons_zero] at s2
    have s3 := (s2.nilRow 58 11).inv_sub (I' := segInvs (ini ++ [s]) (vs ++ [vl]) ++ I0) fun a ha => by
      rcases List.mem_append.1 ha with ha | ha
      · rcases (segInvs_snoc ini vs s vl hl a).1 ha with rfl | ha
        · exact List.mem_cons_self
        · exact List.mem_cons_of_mem _ (List.mem_append_left _ ha)
      · exact List.mem_cons_of_mem _ (List.mem_append_right _ ha)
    rw [← segCells_snoc ini vs s vl hl] at s3
    refine hK _ _ (.inr ⟨ini ++ [s], _, vs ++ [vl], .slice none 0 0, rfl, by simp [hl], ?_, ?_⟩)
    · intro v hv k hk
      rcases List.mem_append.1 hv with hv | hv
      · exact hN v hv k hk
      · rw [List.mem_singleton] at hv; subst hv
        exact ((h.row 0 rfl).lt k (slFoot_own hk)).1
    rw [List.length_append, List.length_singleton]
    exact s3
theorem Cuts.out {W0 w : World} {more : List Res} {I0 : List Inv} {vo : Value} {acc : List Seg} (h : Cuts W0 w more I0 vo acc) (hs : ∀ s ∈ acc, (s.ops.length : Int) ≤ 9223372036854775806) (w2 : World) (hw2 : ∀ k, W0.heap.size ≤ k → k < w.heap.size → w2.heap[k]? = w.heap[k]?) : RdR w2 3 segR vo acc := by
  rcases h with ⟨rfl, rfl, _⟩ | ⟨ini, s, vs, vl, rfl, hl, hN, h⟩
  · exact RdR.nil
  refine ⟨List.zipWith segC (ini ++ [s]) (vs ++ [vl]), by simp [hl], ?_, ?_⟩
  · intro i c x hc hx
    rw [List.getElem?_zipWith, hx] at hc
    cases hv : (vs ++ [vl])[i]? with
    | none => rw [hv] at hc; cases hc
    | some v =>
      rw [hv] at hc
      simp only [Option.some.injEq] at hc
      subst hc
      refine ⟨rfl, v, rfl, ?_, hs x (List.mem_of_getElem? hx)⟩
      rcases Nat.lt_or_ge i ini.length with hi | hi
      · rw [List.getElem?_append_left hi] at hx
        rw [List.getElem?_append_left (by omega)] at hv
        have hi2 := h.inv _ (List.mem_append_left _ (segInvs_mem ini vs i x v hx hv))
        exact RdS.loc hi2.1 fun k hk => hw2 k (hN v (List.mem_of_getElem? hv) k hk) (hi2.2 k hk).1
      · rw [List.getElem?_append_right hi] at hx
        rw [List.getElem?_append_right (by omega), hl] at hv
        have hz : i - ini.length = 0 := by
          have := (List.getElem?_eq_some_iff.1 hx).1
          simp only [List.length_singleton] at this; omega
        rw [hz] at hx hv
        simp only [List.getElem?_cons_zero, Option.some.injEq] at hx hv
        subst hx; subst hv
        exact RdS.loc (RdS.of_own (h.row 0 rfl)) fun k hk => hw2 k ((h.row 0 rfl).lt k (slFoot_own hk)).1 ((h.row 0 rfl).lt k (slFoot_own hk)).2
  · rw [segCells_flat, segCells_snoc ini vs s vl hl, List.length_append, List.length_singleton]
    exact Rd.loc (Rd.of_own (h.row 1 rfl)) fun k hk => hw2 k ((h.row 1 rfl).lt k (slFoot_own hk)).1 ((h.row 1 rfl).lt k (slFoot_own hk)).2
theorem own_mono {w : World} {B B' e sz n : Nat} {v : Value} {xs : List Value} (h : w.ownsRow B e sz v n xs) (hb : B' ≤ B) : w.ownsRow B' e sz v n xs := by
  obtain ⟨h1, h2 | ⟨g, cap, cur, h3, h4, h5⟩⟩ := h
  · exact ⟨h1, .inl h2⟩
  · exact ⟨h1, .inr ⟨g, cap, cur, h3, by omega, h5⟩⟩
theorem push16 {W0 w : World} {more : List Res} {I0 : List Inv} {vo : Value} {ini : List Seg} {s : Seg} {Q : Post} (o : OpT) (b : Nat) (v1 v13 v14 v15 : Value) (h : Cuts W0 w (.blk b o.enc.toArray 58 :: more) I0 vo (ini ++ [s])) (hn : ini.length ≤ 100) (hs : s.ops.length ≤ 100)
    (hQ : ∀ w', Cuts W0 w' more I0 vo (ini ++ [⟨s.obj, s.kind, s.ops ++ [o]⟩]) → Q .normal [(1, v1), (4, vo), (13, v13), (14, v14), (15, v15)] w') :
    W Try.prog (c56S2 ()) [(1, v1), (4, vo), (6, .pointer (some ⟨b, 0, none⟩)), (7, .int .i64 ini.length), (13, v13), (14, v14), (15, v15)] w Q := by
  rcases h with ⟨h, _⟩ | ⟨ini', s', vs, vl, he, hl, hN, h⟩
  · simp at h
  obtain ⟨rfl, rfl⟩ : ini = ini' ∧ s = s' := by
    have := List.append_inj' he rfl
    exact ⟨this.1, by simpa using this.2⟩
  obtain ⟨a, c, rfl, _⟩ := own_slice (h.row 1 rfl)
  obtain ⟨g, rfl⟩ : ∃ g, a = some ⟨g, 0, none⟩ := by
    obtain ⟨_, ⟨_, h0⟩ | ⟨g, cap, cur, e, _⟩⟩ := h.row 1 rfl
    · omega
    · cases e; exact ⟨g, rfl⟩
  have hrow := (h.row 1 rfl)
  have hlen := segCells_length ini vs hl
  have hc0 : w.cell? ⟨g, ini.length * 3 + 2, none⟩ = some vl := by
    have := hrow.cells rfl (ini.length * 3 + 2) vl (by rw [List.getElem?_append_right (by omega), hlen, show ini.length * 3 + 2 - ini.length * 3 = 2 by omega]; rfl)
    simpa [Addr.add] using this
  have hgl := hrow.lt g rfl
  have hne : vl.ownBlock ≠ some g := h.ne 1 0 rfl rfl (by decide) rfl
  obtain ⟨av, cv, rfl, _⟩ := own_slice (h.row 0 rfl)
  have ho := h.blk 2 rfl
  have hbl := ho.lt
  have hor := ho.rules
  simp (disch := first | omega | exact okFill_t rfl | exact okSize_t rfl | exact fun h => h | (simp only [World.size_alloc, World.size_drew, World.size_setCell, size_fill, bytesW]; omega)) only [go_sem, c56, c56S0, c56S1, c56S2, c56S3, c56S4, c56L0, c56S5, c56S6, c56S7]
  refine c56draw1 (Chg (fun k => (Value.slice av s.ops.length cv).ownBlock = some k) _) (Chg.refl _ _) ?_
  simp (disch := first | omega | exact okFill_t rfl | exact okSize_t rfl | exact fun h => h | (simp only [World.size_alloc, World.size_drew, World.size_setCell, size_fill, bytesW]; omega)) only [go_sem, c56, c56S0, c56S1, c56S2, c56S3, c56S4, c56L0, c56S5, c56S6, c56S7, c56D1, hc0, hor]
  refine ⟨⟨by omega, by omega⟩, bsW_agg ty22mkI rfl (by decide) (by decide) ?_⟩
  have h2 : St W0 (w.alloc (.cells o.enc.toArray 58)).drew _ _ _ := (h.alloc' (.cells o.enc.toArray 58)).drew
  have hrd : Rd (w.alloc (.cells o.enc.toArray 58)).drew 11 (.slice (some ⟨w.heap.size, 0, none⟩) 1 1) 1 o.enc := rd_new (w := w.drew) (t := 58) (sz := 11) (n := 1) (cs := o.enc.toArray) rfl
  simp (disch := first | omega | exact okFill_t rfl | exact okSize_t rfl | exact fun h => h | (simp only [World.size_alloc, World.size_drew, World.size_setCell, size_fill, bytesW]; omega)) only [go_sem, c56, c56S0, c56S1, c56S2, c56S3, c56S4, c56L0, c56S5, c56S6, c56S7, c56D1, hc0, hor]
  refine ⟨chg_da, h2.append 0 rfl ty22mkI rfl (by decide) hrd o.one (by omega) (by omega) ?_⟩
  intro v3 w3 s3 c3
  simp only [List.set_cons_zero] at s3
  obtain ⟨a3, c3', rfl, _⟩ := own_slice (s3.row 0 rfl)
  have s3' := s3.row 1 rfl
  simp (disch := first | omega | exact okFill_t rfl | exact okSize_t rfl | exact fun h => h | (simp only [World.size_alloc, World.size_drew, World.size_setCell, size_fill, bytesW]; omega)) only [go_sem, c56, c56S0, c56S1, c56S2, c56S3, c56S4, c56L0, c56S5, c56S6, c56S7, c56D1, hc0, hor]
  have hc3 : w3.cell? ⟨g, ini.length * 3 + 2, none⟩ = some (.slice av s.ops.length cv) := by
    have := s3'.cells rfl (ini.length * 3 + 2) (.slice av s.ops.length cv) (by rw [List.getElem?_append_right (by omega), hlen, show ini.length * 3 + 2 - ini.length * 3 = 2 by omega]; rfl)
    simpa [Addr.add] using this
  have hf3 : w3.frozen? ⟨g, ini.length * 3 + 2, none⟩ = false := by
    obtain ⟨_, ⟨h0, _⟩ | ⟨g', cap, cur, e, _, hb, _⟩⟩ := s3'
    · cases h0
    · cases e; exact Blk.frozen (show Blk w3 g cur _ from hb) _
  refine ⟨⟨by omega, by omega⟩, ⟨_, hc3⟩, hf3, hQ _ (.inr ⟨ini, _, vs, .slice a3 (s.ops.length + 1) c3', rfl, hl, hN, ?_⟩)⟩
  have s4 := (s3.put 1 rfl (ini.length * 3 + 2) (.slice a3 (s.ops.length + 1) c3')).sub (((List.sublist_cons_self _ _).cons_cons _).cons_cons _)
  rw [List.set_append_right _ _ (by omega), hlen, show ini.length * 3 + 2 - ini.length * 3 = 2 by omega] at s4
  have e1 : (s.ops ++ [o]).flatMap OpT.enc = s.ops.flatMap OpT.enc ++ o.enc := by rw [List.flatMap_append]; simp
  have e2 : (s.ops ++ [o]).length = s.ops.length + 1 := by simp
  show St W0 _ _ (.row _ _ 11 (s.ops ++ [o]).length ((s.ops ++ [o]).flatMap OpT.enc) :: _) _
  rw [e1, e2]
  exact s4
theorem segments_ok (obj kind : Int) (v : Value) (l : List OpT) (w : World) (h : RdS w 11 OpT.enc v l) (hl : l.length ≤ 100) :
    Ret Try.prog 56 [.agg #[.int .i64 obj, .int .i64 kind, v]] w fun u w' => (∃ l', Sorts earI l l' ∧ ∀ w2 : World, (∀ k, w.heap.size ≤ k → k < w'.heap.size → w2.heap[k]? = w'.heap[k]?) → RdR w2 3 segR u (l'.foldl (cutStep (fun s o => s.ops.all fun x => before x o) fun _ => (obj, kind)) [])) ∧ Below w.heap.size w w' := by
  obtain ⟨a, c, rfl, _⟩ := h.form
  refine ent56 _ _ _ ?_
  simp (disch := first | omega | exact okFill_t rfl | exact okSize_t rfl | exact fun h => h | (simp only [World.size_alloc, World.size_drew, World.size_setCell, size_fill, bytesW]; omega)) only [go_sem, c56, c56S0, c56S1, c56S2, c56S3, c56S4, c56L0, c56S5, c56S6, c56S7]
  have s1 := (St.start (W0 := w)).box #[.int .i64 obj, .int .i64 kind, .slice a l.length c] 24
  have h1 := h.below s1.bel (by decide)
  generalize w.alloc (.cells #[.int .i64 obj, .int .i64 kind, .slice a l.length c] 24) = w1 at s1 h1 ⊢
  refine Ret.mono (clone_ok _ _ _ h1 hl) ?_
  rintro vl w2 ⟨o2, b2⟩
  have s2 := s1.add b2 (.row vl 58 11 l.length (l.flatMap OpT.enc)) (own_mono o2 s1.size) fun k hk => (o2.lt k hk).1
  simp (disch := first | omega | exact okFill_t rfl | exact okSize_t rfl | exact fun h => h | (simp only [World.size_alloc, World.size_drew, World.size_setCell, size_fill, bytesW]; omega)) only [go_sem, c56, c56S0, c56S1, c56S2, c56S3, c56S4, c56L0, c56S5, c56S6, c56S7]
  refine Ret.mono (sort_ok earI _ (enters_of Try.func86 (by kernel_rfl) rfl) swo_ear earlier_ok vl l w2 _ (s2.row 0 rfl) hl) ?_
  rintro _ w3 ⟨l', hs, o3, c3⟩
  have s3 := s2.upd 0 rfl c3 (.row vl 58 11 l.length (l'.flatMap OpT.enc)) o3 fun k hk => .inl hk
  have hll : l'.length = l.length := hs.1.length_eq
  simp only [List.set_cons_zero] at s3
  have s4 := s3.seal (.rd 11 OpT.enc vl l') (RdS.of_own' (s3.row 0 rfl) l' hll.symm rfl) fun k hk => slFoot_own hk
  obtain ⟨al, cl, rfl, _⟩ := own_slice o3
  simp (disch := first | omega | exact okFill_t rfl | exact okSize_t rfl | exact fun h => h | (simp only [World.size_alloc, World.size_drew, World.size_setCell, size_fill, bytesW]; omega)) only [go_sem, c56, c56S0, c56S1, c56S2, c56S3, c56S4, c56L0, c56S5, c56S6, c56S7]
  refine W_loopU (fun x : Nat × Value => [(4, x.2), (15, .int .i64 x.1)]) (fun x w' => x.1 ≤ l'.length ∧ Cuts w w' [.blk w.heap.size #[.int .i64 obj, .int .i64 kind, .slice a l.length c] 24] [.rd 11 OpT.enc (.slice al l.length cl) l'] x.2 ((l'.take x.1).foldl (cutStep (fun s o => s.ops.all fun x => before x o) fun _ => (obj, kind)) [])) (fun x => l'.length - x.1) (0, .slice none 0 0) rfl ⟨Nat.zero_le _, .inl ⟨rfl, rfl, s4⟩⟩ ?_
  rintro ⟨k, vo⟩ w4 ⟨hk, hc⟩
  simp only at hk hc
  generalize ha : (l'.take k).foldl (cutStep (fun s o => s.ops.all fun x => before x o) fun _ => (obj, kind)) [] = acc at hc
  obtain ⟨ao, co, rfl⟩ := hc.form
  by_cases hlt : k < l'.length
  · have hlt' : (k : Int) < l.length := by omega
    have hstep : (l'.take (k + 1)).foldl (cutStep (fun s o => s.ops.all fun x => before x o) fun _ => (obj, kind)) [] = cutStep (fun s o => s.ops.all fun x => before x o) (fun _ => (obj, kind)) acc l'[k] := by
      rw [List.take_succ_eq_append_getElem hlt, List.foldl_append, ha]; rfl
    have s5 : St w w4 (fun _ => False) [.blk w.heap.size #[.int .i64 obj, .int .i64 kind, .slice a l.length c] 24] [.rd 11 OpT.enc (.slice al l.length cl) l'] := hc.base
    have r5 := s5.rules 0 rfl
    have g5 := s5.get 0 rfl
    have g5' : RdS w4 11 OpT.enc (.slice al l.length cl) l' := g5
    obtain ⟨pl, rfl⟩ := RdS.ptr (by rw [← hll] at g5'; exact g5') (by omega)
    have el := g5'.at OpT.len hlt
    simp (disch := first | omega | exact okFill_t rfl | exact okSize_t rfl | exact fun h => h | (simp only [World.size_alloc, World.size_drew, World.size_setCell, size_fill, bytesW]; omega)) only [go_sem, c56, c56S0, c56S3, c56S4, c56L0, c56S5, c56S6, c56S7, hlt', r5, el]
    have hflat := cut_flat (fun s o => s.ops.all fun x => before x o) (fun _ => (obj, kind)) (l'.take k) []
    have hne := cut_ne (fun s o => s.ops.all fun x => before x o) (fun _ => (obj, kind)) (l'.take k) [] (fun s h => by cases h)
    rw [ha] at hflat hne
    simp only [List.flatMap_nil, List.nil_append] at hflat
    have hlen := segs_len acc hne
    have hfl : (acc.flatMap Seg.ops).length = k := by rw [hflat, List.length_take]; omega
    refine ⟨by omega, rfl, ⟨by omega, by omega⟩, ?_⟩
    have hc6 := hc.box l'[k].enc.toArray 58
    have hw6 := hc6.base.size
    have r6 := hc6.base.rules 1 rfl
    have ho := hc6.base.blk 0 rfl
    generalize w4.heap.size = bo at hc6 ho ⊢
    generalize w4.alloc (.cells l'[k].enc.toArray 58) = w6 at hc6 ho r6 hw6 ⊢
    have ro := ho.rules
    have hw7 := ho.lt
    rcases List.eq_nil_or_concat acc with rfl | ⟨ini, s, hacc⟩
    · refine c56draw0 (Chg (fun _ => False) _) (Chg.refl _ _) ?_
      simp (disch := first | omega | exact okFill_t rfl | exact okSize_t rfl | exact fun h => h | (simp only [World.size_alloc, World.size_drew, World.size_setCell, size_fill, bytesW]; omega)) only [go_sem, c56, c56S0, c56S1, c56S3, c56S4, c56L0, c56S5, c56S6, c56S7, c56D0, r6]
      refine bdW_built (cells := (segC ⟨obj, kind, []⟩ (.slice none 0 0)).toArray) (by kernel_rfl) ?_
      simp (disch := first | omega | exact okFill_t rfl | exact okSize_t rfl | exact fun h => h | (simp only [World.size_alloc, World.size_drew, World.size_setCell, size_fill, bytesW]; omega)) only [go_sem, c56, c56S0, c56S1, c56S3, c56S4, c56L0, c56S5, c56S6, c56S7]
      refine bsW_agg ty47mkI rfl (by decide) (by decide) ?_
      simp (disch := first | omega | exact okFill_t rfl | exact okSize_t rfl | exact fun h => h | (simp only [World.size_alloc, World.size_drew, World.size_setCell, size_fill, bytesW]; omega)) only [go_sem, c56, c56S0, c56S1, c56S3, c56S4, c56L0, c56S5, c56S6, c56S7]
      have hrd : Rd (w6.alloc (.cells (segC ⟨obj, kind, []⟩ (.slice none 0 0)).toArray 24)).drew 3 (.slice (some ⟨w6.heap.size, 0, none⟩) 1 1) 1 (segC ⟨obj, kind, []⟩ (.slice none 0 0)) := rd_new (w := w6.drew) (t := 24) (sz := 3) (n := 1) (cs := (segC ⟨obj, kind, []⟩ (.slice none 0 0)).toArray) rfl
      refine (hc6.call (w' := (w6.alloc (.cells (segC ⟨obj, kind, []⟩ (.slice none 0 0)).toArray 24)).drew) ((Below.refl _ w6).alloc (Nat.le_refl _) _).drew).grow obj kind (by simp) hrd ?_
      intro v8 w8 c8
      simp (disch := first | omega | exact okFill_t rfl | exact okSize_t rfl | exact fun h => h | (simp only [World.size_alloc, World.size_drew, World.size_setCell, size_fill, bytesW]; omega)) only [go_sem, c56, c56S0, c56S1, c56S3, c56S4, c56L0, c56S5, c56S6, c56S7]
      refine ⟨⟨by decide, by decide⟩, push16 (ini := []) l'[k] bo _ _ _ _ c8 (by simp) (by simp) ?_⟩
      intro w9 c9
      simp (disch := first | omega | exact okFill_t rfl | exact okSize_t rfl | exact fun h => h | (simp only [World.size_alloc, World.size_drew, World.size_setCell, size_fill, bytesW]; omega)) only [go_sem, c56, c56S0, c56S1, c56S2, c56S3, c56S4, c56L0, c56S5, c56S6, c56S7]
      refine ⟨⟨by omega, by omega⟩, (k + 1, _), rfl, ⟨by simp only; omega, ?_⟩, by simp only; omega⟩
      simp only
      rw [hstep, cutStep_nil]
      exact c9
    · rw [List.concat_eq_append] at hacc
      subst hacc
      rcases id hc6 with ⟨h0, _⟩ | ⟨ini', s', vs, vl, he, hvl, hN6, s6⟩
      · simp at h0
      obtain ⟨rfl, rfl⟩ : ini = ini' ∧ s = s' := by
        have := List.append_inj' he rfl
        exact ⟨this.1, by simpa using this.2⟩
      have hnz : ((ini ++ [s]).length : Int) - 1 = ini.length := by simp
      rw [hnz]
      rw [List.length_append, List.length_singleton] at hc6 s6 ⊢
      obtain ⟨g, rfl⟩ : ∃ g, ao = some ⟨g, 0, none⟩ := by
        obtain ⟨_, ⟨_, h0⟩ | ⟨g, cap, cur, e, _⟩⟩ := s6.row 1 rfl
        · omega
        · cases e; exact ⟨g, rfl⟩
      have hrow := s6.row 1 rfl
      have hsl := segCells_length ini vs hvl
      have hc0 : w6.cell? ⟨g, ini.length * 3 + 2, none⟩ = some vl := by
        have := hrow.cells rfl (ini.length * 3 + 2) vl (by rw [List.getElem?_append_right (by omega), hsl, show ini.length * 3 + 2 - ini.length * 3 = 2 by omega]; rfl)
        simpa [Addr.add] using this
      have hgl := hrow.lt g rfl
      have hil := s6.row 0 rfl
      obtain ⟨av, cv, rfl, _⟩ := own_slice (s6.row 0 rfl)
      refine c56draw0 (Chg (fun _ => False) _) (Chg.refl _ _) ?_
      simp (disch := first | omega | exact okFill_t rfl | exact okSize_t rfl | exact fun h => h | (simp only [World.size_alloc, World.size_drew, World.size_setCell, size_fill, bytesW]; omega)) only [go_sem, c56, c56S0, c56S1, c56S3, c56S4, c56L0, c56S5, c56S6, c56S7, c56D0, r6, ro, hc0]
      have hsl' := seg_len (ini ++ [s]) s (by simp)
      refine ⟨fun _ => ⟨⟨by omega, by omega⟩, Ret.mono (quiet_ok _ s.ops l'[k] _ (RdS.of_own (hil.drew)) (by omega)) ?_⟩, fun h => by omega⟩
      rintro _ w8 ⟨rfl, b8⟩
      have hc8 : Cuts w w8 _ _ _ (ini ++ [s]) := (hc6.call ((Below.refl _ w6).drew)).call b8
      have r8 := hc8.base.rules 1 rfl
      simp (disch := first | omega | exact okFill_t rfl | exact okSize_t rfl | exact fun h => h | (simp only [World.size_alloc, World.size_drew, World.size_setCell, size_fill, bytesW]; omega)) only [go_sem, c56, c56S0, c56S1, c56S3, c56S4, c56L0, c56S5, c56S6, c56S7, c56D0, r6, ro, hc0, r8]
      refine ⟨fun hq => ?_, fun hq => ?_⟩
      · refine bdW_built (cells := (segC ⟨obj, kind, []⟩ (.slice none 0 0)).toArray) (by kernel_rfl) ?_
        simp (disch := first | omega | exact okFill_t rfl | exact okSize_t rfl | exact fun h => h | (simp only [World.size_alloc, World.size_drew, World.size_setCell, size_fill, bytesW]; omega)) only [go_sem, c56, c56S0, c56S1, c56S3, c56S4, c56L0, c56S5, c56S6, c56S7]
        refine bsW_agg ty47mkI rfl (by decide) (by decide) ?_
        simp (disch := first | omega | exact okFill_t rfl | exact okSize_t rfl | exact fun h => h | (simp only [World.size_alloc, World.size_drew, World.size_setCell, size_fill, bytesW]; omega)) only [go_sem, c56, c56S0, c56S1, c56S3, c56S4, c56L0, c56S5, c56S6, c56S7]
        have hrd : Rd (w8.alloc (.cells (segC ⟨obj, kind, []⟩ (.slice none 0 0)).toArray 24)) 3 (.slice (some ⟨w8.heap.size, 0, none⟩) 1 1) 1 (segC ⟨obj, kind, []⟩ (.slice none 0 0)) := rd_new (t := 24) (sz := 3) (n := 1) (cs := (segC ⟨obj, kind, []⟩ (.slice none 0 0)).toArray) rfl
        refine (hc8.call (w' := w8.alloc (.cells (segC ⟨obj, kind, []⟩ (.slice none 0 0)).toArray 24)) ((Below.refl _ w8).alloc (Nat.le_refl _) _)).grow obj kind (by simp; omega) hrd ?_
        intro v9 w9 c9
        simp (disch := first | omega | exact okFill_t rfl | exact okSize_t rfl | exact fun h => h | (simp only [World.size_alloc, World.size_drew, World.size_setCell, size_fill, bytesW]; omega)) only [go_sem, c56, c56S0, c56S1, c56S3, c56S4, c56L0, c56S5, c56S6, c56S7]
        refine ⟨⟨by omega, by omega⟩, ?_⟩
        rw [show (ini.length : Int) + 1 = ((ini ++ [s]).length : Nat) by simp]
        refine push16 (ini := ini ++ [s]) l'[k] bo _ _ _ _ c9 (by simp; omega) (by simp) ?_
        intro w10 c10
        simp (disch := first | omega | exact okFill_t rfl | exact okSize_t rfl | exact fun h => h | (simp only [World.size_alloc, World.size_drew, World.size_setCell, size_fill, bytesW]; omega)) only [go_sem, c56, c56S0, c56S1, c56S2, c56S3, c56S4, c56L0, c56S5, c56S6, c56S7]
        refine ⟨⟨by omega, by omega⟩, (k + 1, _), rfl, ⟨by simp only; omega, ?_⟩, by simp only; omega⟩
        simp only
        rw [hstep, cutStep_new _ _ hq]
        exact c10
      · refine push16 l'[k] bo _ _ _ _ hc8 (by omega) (by omega) ?_
        intro w9 c9
        simp (disch := first | omega | exact okFill_t rfl | exact okSize_t rfl | exact fun h => h | (simp only [World.size_alloc, World.size_drew, World.size_setCell, size_fill, bytesW]; omega)) only [go_sem, c56, c56S0, c56S1, c56S2, c56S3, c56S4, c56L0, c56S5, c56S6, c56S7]
        refine ⟨⟨by omega, by omega⟩, (k + 1, _), rfl, ⟨by simp only; omega, ?_⟩, by simp only; omega⟩
        simp only
        rw [hstep, cutStep_old _ _ hq]
        exact c9
  · have hlt' : ¬ (k : Int) < l.length := by omega
    simp (disch := first | omega | exact okFill_t rfl | exact okSize_t rfl | exact fun h => h | (simp only [World.size_alloc, World.size_drew, World.size_setCell, size_fill, bytesW]; omega)) only [go_sem, c56, c56S0, c56S1, c56S2, c56S3, c56S4, c56L0, c56S5, c56S6, c56S7, hlt']
    have hkl : k = l'.length := by omega
    subst hkl
    rw [List.take_length] at ha
    subst ha
    have hflat := cut_flat (fun s o => s.ops.all fun x => before x o) (fun _ => (obj, kind)) l' []
    refine ⟨⟨l', hs, hc.out fun s hs => ?_⟩, hc.bel⟩
    have h1 := seg_len _ s hs
    rw [hflat] at h1
    simp only [List.flatMap_nil, List.nil_append] at h1
    omega
end Go.Proofs.Ytbeoedgoikcbpaa.Cut

namespace Go.Proofs.Ytbeoedgoikcbpaa.Cut
set_option linter.unusedSimpArgs false
set_option linter.unusedVariables false
set_option maxRecDepth 100000
open Go Go.Ann Go.RowKit
def idI (a b : OpT) : Int := cmpI a.ID b.ID
theorem least1_ok (a b : OpT) (w : World) : Ret Try.prog 59 [.agg a.enc.toArray, .agg b.enc.toArray] w fun u w' => u = .int .i64 (idI a b) ∧ Gr w w' := by
  refine ent59 _ _ _ _ ?_
  have ha := a.at; have hb := b.at
  simp (disch := first | omega | exact okFill_t rfl | exact okSize_t rfl | exact fun h => h | (simp only [World.size_alloc, World.size_drew, World.size_setCell, size_fill, bytesW]; omega)) only [go_sem, c59, c59S0, ha, hb]
  refine Ret.mono (compare_ok _ _ _) ?_
  rintro _ w2 ⟨rfl, e2⟩
  subst w2
  simp (disch := first | omega | exact okFill_t rfl | exact okSize_t rfl | exact fun h => h | (simp only [World.size_alloc, World.size_drew, World.size_setCell, size_fill, bytesW]; omega)) only [go_sem, c59, c59S0]
  exact ⟨rfl, ((Gr.refl w).alloc _).alloc _⟩
theorem id_neg (a b : OpT) : (idI a b < 0) = (a.ID < b.ID) := cmpI_neg _ _
theorem lt_id (a b : OpT) : ltOf idI a b = decide (a.ID < b.ID) := by
  unfold ltOf
  rw [decide_eq_decide, id_neg]
theorem idsort_ok (v : Value) (l : List OpT) (w : World) (B : Nat) (h : w.ownsRow B 58 11 v l.length (l.flatMap OpT.enc)) (hl : l.length ≤ 100) :
    Ret Try.prog 58 [v, .func (.func 59) #[] #[]] w fun _ w' => ∃ l', Sorts idI l l' ∧ w'.ownsRow B 58 11 v l.length (l'.flatMap OpT.enc) ∧ Chg (fun k => v.ownBlock = some k) w w' :=
  sort_ok idI _ (enters_of Try.func59 (by kernel_rfl) rfl) (by
    constructor
    all_goals intros
    all_goals simp only [lt_id, decide_eq_true_eq, decide_eq_false_iff_not] at *
    all_goals omega) least1_ok v l w B h hl
end Go.Proofs.Ytbeoedgoikcbpaa.Cut

namespace Go.Proofs.Ytbeoedgoikcbpaa
set_option linter.unusedSimpArgs false
set_option linter.unusedVariables false
set_option maxRecDepth 100000
open Go Go.Ann Go.RowKit
theorem valid1_ok (o : OpT) (b : Nat) (id : Int) (w : World) (hB : Blk w b #[.int .i64 id] 3) :
    Ret Try.prog 81 [.agg o.enc.toArray, .pointer (some ⟨b, 0, none⟩)] w fun u w' => u = .bool (decide (o.ID = id)) ∧ Below w.heap.size w w' := by
  have r := hB.rules
  have lb := hB.lt
  have ho := o.at
  refine ent81 _ _ _ _ ?_
  simp (disch := first | omega | exact okFill_t rfl | exact okSize_t rfl | exact fun h => h | (simp only [World.size_alloc, World.size_drew, World.size_setCell, size_fill, bytesW]; omega)) only [go_sem, c81, r, ho]
  exact (Below.refl _ _).alloc (Nat.le_refl _) _
theorem valid2_ok (p o : OpT) (b : Nat) (w : World) (hB : Blk w b o.enc.toArray 58) :
    Ret Try.prog 84 [.agg p.enc.toArray, .pointer (some ⟨b, 0, none⟩)] w fun u w' => u = .bool (before o p) ∧ Below w.heap.size w w' := by
  have r := hB.rules
  have lb := hB.lt
  refine ent84 _ _ _ _ ?_
  simp (disch := first | omega | exact okFill_t rfl | exact okSize_t rfl | exact fun h => h | (simp only [World.size_alloc, World.size_drew, World.size_setCell, size_fill, bytesW]; omega)) only [go_sem, c84, c84S0, r]
  refine Ret.mono (before_ok _ _ _) ?_
  rintro _ w2 ⟨rfl, b2⟩
  simp (disch := first | omega | exact okFill_t rfl | exact okSize_t rfl | exact fun h => h | (simp only [World.size_alloc, World.size_drew, World.size_setCell, size_fill, bytesW]; omega)) only [go_sem, c84, c84S0]
  exact Below.next ((Below.refl _ _).alloc (Nat.le_refl _) _) b2
end Go.Proofs.Ytbeoedgoikcbpaa

namespace Go.Proofs.Ytbeoedgoikcbpaa
set_option linter.unusedSimpArgs false
set_option linter.unusedVariables false
set_option maxRecDepth 100000
open Go Go.Ann Go.RowKit
def Inv.ops (D : List VL) : Inv := ⟨fun w => ∀ p ∈ D, RdS w 11 OpT.enc p.1 p.2, fun k => ∃ p ∈ D, slFoot p.1 k, fun w w' h hk p hp => RdS.loc (h p hp) fun k hf => hk k ⟨p, hp, hf⟩⟩
theorem ops_join {W0 w : World} {F : Nat → Prop} {L : List Res} {I : List Inv} {v : Value} {l : List OpT} {D : List VL} (h : St W0 w F L (Inv.rd 11 OpT.enc v l :: Inv.ops D :: I)) : St W0 w F L (Inv.ops (D ++ [(v, l)]) :: I) := by
  have h1 := h.inv _ (List.mem_cons_self ..)
  have h2 := h.inv (Inv.ops D) (List.mem_cons_of_mem _ (List.mem_cons_self ..))
  refine (h.inv_sub (I' := I) fun a ha => List.mem_cons_of_mem _ (List.mem_cons_of_mem _ ha)).keep _ (fun p hp => ?_) fun k hk => ?_
  · rcases List.mem_append.1 hp with hp | hp
    · exact h2.1 p hp
    · rw [List.mem_singleton] at hp; subst hp; exact h1.1
  · obtain ⟨p, hp, hk⟩ := hk
    rcases List.mem_append.1 hp with hp | hp
    · exact h2.2 k ⟨p, hp, hk⟩
    · rw [List.mem_singleton] at hp; subst hp; exact h1.2 k hk
theorem st_append' {P : Program} {W0 w : World} {F : Nat → Prop} {L : List Res} {I : List Inv} {K : Value → World → Prop} {t ty e sz bytes : Nat} {z : Value} {cs : Array Bool} {n m : Nat} {v x : Value} {xs ys : List Value} (h : St W0 w F L I) (i : Nat) (hi : L[i]? = some (.row v e sz n xs))
    (hm : mkI P t = some (e, sz, bytes, z)) (hzs : z.cells.size = sz) (hsz : 0 < sz) (hx : Rd w sz x m ys) (h1 : ∀ u ∈ ys, u.oneCell' = true) (hbytes : (n + m) * bytes ≤ 140737488355328) (h63 : n + m ≤ 9223372036854775807)
    (hK : ∀ v' w', St W0 w' F (L.set i (.row v' e sz (n + m) (xs ++ ys))) I → Chg (fun k => v.ownBlock = some k) w w' → (∀ k, v'.ownBlock = some k → v.ownBlock = some k ∨ w.heap.size ≤ k) → K v' w') : rawB P .append #[t, t] ty cs [v, x] w K := by
  have hr := h.row i hi
  obtain ⟨hl, a, c, rfl, hac, hcell⟩ := hx
  obtain ⟨a', cap', rfl, hac'⟩ := own_slice hr
  rcases Nat.eq_zero_or_pos m with hm0 | hm0
  · subst hm0
    have hy : ys = [] := List.eq_nil_of_length_eq_zero (by rw [hl]; simp)
    subst hy
    refine rawB_append0 hm hac' (hK _ _ ?_ (Chg.refl _ _) fun k hk => .inl hk)
    rw [List.append_nil, Nat.add_zero]
    have : L.set i (.row (.slice a' n cap') e sz n xs) = L := by
      apply List.ext_getElem?
      intro j
      rw [List.getElem?_set]
      split
      · rename_i e; subst e; rw [hi]; simp [(List.getElem?_eq_some_iff.1 hi).1]
      · rfl
    rw [this]; exact h
  · obtain ⟨ad, rfl, hc⟩ := hcell (by omega)
    refine rawB_append hm hzs hsz hr hl hc h1 hm0 hbytes h63 h.size ?_
    intro g cap w' hown hgr hg hlt
    have hn : ∀ k, (Value.slice (some ⟨g, 0, none⟩) (n + m) cap).ownBlock = some k → (Value.slice a' n cap').ownBlock = some k ∨ w.heap.size ≤ k := fun k hk => ?_
    refine hK _ _ (h.grow i hi hgr hown hn) ((Chg.refl _ w).grown hgr fun k hk _ => hk) hn
    simp only [Value.ownBlock, Option.some.injEq] at hk
    subst hk
    exact hg.imp id fun e => Nat.le_of_eq e.symm
theorem flat1 (l : List Value) : l.flatMap (fun u => [u]) = l := by simp
theorem seg_join {W0 w : World} {F : Nat → Prop} {L : List Res} {I : List Inv} {v : Value} {D : List VL} (h : St W0 w F L (Inv.rd 1 (fun u : Value => [u]) v (D.map Prod.fst) :: Inv.ops D :: I)) : St W0 w F L (Inv.segw v D :: I) := by
  have h1 := h.inv _ (List.mem_cons_self ..)
  have h2 := h.inv (Inv.ops D) (List.mem_cons_of_mem _ (List.mem_cons_self ..))
  refine (h.inv_sub (I' := I) fun a ha => List.mem_cons_of_mem _ (List.mem_cons_of_mem _ ha)).keep _ ⟨?_, h2.1⟩ fun k hk => ?_
  · have := h1.1
    show Rd w 1 v D.length (D.map Prod.fst)
    have h3 : Rd w 1 v (D.map Prod.fst).length ((D.map Prod.fst).flatMap fun u : Value => [u]) := this
    rwa [flat1, List.length_map] at h3
  · rcases hk with hk | hk
    · exact h1.2 k hk
    · exact h2.2 k hk
theorem sum17 : ∀ {ls : List (List OpT)}, (∀ l ∈ ls, l.length ≤ 16) → (ls.map fun l => l.length + 1).sum ≤ 17 * ls.length
  | [], _ => by simp
  | a :: ls, h => by
    have h1 := sum17 (ls := ls) fun l hl => h l (List.mem_cons_of_mem _ hl)
    have h2 := h a (List.mem_cons_self ..)
    rw [List.map_cons, List.sum_cons, List.length_cons]; omega
theorem undone_le (d : List Bool) : undone d ≤ d.length := List.count_le_length
theorem work_le {ls : List (List OpT)} (h : ∀ l ∈ ls, l.length ≤ 16) : work ls 0 (nextD ls 0) ≤ 17 * ls.length + 18 := by
  unfold work
  have h1 := sum17 (ls := ls.drop (0 + 1)) fun l hl => h l (List.mem_of_mem_drop hl)
  rw [List.length_drop] at h1
  have h2 := undone_le (nextD ls 0)
  have h3 : (nextD ls 0).length ≤ 16 := by
    unfold nextD
    rw [List.length_replicate]
    cases hl : ls[0]? with
    | none => simp
    | some l => exact h l (List.mem_of_getElem? hl)
  split <;> omega
theorem firstOk (K : Int) : StOk K 1 (firstP K) := by
  refine ⟨?_, ?_, ?_⟩
  · unfold firstP
    split
    · intro x hx; rw [List.mem_singleton] at hx; subst hx; constructor <;> decide
    · intro x hx; cases hx
  · unfold firstP
    split <;> simp
  · intro _
    unfold firstP
    split <;> simp
theorem gs0 {ls : List (List OpT)} (kind : Int) (h : ∀ l ∈ ls, l.length ≤ 16) (hn : ls.length ≤ 100) : GS ls kind 100000 (0, nextD ls 0, firstP kind) := by
  have g := firstOk kind
  refine ⟨fun l hl => nextD_len hl, g.1, ?_, g.2.2⟩
  have h1 := work_le h
  have h2 := g.2.1
  simp only; omega
def left0 (b : Int) : Int := if min b 32768 = -9223372036854775808 then 9223372036854775808 else min b 32768
theorem lw_left0 (b : Int) : lw (left0 b) = min b 32768 := by
  unfold lw left0
  split
  · split at * <;> omega
  · split at * <;> omega
def fs0 (b : Int) : FS := ⟨[], [], left0 b, []⟩
def segsOf (obj kind : Int) (l : List OpT) : List Seg := l.foldl (Cut.cutStep Cut.segQ fun _ => (obj, kind)) []
def LeastV (w' : World) (kind budget : Int) (segs : List Seg) (u : Value) : Prop :=
  ((∃ s ∈ segs, 16 < s.ops.length) ∧ u = .tuple #[.slice none 0 0, .bool false, .int .i64 34]) ∨
  ((∀ s ∈ segs, s.ops.length ≤ 16) ∧ ∃ ls : List (List OpT), ls.length = segs.length ∧ (∀ i (h : i < segs.length) (h' : i < ls.length), Cut.Sorts Cut.idI segs[i].ops ls[i]) ∧ ∃ r, findP ls (work ls 0 (nextD ls 0)) 0 (nextD ls 0) (firstP kind) (fs0 budget) = r ∧
    ((lw r.2.left < 0 ∧ u = .tuple #[.slice none 0 0, .bool false, .int .i64 35]) ∨
     (0 ≤ lw r.2.left ∧ r.1 = false ∧ u = .tuple #[.slice none 0 0, .bool false, .int .i64 0]) ∨
     (0 ≤ lw r.2.left ∧ r.1 = true ∧ ∃ iv, u = .tuple #[iv, .bool true, .int .i64 0] ∧ RdS w' 1 intE iv r.2.ids)))
theorem least_ok {w : World} {v : Value} {l : List OpT} {obj kind budget : Int} (h : RdS w 11 OpT.enc v l) (hl : l.length ≤ 100) (hK : ∀ o ∈ l, o.Kind = kind) (hw : ∀ o ∈ l, o.wf) (hb : I64 budget) :
    Ret Try.prog 27 [.agg #[.int .i64 obj, .int .i64 kind, v], .int .i64 budget] w fun u w' => (∃ l', Cut.Sorts Cut.earI l l' ∧ LeastV w' kind budget (segsOf obj kind l') u) ∧ Below w.heap.size w w' := by
  obtain ⟨a, c, rfl, _⟩ := h.form
  refine ent27 _ _ _ _ ?_
  have s1 := (St.start (W0 := w)).box #[.int .i64 obj, .int .i64 kind, .slice a l.length c] 24
  simp (disch := first | omega | exact okFill_t rfl | exact okSize_t rfl | exact fun h => h | (simp only [World.size_alloc, World.size_drew, World.size_setCell, size_fill, bytesW]; omega)) only [go_sem, c27, c27S0, c27S1, c27S2, c27S3, c27S4, c27L0, c27S5, c27S6, c27S7, c27S8, c27S9]
  refine mmW_map (κ := OKey) (enc := fun k : OKey => .agg (osE k).toArray) ?_
  have s2 := s1.lay (mapO (fun k : OKey => .agg (osE k).toArray) [])
  simp (disch := first | omega | exact okFill_t rfl | exact okSize_t rfl | exact fun h => h | (simp only [World.size_alloc, World.size_drew, World.size_setCell, size_fill, bytesW]; omega)) only [go_sem, c27, c27S0, c27S1, c27S2, c27S3, c27S4, c27L0, c27S5, c27S6, c27S7, c27S8, c27S9]
  refine bdW_built (cells := #[.slice none 0 0, .map (some (w.heap.size + 1)), .slice none 0 0, .int .i64 (min budget 32768)]) (by kernel_rfl) ?_
  simp (disch := first | omega | exact okFill_t rfl | exact okSize_t rfl | exact fun h => h | (simp only [World.size_alloc, World.size_drew, World.size_setCell, size_fill, bytesW]; omega)) only [go_sem, c27, c27S0, c27S1, c27S2, c27S3, c27S4, c27L0, c27S5, c27S6, c27S7, c27S8, c27S9]
  have s3 := s2.box #[.slice none 0 0, .map (some (w.heap.size + 1)), .slice none 0 0, .int .i64 (min budget 32768)] 99
  have hm : (w.alloc (.cells #[.int .i64 obj, .int .i64 kind, .slice a l.length c] 24)).heap.size = w.heap.size + 1 := by simp
  have hx : ((w.alloc (.cells #[.int .i64 obj, .int .i64 kind, .slice a l.length c] 24)).alloc (mapO (fun k : OKey => .agg (osE k).toArray) [])).heap.size = w.heap.size + 1 + 1 := by simp
  rw [hx, hm] at s3
  generalize hm' : w.heap.size + 1 = m at s3 ⊢
  generalize ((w.alloc (.cells #[.int .i64 obj, .int .i64 kind, .slice a l.length c] 24)).alloc (mapO (fun k : OKey => .agg (osE k).toArray) [])).alloc (.cells #[.slice none 0 0, .map (some m), .slice none 0 0, .int .i64 (min budget 32768)] 99) = w3 at s3 ⊢
  generalize hb' : w.heap.size = b at s3 ⊢
  have r3 := s3.rules 2 rfl
  simp (disch := first | omega | exact okFill_t rfl | exact okSize_t rfl | exact fun h => h | (simp only [World.size_alloc, World.size_drew, World.size_setCell, size_fill, bytesW]; omega)) only [go_sem, c27, c27S0, c27S1, c27S2, c27S3, c27S4, c27L0, c27S6, c27S7, c27S8, c27S10, r3]
  refine Ret.mono (Cut.segments_ok obj kind _ l _ (h.below s3.bel (by decide)) hl) ?_
  rintro sv w4 ⟨⟨l', hs, hsg⟩, b4⟩
  have hsg : ∀ w2 : World, (∀ k, w3.heap.size ≤ k → k < w4.heap.size → w2.heap[k]? = w4.heap[k]?) → RdR w2 3 Cut.segR sv (segsOf obj kind l') := hsg
  have hseg := hsg w4 fun _ _ _ => rfl
  have s4 := s3.call b4
  have hmx : m + 1 < w3.heap.size := (s3.low 0 rfl).2
  obtain ⟨pa, pc, rfl, _⟩ := hseg.form
  simp (disch := first | omega | exact okFill_t rfl | exact okSize_t rfl | exact fun h => h | (simp only [World.size_alloc, World.size_drew, World.size_setCell, size_fill, bytesW]; omega)) only [go_sem, c27, c27S0, c27S1, c27S2, c27S3, c27S4, c27L0, c27S6, c27S7, c27S8, c27S10]
  have hlen : (segsOf obj kind l').length ≤ l.length := by
    have h1 := Cut.segs_len (segsOf obj kind l') (Cut.cut_ne Cut.segQ (fun _ => (obj, kind)) l' [] fun s hs => by cases hs)
    have h2 : (segsOf obj kind l').flatMap Seg.ops = l' := by unfold segsOf; rw [Cut.cut_flat]; rfl
    rw [h2, hs.1.length_eq] at h1
    exact h1
  have hsl : ∀ s ∈ segsOf obj kind l', s.ops.length ≤ 100 := fun s hs' => by
    have h1 := Cut.seg_len _ s hs'
    have h2 : (segsOf obj kind l').flatMap Seg.ops = l' := by unfold segsOf; rw [Cut.cut_flat]; rfl
    rw [h2, hs.1.length_eq] at h1
    omega
  have hmem : ∀ s ∈ segsOf obj kind l', ∀ o ∈ s.ops, o ∈ l := fun s hs' o ho => by
    have h2 : (segsOf obj kind l').flatMap Seg.ops = l' := by unfold segsOf; rw [Cut.cut_flat]; rfl
    have : o ∈ (segsOf obj kind l').flatMap Seg.ops := List.mem_flatMap.2 ⟨s, hs', ho⟩
    rw [h2] at this
    exact hs.1.mem_iff.1 this
  have fin : ∀ {u : Value} {w' : World}, LeastV w' kind budget (segsOf obj kind l') u → Below w.heap.size w w' → (∃ l', Cut.Sorts Cut.earI l l' ∧ LeastV w' kind budget (segsOf obj kind l') u) ∧ Below b w w' := fun h1 h2 => ⟨⟨l', hs, h1⟩, hb' ▸ h2⟩
  generalize segsOf obj kind l' = segs at hseg hsg hlen hsl hmem fin ⊢
  have s4 := s4.nilRow 22 1
  have s5 : St w w4 (fun _ => False) [.row (.slice none 0 0) 22 1 0 [], .blk (m + 1) #[.slice none 0 0, .map (some m), .slice none 0 0, .int .i64 (min budget 32768)] 99, .obj m (mapO (fun k : OKey => .agg (osE k).toArray) []), .blk b #[.int .i64 obj, .int .i64 kind, .slice a l.length c] 24] [Inv.ops []] :=
    s4.keep (Inv.ops []) (fun p hp => by cases hp) fun k hk => by obtain ⟨p, hp, _⟩ := hk; cases hp
  simp (disch := first | omega | exact okFill_t rfl | exact okSize_t rfl | exact fun h => h | (simp only [World.size_alloc, World.size_drew, World.size_setCell, size_fill, bytesW]; omega)) only [go_sem, c27, c27S0, c27S1, c27S2, c27S3, c27S4, c27S5, c27S6, c27S7, c27S8, c27S9, c27S10]
  refine W_loopU (fun q : Nat × Value × List VL => [(20, .int .i64 q.1)]) (fun q w' => St w w' (fun _ => False) [.row q.2.1 22 1 q.2.2.length (q.2.2.map Prod.fst), .blk (m + 1) #[q.2.1, .map (some m), .slice none 0 0, .int .i64 (min budget 32768)] 99, .obj m (mapO (fun k : OKey => .agg (osE k).toArray) []), .blk b #[.int .i64 obj, .int .i64 kind, .slice a l.length c] 24] [Inv.ops q.2.2] ∧
    Chg (fun j => j < w3.heap.size) w4 w' ∧ (∀ j, q.2.1.ownBlock = some j → w4.heap.size ≤ j) ∧ q.2.2.length = q.1 ∧ q.1 ≤ segs.length ∧ ∀ i (h : i < segs.length) (h' : i < q.2.2.length), i < q.1 → Cut.Sorts Cut.idI segs[i].ops q.2.2[i].2 ∧ segs[i].ops.length ≤ 16) (fun q => segs.length - q.1) (0, .slice none 0 0, []) rfl ⟨s5, Chg.refl _ _, (fun j hj => by cases hj), rfl, Nat.zero_le _, fun i _ _ h => by omega⟩ ?_
  clear s5 s4
  rintro ⟨k, lv, D⟩ w5 ⟨s5, b5, hlv, hDl, hk, hinv⟩
  simp only at s5 b5 hlv hDl hk hinv
  obtain ⟨la, lc, rfl, _⟩ := own_slice (s5.row 0 rfl)
  by_cases hlt : k < segs.length
  · have hlt' : (k : Int) < segs.length := by omega
    obtain ⟨pp, rfl⟩ := hseg.ptr (by omega)
    have hr5 := hsg w5 fun j h1 h2 => b5.block j h2 (by omega)
    obtain ⟨ck, hckl, ⟨vk, rfl, hvk, hlk⟩, hldk, ek⟩ := hr5.elt (by decide) hlt
    obtain ⟨ka, kc, rfl, _⟩ := hvk.form
    simp (disch := first | omega | exact okFill_t rfl | exact okSize_t rfl | exact fun h => h | (simp only [World.size_alloc, World.size_drew, World.size_setCell, size_fill, bytesW]; omega)) only [go_sem, c27, c27S0, c27S1, c27S3, c27S4, c27L0, c27S5, c27S6, c27S7, c27S8, c27S9, c27S10, c27L0, hlt', hldk]
    have s6 := s5.box #[.int .i64 segs[k].obj, .int .i64 segs[k].kind, .slice ka segs[k].ops.length kc] 24
    have r6 := s6.rules 0 rfl
    refine ⟨by omega, fun hgt => fin (.inl ⟨⟨_, List.getElem_mem hlt, by omega⟩, rfl⟩) s6.bel, fun hle => ?_⟩
    have hvk6 : RdS _ 11 OpT.enc _ _ := hvk.below ((Below.refl _ w5).alloc (Nat.le_refl _) (.cells #[.int .i64 segs[k].obj, .int .i64 segs[k].kind, .slice ka segs[k].ops.length kc] 24)) (by decide)
    have b6 := b5.alloc (.cells #[.int .i64 segs[k].obj, .int .i64 segs[k].kind, .slice ka segs[k].ops.length kc] 24)
    generalize w5.alloc (.cells #[.int .i64 segs[k].obj, .int .i64 segs[k].kind, .slice ka segs[k].ops.length kc] 24) = w6 at s6 r6 hvk6 b6 ⊢
    generalize w5.heap.size = y at s6 r6 ⊢
    simp (disch := first | omega | exact okFill_t rfl | exact okSize_t rfl | exact fun h => h | (simp only [World.size_alloc, World.size_drew, World.size_setCell, size_fill, bytesW]; omega)) only [go_sem, c27, c27S0, c27S2, c27S3, c27S4, c27L0, c27S5, c27S6, c27S7, c27S8, c27S9, c27S10, r6]
    refine Ret.mono (Cut.clone_ok _ _ _ hvk6 (by omega)) ?_
    rintro v7 w7 ⟨o7, b7⟩
    have s7 := s6.add b7 (.row v7 58 11 segs[k].ops.length (segs[k].ops.flatMap OpT.enc)) (own_mono o7 s6.size) fun j hj => (o7.lt j hj).1
    simp (disch := first | omega | exact okFill_t rfl | exact okSize_t rfl | exact fun h => h | (simp only [World.size_alloc, World.size_drew, World.size_setCell, size_fill, bytesW]; omega)) only [go_sem, c27, c27S1, c27S2, c27S3, c27S4, c27L0, c27S5, c27S6, c27S7, c27S8, c27S9, c27S10]
    refine Ret.mono (Cut.idsort_ok v7 segs[k].ops w7 _ (s7.row 0 rfl) (by omega)) ?_
    rintro _ w8 ⟨l8, hs8, o8, c8⟩
    have b48 : Chg (fun j => j < w3.heap.size) w4 w8 := (b6.next (Chg.of_below b7) (fun _ _ h => h)).next c8 fun j hj hS => by have := (o7.lt j hS).1; have := b6.size; omega
    have s8 := s7.upd 0 rfl c8 (.row v7 58 11 segs[k].ops.length (l8.flatMap OpT.enc)) o8 fun j hj => .inl hj
    simp only [List.set_cons_zero] at s8
    have s9 := s8.seal (.rd 11 OpT.enc v7 l8) (RdS.of_own' (s8.row 0 rfl) l8 hs8.1.length_eq.symm rfl) fun j hj => slFoot_own hj
    have s10 := ops_join s9
    obtain ⟨a7, c7, rfl, _⟩ := own_slice o7
    clear s9 s8 s7 s6 o8
    have r10 := s10.rules 2 rfl
    simp (disch := first | omega | exact okFill_t rfl | exact okSize_t rfl | exact fun h => h | (simp only [World.size_alloc, World.size_drew, World.size_setCell, size_fill, bytesW]; omega)) only [go_sem, c27, c27S0, c27S1, c27S2, c27S3, c27S4, c27L0, c27S5, c27S6, c27S7, c27S8, c27S9, c27S10, r10]
    have ones : ∀ u ∈ [Value.slice a7 segs[k].ops.length c7], u.oneCell' = true := fun u hu => by rw [List.mem_singleton] at hu; subst hu; rfl
    refine bsW_ones ty97mkI rfl rfl (by decide) (by decide) ones ?_
    have hx : Rd (w8.alloc (.cells #[.slice a7 segs[k].ops.length c7] 22)) 1 (.slice (some ⟨w8.heap.size, 0, none⟩) 1 1) 1 [.slice a7 segs[k].ops.length c7] := rd_new (n := 1) (cs := #[.slice a7 segs[k].ops.length c7]) rfl
    simp (disch := first | omega | exact okFill_t rfl | exact okSize_t rfl | exact fun h => h | (simp only [World.size_alloc, World.size_drew, World.size_setCell, size_fill, bytesW]; omega)) only [go_sem, c27, c27S0, c27S1, c27S2, c27S3, c27S4, c27L0, c27S5, c27S6, c27S7, c27S8, c27S9, c27S10]
    refine st_append' (s10.alloc' (.cells #[.slice a7 segs[k].ops.length c7] 22)) 1 rfl ty97mkI rfl (by decide) hx ones (by omega) (by omega) ?_
    intro v11 w11 s11 c11 n11
    simp only [List.set_cons_zero, List.set_cons_succ] at s11
    obtain ⟨a11, d11, rfl, _⟩ := own_slice (s11.row 1 rfl)
    have r11 := s11.rules 2 rfl
    simp (disch := first | omega | exact okFill_t rfl | exact okSize_t rfl | exact fun h => h | (simp only [World.size_alloc, World.size_drew, World.size_setCell, size_fill, bytesW]; omega)) only [go_sem, c27, c27S0, c27S1, c27S2, c27S3, c27S4, c27L0, c27S5, c27S6, c27S7, c27S8, c27S9, c27S10, r11]
    have b11 : Chg (fun j => j < w3.heap.size) w4 (w11.setCell ⟨m + 1, 0, none⟩ (.slice a11 (D.length + 1) d11)) := ((b48.alloc (.cells #[.slice a7 segs[k].ops.length c7] 22)).next c11 fun j hj hS => by have := hlv j hS; omega).setCell _ _ fun _ => hmx
    have s12 := s11.set 2 rfl 0 (.slice a11 (D.length + 1) d11)
    generalize w11.setCell ⟨m + 1, 0, none⟩ (.slice a11 (D.length + 1) d11) = w12 at s12 b11 ⊢
    refine ⟨⟨by omega, by omega⟩, (k + 1, .slice a11 (D.length + 1) d11, D ++ [(.slice a7 segs[k].ops.length c7, l8)]), rfl, ⟨?_, b11, ?_, by simp only [List.length_append, List.length_singleton]; omega, by simp only; omega, ?_⟩, by simp only; omega⟩
    · simp only [List.length_append, List.length_singleton, List.map_append, List.map_cons, List.map_nil]
      exact s12.sub (List.sublist_cons_self _ _)
    · intro j hj
      rcases n11 j hj with h | h
      · exact hlv j h
      · have := b48.size; simp at h; omega
    · intro i hi hi' hik
      simp only [List.length_append, List.length_singleton] at hi' hik ⊢
      rcases Nat.lt_or_ge i k with h1 | h1
      · have := hinv i hi (by omega) h1
        rw [List.getElem_append_left (by omega)]
        exact this
      · obtain rfl : i = k := by omega
        rw [List.getElem_append_right (by omega)]
        simp only [hDl, Nat.sub_self, List.getElem_cons_zero]
        exact ⟨hs8, by omega⟩
  · have hlt' : ¬ (k : Int) < segs.length := by omega
    have r6 := s5.rules 3 rfl
    simp (disch := first | omega | exact okFill_t rfl | exact okSize_t rfl | exact fun h => h | (simp only [World.size_alloc, World.size_drew, World.size_setCell, size_fill, bytesW]; omega)) only [go_sem, c27, c27S0, c27S1, c27S2, c27S3, c27S4, c27L0, c27S5, c27S6, c27S7, c27S8, c27S9, c27S10, c27L0, hlt', r6]
    obtain rfl : k = segs.length := by omega
    refine Ret.mono (mfirst_ok kind w5) ?_
    rintro fv w6 ⟨⟨hf6, ff6⟩, b6⟩
    have s6 := s5.call b6
    have hrow : RdS w6 1 (fun u : Value => [u]) (.slice la D.length lc) (D.map Prod.fst) := RdS.of_own' (s6.row 0 rfl) (D.map Prod.fst) (by simp) (flat1 _).symm
    have s7 := ((s5.addRd b6 hf6 (by decide) fun j hj => .inr (.inr (ff6 j hj))).seal (.rd 1 (fun u : Value => [u]) (.slice la D.length lc) (D.map Prod.fst)) hrow fun j hj => slFoot_own hj).inv_sub (I' := [Inv.rd 1 (fun u : Value => [u]) (.slice la D.length lc) (D.map Prod.fst), Inv.ops D, Inv.rd 1 intE fv (firstP kind)]) fun a ha => by
      simp only [List.mem_cons, List.not_mem_nil, or_false] at ha ⊢
      rcases ha with h | h | h
      · exact .inl h
      · exact .inr (.inr h)
      · exact .inr (.inl h)
    have s8 := (seg_join s7).inv_sub (I' := [Inv.rd 1 intE fv (firstP kind), Inv.segw (.slice la D.length lc) D]) fun a ha => by
      simp only [List.mem_cons, List.not_mem_nil, or_false] at ha ⊢
      exact ha.symm
    have s9 := s8.nilRow 3 1
    obtain ⟨ls, hls⟩ : ∃ ls, D.map Prod.snd = ls := ⟨_, rfl⟩
    have hll : ls.length = segs.length := by rw [← hls, List.length_map, hDl]
    have hso : ∀ i (h : i < segs.length) (h' : i < ls.length), Cut.Sorts Cut.idI segs[i].ops ls[i] ∧ segs[i].ops.length ≤ 16 := fun i h h' => by
      have := hinv i h (by omega) h
      subst hls
      simpa using this
    have h16 : ∀ l ∈ ls, l.length ≤ 16 := fun x hx => by
      obtain ⟨i, hi, rfl⟩ := List.mem_iff_getElem.1 hx
      obtain ⟨h1, h2⟩ := hso i (by omega) hi
      rw [h1.1.length_eq]; exact h2
    have hin : ∀ l' ∈ ls, ∀ o ∈ l', o ∈ l := fun x hx o ho => by
      obtain ⟨i, hi, rfl⟩ := List.mem_iff_getElem.1 hx
      obtain ⟨h1, h2⟩ := hso i (by omega) hi
      exact hmem _ (List.getElem_mem (show i < segs.length by omega)) o (h1.1.mem_iff.1 ho)
    have hwk := work_le h16
    have s10 : St w w6 (fun _ => False) (FL (m + 1) m (.slice la D.length lc) (.slice none 0 0) (fs0 budget) ++ [.blk b #[.int .i64 obj, .int .i64 kind, .slice a l.length c] 24]) (Inv.rd 1 intE fv (firstP kind) :: Inv.segw (.slice la D.length lc) D :: []) := by
      unfold FL fs0
      simp only [lw_left0]
      exact s9.perm (List.Perm.swap _ _ _)
    obtain ⟨fa, fc, rfl, _⟩ := hf6.form
    have hfind := find_ok (M := 100000) hls h16 (fun x hx o ho => hK o (hin x hx o ho)) (fun x hx o ho => hw o (hin x hx o ho)) (by omega) (by omega) (work ls 0 (nextD ls 0)) 0 (nextD ls 0) (firstP kind) (fs0 budget) w w6 _ _ _ (.slice none 0 0) _ (Nat.le_refl _) (by omega) s10 (gs0 kind h16 (by omega)) (Nat.zero_le _) (fun p hp => by cases hp) (by show _ < left0 budget; unfold left0; have := hb.1; split <;> omega) (by show left0 budget ≤ _; unfold left0; have := hb.2; split <;> omega) (by show 0 + _ ≤ _; omega)
    have e0 : (maskN (nextD ls 0) : Int) = 0 := by unfold nextD; rw [maskN_none]; rfl
    rw [e0] at hfind
    simp (disch := first | omega | exact okFill_t rfl | exact okSize_t rfl | exact fun h => h | (simp only [World.size_alloc, World.size_drew, World.size_setCell, size_fill, bytesW]; omega)) only [go_sem, c27, c27S0, c27S1, c27S2, c27S3, c27S4, c27L0, c27S5, c27S6, c27S7, c27S8, c27S9, c27S10]
    refine Ret.mono hfind ?_
    rintro _ w11 ⟨iv, rfl, s11⟩
    obtain ⟨r, hr⟩ : ∃ r, findP ls (work ls 0 (nextD ls 0)) 0 (nextD ls 0) (firstP kind) (fs0 budget) = r := ⟨_, rfl⟩
    rw [hr] at s11 ⊢
    have r11 := s11.rules 0 rfl
    have hle : ∀ s ∈ segs, s.ops.length ≤ 16 := fun s hs' => by
      obtain ⟨i, hi, rfl⟩ := List.mem_iff_getElem.1 hs'
      exact (hso i hi (by omega)).2
    have out : ∀ {u : Value}, ((lw r.2.left < 0 ∧ u = .tuple #[.slice none 0 0, .bool false, .int .i64 35]) ∨ (0 ≤ lw r.2.left ∧ r.1 = false ∧ u = .tuple #[.slice none 0 0, .bool false, .int .i64 0]) ∨ (0 ≤ lw r.2.left ∧ r.1 = true ∧ ∃ iv, u = .tuple #[iv, .bool true, .int .i64 0] ∧ RdS w11 1 intE iv r.2.ids)) → LeastV w11 kind budget segs u :=
      fun h => .inr ⟨hle, ls, hll, fun i h h' => (hso i h h').1, r, hr, h⟩
    simp (disch := first | omega | exact okFill_t rfl | exact okSize_t rfl | exact fun h => h | (simp only [World.size_alloc, World.size_drew, World.size_setCell, size_fill, bytesW]; omega)) only [go_sem, c27, c27S0, c27S1, c27S2, c27S3, c27S4, c27L0, c27S5, c27S6, c27S7, c27S8, c27S9, c27S10, r11]
    refine ⟨fun hneg => fin (out (.inl ⟨hneg, rfl⟩)) s11.bel, fun hpos => ⟨fun hno => fin (out (.inr (.inl ⟨hpos, ?_, rfl⟩))) s11.bel, fun hyes => ?_⟩⟩
    · simpa using hno
    · have hrow11 := s11.row 1 rfl
      obtain ⟨ia, ic, rfl, _⟩ := own_slice hrow11
      simp (disch := first | omega | exact okFill_t rfl | exact okSize_t rfl | exact fun h => h | (simp only [World.size_alloc, World.size_drew, World.size_setCell, size_fill, bytesW]; omega)) only [go_sem, c27, c27S0, c27S1, c27S2, c27S3, c27S4, c27L0, c27S5, c27S6, c27S7, c27S8, c27S9, c27S10, r11]
      exact fin (out (.inr (.inr ⟨hpos, by simpa using hyes, _, rfl, RdS.of_own' hrow11 r.2.ids rfl rfl⟩))) s11.bel
end Go.Proofs.Ytbeoedgoikcbpaa

namespace Go.Proofs.Ytbeoedgoikcbpaa
set_option linter.unusedSimpArgs false
set_option linter.unusedVariables false
set_option maxRecDepth 100000
open Go Go.Ann Go.RowKit
structure Ordered (l L : List OpT) : Prop where
  sub : ∀ o ∈ L, o ∈ l
  nd : (L.map OpT.ID).Nodup
  late : ∀ i j (hi : i < L.length) (hj : j < L.length), i < j → before L[j] L[i] = false
  all : ∀ o ∈ l, o.Done = true → o ∈ L
theorem ids_ne {L : List OpT} (h : (L.map OpT.ID).Nodup) {i j : Nat} (hi : i < L.length) (hj : j < L.length) (hij : i ≠ j) : ¬ L[i].ID = L[j].ID := fun e => by
  have := (List.getElem_inj h (i := i) (j := j) (h₀ := by simpa using hi) (h₁ := by simpa using hj)).1 (by simpa using e)
  exact hij this
theorem firstI_id {l : List OpT} (hl : (l.map OpT.ID).Nodup) {k : Nat} (hk : k < l.length) : Cut.firstI (fun o => decide (o.ID = l[k].ID)) l = k :=
  Cut.firstI_at hk (by simp) fun j hj hjk => by simpa using ids_ne hl hj hk (by omega)
end Go.Proofs.Ytbeoedgoikcbpaa

namespace Go.Proofs.Ytbeoedgoikcbpaa
set_option linter.unusedSimpArgs false
set_option linter.unusedVariables false
set_option maxRecDepth 100000
open Go Go.Ann Go.RowKit
def InV (u : Value) (x : Int) (l : List Int) : Prop := ∃ i : Int, u = .int .i64 i ∧ (0 ≤ i ↔ x ∈ l)
theorem icontains_ok {w : World} {v : Value} {l : List Int} (x : Int) (h : RdS w 1 intE v l) (hl : (l.length : Int) ≤ 9223372036854775806) :
    Ret Try.prog 82 [v, .int .i64 x] w fun u w' => u = .bool (decide (x ∈ l)) ∧ w' = w := by
  obtain ⟨a, c, rfl, _⟩ := h.form
  have key : Ret Try.prog 110 [.slice a l.length c, .int .i64 x] w fun u w' => InV u x l ∧ w' = w := by
    refine ent110 _ _ _ _ ?_
    simp (disch := first | omega | exact okFill_t rfl | exact okSize_t rfl | exact fun h => h | (simp only [World.size_alloc, World.size_drew, World.size_setCell, size_fill, bytesW]; omega)) only [go_sem, c110, c110S0, c110S1, c110L0, c110S2]
    refine W_loopU (fun k : Nat => [(8, .int .i64 k)]) (fun k w' => w' = w ∧ k ≤ l.length ∧ ∀ j, (h : j < l.length) → j < k → ¬ x = l[j]) (fun k => l.length - k) 0 rfl ⟨rfl, Nat.zero_le _, fun j _ h => by omega⟩ ?_
    rintro k w2 ⟨e2, hk, hinv⟩
    subst w2
    by_cases hlt : k < l.length
    · have hlt' : (k : Int) < l.length := by omega
      obtain ⟨p, rfl⟩ := h.ptr (by omega)
      have eo := RdS.int h hlt
      simp (disch := first | omega | exact okFill_t rfl | exact okSize_t rfl | exact fun h => h | (simp only [World.size_alloc, World.size_drew, World.size_setCell, size_fill, bytesW]; omega)) only [go_sem, c110, c110S0, c110S1, c110L0, c110S2, c110L0, hlt', eo]
      refine ⟨by omega, fun e => ⟨_, rfl, ⟨fun _ => by rw [e]; exact List.getElem_mem hlt, fun _ => by omega⟩⟩, fun hne => ⟨⟨by omega, by omega⟩, k + 1, rfl, ⟨by omega, fun j h1 h2 => ?_⟩, by omega⟩⟩
      rcases Nat.lt_or_ge j k with h' | h'
      · exact hinv j h1 h'
      · obtain rfl : j = k := by omega
        exact hne
    · have hlt' : ¬ (k : Int) < l.length := by omega
      simp (disch := first | omega | exact okFill_t rfl | exact okSize_t rfl | exact fun h => h | (simp only [World.size_alloc, World.size_drew, World.size_setCell, size_fill, bytesW]; omega)) only [go_sem, c110, c110S0, c110S1, c110L0, c110S2, c110L0, hlt']
      refine ⟨_, rfl, ⟨fun h => absurd h (by decide), fun hm => ?_⟩⟩
      obtain ⟨j, hj, e⟩ := List.mem_iff_getElem.1 hm
      exact absurd e.symm (hinv j hj (by omega))
  refine ent82 _ _ _ _ ?_
  simp (disch := first | omega | exact okFill_t rfl | exact okSize_t rfl | exact fun h => h | (simp only [World.size_alloc, World.size_drew, World.size_setCell, size_fill, bytesW]; omega)) only [go_sem, c82, c82S0]
  refine Ret.mono key ?_
  rintro _ w2 ⟨⟨i, rfl, hi⟩, e2⟩
  subst w2
  have e : decide (0 ≤ i) = decide (x ∈ l) := decide_eq_decide.2 hi
  simp (disch := first | omega | exact okFill_t rfl | exact okSize_t rfl | exact fun h => h | (simp only [World.size_alloc, World.size_drew, World.size_setCell, size_fill, bytesW]; omega)) only [go_sem, c82, c82S0, e]
theorem ovalid_ok {w : World} {ob kd : Int} {lv iv : Value} {l L : List OpT} (h : RdS w 11 OpT.enc lv l) (hi : RdS w 1 intE iv (L.map OpT.ID)) (hl : l.length ≤ 100) (hLl : L.length ≤ 100) (hid : (l.map OpT.ID).Nodup) (hK : ∀ o ∈ l, o.Kind = kd) (hw : ∀ o ∈ l, o.wf) (ho : Ordered l L) :
    Ret Try.prog 55 [.agg #[.int .i64 ob, .int .i64 kd, lv], iv] w fun u w' => u = .bool (runP (firstP kd) L).isSome ∧ Below w.heap.size w w' := by
  obtain ⟨la, lc, rfl, _⟩ := h.form
  obtain ⟨ia, ic, rfl, hic⟩ := hi.form
  rw [List.length_map] at hi hic ⊢
  refine ent55 _ _ _ _ ?_
  have s1 := ((St.start (W0 := w)).box #[.int .i64 ob, .int .i64 kd, .slice la l.length lc] 24).nilRow 58 11
  simp (disch := first | omega | exact okFill_t rfl | exact okSize_t rfl | exact fun h => h | (simp only [World.size_alloc, World.size_drew, World.size_setCell, size_fill, bytesW]; omega)) only [go_sem, c55, c55S0, c55S1, c55S2, c55S3, c55S4, c55S5, c55S6, c55S7, c55L1, c55S8, c55S9, c55S10, c55L2, c55S11, c55S12, c55S13, c55S14]
  generalize hb : w.heap.size = b at s1 ⊢
  generalize w.alloc (.cells #[.int .i64 ob, .int .i64 kd, .slice la l.length lc] 24) = w1 at s1 ⊢
  refine W_loopU (fun q : Nat × Value => [(5, q.2), (17, .int .i64 q.1)]) (fun q w' => St w w' (fun _ => False) [.row q.2 58 11 q.1 ((L.take q.1).flatMap OpT.enc), .blk b #[.int .i64 ob, .int .i64 kd, .slice la l.length lc] 24] [] ∧ q.1 ≤ L.length) (fun q => L.length - q.1) (0, .slice none 0 0) rfl ⟨s1, Nat.zero_le _⟩ ?_
  clear s1
  rintro ⟨k, rv⟩ w2 ⟨s2, hk⟩
  simp only at s2 hk
  obtain ⟨ra, rc, rfl, _⟩ := own_slice (s2.row 0 rfl)
  have r2 := s2.rules 1 rfl
  have l2 := s2.low 1 rfl
  by_cases hlt : k < L.length
  · have hlt' : (k : Int) < L.length := by omega
    obtain ⟨p, rfl⟩ := hi.ptr (by simp only [List.length_map]; omega)
    have ei := RdS.int (hi.below s2.bel (by decide)) (k := k) (by simpa using hlt)
    rw [List.getElem_map] at ei
    have s3 := s2.box #[.int .i64 L[k].ID] 3
    simp (disch := first | omega | exact okFill_t rfl | exact okSize_t rfl | exact fun h => h | (simp only [World.size_alloc, World.size_drew, World.size_setCell, size_fill, bytesW]; omega)) only [go_sem, c55, c55S0, c55S1, c55S3, c55S4, c55L0, c55S5, c55S6, c55S7, c55L1, c55S8, c55S9, c55S10, c55L2, c55S11, c55S12, c55S13, c55S14, c55L0, hlt', ei, r2]
    obtain ⟨kk, hkk, ekk⟩ := List.mem_iff_getElem.1 (ho.sub _ (List.getElem_mem hlt))
    have hB := s3.blk 0 rfl
    have b23 : Below w2.heap.size w2 (w2.alloc (.cells #[.int .i64 L[k].ID] 3)) := (Below.refl _ _).alloc (Nat.le_refl _) _
    generalize w2.alloc (.cells #[.int .i64 L[k].ID] 3) = w3 at s3 hB b23 ⊢
    generalize w2.heap.size = y at s3 hB b23 ⊢
    refine ⟨by omega, Ret.mono (Cut.indexFunc_ok _ (fun o => decide (o.ID = L[k].ID)) _ _ _ (h.below s3.bel (by decide)) (fun x w' hw' => ?_) (by omega)) ?_⟩
    · rw [Cut.callW_caps]
      exact ⟨by kernel_rfl, valid1_ok x y L[k].ID w' (hB.below hw' hB.lt)⟩
    rintro _ w4 ⟨rfl, b4⟩
    have s4 := s3.call b4
    rw [← ekk, firstI_id hid hkk]
    have hkn : ¬ (kk : Int) < 0 := by omega
    have r4 := s4.rules 0 rfl
    have q4 := s4.rules 2 rfl
    have hle : (k : Int) ≤ ic := by omega
    simp (disch := first | omega | exact okFill_t rfl | exact okSize_t rfl | exact fun h => h | (simp only [World.size_alloc, World.size_drew, World.size_setCell, size_fill, bytesW]; omega)) only [go_sem, c55, c55S0, c55S2, c55S3, c55S4, c55L0, c55S5, c55S6, c55S7, c55L1, c55S8, c55S9, c55S10, c55L2, c55S11, c55S12, c55S13, c55S14]
    refine c55draw0 ?_
    simp (disch := first | omega | exact okFill_t rfl | exact okSize_t rfl | exact fun h => h | (simp only [World.size_alloc, World.size_drew, World.size_setCell, size_fill, bytesW]; omega)) only [go_sem, c55, c55S0, c55S1, c55S2, c55S3, c55S4, c55L0, c55S5, c55S6, c55S7, c55L1, c55S8, c55S9, c55S10, c55L2, c55S11, c55S12, c55S13, c55S14, c55D0, hkn, hle, r4, q4]
    have s5 := s4.drew
    have hi5 : RdS w4.drew 1 intE (.slice (offA (some p) ic 0 1) k ic) ((L.take k).map OpT.ID) := by
      have h5 := Cut.rd_take (n := L.length) (k := k) (by have := hi.below s5.bel (by decide); unfold RdS at this; rwa [List.length_map] at this) hk
      have e1 : ((L.map OpT.ID).flatMap intE).take (k * 1) = ((L.take k).map OpT.ID).flatMap intE := by
        rw [Nat.mul_one]
        have : ∀ (m : List Int) (k : Nat), (m.flatMap intE).take k = (m.take k).flatMap intE := by
          intro m
          induction m with
          | nil => intro k; simp
          | cons a m ih => intro k; cases k with
            | zero => rfl
            | succ k => simp only [List.flatMap_cons, intE, List.cons_append, List.nil_append, List.take_succ_cons]; rw [← ih]
        rw [this, List.map_take]
      rw [e1] at h5
      unfold RdS
      have e2 : ((L.take k).map OpT.ID).length = k := by rw [List.length_map, List.length_take]; omega
      rw [e2]
      exact h5
    have hnot : ¬ L[k].ID ∈ (L.take k).map OpT.ID := fun hm => by
      obtain ⟨o, ho', e⟩ := List.mem_map.1 hm
      obtain ⟨j, hj, rfl⟩ := List.mem_iff_getElem.1 ho'
      rw [List.length_take] at hj
      rw [List.getElem_take] at e
      exact ids_ne ho.nd (by omega) hlt (by omega) e
    refine ⟨by omega, Ret.mono (icontains_ok _ hi5 (by rw [List.length_map, List.length_take]; omega)) ?_⟩
    rintro _ w6 ⟨rfl, e6⟩
    subst w6
    clear s4 r4 q4
    have r5 := s5.rules 2 rfl
    obtain ⟨lp, rfl⟩ := h.ptr (by omega)
    have el := (h.below s5.bel (by decide)).at OpT.len hkk
    rw [ekk] at el
    generalize w4.drew = w5 at s5 r5 el ⊢
    simp (disch := first | omega | exact okFill_t rfl | exact okSize_t rfl | exact fun h => h | (simp only [World.size_alloc, World.size_drew, World.size_setCell, size_fill, bytesW]; omega)) only [go_sem, c55, c55S0, c55S1, c55S2, c55S3, c55S4, c55L0, c55S5, c55S6, c55S7, c55L1, c55S8, c55S9, c55S10, c55L2, c55S11, c55S12, c55S13, c55S14, c55D0, hnot, r5, el, OpT.len]
    refine ⟨by omega, bsW_agg ty22mkI rfl (by decide) (by decide) ?_⟩
    have hx : Rd (w5.alloc (.cells L[k].enc.toArray 58)) 11 (.slice (some ⟨w5.heap.size, 0, none⟩) 1 1) 1 L[k].enc := rd_new (n := 1) (cs := L[k].enc.toArray) rfl
    simp (disch := first | omega | exact okFill_t rfl | exact okSize_t rfl | exact fun h => h | (simp only [World.size_alloc, World.size_drew, World.size_setCell, size_fill, bytesW]; omega)) only [go_sem, c55, c55S0, c55S1, c55S2, c55S3, c55S4, c55L0, c55S5, c55S6, c55S7, c55L1, c55S8, c55S9, c55S10, c55L2, c55S11, c55S12, c55S13, c55S14]
    refine (s5.alloc' (.cells L[k].enc.toArray 58)).append 1 rfl ty22mkI rfl (by decide) hx L[k].one (by omega) (by omega) ?_
    intro v6 w6 s6 c6
    simp only [List.set_cons_zero, List.set_cons_succ] at s6
    obtain ⟨a6, d6, rfl, _⟩ := own_slice (s6.row 1 rfl)
    simp (disch := first | omega | exact okFill_t rfl | exact okSize_t rfl | exact fun h => h | (simp only [World.size_alloc, World.size_drew, World.size_setCell, size_fill, bytesW]; omega)) only [go_sem, c55, c55S0, c55S1, c55S2, c55S3, c55S4, c55L0, c55S5, c55S6, c55S7, c55L1, c55S8, c55S9, c55S10, c55L2, c55S11, c55S12, c55S13, c55S14]
    refine ⟨⟨by omega, by omega⟩, (k + 1, .slice a6 (k + 1) d6), rfl, ⟨?_, by simp only; omega⟩, by simp only; omega⟩
    simp only
    rw [List.take_succ_eq_append_getElem hlt, List.flatMap_append, List.flatMap_cons, List.flatMap_nil, List.append_nil]
    exact s6.sub (List.sublist_cons_self _ _)
  · have hlt' : ¬ (k : Int) < L.length := by omega
    obtain rfl : k = L.length := by omega
    have s2 : St w w2 (fun _ => False) [.row (.slice ra L.length rc) 58 11 L.length (L.flatMap OpT.enc), .blk b #[.int .i64 ob, .int .i64 kd, .slice la l.length lc] 24] [] := by rw [List.take_length] at s2; exact s2
    have hrc : L.length ≤ rc := by obtain ⟨_, _, e, hh⟩ := own_slice (s2.row 0 rfl); cases e; exact hh
    simp (disch := first | omega | exact okFill_t rfl | exact okSize_t rfl | exact fun h => h | (simp only [World.size_alloc, World.size_drew, World.size_setCell, size_fill, bytesW]; omega)) only [go_sem, c55, c55S0, c55S1, c55S2, c55S3, c55S4, c55L0, c55S5, c55S6, c55S7, c55S8, c55S9, c55S10, c55L2, c55S11, c55S12, c55S13, c55S14, c55L0, hlt']
    refine W_loopU (fun j : Nat => [(46, .int .i64 j)]) (fun j w' => Below w2.heap.size w2 w' ∧ j ≤ L.length) (fun j => L.length - j) 0 rfl ⟨Below.refl _ _, Nat.zero_le _⟩ ?_
    rintro j w3 ⟨b3, hj⟩
    have s3 := s2.call b3
    have r3 := s3.rules 1 rfl
    have hL3 : RdS w3 11 OpT.enc (.slice ra L.length rc) L := RdS.of_own' (s3.row 0 rfl) L rfl rfl
    by_cases hjk : j < L.length
    · have hjk' : (j : Int) < L.length := by omega
      obtain ⟨rp, rfl⟩ := hL3.ptr (by omega)
      have er := hL3.at OpT.len hjk
      have s4 := s3.box L[j].enc.toArray 58
      have hB := s4.blk 0 rfl
      have hle : (j : Int) ≤ rc := by omega
      simp (disch := first | omega | exact okFill_t rfl | exact okSize_t rfl | exact fun h => h | (simp only [World.size_alloc, World.size_drew, World.size_setCell, size_fill, bytesW]; omega)) only [go_sem, c55, c55S0, c55S1, c55S2, c55S3, c55S4, c55L0, c55S5, c55S6, c55S7, c55L1, c55S8, c55S9, c55S10, c55L2, c55S11, c55S12, c55S13, c55S14, c55L1, hjk', er, OpT.len, hle]
      have b34 : Below w3.heap.size w3 (w3.alloc (.cells L[j].enc.toArray 58)) := (Below.refl _ _).alloc (Nat.le_refl _) _
      have hp4 : RdS w3 11 OpT.enc (.slice (offA (some rp) rc 0 11) j rc) (L.take j) := by
        have h5 := Cut.rd_take (show Rd w3 11 (.slice (some rp) L.length rc) L.length (L.flatMap OpT.enc) from hL3) hj
        rw [Cut.take_flat] at h5
        have e : (L.take j).length = j := by rw [List.length_take]; omega
        unfold RdS
        rw [e]
        exact h5
      refine ⟨by omega, by omega, Ret.mono (Cut.containsFunc_ok _ (fun p => before L[j] p) _ _ _ (hp4.below b34 (by decide)) (fun x w' hw' => ?_) (by rw [List.length_take]; omega)) ?_⟩
      · rw [Cut.callW_caps]
        exact ⟨by kernel_rfl, valid2_ok x L[j] _ w' (hB.below hw' hB.lt)⟩
      rintro _ w5 ⟨rfl, b5⟩
      have hany : (L.take j).any (fun p => before L[j] p) = false := by
        rw [List.any_eq_false]
        intro x hx
        obtain ⟨i, hi', rfl⟩ := List.mem_iff_getElem.1 hx
        rw [List.length_take] at hi'
        rw [List.getElem_take, ho.late i j (by omega) hjk (by omega)]
        decide
      rw [hany]
      simp (disch := first | omega | exact okFill_t rfl | exact okSize_t rfl | exact fun h => h | (simp only [World.size_alloc, World.size_drew, World.size_setCell, size_fill, bytesW]; omega)) only [go_sem, c55, c55S0, c55S1, c55S2, c55S3, c55S4, c55L0, c55S5, c55S6, c55S7, c55L1, c55S8, c55S9, c55S10, c55L2, c55S11, c55S12, c55S13, c55S14]
      exact ⟨⟨by omega, by omega⟩, j + 1, rfl, ⟨Below.next (Below.next b3 b34) b5, by omega⟩, by omega⟩
    · have hjk' : ¬ (j : Int) < L.length := by omega
      clear r2 l2 s2 b3 hj
      simp (disch := first | omega | exact okFill_t rfl | exact okSize_t rfl | exact fun h => h | (simp only [World.size_alloc, World.size_drew, World.size_setCell, size_fill, bytesW]; omega)) only [go_sem, c55, c55S0, c55S1, c55S2, c55S3, c55S4, c55L0, c55S5, c55S6, c55S7, c55L1, c55S8, c55S9, c55S10, c55S11, c55S12, c55S13, c55S14, c55L1, hjk', r3]
      refine W_loopU (fun j : Nat => [(60, .int .i64 j)]) (fun j w' => Below w3.heap.size w3 w' ∧ j ≤ l.length) (fun j => l.length - j) 0 rfl ⟨Below.refl _ _, Nat.zero_le _⟩ ?_
      clear hjk hjk'
      rintro j w4 ⟨b4, hj⟩
      have s4 := s3.call b4
      have r4 := s4.rules 1 rfl
      by_cases hjk : j < l.length
      · have hjk' : (j : Int) < l.length := by omega
        obtain ⟨lp, rfl⟩ := h.ptr (by omega)
        have el := (h.below s4.bel (by decide)).at OpT.len hjk
        have ao := l[j].at
        have s5 := s4.box l[j].enc.toArray 58
        have r5 := s5.rules 0 rfl
        have b45 : Below w4.heap.size w4 (w4.alloc (.cells l[j].enc.toArray 58)) := (Below.refl _ _).alloc (Nat.le_refl _) _
        simp (disch := first | omega | exact okFill_t rfl | exact okSize_t rfl | exact fun h => h | (simp only [World.size_alloc, World.size_drew, World.size_setCell, size_fill, bytesW]; omega)) only [go_sem, c55, c55S0, c55S1, c55S2, c55S3, c55S4, c55L0, c55S5, c55S6, c55S7, c55L1, c55S8, c55S9, c55S10, c55L2, c55S11, c55S12, c55S13, c55S14, c55L2, hjk', el, OpT.len, ao]
        refine ⟨by omega, fun hd => Ret.mono (icontains_ok _ (hi.below s5.bel (by decide)) (by rw [List.length_map]; omega)) ?_, fun hd => ⟨⟨by omega, by omega⟩, j + 1, rfl, ⟨Below.next b4 b45, by omega⟩, by omega⟩⟩
        rintro _ w6 ⟨rfl, e6⟩
        subst w6
        have hin : l[j].ID ∈ L.map OpT.ID := List.mem_map.2 ⟨_, ho.all _ (List.getElem_mem hjk) hd, rfl⟩
        simp (disch := first | omega | exact okFill_t rfl | exact okSize_t rfl | exact fun h => h | (simp only [World.size_alloc, World.size_drew, World.size_setCell, size_fill, bytesW]; omega)) only [go_sem, c55, c55S0, c55S1, c55S2, c55S3, c55S4, c55L0, c55S5, c55S6, c55S7, c55L1, c55S8, c55S9, c55S10, c55L2, c55S11, c55S12, c55S13, c55S14, hin]
        exact ⟨⟨by omega, by omega⟩, j + 1, rfl, ⟨Below.next b4 b45, by omega⟩, by omega⟩
      · have hjk' : ¬ (j : Int) < l.length := by omega
        simp (disch := first | omega | exact okFill_t rfl | exact okSize_t rfl | exact fun h => h | (simp only [World.size_alloc, World.size_drew, World.size_setCell, size_fill, bytesW]; omega)) only [go_sem, c55, c55S0, c55S1, c55S2, c55S3, c55S4, c55L0, c55S5, c55S6, c55S7, c55L1, c55S8, c55S9, c55S10, c55L2, c55S11, c55S12, c55S13, c55S14, c55L2, hjk', r4]
        refine Ret.mono (mfirst_ok kd w4) ?_
        rintro fv w5 ⟨⟨hf5, _⟩, b5⟩
        obtain ⟨fa, fc, rfl, _⟩ := hf5.form
        have s5 := s4.call b5
        have hL5 : RdS w5 11 OpT.enc (.slice ra L.length rc) L := RdS.of_own' (s5.row 0 rfl) L rfl rfl
        simp (disch := first | omega | exact okFill_t rfl | exact okSize_t rfl | exact fun h => h | (simp only [World.size_alloc, World.size_drew, World.size_setCell, size_fill, bytesW]; omega)) only [go_sem, c55, c55S0, c55S1, c55S2, c55S3, c55S4, c55L0, c55S5, c55S6, c55S7, c55L1, c55S8, c55S9, c55S10, c55L2, c55S11, c55S12, c55S13, c55S14]
        refine Ret.mono (mruns_ok hL5 hf5 (by omega) (fun o h => hK o (ho.sub o h)) (fun o h => hw o (ho.sub o h)) (firstOk kd) (by omega)) ?_
        rintro _ w6 ⟨⟨t, ok, rfl, hm⟩, b6⟩
        have e : ok = (runP (firstP kd) L).isSome := by
          cases hr : runP (firstP kd) L with
          | none => rw [hr] at hm; exact hm
          | some t' => rw [hr] at hm; exact hm.1
        subst e
        simp (disch := first | omega | exact okFill_t rfl | exact okSize_t rfl | exact fun h => h | (simp only [World.size_alloc, World.size_drew, World.size_setCell, size_fill, bytesW]; omega)) only [go_sem, c55, c55S0, c55S1, c55S2, c55S3, c55S4, c55L0, c55S5, c55S6, c55S7, c55L1, c55S8, c55S9, c55S10, c55L2, c55S11, c55S12, c55S13, c55S14]
        rw [← hb]
        exact (s5.call b6).bel
end Go.Proofs.Ytbeoedgoikcbpaa

namespace Go.Proofs.Ytbeoedgoikcbpaa
set_option linter.unusedSimpArgs false
set_option linter.unusedVariables false
set_option maxRecDepth 100000
open Go Go.Ann Go.RowKit
def ow1 : OpT := ⟨5, 0, 0, 1, 2, 1, 0, true, 0, 0, 9⟩
def ow2 : OpT := ⟨9, 0, 0, 1, 1, 0, 0, true, 0, 1, 8⟩
theorem sorts_two {cf : OpT → OpT → Int} {a b : OpT} {l : List OpT} (h : Cut.Sorts cf [a, b] l) (hab : cf a b < 0) : l = [a, b] := by
  have hl := h.1.length_eq
  match l, hl with
  | [x, y], _ =>
    have hx : x = a ∨ x = b := by simpa using h.1.mem_iff.1 (List.mem_cons_self (a := x) (l := [y]))
    have hy : y = a ∨ y = b := by simpa using h.1.mem_iff.1 (List.mem_cons_of_mem x (List.mem_singleton.2 rfl))
    have ha : a ∈ [x, y] := h.1.mem_iff.2 (by simp)
    have hb : b ∈ [x, y] := h.1.mem_iff.2 (by simp)
    have hp := (List.pairwise_cons.1 h.2).1 y (by simp)
    rcases hx with rfl | rfl <;> rcases hy with rfl | rfl
    · simp at hb; rw [hb]
    · rfl
    · exact absurd hab hp
    · simp at ha; rw [ha]
theorem ow_ok : Ordered [ow1, ow2] [ow2, ow1] := by
  refine ⟨by simp, by decide, fun i j hi hj hij => ?_, by simp⟩
  simp only [List.length_cons, List.length_nil] at hi hj
  obtain ⟨rfl, rfl⟩ : i = 0 ∧ j = 1 := by omega
  rfl
theorem ow_ok2 : Ordered [ow1, ow2] [ow1, ow2] := by
  refine ⟨by simp, by decide, fun i j hi hj hij => ?_, by simp⟩
  simp only [List.length_cons, List.length_nil] at hi hj
  obtain ⟨rfl, rfl⟩ : i = 0 ∧ j = 1 := by omega
  rfl
theorem ow_K : ∀ o ∈ [ow1, ow2], o.Kind = 1 := by intro o ho; simp only [List.mem_cons, List.not_mem_nil, or_false] at ho; rcases ho with rfl | rfl <;> rfl
theorem ow_w : ∀ o ∈ [ow1, ow2], o.wf := by
  intro o ho
  simp only [List.mem_cons, List.not_mem_nil, or_false] at ho
  rcases ho with rfl | rfl <;> exact ⟨rfl, rfl, rfl, rfl, rfl, rfl, rfl, rfl, rfl, rfl⟩
theorem ow_least {w' : World} {l' : List OpT} {u : Value} (h : Cut.Sorts Cut.earI [ow1, ow2] l') (hv : LeastV w' 1 99 (segsOf 0 1 l') u) : ∃ iv, u = .tuple #[iv, .bool true, .int .i64 0] ∧ RdS w' 1 intE iv [9, 5] := by
  obtain rfl := sorts_two h (by decide)
  have hs : segsOf 0 1 [ow1, ow2] = [⟨0, 1, [ow1, ow2]⟩] := by kernel_rfl
  rw [hs] at hv
  rcases hv with ⟨⟨s, hs', hl⟩, _⟩ | ⟨_, ls, hl, hso, r, hr, hv⟩
  · rw [List.mem_singleton] at hs'; subst hs'; simp at hl
  · match ls, hl with
    | [a], _ =>
      have ha := hso 0 (by simp) (by simp)
      simp only [List.getElem_cons_zero] at ha
      obtain rfl := sorts_two ha (by decide)
      have e1 : (findP [[ow1, ow2]] (work [[ow1, ow2]] 0 (nextD [[ow1, ow2]] 0)) 0 (nextD [[ow1, ow2]] 0) (firstP 1) (fs0 99)).1 = true := by kernel_rfl
      have e2 : (findP [[ow1, ow2]] (work [[ow1, ow2]] 0 (nextD [[ow1, ow2]] 0)) 0 (nextD [[ow1, ow2]] 0) (firstP 1) (fs0 99)).2.ids = [9, 5] := by kernel_rfl
      have e3 : lw (findP [[ow1, ow2]] (work [[ow1, ow2]] 0 (nextD [[ow1, ow2]] 0)) 0 (nextD [[ow1, ow2]] 0) (firstP 1) (fs0 99)).2.left = 96 := by kernel_rfl
      rw [hr] at e1 e2 e3
      rcases hv with ⟨h1, _⟩ | ⟨_, h2, _⟩ | ⟨_, _, iv, h3, h4⟩
      · omega
      · rw [e1] at h2; cases h2
      · exact ⟨iv, h3, by rw [e2] at h4; exact h4⟩
theorem oawake_ok (w : World) : Ret Try.prog 26 [] w fun u w' => u = .bool true ∧ Below w.heap.size w w' := by
  refine ent26 _ _ ?_
  simp (disch := first | omega | exact okFill_t rfl | exact okSize_t rfl | exact fun h => h | (simp only [World.size_alloc, World.size_drew, World.size_setCell, size_fill, bytesW]; omega)) only [go_sem, c26, c26S0, c26S1]
  refine bdW_built (cells := ow1.enc.toArray) (by kernel_rfl) ?_
  simp (disch := first | omega | exact okFill_t rfl | exact okSize_t rfl | exact fun h => h | (simp only [World.size_alloc, World.size_drew, World.size_setCell, size_fill, bytesW]; omega)) only [go_sem, c26, c26S0, c26S1]
  refine bdW_built (cells := ow2.enc.toArray) (by kernel_rfl) ?_
  simp (disch := first | omega | exact okFill_t rfl | exact okSize_t rfl | exact fun h => h | (simp only [World.size_alloc, World.size_drew, World.size_setCell, size_fill, bytesW]; omega)) only [go_sem, c26, c26S0, c26S1]
  refine bsW_cells (cells := ([ow1, ow2].flatMap OpT.enc).toArray) ty22mkI (by decide) (by decide) (by kernel_rfl) ?_
  have hrd : RdS (w.alloc (.cells ([ow1, ow2].flatMap OpT.enc).toArray 58)) 11 OpT.enc (.slice (some ⟨w.heap.size, 0, none⟩) 2 2) [ow1, ow2] := rd_new (t := 58) (sz := 11) (n := 2) (cs := ([ow1, ow2].flatMap OpT.enc).toArray) rfl
  have s1 := (St.start (W0 := w)).alloc' (.cells ([ow1, ow2].flatMap OpT.enc).toArray 58)
  generalize w.alloc (.cells ([ow1, ow2].flatMap OpT.enc).toArray 58) = w1 at hrd s1 ⊢
  simp (disch := first | omega | exact okFill_t rfl | exact okSize_t rfl | exact fun h => h | (simp only [World.size_alloc, World.size_drew, World.size_setCell, size_fill, bytesW]; omega)) only [go_sem, c26, c26S0, c26S1]
  refine bdW_built (cells := #[.int .i64 0, .int .i64 1, .slice (some ⟨w.heap.size, 0, none⟩) 2 2]) (by kernel_rfl) ?_
  simp (disch := first | omega | exact okFill_t rfl | exact okSize_t rfl | exact fun h => h | (simp only [World.size_alloc, World.size_drew, World.size_setCell, size_fill, bytesW]; omega)) only [go_sem, c26, c26S0, c26S1]
  have s2 := s1.box #[.int .i64 0, .int .i64 1, .slice (some ⟨w.heap.size, 0, none⟩) 2 2] 24
  have hrd2 := hrd.below ((Below.refl _ w1).alloc (Nat.le_refl _) (.cells #[.int .i64 0, .int .i64 1, .slice (some ⟨w.heap.size, 0, none⟩) 2 2] 24)) (by decide)
  generalize w1.alloc (.cells #[.int .i64 0, .int .i64 1, .slice (some ⟨w.heap.size, 0, none⟩) 2 2] 24) = w2 at hrd2 s2 ⊢
  generalize w1.heap.size = b at s2 ⊢
  refine Ret.mono (least_ok (kind := 1) (budget := 99) hrd2 (by simp) ow_K ow_w (by constructor <;> decide)) ?_
  rintro u w3 ⟨⟨l', hs, hv⟩, b3⟩
  obtain ⟨iv, rfl, hiv⟩ := ow_least hs hv
  have s3 := s2.call b3
  have hrd3 := hrd2.below b3 (by decide)
  obtain ⟨ia, ic, rfl, _⟩ := hiv.form
  have r3 := s3.rules 0 rfl
  simp (disch := first | omega | exact okFill_t rfl | exact okSize_t rfl | exact fun h => h | (simp only [World.size_alloc, World.size_drew, World.size_setCell, size_fill, bytesW]; omega)) only [go_sem, c26, c26S0, c26S1]
  refine bsW_ones ty36mkI rfl rfl (by decide) (by decide) (by intro v hv; simp only [List.mem_cons, List.not_mem_nil, or_false] at hv; rcases hv with rfl | rfl <;> rfl) ?_
  have s4 := s3.alloc' (.cells #[.int .i64 9, .int .i64 5] 3)
  have h95 : RdS (w3.alloc (.cells #[.int .i64 9, .int .i64 5] 3)) 1 intE (.slice (some ⟨w3.heap.size, 0, none⟩) 2 2) [9, 5] := rd_new (t := 3) (sz := 1) (n := 2) (cs := #[.int .i64 9, .int .i64 5]) rfl
  have b34 : Below w3.heap.size w3 (w3.alloc (.cells #[.int .i64 9, .int .i64 5] 3)) := (Below.refl _ _).alloc (Nat.le_refl _) _
  simp (disch := first | omega | exact okFill_t rfl | exact okSize_t rfl | exact fun h => h | (simp only [World.size_alloc, World.size_drew, World.size_setCell, size_fill, bytesW]; omega)) only [go_sem, c26, c26S0, c26S1]
  have hiv4 := hiv.below b34 (by decide)
  have r4 := s4.rules 0 rfl
  have hrd4 := hrd3.below b34 (by decide)
  generalize hp : w3.heap.size = p4 at h95 b34 ⊢
  generalize w3.alloc (.cells #[.int .i64 9, .int .i64 5] 3) = w4 at s4 h95 hiv4 r4 hrd4 b34 ⊢
  refine Ret.mono (ints_ok _ _ [9, 5] [9, 5] w4 hiv4 h95 (by decide)) ?_
  rintro _ w5 ⟨rfl, b5⟩
  have s5 := s4.call b5
  have r5 := s5.rules 0 rfl
  have hrd5 := hrd4.below b5 (by decide)
  simp (disch := first | omega | exact okFill_t rfl | exact okSize_t rfl | exact fun h => h | (simp only [World.size_alloc, World.size_drew, World.size_setCell, size_fill, bytesW]; omega)) only [go_sem, c26, c26S0, c26S1, r5]
  refine Ret.mono (ovalid_ok (L := [ow2, ow1]) hrd5 (hiv4.below b5 (by decide)) (by simp) (by simp) (by decide) ow_K ow_w ow_ok) ?_
  rintro _ w6 ⟨rfl, b6⟩
  have e6 : (runP (firstP 1) [ow2, ow1]).isSome = true := by kernel_rfl
  rw [e6]
  have s6 := s5.call b6
  have r6 := s6.rules 0 rfl
  simp (disch := first | omega | exact okFill_t rfl | exact okSize_t rfl | exact fun h => h | (simp only [World.size_alloc, World.size_drew, World.size_setCell, size_fill, bytesW]; omega)) only [go_sem, c26, c26S0, c26S1, r6]
  refine bsW_ones ty36mkI rfl rfl (by decide) (by decide) (by intro v hv; simp only [List.mem_cons, List.not_mem_nil, or_false] at hv; rcases hv with rfl | rfl <;> rfl) ?_
  have s7 := s6.alloc' (.cells #[.int .i64 5, .int .i64 9] 3)
  have h59 : RdS (w6.alloc (.cells #[.int .i64 5, .int .i64 9] 3)) 1 intE (.slice (some ⟨w6.heap.size, 0, none⟩) 2 2) ([ow1, ow2].map OpT.ID) := rd_new (t := 3) (sz := 1) (n := 2) (cs := #[.int .i64 5, .int .i64 9]) rfl
  have b67 : Below w6.heap.size w6 (w6.alloc (.cells #[.int .i64 5, .int .i64 9] 3)) := (Below.refl _ _).alloc (Nat.le_refl _) _
  simp (disch := first | omega | exact okFill_t rfl | exact okSize_t rfl | exact fun h => h | (simp only [World.size_alloc, World.size_drew, World.size_setCell, size_fill, bytesW]; omega)) only [go_sem, c26, c26S0, c26S1]
  refine Ret.mono (ovalid_ok (L := [ow1, ow2]) ((hrd5.below b6 (by decide)).below b67 (by decide)) h59 (by simp) (by simp) (by decide) ow_K ow_w ow_ok2) ?_
  rintro _ w8 ⟨rfl, b8⟩
  have e8 : (runP (firstP 1) [ow1, ow2]).isSome = false := by kernel_rfl
  rw [e8]
  simp (disch := first | omega | exact okFill_t rfl | exact okSize_t rfl | exact fun h => h | (simp only [World.size_alloc, World.size_drew, World.size_setCell, size_fill, bytesW]; omega)) only [go_sem, c26, c26S0, c26S1]
  exact (s7.call b8).bel
end Go.Proofs.Ytbeoedgoikcbpaa

namespace Go.Proofs.Ytbeoedgoikcbpaa
set_option linter.unusedSimpArgs false
set_option linter.unusedVariables false
set_option maxRecDepth 100000
open Go Go.Ann Go.RowKit
structure SegsOk (ls : List (List OpT)) : Prop where
  nd : ∀ l ∈ ls, l.Nodup
  apart : ∀ (g g' : Nat) l l', g < g' → ls[g]? = some l → ls[g']? = some l' → ∀ o ∈ l, ∀ p ∈ l', before p o = false ∧ o ≠ p
structure PathR (ls : List (List OpT)) (g : Nat) (P L : List OpT) (s : List Int) : Prop where
  mem : ∀ o ∈ L, (∃ g' l, g ≤ g' ∧ ls[g']? = some l ∧ o ∈ l) ∧ o ∉ P
  nd : L.Nodup
  late : L.Pairwise fun a b => before b a = false
  all : ∀ g' l, g ≤ g' → ls[g']? = some l → ∀ o ∈ l, o.Done = true → o ∈ P ∨ o ∈ L
  run : (runP s L).isSome = true
theorem Path.res {ls : List (List OpT)} (hs : SegsOk ls) {g : Nat} {d : List Bool} {s : List Int} {L : List OpT} (h : Path ls g d s L) : ∀ P, (∀ l, ls[g]? = some l → Marks l d P) → (∀ o ∈ P, ∃ l, ls[g]? = some l ∧ o ∈ l) → PathR ls g P L s := by
  induction h with
  | @out g d s h0 =>
    intro P _ _
    refine ⟨(fun o h => by cases h), by simp, by simp, fun g' l hg hl => ?_, rfl⟩
    have h1 := List.getElem?_eq_none_iff.1 h0
    have h2 := (List.getElem?_eq_some_iff.1 hl).1
    omega
  | @full g d s l L hl hf hp ih =>
    intro P hm hP
    have hM := hm l hl
    have r := ih [] (fun l' hl' => by
      have := Marks.start l'
      unfold nextD; rw [hl']; exact this) (fun o h => by cases h)
    refine ⟨fun o ho => ?_, r.nd, r.late, fun g' l' hg hl' o ho hd => ?_, r.run⟩
    · obtain ⟨⟨g', l', hg, hl', ho'⟩, _⟩ := r.mem o ho
      refine ⟨⟨g', l', by omega, hl', ho'⟩, fun hp' => ?_⟩
      obtain ⟨l1, hl1, ho1⟩ := hP o hp'
      exact (hs.apart g g' l1 l' (by omega) hl1 hl' o ho1 o ho').2 rfl
    · rcases Nat.lt_or_ge g g' with h1 | h1
      · rcases r.all g' l' h1 hl' o ho hd with h2 | h2
        · cases h2
        · exact .inr h2
      · obtain rfl : g' = g := by omega
        rw [hl] at hl'
        obtain rfl := Option.some.inj hl'
        exact .inl (hM.full.1 hf o ho hd)
  | @step g d s l L k o t hl ho hm hst hp ih =>
    intro P hM hP
    have hmk := hM l hl
    obtain ⟨hk, rfl⟩ := List.getElem?_eq_some_iff.1 ho
    obtain ⟨n1, n2⟩ := (hmk.may hk).1 hm
    have hmem := List.getElem_mem hk
    have hgl := List.mem_of_getElem? hl
    have r := ih (P ++ [l[k]]) (fun l' hl' => by
      rw [hl] at hl'
      obtain rfl := Option.some.inj hl'
      exact hmk.snoc (hs.nd _ hgl) hk) (fun o ho => by
        rcases List.mem_append.1 ho with h | h
        · exact hP o h
        · rw [List.mem_singleton] at h; subst h; exact ⟨l, hl, hmem⟩)
    refine ⟨fun o ho => ?_, List.nodup_cons.2 ⟨fun h => (r.mem _ h).2 (by simp), r.nd⟩, List.pairwise_cons.2 ⟨fun b hb => ?_, r.late⟩, fun g' l' hg hl' o ho hd => ?_, ?_⟩
    · rcases List.mem_cons.1 ho with rfl | ho
      · exact ⟨⟨g, l, Nat.le_refl _, hl, hmem⟩, n1⟩
      · exact ⟨(r.mem o ho).1, fun h => (r.mem o ho).2 (List.mem_append_left _ h)⟩
    · obtain ⟨⟨g', l', hg, hl', hb'⟩, hbP⟩ := r.mem b hb
      rcases Nat.lt_or_ge g g' with h1 | h1
      · exact (hs.apart g g' l l' h1 hl hl' _ hmem b hb').1
      · obtain rfl : g' = g := by omega
        rw [hl] at hl'
        obtain rfl := Option.some.inj hl'
        cases hbf : before b l[k] with
        | false => rfl
        | true => exact absurd (List.mem_append_left _ (n2 b hb' hbf)) hbP
    · rcases r.all g' l' hg hl' o ho hd with h | h
      · rcases List.mem_append.1 h with h | h
        · exact .inl h
        · rw [List.mem_singleton] at h; subst h; exact .inr (List.mem_cons_self ..)
      · exact .inr (List.mem_cons_of_mem _ h)
    · rw [runP, hst]; exact r.run
theorem Path.ordered {ls : List (List OpT)} {l : List OpT} (hs : SegsOk ls) (hid : (l.map OpT.ID).Nodup) (hsub : ∀ x ∈ ls, ∀ o ∈ x, o ∈ l) (hall : ∀ o ∈ l, ∃ x ∈ ls, o ∈ x) {s : List Int} {L : List OpT} (h : Path ls 0 (nextD ls 0) s L) : Ordered l L ∧ (runP s L).isSome = true ∧ L.length ≤ l.length := by
  have r := h.res hs [] (fun l' hl' => by
    have := Marks.start l'
    unfold nextD; rw [hl']; exact this) (fun o h => by cases h)
  have sub : ∀ o ∈ L, o ∈ l := fun o ho => by
    obtain ⟨⟨g', l', _, hl', ho'⟩, _⟩ := r.mem o ho
    exact hsub l' (List.mem_of_getElem? hl') o ho'
  refine ⟨⟨sub, ?_, fun i j hi hj hij => ?_, fun o ho hd => ?_⟩, r.run, ?_⟩
  · refine List.pairwise_map.2 (r.nd.imp_of_mem fun {a b} ha hb hne e => hne ?_)
    obtain ⟨i, hi, rfl⟩ := List.mem_iff_getElem.1 (sub a ha)
    obtain ⟨j, hj, rfl⟩ := List.mem_iff_getElem.1 (sub b hb)
    by_cases hij : i = j
    · subst hij; rfl
    · exact absurd e (ids_ne hid hi hj hij)
  · exact List.pairwise_iff_getElem.1 r.late i j hi hj hij
  · obtain ⟨x, hx, hox⟩ := hall o ho
    obtain ⟨g', hg, rfl⟩ := List.mem_iff_getElem.1 hx
    rcases r.all g' _ (Nat.zero_le _) (List.getElem?_eq_getElem hg) o hox hd with h | h
    · cases h
    · exact h
  · exact nodup_le r.nd sub
theorem chex_perms : ∀ {a b : List (List OpT)} {s t : List Int}, a.length = b.length → (∀ i (h : i < a.length) (h' : i < b.length), a[i].Perm b[i] ∧ a[i].Nodup) → (ChEx a s t ↔ ChEx b s t)
  | [], [], s, t, _, _ => Iff.rfl
  | [], _ :: _, s, t, h, _ => by simp at h
  | _ :: _, [], s, t, h, _ => by simp at h
  | l :: a, k :: b, s, t, h, hp => by
    have h1 := hp 0 (by simp) (by simp)
    simp only [List.getElem_cons_zero] at h1
    have ih := @chex_perms a b
    have h2 : a.length = b.length := by simpa using h
    have h3 : ∀ i (h : i < a.length) (h' : i < b.length), a[i].Perm b[i] ∧ a[i].Nodup := fun i hi hi' => by
      have := hp (i + 1) (by simpa using hi) (by simpa using hi')
      simpa using this
    simp only [ChEx]
    constructor
    · rintro ⟨u, hu, ht⟩; exact ⟨u, (exit_perm h1.1 h1.2).1 hu, (ih h2 h3).1 ht⟩
    · rintro ⟨u, hu, ht⟩; exact ⟨u, (exit_perm h1.1 h1.2).2 hu, (ih h2 h3).2 ht⟩
def CE (a : List (List OpT)) (s0 : List Int) (E : List (List Int)) : Prop := ∀ t, t ∈ E ↔ ChEx a s0 t
theorem CE.start (s0 : List Int) : CE [] s0 [s0] := fun t => by rw [List.mem_singleton]; rfl
theorem CE.step {a : List (List OpT)} {b : List OpT} {s0 : List Int} {E U0 X : List (List Int)} {T : List Spot} {bud : Int} (h : CE a s0 E) (hU : Uniq E U0) (hR : SearchR b (startP b.length U0) bud (some T)) (hX : Uniq ((T.filter fun p => fullP b p.1).map Prod.snd) X) : CE (a ++ [b]) s0 X := fun t => by
  rw [exits_mem hX, chex_snoc]
  constructor
  · rintro ⟨d, h1, h2⟩
    obtain ⟨p, hp, hr⟩ := (closed_mem hR.1 _).1 h1
    obtain ⟨u, hu, rfl⟩ := (start_mem hU p).1 hp
    exact ⟨u, (h u).1 hu, d, hr, h2⟩
  · rintro ⟨u, h1, d, h2, h3⟩
    exact ⟨d, (closed_mem hR.1 _).2 ⟨_, (start_mem hU _).2 ⟨u, (h u).2 h1, rfl⟩, h2⟩, h3⟩
theorem exit_ok {K : Int} {M : Nat} {l : List OpT} (hK : ∀ o ∈ l, o.Kind = K) (hw : ∀ o ∈ l, o.wf) {s t : List Int} (h : Exit l s t) (h0 : StOk K M s) : StOk K (M + l.length) t := by
  obtain ⟨d, hr, _⟩ := h
  have g := rch_good (M := M) hK hw hr ⟨by simp, h0.1, Nat.le_trans h0.2.1 (Nat.le_add_right _ _), h0.2.2⟩
  refine ⟨g.ok, ?_, g.ris⟩
  have h2 := g.sz
  have h3 := List.count_le_length (a := true) (l := d)
  have h4 := g.len
  simp only at h2 h4
  omega
theorem chex_ok {K : Int} : ∀ {a : List (List OpT)} {M : Nat} {s t : List Int}, (∀ l ∈ a, ∀ o ∈ l, o.Kind = K) → (∀ l ∈ a, ∀ o ∈ l, o.wf) → ChEx a s t → StOk K M s → StOk K (M + (a.map List.length).sum) t
  | [], M, s, t, _, _, h, h0 => by have h : t = s := h; subst h; simpa using h0
  | l :: a, M, s, t, hK, hw, h, h0 => by
    obtain ⟨u, hu, ht⟩ := h
    have h1 := exit_ok (hK l (List.mem_cons_self ..)) (hw l (List.mem_cons_self ..)) hu h0
    have h2 := chex_ok (fun x hx => hK x (List.mem_cons_of_mem _ hx)) (fun x hx => hw x (List.mem_cons_of_mem _ hx)) ht h1
    rw [List.map_cons, List.sum_cons, ← Nat.add_assoc]
    exact h2
end Go.Proofs.Ytbeoedgoikcbpaa

namespace Go.Proofs.Ytbeoedgoikcbpaa
set_option linter.unusedSimpArgs false
set_option linter.unusedVariables false
set_option maxRecDepth 100000
open Go Go.Ann Go.RowKit
def rest (ls : List (List OpT)) (g : Nat) (d : List Bool) : Nat := undone d + ((ls.drop (g + 1)).map List.length).sum
theorem pth_succ (n : Nat) : pth n ≤ pth (n + 1) := by
  rw [pth]
  have := Nat.le_mul_of_pos_left (pth n) (show 0 < n + 1 by omega)
  omega
theorem pth_mono {m : Nat} : ∀ {n : Nat}, m ≤ n → pth m ≤ pth n
  | 0, h => by obtain rfl : m = 0 := by omega
               exact Nat.le_refl _
  | n + 1, h => by
    rcases Nat.lt_or_ge n m with h1 | h1
    · obtain rfl : m = n + 1 := by omega
      exact Nat.le_refl _
    · exact Nat.le_trans (pth_mono h1) (pth_succ n)
theorem pth_pos (n : Nat) : 1 ≤ pth n := pth_mono (Nat.zero_le n)
theorem loopP_cost {G : List Bool → List Int → FS → Bool × FS} {l : List OpT} {d : List Bool} {s : List Int} {c : Nat} (hd : d.length = l.length) (hG : ∀ d' t f, d'.length = l.length → undone d' + 1 = undone d → f.left ≤ (G d' t f).2.left + (c : Int)) :
    ∀ n i f, i + n = l.length → f.left ≤ (loopP G l d s i n f).2.left + (((d.drop i).count false * c : Nat) : Int)
  | 0, i, f, _ => by rw [loopP]; simp only; omega
  | n + 1, i, f, hn => by
    have ih := loopP_cost (s := s) hd hG n (i + 1)
    have hi : i < d.length := by omega
    have hil : i < l.length := by omega
    have ed : d.drop i = d[i] :: d.drop (i + 1) := List.drop_eq_getElem_cons hi
    rw [ed, loopP, List.getElem?_eq_getElem hil]
    simp only
    cases hb : d[i] with
    | true =>
      rw [List.count_cons_of_ne (by decide)]
      have hm : mayP l d i l[i] = false := by
        cases h : mayP l d i l[i] with
        | false => rfl
        | true =>
          have := ((mayP_iff hd hi).1 h).1
          rw [hb] at this; cases this
      rw [hm]
      simp only [Bool.false_eq_true, if_false]
      exact ih f (by omega)
    | false =>
      rw [List.count_cons_self, Nat.succ_mul]
      generalize (d.drop (i + 1)).count false * c = m at ih ⊢
      cases hm : mayP l d i l[i] with
      | false =>
        simp only [Bool.false_eq_true, if_false]
        have := ih f (by omega)
        omega
      | true =>
        simp only [if_true]
        cases hs : stepP s l[i] with
        | none =>
          have := ih f (by omega)
          simp only
          omega
        | some t =>
          simp only
          have e : newAt l (d, s) i = [(d.set i true, t)] := by unfold newAt; rw [List.getElem?_eq_getElem hil]; simp [hm, hs]
          obtain ⟨hq1, hq2⟩ := nextL_mem (l := l) (p := (d, s)) (q := (d.set i true, t)) (k := i + 1) hd (by rw [nextL, e]; simp)
          have h1 := hG (d.set i true) t { f with ids := f.ids ++ [l[i].ID] } hq1 hq2
          simp only at h1
          split
          · omega
          · have h2 := ih { (G (d.set i true) t { f with ids := f.ids ++ [l[i].ID] }).2 with ids := (G (d.set i true) t { f with ids := f.ids ++ [l[i].ID] }).2.ids.dropLast } (by omega)
            simp only at h2
            omega
theorem rest_next {ls : List (List OpT)} {g : Nat} {d : List Bool} : rest ls (g + 1) (nextD ls (g + 1)) ≤ rest ls g d := by
  unfold rest nextD
  rw [undone_rep]
  rcases Nat.lt_or_ge (g + 1) ls.length with h | h
  · rw [List.drop_eq_getElem_cons h, List.getElem?_eq_getElem h, List.map_cons, List.sum_cons, Option.getD_some]
    omega
  · rw [List.getElem?_eq_none h, List.drop_eq_nil_of_le (by omega), List.drop_eq_nil_of_le (by omega)]
    simp
theorem findP_cost {ls : List (List OpT)} : ∀ k g d s f, (∀ l, ls[g]? = some l → d.length = l.length) → f.left ≤ (findP ls k g d s f).2.left + (pth (rest ls g d) : Int)
  | 0, g, d, s, f, _ => by rw [findP]; simp only; omega
  | k + 1, g, d, s, f, hd => by
    rw [findP]
    have hp := pth_pos (rest ls g d)
    cases hl : ls[g]? with
    | none => simp only; omega
    | some l =>
      simp only
      split
      · have ih := findP_cost k (g + 1) (nextD ls (g + 1)) s f (fun l' h' => nextD_len h')
        have hm : pth (rest ls (g + 1) (nextD ls (g + 1))) ≤ pth (rest ls g d) := pth_mono rest_next
        omega
      · split
        · simp only; omega
        · split
          · simp only; omega
          · have h1 := loopP_cost (s := s) (c := pth (rest ls g d - 1)) (hd l hl) (G := findP ls k g) (fun d' t f e1 e2 => by
                have := findP_cost k g d' t f (fun l' h' => by rw [hl] at h'; obtain rfl := Option.some.inj h'; exact e1)
                have e : rest ls g d' = rest ls g d - 1 := by unfold rest; omega
                rw [e] at this
                exact this) l.length 0 { f with left := f.left - 1, seen := (g, d, s) :: f.seen } (by omega)
            rw [List.drop_zero] at h1
            have h2 : d.count false * pth (rest ls g d - 1) + 1 ≤ pth (rest ls g d) := by
              have hu : d.count false ≤ rest ls g d := by unfold rest undone; omega
              cases hr : rest ls g d with
              | zero => rw [hr] at hu; have : d.count false = 0 := by omega
                        rw [this]; simp [pth]
              | succ m =>
                rw [hr] at hu
                rw [pth, Nat.add_sub_cancel]
                have := Nat.mul_le_mul_right (pth m) hu
                omega
            generalize d.count false * pth (rest ls g d - 1) = m at h1 h2
            generalize loopP (findP ls k g) l d s 0 l.length { f with left := f.left - 1, seen := (g, d, s) :: f.seen } = r at h1 ⊢
            simp only at h1
            split
            · omega
            · simp only; omega
def Perms (b a : List (List OpT)) : Prop := b.length = a.length ∧ ∀ i (h : i < b.length) (h' : i < a.length), b[i].Perm a[i]
theorem Perms.flat : ∀ {b a : List (List OpT)}, Perms b a → b.flatten.Perm a.flatten
  | [], [], _ => .refl _
  | [], _ :: _, h => by have := h.1; simp at this
  | _ :: _, [], h => by have := h.1; simp at this
  | x :: b, y :: a, h => by
    rw [List.flatten_cons, List.flatten_cons]
    refine List.Perm.append (h.2 0 (by simp) (by simp)) (Perms.flat ⟨by have := h.1; simpa using this, fun i hi hi' => ?_⟩)
    have := h.2 (i + 1) (by simpa using hi) (by simpa using hi')
    simpa using this
theorem Perms.take {b a : List (List OpT)} (h : Perms b a) (k : Nat) : Perms (b.take k) (a.take k) := by
  refine ⟨by rw [List.length_take, List.length_take, h.1], fun i hi hi' => ?_⟩
  rw [List.getElem_take, List.getElem_take]
  exact h.2 i _ _
structure SegF (l : List OpT) (a : List (List OpT)) : Prop where
  flat : a.flatten.Perm l
  ne : ∀ x ∈ a, x ≠ []
  apart : ∀ (i j : Nat) (hi : i < a.length) (hj : j < a.length), i < j → ∀ x ∈ a[i], ∀ y ∈ a[j], before x y = true
theorem SegF.perm {l : List OpT} {a b : List (List OpT)} (h : SegF l a) (k : Perms b a) : SegF l b := by
  refine ⟨k.flat.trans h.flat, fun x hx e => ?_, fun i j hi hj hij x hx y hy => ?_⟩
  · obtain ⟨i, hi, rfl⟩ := List.mem_iff_getElem.1 hx
    have := k.2 i hi (by rw [← k.1]; exact hi)
    rw [e] at this
    exact h.ne _ (List.getElem_mem (by rw [← k.1]; exact hi)) (List.nil_perm.1 this)
  · exact h.apart i j (by rw [← k.1]; exact hi) (by rw [← k.1]; exact hj) hij x ((k.2 i hi _).mem_iff.1 hx) y ((k.2 j hj _).mem_iff.1 hy)
theorem sum_flat : ∀ a : List (List OpT), (a.map List.length).sum = a.flatten.length
  | [] => rfl
  | x :: a => by rw [List.map_cons, List.sum_cons, List.flatten_cons, List.length_append, sum_flat a]
theorem SegF.sub {l : List OpT} {a : List (List OpT)} (h : SegF l a) : ∀ x ∈ a, ∀ o ∈ x, o ∈ l := fun x hx o ho => h.flat.mem_iff.1 (List.mem_flatten.2 ⟨x, hx, ho⟩)
theorem SegF.all {l : List OpT} {a : List (List OpT)} (h : SegF l a) : ∀ o ∈ l, ∃ x ∈ a, o ∈ x := fun o ho => List.mem_flatten.1 (h.flat.mem_iff.2 ho)
theorem SegF.nd {l : List OpT} {a : List (List OpT)} (h : SegF l a) (hl : l.Nodup) : ∀ x ∈ a, x.Nodup := fun x hx => by
  have := (h.flat.nodup_iff).2 hl
  exact (List.pairwise_flatten.1 this).1 x hx
theorem ids_nd {l : List OpT} (hid : (l.map OpT.ID).Nodup) : l.Nodup := by
  refine List.Pairwise.imp ?_ (List.pairwise_map.1 hid)
  intro a b h e
  exact h (by rw [e])
theorem SegF.ok {l : List OpT} {a : List (List OpT)} (h : SegF l a) (hl : l.Nodup) (hb : ∀ o ∈ l, before o o = false) : SegsOk a := by
  refine ⟨h.nd hl, fun g g' x y hg hx hy o ho p hp => ?_⟩
  obtain ⟨h1, rfl⟩ := List.getElem?_eq_some_iff.1 hx
  obtain ⟨h2, rfl⟩ := List.getElem?_eq_some_iff.1 hy
  have hop := h.apart g g' h1 h2 hg o ho p hp
  have ho1 := hb o (h.sub _ (List.getElem_mem h1) o ho)
  have hp1 := hb p (h.sub _ (List.getElem_mem h2) p hp)
  refine ⟨?_, fun e => by rw [e] at hop; rw [hop] at hp1; cases hp1⟩
  unfold before at *
  cases hpd : p.Done with
  | false => rfl
  | true =>
    cases hod : o.Done with
    | false => rw [hod] at hop; cases hop
    | true =>
      rw [hod] at hop ho1
      rw [hpd] at hp1
      simp only [Bool.true_and, decide_eq_true_eq, decide_eq_false_iff_not] at hop ho1 hp1 ⊢
      omega
theorem SegF.settled {l : List OpT} {a : List (List OpT)} (h : SegF l a) : Settled a := fun g x hx hg o ho => by
  obtain ⟨h1, rfl⟩ := List.getElem?_eq_some_iff.1 hx
  obtain ⟨p, hp⟩ := List.exists_mem_of_ne_nil _ (h.ne _ (List.getElem_mem hg))
  have := h.apart g (g + 1) h1 hg (by omega) o ho p hp
  unfold before at this
  rw [Bool.and_eq_true] at this
  exact this.1
theorem rest_all (ls : List (List OpT)) : rest ls 0 (nextD ls 0) = (ls.map List.length).sum := by
  unfold rest nextD
  rw [undone_rep]
  cases ls <;> simp
structure FoundR (l : List OpT) (s0 : List Int) (E : List (List Int)) (r : Bool × FS) : Prop where
  yes : r.1 = true → E ≠ [] ∧ ∃ L, r.2.ids = L.map OpT.ID ∧ Ordered l L ∧ (runP s0 L).isSome = true ∧ L.length ≤ l.length
  no : r.1 = false → 0 ≤ r.2.left → E = []
theorem order_fin {l : List OpT} {a ls : List (List OpT)} (h : SegF l a) (hid : (l.map OpT.ID).Nodup) (hb : ∀ o ∈ l, before o o = false) (hp : Perms ls a) {s0 : List Int} {E : List (List Int)} (hE : CE a s0 E) (f0 : Int) :
    FoundR l s0 E (findP ls (work ls 0 (nextD ls 0)) 0 (nextD ls 0) s0 ⟨[], [], f0, []⟩) := by
  have hs := h.perm hp
  have nd := ids_nd hid
  have ch : ∀ t, ChEx ls s0 t ↔ ChEx a s0 t := fun t => chex_perms hp.1 fun i hi hi' => ⟨hp.2 i hi hi', hs.nd nd _ (List.getElem_mem hi)⟩
  have fin : Fin' ls 0 (nextD ls 0) s0 ↔ ∃ t, ChEx ls s0 t := fin_chex (ls := ls) ls.length 0 s0 (by omega)
  refine ⟨fun hr => ?_, fun hr h0 => ?_⟩
  · obtain ⟨L, hL, he⟩ := findP_yes _ _ _ _ _ hr
    obtain ⟨t, ht⟩ := fin.1 hL.fin
    obtain ⟨o1, o2, o3⟩ := hL.ordered (hs.ok nd hb) hid hs.sub hs.all
    refine ⟨fun e => ?_, L, he, o1, o2, o3⟩
    have := (hE t).2 ((ch t).1 ht)
    rw [e] at this
    cases this
  · obtain ⟨h1, _⟩ := findP_no hs.settled _ 0 (nextD ls 0) s0 ⟨[], [], f0, []⟩ (fun l' h' => nextD_len h') (Nat.le_refl _) hr h0 (fun p hp => by cases hp)
    refine List.eq_nil_iff_forall_not_mem.2 fun t ht => h1 (fin.2 ⟨t, ?_⟩)
    exact (ch t).2 ((hE t).1 ht)
theorem order_left {l : List OpT} {a ls : List (List OpT)} (h : SegF l a) (hl : l.length ≤ 7) (hp : Perms ls a) {s0 : List Int} (f0 : Int) : f0 ≤ (findP ls (work ls 0 (nextD ls 0)) 0 (nextD ls 0) s0 ⟨[], [], f0, []⟩).2.left + 13700 := by
  have h1 := findP_cost (ls := ls) (work ls 0 (nextD ls 0)) 0 (nextD ls 0) s0 ⟨[], [], f0, []⟩ (fun l' h' => nextD_len h')
  have h2 : rest ls 0 (nextD ls 0) ≤ 7 := by
    rw [rest_all, sum_flat, (h.perm hp).flat.length_eq]; exact hl
  have h3 : pth 7 = 13700 := by decide
  have h4 := pth_mono h2
  simp only at h1
  omega
theorem segF_cut {l r : List OpT} (obj kind : Int) (hs : Cut.Sorts Cut.earI l r) : SegF l ((segsOf obj kind r).map Seg.ops) := by
  have hcut := Cut.cutting hs.2 (fun _ => (obj, kind))
  have hfl : (r.foldl (Cut.cutStep Cut.segQ fun _ => (obj, kind)) []).flatMap Seg.ops = r := by rw [Cut.cut_flat]; rfl
  have hne := Cut.cut_ne Cut.segQ (fun _ => (obj, kind)) r [] fun s hs => by cases hs
  unfold segsOf
  generalize r.foldl (Cut.cutStep Cut.segQ fun _ => (obj, kind)) [] = segs at hcut hfl hne
  refine ⟨?_, fun x hx => ?_, fun i j hi hj hij x hx y hy => ?_⟩
  · rw [← List.flatMap_def, hfl]; exact hs.1
  · obtain ⟨s, hs, rfl⟩ := List.mem_map.1 hx
    exact hne s hs
  · rw [List.getElem_map] at hx hy
    exact List.pairwise_iff_getElem.1 hcut.apart i j (by simpa using hi) (by simpa using hj) hij x hx y hy
theorem perms_segs {segs : List Seg} {ls : List (List OpT)} (h1 : ls.length = segs.length) (h2 : ∀ i (h : i < segs.length) (h' : i < ls.length), Cut.Sorts Cut.idI segs[i].ops ls[i]) : Perms ls (segs.map Seg.ops) := by
  refine ⟨by rw [List.length_map]; exact h1, fun i hi hi' => ?_⟩
  rw [List.getElem_map]
  exact (h2 i (by rw [← h1]; exact hi) hi).1
end Go.Proofs.Ytbeoedgoikcbpaa

namespace Go.Proofs.Ytbeoedgoikcbpaa
set_option linter.unusedSimpArgs false
set_option linter.unusedVariables false
set_option maxRecDepth 100000
open Go Go.Ann Go.RowKit
def conv (l a : List OpT) (d : List Bool) : List Bool := a.map fun o => decide ((o, true) ∈ l.zip d)
theorem mem_zip {l : List OpT} {d : List Bool} {o : OpT} : (o, true) ∈ l.zip d ↔ ∃ i : Nat, l[i]? = some o ∧ d[i]? = some true := by
  rw [List.mem_iff_getElem?]
  constructor
  · rintro ⟨i, h⟩; exact ⟨i, List.getElem?_zip_eq_some.1 h⟩
  · rintro ⟨i, h⟩; exact ⟨i, List.getElem?_zip_eq_some.2 h⟩
theorem conv_marks {l a : List OpT} {d : List Bool} {L : List OpT} (h : Marks l d L) (hs : ∀ o ∈ a, o ∈ l) : Marks a (conv l a d) L := by
  refine ⟨by unfold conv; rw [List.length_map], fun i hi hi' => ?_⟩
  have e : (conv l a d)[i] = decide ((a[i], true) ∈ l.zip d) := by simp only [conv, List.getElem_map]
  rw [e, decide_eq_true_eq, mem_zip]
  constructor
  · rintro ⟨j, h1, h2⟩
    obtain ⟨hj, e⟩ := List.getElem?_eq_some_iff.1 h1
    obtain ⟨hj', e'⟩ := List.getElem?_eq_some_iff.1 h2
    rw [← e]
    exact (h.2 j hj hj').1 e'
  · intro hm
    obtain ⟨j, hj, e⟩ := List.mem_iff_getElem.1 (hs _ (List.getElem_mem hi))
    have hj' : j < d.length := by rw [h.1]; exact hj
    exact ⟨j, List.getElem?_eq_some_iff.2 ⟨hj, e⟩, List.getElem?_eq_some_iff.2 ⟨hj', (h.2 j hj hj').2 (by rw [e]; exact hm)⟩⟩
theorem Marks.one {a : List OpT} {d d' : List Bool} {L L' : List OpT} (h : Marks a d L) (k : Marks a d' L') (e : ∀ o ∈ a, o ∈ L ↔ o ∈ L') : d = d' := by
  refine List.ext_getElem (by rw [h.1, k.1]) fun i hi hi' => ?_
  have hia : i < a.length := by rw [← h.1]; exact hi
  have h1 := h.2 i hia hi
  have h2 := k.2 i hia hi'
  rw [e _ (List.getElem_mem hia), ← h2] at h1
  cases hx : d[i] <;> cases hy : d'[i] <;> simp_all
theorem Marks.mem {a : List OpT} {d : List Bool} {L L' : List OpT} (h : Marks a d L) (k : Marks a d L') : ∀ o ∈ a, o ∈ L ↔ o ∈ L' := fun o ho => by
  obtain ⟨i, hi, rfl⟩ := List.mem_iff_getElem.1 ho
  have hi' : i < d.length := by rw [h.1]; exact hi
  rw [← h.2 i hi hi', ← k.2 i hi hi']
theorem inj_on {α β : Type} {f : α → β} : ∀ {l : List α}, (∀ a ∈ l, ∀ b ∈ l, f a = f b → a = b) → l.Nodup → (l.map f).Nodup
  | [], _, _ => by simp
  | a :: l, hf, h => by
    obtain ⟨h1, h2⟩ := List.nodup_cons.1 h
    rw [List.map_cons]
    refine List.nodup_cons.2 ⟨fun hm => ?_, inj_on (fun x hx y hy => hf x (List.mem_cons_of_mem _ hx) y (List.mem_cons_of_mem _ hy)) h2⟩
    obtain ⟨b, hb, e⟩ := List.mem_map.1 hm
    exact h1 (hf b (List.mem_cons_of_mem _ hb) a (List.mem_cons_self ..) e ▸ hb)
structure TsOk (a : List (List OpT)) (s0 : List Int) (Ts : List (List Spot)) : Prop where
  len : Ts.length = a.length
  mem : ∀ g (h : g < a.length) (h' : g < Ts.length), ∀ q, q ∈ Ts[g] ↔ ∃ u, ChEx (a.take g) s0 u ∧ Rch a[g] (List.replicate a[g].length false, u) q
theorem TsOk.nil (s0 : List Int) : TsOk [] s0 [] := ⟨rfl, fun g h => by simp at h⟩
theorem TsOk.snoc {a : List (List OpT)} {b : List OpT} {s0 : List Int} {Ts : List (List Spot)} {E U0 : List (List Int)} {T : List Spot} {bud : Int} (h : TsOk a s0 Ts) (hE : CE a s0 E) (hU : Uniq E U0) (hR : SearchR b (startP b.length U0) bud (some T)) : TsOk (a ++ [b]) s0 (Ts ++ [T]) := by
  refine ⟨by simp [h.len], fun g hg hg' q => ?_⟩
  rw [List.length_append, List.length_singleton] at hg
  by_cases hga : g < a.length
  · have hgT : g < Ts.length := by rw [h.len]; exact hga
    rw [List.getElem_append_left hga, List.getElem_append_left hgT, List.take_append_of_le_length (by omega)]
    exact h.mem g hga hgT q
  · obtain rfl : g = a.length := by omega
    have e1 : (a ++ [b])[a.length] = b := by simp
    have e2 : (Ts ++ [T])[a.length] = T := by
      rw [List.getElem_append_right (by rw [h.len]; exact Nat.le_refl _)]; simp
    rw [e1, e2, List.take_left, closed_mem hR.1]
    constructor
    · rintro ⟨p, hp, hr⟩
      obtain ⟨u, hu, rfl⟩ := (start_mem hU p).1 hp
      exact ⟨u, (hE u).1 hu, hr⟩
    · rintro ⟨u, hu, hr⟩
      exact ⟨_, (start_mem hU _).2 ⟨u, (hE u).2 hu, rfl⟩, hr⟩
def RR (ls : List (List OpT)) (s0 : List Int) (p : OSpot) : Prop := ∃ u, ChEx (ls.take p.1) s0 u ∧ ∀ l, ls[p.1]? = some l → Rch l (List.replicate l.length false, u) (p.2.1, p.2.2)
theorem one_seg {ls a : List (List OpT)} {s0 : List Int} {Ts : List (List Spot)} (hp : Perms ls a) (hn : ∀ x ∈ ls, x.Nodup) (hT : TsOk a s0 Ts) {g : Nat} (hg : g < Ts.length) {S : List OSpot} (hS : S.Nodup) (h : ∀ p ∈ S, RR ls s0 p ∧ p.1 = g) : S.length ≤ Ts[g].length := by
  have hga : g < a.length := by rw [← hT.len]; exact hg
  have hgl : g < ls.length := by rw [hp.1]; exact hga
  have hpg := hp.2 g hgl hga
  have nl := hn _ (List.getElem_mem hgl)
  have na : a[g].Nodup := (hpg.nodup_iff).1 nl
  have key : ∀ p ∈ S, ∃ u L, ChEx (a.take g) s0 u ∧ Way ls[g] u L p.2.2 ∧ Marks ls[g] p.2.1 L := fun p hpS => by
    obtain ⟨⟨u, h1, h2⟩, e⟩ := h p hpS
    rw [e] at h1 h2
    obtain ⟨L, h3, h4⟩ := rch_way nl (h2 _ (List.getElem?_eq_getElem hgl))
    refine ⟨u, L, (chex_perms (hp.take g).1 fun i hi hi' => ⟨(hp.take g).2 i hi hi', ?_⟩).1 h1, h3, h4⟩
    exact hn _ (List.mem_of_mem_take (List.getElem_mem hi))
  have nd := inj_on (f := fun p : OSpot => ((conv ls[g] a[g] p.2.1, p.2.2) : Spot)) (l := S) (fun p hpS q hqS e => by
    obtain ⟨u, L, _, _, m1⟩ := key p hpS
    obtain ⟨u', L', _, _, m2⟩ := key q hqS
    simp only [Prod.mk.injEq] at e
    have c1 := conv_marks m1 fun o ho => hpg.mem_iff.2 ho
    have c2 := conv_marks m2 fun o ho => hpg.mem_iff.2 ho
    rw [e.1] at c1
    have e3 := c1.mem c2
    have e4 : p.2.1 = q.2.1 := m1.one m2 fun o ho => e3 o (hpg.mem_iff.1 ho)
    exact Prod.ext ((h p hpS).2.trans (h q hqS).2.symm) (Prod.ext e4 e.2)) hS
  have := nodup_le nd (l := Ts[g]) fun q hq => by
    obtain ⟨p, hpS, rfl⟩ := List.mem_map.1 hq
    obtain ⟨u, L, h1, h2, m1⟩ := key p hpS
    obtain ⟨d', h3, m2⟩ := way_rch na (h2.perm fun o => hpg.mem_iff)
    have e : conv ls[g] a[g] p.2.1 = d' := (conv_marks m1 fun o ho => hpg.mem_iff.2 ho).one m2 fun o _ => Iff.rfl
    rw [e]
    exact (hT.mem g hga hg _).2 ⟨u, h1, h3⟩
  rwa [List.length_map] at this
theorem filter_two {α : Type} (p : α → Bool) : ∀ l : List α, l.length = (l.filter p).length + (l.filter fun x => !p x).length
  | [] => rfl
  | a :: l => by
    have := filter_two p l
    rw [List.filter_cons, List.filter_cons]
    cases p a <;> simp <;> omega
theorem all_segs {ls a : List (List OpT)} {s0 : List Int} {Ts : List (List Spot)} (hp : Perms ls a) (hn : ∀ x ∈ ls, x.Nodup) (hT : TsOk a s0 Ts) : ∀ G, G ≤ Ts.length → ∀ S : List OSpot, S.Nodup → (∀ p ∈ S, RR ls s0 p ∧ p.1 < G) → S.length ≤ ((Ts.take G).map List.length).sum
  | 0, _, S, _, h => by
    have : S = [] := List.eq_nil_iff_forall_not_mem.2 fun p hpS => by have := (h p hpS).2; omega
    rw [this]; simp
  | G + 1, hG, S, hS, h => by
    rw [filter_two (fun p => decide (p.1 = G)) S, List.take_succ_eq_append_getElem (by omega), List.map_append, List.sum_append]
    have h1 := one_seg hp hn hT (g := G) (by omega) (S := S.filter fun p => decide (p.1 = G)) (hS.filter _) fun p hpS => by
      obtain ⟨h1, h2⟩ := List.mem_filter.1 hpS
      exact ⟨(h p h1).1, by simpa using h2⟩
    have h2 := all_segs hp hn hT G (by omega) (S.filter fun p => !decide (p.1 = G)) (hS.filter _) fun p hpS => by
      obtain ⟨h1, h2⟩ := List.mem_filter.1 hpS
      have h3 := (h p h1).2
      have h4 : ¬ p.1 = G := by simpa using h2
      exact ⟨(h p h1).1, by omega⟩
    simp only [List.map_cons, List.map_nil, List.sum_cons, List.sum_nil]
    omega
theorem order_enough {ls a : List (List OpT)} {s0 : List Int} {Ts : List (List Spot)} (hp : Perms ls a) (hn : ∀ x ∈ ls, x.Nodup) (hT : TsOk a s0 Ts) : 0 ≤ (findP ls (work ls 0 (nextD ls 0)) 0 (nextD ls 0) s0 ⟨[], [], ((Ts.map List.length).sum : Nat), []⟩).2.left := by
  refine (findP_seen (R := RR ls s0) (n := (Ts.map List.length).sum) (fun S hS h => ?_) (fun g l d s k q hl hR hq => ?_) (fun g l d s hl hf hR => ?_) _ 0 (nextD ls 0) s0 _ (fun l' h' => nextD_len h') ⟨s0, rfl, fun l hl => ?_⟩ ⟨by simp, fun p hp => by cases hp⟩ (fun p hp => by cases hp) (by simp only; omega) (by simp)).left
  · have := all_segs hp hn hT Ts.length (Nat.le_refl _) S hS fun p hpS => by
      have := h p hpS
      rw [hT.len, ← hp.1]; exact this
    rwa [List.take_length] at this
  · obtain ⟨u, h1, h2⟩ := hR
    refine ⟨u, h1, fun l' hl' => ?_⟩
    simp only at hl' h2
    rw [hl] at hl'
    obtain rfl := Option.some.inj hl'
    obtain ⟨o, ho, _⟩ := newAt_iff.1 hq
    exact (h2 l hl).step (nextL_iff.2 ⟨k, (List.getElem?_eq_some_iff.1 ho).1, hq⟩)
  · obtain ⟨u, h1, h2⟩ := hR
    simp only at h1 h2
    obtain ⟨hg, rfl⟩ := List.getElem?_eq_some_iff.1 hl
    refine ⟨s, ?_, fun l' hl' => ?_⟩
    · simp only
      rw [List.take_succ_eq_append_getElem hg]
      exact chex_snoc.2 ⟨u, h1, d, h2 _ hl, hf⟩
    · simp only at hl' ⊢
      unfold nextD
      rw [hl']
      exact .refl _
  · simp only at hl ⊢
    unfold nextD
    rw [hl]
    exact .refl _
end Go.Proofs.Ytbeoedgoikcbpaa

namespace Go.Proofs.Ytbeoedgoikcbpaa
set_option linter.unusedSimpArgs false
set_option linter.unusedVariables false
set_option maxRecDepth 100000
open Go Go.Ann Go.RowKit Go.WideShapes
theorem flatten_len : ∀ {a : List (List OpT)}, (∀ x ∈ a, x ≠ []) → a.length ≤ a.flatten.length
  | [], _ => Nat.zero_le _
  | x :: a, h => by
    have h1 := flatten_len (a := a) fun y hy => h y (List.mem_cons_of_mem _ hy)
    have h2 := List.length_pos_iff.2 (h x (List.mem_cons_self ..))
    rw [List.flatten_cons, List.length_append, List.length_cons]
    omega
theorem SegF.len {l : List OpT} {a : List (List OpT)} (h : SegF l a) : a.length ≤ l.length := by
  have := flatten_len h.ne
  rwa [h.flat.length_eq] at this
theorem SegF.one {l : List OpT} {a : List (List OpT)} (h : SegF l a) : ∀ x ∈ a, x.length ≤ l.length := fun x hx => by
  rw [← h.flat.length_eq]
  exact (List.sublist_flatten_of_mem hx).length_le
theorem pure_ids {l : List OpT} (hid : (l.map OpT.ID).Nodup) : Cut.Pure l := fun a ha b hb e => by
  obtain ⟨i, hi, rfl⟩ := List.mem_iff_getElem.1 ha
  obtain ⟨j, hj, rfl⟩ := List.mem_iff_getElem.1 hb
  by_cases hij : i = j
  · subst hij; rfl
  · exact absurd e (ids_ne hid hi hj hij)
theorem lw_pos {x : Int} (h : x < 9223372036854775808) (h' : -9223372036854775808 ≤ x) : lw x = x := by unfold lw; split <;> omega
theorem ce_ok {l : List OpT} {a : List (List OpT)} {kd : Int} (hF : SegF l a) (hK : ∀ o ∈ l, o.Kind = kd) (hw : ∀ o ∈ l, o.wf) {k : Nat} {E : List (List Int)} (h : CE (a.take k) (firstP kd) E) {t : List Int} (ht : t ∈ E) : StOk kd (1 + l.length) t := by
  have h1 := chex_ok (K := kd) (fun x hx o ho => hK o (hF.sub x (List.mem_of_mem_take hx) o ho)) (fun x hx o ho => hw o (hF.sub x (List.mem_of_mem_take hx) o ho)) ((h t).1 ht) (firstOk kd)
  have h2 : ((a.take k).map List.length).sum ≤ l.length := by
    rw [sum_flat, ← hF.flat.length_eq]
    have e : a.flatten = (a.take k).flatten ++ (a.drop k).flatten := by rw [← List.flatten_append, List.take_append_drop]
    rw [e, List.length_append]; omega
  exact ⟨h1.1, by have := h1.2.1; omega, h1.2.2⟩
end Go.Proofs.Ytbeoedgoikcbpaa

namespace Go.Proofs.Ytbeoedgoikcbpaa
set_option linter.unusedSimpArgs false
set_option linter.unusedVariables false
set_option maxRecDepth 100000
open Go Go.Ann Go.RowKit Go.WideShapes
theorem id_unique {l a b : List OpT} (hid : (l.map OpT.ID).Nodup) (ha : Cut.Sorts Cut.idI l a) (hb : Cut.Sorts Cut.idI l b) : a = b := by
  refine List.Perm.eq_of_pairwise ?_ ha.2 hb.2 (ha.1.trans hb.1.symm)
  intro x y hx hy h1 h2
  refine pure_ids hid x (ha.1.mem_iff.1 hx) y (hb.1.mem_iff.1 hy) ?_
  rw [Cut.id_neg] at h1 h2
  omega
def runF (ls : List (List OpT)) (s0 : List Int) (x : Int) : Bool × FS := findP ls (work ls 0 (nextD ls 0)) 0 (nextD ls 0) s0 ⟨[], [], x, []⟩
theorem runF_le (ls : List (List OpT)) (s0 : List Int) (x : Int) : (runF ls s0 x).2.left ≤ x := findP_left _ _ _ _ _
theorem runF_more {ls : List (List OpT)} {s0 : List Int} {x y : Int} (h : x ≤ y) (h0 : 0 ≤ (runF ls s0 x).2.left) : (runF ls s0 y).1 = (runF ls s0 x).1 ∧ (runF ls s0 y).2.ids = (runF ls s0 x).2.ids ∧ (runF ls s0 y).2.left = (runF ls s0 x).2.left + (y - x) := by
  have e := findP_more (m := (y - x).toNat) _ _ _ _ _ h0
  have e1 : (FS.mk [] [] x []).more (y - x).toNat = ⟨[], [], y, []⟩ := by
    unfold FS.more
    rw [FS.mk.injEq]
    exact ⟨rfl, rfl, by simp only; omega, rfl⟩
  rw [e1] at e
  unfold runF at *
  rw [e]
  refine ⟨rfl, rfl, ?_⟩
  unfold FS.more
  simp only
  omega
theorem runF_ids {ls : List (List OpT)} {s0 : List Int} {x : Int} (h : (runF ls s0 x).1 = false) : (runF ls s0 x).2.ids = [] := findP_ids _ _ _ _ _ h
def LeastU (w' : World) (r : Bool × FS) (u : Value) : Prop :=
  (lw r.2.left < 0 ∧ u = .tuple #[.slice none 0 0, .bool false, .int .i64 35]) ∨ (0 ≤ lw r.2.left ∧ ∃ ia ic, u = .tuple #[.slice ia r.2.ids.length ic, .bool r.1, .int .i64 0] ∧ RdS w' 1 intE (.slice ia r.2.ids.length ic) r.2.ids)
theorem least_run {w' : World} {l : List OpT} {kd budget : Int} {segs : List Seg} {u : Value} (hF : SegF l (segs.map Seg.ops)) (hl : l.length ≤ 7) (hid : (l.map OpT.ID).Nodup) (h : LeastV w' kd budget segs u) :
    ∃ ls, Perms ls (segs.map Seg.ops) ∧ (∀ (k : List (List OpT)), k.length = segs.length → (∀ i (h : i < segs.length) (h' : i < k.length), Cut.Sorts Cut.idI segs[i].ops k[i]) → k = ls) ∧ ls.length = segs.length ∧ (∀ i (h : i < segs.length) (h' : i < ls.length), Cut.Sorts Cut.idI segs[i].ops ls[i]) ∧ LeastU w' (runF ls (firstP kd) (left0 budget)) u := by
  have hone : ∀ s ∈ segs, s.ops.length ≤ 7 := fun s hs => by have := hF.one _ (List.mem_map.2 ⟨s, hs, rfl⟩); omega
  rcases h with ⟨⟨s, hs, h16⟩, _⟩ | ⟨_, ls, h1, h2, r, hr, h3⟩
  · have := hone s hs; omega
  refine ⟨ls, perms_segs h1 h2, fun k k1 k2 => List.ext_getElem (by omega) fun i hi hi' => ?_, h1, h2, ?_⟩
  · have hs : i < segs.length := by omega
    have hm := hF.sub _ (List.mem_map.2 ⟨segs[i], List.getElem_mem hs, rfl⟩)
    refine id_unique ?_ (k2 i hs hi) (h2 i hs hi')
    have nd := hF.nd (ids_nd hid) _ (List.mem_map.2 ⟨segs[i], List.getElem_mem hs, rfl⟩)
    refine List.pairwise_map.2 (nd.imp_of_mem fun {a b} ha hb hne e => hne ?_)
    exact pure_ids hid a (hm a ha) b (hm b hb) e
  · have hr : runF ls (firstP kd) (left0 budget) = r := hr
    rw [hr]
    have hi : r.1 = false → r.2.ids = [] := fun h => by rw [← hr] at h ⊢; exact runF_ids h
    rcases h3 with ⟨h4, h5⟩ | ⟨h4, h5, rfl⟩ | ⟨h4, h5, iv, rfl, h6⟩
    · exact .inl ⟨h4, h5⟩
    · refine .inr ⟨h4, none, 0, ?_, ?_⟩
      · rw [hi h5, h5]; rfl
      · rw [hi h5]
        exact ⟨by simp, none, 0, rfl, Nat.le_refl _, fun h => absurd rfl h⟩
    · obtain ⟨a, c, rfl, _⟩ := h6.form
      exact .inr ⟨h4, a, c, by rw [h5], h6⟩
theorem budgets {l : List OpT} {a ls : List (List OpT)} {s0 : List Int} {Ts : List (List Spot)} (hF : SegF l a) (hl : l.length ≤ 7) (hid : (l.map OpT.ID).Nodup) (hp : Perms ls a) (hT : TsOk a s0 Ts) (hn : (Ts.map List.length).sum ≤ 32768) :
    0 ≤ lw (runF ls s0 (left0 32768)).2.left ∧ (∀ b, 0 ≤ lw (runF ls s0 (left0 b)).2.left → (runF ls s0 (left0 b)).1 = (runF ls s0 (left0 32768)).1 ∧ (runF ls s0 (left0 b)).2.ids = (runF ls s0 (left0 32768)).2.ids) ∧
    ∀ b, (((Ts.map List.length).sum : Nat) : Int) ≤ b → 0 ≤ lw (runF ls s0 (left0 b)).2.left := by
  have e0 : left0 32768 = 32768 := rfl
  have f0 : 32768 ≤ (runF ls s0 32768).2.left + 13700 := order_left hF hl hp 32768
  have f1 := runF_le ls s0 32768
  have en : 0 ≤ (runF ls s0 ((Ts.map List.length).sum : Nat)).2.left := order_enough hp (fun x hx => (hF.perm hp).nd (ids_nd hid) x hx) hT
  rw [e0]
  refine ⟨by rw [lw_pos (by omega) (by omega)]; omega, fun b hb => ?_, fun b hb => ?_⟩
  · have g1 := runF_le ls s0 (left0 b)
    have h0 : 0 ≤ (runF ls s0 (left0 b)).2.left ∧ (runF ls s0 (left0 b)).2.left < 9223372036854775808 := by
      unfold lw at hb
      split at hb
      · omega
      · refine ⟨hb, ?_⟩
        rename_i hne
        have : left0 b ≤ 9223372036854775808 := by unfold left0; split <;> omega
        omega
    by_cases hx : left0 b ≤ 32768
    · obtain ⟨h1, h2, _⟩ := runF_more hx h0.1
      exact ⟨h1.symm, h2.symm⟩
    · obtain ⟨h1, h2, _⟩ := runF_more (ls := ls) (s0 := s0) (x := 32768) (y := left0 b) (by omega) (by omega)
      exact ⟨h1, h2⟩
  · have e : left0 b = min b 32768 := by
      unfold left0
      rw [if_neg (by omega)]
    rw [e]
    have g1 := runF_le ls s0 (min b 32768)
    obtain ⟨_, _, h3⟩ := runF_more (x := ((Ts.map List.length).sum : Nat)) (y := min b 32768) (by omega) en
    rw [lw_pos (by omega) (by omega)]
    omega
theorem orderBudget_ok {w : World} {ob kd budget : Int} {lv : Value} {l : List OpT} (h : RdS w 11 OpT.enc lv l) (hl : (l.length : Int) ≤ 9223372036854775807) (hw : ∀ o ∈ l, o.wf) (hbud : I64 budget) :
    Ret Try.prog 10 [.agg #[.int .i64 ob, .int .i64 kd, lv], .int .i64 budget] w fun u w' => u = .bool true ∧ Below w.heap.size w w' := by
  obtain ⟨la, lc, rfl, _⟩ := h.form
  refine ent10 _ _ _ _ ?_
  have s1 := (St.start (W0 := w)).box #[.int .i64 ob, .int .i64 kd, .slice la l.length lc] 24
  have r1 := s1.rules 0 rfl
  simp (disch := first | omega | exact okFill_t rfl | exact okSize_t rfl | exact fun h => h | (simp only [World.size_alloc, World.size_drew, World.size_setCell, size_fill, bytesW]; omega)) only [go_sem, c10, c10S0, c10S1, c10S2, c10S3, c10S4, c10S5, c10S6, c10L0, c10S7, c10S8, c10S9, c10S10, c10S11, c10S12, c10S13, c10S14, c10S15, c10S16, c10S17, c10S18, c10S19, c10S20]
  refine Ret.mono (osmall_ok (h.below s1.bel (by decide)) hl (by decide)) ?_
  rintro _ w2 ⟨⟨b, rfl, hsm⟩, b2⟩
  have s2 := s1.call b2
  have r2 := s2.rules 0 rfl
  cases b with
  | false =>
    simp (disch := first | omega | exact okFill_t rfl | exact okSize_t rfl | exact fun h => h | (simp only [World.size_alloc, World.size_drew, World.size_setCell, size_fill, bytesW]; omega)) only [go_sem, c10, c10S0, c10S1, c10S2, c10S3, c10S4, c10S5, c10S6, c10L0, c10S7, c10S8, c10S9, c10S10, c10S11, c10S12, c10S13, c10S14, c10S15, c10S16, c10S17, c10S18, c10S19, c10S20]
    refine Ret.mono (oawake_ok w2) ?_
    rintro _ w3 ⟨rfl, b3⟩
    simp (disch := first | omega | exact okFill_t rfl | exact okSize_t rfl | exact fun h => h | (simp only [World.size_alloc, World.size_drew, World.size_setCell, size_fill, bytesW]; omega)) only [go_sem, c10, c10S0, c10S1, c10S2, c10S3, c10S4, c10S5, c10S6, c10L0, c10S7, c10S8, c10S9, c10S10, c10S11, c10S12, c10S13, c10S14, c10S15, c10S16, c10S17, c10S18, c10S19, c10S20]
    exact (s2.call b3).bel
  | true =>
    obtain ⟨hl7, hkind, hid, hbb⟩ := hsm rfl
    simp (disch := first | omega | exact okFill_t rfl | exact okSize_t rfl | exact fun h => h | (simp only [World.size_alloc, World.size_drew, World.size_setCell, size_fill, bytesW]; omega)) only [go_sem, c10, c10S0, c10S1, c10S2, c10S3, c10S4, c10S5, c10S6, c10L0, c10S7, c10S8, c10S9, c10S10, c10S11, c10S12, c10S13, c10S14, c10S15, c10S16, c10S17, c10S18, c10S19, c10S20, r2]
    refine Ret.mono (rfirst_ok kd w2) ?_
    rintro sv w3 ⟨⟨hsv, _⟩, b3⟩
    obtain ⟨sa, sc, rfl, _⟩ := hsv.form
    have s3 := s2.call b3
    simp (disch := first | omega | exact okFill_t rfl | exact okSize_t rfl | exact fun h => h | (simp only [World.size_alloc, World.size_drew, World.size_setCell, size_fill, bytesW]; omega)) only [go_sem, c10, c10S0, c10S1, c10S2, c10S3, c10S4, c10S5, c10S6, c10L0, c10S7, c10S8, c10S9, c10S10, c10S11, c10S12, c10S13, c10S14, c10S15, c10S16, c10S17, c10S18, c10S19, c10S20]
    have ones : ∀ u ∈ [Value.slice sa (firstP kd).length sc], u.oneCell' = true := fun u hu => by rw [List.mem_singleton] at hu; subst hu; rfl
    refine bsW_ones ty25mkI rfl rfl (by decide) (by decide) ones ?_
    have hr4 := row1 (t := 36) hsv
    have s4 := s3.alloc' (.cells #[.slice sa (firstP kd).length sc] 36)
    generalize hv4 : Value.slice (some ⟨w3.heap.size, 0, none⟩) 1 1 = v4 at hr4 ⊢
    generalize w3.alloc (.cells #[.slice sa (firstP kd).length sc] 36) = w4 at hr4 s4 ⊢
    have r4 := s4.rules 0 rfl
    simp (disch := first | omega | exact okFill_t rfl | exact okSize_t rfl | exact fun h => h | (simp only [World.size_alloc, World.size_drew, World.size_setCell, size_fill, bytesW]; omega)) only [go_sem, c10, c10S0, c10S1, c10S2, c10S3, c10S4, c10S5, c10S6, c10L0, c10S7, c10S8, c10S9, c10S10, c10S11, c10S12, c10S13, c10S14, c10S15, c10S16, c10S17, c10S18, c10S19, c10S20, r4]
    refine Ret.mono (Cut.rsegments_ok _ _ _ _ _ (h.below s4.bel (by decide)) (by omega)) ?_
    rintro v7 w7 ⟨⟨r7, hs7, hr7⟩, b7⟩
    have s7 := s4.call b7
    have hr7 : RdR w7 3 Cut.segR v7 (segsOf ob kd r7) := hr7
    have hF := segF_cut ob kd hs7
    have hlen : (segsOf ob kd r7).length ≤ l.length := by have := hF.len; rwa [List.length_map] at this
    generalize hsg : segsOf ob kd r7 = segs at hr7 hF hlen
    have hsub : ∀ s ∈ segs, ∀ o ∈ s.ops, o ∈ l := fun s hs => hF.sub _ (List.mem_map.2 ⟨s, hs, rfl⟩)
    have hone : ∀ s ∈ segs, s.ops.length ≤ 7 := fun s hs => by have := hF.one _ (List.mem_map.2 ⟨s, hs, rfl⟩); omega
    obtain ⟨ps, cs, rfl, _⟩ := hr7.form
    simp (disch := first | omega | exact okFill_t rfl | exact okSize_t rfl | exact fun h => h | (simp only [World.size_alloc, World.size_drew, World.size_setCell, size_fill, bytesW]; omega)) only [go_sem, c10, c10S0, c10S1, c10S2, c10S3, c10S4, c10S5, c10S6, c10L0, c10S7, c10S8, c10S9, c10S10, c10S11, c10S12, c10S13, c10S14, c10S15, c10S16, c10S17, c10S18, c10S19, c10S20]
    refine W_loopU (fun x : Nat × Value × List VS × List (List Spot) => [(5, x.2.1), (7, .int .i64 ((x.2.2.2.map List.length).sum : Nat)), (8, .int .i64 x.1)]) (fun x w' => St w w' (fun _ => False) [.blk w.heap.size #[.int .i64 ob, .int .i64 kd, .slice la l.length lc] 24] [] ∧ Below w7.heap.size w7 w' ∧ x.1 ≤ segs.length ∧ RowS w' x.2.1 x.2.2.1 ∧ x.2.2.1.length ≤ 32768 ∧ CE ((segs.map Seg.ops).take x.1) (firstP kd) (x.2.2.1.map Prod.snd) ∧
      TsOk ((segs.map Seg.ops).take x.1) (firstP kd) x.2.2.2 ∧ (x.2.2.2.map List.length).sum ≤ x.1 * 32768) (fun x => segs.length - x.1) (0, v4, [(.slice sa (firstP kd).length sc, firstP kd)], []) rfl ⟨s7, Below.refl _ _, Nat.zero_le _, hr4.below b7, by simp, CE.start _, TsOk.nil _, by simp⟩ ?_
    rintro ⟨k, ev, E, Ts⟩ w8 ⟨s8, b8, hk, hE, hEl, hch, hT, hsum⟩
    simp only at b8 hk hE hEl hch hT hsum
    obtain ⟨ea', ec', rfl, _⟩ := hE.form
    have r8 := s8.rules 0 rfl
    generalize hn : (Ts.map List.length).sum = n at hsum
    by_cases hkl : k < segs.length
    · have hkl' : (k : Int) < segs.length := by omega
      obtain ⟨q, rfl⟩ := hr7.ptr (by omega)
      have hr8 := hr7.below b8 (by decide) fun x c => Cut.segR.below b8 x c
      obtain ⟨ck, hckl, ⟨vk, rfl, hvk, hlk⟩, hldk, ek⟩ := hr8.elt (by decide) hkl
      obtain ⟨ka, kc, rfl, _⟩ := hvk.form
      have hmem := List.getElem_mem hkl
      have ho7 := hone _ hmem
      simp (disch := first | omega | exact okFill_t rfl | exact okSize_t rfl | exact fun h => h | (simp only [World.size_alloc, World.size_drew, World.size_setCell, size_fill, bytesW]; omega)) only [go_sem, c10, c10S0, c10S1, c10S2, c10S3, c10S4, c10S5, c10S6, c10L0, c10S7, c10S8, c10S9, c10S10, c10S11, c10S12, c10S13, c10S14, c10S15, c10S16, c10S17, c10S18, c10S19, c10S20, c10L0, hkl', hldk, hn]
      refine ⟨by omega, ?_⟩
      refine Ret.mono (rsearch_ok (K := kd) (M := 100) hvk (by omega) (fun o ho => hkind o (hsub _ hmem o ho)) (fun o ho => hw o (hsub _ hmem o ho)) hE (by omega) (by decide) (fun p hp => ?_) (by constructor <;> decide)) ?_
      · have g := ce_ok hF hkind hw hch (List.mem_map.2 ⟨p, hp, rfl⟩)
        exact ⟨g.1, by have := g.2.1; omega, g.2.2⟩
      rintro u w9 ⟨⟨U0, r, hU, hR, hV⟩, b9⟩
      have s9 := s8.call b9
      have hR : SearchR segs[k].ops (startP segs[k].ops.length U0) 32768 r := hR
      cases r with
      | none =>
        obtain rfl : u = _ := hV
        simp (disch := first | omega | exact okFill_t rfl | exact okSize_t rfl | exact fun h => h | (simp only [World.size_alloc, World.size_drew, World.size_setCell, size_fill, bytesW]; omega)) only [go_sem, c10, c10S0, c10S1, c10S2, c10S3, c10S4, c10S5, c10S6, c10L0, c10S7, c10S8, c10S9, c10S10, c10S11, c10S12, c10S13, c10S14, c10S15, c10S16, c10S17, c10S18, c10S19, c10S20]
        have s10 := s9.alloc' (.cells #[.slice none 0 0, .slice none 0 0, .int .i64 0] 27)
        refine Ret.mono (oawake_ok _) ?_
        rintro _ w11 ⟨rfl, b11⟩
        simp (disch := first | omega | exact okFill_t rfl | exact okSize_t rfl | exact fun h => h | (simp only [World.size_alloc, World.size_drew, World.size_setCell, size_fill, bytesW]; omega)) only [go_sem, c10, c10S0, c10S1, c10S2, c10S3, c10S4, c10S5, c10S6, c10L0, c10S7, c10S8, c10S9, c10S10, c10S11, c10S12, c10S13, c10S14, c10S15, c10S16, c10S17, c10S18, c10S19, c10S20]
        exact (s10.call b11).bel
      | some T =>
        obtain ⟨ya, yn, yc, xa, xn, xc, nn, ue, rfl, _⟩ := hV.form
        obtain ⟨rfl, rfl, V, Y, hV3, eV, hY3, eY⟩ := SearchV.some hV
        have t10 := (St.start (W0 := w9)).box #[.slice ya yn yc, .slice xa xn xc, .int .i64 T.length] 27
        have s10 := s9.alloc' (.cells #[.slice ya yn yc, .slice xa xn xc, .int .i64 T.length] 27)
        simp (disch := first | omega | exact okFill_t rfl | exact okSize_t rfl | exact fun h => h | (simp only [World.size_alloc, World.size_drew, World.size_setCell, size_fill, bytesW]; omega)) only [go_sem, c10, c10S0, c10S1, c10S2, c10S3, c10S4, c10S5, c10S6, c10L0, c10S7, c10S8, c10S9, c10S10, c10S11, c10S12, c10S13, c10S14, c10S15, c10S16, c10S17, c10S18, c10S19, c10S20]
        have hY10 := hY3.below t10.bel
        generalize w9.alloc (.cells #[.slice ya yn yc, .slice xa xn xc, .int .i64 T.length] 27) = w10 at t10 s10 hY10 ⊢
        generalize hz : w9.heap.size = z9 at t10 ⊢
        have r10 := t10.rules 0 rfl
        have lY := Uniq.len eY
        have lT := hR.2
        have hsum7 : (k : Int) ≤ 7 := by omega
        refine ⟨⟨by omega, by omega⟩, ⟨by omega, by omega⟩, (k + 1, .slice xa xn xc, Y, Ts ++ [T]), ?_, ⟨s10, Below.next (Below.next b8 b9) (hz ▸ t10.bel), by simp only; omega, hY10, by simp only; omega, ?_, ?_, ?_⟩, by simp only; omega⟩
        · simp only [List.map_append, List.sum_append, List.map_cons, List.map_nil, List.sum_cons, List.sum_nil, hn]
          push_cast
          rfl
        · simp only
          rw [List.take_succ_eq_append_getElem (by simpa using hkl), List.getElem_map]
          exact hch.step hU hR eY
        · simp only
          rw [List.take_succ_eq_append_getElem (by simpa using hkl), List.getElem_map]
          exact hT.snoc hch hU hR
        · simp only [List.map_append, List.sum_append, List.map_cons, List.map_nil, List.sum_cons, List.sum_nil, hn]
          omega
    · have hkl' : ¬ (k : Int) < segs.length := by omega
      have hk' : k = segs.length := by omega
      subst hk'
      rw [show (segs.map Seg.ops).take segs.length = segs.map Seg.ops by rw [List.take_of_length_le]; simp] at hch hT
      by_cases hbig : 32768 < n
      · have hbig' : (32768 : Int) < n := by omega
        simp (disch := first | omega | exact okFill_t rfl | exact okSize_t rfl | exact fun h => h | (simp only [World.size_alloc, World.size_drew, World.size_setCell, size_fill, bytesW]; omega)) only [go_sem, c10, c10S0, c10S1, c10S2, c10S3, c10S4, c10S5, c10S6, c10L0, c10S7, c10S8, c10S9, c10S10, c10S11, c10S12, c10S13, c10S14, c10S15, c10S16, c10S17, c10S18, c10S19, c10S20, c10L0, hkl', hn, hbig']
        refine Ret.mono (oawake_ok _) ?_
        rintro _ w9 ⟨rfl, b9⟩
        simp (disch := first | omega | exact okFill_t rfl | exact okSize_t rfl | exact fun h => h | (simp only [World.size_alloc, World.size_drew, World.size_setCell, size_fill, bytesW]; omega)) only [go_sem, c10, c10S0, c10S1, c10S2, c10S3, c10S4, c10S5, c10S6, c10L0, c10S7, c10S8, c10S9, c10S10, c10S11, c10S12, c10S13, c10S14, c10S15, c10S16, c10S17, c10S18, c10S19, c10S20]
        exact (s8.call b9).bel
      have hbig' : ¬ (32768 : Int) < n := by omega
      simp (disch := first | omega | exact okFill_t rfl | exact okSize_t rfl | exact fun h => h | (simp only [World.size_alloc, World.size_drew, World.size_setCell, size_fill, bytesW]; omega)) only [go_sem, c10, c10S0, c10S1, c10S2, c10S3, c10S4, c10S5, c10S6, c10L0, c10S7, c10S8, c10S9, c10S10, c10S11, c10S12, c10S13, c10S14, c10S15, c10S16, c10S17, c10S18, c10S19, c10S20, c10L0, hkl', hn, hbig', r8]
      refine Ret.mono (least_ok (h.below s8.bel (by decide)) (by omega) hkind hw (by constructor <;> decide)) ?_
      rintro u w9 ⟨⟨l', hs', hL⟩, b9⟩
      obtain rfl := Cut.sorts_unique (pure_ids hid) hs7 hs'
      rw [hsg] at hL
      have s9 := s8.call b9
      have r9 := s9.rules 0 rfl
      obtain ⟨ls, hp, huq, q1, q2, hA⟩ := least_run hF (by omega) hid hL
      obtain ⟨g1, g2, g3⟩ := budgets hF (by omega) hid hp hT (by omega)
      rw [hn] at g3
      rcases hA with ⟨hA, _⟩ | ⟨_, ia, ic, rfl, hia⟩
      · omega
      simp (disch := first | omega | exact okFill_t rfl | exact okSize_t rfl | exact fun h => h | (simp only [World.size_alloc, World.size_drew, World.size_setCell, size_fill, bytesW]; omega)) only [go_sem, c10, c10S0, c10S1, c10S2, c10S3, c10S4, c10S5, c10S6, c10L0, c10S7, c10S8, c10S9, c10S10, c10S11, c10S12, c10S13, c10S14, c10S15, c10S16, c10S17, c10S18, c10S19, c10S20, r9]
      refine Ret.mono (least_ok (h.below s9.bel (by decide)) (by omega) hkind hw (by constructor <;> omega)) ?_
      rintro u w10 ⟨⟨l', hs', hL⟩, b10⟩
      obtain rfl := Cut.sorts_unique (pure_ids hid) hs7 hs'
      rw [hsg] at hL
      have s10 := s9.call b10
      have r10 := s10.rules 0 rfl
      obtain ⟨ls', _, _, q3, q4, hB⟩ := least_run hF (by omega) hid hL
      obtain rfl := huq ls' q3 q4
      have gn := g3 n (Int.le_refl _)
      rcases hB with ⟨hB, _⟩ | ⟨_, ja, jc, rfl, hja⟩
      · omega
      obtain ⟨gn1, gn2⟩ := g2 n gn
      rw [gn1, gn2]
      rw [gn2] at hja
      simp (disch := first | omega | exact okFill_t rfl | exact okSize_t rfl | exact fun h => h | (simp only [World.size_alloc, World.size_drew, World.size_setCell, size_fill, bytesW]; omega)) only [go_sem, c10, c10S0, c10S1, c10S2, c10S3, c10S4, c10S5, c10S6, c10L0, c10S7, c10S8, c10S9, c10S10, c10S11, c10S12, c10S13, c10S14, c10S15, c10S16, c10S17, c10S18, c10S19, c10S20, r10]
      refine Ret.mono (least_ok (h.below s10.bel (by decide)) (by omega) hkind hw hbud) ?_
      rintro u w11 ⟨⟨l', hs', hL⟩, b11⟩
      obtain rfl := Cut.sorts_unique (pure_ids hid) hs7 hs'
      rw [hsg] at hL
      have s11 := s10.call b11
      obtain ⟨ls', _, _, q3, q4, hC⟩ := least_run hF (by omega) hid hL
      obtain rfl := huq ls' q3 q4
      have fr := order_fin hF hid hbb hp hch 32768
      have fr : FoundR l (firstP kd) (E.map Prod.snd) (runF ls' (firstP kd) (left0 32768)) := fr
      have hbC := g3 budget
      have heC := g2 budget
      have lids : (runF ls' (firstP kd) (left0 32768)).2.ids.length ≤ 7 := by
        cases hok : (runF ls' (firstP kd) (left0 32768)).1 with
        | true =>
          obtain ⟨_, L, eL, _, _, hLl⟩ := fr.yes hok
          rw [eL, List.length_map]; omega
        | false => rw [runF_ids hok]; simp
      generalize (runF ls' (firstP kd) (left0 32768)).2.ids = ids at *
      generalize (runF ls' (firstP kd) (left0 32768)).1 = ok at *
      have b911 := Below.next b10 b11
      rcases hC with ⟨hC, rfl⟩ | ⟨hC, ka, kc, rfl, hka⟩
      · have hlt : budget < n := by
          rcases Int.lt_or_le budget n with h1 | h1
          · exact h1
          · have := hbC h1; omega
        simp (disch := first | omega | exact okFill_t rfl | exact okSize_t rfl | exact fun h => h | (simp only [World.size_alloc, World.size_drew, World.size_setCell, size_fill, bytesW]; omega)) only [go_sem, c10, c10S0, c10S1, c10S2, c10S3, c10S4, c10S5, c10S6, c10L0, c10S7, c10S8, c10S9, c10S10, c10S11, c10S12, c10S13, c10S14, c10S15, c10S16, c10S17, c10S18, c10S19, c10S20]
        refine Ret.mono (ints_ok _ _ ids ids _ (hia.below b911 (by decide)) (hja.below b11 (by decide)) (by omega)) ?_
        rintro _ w12 ⟨rfl, b12⟩
        rw [decide_eq_true rfl]
        simp (disch := first | omega | exact okFill_t rfl | exact okSize_t rfl | exact fun h => h | (simp only [World.size_alloc, World.size_drew, World.size_setCell, size_fill, bytesW]; omega)) only [go_sem, c10, c10S0, c10S1, c10S2, c10S3, c10S4, c10S5, c10S6, c10L0, c10S7, c10S8, c10S9, c10S10, c10S11, c10S12, c10S13, c10S14, c10S15, c10S16, c10S17, c10S18, c10S19, c10S20, hlt]
        refine Ret.mono (oawake_ok _) ?_
        rintro _ w13 ⟨rfl, b13⟩
        simp (disch := first | omega | exact okFill_t rfl | exact okSize_t rfl | exact fun h => h | (simp only [World.size_alloc, World.size_drew, World.size_setCell, size_fill, bytesW]; omega)) only [go_sem, c10, c10S0, c10S1, c10S2, c10S3, c10S4, c10S5, c10S6, c10L0, c10S7, c10S8, c10S9, c10S10, c10S11, c10S12, c10S13, c10S14, c10S15, c10S16, c10S17, c10S18, c10S19, c10S20]
        exact ((s11.call b12).call b13).bel
      · obtain ⟨e1, e2⟩ := heC hC
        rw [e1, e2]
        rw [e2] at hka
        simp (disch := first | omega | exact okFill_t rfl | exact okSize_t rfl | exact fun h => h | (simp only [World.size_alloc, World.size_drew, World.size_setCell, size_fill, bytesW]; omega)) only [go_sem, c10, c10S0, c10S1, c10S2, c10S3, c10S4, c10S5, c10S6, c10L0, c10S7, c10S8, c10S9, c10S10, c10S11, c10S12, c10S13, c10S14, c10S15, c10S16, c10S17, c10S18, c10S19, c10S20]
        refine Ret.mono (ints_ok _ _ ids ids _ (hia.below b911 (by decide)) (hja.below b11 (by decide)) (by omega)) ?_
        rintro _ w12 ⟨rfl, b12⟩
        rw [decide_eq_true rfl]
        simp (disch := first | omega | exact okFill_t rfl | exact okSize_t rfl | exact fun h => h | (simp only [World.size_alloc, World.size_drew, World.size_setCell, size_fill, bytesW]; omega)) only [go_sem, c10, c10S0, c10S1, c10S2, c10S3, c10S4, c10S5, c10S6, c10L0, c10S7, c10S8, c10S9, c10S10, c10S11, c10S12, c10S13, c10S14, c10S15, c10S16, c10S17, c10S18, c10S19, c10S20]
        refine Ret.mono (ints_ok _ _ ids ids _ (hka.below b12 (by decide)) (hia.below (Below.next b911 b12) (by decide)) (by omega)) ?_
        rintro _ w13 ⟨rfl, b13⟩
        rw [decide_eq_true rfl]
        simp (disch := first | omega | exact okFill_t rfl | exact okSize_t rfl | exact fun h => h | (simp only [World.size_alloc, World.size_drew, World.size_setCell, size_fill, bytesW]; omega)) only [go_sem, c10, c10S0, c10S1, c10S2, c10S3, c10S4, c10S5, c10S6, c10L0, c10S7, c10S8, c10S9, c10S10, c10S11, c10S12, c10S13, c10S14, c10S15, c10S16, c10S17, c10S18, c10S19, c10S20]
        refine Ret.mono (oawake_ok _) ?_
        rintro _ w14 ⟨rfl, b14⟩
        simp (disch := first | omega | exact okFill_t rfl | exact okSize_t rfl | exact fun h => h | (simp only [World.size_alloc, World.size_drew, World.size_setCell, size_fill, bytesW]; omega)) only [go_sem, c10, c10S0, c10S1, c10S2, c10S3, c10S4, c10S5, c10S6, c10L0, c10S7, c10S8, c10S9, c10S10, c10S11, c10S12, c10S13, c10S14, c10S15, c10S16, c10S17, c10S18, c10S19, c10S20]
        exact (((s11.call b12).call b13).call b14).bel
end Go.Proofs.Ytbeoedgoikcbpaa

namespace Go.Proofs.Ytbeoedgoikcbpaa
set_option linter.unusedSimpArgs false
set_option linter.unusedVariables false
set_option maxRecDepth 100000
open Go Go.Ann Go.RowKit Go.WideShapes
theorem orderBudget_law {H : Type} {enc : TypeId × Value → H} {w : World} {r : Reach} {b base : Nat} {sp : Nat → Bool} {hd : Bool} {v : Value} {d : DataW H} {p : List MemPlace} {budget : Int}
    (h : Value.okWide Try.prog w r b 24 v) (k : DataW.Trod enc Try.prog w base sp hd 24 v d p) (hb : I64 budget) :
    Ret Try.prog 10 [v, .int .i64 budget] w fun u w' => u = .bool true ∧ Below w.heap.size w w' := by
  obtain ⟨a, cs, rfl, lv, rfl, q1, q2, q3⟩ := Opens.struct_arg opens_Seg Try.underlying24 h k
  exact orderBudget_ok q1 q3 q2 hb
end Go.Proofs.Ytbeoedgoikcbpaa
