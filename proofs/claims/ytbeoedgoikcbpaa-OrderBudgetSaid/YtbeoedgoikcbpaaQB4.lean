/- Texts put together by program. -/
import Derived.Test.YtbeoedgoikcbpaaQB3
namespace Go.Proofs.Ytbeoedgoikcbpaa
set_option linter.unusedSimpArgs false
set_option linter.unusedVariables false
set_option maxRecDepth 100000
open Go Go.Ann Go.RowKit
theorem vs_old {W0 w : World} {F : Nat → Prop} {L : List Res} {I : List Inv} {E : List VS} (h : St W0 w F L I) (hE : ∀ p ∈ E, RdS W0 1 intE p.1 p.2) : St W0 w F L (Inv.vs E :: I) :=
  h.keep (Inv.vs E) (fun p hp => (hE p hp).below h.bel (by decide)) fun k hk => by
    obtain ⟨p, hp, hk⟩ := hk
    have hlt := (hE p hp).footLt (by decide) hk
    have := h.size
    exact ⟨by omega, fun hF => by have := (h.foot k hF).1; omega, fun r hr e => by have := ((h.res r hr).1.lt k e).1; omega⟩
theorem rsearch_ok {w : World} {l : List OpT} {lv ev : Value} {ob kd budget K : Int} {E : List VS} {M : Nat} (h : RdS w 11 OpT.enc lv l) (hn : l.length ≤ 16) (hK : ∀ o ∈ l, o.Kind = K) (hw : ∀ o ∈ l, o.wf) (hE : RowS w ev E) (hEl : E.length ≤ 50000) (hM : M ≤ 100000)
    (hEo : ∀ p ∈ E, Ok64 p.2 ∧ p.2.length ≤ M ∧ (K = 5 → p.2.Pairwise (· < ·))) (hb : I64 budget) :
    Ret Try.prog 16 [.agg #[.int .i64 ob, .int .i64 kd, lv], ev, .int .i64 budget] w fun u w' => (∃ U0 r, Uniq (E.map Prod.snd) U0 ∧ SearchR l (startP l.length U0) (min budget 32768) r ∧ SearchV w' l (E.map Prod.snd) U0 r u) ∧ Below w.heap.size w w' := by
  obtain ⟨la, lc, rfl, _⟩ := h.form
  refine ent16 _ _ _ _ _ ?_
  have s1 := ((St.start (W0 := w)).box #[.int .i64 ob, .int .i64 kd, .slice la l.length lc] 24).box #[.slice none 0 0, .slice none 0 0, .int .i64 0] 27
  rw [World.size_alloc] at s1
  have hn' : ¬ (16 : Int) < l.length := by omega
  obtain ⟨b, hbd⟩ : ∃ b : Int, b = if budget < 0 then -1 else min budget 32768 := ⟨_, rfl⟩
  have hb32 : b ≤ 32768 := by rw [hbd]; split <;> omega
  have s2 := vs_old (s1.old h (by decide)) hE.rd
  have r2 := s2.rules 1 rfl
  have key : W Try.prog (sg c16S8) [(1, ev), (2, .int .i64 b), (3, .pointer (some ⟨w.heap.size, 0, none⟩)), (6, .pointer (some ⟨w.heap.size + 1, 0, none⟩))]
      ((w.alloc (.cells #[.int .i64 ob, .int .i64 kd, .slice la l.length lc] 24)).alloc (.cells #[.slice none 0 0, .slice none 0 0, .int .i64 0] 27))
      (finQ Try.prog [.cell 6 27, .tmp 7] fun u w' => (∃ U0 r, Uniq (E.map Prod.snd) U0 ∧ SearchR l (startP l.length U0) (min budget 32768) r ∧ SearchV w' l (E.map Prod.snd) U0 r u) ∧ Below w.heap.size w w') := by
    generalize (w.alloc (.cells #[.int .i64 ob, .int .i64 kd, .slice la l.length lc] 24)).alloc (.cells #[.slice none 0 0, .slice none 0 0, .int .i64 0] 27) = w2 at s2 r2 ⊢
    clear s1
    generalize hrr : w.heap.size + 1 = rr at s2 ⊢
    simp (disch := first | omega | exact okFill_t rfl | exact okSize_t rfl | exact fun h => h | (simp only [World.size_alloc, World.size_drew, World.size_setCell, size_fill, bytesW]; omega)) only [go_sem, c16, c16S0, c16S1, c16S2, c16L0, c16S3, c16S4, c16S5, c16S6, c16S7, c16S8, c16S9, c16S10, r2]
    refine Ret.mono (spots_ok (K := K) (M := M) s2 (hE.below s2.bel) (fun p hp => hp) hn hK hw hEl hM hEo hb32) ?_
    rintro ov w3 ⟨U0, Q, D, B, m, hU0, s3, gQ, dQ, hQl, hQR⟩
    obtain ⟨oa, oc, rfl, _⟩ := own_slice (s3.row 0 rfl)
    simp (disch := first | omega | exact okFill_t rfl | exact okSize_t rfl | exact fun h => h | (simp only [World.size_alloc, World.size_drew, World.size_setCell, size_fill, bytesW]; omega)) only [go_sem, c16, c16S0, c16S1, c16S2, c16L0, c16S3, c16S4, c16S5, c16S7, c16S8, c16S9, c16S10]
    have q3 := s3.rules 2 rfl
    refine ⟨fun ho => ?_, fun ho => ?_⟩
    · refine bdW_built (cells := #[.slice none 0 0, .slice none 0 0, .int .i64 0]) (by kernel_rfl) ?_
      simp (disch := first | omega | exact okFill_t rfl | exact okSize_t rfl | exact fun h => h | (simp only [World.size_alloc, World.size_drew, World.size_setCell, size_fill, bytesW]; omega)) only [go_sem, c16, c16S0, c16S1, c16S2, c16L0, c16S3, c16S4, c16S5, c16S6, c16S7, c16S8, c16S9, c16S10, q3]
      refine ⟨⟨U0, none, hU0, ?_, rfl⟩, (s3.fill 2 rfl (cs := #[.slice none 0 0, .slice none 0 0, .int .i64 0]) rfl).bel⟩
      rcases hQR with ⟨h1, N, h2⟩ | ⟨h1, h2⟩
      · refine ⟨N, ?_⟩
        rw [hbd] at h2
        split at h2 <;> omega
      · omega
    · have hR : SearchR l (startP l.length U0) (min budget 32768) (some (Q.map rsP)) := by
        rcases hQR with ⟨h1, _⟩ | ⟨h1, h2, h3⟩
        · omega
        · refine ⟨h2, ?_⟩
          rw [hbd] at h3
          split at h3
          · rw [List.length_map] at h3; omega
          · exact h3
      simp (disch := first | omega | exact okFill_t rfl | exact okSize_t rfl | exact fun h => h | (simp only [World.size_alloc, World.size_drew, World.size_setCell, size_fill, bytesW]; omega)) only [go_sem, c16, c16S0, c16S1, c16S2, c16L0, c16S3, c16S4, c16S5, c16S6, c16S7, c16S8, c16S9, c16S10]
      refine Ret.mono (sorted_ok _ E w3 (hE.below s3.bel) (fun p hp => ⟨(hEo p hp).1, by have := (hEo p hp).2.1; omega⟩) (by omega)) ?_
      rintro uv w4 ⟨⟨U, hU, hUE, hrow⟩, b4⟩
      have s4 := s3.add b4 (.row uv 36 1 U.length (U.map Prod.fst)) (own_mono hrow s3.size) (fun k hk => (World.ownsRow.lt hrow k hk).1)
      obtain ⟨ua, uc, rfl, _⟩ := own_slice hrow
      simp (disch := first | omega | exact okFill_t rfl | exact okSize_t rfl | exact fun h => h | (simp only [World.size_alloc, World.size_drew, World.size_setCell, size_fill, bytesW]; omega)) only [go_sem, c16, c16S0, c16S1, c16S2, c16L0, c16S3, c16S4, c16S5, c16S6, c16S7, c16S8, c16S9, c16S10]
      refine bdW_built (cells := #[.slice ua U.length uc, .slice none 0 0, .int .i64 Q.length]) (by kernel_rfl) ?_
      simp (disch := first | omega | exact okFill_t rfl | exact okSize_t rfl | exact fun h => h | (simp only [World.size_alloc, World.size_drew, World.size_setCell, size_fill, bytesW]; omega)) only [go_sem, c16, c16S0, c16S1, c16S2, c16L0, c16S3, c16S5, c16S6, c16S7, c16S8, c16S9, c16S10]
      have s5 := (s4.box #[.slice ua U.length uc, .slice none 0 0, .int .i64 Q.length] 27).nilRow 36 1
      generalize w4.alloc (.cells #[.slice ua U.length uc, .slice none 0 0, .int .i64 Q.length] 27) = w5 at s5 ⊢
      generalize w4.heap.size = z at s5 ⊢
      refine W_loopU (fun x : Nat × Value × List VS => [(10, .int .i64 x.1)]) (fun x w' => St w w' (fun _ => False) (.row x.2.1 36 1 x.2.2.length (x.2.2.map Prod.fst) :: .blk z #[.slice ua U.length uc, x.2.1, .int .i64 Q.length] 27 :: .row (.slice ua U.length uc) 36 1 U.length (U.map Prod.fst) :: (RL m (.slice oa Q.length oc) Q ++ [Res.blk rr #[.slice none 0 0, .slice none 0 0, .int .i64 0] 27, Res.blk w.heap.size #[.int .i64 ob, .int .i64 kd, .slice la l.length lc] 24])) [Inv.vs D, Inv.bs B, Inv.rd 11 OpT.enc (.slice la l.length lc) l] ∧ x.1 ≤ Q.length ∧ (∀ p ∈ x.2.2, p ∈ D) ∧ x.2.2.map Prod.snd = (((Q.map rsP).take x.1).filter fun p => fullP l p.1).map Prod.snd) (fun x => Q.length - x.1) (0, .slice none 0 0, []) rfl ⟨s5, Nat.zero_le _, (fun p hp => by cases hp), by simp⟩ ?_
      rintro ⟨i, xv, X⟩ w6 ⟨s6, hi, hX, eX⟩
      simp only at s6 hi hX eX
      obtain ⟨xa, xc, rfl, _⟩ := own_slice (s6.row 0 rfl)
      have hXl : X.length ≤ i := by
        have e1 := congrArg List.length eX
        have e2 := List.length_filter_le (fun p : Spot => fullP l p.1) ((Q.map rsP).take i)
        simp only [List.length_map, List.length_take] at e1 e2
        omega
      by_cases hlt : i < Q.length
      · have hlt' : (i : Int) < Q.length := by omega
        obtain ⟨g, rfl⟩ := own_ptr (s6.row 3 rfl) (by omega)
        have ee := (RdS.of_own' (enc := rsE) (s6.row 3 rfl) Q rfl rfl).elt (fun _ => rfl) (by decide) hlt
        have hmemQ : Q[i] ∈ Q := List.getElem_mem hlt
        have gi := gQ _ hmemQ
        have di := dQ _ hmemQ
        obtain ⟨⟨dv, sv, d, s⟩, hri⟩ : ∃ q, Q[i] = q := ⟨_, rfl⟩
        rw [hri, Addr.add_lit, Nat.zero_add] at ee
        rw [hri] at gi di
        have e0 : w6.cell? ⟨g, i * 2, none⟩ = some dv := ee.1
        have e1 : w6.cell? ⟨g, i * 2 + 1, none⟩ = some sv := by
          have := ee.2 1 (by decide) (by decide)
          simp only [Nat.zero_add] at this
          exact this
        have hdv : RdS w6 1 boolE dv d := (s6.inv (Inv.bs B) (by simp)).1 _ di.2
        have hsv : RdS w6 1 intE sv s := (s6.inv (Inv.vs D) (by simp)).1 _ di.1
        obtain ⟨da, dc, rfl, _⟩ := hdv.form
        obtain ⟨sa, sc, rfl, _⟩ := hsv.form
        have lg : g < w6.heap.size := World.block_lt_of_cell? w6 ⟨g, i * 2, none⟩ e0
        have rs := s6.rules 6 rfl
        have ls := (s6.low 6 rfl).2
        have hl6 : RdS w6 11 OpT.enc (.slice la l.length lc) l := s6.rd 2 rfl
        simp (disch := first | omega | exact okFill_t rfl | exact okSize_t rfl | exact fun h => h | (simp only [World.size_alloc, World.size_drew, World.size_setCell, size_fill, bytesW]; omega)) only [go_sem, c16, c16S0, c16S1, c16S2, c16L0, c16S3, c16S4, c16S5, c16S6, c16S7, c16S8, c16S9, c16S10, c16L0, hlt']
        refine c16draw0 (Chg (fun _ => False) _) (Chg.refl _ _) ?_
        simp (disch := first | omega | exact okFill_t rfl | exact okSize_t rfl | exact fun h => h | (simp only [World.size_alloc, World.size_drew, World.size_setCell, size_fill, bytesW]; omega)) only [go_sem, c16, c16S0, c16S1, c16S2, c16L0, c16S3, c16S4, c16S5, c16S6, c16S7, c16S8, c16S9, c16S10, c16D0, e0, rs]
        have hb6 : Below w6.heap.size w6 w6.drew := (Below.refl _ w6).drew
        refine ⟨⟨by omega, by omega⟩, Ret.mono (rfull_ok (hl6.below hb6 (by decide)) (hdv.below hb6 (by decide)) gi.len hn) ?_⟩
        rintro _ _ ⟨rfl, rfl⟩
        have s7 := s6.drew
        have tk7 : (Q.map rsP).take (i + 1) = (Q.map rsP).take i ++ [(d, s)] := by
          rw [List.take_succ_eq_append_getElem (by rw [List.length_map]; exact hlt), List.getElem_map, hri]; rfl
        cases hfu : fullP l d with
        | false =>
          simp (disch := first | omega | exact okFill_t rfl | exact okSize_t rfl | exact fun h => h | (simp only [World.size_alloc, World.size_drew, World.size_setCell, size_fill, bytesW]; omega)) only [go_sem, c16, c16S0, c16S1, c16S2, c16L0, c16S3, c16S4, c16S5, c16S6, c16S7, c16S8, c16S9, c16S10, c16D0]
          refine ⟨⟨by omega, by omega⟩, (i + 1, .slice xa X.length xc, X), rfl, ⟨s7, by simp only; omega, hX, ?_⟩, by simp only; omega⟩
          simp only
          rw [tk7, List.filter_append, List.map_append, eX]
          simp [hfu]
        | true =>
          have e1' : w6.drew.cell? ⟨g, i * 2 + 1, none⟩ = some (.slice sa s.length sc) := e1
          have z6 := s6.rules 1 rfl
          have lz := (s6.low 1 rfl).2
          have lg' : g < w6.drew.heap.size := lg
          simp (disch := first | omega | exact okFill_t rfl | exact okSize_t rfl | exact fun h => h | (simp only [World.size_alloc, World.size_drew, World.size_setCell, size_fill, bytesW]; omega)) only [go_sem, c16, c16S0, c16S1, c16S2, c16L0, c16S3, c16S4, c16S5, c16S6, c16S7, c16S8, c16S9, c16S10, c16D0]
          refine c16draw1 (Chg (fun _ => False) _) (Chg.refl _ _) ?_
          have hgz : g ≠ z := fun e => s6.ne 1 3 rfl rfl (by decide) (k := z) rfl (by rw [e]; rfl)
          simp (disch := first | omega | exact okFill_t rfl | exact okSize_t rfl | exact fun h => h | (simp only [World.size_alloc, World.size_drew, World.size_setCell, size_fill, bytesW]; omega)) only [go_sem, c16, c16S0, c16S1, c16S2, c16L0, c16S3, c16S4, c16S5, c16S6, c16S7, c16S8, c16S9, c16S10, c16D1, e1, z6]
          refine ⟨⟨by omega, by omega⟩, ?_⟩
          refine bsW_ones ty25mkI rfl rfl (by decide) (by decide) (by intro v hv; rw [List.mem_singleton] at hv; subst hv; rfl) ?_
          simp (disch := first | omega | exact okFill_t rfl | exact okSize_t rfl | exact fun h => h | (simp only [World.size_alloc, World.size_drew, World.size_setCell, size_fill, bytesW]; omega)) only [go_sem, c16, c16S0, c16S1, c16S2, c16L0, c16S3, c16S4, c16S5, c16S6, c16S7, c16S8, c16S9, c16S10, c16D1]
          have hx : Rd (w6.drew.drew.alloc (.cells #[.slice sa s.length sc] 36)) 1 (.slice (some ⟨w6.drew.drew.heap.size, 0, none⟩) 1 1) 1 [.slice sa s.length sc] := rd_new (n := 1) (cs := #[.slice sa s.length sc]) rfl
          have s8 := (s7.drew.alloc' (.cells #[.slice sa s.length sc] 36))
          refine ⟨Chg.of_below ((Below.refl _ _).alloc (Nat.le_refl _) _), s8.append 0 rfl ty25mkI rfl (by decide) hx (by intro v hv; rw [List.mem_singleton] at hv; subst hv; rfl) (by omega) (by omega) ?_⟩
          intro v9 w9 s9 c9
          simp only [List.set_cons_zero] at s9
          obtain ⟨a9, d9, rfl, _⟩ := own_slice (s9.row 0 rfl)
          have z9 := s9.rules 1 rfl
          simp (disch := first | omega | exact okFill_t rfl | exact okSize_t rfl | exact fun h => h | (simp only [World.size_alloc, World.size_drew, World.size_setCell, size_fill, bytesW]; omega)) only [go_sem, c16, c16S0, c16S1, c16S2, c16L0, c16S3, c16S4, c16S5, c16S6, c16S7, c16S8, c16S9, c16S10, c16D1, z9]
          have s10 := s9.set 1 rfl 1 (.slice a9 (X.length + 1) d9)
          simp only [List.set_cons_zero, List.set_cons_succ] at s10
          have ex : X.length + 1 = (X ++ [((Value.slice sa s.length sc : Value), s)]).length := by simp
          have ey : X.map Prod.fst ++ [Value.slice sa s.length sc] = (X ++ [((Value.slice sa s.length sc : Value), s)]).map Prod.fst := by simp
          rw [ex, ey] at s10
          rw [ex]
          refine ⟨⟨by omega, by omega⟩, (i + 1, .slice a9 (X ++ [((Value.slice sa s.length sc : Value), s)]).length d9, X ++ [((Value.slice sa s.length sc : Value), s)]), rfl, ⟨s10, by simp only; omega, fun p hp => ?_, ?_⟩, by simp only; omega⟩
          · rcases List.mem_append.1 hp with hp | hp
            · exact hX p hp
            · rw [List.mem_singleton] at hp; subst hp; exact di.1
          · simp only
            rw [tk7, List.filter_append, List.map_append, List.map_append, eX]
            simp [hfu]
      · have hlt' : ¬ (i : Int) < Q.length := by omega
        simp (disch := first | omega | exact okFill_t rfl | exact okSize_t rfl | exact fun h => h | (simp only [World.size_alloc, World.size_drew, World.size_setCell, size_fill, bytesW]; omega)) only [go_sem, c16, c16S0, c16S1, c16S2, c16L0, c16S3, c16S5, c16S6, c16S7, c16S8, c16S9, c16S10, c16L0, hlt']
        have hD6 := s6.inv (Inv.vs D) (by simp)
        have hXr : RowS w6 (.slice xa X.length xc) X := ⟨Rd.of_own (s6.row 0 rfl), fun p hp => hD6.1 p (hX p hp)⟩
        have eX' : X.map Prod.snd = ((Q.map rsP).filter fun p => fullP l p.1).map Prod.snd := by
          rw [eX, List.take_of_length_le (by rw [List.length_map]; omega)]
        have hXo : ∀ p ∈ X, OkS p.2 := fun p hp => by
          have : p.2 ∈ X.map Prod.snd := List.mem_map.2 ⟨p, hp, rfl⟩
          rw [eX'] at this
          obtain ⟨q, hq, e⟩ := List.mem_map.1 this
          obtain ⟨t, ht, rfl⟩ := List.mem_map.1 (List.mem_filter.1 hq).1
          rw [← e]
          exact (gQ t ht).okS (by omega)
        have z6 := s6.rules 1 rfl
        simp (disch := first | omega | exact okFill_t rfl | exact okSize_t rfl | exact fun h => h | (simp only [World.size_alloc, World.size_drew, World.size_setCell, size_fill, bytesW]; omega)) only [go_sem, c16, c16S0, c16S1, c16S2, c16L0, c16S3, c16S4, c16S5, c16S6, c16S7, c16S8, c16S9, c16S10, z6]
        refine Ret.mono (sorted_ok _ X w6 hXr hXo (by omega)) ?_
        rintro xv w7 ⟨⟨V, hV, hVX, hrowV⟩, b7⟩
        have s7 := s6.add b7 (.row xv 36 1 V.length (V.map Prod.fst)) (own_mono hrowV s6.size) (fun k hk => (World.ownsRow.lt hrowV k hk).1)
        obtain ⟨va, vc, rfl, _⟩ := own_slice hrowV
        have z7 := s7.rules 2 rfl
        have q7 := s7.rules 6 rfl
        have lzr : z ≠ rr := fun e => s7.ne 2 6 rfl rfl (by decide) (k := z) rfl (by rw [e]; rfl)
        simp (disch := first | omega | exact okFill_t rfl | exact okSize_t rfl | exact fun h => h | (simp only [World.size_alloc, World.size_drew, World.size_setCell, size_fill, bytesW]; omega)) only [go_sem, c16, c16S0, c16S1, c16S2, c16L0, c16S3, c16S4, c16S5, c16S6, c16S7, c16S8, c16S9, c16S10, z7, q7]
        have s8 := (s7.set 2 rfl 1 (.slice va V.length vc)).fill 6 rfl (cs := #[.slice ua U.length uc, .slice va V.length vc, .int .i64 Q.length]) rfl
        have eQ : Q.length = (Q.map rsP).length := by simp
        have hD8 := s8.inv (Inv.vs D) (by simp)
        refine ⟨⟨U.map Prod.snd, some (Q.map rsP), hU, by rw [hU.one hU0]; exact hR, .slice ua U.length uc, .slice va V.length vc, U, V, by rw [← eQ], ⟨Rd.of_own (s8.row 3 rfl), fun p hp => (hE.rd p (hUE p hp)).below s8.bel (by decide)⟩, rfl, ⟨Rd.of_own (s8.row 0 rfl), fun p hp => hD8.1 p (hX p (hVX p hp))⟩, ?_⟩, s8.bel⟩
        rw [← eX']; exact hV
  simp (disch := first | omega | exact okFill_t rfl | exact okSize_t rfl | exact fun h => h | (simp only [World.size_alloc, World.size_drew, World.size_setCell, size_fill, bytesW]; omega)) only [go_sem, c16, c16S0, c16S1, c16S2, c16L0, c16S3, c16S4, c16S5, c16S6, c16S7, c16S9, c16S10, hn']
  refine ⟨fun h0 => ?_, fun h0 => ⟨fun h1 => ?_, fun h1 => ?_⟩⟩
  · have e : b = -1 := by rw [hbd, if_pos h0]
    rw [e] at key; exact key
  · have e : b = 32768 := by rw [hbd, if_neg (by omega)]; omega
    rw [e] at key; exact key
  · have e : b = budget := by rw [hbd, if_neg (by omega)]; omega
    rw [e] at key; exact key
end Go.Proofs.Ytbeoedgoikcbpaa

namespace Go.Proofs.Ytbeoedgoikcbpaa
set_option linter.unusedSimpArgs false
set_option linter.unusedVariables false
set_option maxRecDepth 100000
open Go Go.Ann Go.RowKit Go.WideShapes
structure Seg where
  obj : Int
  kind : Int
  ops : List OpT
set_option maxRecDepth 100000 in
theorem opens_Seg : Opens Try.prog 24 (fun w (s : Seg) cs => ∃ v, cs = [.int .i64 s.obj, .int .i64 s.kind, v] ∧ RdS w 11 OpT.enc v s.ops ∧ (∀ x ∈ s.ops, x.wf) ∧ (s.ops.length : Int) ≤ 9223372036854775807) := by
  intro H enc w base sp hd fuel cs x hx
  obtain ⟨hl, hf⟩ := opens_fields Try.underlying24 hx
  rw [show Try.prog.cellsOf 24 = 3 by kernel_rfl] at hl
  have c_0 : Try.prog.cellsOf 3 = 1 := by kernel_rfl
  have c_1 : Try.prog.cellsOf 22 = 1 := by kernel_rfl
  match cs, hl with
  | [v0, v1, v2], _ =>
    obtain ⟨n0, y0, g0⟩ := hf 0 _ rfl
    have h0 : DataW.trod enc Try.prog w base sp hd n0 3 (List.take (Try.prog.cellsOf 3) [v0, v1, v2]) = some y0 := g0
    rw [c_0] at h0
    obtain ⟨a0, e0⟩ := opens_int Try.underlying3 enc w base sp hd n0 [v0] y0 h0
    have r0 : v0 = _ := (List.cons.inj e0.1).1
    obtain ⟨n1, y1, g1⟩ := hf 1 _ rfl
    have h1 : DataW.trod enc Try.prog w base sp hd n1 3 (List.take (Try.prog.cellsOf 3) [v1, v2]) = some y1 := g1
    rw [c_0] at h1
    obtain ⟨a1, e1⟩ := opens_int Try.underlying3 enc w base sp hd n1 [v1] y1 h1
    have r1 : v1 = _ := (List.cons.inj e1.1).1
    obtain ⟨n2, y2, g2⟩ := hf 2 _ rfl
    have h2 : DataW.trod enc Try.prog w base sp hd n2 22 (List.take (Try.prog.cellsOf 22) [v2]) = some y2 := g2
    rw [c_1] at h2
    obtain ⟨a2, w2, e2, q2⟩ := opens_Ops enc w base sp hd n2 [v2] y2 h2
    have r2 : v2 = w2 := (List.cons.inj e2).1
    exact ⟨⟨a0, a1, a2⟩, w2, by rw [r0, r1, r2], q2⟩
end Go.Proofs.Ytbeoedgoikcbpaa

namespace Go.Proofs.Ytbeoedgoikcbpaa
set_option linter.unusedSimpArgs false
set_option linter.unusedVariables false
set_option maxRecDepth 100000
open Go Go.Ann Go.RowKit
def Tells (u : Value) (p : Prop) : Prop := ∃ b, u = .bool b ∧ (b = true → p)
theorem tells_t {p : Prop} (h : p) : Tells (.bool true) p := ⟨true, rfl, fun _ => h⟩
theorem tells_f {p : Prop} : Tells (.bool false) p := ⟨false, rfl, fun h => by cases h⟩
theorem alike_ok {w : World} {ob kd : Int} {lv : Value} {l : List OpT} (h : RdS w 11 OpT.enc lv l) (hl : l.length ≤ 1000000) :
    Ret Try.prog 35 [.agg #[.int .i64 ob, .int .i64 kd, lv]] w fun u w' => Tells u (∀ o ∈ l, o.Kind = kd) ∧ Below w.heap.size w w' := by
  obtain ⟨la, lc, rfl, _⟩ := h.form
  refine ent35 _ _ _ ?_
  simp (disch := first | omega | exact okFill_t rfl | exact okSize_t rfl | exact fun h => h | (simp only [World.size_alloc, World.size_drew, World.size_setCell, size_fill, bytesW]; omega)) only [go_sem, c35, c35S0, c35S1, c35S2, c35L0, c35S3]
  have s1 := (St.start (W0 := w)).box #[.int .i64 ob, .int .i64 kd, .slice la l.length lc] 24
  generalize w.alloc (.cells #[.int .i64 ob, .int .i64 kd, .slice la l.length lc] 24) = w1 at s1 ⊢
  refine W_loopU (fun k : Nat => [(3, .int .i64 k)]) (fun k w' => Below w1.heap.size w1 w' ∧ k ≤ l.length ∧ ∀ o ∈ l.take k, o.Kind = kd) (fun k => l.length - k) 0 rfl ⟨Below.refl _ _, Nat.zero_le _, by simp⟩ ?_
  rintro k w2 ⟨b2, hk, hall⟩
  have s2 := s1.call b2
  have r2 := s2.rules 0 rfl
  by_cases hlt : k < l.length
  · have hlt' : (k : Int) < l.length := by omega
    obtain ⟨p, rfl⟩ := h.ptr (by omega)
    have eo := (h.below s2.bel (by decide)).elt OpT.len (by decide) hlt
    have ho := l[k].at
    simp (disch := first | omega | exact okFill_t rfl | exact okSize_t rfl | exact fun h => h | (simp only [World.size_alloc, World.size_drew, World.size_setCell, size_fill, bytesW]; omega)) only [go_sem, c35, c35S0, c35S1, c35S2, c35L0, c35S3, c35L0, hlt', r2]
    refine c35draw0 ?_
    simp (disch := first | omega | exact okFill_t rfl | exact okSize_t rfl | exact fun h => h | (simp only [World.size_alloc, World.size_drew, World.size_setCell, size_fill, bytesW]; omega)) only [go_sem, c35, c35S0, c35S1, c35S2, c35L0, c35S3, c35D0, r2, eo, ho]
    refine ⟨by omega, fun hne => ⟨tells_f, s2.drew.bel⟩, fun heq => ⟨⟨by omega, by omega⟩, k + 1, rfl, ⟨b2.drew, by omega, fun o ho => ?_⟩, by omega⟩⟩
    rw [List.take_succ_eq_append_getElem hlt, List.mem_append, List.mem_singleton] at ho
    rcases ho with ho | rfl
    · exact hall o ho
    · exact heq
  · have hlt' : ¬ (k : Int) < l.length := by omega
    simp (disch := first | omega | exact okFill_t rfl | exact okSize_t rfl | exact fun h => h | (simp only [World.size_alloc, World.size_drew, World.size_setCell, size_fill, bytesW]; omega)) only [go_sem, c35, c35S0, c35S1, c35S2, c35L0, c35S3, c35L0, hlt', r2]
    rw [List.take_of_length_le (by omega)] at hall
    exact ⟨tells_t hall, s2.bel⟩
end Go.Proofs.Ytbeoedgoikcbpaa

namespace Go.Proofs.Ytbeoedgoikcbpaa
set_option linter.unusedSimpArgs false
set_option linter.unusedVariables false
set_option maxRecDepth 100000
open Go Go.Ann Go.RowKit
def newAt (l : List OpT) (p : Spot) (k : Nat) : List Spot :=
  match l[k]? with
  | none => []
  | some o => if mayP l p.1 k o then (match stepP p.2 o with
    | some s => [(p.1.set k true, s)]
    | none => []) else []
def nextL (l : List OpT) (p : Spot) : Nat → List Spot
  | 0 => []
  | k + 1 => nextL l p k ++ newAt l p k
theorem goP_eq (l : List OpT) (p : Spot) (t : List Spot) (k : Nat) : goP l p t k = (match newAt l p k with | [] => t | q :: _ => addP t q) := by
  unfold goP newAt
  cases l[k]? with
  | none => rfl
  | some o =>
    simp only
    cases mayP l p.1 k o with
    | false => rfl
    | true =>
      simp only [if_true]
      cases stepP p.2 o <;> rfl
theorem newAt_one (l : List OpT) (p : Spot) (k : Nat) : newAt l p k = [] ∨ ∃ q, newAt l p k = [q] := by
  unfold newAt
  split
  · exact .inl rfl
  · split
    · split
      · exact .inr ⟨_, rfl⟩
      · exact .inl rfl
    · exact .inl rfl
theorem addP_mem {t : List Spot} {p q : Spot} : q ∈ addP t p ↔ q ∈ t ∨ q = p := by
  unfold addP
  split
  · rename_i h
    exact ⟨.inl, fun h' => h'.elim id fun e => by rw [e]; exact h⟩
  · rw [List.mem_append, List.mem_singleton]
theorem roundK_mem {l : List OpT} {p : Spot} {t : List Spot} {q : Spot} : ∀ k, q ∈ roundK l p t k ↔ q ∈ t ∨ q ∈ nextL l p k
  | 0 => by simp [roundK, nextL]
  | k + 1 => by
    have ih := roundK_mem (l := l) (p := p) (t := t) (q := q) k
    rw [roundK, nextL, List.mem_append, goP_eq]
    rcases newAt_one l p k with e | ⟨r, e⟩
    · rw [e, ih]; simp
    · rw [e]
      simp only
      rw [addP_mem, ih, List.mem_singleton, or_assoc]
inductive Rch (l : List OpT) : Spot → Spot → Prop
  | refl (p : Spot) : Rch l p p
  | step {p q r : Spot} : Rch l p q → r ∈ nextL l q l.length → Rch l p r
theorem Rch.head {l : List OpT} {p q r : Spot} (h : q ∈ nextL l p l.length) (k : Rch l q r) : Rch l p r := by
  induction k with
  | refl => exact .step (.refl _) h
  | step _ hs ih => exact .step ih hs
theorem Rch.trans {l : List OpT} {p q r : Spot} (h : Rch l p q) (k : Rch l q r) : Rch l p r := by
  induction k with
  | refl => exact h
  | step _ hs ih => exact .step ih hs
theorem Rch.cases_head {l : List OpT} {p r : Spot} (h : Rch l p r) : p = r ∨ ∃ q ∈ nextL l p l.length, Rch l q r := by
  induction h with
  | refl => exact .inl rfl
  | step h1 hs ih =>
    rcases ih with rfl | ⟨q, hq, hr⟩
    · exact .inr ⟨_, hs, .refl _⟩
    · exact .inr ⟨q, hq, .step hr hs⟩
theorem bfsN_rch {l : List OpT} {t0 : List Spot} : ∀ N, ∀ q ∈ bfsN l t0 N, ∃ p ∈ t0, Rch l p q
  | 0 => fun q hq => ⟨q, hq, .refl q⟩
  | N + 1 => by
    intro q hq
    rw [bfsN] at hq
    split at hq
    · rename_i p hp
      rcases (roundK_mem _).1 hq with hq | hq
      · exact bfsN_rch N q hq
      · obtain ⟨p0, h0, hr⟩ := bfsN_rch N p (List.mem_of_getElem? hp)
        exact ⟨p0, h0, .step hr hq⟩
    · exact bfsN_rch N q hq
theorem bfsN_done {l : List OpT} {t0 : List Spot} : ∀ {N i : Nat} {p : Spot}, i < N → (bfsN l t0 N)[i]? = some p → ∀ q ∈ nextL l p l.length, q ∈ bfsN l t0 N
  | 0, i, p, h, _ => by omega
  | N + 1, i, p, h, hp => by
    intro q hq
    have hpre := bfsN_step l t0 N
    rcases Nat.lt_or_ge i N with hi | hi
    · by_cases hl : i < (bfsN l t0 N).length
      · have hp' : (bfsN l t0 N)[i]? = some p := by
          obtain ⟨t, ht⟩ := hpre
          rw [← ht, List.getElem?_append_left hl] at hp
          exact hp
        exact hpre.subset (bfsN_done hi hp' q hq)
      · have hc : bfsN l t0 (N + 1) = bfsN l t0 N := bfsN_closed (by omega) (by omega)
        rw [hc, List.getElem?_eq_none (by omega)] at hp
        cases hp
    · obtain rfl : i = N := by omega
      by_cases hl : i < (bfsN l t0 i).length
      · have hp' : (bfsN l t0 i)[i]? = some p := by
          obtain ⟨t, ht⟩ := hpre
          rw [← ht, List.getElem?_append_left hl] at hp
          exact hp
        rw [bfsN, hp']
        exact (roundK_mem _).2 (.inr hq)
      · have hc : bfsN l t0 (i + 1) = bfsN l t0 i := bfsN_closed (by omega) (by omega)
        rw [hc, List.getElem?_eq_none (by omega)] at hp
        cases hp
theorem closed_mem {l : List OpT} {t0 T : List Spot} (h : ∃ N, bfsN l t0 N = T ∧ T.length ≤ N) (q : Spot) : q ∈ T ↔ ∃ p ∈ t0, Rch l p q := by
  obtain ⟨N, rfl, hN⟩ := h
  refine ⟨bfsN_rch N q, ?_⟩
  rintro ⟨p, hp, hr⟩
  induction hr with
  | refl => exact (bfsN_mono l t0 (Nat.zero_le N)).subset hp
  | step _ hs ih =>
    obtain ⟨i, hi, e⟩ := List.mem_iff_getElem.1 ih
    exact bfsN_done (i := i) (N := N) (Nat.lt_of_lt_of_le hi hN) (by rw [List.getElem?_eq_getElem hi, e]) _ hs
theorem exits_mem {l : List OpT} {T : List Spot} {X : List (List Int)} (h : Uniq ((T.filter fun p => fullP l p.1).map Prod.snd) X) (s : List Int) : s ∈ X ↔ ∃ d, (d, s) ∈ T ∧ fullP l d = true := by
  rw [h.2 s, List.mem_map]
  constructor
  · rintro ⟨⟨d, s'⟩, hp, rfl⟩
    obtain ⟨h1, h2⟩ := List.mem_filter.1 hp
    exact ⟨d, h1, h2⟩
  · rintro ⟨d, h1, h2⟩
    exact ⟨(d, s), List.mem_filter.2 ⟨h1, h2⟩, rfl⟩
theorem RowS.ones {w : World} {v : Value} {D : List VS} (h : RowS w v D) : ∀ u ∈ D.map Prod.fst, u.oneCell' = true := fun u hu => by
  obtain ⟨p, hp, rfl⟩ := List.mem_map.1 hu
  obtain ⟨a, c, e, _⟩ := (h.rd p hp).form
  rw [e]; rfl
theorem SearchV.form {w' : World} {l : List OpT} {E U0 : List (List Int)} {r : Option (List Spot)} {u : Value} (h : SearchV w' l E U0 r u) : ∃ ya yn yc xa xn xc nn ue, u = .tuple #[.agg #[.slice ya yn yc, .slice xa xn xc, .int .i64 nn], .int .i64 ue] ∧ (ue = if r.isSome then 0 else 35) := by
  cases r with
  | none => exact ⟨_, _, _, _, _, _, _, _, h, rfl⟩
  | some T =>
    obtain ⟨_, _, _, _, e, g1, _, g2, _⟩ := h
    obtain ⟨_, _, rfl, _⟩ := g1.form
    obtain ⟨_, _, rfl, _⟩ := g2.form
    exact ⟨_, _, _, _, _, _, _, _, e, rfl⟩
theorem SearchV.some {w' : World} {l : List OpT} {E U0 : List (List Int)} {T : List Spot} {ya xa : Option Addr} {yn yc xn xc : Nat} {nn ue : Int} (h : SearchV w' l E U0 (some T) (.tuple #[.agg #[.slice ya yn yc, .slice xa xn xc, .int .i64 nn], .int .i64 ue])) :
    ue = 0 ∧ nn = T.length ∧ ∃ U X, RowS w' (.slice ya yn yc) U ∧ U.map Prod.snd = U0 ∧ RowS w' (.slice xa xn xc) X ∧ Uniq ((T.filter fun p => fullP l p.1).map Prod.snd) (X.map Prod.snd) := by
  obtain ⟨uv, xv, U, X, e, h1, h2, h3, h4⟩ := h
  simp only [Value.tuple.injEq, Array.mk.injEq, List.cons.injEq, Value.agg.injEq, Value.int.injEq, true_and, and_true] at e
  obtain ⟨⟨rfl, rfl, rfl⟩, rfl⟩ := e
  exact ⟨rfl, rfl, U, X, h1, h2, h3, h4⟩
theorem Uniq.len {T : List Spot} {l : List OpT} {X : List VS} (h : Uniq ((T.filter fun p => fullP l p.1).map Prod.snd) (X.map Prod.snd)) : X.length ≤ T.length := by
  have h1 := uniq_le h
  have h2 := List.length_filter_le (fun p : Spot => fullP l p.1) T
  simp only [List.length_map] at h1
  omega
theorem row1 {w : World} {ev : Value} {s : List Int} {t : TypeId} (h : RdS w 1 intE ev s) : RowS (w.alloc (.cells #[ev] t)) (.slice (some ⟨w.heap.size, 0, none⟩) 1 1) [(ev, s)] :=
  ⟨rd_new (sz := 1) (n := 1) rfl, fun p hp => by
    rw [List.mem_singleton] at hp; subst hp
    exact h.below ((Below.refl _ w).alloc (Nat.le_refl _) _) (by decide)⟩
end Go.Proofs.Ytbeoedgoikcbpaa

namespace Go.Proofs.Ytbeoedgoikcbpaa
set_option linter.unusedSimpArgs false
set_option linter.unusedVariables false
set_option maxRecDepth 100000
open Go Go.Ann Go.RowKit
def undone (d : List Bool) : Nat := d.count false
def pth : Nat → Nat
  | 0 => 1
  | m + 1 => 1 + (m + 1) * pth m
theorem newAt_mem {l : List OpT} {p q : Spot} {k : Nat} (hl : p.1.length = l.length) (h : q ∈ newAt l p k) : ∃ h : k < l.length, p.1[k] = false ∧ q.1 = p.1.set k true ∧ mayP l p.1 k l[k] = true ∧ stepP p.2 l[k] = some q.2 := by
  unfold newAt at h
  split at h
  · cases h
  · rename_i o ho
    obtain ⟨hk, rfl⟩ := List.getElem?_eq_some_iff.1 ho
    split at h
    · rename_i hm
      split at h
      · rename_i s hs
        rw [List.mem_singleton] at h
        subst h
        refine ⟨hk, ?_, rfl, hm, hs⟩
        have hm2 := hm
        unfold mayP at hm2
        rw [Bool.and_eq_true, Bool.not_eq_true'] at hm2
        have h1 := hm2.1
        rw [List.getD_eq_getElem?_getD, List.getElem?_eq_getElem (by omega)] at h1
        exact h1
      · cases h
    · cases h
theorem nextL_mem {l : List OpT} {p q : Spot} (hl : p.1.length = l.length) : ∀ {k : Nat}, q ∈ nextL l p k → q.1.length = l.length ∧ undone q.1 + 1 = undone p.1
  | 0, h => by cases h
  | k + 1, h => by
    rw [nextL] at h
    rcases List.mem_append.1 h with h | h
    · exact nextL_mem hl h
    · obtain ⟨hk, e, e2, _⟩ := newAt_mem hl h
      rw [e2]
      refine ⟨by rw [List.length_set]; exact hl, ?_⟩
      unfold undone
      have hp : 0 < p.1.count false := List.count_pos_iff.2 (by rw [← e]; exact List.getElem_mem _)
      rw [List.count_set (by omega), e]
      simp
      omega
end Go.Proofs.Ytbeoedgoikcbpaa

namespace Go.Proofs.Ytbeoedgoikcbpaa
set_option linter.unusedSimpArgs false
set_option linter.unusedVariables false
set_option maxRecDepth 100000
open Go Go.Ann Go.RowKit
theorem nextL_iff {l : List OpT} {p r : Spot} : ∀ {n : Nat}, r ∈ nextL l p n ↔ ∃ k, k < n ∧ r ∈ newAt l p k
  | 0 => by simp [nextL]
  | n + 1 => by
    rw [nextL, List.mem_append, nextL_iff]
    constructor
    · rintro (⟨k, h, hr⟩ | h)
      · exact ⟨k, by omega, hr⟩
      · exact ⟨n, by omega, h⟩
    · rintro ⟨k, h, hr⟩
      rcases Nat.lt_or_ge k n with h' | h'
      · exact .inl ⟨k, h', hr⟩
      · obtain rfl : k = n := by omega
        exact .inr hr
theorem newAt_iff {l : List OpT} {p r : Spot} {k : Nat} : r ∈ newAt l p k ↔ ∃ o, l[k]? = some o ∧ mayP l p.1 k o = true ∧ stepP p.2 o = some r.2 ∧ r.1 = p.1.set k true := by
  unfold newAt
  cases h : l[k]? with
  | none => simp
  | some o =>
    simp only [Option.some.injEq]
    cases hm : mayP l p.1 k o with
    | false => simp [hm]
    | true =>
      cases hs : stepP p.2 o with
      | none => simp [hs]
      | some s =>
        simp only [if_true, List.mem_singleton]
        constructor
        · rintro rfl
          exact ⟨o, rfl, hm, hs, rfl⟩
        · rintro ⟨o', rfl, _, h1, h2⟩
          rw [hs] at h1
          obtain ⟨r1, r2⟩ := r
          simp only [Option.some.injEq] at h1 h2
          rw [h1, h2]
theorem zipT {α : Type} (f : α → Bool) : ∀ (a : List α) (d : List Bool), d.length = a.length → (∀ x ∈ a, f x = true) → ((a.map f).zip d).all (fun p => p.2 || !p.1) = d.all id
  | [], [], _, _ => rfl
  | [], _ :: _, h, _ => by simp at h
  | _ :: _, [], h, _ => by simp at h
  | x :: a, e :: d, h, hf => by
    have ih := zipT f a d (by simpa using h) fun y hy => hf y (List.mem_cons_of_mem _ hy)
    rw [List.map_cons, List.zip_cons_cons, List.all_cons, List.all_cons, ih, hf x (List.mem_cons_self ..)]
    simp
theorem zipF {α : Type} (f : α → Bool) : ∀ (a : List α) (d : List Bool), (∀ x ∈ a, f x = false) → ((a.map f).zip d).all (fun p => p.2 || !p.1) = true
  | [], _, _ => rfl
  | _ :: _, [], _ => rfl
  | x :: a, e :: d, hf => by
    have ih := zipF f a d fun y hy => hf y (List.mem_cons_of_mem _ hy)
    rw [List.map_cons, List.zip_cons_cons, List.all_cons, ih, hf x (List.mem_cons_self ..)]
    simp
theorem all_T {d : List Bool} (h : d.all id = true) : d = List.replicate d.length true :=
  List.eq_replicate_iff.2 ⟨rfl, fun b hb => by simpa using List.all_eq_true.1 h b hb⟩
theorem mayP_left {a b : List OpT} {d1 d2 : List Bool} {i : Nat} {o : OpT} (h1 : d1.length = a.length) (hi : i < a.length) (ho : ∀ y ∈ b, before y o = false) : mayP (a ++ b) (d1 ++ d2) i o = mayP a d1 i o := by
  unfold mayP
  rw [List.map_append, List.zip_append (by simp [h1]), List.all_append, zipF (fun p => before p o) b d2 ho, List.getD_eq_getElem?_getD, List.getD_eq_getElem?_getD, List.getElem?_append_left (by omega), Bool.and_true]
theorem mayP_right {a b : List OpT} {d1 d2 : List Bool} {j : Nat} {o : OpT} (h1 : d1.length = a.length) (ho : ∀ x ∈ a, before x o = true) : mayP (a ++ b) (d1 ++ d2) (a.length + j) o = (d1.all id && mayP b d2 j o) := by
  unfold mayP
  rw [List.map_append, List.zip_append (by simp [h1]), List.all_append, zipT (fun p => before p o) a d1 h1 ho, List.getD_eq_getElem?_getD, List.getD_eq_getElem?_getD, List.getElem?_append_right (by omega), h1, Nat.add_sub_cancel_left]
  cases d1.all id <;> simp
theorem fullP_app {a b : List OpT} {d1 d2 : List Bool} (h1 : d1.length = a.length) : fullP (a ++ b) (d1 ++ d2) = (fullP a d1 && fullP b d2) := by
  unfold fullP
  rw [List.map_append, List.zip_append (by simp [h1]), List.all_append]
theorem fullP_done {a : List OpT} {d : List Bool} (h1 : d.length = a.length) (ha : ∀ x ∈ a, x.Done = true) : fullP a d = d.all id := zipT (fun o : OpT => o.Done) a d h1 ha
theorem Rch.len {l : List OpT} {p q : Spot} (h : Rch l p q) : q.1.length = p.1.length := by
  induction h with
  | refl => rfl
  | step _ hs ih =>
    obtain ⟨k, _, hk⟩ := nextL_iff.1 hs
    obtain ⟨_, _, _, _, e⟩ := newAt_iff.1 hk
    rw [e, List.length_set, ih]
structure Apart (a b : List OpT) : Prop where
  up : ∀ x ∈ a, ∀ y ∈ b, before x y = true
  dn : ∀ x ∈ a, ∀ y ∈ b, before y x = false
theorem set_left {d1 d2 : List Bool} {i : Nat} (h : i < d1.length) : (d1 ++ d2).set i true = d1.set i true ++ d2 := by
  rw [List.set_append_left _ _ h]
theorem set_right {d1 d2 : List Bool} {j n : Nat} (h : d1.length = n) : (d1 ++ d2).set (n + j) true = d1 ++ d2.set j true := by
  rw [List.set_append_right _ _ (by omega), h, Nat.add_sub_cancel_left]
theorem Rch.first {a b : List OpT} (hab : Apart a b) {p q : Spot} (hp : p.1.length = a.length) (h : Rch a p q) (d2 : List Bool) : Rch (a ++ b) (p.1 ++ d2, p.2) (q.1 ++ d2, q.2) := by
  induction h with
  | refl => exact .refl _
  | @step q r hq hs ih =>
    obtain ⟨k, hk, hr⟩ := nextL_iff.1 hs
    obtain ⟨o, ho, hm, hst, e⟩ := newAt_iff.1 hr
    have hql := hq.len.trans hp
    refine ih.step (nextL_iff.2 ⟨k, by rw [List.length_append]; omega, newAt_iff.2 ⟨o, by rw [List.getElem?_append_left hk]; exact ho, ?_, hst, ?_⟩⟩)
    · rw [mayP_left hql hk fun y hy => hab.dn o (List.mem_of_getElem? ho) y hy]; exact hm
    · simp only
      rw [set_left (by omega), e]
theorem Rch.second {a b : List OpT} (hab : Apart a b) {p q : Spot} (h : Rch b p q) : Rch (a ++ b) (List.replicate a.length true ++ p.1, p.2) (List.replicate a.length true ++ q.1, q.2) := by
  induction h with
  | refl => exact .refl _
  | @step q r hq hs ih =>
    obtain ⟨k, hk, hr⟩ := nextL_iff.1 hs
    obtain ⟨o, ho, hm, hst, e⟩ := newAt_iff.1 hr
    refine ih.step (nextL_iff.2 ⟨a.length + k, by rw [List.length_append]; omega, newAt_iff.2 ⟨o, by rw [List.getElem?_append_right (by omega), Nat.add_sub_cancel_left]; exact ho, ?_, hst, ?_⟩⟩)
    · rw [mayP_right (by simp) fun x hx => hab.up x hx o (List.mem_of_getElem? ho), hm]
      simp
    · simp only
      rw [set_right (by simp), e]
theorem Rch.split {a b : List OpT} (hab : Apart a b) {s : List Int} {q : Spot} (h : Rch (a ++ b) (List.replicate a.length false ++ List.replicate b.length false, s) q) :
    (∃ e t, q = (e ++ List.replicate b.length false, t) ∧ e.length = a.length ∧ Rch a (List.replicate a.length false, s) (e, t)) ∨
    ∃ e t u, q = (List.replicate a.length true ++ e, t) ∧ Rch a (List.replicate a.length false, s) (List.replicate a.length true, u) ∧ Rch b (List.replicate b.length false, u) (e, t) := by
  induction h with
  | refl => exact .inl ⟨_, _, rfl, by simp, .refl _⟩
  | @step q r hq hs ih =>
    obtain ⟨k, hk, hr⟩ := nextL_iff.1 hs
    obtain ⟨o, ho, hm, hst, e⟩ := newAt_iff.1 hr
    obtain ⟨r1, r2⟩ := r
    simp only at e hst
    subst e
    rcases ih with ⟨e, t, rfl, he, hR⟩ | ⟨e, t, u, rfl, hR1, hR2⟩
    · simp only at hm hst ⊢
      rcases Nat.lt_or_ge k a.length with hka | hka
      · rw [List.getElem?_append_left hka] at ho
        rw [mayP_left he hka fun y hy => hab.dn o (List.mem_of_getElem? ho) y hy] at hm
        refine .inl ⟨e.set k true, r2, by rw [set_left (by omega)], by rw [List.length_set]; exact he, hR.step (nextL_iff.2 ⟨k, hka, newAt_iff.2 ⟨o, ho, hm, hst, rfl⟩⟩)⟩
      · obtain ⟨j, rfl⟩ : ∃ j, k = a.length + j := ⟨k - a.length, by omega⟩
        rw [List.getElem?_append_right (by omega), Nat.add_sub_cancel_left] at ho
        rw [mayP_right he fun x hx => hab.up x hx o (List.mem_of_getElem? ho), Bool.and_eq_true] at hm
        have eT := all_T hm.1
        rw [he] at eT
        subst eT
        refine .inr ⟨(List.replicate b.length false).set j true, r2, t, by rw [set_right (by simp)], hR, (Rch.refl _).step (nextL_iff.2 ⟨j, by rw [List.length_append] at hk; omega, newAt_iff.2 ⟨o, ho, hm.2, hst, rfl⟩⟩)⟩
    · simp only at hm hst ⊢
      rcases Nat.lt_or_ge k a.length with hka | hka
      · exfalso
        unfold mayP at hm
        rw [Bool.and_eq_true, Bool.not_eq_true', List.getD_eq_getElem?_getD, List.getElem?_append_left (by simpa using hka)] at hm
        have := hm.1
        rw [List.getElem?_eq_getElem (by simpa using hka)] at this
        simp at this
      · obtain ⟨j, rfl⟩ : ∃ j, k = a.length + j := ⟨k - a.length, by omega⟩
        rw [List.getElem?_append_right (by omega), Nat.add_sub_cancel_left] at ho
        rw [mayP_right (by simp) fun x hx => hab.up x hx o (List.mem_of_getElem? ho), Bool.and_eq_true] at hm
        refine .inr ⟨e.set j true, r2, u, by rw [set_right (by simp)], hR1, hR2.step (nextL_iff.2 ⟨j, by rw [List.length_append] at hk; omega, newAt_iff.2 ⟨o, ho, hm.2, hst, rfl⟩⟩)⟩
def Exit (l : List OpT) (s t : List Int) : Prop := ∃ d, Rch l (List.replicate l.length false, s) (d, t) ∧ fullP l d = true
theorem Exit.app {a b : List OpT} (hab : Apart a b) (ha : ∀ x ∈ a, x.Done = true) {s t : List Int} : Exit (a ++ b) s t ↔ ∃ u, Exit a s u ∧ Exit b u t := by
  unfold Exit
  rw [List.length_append, ← List.replicate_append_replicate]
  constructor
  · rintro ⟨d, hr, hf⟩
    rcases hr.split hab with ⟨e, t', h1, he, h2⟩ | ⟨e, t', u, h1, h2, h3⟩
    · simp only [Prod.mk.injEq] at h1
      obtain ⟨rfl, rfl⟩ := h1
      rw [fullP_app he, Bool.and_eq_true] at hf
      exact ⟨t, ⟨e, h2, hf.1⟩, ⟨_, .refl _, hf.2⟩⟩
    · simp only [Prod.mk.injEq] at h1
      obtain ⟨rfl, rfl⟩ := h1
      rw [fullP_app (by simp), Bool.and_eq_true] at hf
      exact ⟨u, ⟨_, h2, hf.1⟩, ⟨e, h3, hf.2⟩⟩
  · rintro ⟨u, ⟨d1, h1, f1⟩, ⟨d2, h2, f2⟩⟩
    have hl1 : d1.length = a.length := by have := h1.len; simpa using this
    have f1' := f1
    rw [fullP_done hl1 ha] at f1'
    have eT := all_T f1'
    rw [hl1] at eT
    subst eT
    refine ⟨List.replicate a.length true ++ d2, (h1.first hab (by simp) _).trans (h2.second hab), ?_⟩
    rw [fullP_app (by simp), f1, f2]; rfl
end Go.Proofs.Ytbeoedgoikcbpaa

namespace Go.Proofs.Ytbeoedgoikcbpaa.Cut
set_option linter.unusedSimpArgs false
set_option linter.unusedVariables false
set_option maxRecDepth 100000
open Go Go.Ann Go.RowKit
def Pure (l : List OpT) : Prop := ∀ a ∈ l, ∀ b ∈ l, a.ID = b.ID → a = b
def segR (w : World) (s : Seg) (c : List Value) : Prop := ∃ v, c = [.int .i64 s.obj, .int .i64 s.kind, v] ∧ RdS w 11 OpT.enc v s.ops ∧ (s.ops.length : Int) ≤ 9223372036854775806
theorem segR.below {w w' : World} (hb : Below w.heap.size w w') (s : Seg) (c : List Value) (h : segR w s c) : segR w' s c := by
  obtain ⟨v, rfl, h1, h2⟩ := h
  exact ⟨v, rfl, h1.below hb (by decide), h2⟩
end Go.Proofs.Ytbeoedgoikcbpaa.Cut

namespace Go.Proofs.Ytbeoedgoikcbpaa.Cut
set_option linter.unusedSimpArgs false
set_option linter.unusedVariables false
set_option maxRecDepth 100000
open Go Go.Ann Go.RowKit
def cmpI (a b : Int) : Int := if a < b then -1 else if b < a then 1 else 0
end Go.Proofs.Ytbeoedgoikcbpaa.Cut

namespace Go.Proofs.Ytbeoedgoikcbpaa.Cut
set_option linter.unusedSimpArgs false
set_option linter.unusedVariables false
set_option maxRecDepth 100000
open Go Go.Ann Go.RowKit
def orI (l : List Int) : Int := (l.find? fun x => !decide (x = 0)).getD 0
def earI (a b : OpT) : Int := orI [cmpI a.Invoke b.Invoke, cmpI a.ID b.ID]
theorem chg_da {S : Nat → Prop} {w : World} {o : Obj} : Chg S w.drew (w.alloc o).drew := (Chg.refl S w.drew).alloc o
end Go.Proofs.Ytbeoedgoikcbpaa.Cut

namespace Go.Proofs.Ytbeoedgoikcbpaa.Cut
set_option linter.unusedSimpArgs false
set_option linter.unusedVariables false
set_option maxRecDepth 100000
open Go Go.Ann Go.RowKit
instance : Inhabited OpT := ⟨⟨0, 0, 0, 0, 0, 0, 0, false, 0, 0, 0⟩⟩
def Sorts (cf : OpT → OpT → Int) (l l' : List OpT) : Prop := l'.Perm l ∧ l'.Pairwise fun a b => ¬ cf b a < 0
end Go.Proofs.Ytbeoedgoikcbpaa.Cut

namespace Go.Proofs.Ytbeoedgoikcbpaa.Cut
set_option linter.unusedSimpArgs false
set_option linter.unusedVariables false
set_option maxRecDepth 100000
open Go Go.Ann Go.RowKit
theorem orI2_neg (x y : Int) : decide (orI [x, y] < 0) = decide (x < 0 ∨ x = 0 ∧ y < 0) := by
  unfold orI
  by_cases hx : x = 0
  · subst hx
    by_cases hy : y = 0
    · subst hy; simp
    · simp [List.find?_cons, hy]
  · simp [List.find?_cons, hx]
theorem cmpI_neg (a b : Int) : (cmpI a b < 0) = (a < b) := by
  unfold cmpI
  apply propext
  split
  · omega
  · split <;> omega
theorem cmpI_zero (a b : Int) : (cmpI a b = 0) = (a = b) := by
  unfold cmpI
  apply propext
  split
  · omega
  · split <;> omega
theorem lt_ear (a b : OpT) : ltOf earI a b = decide (a.Invoke < b.Invoke ∨ a.Invoke = b.Invoke ∧ a.ID < b.ID) := by
  unfold ltOf earI
  rw [orI2_neg]
  simp only [cmpI_neg, cmpI_zero]
theorem ear_neg (a b : OpT) : (earI a b < 0) = (a.Invoke < b.Invoke ∨ a.Invoke = b.Invoke ∧ a.ID < b.ID) := by
  have := lt_ear a b
  unfold ltOf at this
  exact propext (decide_eq_decide.1 this)
def cutStep (q : Seg → OpT → Bool) (mk : OpT → Int × Int) (acc : List Seg) (o : OpT) : List Seg :=
  match acc.getLast? with
  | some s => if q s o then acc ++ [⟨(mk o).1, (mk o).2, [o]⟩] else acc.dropLast ++ [⟨s.obj, s.kind, s.ops ++ [o]⟩]
  | none => [⟨(mk o).1, (mk o).2, [o]⟩]
def segC (s : Seg) (v : Value) : List Value := [.int .i64 s.obj, .int .i64 s.kind, v]
def segCells : List Seg → List Value → List Value
  | s :: l, v :: vs => segC s v ++ segCells l vs
  | _, _ => []
def segInvs : List Seg → List Value → List Inv
  | s :: l, v :: vs => .rd 11 OpT.enc v s.ops :: segInvs l vs
  | _, _ => []
theorem segCells_snoc : ∀ (l : List Seg) (vs : List Value) (s : Seg) (v : Value), vs.length = l.length → segCells (l ++ [s]) (vs ++ [v]) = segCells l vs ++ segC s v
  | [], [], s, v, _ => by simp [segCells]
  | a :: l, b :: vs, s, v, h => by simp only [List.cons_append, segCells, List.append_assoc]; rw [segCells_snoc l vs s v (by simpa using h)]
theorem segCells_length : ∀ (l : List Seg) (vs : List Value), vs.length = l.length → (segCells l vs).length = l.length * 3
  | [], [], _ => rfl
  | a :: l, b :: vs, h => by rw [segCells, List.length_append, segCells_length l vs (by simpa using h), List.length_cons]; simp only [segC, List.length_cons, List.length_nil]; omega
theorem segInvs_mem : ∀ (l : List Seg) (vs : List Value) (i : Nat) (s : Seg) (v : Value), l[i]? = some s → vs[i]? = some v → Inv.rd 11 OpT.enc v s.ops ∈ segInvs l vs
  | a :: l, b :: vs, 0, s, v, h1, h2 => by
    simp only [List.getElem?_cons_zero, Option.some.injEq] at h1 h2; subst h1; subst h2
    exact List.mem_cons_self
  | a :: l, b :: vs, i + 1, s, v, h1, h2 => List.mem_cons_of_mem _ (segInvs_mem l vs i s v (by simpa using h1) (by simpa using h2))
theorem segInvs_snoc : ∀ (l : List Seg) (vs : List Value) (s : Seg) (v : Value), vs.length = l.length → ∀ a, a ∈ segInvs (l ++ [s]) (vs ++ [v]) ↔ a = Inv.rd 11 OpT.enc v s.ops ∨ a ∈ segInvs l vs
  | [], [], s, v, _, a => by simp [segInvs]
  | x :: l, b :: vs, s, v, h, a => by simp only [List.cons_append, segInvs, List.mem_cons, segInvs_snoc l vs s v (by simpa using h)]; exact ⟨fun h => h.elim (fun h => .inr (.inl h)) fun h => h.elim .inl fun h => .inr (.inr h), fun h => h.elim (fun h => .inr (.inl h)) fun h => h.elim .inl fun h => .inr (.inr h)⟩
theorem cutStep_nil (q : Seg → OpT → Bool) (mk : OpT → Int × Int) (o : OpT) : cutStep q mk [] o = [⟨(mk o).1, (mk o).2, [o]⟩] := rfl
theorem cutStep_new {q : Seg → OpT → Bool} (mk : OpT → Int × Int) (ini : List Seg) {s : Seg} {o : OpT} (h : q s o = true) : cutStep q mk (ini ++ [s]) o = ini ++ [s] ++ [⟨(mk o).1, (mk o).2, [o]⟩] := by
  unfold cutStep
  rw [List.getLast?_concat]
  simp only [h, if_true]
theorem cutStep_old {q : Seg → OpT → Bool} (mk : OpT → Int × Int) (ini : List Seg) {s : Seg} {o : OpT} (h : q s o = false) : cutStep q mk (ini ++ [s]) o = ini ++ [⟨s.obj, s.kind, s.ops ++ [o]⟩] := by
  unfold cutStep
  rw [List.getLast?_concat, List.dropLast_concat]
  simp only [h]
  rfl
theorem cutStep_flat (q : Seg → OpT → Bool) (mk : OpT → Int × Int) (acc : List Seg) (o : OpT) : (cutStep q mk acc o).flatMap Seg.ops = acc.flatMap Seg.ops ++ [o] := by
  unfold cutStep
  cases h : acc.getLast? with
  | none => rw [List.getLast?_eq_none_iff.1 h]; rfl
  | some s =>
    obtain ⟨ini, rfl⟩ := List.getLast?_eq_some_iff.1 h
    simp only
    split
    · rw [List.flatMap_append]; rfl
    · rw [List.dropLast_concat, List.flatMap_append, List.flatMap_append, List.append_assoc]; simp
theorem cut_flat (q : Seg → OpT → Bool) (mk : OpT → Int × Int) : ∀ (l : List OpT) (acc : List Seg), (l.foldl (cutStep q mk) acc).flatMap Seg.ops = acc.flatMap Seg.ops ++ l
  | [], acc => by simp
  | o :: l, acc => by rw [List.foldl_cons, cut_flat q mk l, cutStep_flat, List.append_assoc]; rfl
theorem cutStep_ne (q : Seg → OpT → Bool) (mk : OpT → Int × Int) (acc : List Seg) (o : OpT) (h : ∀ s ∈ acc, s.ops ≠ []) : ∀ s ∈ cutStep q mk acc o, s.ops ≠ [] := by
  unfold cutStep
  cases hl : acc.getLast? with
  | none => intro s hs; simp only [List.mem_singleton] at hs; subst hs; simp
  | some x =>
    obtain ⟨ini, rfl⟩ := List.getLast?_eq_some_iff.1 hl
    simp only
    split
    · intro s hs
      rcases List.mem_append.1 hs with hs | hs
      · exact h s hs
      · simp only [List.mem_singleton] at hs; subst hs; simp
    · intro s hs
      rw [List.dropLast_concat] at hs
      rcases List.mem_append.1 hs with hs | hs
      · exact h s (List.mem_append_left _ hs)
      · simp only [List.mem_singleton] at hs; subst hs; simp
theorem cut_ne (q : Seg → OpT → Bool) (mk : OpT → Int × Int) : ∀ (l : List OpT) (acc : List Seg), (∀ s ∈ acc, s.ops ≠ []) → ∀ s ∈ l.foldl (cutStep q mk) acc, s.ops ≠ []
  | [], acc, h => h
  | o :: l, acc, h => by rw [List.foldl_cons]; exact cut_ne q mk l _ (cutStep_ne q mk acc o h)
theorem segs_len : ∀ (acc : List Seg), (∀ s ∈ acc, s.ops ≠ []) → acc.length ≤ (acc.flatMap Seg.ops).length
  | [], _ => Nat.zero_le _
  | a :: l, h => by
    have := segs_len l fun s hs => h s (List.mem_cons_of_mem _ hs)
    have ha := List.length_pos_iff.2 (h a List.mem_cons_self)
    rw [List.flatMap_cons, List.length_append, List.length_cons]; omega
theorem seg_len (acc : List Seg) (s : Seg) (h : s ∈ acc) : s.ops.length ≤ (acc.flatMap Seg.ops).length := by
  induction acc with
  | nil => cases h
  | cons a l ih =>
    rw [List.flatMap_cons, List.length_append]
    rcases List.mem_cons.1 h with rfl | h
    · omega
    · have := ih h; omega
theorem segCells_flat : ∀ (l : List Seg) (vs : List Value), (List.zipWith segC l vs).flatten = segCells l vs
  | [], vs => by cases vs <;> rfl
  | a :: l, [] => rfl
  | a :: l, b :: vs => by rw [List.zipWith_cons_cons, List.flatten_cons, segCells_flat l vs]; rfl
end Go.Proofs.Ytbeoedgoikcbpaa.Cut

namespace Go.Proofs.Ytbeoedgoikcbpaa.Cut
set_option linter.unusedSimpArgs false
set_option linter.unusedVariables false
set_option maxRecDepth 100000
open Go Go.Ann Go.RowKit
def leq (a b : OpT) : Bool := decide (a.Invoke < b.Invoke ∨ a.Invoke = b.Invoke ∧ a.ID ≤ b.ID)
theorem leq_ear (a b : OpT) : leq a b = true ↔ ¬ earI b a < 0 := by
  unfold leq
  rw [ear_neg, decide_eq_true_eq]
  omega
theorem sorts_ins {r : List OpT} {o : OpT} {n : Nat} (hs : r.Pairwise fun a b => ¬ earI b a < 0) (h1 : ∀ j, (h : j < r.length) → j < n → leq r[j] o = true) (h2 : (h : n < r.length) → leq r[n] o = false) : (r.take n ++ [o] ++ r.drop n).Pairwise fun a b => ¬ earI b a < 0 := by
  have tr : ∀ x y z : OpT, ¬ earI y x < 0 → ¬ earI z y < 0 → ¬ earI z x < 0 := fun x y z a b => by rw [ear_neg] at *; omega
  rw [List.append_assoc, List.pairwise_append]
  have hpre : ∀ a ∈ r.take n, leq a o = true := fun a ha => by
    obtain ⟨j, hj, rfl⟩ := List.mem_iff_getElem.1 ha
    rw [List.length_take] at hj
    rw [List.getElem_take]
    exact h1 j (by omega) (by omega)
  have hpost : ∀ b ∈ r.drop n, ¬ earI b o < 0 := fun b hb => by
    obtain ⟨j, hj, rfl⟩ := List.mem_iff_getElem.1 hb
    rw [List.length_drop] at hj
    rw [List.getElem_drop]
    have e := h2 (by omega)
    have e' : ¬ leq r[n] o = true := by rw [e]; decide
    rw [leq_ear] at e'
    have e2 : ¬ earI r[n] o < 0 := by rw [ear_neg] at *; omega
    rcases Nat.eq_zero_or_pos j with rfl | hj0
    · exact e2
    · exact tr _ _ _ e2 (List.pairwise_iff_getElem.1 hs n (n + j) (by omega) (by omega) (by omega))
  refine ⟨hs.sublist (List.take_sublist _ _), ?_, fun a ha b hb => ?_⟩
  · rw [List.singleton_append, List.pairwise_cons]
    exact ⟨hpost, hs.sublist (List.drop_sublist _ _)⟩
  · have ha' := (leq_ear _ _).1 (hpre a ha)
    rcases List.mem_append.1 hb with hb | hb
    · simp only [List.mem_singleton] at hb; subst hb; exact ha'
    · exact tr _ _ _ ha' (hpost b hb)
theorem perm_ins {l r : List OpT} {i n : Nat} (hp : r.Perm (l.take i)) (hi : i < l.length) : (r.take n ++ [l[i]] ++ r.drop n).Perm (l.take (i + 1)) := by
  rw [List.take_succ_eq_append_getElem hi]
  have h1 : (r.take n ++ [l[i]] ++ r.drop n).Perm (l[i] :: (r.take n ++ r.drop n)) := by
    rw [List.append_assoc]; exact List.perm_middle
  rw [List.take_append_drop] at h1
  exact h1.trans ((hp.cons _).trans (List.perm_append_singleton _ _).symm)
theorem offA_zero {a : Option Addr} {c sz : Nat} : offA a c 0 sz = a := by
  unfold offA
  rw [Nat.zero_mul]
  split
  · rfl
  · cases a with
    | none => rfl
    | some a => exact congrArg some (by unfold Addr.add; rfl)
theorem rd_take {w : World} {sz n k cap : Nat} {a : Option Addr} {xs : List Value} (h : Rd w sz (.slice a n cap) n xs) (hk : k ≤ n) : Rd w sz (.slice (offA a cap 0 sz) k cap) k (xs.take (k * sz)) := by
  rw [offA_zero]; exact h.take hk
theorem rd_drop {w : World} {sz n k cap : Nat} {a : Option Addr} {xs : List Value} (h : Rd w sz (.slice a n cap) n xs) (hk : k ≤ n) : Rd w sz (.slice (offA a cap k sz) (n - k) (cap - k)) (n - k) (xs.drop (k * sz)) := by
  obtain ⟨h1, a', cap', he, h2, h3⟩ := h
  simp only [Value.slice.injEq, true_and] at he
  obtain ⟨rfl, rfl⟩ := he
  refine ⟨by rw [List.length_drop, h1, Nat.sub_mul], _, _, rfl, by omega, fun h => ?_⟩
  obtain ⟨ad, rfl, h4⟩ := h3 (by omega)
  refine ⟨ad.add (k * sz), by unfold offA; rw [if_neg (by omega)]; rfl, fun j u hu => ?_⟩
  rw [add_add]
  rw [List.getElem?_drop] at hu
  exact h4 _ u hu
theorem take_flat {l : List OpT} {k : Nat} : (l.flatMap OpT.enc).take (k * 11) = (l.take k).flatMap OpT.enc := by
  induction l generalizing k with
  | nil => simp
  | cons a l ih =>
    cases k with
    | zero => simp
    | succ k => rw [List.flatMap_cons, List.take_succ_cons, List.flatMap_cons, show (k + 1) * 11 = a.enc.length + k * 11 by rw [OpT.len]; omega, List.take_length_add_append, ih]
theorem drop_flat {l : List OpT} {k : Nat} : (l.flatMap OpT.enc).drop (k * 11) = (l.drop k).flatMap OpT.enc := by
  induction l generalizing k with
  | nil => simp
  | cons a l ih =>
    cases k with
    | zero => simp
    | succ k => rw [List.flatMap_cons, List.drop_succ_cons, show (k + 1) * 11 = a.enc.length + k * 11 by rw [OpT.len]; omega, List.drop_length_add_append, ih]
theorem ins38 {W0 w : World} {Q : Post} {q : Addr} {c i n co : Nat} {ao : Option Addr} {l r : List OpT} (h : RdS W0 11 OpT.enc (.slice (some q) l.length c) l) (hl : l.length ≤ 100) (hr : r.length ≤ 100) (hi : i < l.length) (hn : n ≤ r.length)
    (s : St W0 w (fun _ => False) [.row (.slice ao r.length co) 58 11 r.length (r.flatMap OpT.enc)] [])
    (hQ : ∀ v' w', St W0 w' (fun _ => False) [.row v' 58 11 (r.take n ++ [l[i]] ++ r.drop n).length ((r.take n ++ [l[i]] ++ r.drop n).flatMap OpT.enc)] [] → Q .normal [(0, .slice (some q) l.length c), (3, v'), (4, .int .i64 i)] w') :
    W Try.prog (c52S4 ()) [(0, .slice (some q) l.length c), (3, .slice ao r.length co), (4, .int .i64 i), (5, .int .i64 n)] w Q := by
  simp (disch := first | omega | exact okFill_t rfl | exact okSize_t rfl | exact fun h => h | (simp only [World.size_alloc, World.size_drew, World.size_setCell, size_fill, bytesW]; omega)) only [go_sem, c52, c52S0, c52S1, c52L0, c52S2, c52S3, c52S4, c52S5, c52S6, c52L1, c52S7]
  refine bsW_none ty22mkI ?_
  have s2 := s.emptyRow 58 11
  generalize w.alloc (.cells #[] 58) = w2 at s2 ⊢
  simp (disch := first | omega | exact okFill_t rfl | exact okSize_t rfl | exact fun h => h | (simp only [World.size_alloc, World.size_drew, World.size_setCell, size_fill, bytesW]; omega)) only [go_sem, c52, c52S0, c52S1, c52L0, c52S2, c52S3, c52S4, c52S5, c52S6, c52L1, c52S7]
  have hco : r.length ≤ co := by
    obtain ⟨a', c', e, h⟩ := own_slice (s2.row 1 rfl)
    cases e; exact h
  have e1 : (r.take n).length = n := by rw [List.length_take]; omega
  refine ⟨⟨by omega, by omega⟩, ?_⟩
  refine s2.append 0 rfl ty22mkI rfl (by decide) (rd_take (Rd.of_own (s2.row 1 rfl)) hn) (by rw [take_flat]; exact OpT.ones _) (by omega) (by omega) ?_
  intro v3 w3 s3 _
  simp only [List.set_cons_zero, List.nil_append, take_flat, Nat.zero_add] at s3
  obtain ⟨a3, c3, rfl, _⟩ := own_slice (s3.row 0 rfl)
  have eo := h.eltB s3.bel OpT.len (by decide) hi
  have ato := l[i].at
  have ci := cellsO_below s3.bel (h.at OpT.len hi)
  simp (disch := first | omega | exact okFill_t rfl | exact okSize_t rfl | exact fun h => h | (simp only [World.size_alloc, World.size_drew, World.size_setCell, size_fill, bytesW]; omega)) only [go_sem, c52, c52S0, c52S1, c52L0, c52S2, c52S3, c52S4, c52S5, c52S6, c52L1, c52S7, ci]
  refine ⟨⟨by omega, by omega⟩, bsW_agg ty22mkI rfl (by decide) (by decide) ?_⟩
  have hrd : Rd (w3.alloc (.cells l[i].enc.toArray 58)) 11 (.slice (some ⟨w3.heap.size, 0, none⟩) 1 1) 1 l[i].enc := rd_new (t := 58) (sz := 11) (n := 1) (cs := l[i].enc.toArray) rfl
  have s4 := s3.alloc' (.cells l[i].enc.toArray 58)
  generalize w3.alloc (.cells l[i].enc.toArray 58) = w4 at s4 hrd ⊢
  simp (disch := first | omega | exact okFill_t rfl | exact okSize_t rfl | exact fun h => h | (simp only [World.size_alloc, World.size_drew, World.size_setCell, size_fill, bytesW]; omega)) only [go_sem, c52, c52S0, c52S1, c52L0, c52S2, c52S3, c52S4, c52S5, c52S6, c52L1, c52S7, ci]
  refine s4.append 0 rfl ty22mkI rfl (by decide) hrd l[i].one (by omega) (by omega) ?_
  intro v5 w5 s5 _
  simp only [List.set_cons_zero] at s5
  obtain ⟨a5, c5, rfl, _⟩ := own_slice (s5.row 0 rfl)
  simp (disch := first | omega | exact okFill_t rfl | exact okSize_t rfl | exact fun h => h | (simp only [World.size_alloc, World.size_drew, World.size_setCell, size_fill, bytesW]; omega)) only [go_sem, c52, c52S0, c52S1, c52L0, c52S2, c52S3, c52S4, c52S5, c52S6, c52L1, c52S7]
  refine ⟨⟨by omega, by omega⟩, ?_⟩
  refine s5.append 0 rfl ty22mkI rfl (by decide) (rd_drop (Rd.of_own (s5.row 1 rfl)) hn) (by rw [drop_flat]; exact OpT.ones _) (by omega) (by omega) ?_
  intro v6 w6 s6 _
  simp only [List.set_cons_zero, drop_flat] at s6
  simp (disch := first | omega | exact okFill_t rfl | exact okSize_t rfl | exact fun h => h | (simp only [World.size_alloc, World.size_drew, World.size_setCell, size_fill, bytesW]; omega)) only [go_sem, c52, c52S0, c52S1, c52L0, c52S2, c52S3, c52S4, c52S5, c52S6, c52L1, c52S7]
  refine hQ _ _ ?_
  have s7 := s6.sub (L' := [_]) ((List.nil_sublist _).cons_cons _)
  have el : (r.take n ++ [l[i]] ++ r.drop n).length = n + 1 + (r.length - n) := by
    rw [List.length_append, List.length_append, e1, List.length_drop]; rfl
  have ef : (r.take n ++ [l[i]] ++ r.drop n).flatMap OpT.enc = (r.take n).flatMap OpT.enc ++ l[i].enc ++ (r.drop n).flatMap OpT.enc := by
    rw [List.flatMap_append, List.flatMap_append]; simp
  rw [el, ef]
  exact s7
theorem sorted_ok (v : Value) (l : List OpT) (w : World) (h : RdS w 11 OpT.enc v l) (hl : l.length ≤ 100) :
    Ret Try.prog 52 [v] w fun u w' => (∃ r, Sorts earI l r ∧ w'.ownsRow w.heap.size 58 11 u r.length (r.flatMap OpT.enc)) ∧ Below w.heap.size w w' := by
  obtain ⟨a, c, rfl, _⟩ := h.form
  refine ent52 _ _ _ ?_
  simp (disch := first | omega | exact okFill_t rfl | exact okSize_t rfl | exact fun h => h | (simp only [World.size_alloc, World.size_drew, World.size_setCell, size_fill, bytesW]; omega)) only [go_sem, c52, c52S0, c52S1, c52L0, c52S2, c52S3, c52S4, c52S5, c52S6, c52L1, c52S7]
  refine W_loopU (fun x : Nat × Value => [(3, x.2), (4, .int .i64 x.1)]) (fun x w' => x.1 ≤ l.length ∧ ∃ r, Sorts earI (l.take x.1) r ∧ St w w' (fun _ => False) [.row x.2 58 11 r.length (r.flatMap OpT.enc)] []) (fun x => l.length - x.1) (0, .slice none 0 0) rfl ⟨Nat.zero_le _, [], ⟨List.Perm.refl _, List.Pairwise.nil⟩, (St.start (W0 := w)).nilRow 58 11⟩ ?_
  rintro ⟨i, vo⟩ w1 ⟨hi, r, ⟨hp, hs⟩, s1⟩
  simp only at hi hp s1
  have hrl : r.length = i := by rw [hp.length_eq, List.length_take]; omega
  obtain ⟨ao, co, rfl, _⟩ := own_slice (s1.row 0 rfl)
  by_cases hlt : i < l.length
  · have hlt' : (i : Int) < l.length := by omega
    obtain ⟨q, rfl⟩ := h.ptr (by omega)
    simp (disch := first | omega | exact okFill_t rfl | exact okSize_t rfl | exact fun h => h | (simp only [World.size_alloc, World.size_drew, World.size_setCell, size_fill, bytesW]; omega)) only [go_sem, c52, c52S0, c52S1, c52L0, c52S2, c52S3, c52S5, c52S6, c52L1, c52S7, hlt']
    refine W_loopU (fun n : Nat => [(5, .int .i64 n)]) (fun n w' => n ≤ r.length ∧ (∀ j, (h : j < r.length) → j < n → leq r[j] l[i] = true) ∧ St w w' (fun _ => False) [.row (.slice ao r.length co) 58 11 r.length (r.flatMap OpT.enc)] []) (fun n => r.length - n) 0 rfl ⟨Nat.zero_le _, fun j _ h => by omega, s1⟩ ?_
    rintro n w2 ⟨hn, hle, s2⟩
    have eo := h.eltB s2.bel OpT.len (by decide) hlt
    have ato := l[i].at
    by_cases hnr : n < r.length
    · have hnr' : (n : Int) < r.length := by omega
      have hro : RdS w2 11 OpT.enc (.slice ao r.length co) r := RdS.of_own (s2.row 0 rfl)
      obtain ⟨p, rfl⟩ := hro.ptr (by omega)
      have er := hro.elt OpT.len (by decide) hnr
      have atr := r[n].at
      simp (disch := first | omega | exact okFill_t rfl | exact okSize_t rfl | exact fun h => h | (simp only [World.size_alloc, World.size_drew, World.size_setCell, size_fill, bytesW]; omega)) only [go_sem, c52, c52S0, c52S1, c52L0, c52S2, c52S3, c52S5, c52S6, c52L1, c52S7]
      refine c52draw0 ?_
      simp (disch := first | omega | exact okFill_t rfl | exact okSize_t rfl | exact fun h => h | (simp only [World.size_alloc, World.size_drew, World.size_setCell, size_fill, bytesW]; omega)) only [go_sem, c52, c52S0, c52S1, c52L0, c52S2, c52S3, c52S5, c52S6, c52L1, c52S7, c52D0, eo, ato, er, atr, hnr']
      have stp : leq r[n] l[i] = true → (n + 1 ≤ r.length ∧ (∀ (j : Nat) (h : j < r.length), j < n + 1 → leq r[j] l[i] = true) ∧ St w w2.drew (fun _ => False) [.row (.slice (some p) r.length co) 58 11 r.length (r.flatMap OpT.enc)] []) := fun hy => ⟨by omega, fun j h1 h2 => by
        rcases Nat.lt_or_ge j n with h' | h'
        · exact hle j h1 h'
        · obtain rfl : j = n := by omega
          exact hy, s2.drew⟩
      have hy : leq r[n] l[i] = decide (r[n].Invoke < l[i].Invoke ∨ r[n].Invoke = l[i].Invoke ∧ r[n].ID ≤ l[i].ID) := rfl
      refine ⟨by omega, ⟨by omega, by omega⟩, fun e1 => ⟨by omega, ⟨by omega, by omega⟩, fun e2 => ⟨by omega, ⟨by omega, by omega⟩, fun e3 => ⟨⟨by omega, by omega⟩, n + 1, rfl, stp (by rw [hy]; exact decide_eq_true (by omega)), by omega⟩, fun e3 => ?_⟩, fun e2 => ?_⟩, fun e1 => ⟨⟨by omega, by omega⟩, n + 1, rfl, stp (by rw [hy]; exact decide_eq_true (by omega)), by omega⟩⟩
      · have hno : leq r[n] l[i] = false := by rw [hy]; exact decide_eq_false (by omega)
        refine ins38 h hl (by omega) hlt hn s2.drew ?_
        intro v9 w9 s9
        simp (disch := first | omega | exact okFill_t rfl | exact okSize_t rfl | exact fun h => h | (simp only [World.size_alloc, World.size_drew, World.size_setCell, size_fill, bytesW]; omega)) only [go_sem, c52, c52S0, c52S1, c52L0, c52S2, c52S3, c52S4, c52S5, c52S6, c52L1, c52S7]
        refine ⟨⟨by omega, by omega⟩, (i + 1, _), rfl, ⟨by simp only; omega, _, ⟨?_, sorts_ins hs hle fun _ => hno⟩, s9⟩, by simp only; omega⟩
        exact perm_ins hp hlt
      · have hno : leq r[n] l[i] = false := by rw [hy]; exact decide_eq_false (by omega)
        refine ins38 h hl (by omega) hlt hn s2.drew ?_
        intro v9 w9 s9
        simp (disch := first | omega | exact okFill_t rfl | exact okSize_t rfl | exact fun h => h | (simp only [World.size_alloc, World.size_drew, World.size_setCell, size_fill, bytesW]; omega)) only [go_sem, c52, c52S0, c52S1, c52L0, c52S2, c52S3, c52S4, c52S5, c52S6, c52L1, c52S7]
        refine ⟨⟨by omega, by omega⟩, (i + 1, _), rfl, ⟨by simp only; omega, _, ⟨?_, sorts_ins hs hle fun _ => hno⟩, s9⟩, by simp only; omega⟩
        exact perm_ins hp hlt
    · have hnr' : ¬ (n : Int) < r.length := by omega
      simp (disch := first | omega | exact okFill_t rfl | exact okSize_t rfl | exact fun h => h | (simp only [World.size_alloc, World.size_drew, World.size_setCell, size_fill, bytesW]; omega)) only [go_sem, c52, c52S0, c52S1, c52L0, c52S2, c52S3, c52S5, c52S6, c52L1, c52S7]
      refine c52draw0 ?_
      simp (disch := first | omega | exact okFill_t rfl | exact okSize_t rfl | exact fun h => h | (simp only [World.size_alloc, World.size_drew, World.size_setCell, size_fill, bytesW]; omega)) only [go_sem, c52, c52S0, c52S1, c52L0, c52S2, c52S3, c52S5, c52S6, c52L1, c52S7, c52D0, hnr']
      refine ins38 h hl (by omega) hlt hn s2.drew ?_
      intro v9 w9 s9
      simp (disch := first | omega | exact okFill_t rfl | exact okSize_t rfl | exact fun h => h | (simp only [World.size_alloc, World.size_drew, World.size_setCell, size_fill, bytesW]; omega)) only [go_sem, c52, c52S0, c52S1, c52L0, c52S2, c52S3, c52S4, c52S5, c52S6, c52L1, c52S7]
      refine ⟨⟨by omega, by omega⟩, (i + 1, _), rfl, ⟨by simp only; omega, _, ⟨?_, sorts_ins hs hle fun h => absurd h (by omega)⟩, s9⟩, by simp only; omega⟩
      exact perm_ins hp hlt
  · have hlt' : ¬ (i : Int) < l.length := by omega
    simp (disch := first | omega | exact okFill_t rfl | exact okSize_t rfl | exact fun h => h | (simp only [World.size_alloc, World.size_drew, World.size_setCell, size_fill, bytesW]; omega)) only [go_sem, c52, c52S0, c52S1, c52L0, c52S2, c52S3, c52S4, c52S5, c52S6, c52L1, c52S7, hlt']
    have hil : i = l.length := by omega
    subst hil
    rw [List.take_length] at hp
    exact ⟨⟨r, ⟨hp, hs⟩, s1.row 0 rfl⟩, s1.bel⟩
end Go.Proofs.Ytbeoedgoikcbpaa.Cut

namespace Go.Proofs.Ytbeoedgoikcbpaa.Cut
set_option linter.unusedSimpArgs false
set_option linter.unusedVariables false
set_option maxRecDepth 100000
open Go Go.Ann Go.RowKit
def segQ (s : Seg) (o : OpT) : Bool := s.ops.all fun x => before x o
def Piece (r : List OpT) (al : Option Addr) (cl : Nat) (s : Seg) (v : Value) : Prop := ∃ f t, f ≤ t ∧ t ≤ r.length ∧ v = .slice (offA al cl f 11) (t - f) (cl - f) ∧ s.ops = (r.take t).drop f
theorem Piece.rd {w : World} {r : List OpT} {al : Option Addr} {cl : Nat} {s : Seg} {v : Value} (h : Piece r al cl s v) (hr : RdS w 11 OpT.enc (.slice al r.length cl) r) : RdS w 11 OpT.enc v s.ops := by
  obtain ⟨f, t, h1, h2, rfl, h3⟩ := h
  have e1 := rd_drop (Rd.take (k := t) hr h2) h1
  rw [take_flat, drop_flat] at e1
  have e2 : s.ops.length = t - f := by rw [h3, List.length_drop, List.length_take]; omega
  unfold RdS
  rw [e2, h3]
  exact e1
theorem take_drop_succ {r : List OpT} {f i : Nat} (h : i < r.length) (hf : f ≤ i) : (r.take (i + 1)).drop f = (r.take i).drop f ++ [r[i]] := by
  rw [List.take_succ_eq_append_getElem h, List.drop_append_of_le_length (by rw [List.length_take]; omega)]
theorem all_less {r : List OpT} {f k i : Nat} {p : OpT → Bool} (hk : k ≤ i) (h : ((r.take k).drop f).all p = false) : ((r.take i).drop f).all p = false := by
  rw [List.all_eq_false] at h ⊢
  obtain ⟨x, hx, hp⟩ := h
  exact ⟨x, ((List.take_sublist_take_left hk).drop f).subset hx, hp⟩
theorem put17 {W0 w : World} {Q : Post} {f i bo cl : Nat} {al : Option Addr} {b : Bool} {obj kind : Int} {va vo : Value} {r : List OpT} {out : List Seg} {vs : List Value} {I : List Inv} (hr : r.length ≤ 100) (ho : out.length ≤ 100) (hf : f ≤ i) (hi : i ≤ r.length) (hcl : r.length ≤ cl)
    (s : St W0 w (fun _ => False) [.row vo 24 3 out.length (segCells out vs), .blk bo #[.int .i64 obj, .int .i64 kind, va] 24] I)
    (h1 : b = true ∨ i = r.length → ∀ v' w', St W0 w' (fun _ => False) [.row v' 24 3 (out.length + 1) (segCells out vs ++ segC ⟨obj, kind, []⟩ (.slice (offA al cl f 11) (i - f) (cl - f))), .blk bo #[.int .i64 obj, .int .i64 kind, va] 24] I → Q .normal [(1, .pointer (some ⟨bo, 0, none⟩)), (3, .slice al r.length cl), (4, v'), (5, .int .i64 i), (6, .int .i64 i)] w')
    (h2 : b = false → i ≠ r.length → Q .normal [(1, .pointer (some ⟨bo, 0, none⟩)), (3, .slice al r.length cl), (4, vo), (5, .int .i64 f), (6, .int .i64 i)] w) :
    W Try.prog (c24S3 ()) [(1, .pointer (some ⟨bo, 0, none⟩)), (3, .slice al r.length cl), (4, vo), (5, .int .i64 f), (6, .int .i64 i), (7, .bool b)] w Q := by
  have hb := s.rules 1 rfl
  have hlow := s.low 1 rfl
  have grow : ∀ (Q' : Post) (x : Value), (∀ v' w', St W0 w' (fun _ => False) [.row v' 24 3 (out.length + 1) (segCells out vs ++ segC ⟨obj, kind, []⟩ (.slice (offA al cl f 11) (i - f) (cl - f))), .blk bo #[.int .i64 obj, .int .i64 kind, va] 24] I → Q' .normal [(1, .pointer (some ⟨bo, 0, none⟩)), (3, .slice al r.length cl), (4, v'), (6, .int .i64 i)] w') → drawW Try.prog (drawOps 1 c24code) [1, 3, 4, 6] [(1, .pointer (some ⟨bo, 0, none⟩)), (3, .slice al r.length cl), (4, vo), (5, .int .i64 f), (6, .int .i64 i), (46, x)] w Q' := by
    intro Q' x hQ'
    have hne : vo.ownBlock ≠ some bo := s.ne 1 0 rfl rfl (by decide) rfl
    refine c24draw1 (Chg (fun k => vo.ownBlock = some k) _) (Chg.refl _ _) ?_
    simp (disch := first | omega | exact okFill_t rfl | exact okSize_t rfl | exact fun h => h | (simp only [World.size_alloc, World.size_drew, World.size_setCell, size_fill, bytesW]; omega)) only [go_sem, c24, c24S0, c24S1, c24L0, c24S2, c24S3, c24S4, c24S5, c24L1, c24S6, c24S7, c24D1, hb, hne]
    refine ⟨⟨by omega, by omega, by omega⟩, bdW_built (cells := (segC ⟨obj, kind, []⟩ (.slice (offA al cl f 11) (i - f) (cl - f))).toArray) (by kernel_rfl) ?_⟩
    simp (disch := first | omega | exact okFill_t rfl | exact okSize_t rfl | exact fun h => h | (simp only [World.size_alloc, World.size_drew, World.size_setCell, size_fill, bytesW]; omega)) only [go_sem, c24, c24S0, c24S1, c24L0, c24S2, c24S3, c24S4, c24S5, c24L1, c24S6, c24S7, c24D1, hb, hne]
    refine bsW_agg ty47mkI rfl (by decide) (by decide) ?_
    simp (disch := first | omega | exact okFill_t rfl | exact okSize_t rfl | exact fun h => h | (simp only [World.size_alloc, World.size_drew, World.size_setCell, size_fill, bytesW]; omega)) only [go_sem, c24, c24S0, c24S1, c24L0, c24S2, c24S3, c24S4, c24S5, c24L1, c24S6, c24S7, c24D1, hb, hne]
    obtain ⟨sc, hsc⟩ : ∃ sc, sc = segC ⟨obj, kind, []⟩ (.slice (offA al cl f 11) (i - f) (cl - f)) := ⟨_, rfl⟩
    rw [← hsc] at hQ' ⊢
    have h1 : ∀ u ∈ sc, u.oneCell' = true := by intro u hu; rw [hsc] at hu; simp only [segC, List.mem_cons, List.not_mem_nil, or_false] at hu; rcases hu with rfl | rfl | rfl <;> rfl
    have hl3 : sc.toArray.size = 1 * 3 := by rw [hsc]; rfl
    have hrd : Rd (w.alloc (.cells sc.toArray 24)).drew 3 (.slice (some ⟨w.heap.size, 0, none⟩) 1 1) 1 sc := rd_new (w := w.drew) (t := 24) (sz := 3) (n := 1) (cs := sc.toArray) hl3
    have s2 : St W0 (w.alloc (.cells sc.toArray 24)).drew _ _ _ := (s.alloc' (.cells sc.toArray 24)).drew
    refine ⟨chg_da, s2.append 0 rfl ty47mkI rfl (by decide) hrd h1 (by omega) (by omega) ?_⟩
    intro v3 w3 s3 c3
    simp only [List.set_cons_zero] at s3
    simp (disch := first | omega | exact okFill_t rfl | exact okSize_t rfl | exact fun h => h | (simp only [World.size_alloc, World.size_drew, World.size_setCell, size_fill, bytesW]; omega)) only [go_sem, c24, c24S0, c24S1, c24L0, c24S2, c24S3, c24S4, c24S5, c24L1, c24S6, c24S7, c24D1, hb, hne]
    exact ⟨chg_da.trans c3, hQ' _ _ s3⟩
  cases b with
  | true =>
    simp (disch := first | omega | exact okFill_t rfl | exact okSize_t rfl | exact fun h => h | (simp only [World.size_alloc, World.size_drew, World.size_setCell, size_fill, bytesW]; omega)) only [go_sem, c24, c24S0, c24S1, c24L0, c24S2, c24S3, c24S4, c24S5, c24L1, c24S6, c24S7]
    refine grow _ _ fun v' w' s' => ?_
    simp (disch := first | omega | exact okFill_t rfl | exact okSize_t rfl | exact fun h => h | (simp only [World.size_alloc, World.size_drew, World.size_setCell, size_fill, bytesW]; omega)) only [go_sem, c24, c24S0, c24S1, c24L0, c24S2, c24S3, c24S4, c24S5, c24L1, c24S6, c24S7]
    exact h1 (.inl rfl) v' w' s'
  | false =>
    simp (disch := first | omega | exact okFill_t rfl | exact okSize_t rfl | exact fun h => h | (simp only [World.size_alloc, World.size_drew, World.size_setCell, size_fill, bytesW]; omega)) only [go_sem, c24, c24S0, c24S1, c24L0, c24S2, c24S3, c24S4, c24S5, c24L1, c24S6, c24S7]
    refine ⟨fun e => ?_, fun e => h2 rfl (by omega)⟩
    refine grow _ _ fun v' w' s' => ?_
    simp (disch := first | omega | exact okFill_t rfl | exact okSize_t rfl | exact fun h => h | (simp only [World.size_alloc, World.size_drew, World.size_setCell, size_fill, bytesW]; omega)) only [go_sem, c24, c24S0, c24S1, c24L0, c24S2, c24S3, c24S4, c24S5, c24L1, c24S6, c24S7]
    exact h1 (.inr (by omega)) v' w' s'
theorem rsegments_ok (obj kind : Int) (v : Value) (l : List OpT) (w : World) (h : RdS w 11 OpT.enc v l) (hl : l.length ≤ 100) :
    Ret Try.prog 24 [.agg #[.int .i64 obj, .int .i64 kind, v]] w fun u w' => (∃ r, Sorts earI l r ∧ RdR w' 3 segR u (r.foldl (cutStep segQ fun _ => (obj, kind)) [])) ∧ Below w.heap.size w w' := by
  obtain ⟨a, c, rfl, _⟩ := h.form
  refine ent24 _ _ _ ?_
  simp (disch := first | omega | exact okFill_t rfl | exact okSize_t rfl | exact fun h => h | (simp only [World.size_alloc, World.size_drew, World.size_setCell, size_fill, bytesW]; omega)) only [go_sem, c24, c24S0, c24S1, c24L0, c24S2, c24S3, c24S4, c24S5, c24L1, c24S6, c24S7]
  have s1 := (St.start (W0 := w)).box #[.int .i64 obj, .int .i64 kind, .slice a l.length c] 24
  have h1 := h.below s1.bel (by decide)
  generalize w.alloc (.cells #[.int .i64 obj, .int .i64 kind, .slice a l.length c] 24) = w1 at s1 h1 ⊢
  refine Ret.mono (sorted_ok _ _ _ h1 hl) ?_
  rintro vl w2 ⟨⟨r, hs, o2⟩, b2⟩
  have hrl : r.length = l.length := hs.1.length_eq
  have s2 := (s1.add b2 (.row vl 58 11 r.length (r.flatMap OpT.enc)) (own_mono o2 s1.size) fun k hk => (o2.lt k hk).1).seal (.rd 11 OpT.enc vl r) (RdS.of_own o2) fun k hk => slFoot_own hk
  obtain ⟨al, cl, rfl, hcl⟩ := own_slice o2
  simp (disch := first | omega | exact okFill_t rfl | exact okSize_t rfl | exact fun h => h | (simp only [World.size_alloc, World.size_drew, World.size_setCell, size_fill, bytesW]; omega)) only [go_sem, c24, c24S0, c24S1, c24L0, c24S2, c24S3, c24S4, c24S5, c24L1, c24S6, c24S7]
  refine W_loopU (fun x : Nat × Nat × Value => [(4, x.2.2), (5, .int .i64 x.2.1), (6, .int .i64 x.1)]) (fun x w' => 1 ≤ x.1 ∧ x.1 ≤ r.length + 1 ∧ x.2.1 ≤ x.1 ∧ ∃ out vs, vs.length = out.length ∧ out.length ≤ x.1 ∧ (∀ (j : Nat) (s : Seg) (v : Value), out[j]? = some s → vs[j]? = some v → Piece r al cl s v) ∧ (x.1 ≤ r.length → x.2.1 < x.1 ∧ (r.take x.1).foldl (cutStep segQ fun _ => (obj, kind)) [] = out ++ [(⟨obj, kind, (r.take x.1).drop x.2.1⟩ : Seg)]) ∧ (x.1 = r.length + 1 → r.foldl (cutStep segQ fun _ => (obj, kind)) [] = out) ∧
    St w w' (fun _ => False) [.row x.2.2 24 3 out.length (segCells out vs), .blk w.heap.size #[.int .i64 obj, .int .i64 kind, .slice a l.length c] 24] [.rd 11 OpT.enc (.slice al r.length cl) r]) (fun x => r.length + 1 - x.1) (1, 0, .slice none 0 0) rfl ⟨Nat.le_refl _, Nat.le_add_left 1 _, Nat.zero_le _, [], [], rfl, Nat.zero_le _, fun j s v h => (by have h' : (none : Option Seg) = some s := h; cases h'), fun hle => ⟨by decide, ?_⟩, fun he => ?_, s2.nilRow 24 3⟩ ?_
  · simp only at hle ⊢
    rw [List.drop_zero, List.take_succ_eq_append_getElem (by omega)]
    rfl
  · simp only at he
    rw [List.eq_nil_of_length_eq_zero (show r.length = 0 by omega)]; rfl
  rintro ⟨i, f, vo⟩ w3 ⟨hi1, hi2, hf, out, vs, hvs, hout, hpc, hfold, hend, s3⟩
  simp only at hi1 hi2 hf hout hfold hend s3
  by_cases hlt : i ≤ r.length
  · have hlt' : (i : Int) ≤ r.length := by omega
    simp (disch := first | omega | exact okFill_t rfl | exact okSize_t rfl | exact fun h => h | (simp only [World.size_alloc, World.size_drew, World.size_setCell, size_fill, bytesW]; omega)) only [go_sem, c24, c24S0, c24S1, c24L0, c24S2, c24S4, c24S5, c24L1, c24S6, c24S7, hlt']
    obtain ⟨hfi, hfe⟩ := hfold hlt
    have hpiece : Piece r al cl ⟨obj, kind, (r.take i).drop f⟩ (.slice (offA al cl f 11) (i - f) (cl - f)) := ⟨f, i, hf, hlt, rfl, rfl⟩
    have hsegq : ∀ b : Bool, b = (decide ((i : Int) < r.length) && ((r.take i).drop f).all fun y => before y (r.getD i default)) → ∀ h : i < r.length, segQ ⟨obj, kind, (r.take i).drop f⟩ r[i] = b := by
      intro b hb h
      rw [hb, decide_eq_true (by omega), Bool.true_and]
      simp [segQ, List.getD_eq_getElem?_getD, h]
    have hsucc : ∀ h : i < r.length, (r.take (i + 1)).foldl (cutStep segQ fun _ => (obj, kind)) [] = cutStep segQ (fun _ => (obj, kind)) (out ++ [(⟨obj, kind, (r.take i).drop f⟩ : Seg)]) r[i] := fun h => by
      rw [List.take_succ_eq_append_getElem h, List.foldl_append, hfe]; rfl
    have new1 : ∀ b : Bool, b = (decide ((i : Int) < r.length) && ((r.take i).drop f).all fun y => before y (r.getD i default)) → (b = true ∨ i = r.length) → (i + 1 ≤ r.length → i < i + 1 ∧ (r.take (i + 1)).foldl (cutStep segQ fun _ => (obj, kind)) [] = out ++ [(⟨obj, kind, (r.take i).drop f⟩ : Seg)] ++ [(⟨obj, kind, (r.take (i + 1)).drop i⟩ : Seg)]) ∧ (i + 1 = r.length + 1 → r.foldl (cutStep segQ fun _ => (obj, kind)) [] = out ++ [(⟨obj, kind, (r.take i).drop f⟩ : Seg)]) := by
      intro b hb hor
      refine ⟨fun h => ⟨by omega, ?_⟩, fun h => ?_⟩
      · have hbt : b = true := by rcases hor with h' | h'; exact h'; omega
        rw [hsucc (by omega), cutStep_new _ _ ((hsegq b hb (by omega)).trans hbt), take_drop_succ (by omega) (Nat.le_refl _), show (r.take i).drop i = [] from List.drop_eq_nil_of_le (by rw [List.length_take]; omega)]
        rfl
      · have : i = r.length := by omega
        rw [← hfe, this, List.take_length]
    have old1 : ∀ b : Bool, b = (decide ((i : Int) < r.length) && ((r.take i).drop f).all fun y => before y (r.getD i default)) → b = false → i ≠ r.length → (i + 1 ≤ r.length → f < i + 1 ∧ (r.take (i + 1)).foldl (cutStep segQ fun _ => (obj, kind)) [] = out ++ [(⟨obj, kind, (r.take (i + 1)).drop f⟩ : Seg)]) ∧ (i + 1 = r.length + 1 → r.foldl (cutStep segQ fun _ => (obj, kind)) [] = out) := by
      intro b hb hbf hne
      refine ⟨fun h => ⟨by omega, ?_⟩, fun h => by omega⟩
      rw [hsucc (by omega), cutStep_old _ _ ((hsegq b hb (by omega)).trans hbf), take_drop_succ (by omega) hf]
    have hpc' : ∀ (j : Nat) (s : Seg) (v : Value), (out ++ [(⟨obj, kind, (r.take i).drop f⟩ : Seg)])[j]? = some s → (vs ++ [.slice (offA al cl f 11) (i - f) (cl - f)])[j]? = some v → Piece r al cl s v := by
      intro j s v hx hv
      rcases Nat.lt_or_ge j out.length with hj | hj
      · rw [List.getElem?_append_left hj] at hx
        rw [List.getElem?_append_left (by omega)] at hv
        exact hpc j s v hx hv
      · rw [List.getElem?_append_right hj] at hx
        rw [List.getElem?_append_right (by omega), hvs] at hv
        have hz : j - out.length = 0 := by
          have := (List.getElem?_eq_some_iff.1 hx).1
          simp only [List.length_singleton] at this; omega
        rw [hz] at hx hv
        simp only [List.getElem?_cons_zero, Option.some.injEq] at hx hv
        subst hx; subst hv
        exact hpiece
    have hcells : segCells (out ++ [(⟨obj, kind, (r.take i).drop f⟩ : Seg)]) (vs ++ [.slice (offA al cl f 11) (i - f) (cl - f)]) = segCells out vs ++ segC ⟨obj, kind, []⟩ (.slice (offA al cl f 11) (i - f) (cl - f)) := segCells_snoc _ _ _ _ hvs
    refine W_loopU (fun x : Bool × Nat => [(7, .bool x.1), (8, .int .i64 x.2)]) (fun x w' => f ≤ x.2 ∧ x.2 ≤ i ∧ x.1 = (decide ((i : Int) < r.length) && ((r.take x.2).drop f).all fun y => before y (r.getD i default)) ∧ St w w' (fun _ => False) [.row vo 24 3 out.length (segCells out vs), .blk w.heap.size #[.int .i64 obj, .int .i64 kind, .slice a l.length c] 24] [.rd 11 OpT.enc (.slice al r.length cl) r]) (fun x => i - x.2) (decide ((i : Int) < r.length), f) rfl ⟨Nat.le_refl _, hf, by simp only; rw [List.drop_eq_nil_of_le (by rw [List.length_take]; omega)]; simp, s3⟩ ?_
    rintro ⟨b, k⟩ w4 ⟨hfk, hki, hb, s4⟩
    simp only at hfk hki hb
    have g4 : RdS w4 11 OpT.enc (.slice al r.length cl) r := s4.get 0 rfl
    have tail : b = false ∨ k = i → b = (decide ((i : Int) < r.length) && ((r.take i).drop f).all fun y => before y (r.getD i default)) := by
      rintro (rfl | rfl)
      · rcases hd : decide ((i : Int) < r.length) with _ | _
        · rfl
        · rw [hd, Bool.true_and] at hb
          rw [Bool.true_and, all_less hki hb.symm]
      · exact hb
    by_cases hk : k < i
    · have hk' : (k : Int) < i := by omega
      cases b with
      | true =>
        have hir : i < r.length := by
          rcases hd : decide ((i : Int) < r.length) with _ | _
          · rw [hd] at hb; cases hb
          · have := of_decide_eq_true hd; omega
        have hir' : (i : Int) < r.length := by omega
        obtain ⟨q, rfl⟩ := g4.ptr (by omega)
        have ck := g4.at OpT.len (show k < r.length by omega)
        have ci := g4.at OpT.len hir
        have hql := g4.blt OpT.len (by decide) (by omega)
        simp (disch := first | omega | exact okFill_t rfl | exact okSize_t rfl | exact fun h => h | (simp only [World.size_alloc, World.size_drew, World.size_setCell, size_fill, bytesW]; omega)) only [go_sem, c24, c24S0, c24S1, c24L0, c24S2, c24S4, c24S5, c24L1, c24S6, c24S7, hk']
        refine c24draw0 (Chg (fun _ => False) _) (Chg.refl _ _) ?_
        simp (disch := first | omega | exact okFill_t rfl | exact okSize_t rfl | exact fun h => h | (simp only [World.size_alloc, World.size_drew, World.size_setCell, size_fill, bytesW]; omega)) only [go_sem, c24, c24S0, c24S1, c24L0, c24S2, c24S4, c24S5, c24L1, c24S6, c24S7, c24D0, hk', ck, ci, hir']
        refine ⟨⟨by omega, by omega⟩, by omega, Ret.mono (rbefore_ok r[k] r[i] _) ?_⟩
        rintro _ w5 ⟨rfl, b5⟩
        simp (disch := first | omega | exact okFill_t rfl | exact okSize_t rfl | exact fun h => h | (simp only [World.size_alloc, World.size_drew, World.size_setCell, size_fill, bytesW]; omega)) only [go_sem, c24, c24S0, c24S1, c24L0, c24S2, c24S4, c24S5, c24L1, c24S6, c24S7, c24D0, hk', ck, ci, hir']
        refine ⟨⟨by omega, by omega⟩, (_, k + 1), rfl, ⟨by simp only; omega, by simp only; omega, ?_, (s4.drew).call b5⟩, by simp only; omega⟩
        simp only
        rw [take_drop_succ (by omega) hfk, List.all_append]
        have hpre : (((r.take k).drop f).all fun y => before y (r.getD i default)) = true := by
          have := hb.symm
          rw [Bool.and_eq_true] at this; exact this.2
        rw [hpre, List.getD_eq_getElem?_getD, List.getElem?_eq_getElem hir]
        simp only [Option.getD_some, List.all_cons, List.all_nil, Bool.true_and, Bool.and_true]
        unfold before
        cases r[k].Done <;> rfl
      | false =>
        simp (disch := first | omega | exact okFill_t rfl | exact okSize_t rfl | exact fun h => h | (simp only [World.size_alloc, World.size_drew, World.size_setCell, size_fill, bytesW]; omega)) only [go_sem, c24, c24S0, c24S1, c24L0, c24S2, c24S4, c24S5, c24L1, c24S6, c24S7, hk']
        have hcv := tail (.inl rfl)
        refine put17 (by omega) (by omega) hf hlt hcl s4 (fun hor v' w' s5 => ?_) (fun hbf hir => ?_)
        · simp (disch := first | omega | exact okFill_t rfl | exact okSize_t rfl | exact fun h => h | (simp only [World.size_alloc, World.size_drew, World.size_setCell, size_fill, bytesW]; omega)) only [go_sem, c24, c24S0, c24S1, c24L0, c24S2, c24S3, c24S4, c24S5, c24L1, c24S6, c24S7]
          obtain ⟨n1, n2⟩ := new1 _ hcv hor
          refine ⟨⟨by omega, by omega⟩, (i + 1, i, v'), rfl, ⟨Nat.le_add_left 1 i, Nat.succ_le_succ hlt, Nat.le_succ i, out ++ [(⟨obj, kind, (r.take i).drop f⟩ : Seg)], vs ++ [.slice (offA al cl f 11) (i - f) (cl - f)], by simp [hvs], by rw [List.length_append]; exact Nat.succ_le_succ hout, hpc', n1, n2, ?_⟩, by simp only; omega⟩
          rw [hcells, List.length_append]
          exact s5
        · simp (disch := first | omega | exact okFill_t rfl | exact okSize_t rfl | exact fun h => h | (simp only [World.size_alloc, World.size_drew, World.size_setCell, size_fill, bytesW]; omega)) only [go_sem, c24, c24S0, c24S1, c24L0, c24S2, c24S3, c24S4, c24S5, c24L1, c24S6, c24S7]
          obtain ⟨n1, n2⟩ := old1 _ hcv hbf hir
          exact ⟨⟨by omega, by omega⟩, (i + 1, f, vo), rfl, ⟨Nat.le_add_left 1 i, Nat.succ_le_succ hlt, Nat.le_succ_of_le hf, out, vs, hvs, Nat.le_succ_of_le hout, hpc, n1, n2, s4⟩, by simp only; omega⟩
    · have hk' : ¬ (k : Int) < i := by omega
      simp (disch := first | omega | exact okFill_t rfl | exact okSize_t rfl | exact fun h => h | (simp only [World.size_alloc, World.size_drew, World.size_setCell, size_fill, bytesW]; omega)) only [go_sem, c24, c24S0, c24S1, c24L0, c24S2, c24S4, c24S5, c24L1, c24S6, c24S7, hk']
      have hcv := tail (.inr (by omega))
      refine put17 (by omega) (by omega) hf hlt hcl s4 (fun hor v' w' s5 => ?_) (fun hbf hir => ?_)
      · simp (disch := first | omega | exact okFill_t rfl | exact okSize_t rfl | exact fun h => h | (simp only [World.size_alloc, World.size_drew, World.size_setCell, size_fill, bytesW]; omega)) only [go_sem, c24, c24S0, c24S1, c24L0, c24S2, c24S3, c24S4, c24S5, c24L1, c24S6, c24S7]
        obtain ⟨n1, n2⟩ := new1 _ hcv hor
        refine ⟨⟨by omega, by omega⟩, (i + 1, i, v'), rfl, ⟨Nat.le_add_left 1 i, Nat.succ_le_succ hlt, Nat.le_succ i, out ++ [(⟨obj, kind, (r.take i).drop f⟩ : Seg)], vs ++ [.slice (offA al cl f 11) (i - f) (cl - f)], by simp [hvs], by rw [List.length_append]; exact Nat.succ_le_succ hout, hpc', n1, n2, ?_⟩, by simp only; omega⟩
        rw [hcells, List.length_append]
        exact s5
      · simp (disch := first | omega | exact okFill_t rfl | exact okSize_t rfl | exact fun h => h | (simp only [World.size_alloc, World.size_drew, World.size_setCell, size_fill, bytesW]; omega)) only [go_sem, c24, c24S0, c24S1, c24L0, c24S2, c24S3, c24S4, c24S5, c24L1, c24S6, c24S7]
        obtain ⟨n1, n2⟩ := old1 _ hcv hbf hir
        exact ⟨⟨by omega, by omega⟩, (i + 1, f, vo), rfl, ⟨Nat.le_add_left 1 i, Nat.succ_le_succ hlt, Nat.le_succ_of_le hf, out, vs, hvs, Nat.le_succ_of_le hout, hpc, n1, n2, s4⟩, by simp only; omega⟩
  · have hlt' : ¬ (i : Int) ≤ r.length := by omega
    simp (disch := first | omega | exact okFill_t rfl | exact okSize_t rfl | exact fun h => h | (simp only [World.size_alloc, World.size_drew, World.size_setCell, size_fill, bytesW]; omega)) only [go_sem, c24, c24S0, c24S1, c24L0, c24S2, c24S3, c24S4, c24S5, c24L1, c24S6, c24S7, hlt']
    have hie : i = r.length + 1 := by omega
    refine ⟨⟨r, hs, ?_⟩, s3.bel⟩
    rw [hend hie]
    have hrr : RdS w3 11 OpT.enc (.slice al r.length cl) r := s3.get 0 rfl
    refine ⟨List.zipWith segC out vs, by simp [hvs], ?_, ?_⟩
    · intro j c x hc hx
      rw [List.getElem?_zipWith, hx] at hc
      cases hv : vs[j]? with
      | none => rw [hv] at hc; cases hc
      | some v =>
        rw [hv] at hc
        simp only [Option.some.injEq] at hc
        subst hc
        refine ⟨rfl, v, rfl, (hpc j x v hx hv).rd hrr, ?_⟩
        obtain ⟨f', t', _, _, _, e⟩ := hpc j x v hx hv
        rw [e, List.length_drop, List.length_take]; omega
    · rw [segCells_flat]
      exact Rd.of_own (s3.row 0 rfl)
end Go.Proofs.Ytbeoedgoikcbpaa.Cut

namespace Go.Proofs.Ytbeoedgoikcbpaa.Cut
set_option linter.unusedSimpArgs false
set_option linter.unusedVariables false
set_option maxRecDepth 100000
open Go Go.Ann Go.RowKit
def Next (l : List OpT) (any : Bool) (last : Int) (k : Nat) (found : Bool) (next : Int) : Prop :=
  (found = false ∧ ∀ o ∈ l.take k, any = true ∧ o.Object ≤ last) ∨ (found = true ∧ (∃ o ∈ l.take k, o.Object = next) ∧ (any = true → last < next) ∧ ∀ o ∈ l.take k, (any = true → last < o.Object) → next ≤ o.Object)
def left (l : List OpT) (any : Bool) (last : Int) : List OpT := l.filter fun o => !any || decide (last < o.Object)
theorem mem_take_succ {l : List OpT} {k : Nat} (hk : k < l.length) {o : OpT} : o ∈ l.take (k + 1) ↔ o ∈ l.take k ∨ o = l[k] := by
  rw [List.take_succ_eq_append_getElem hk, List.mem_append, List.mem_singleton]
theorem Next.take {l : List OpT} {any found : Bool} {last next : Int} {k : Nat} (h : Next l any last k found next) (hk : k < l.length) (h1 : any = true → last < l[k].Object) (h2 : found = true → l[k].Object < next) : Next l any last (k + 1) true l[k].Object := by
  refine .inr ⟨rfl, ⟨_, (mem_take_succ hk).2 (.inr rfl), rfl⟩, h1, fun o ho hlo => ?_⟩
  rcases (mem_take_succ hk).1 ho with ho | rfl
  · rcases h with ⟨_, h⟩ | ⟨hf, _, _, h⟩
    · have := h o ho; have := hlo this.1; omega
    · have := h o ho hlo; have := h2 hf; omega
  · exact Int.le_refl _
end Go.Proofs.Ytbeoedgoikcbpaa.Cut

namespace Go.Proofs.Ytbeoedgoikcbpaa.Cut
set_option linter.unusedSimpArgs false
set_option linter.unusedVariables false
set_option maxRecDepth 100000
open Go Go.Ann Go.RowKit
theorem sorts_unique {l a b : List OpT} (hp : Pure l) (ha : Sorts earI l a) (hb : Sorts earI l b) : a = b := by
  refine List.Perm.eq_of_pairwise ?_ ha.2 hb.2 (ha.1.trans hb.1.symm)
  intro x y hx hy h1 h2
  refine hp x (ha.1.mem_iff.1 hx) y (hb.1.mem_iff.1 hy) ?_
  rw [ear_neg] at h1 h2
  omega
end Go.Proofs.Ytbeoedgoikcbpaa.Cut

namespace Go.Proofs.Ytbeoedgoikcbpaa.Cut
set_option linter.unusedSimpArgs false
set_option linter.unusedVariables false
set_option maxRecDepth 100000
open Go Go.Ann Go.RowKit
theorem blk_okSt {w : World} {b : Nat} {cs : Array Value} {t : TypeId} (h : Blk w b cs t) {vs : List Value} (h1 : ∀ u ∈ vs, u.oneCell' = true) (h2 : vs.length ≤ cs.size) : okSt w b 0 vs := by
  rw [okSt_iff]
  refine ⟨h1, fun j hj => ⟨⟨cs[j]'(by omega), ?_⟩, ?_⟩⟩
  · rw [h.rules.1, Nat.zero_add]; exact Array.getElem?_eq_getElem (by omega)
  · exact h.rules.2.1 _
theorem between_ok (a b c : Int) (w : World) : Ret Try.prog 77 [.int .i64 a, .int .i64 b, .int .i64 c] w fun v w' => (∃ r, v = .bool r) ∧ Below w.heap.size w w' := by
  refine ent77 _ _ _ _ _ ?_
  simp (disch := first | omega | exact okFill_t rfl | exact okSize_t rfl | exact fun h => h | (simp only [World.size_alloc, World.size_drew, World.size_setCell, size_fill, bytesW]; omega)) only [go_sem, c77]
  refine ⟨fun h => ?_, fun h => ?_⟩
  · (repeat' (first | with_reducible exact Below.refl _ _ | with_reducible assumption | (with_reducible refine Below.drew ?_) | (with_reducible refine Below.alloc ?_ ?_ _) | (with_reducible refine Below.setCell ?_ ?_ _) | (with_reducible refine Below.fill ?_ ?_) | (with_reducible refine Below.via (by assumption) ?_ ?_) | omega | (simp only [World.size_alloc, World.size_drew, World.size_setCell, size_fill, bytesW]; omega)))
  · (repeat' (first | with_reducible exact Below.refl _ _ | with_reducible assumption | (with_reducible refine Below.drew ?_) | (with_reducible refine Below.alloc ?_ ?_ _) | (with_reducible refine Below.setCell ?_ ?_ _) | (with_reducible refine Below.fill ?_ ?_) | (with_reducible refine Below.via (by assumption) ?_ ?_) | omega | (simp only [World.size_alloc, World.size_drew, World.size_setCell, size_fill, bytesW]; omega)))
theorem answer_ok (a b : Int) (w : World) : Ret Try.prog 79 [.int .i64 a, .int .i64 b] w fun v w' => (∃ r, v = .bool r) ∧ Below w.heap.size w w' := by
  refine ent79 _ _ _ _ ?_
  simp (disch := first | omega | exact okFill_t rfl | exact okSize_t rfl | exact fun h => h | (simp only [World.size_alloc, World.size_drew, World.size_setCell, size_fill, bytesW]; omega)) only [go_sem, c79, c79S0, c79S1, c79S2, c79S3, c79S4, c79S5, c79S6]
  refine ⟨fun _ => by (repeat' (first | with_reducible exact Below.refl _ _ | with_reducible assumption | (with_reducible refine Below.drew ?_) | (with_reducible refine Below.alloc ?_ ?_ _) | (with_reducible refine Below.setCell ?_ ?_ _) | (with_reducible refine Below.fill ?_ ?_) | (with_reducible refine Below.via (by assumption) ?_ ?_) | omega | (simp only [World.size_alloc, World.size_drew, World.size_setCell, size_fill, bytesW]; omega))), fun _ => ⟨fun _ => ⟨fun _ => by (repeat' (first | with_reducible exact Below.refl _ _ | with_reducible assumption | (with_reducible refine Below.drew ?_) | (with_reducible refine Below.alloc ?_ ?_ _) | (with_reducible refine Below.setCell ?_ ?_ _) | (with_reducible refine Below.fill ?_ ?_) | (with_reducible refine Below.via (by assumption) ?_ ?_) | omega | (simp only [World.size_alloc, World.size_drew, World.size_setCell, size_fill, bytesW]; omega))), fun _ => by (repeat' (first | with_reducible exact Below.refl _ _ | with_reducible assumption | (with_reducible refine Below.drew ?_) | (with_reducible refine Below.alloc ?_ ?_ _) | (with_reducible refine Below.setCell ?_ ?_ _) | (with_reducible refine Below.fill ?_ ?_) | (with_reducible refine Below.via (by assumption) ?_ ?_) | omega | (simp only [World.size_alloc, World.size_drew, World.size_setCell, size_fill, bytesW]; omega)))⟩, fun _ => ⟨fun _ => Ret.mono (between_ok _ _ _ _) ?_, fun _ => ⟨fun _ => Ret.mono (between_ok _ _ _ _) ?_, fun _ => Ret.mono (between_ok _ _ _ _) ?_⟩⟩⟩⟩
  all_goals
    rintro _ w2 ⟨⟨r, rfl⟩, b2⟩
    simp (disch := first | omega | exact okFill_t rfl | exact okSize_t rfl | exact fun h => h | (simp only [World.size_alloc, World.size_drew, World.size_setCell, size_fill, bytesW]; omega)) only [go_sem, c79, c79S0, c79S1, c79S2, c79S3, c79S4, c79S5, c79S6]
    exact b2
structure Row4 where
  kind : Int
  method : Int
  args : Int
  how : Int
def Row4.enc (r : Row4) : List Value := [.int .i64 r.kind, .int .i64 r.method, .int .i64 r.args, .int .i64 r.how]
theorem Row4.len (r : Row4) : r.enc.length = 4 := rfl
theorem Row4.one (r : Row4) : ∀ u ∈ r.enc, u.oneCell' = true := by intro u hu; simp only [Row4.enc, List.mem_cons, List.not_mem_nil, or_false] at hu; rcases hu with rfl | rfl | rfl | rfl <;> rfl
theorem Row4.at (r : Row4) : r.enc[0]? = some (.int .i64 r.kind) ∧ r.enc[1]? = some (.int .i64 r.method) ∧ r.enc[2]? = some (.int .i64 r.args) ∧ r.enc[3]? = some (.int .i64 r.how) := ⟨rfl, rfl, rfl, rfl⟩
def rowsTable : List Row4 := [⟨1, 1, 0, 2⟩, ⟨1, 2, 1, 0⟩, ⟨1, 3, 2, 1⟩, ⟨2, 1, 0, 3⟩, ⟨2, 4, 0, 0⟩, ⟨2, 5, 0, 0⟩, ⟨3, 6, 1, 0⟩, ⟨3, 7, 0, 4⟩, ⟨4, 8, 1, 0⟩, ⟨4, 9, 0, 4⟩, ⟨5, 10, 1, 1⟩, ⟨5, 11, 1, 1⟩, ⟨5, 12, 1, 1⟩, ⟨6, 13, 0, 0⟩, ⟨6, 14, 0, 0⟩]
set_option maxRecDepth 100000 in
theorem rows_ok (w : World) : Ret Try.prog 109 [] w fun v w' => RdS w' 4 Row4.enc v rowsTable ∧ Below w.heap.size w w' := by
  refine ent109 _ _ ?_
  simp (disch := first | omega | exact okFill_t rfl | exact okSize_t rfl | exact fun h => h | (simp only [World.size_alloc, World.size_drew, World.size_setCell, size_fill, bytesW]; omega)) only [go_sem, c109]
  refine bdW_built (cells := (Row4.enc ⟨1, 1, 0, 2⟩).toArray) (by kernel_rfl) ?_
  simp (disch := first | omega | exact okFill_t rfl | exact okSize_t rfl | exact fun h => h | (simp only [World.size_alloc, World.size_drew, World.size_setCell, size_fill, bytesW]; omega)) only [go_sem, c109]
  refine bdW_built (cells := (Row4.enc ⟨1, 2, 1, 0⟩).toArray) (by kernel_rfl) ?_
  simp (disch := first | omega | exact okFill_t rfl | exact okSize_t rfl | exact fun h => h | (simp only [World.size_alloc, World.size_drew, World.size_setCell, size_fill, bytesW]; omega)) only [go_sem, c109]
  refine bdW_built (cells := (Row4.enc ⟨1, 3, 2, 1⟩).toArray) (by kernel_rfl) ?_
  simp (disch := first | omega | exact okFill_t rfl | exact okSize_t rfl | exact fun h => h | (simp only [World.size_alloc, World.size_drew, World.size_setCell, size_fill, bytesW]; omega)) only [go_sem, c109]
  refine bdW_built (cells := (Row4.enc ⟨2, 1, 0, 3⟩).toArray) (by kernel_rfl) ?_
  simp (disch := first | omega | exact okFill_t rfl | exact okSize_t rfl | exact fun h => h | (simp only [World.size_alloc, World.size_drew, World.size_setCell, size_fill, bytesW]; omega)) only [go_sem, c109]
  refine bdW_built (cells := (Row4.enc ⟨2, 4, 0, 0⟩).toArray) (by kernel_rfl) ?_
  simp (disch := first | omega | exact okFill_t rfl | exact okSize_t rfl | exact fun h => h | (simp only [World.size_alloc, World.size_drew, World.size_setCell, size_fill, bytesW]; omega)) only [go_sem, c109]
  refine bdW_built (cells := (Row4.enc ⟨2, 5, 0, 0⟩).toArray) (by kernel_rfl) ?_
  simp (disch := first | omega | exact okFill_t rfl | exact okSize_t rfl | exact fun h => h | (simp only [World.size_alloc, World.size_drew, World.size_setCell, size_fill, bytesW]; omega)) only [go_sem, c109]
  refine bdW_built (cells := (Row4.enc ⟨3, 6, 1, 0⟩).toArray) (by kernel_rfl) ?_
  simp (disch := first | omega | exact okFill_t rfl | exact okSize_t rfl | exact fun h => h | (simp only [World.size_alloc, World.size_drew, World.size_setCell, size_fill, bytesW]; omega)) only [go_sem, c109]
  refine bdW_built (cells := (Row4.enc ⟨3, 7, 0, 4⟩).toArray) (by kernel_rfl) ?_
  simp (disch := first | omega | exact okFill_t rfl | exact okSize_t rfl | exact fun h => h | (simp only [World.size_alloc, World.size_drew, World.size_setCell, size_fill, bytesW]; omega)) only [go_sem, c109]
  refine bdW_built (cells := (Row4.enc ⟨4, 8, 1, 0⟩).toArray) (by kernel_rfl) ?_
  simp (disch := first | omega | exact okFill_t rfl | exact okSize_t rfl | exact fun h => h | (simp only [World.size_alloc, World.size_drew, World.size_setCell, size_fill, bytesW]; omega)) only [go_sem, c109]
  refine bdW_built (cells := (Row4.enc ⟨4, 9, 0, 4⟩).toArray) (by kernel_rfl) ?_
  simp (disch := first | omega | exact okFill_t rfl | exact okSize_t rfl | exact fun h => h | (simp only [World.size_alloc, World.size_drew, World.size_setCell, size_fill, bytesW]; omega)) only [go_sem, c109]
  refine bdW_built (cells := (Row4.enc ⟨5, 10, 1, 1⟩).toArray) (by kernel_rfl) ?_
  simp (disch := first | omega | exact okFill_t rfl | exact okSize_t rfl | exact fun h => h | (simp only [World.size_alloc, World.size_drew, World.size_setCell, size_fill, bytesW]; omega)) only [go_sem, c109]
  refine bdW_built (cells := (Row4.enc ⟨5, 11, 1, 1⟩).toArray) (by kernel_rfl) ?_
  simp (disch := first | omega | exact okFill_t rfl | exact okSize_t rfl | exact fun h => h | (simp only [World.size_alloc, World.size_drew, World.size_setCell, size_fill, bytesW]; omega)) only [go_sem, c109]
  refine bdW_built (cells := (Row4.enc ⟨5, 12, 1, 1⟩).toArray) (by kernel_rfl) ?_
  simp (disch := first | omega | exact okFill_t rfl | exact okSize_t rfl | exact fun h => h | (simp only [World.size_alloc, World.size_drew, World.size_setCell, size_fill, bytesW]; omega)) only [go_sem, c109]
  refine bdW_built (cells := (Row4.enc ⟨6, 13, 0, 0⟩).toArray) (by kernel_rfl) ?_
  simp (disch := first | omega | exact okFill_t rfl | exact okSize_t rfl | exact fun h => h | (simp only [World.size_alloc, World.size_drew, World.size_setCell, size_fill, bytesW]; omega)) only [go_sem, c109]
  refine bdW_built (cells := (Row4.enc ⟨6, 14, 0, 0⟩).toArray) (by kernel_rfl) ?_
  simp (disch := first | omega | exact okFill_t rfl | exact okSize_t rfl | exact fun h => h | (simp only [World.size_alloc, World.size_drew, World.size_setCell, size_fill, bytesW]; omega)) only [go_sem, c109]
  refine bsW_cells (cells := (rowsTable.flatMap Row4.enc).toArray) ty148mkI (by decide) (by decide) (by kernel_rfl) ?_
  simp (disch := first | omega | exact okFill_t rfl | exact okSize_t rfl | exact fun h => h | (simp only [World.size_alloc, World.size_drew, World.size_setCell, size_fill, bytesW]; omega)) only [go_sem, c109]
  exact ⟨rd_new (w := w) (sz := 4) (n := 15) (cs := (rowsTable.flatMap Row4.enc).toArray) rfl, by (repeat' (first | with_reducible exact Below.refl _ _ | with_reducible assumption | (with_reducible refine Below.drew ?_) | (with_reducible refine Below.alloc ?_ ?_ _) | (with_reducible refine Below.setCell ?_ ?_ _) | (with_reducible refine Below.fill ?_ ?_) | (with_reducible refine Below.via (by assumption) ?_ ?_) | omega | (simp only [World.size_alloc, World.size_drew, World.size_setCell, size_fill, bytesW]; omega)))⟩
theorem find_ok (a b : Int) (w : World) : Ret Try.prog 78 [.int .i64 a, .int .i64 b] w fun v w' => (∃ r : Row4, ∃ k, v = .tuple #[.agg r.enc.toArray, .bool k]) ∧ Below w.heap.size w w' := by
  refine ent78 _ _ _ _ ?_
  simp (disch := first | omega | exact okFill_t rfl | exact okSize_t rfl | exact fun h => h | (simp only [World.size_alloc, World.size_drew, World.size_setCell, size_fill, bytesW]; omega)) only [go_sem, c78, c78S0, c78S1, c78L0, c78S2, c78S3]
  obtain ⟨z, hz⟩ : ∃ z : Row4, z = ⟨0, 0, 0, 0⟩ := ⟨_, rfl⟩
  have s1 := (St.start (W0 := w)).box z.enc.toArray 121
  have hzz : #[Value.int .i64 0, .int .i64 0, .int .i64 0, .int .i64 0] = z.enc.toArray := by rw [hz]; rfl
  rw [hzz]
  generalize w.alloc (.cells z.enc.toArray 121) = w1 at s1 ⊢
  obtain ⟨b0, hb0⟩ : ∃ b, b = w.heap.size := ⟨_, rfl⟩
  have hbb : ∀ w', Below w.heap.size w w' → Below b0 w w' := fun _ h => by rw [hb0]; exact h
  rw [← hb0] at s1 ⊢
  have az := z.at
  refine Ret.mono (rows_ok _) ?_
  rintro vt w2 ⟨ht, b2⟩
  obtain ⟨pt, ct, rfl, _⟩ := ht.form
  have s2 := s1.call b2
  simp (disch := first | omega | exact okFill_t rfl | exact okSize_t rfl | exact fun h => h | (simp only [World.size_alloc, World.size_drew, World.size_setCell, size_fill, bytesW]; omega)) only [go_sem, c78, c78S0, c78S1, c78L0, c78S2, c78S3]
  refine W_loopU (fun k : Nat => [(7, .int .i64 k)]) (fun k w' => Below w2.heap.size w2 w' ∧ k ≤ rowsTable.length) (fun k => rowsTable.length - k) 0 rfl ⟨Below.refl _ _, Nat.zero_le _⟩ ?_
  rintro k w3 ⟨b3, hk⟩
  have s3 := s2.call b3
  have r3 := s3.rules 0 rfl
  have h3 := ht.below b3 (by decide)
  have b03 := s3.bel
  have hsz : rowsTable.length = 15 := rfl
  generalize rowsTable = tb at *
  by_cases hlt : k < tb.length
  · have hlt' : (k : Int) < tb.length := by omega
    obtain ⟨p, rfl⟩ := ht.ptr (by omega)
    have ek := h3.eltB (Below.refl _ _) Row4.len (by decide) hlt
    have ck := h3.at Row4.len hlt
    have ak := tb[k].at
    simp (disch := first | omega | exact okFill_t rfl | exact okSize_t rfl | exact fun h => h | (simp only [World.size_alloc, World.size_drew, World.size_setCell, size_fill, bytesW]; omega)) only [go_sem, c78, c78S0, c78S1, c78L0, c78S2, c78S3, hlt', ek, ak, ck, r3, az]
    refine ⟨by omega, fun e1 => ⟨by omega, fun e2 => ⟨by omega, tb[k].len.symm, blk_okSt (s3.blk 0 rfl) tb[k].one (Nat.le_refl _), ⟨tb[k], true, rfl⟩, hbb _ ((s3.fill 0 rfl (cs := tb[k].enc.toArray) rfl).bel)⟩, fun e2 => ⟨⟨by omega, by omega⟩, k + 1, rfl, ⟨b3, by omega⟩, by omega⟩⟩, fun e1 => ⟨⟨by omega, by omega⟩, k + 1, rfl, ⟨b3, by omega⟩, by omega⟩⟩
  · have hlt' : ¬ (k : Int) < tb.length := by omega
    simp (disch := first | omega | exact okFill_t rfl | exact okSize_t rfl | exact fun h => h | (simp only [World.size_alloc, World.size_drew, World.size_setCell, size_fill, bytesW]; omega)) only [go_sem, c78, c78S0, c78S1, c78L0, c78S2, c78S3, hlt', r3]
    refine bdW_built (cells := z.enc.toArray) (by rw [hz]; kernel_rfl) ?_
    simp (disch := first | omega | exact okFill_t rfl | exact okSize_t rfl | exact fun h => h | (simp only [World.size_alloc, World.size_drew, World.size_setCell, size_fill, bytesW]; omega)) only [go_sem, c78, c78S0, c78S1, c78L0, c78S2, c78S3, hlt', r3, az]
    exact ⟨z.len.symm, blk_okSt (s3.blk 0 rfl) z.one (Nat.le_refl _), ⟨z, false, rfl⟩, hbb _ ((s3.fill 0 rfl (cs := z.enc.toArray) rfl).bel)⟩
end Go.Proofs.Ytbeoedgoikcbpaa.Cut

namespace Go.Proofs.Ytbeoedgoikcbpaa.Cut
set_option linter.unusedSimpArgs false
set_option linter.unusedVariables false
set_option maxRecDepth 100000
open Go Go.Ann Go.RowKit
def NoCut (l : List OpT) : Prop := ∀ p o q, l = p ++ o :: q → p ≠ [] → p.all (fun x => before x o) = false
structure Cutting (acc : List Seg) : Prop where
  apart : acc.Pairwise fun s t => ∀ x ∈ s.ops, ∀ y ∈ t.ops, before x y = true
  one : ∀ s ∈ acc, NoCut s.ops
theorem before_later {x o y : OpT} (h : before x o = true) (hy : o.Invoke ≤ y.Invoke) : before x y = true := by
  unfold before at *
  rw [Bool.and_eq_true, decide_eq_true_eq] at *
  exact ⟨h.1, by omega⟩
theorem noCut_single (o : OpT) : NoCut [o] := fun p x q h hp => by
  cases p with
  | nil => exact absurd rfl hp
  | cons a p => cases p <;> simp at h
theorem noCut_snoc {l : List OpT} {o : OpT} (h : NoCut l) (ho : l.all (fun x => before x o) = false) : NoCut (l ++ [o]) := fun p x q e hp => by
  rcases List.eq_nil_or_concat q with rfl | ⟨q', z, rfl⟩
  · have e' := List.append_inj' e rfl
    obtain ⟨rfl, e2⟩ := e'
    simp only [List.cons.injEq, and_true] at e2
    subst e2; exact ho
  · rw [List.concat_eq_append, ← List.cons_append, ← List.append_assoc] at e
    have e' := List.append_inj' e rfl
    exact h p x q' e'.1 hp
theorem Cutting.step {mk : OpT → Int × Int} {acc : List Seg} (h : Cutting acc) (hne : ∀ s ∈ acc, s.ops ≠ []) (o : OpT) (hle : ∀ x ∈ acc.flatMap Seg.ops, x.Invoke ≤ o.Invoke) : Cutting (cutStep segQ mk acc o) := by
  rcases List.eq_nil_or_concat acc with rfl | ⟨ini, s, he⟩
  · rw [cutStep_nil]
    exact ⟨List.pairwise_singleton _ _, fun s hs => by rw [List.mem_singleton.1 hs]; exact noCut_single o⟩
  · rw [List.concat_eq_append] at he
    subst he
    have hap := List.pairwise_append.1 h.apart
    obtain ⟨y, hy⟩ := List.exists_mem_of_ne_nil _ (hne s (by simp))
    have hyo : y.Invoke ≤ o.Invoke := hle y (List.mem_flatMap.2 ⟨s, by simp, hy⟩)
    have far : ∀ a ∈ ini, ∀ x ∈ a.ops, before x o = true := fun a ha x hx => before_later (hap.2.2 a ha s (by simp) x hx y hy) hyo
    cases hq : segQ s o with
    | true =>
      rw [cutStep_new mk ini hq]
      refine ⟨?_, fun t ht => ?_⟩
      · rw [List.pairwise_append]
        refine ⟨h.apart, List.pairwise_singleton _ _, fun a ha b hb x hx z hz => ?_⟩
        rw [List.mem_singleton] at hb; subst hb
        simp only [List.mem_singleton] at hz; subst hz
        rcases List.mem_append.1 ha with ha | ha
        · exact far a ha x hx
        · rw [List.mem_singleton] at ha; subst ha
          unfold segQ at hq
          rw [List.all_eq_true] at hq
          exact hq x hx
      · rcases List.mem_append.1 ht with ht | ht
        · exact h.one t ht
        · rw [List.mem_singleton] at ht; subst ht
          exact noCut_single o
    | false =>
      rw [cutStep_old mk ini hq]
      refine ⟨?_, fun t ht => ?_⟩
      · rw [List.pairwise_append]
        refine ⟨hap.1, List.pairwise_singleton _ _, fun a ha b hb x hx z hz => ?_⟩
        rw [List.mem_singleton] at hb; subst hb
        simp only at hz
        rcases List.mem_append.1 hz with hz | hz
        · exact hap.2.2 a ha s (by simp) x hx z hz
        · rw [List.mem_singleton] at hz; subst hz
          exact far a ha x hx
      · rcases List.mem_append.1 ht with ht | ht
        · exact h.one t (List.mem_append_left _ ht)
        · rw [List.mem_singleton] at ht; subst ht
          exact noCut_snoc (h.one s (by simp)) hq
theorem cutting_fold (mk : OpT → Int × Int) : ∀ (b : List OpT) (acc : List Seg), Cutting acc → (∀ s ∈ acc, s.ops ≠ []) → (acc.flatMap Seg.ops ++ b).Pairwise (fun x y => x.Invoke ≤ y.Invoke) → Cutting (b.foldl (cutStep segQ mk) acc)
  | [], acc, h, _, _ => h
  | o :: b, acc, h, hne, hp => by
    rw [List.foldl_cons]
    refine cutting_fold mk b _ (h.step hne o fun x hx => (List.pairwise_append.1 hp).2.2 x hx o List.mem_cons_self) (cutStep_ne segQ mk acc o hne) ?_
    rw [cutStep_flat, List.append_assoc]
    exact hp
theorem cutting {l : List OpT} (h : l.Pairwise fun a b => ¬ earI b a < 0) (mk : OpT → Int × Int) : Cutting (l.foldl (cutStep segQ mk) []) :=
  cutting_fold mk l [] ⟨List.Pairwise.nil, fun s h => by cases h⟩ (fun s h => by cases h) (by
    rw [List.flatMap_nil, List.nil_append]
    exact h.imp fun {a b} e => by rw [ear_neg] at e; omega)
end Go.Proofs.Ytbeoedgoikcbpaa.Cut

namespace Go.Proofs.Ytbeoedgoikcbpaa
set_option linter.unusedSimpArgs false
set_option linter.unusedVariables false
set_option maxRecDepth 100000
open Go Go.Ann Go.RowKit
theorem rch_good {K : Int} {M : Nat} {l : List OpT} (hK : ∀ o ∈ l, o.Kind = K) (hw : ∀ o ∈ l, o.wf) {p q : Spot} (h : Rch l p q) (hp : Good K M l.length p) : Good K M l.length q := by
  induction h with
  | refl => exact hp
  | step _ hs ih =>
    obtain ⟨k, hk, hr⟩ := nextL_iff.1 hs
    obtain ⟨o, ho, hm, hst, e⟩ := newAt_iff.1 hr
    obtain ⟨hk', rfl⟩ := List.getElem?_eq_some_iff.1 ho
    have := ih.go hk' hK hw hm hst
    rw [← e] at this
    exact this
structure Chain (pre : List OpT) (s0 : List Int) (E : List (List Int)) : Prop where
  up : E.Pairwise fun a b => ltS a b = true
  mem : ∀ t, t ∈ E ↔ Exit pre s0 t
theorem start_mem {n : Nat} {E U0 : List (List Int)} (hU : Uniq E U0) (p : Spot) : p ∈ startP n U0 ↔ ∃ u ∈ E, p = (List.replicate n false, u) := by
  unfold startP
  rw [List.mem_map]
  constructor
  · rintro ⟨t, ht, e⟩; exact ⟨t, (hU.2 t).1 ht, e.symm⟩
  · rintro ⟨u, hu, rfl⟩; exact ⟨u, (hU.2 u).2 hu, rfl⟩
theorem Chain.step {pre b : List OpT} {s0 : List Int} {E U0 X : List (List Int)} {T : List Spot} {bud : Int} (h : Chain pre s0 E) (hab : Apart pre b) (hd : ∀ x ∈ pre, x.Done = true) (hU : Uniq E U0) (hR : SearchR b (startP b.length U0) bud (some T)) (hX : Uniq ((T.filter fun p => fullP b p.1).map Prod.snd) X) : Chain (pre ++ b) s0 X := by
  refine ⟨hX.1, fun t => ?_⟩
  rw [exits_mem hX, Exit.app hab hd]
  constructor
  · rintro ⟨d, h1, h2⟩
    obtain ⟨p, hp, hr⟩ := (closed_mem hR.1 _).1 h1
    obtain ⟨u, hu, rfl⟩ := (start_mem hU p).1 hp
    exact ⟨u, (h.mem u).1 hu, d, hr, h2⟩
  · rintro ⟨u, h1, d, h2, h3⟩
    exact ⟨d, (closed_mem hR.1 _).2 ⟨_, (start_mem hU _).2 ⟨u, (h.mem u).2 h1, rfl⟩, h2⟩, h3⟩
def firstP (k : Int) : List Int := if k = 1 ∨ k = 2 then [0] else []
theorem rfirst_ok (k : Int) (w : World) : Ret Try.prog 23 [.int .i64 k] w fun u w' => (RdS w' 1 intE u (firstP k) ∧ ∀ j, slFoot u j → w.heap.size ≤ j) ∧ Below w.heap.size w w' := by
  refine ent23 _ _ _ ?_
  by_cases h : k = 1 ∨ k = 2
  · have e : firstP k = [0] := if_pos h
    rw [e]
    have fin : ∀ {K : Value → World → Prop}, K (.slice (some ⟨w.heap.size, 0, none⟩) 1 1) (w.alloc (.cells #[.int .i64 0] 3)) → bsW Try.prog 36 1 [0] [.int .i64 0] w K := fun hK => bsW_ones ty36mkI rfl rfl (by decide) (by decide) (intE_one 0) hK
    have res : (RdS (w.alloc (.cells #[.int .i64 0] 3)) 1 intE (.slice (some ⟨w.heap.size, 0, none⟩) 1 1) [0] ∧ ∀ j, slFoot (.slice (some ⟨w.heap.size, 0, none⟩) 1 1) j → w.heap.size ≤ j) ∧ Below w.heap.size w (w.alloc (.cells #[.int .i64 0] 3)) := by
      refine ⟨⟨rd_new (sz := 1) (n := 1) rfl, fun j hj => ?_⟩, (Below.refl _ _).alloc (Nat.le_refl _) _⟩
      have := slFoot_own hj
      simp only [Value.ownBlock, Option.some.injEq] at this
      omega
    rcases h with rfl | rfl
    · simp (disch := first | omega | exact okFill_t rfl | exact okSize_t rfl | exact fun h => h | (simp only [World.size_alloc, World.size_drew, World.size_setCell, size_fill, bytesW]; omega)) only [go_sem, c23, c23S0]
      refine fin ?_
      simp (disch := first | omega | exact okFill_t rfl | exact okSize_t rfl | exact fun h => h | (simp only [World.size_alloc, World.size_drew, World.size_setCell, size_fill, bytesW]; omega)) only [go_sem, c23, c23S0]
      exact res
    · simp (disch := first | omega | exact okFill_t rfl | exact okSize_t rfl | exact fun h => h | (simp only [World.size_alloc, World.size_drew, World.size_setCell, size_fill, bytesW]; omega)) only [go_sem, c23, c23S0]
      refine fin ?_
      simp (disch := first | omega | exact okFill_t rfl | exact okSize_t rfl | exact fun h => h | (simp only [World.size_alloc, World.size_drew, World.size_setCell, size_fill, bytesW]; omega)) only [go_sem, c23, c23S0]
      exact res
  · have e : firstP k = [] := if_neg h
    rw [e]
    have h1 : ¬ k = 1 := fun e => h (.inl e)
    have h2 : ¬ k = 2 := fun e => h (.inr e)
    simp (disch := first | omega | exact okFill_t rfl | exact okSize_t rfl | exact fun h => h | (simp only [World.size_alloc, World.size_drew, World.size_setCell, size_fill, bytesW]; omega)) only [go_sem, c23, c23S0, h1, h2]
    refine ⟨⟨⟨by simp, none, 0, rfl, Nat.le_refl _, fun h => absurd rfl h⟩, fun j hj => ?_⟩, Below.refl _ _⟩
    have := slFoot_own hj
    simp [Value.ownBlock] at this
end Go.Proofs.Ytbeoedgoikcbpaa

namespace Go.Proofs.Ytbeoedgoikcbpaa
set_option linter.unusedSimpArgs false
set_option linter.unusedVariables false
set_option maxRecDepth 100000
open Go Go.Ann Go.RowKit
theorem zipAll {α : Type} (f : α → Bool) : ∀ (a : List α) (d : List Bool), d.length = a.length → (((a.map f).zip d).all (fun p => p.2 || !p.1) = true ↔ ∀ i (h : i < a.length) (h' : i < d.length), f a[i] = true → d[i] = true)
  | [], [], _ => by simp
  | [], _ :: _, h => by simp at h
  | _ :: _, [], h => by simp at h
  | x :: a, e :: d, h => by
    have ih := zipAll f a d (by simpa using h)
    rw [List.map_cons, List.zip_cons_cons, List.all_cons, Bool.and_eq_true, ih]
    constructor
    · rintro ⟨h1, h2⟩ i hi hi' hf
      cases i with
      | zero =>
        simp only [List.getElem_cons_zero] at hf ⊢
        rw [hf] at h1
        simpa using h1
      | succ i => exact h2 i (by simpa using hi) (by simpa using hi') hf
    · intro h0
      refine ⟨?_, fun i hi hi' hf => h0 (i + 1) (by simpa using hi) (by simpa using hi') hf⟩
      have h1 := h0 0 (by simp) (by simp)
      simp only [List.getElem_cons_zero] at h1
      cases hf : f x
      · simp
      · simp [h1 hf]
theorem mayP_iff {l : List OpT} {d : List Bool} {k : Nat} {o : OpT} (hd : d.length = l.length) (hk : k < d.length) : mayP l d k o = true ↔ d[k] = false ∧ ∀ i (h : i < l.length) (h' : i < d.length), before l[i] o = true → d[i] = true := by
  unfold mayP
  rw [Bool.and_eq_true, Bool.not_eq_true', zipAll (fun p => before p o) l d hd, List.getD_eq_getElem?_getD, List.getElem?_eq_getElem hk]
  rfl
theorem fullP_iff {l : List OpT} {d : List Bool} (hd : d.length = l.length) : fullP l d = true ↔ ∀ i (h : i < l.length) (h' : i < d.length), l[i].Done = true → d[i] = true := zipAll (fun o : OpT => o.Done) l d hd
inductive Way (l : List OpT) (s0 : List Int) : List OpT → List Int → Prop
  | nil : Way l s0 [] s0
  | snoc {L : List OpT} {s : List Int} {o : OpT} {t : List Int} : Way l s0 L s → o ∈ l → o ∉ L → (∀ p ∈ l, before p o = true → p ∈ L) → stepP s o = some t → Way l s0 (L ++ [o]) t
theorem Way.perm {l l' : List OpT} (h : ∀ o, o ∈ l ↔ o ∈ l') {s0 : List Int} {L : List OpT} {s : List Int} (k : Way l s0 L s) : Way l' s0 L s := by
  induction k with
  | nil => exact .nil
  | snoc _ h1 h2 h3 h4 ih => exact ih.snoc ((h _).1 h1) h2 (fun p hp => h3 p ((h p).2 hp)) h4
def Marks (l : List OpT) (d : List Bool) (L : List OpT) : Prop := d.length = l.length ∧ ∀ i (h : i < l.length) (h' : i < d.length), d[i] = true ↔ l[i] ∈ L
theorem Marks.start (l : List OpT) : Marks l (List.replicate l.length false) [] := ⟨by simp, fun i h h' => by simp⟩
theorem Marks.snoc {l : List OpT} {d : List Bool} {L : List OpT} (hn : l.Nodup) (h : Marks l d L) {k : Nat} (hk : k < l.length) : Marks l (d.set k true) (L ++ [l[k]]) := by
  refine ⟨by rw [List.length_set]; exact h.1, fun i hi hi' => ?_⟩
  rw [List.length_set] at hi'
  rw [List.getElem_set, List.mem_append, List.mem_singleton]
  by_cases e : k = i
  · subst e; simp
  · rw [if_neg e, h.2 i hi hi']
    refine ⟨.inl, fun h' => h'.elim id fun e' => ?_⟩
    exact absurd ((List.getElem_inj hn).1 e').symm e
theorem Marks.may {l : List OpT} {d : List Bool} {L : List OpT} (h : Marks l d L) {k : Nat} (hk : k < l.length) : mayP l d k l[k] = true ↔ l[k] ∉ L ∧ ∀ p ∈ l, before p l[k] = true → p ∈ L := by
  have hkd : k < d.length := by rw [h.1]; exact hk
  rw [mayP_iff h.1 hkd, ← h.2 k hk hkd, Bool.not_eq_true]
  refine and_congr_right fun _ => ⟨fun h1 p hp hb => ?_, fun h1 i hi hi' hb => (h.2 i hi hi').2 (h1 _ (List.getElem_mem hi) hb)⟩
  obtain ⟨i, hi, rfl⟩ := List.mem_iff_getElem.1 hp
  have hi' : i < d.length := by rw [h.1]; exact hi
  exact (h.2 i hi hi').1 (h1 i hi hi' hb)
theorem Marks.full {l : List OpT} {d : List Bool} {L : List OpT} (h : Marks l d L) : fullP l d = true ↔ ∀ o ∈ l, o.Done = true → o ∈ L := by
  rw [fullP_iff h.1]
  refine ⟨fun h1 o ho hd => ?_, fun h1 i hi hi' hd => (h.2 i hi hi').2 (h1 _ (List.getElem_mem hi) hd)⟩
  obtain ⟨i, hi, rfl⟩ := List.mem_iff_getElem.1 ho
  have hi' : i < d.length := by rw [h.1]; exact hi
  exact (h.2 i hi hi').1 (h1 i hi hi' hd)
theorem rch_way {l : List OpT} (hn : l.Nodup) {s : List Int} {q : Spot} (h : Rch l (List.replicate l.length false, s) q) : ∃ L, Way l s L q.2 ∧ Marks l q.1 L := by
  induction h with
  | refl => exact ⟨[], .nil, .start l⟩
  | step _ hs ih =>
    obtain ⟨L, h1, h2⟩ := ih
    obtain ⟨k, hk, hr⟩ := nextL_iff.1 hs
    obtain ⟨o, ho, hm, hst, e⟩ := newAt_iff.1 hr
    obtain ⟨hk', rfl⟩ := List.getElem?_eq_some_iff.1 ho
    obtain ⟨g1, g2⟩ := (h2.may hk').1 hm
    rw [e]
    exact ⟨_, h1.snoc (List.getElem_mem hk') g1 g2 hst, h2.snoc hn hk'⟩
theorem way_rch {l : List OpT} (hn : l.Nodup) {s : List Int} {L : List OpT} {t : List Int} (h : Way l s L t) : ∃ d, Rch l (List.replicate l.length false, s) (d, t) ∧ Marks l d L := by
  induction h with
  | nil => exact ⟨_, .refl _, .start l⟩
  | @snoc L s' o t' _ h1 h2 h3 h4 ih =>
    obtain ⟨d, g1, g2⟩ := ih
    obtain ⟨k, hk, rfl⟩ := List.mem_iff_getElem.1 h1
    exact ⟨d.set k true, g1.step (nextL_iff.2 ⟨k, hk, newAt_iff.2 ⟨_, List.getElem?_eq_getElem hk, (g2.may hk).2 ⟨h2, h3⟩, h4, rfl⟩⟩), g2.snoc hn hk⟩
theorem exit_way {l : List OpT} (hn : l.Nodup) {s t : List Int} : Exit l s t ↔ ∃ L, Way l s L t ∧ ∀ o ∈ l, o.Done = true → o ∈ L := by
  constructor
  · rintro ⟨d, h, hf⟩
    obtain ⟨L, h1, h2⟩ := rch_way hn h
    exact ⟨L, h1, h2.full.1 hf⟩
  · rintro ⟨L, h, hf⟩
    obtain ⟨d, h1, h2⟩ := way_rch hn h
    exact ⟨d, h1, h2.full.2 hf⟩
theorem exit_perm {l l' : List OpT} (h : l.Perm l') (hn : l.Nodup) {s t : List Int} : Exit l s t ↔ Exit l' s t := by
  rw [exit_way hn, exit_way ((h.nodup_iff).1 hn)]
  constructor
  · rintro ⟨L, h1, h2⟩
    exact ⟨L, h1.perm fun o => h.mem_iff, fun o ho => h2 o (h.mem_iff.2 ho)⟩
  · rintro ⟨L, h1, h2⟩
    exact ⟨L, h1.perm fun o => h.mem_iff.symm, fun o ho => h2 o (h.mem_iff.1 ho)⟩
end Go.Proofs.Ytbeoedgoikcbpaa

namespace Go.Proofs.Ytbeoedgoikcbpaa
set_option linter.unusedSimpArgs false
set_option linter.unusedVariables false
set_option maxRecDepth 100000
open Go Go.Ann Go.RowKit
abbrev OSpot := Nat × List Bool × List Int
structure FS where
  dead : List OSpot
  ids : List Int
  left : Int
  seen : List OSpot
def loopP (g : List Bool → List Int → FS → Bool × FS) (l : List OpT) (d : List Bool) (s : List Int) : Nat → Nat → FS → Bool × FS
  | _, 0, f => (false, f)
  | i, n + 1, f => match l[i]? with
    | none => (false, f)
    | some o => if mayP l d i o then (match stepP s o with
      | none => loopP g l d s (i + 1) n f
      | some t =>
        let r := g (d.set i true) t { f with ids := f.ids ++ [o.ID] }
        if r.1 then r else loopP g l d s (i + 1) n { r.2 with ids := r.2.ids.dropLast }) else loopP g l d s (i + 1) n f
def nextD (ls : List (List OpT)) (g : Nat) : List Bool := List.replicate ((ls[g]?.getD []).length) false
def findP (ls : List (List OpT)) : Nat → Nat → List Bool → List Int → FS → Bool × FS
  | 0, _, _, _, f => (false, f)
  | k + 1, g, d, s, f => match ls[g]? with
    | none => (true, f)
    | some l => if fullP l d then findP ls k (g + 1) (nextD ls (g + 1)) s f
      else if (g, d, s) ∈ f.dead then (false, f)
      else if f.left - 1 < 0 then (false, { f with left := f.left - 1, seen := (g, d, s) :: f.seen })
      else
        let r := loopP (findP ls k g) l d s 0 l.length { f with left := f.left - 1, seen := (g, d, s) :: f.seen }
        if r.1 then r else (false, { r.2 with dead := (g, d, s) :: r.2.dead })
inductive Fin' (ls : List (List OpT)) : Nat → List Bool → List Int → Prop
  | out {g : Nat} {d : List Bool} {s : List Int} : ls[g]? = none → Fin' ls g d s
  | seg {g : Nat} {d : List Bool} {s : List Int} {l : List OpT} {e : List Bool} {t : List Int} : ls[g]? = some l → Rch l (d, s) (e, t) → fullP l e = true → Fin' ls (g + 1) (nextD ls (g + 1)) t → Fin' ls g d s
def work (ls : List (List OpT)) (g : Nat) (d : List Bool) : Nat := undone d + 1 + ((ls.drop (g + 1)).map fun l => l.length + 1).sum + if g < ls.length then 1 else 0
theorem loopP_left {g : List Bool → List Int → FS → Bool × FS} {l : List OpT} {d : List Bool} {s : List Int} (hg : ∀ d t f, (g d t f).2.left ≤ f.left) : ∀ n i f, (loopP g l d s i n f).2.left ≤ f.left
  | 0, i, f => Int.le_refl _
  | n + 1, i, f => by
    have ih := loopP_left (l := l) (d := d) (s := s) hg n (i + 1)
    rw [loopP]
    split
    · exact Int.le_refl _
    · split
      · split
        · exact ih f
        · simp only
          split
          · exact hg _ _ _
          · exact Int.le_trans (ih _) (hg _ _ _)
      · exact ih f
theorem findP_left {ls : List (List OpT)} : ∀ k g d s f, (findP ls k g d s f).2.left ≤ f.left
  | 0, g, d, s, f => Int.le_refl _
  | k + 1, g, d, s, f => by
    rw [findP]
    split
    · exact Int.le_refl _
    · rename_i l _
      split
      · exact findP_left k _ _ _ f
      · split
        · exact Int.le_refl _
        · split
          · simp only; omega
          · have h1 := loopP_left (l := l) (d := d) (s := s) (findP_left (ls := ls) k g) l.length 0 { f with left := f.left - 1, seen := (g, d, s) :: f.seen }
            simp only at h1 ⊢
            split
            · omega
            · simp only; omega
def FS.more (f : FS) (k : Nat) : FS := { f with left := f.left + k }
theorem loopP_more {g : List Bool → List Int → FS → Bool × FS} {l : List OpT} {d : List Bool} {s : List Int} {k : Nat} (hg : ∀ d t f, (g d t f).2.left ≤ f.left) (hm : ∀ d t f, 0 ≤ (g d t f).2.left → g d t (f.more k) = ((g d t f).1, (g d t f).2.more k)) :
    ∀ n i f, 0 ≤ (loopP g l d s i n f).2.left → loopP g l d s i n (f.more k) = ((loopP g l d s i n f).1, (loopP g l d s i n f).2.more k)
  | 0, i, f => fun _ => rfl
  | n + 1, i, f => by
    have ih := loopP_more (l := l) (d := d) (s := s) hg hm n (i + 1)
    have il := loopP_left (l := l) (d := d) (s := s) hg n (i + 1)
    intro h
    rw [loopP] at h ⊢
    rw [loopP]
    cases ho : l[i]? with
    | none => rfl
    | some o =>
      rw [ho] at h
      simp only at h ⊢
      cases hy : mayP l d i o with
      | false =>
        rw [hy] at h
        simp only [Bool.false_eq_true, if_false] at h ⊢
        exact ih f h
      | true =>
        rw [hy] at h
        simp only [if_true] at h ⊢
        cases hs : stepP s o with
        | none =>
          rw [hs] at h
          exact ih f h
        | some t =>
          rw [hs] at h
          simp only at h ⊢
          have e0 : ({ f.more k with ids := (f.more k).ids ++ [o.ID] } : FS) = ({ f with ids := f.ids ++ [o.ID] } : FS).more k := rfl
          rw [e0]
          generalize hr : g (d.set i true) t { f with ids := f.ids ++ [o.ID] } = r at h ⊢
          have hr0 : 0 ≤ r.2.left := by
            cases h1 : r.1 with
            | true => rw [h1] at h; exact h
            | false =>
              rw [h1] at h
              have := il { r.2 with ids := r.2.ids.dropLast }
              simp only [Bool.false_eq_true, if_false] at h this
              omega
          have e1 := hm (d.set i true) t { f with ids := f.ids ++ [o.ID] } (by rw [hr]; exact hr0)
          rw [hr] at e1
          rw [e1]
          cases h1 : r.1 with
          | true => simp [h1]
          | false =>
            rw [h1] at h
            simp only [Bool.false_eq_true, if_false] at h ⊢
            exact ih { r.2 with ids := r.2.ids.dropLast } h
theorem findP_more {ls : List (List OpT)} {m : Nat} : ∀ k g d s f, 0 ≤ (findP ls k g d s f).2.left → findP ls k g d s (f.more m) = ((findP ls k g d s f).1, (findP ls k g d s f).2.more m)
  | 0, g, d, s, f => fun _ => rfl
  | k + 1, g, d, s, f => by
    intro h
    rw [findP] at h ⊢
    rw [findP]
    cases hl : ls[g]? with
    | none => rfl
    | some l =>
      rw [hl] at h
      simp only at h ⊢
      cases hf : fullP l d with
      | true =>
        rw [hf] at h
        simp only [if_true] at h ⊢
        exact findP_more k _ _ _ f h
      | false =>
        rw [hf] at h
        simp only [Bool.false_eq_true, if_false] at h ⊢
        by_cases hd : (g, d, s) ∈ f.dead
        · have hd' : (g, d, s) ∈ (f.more m).dead := hd
          rw [if_pos hd, if_pos hd']
        · have hd' : ¬ (g, d, s) ∈ (f.more m).dead := hd
          rw [if_neg hd] at h ⊢
          rw [if_neg hd']
          by_cases h0 : f.left - 1 < 0
          · rw [if_pos h0] at h
            simp only at h
            omega
          · have h0' : ¬ (f.more m).left - 1 < 0 := by unfold FS.more; simp only; omega
            rw [if_neg h0] at h ⊢
            rw [if_neg h0']
            have e0 : ({ f.more m with left := (f.more m).left - 1, seen := (g, d, s) :: (f.more m).seen } : FS) = ({ f with left := f.left - 1, seen := (g, d, s) :: f.seen } : FS).more m := by
              unfold FS.more; simp only [FS.mk.injEq, true_and, and_true]; omega
            rw [e0]
            generalize hr : loopP (findP ls k g) l d s 0 l.length { f with left := f.left - 1, seen := (g, d, s) :: f.seen } = r at h ⊢
            have hr0 : 0 ≤ r.2.left := by
              cases h1 : r.1 with
              | true => rw [h1] at h; exact h
              | false => rw [h1] at h; exact h
            have e1 := loopP_more (l := l) (d := d) (s := s) (findP_left k g) (findP_more (m := m) k g) l.length 0 { f with left := f.left - 1, seen := (g, d, s) :: f.seen } (by rw [hr]; exact hr0)
            rw [hr] at e1
            rw [e1]
            cases h1 : r.1 with
            | true => simp [h1]
            | false => simp [FS.more]
def Settled (ls : List (List OpT)) : Prop := ∀ g l, ls[g]? = some l → g + 1 < ls.length → ∀ o ∈ l, o.Done = true
def DeadOk (ls : List (List OpT)) (f : FS) : Prop := ∀ p ∈ f.dead, ¬ Fin' ls p.1 p.2.1 p.2.2
theorem Fin'.next {ls : List (List OpT)} {g : Nat} {d : List Bool} {s : List Int} {l : List OpT} (hl : ls[g]? = some l) (h : Fin' ls g d s) (hf : fullP l d = false) : ∃ k, k < l.length ∧ ∃ q ∈ newAt l (d, s) k, Fin' ls g q.1 q.2 := by
  cases h with
  | out h0 => rw [hl] at h0; cases h0
  | @seg _ _ _ l' e t h0 hr he hn =>
    rw [hl] at h0
    obtain rfl := Option.some.inj h0
    rcases hr.cases_head with h1 | ⟨q, hq, h1⟩
    · simp only [Prod.mk.injEq] at h1
      rw [h1.1, he] at hf
      cases hf
    · obtain ⟨k, hk, hq⟩ := nextL_iff.1 hq
      exact ⟨k, hk, q, hq, .seg hl h1 he hn⟩
theorem Fin'.go {ls : List (List OpT)} {g : Nat} {l : List OpT} (hl : ls[g]? = some l) {d : List Bool} {s : List Int} {q : Spot} {k : Nat} (hk : k < l.length) (hq : q ∈ newAt l (d, s) k) (h : Fin' ls g q.1 q.2) : Fin' ls g d s := by
  cases h with
  | out h0 => rw [hl] at h0; cases h0
  | @seg _ _ _ l' e t h0 hr he hn =>
    rw [hl] at h0
    obtain rfl := Option.some.inj h0
    exact .seg hl (.head (nextL_iff.2 ⟨k, hk, hq⟩) hr) he hn
theorem Fin'.full {ls : List (List OpT)} (hS : Settled ls) {g : Nat} {d : List Bool} {s : List Int} {l : List OpT} (hl : ls[g]? = some l) (hd : d.length = l.length) (hf : fullP l d = true) : Fin' ls g d s ↔ Fin' ls (g + 1) (nextD ls (g + 1)) s := by
  refine ⟨fun h => ?_, fun h => .seg hl (.refl _) hf h⟩
  cases h with
  | out h0 => rw [hl] at h0; cases h0
  | @seg _ _ _ l' e t h0 hr he hn =>
    rw [hl] at h0
    obtain rfl := Option.some.inj h0
    by_cases hg : g + 1 < ls.length
    · rw [fullP_done hd (hS g l hl hg)] at hf
      have eT := all_T hf
      rcases hr.cases_head with h1 | ⟨q, hq, _⟩
      · simp only [Prod.mk.injEq] at h1
        rw [h1.2]; exact hn
      · obtain ⟨k, hk, hq⟩ := nextL_iff.1 hq
        obtain ⟨hk', h0, _⟩ := newAt_mem (p := (d, s)) hd hq
        simp only at h0
        have := List.all_eq_true.1 hf _ (List.getElem_mem (l := d) (n := k) (by omega))
        rw [h0] at this
        cases this
    · exact .out (List.getElem?_eq_none (by omega))
theorem loopP_no {ls : List (List OpT)} {g : Nat} {l : List OpT} {d : List Bool} {s : List Int} {G : List Bool → List Int → FS → Bool × FS} (hl : ls[g]? = some l) (hd : d.length = l.length) (hleft : ∀ d t f, (G d t f).2.left ≤ f.left)
    (hG : ∀ d' t f, d'.length = l.length → undone d' + 1 = undone d → (G d' t f).1 = false → 0 ≤ (G d' t f).2.left → DeadOk ls f → ¬ Fin' ls g d' t ∧ DeadOk ls (G d' t f).2) :
    ∀ n i f, (loopP G l d s i n f).1 = false → 0 ≤ (loopP G l d s i n f).2.left → DeadOk ls f → (∀ j, i ≤ j → j < i + n → ∀ q ∈ newAt l (d, s) j, ¬ Fin' ls g q.1 q.2) ∧ DeadOk ls (loopP G l d s i n f).2
  | 0, i, f, _, _, hf => ⟨fun j h1 h2 => by omega, hf⟩
  | n + 1, i, f, h, h0, hf => by
    have ih := loopP_no (s := s) hl hd hleft hG n (i + 1)
    have split : ∀ {P : Nat → Prop}, P i → (∀ j, i + 1 ≤ j → j < i + 1 + n → P j) → ∀ j, i ≤ j → j < i + (n + 1) → P j := fun h1 h2 j hj1 hj2 => by
      rcases Nat.lt_or_ge i j with h' | h'
      · exact h2 j h' (by omega)
      · obtain rfl : j = i := by omega
        exact h1
    rw [loopP] at h h0 ⊢
    cases ho : l[i]? with
    | none =>
      rw [ho] at h h0
      refine ⟨fun j h1 h2 q hq => ?_, hf⟩
      obtain ⟨o, ho', _⟩ := newAt_iff.1 hq
      have := List.getElem?_eq_none_iff.1 ho
      have := (List.getElem?_eq_some_iff.1 ho').1
      omega
    | some o =>
      rw [ho] at h h0
      simp only at h h0 ⊢
      have non : ∀ {P : Prop}, newAt l (d, s) i = [] → ∀ q ∈ newAt l (d, s) i, P := fun e q hq => by rw [e] at hq; cases hq
      cases hy : mayP l d i o with
      | false =>
        rw [hy] at h h0
        simp only [Bool.false_eq_true, if_false] at h h0 ⊢
        have e : newAt l (d, s) i = [] := by unfold newAt; rw [ho]; simp [hy]
        obtain ⟨g1, g2⟩ := ih f h h0 hf
        exact ⟨split (fun q hq => by rw [e] at hq; cases hq) g1, g2⟩
      | true =>
        rw [hy] at h h0
        simp only [if_true] at h h0 ⊢
        cases hs : stepP s o with
        | none =>
          rw [hs] at h h0
          simp only at h h0 ⊢
          have e : newAt l (d, s) i = [] := by unfold newAt; rw [ho]; simp [hy, hs]
          obtain ⟨g1, g2⟩ := ih f h h0 hf
          exact ⟨split (fun q hq => by rw [e] at hq; cases hq) g1, g2⟩
        | some t =>
          rw [hs] at h h0
          simp only at h h0 ⊢
          have e : newAt l (d, s) i = [(d.set i true, t)] := by unfold newAt; rw [ho]; simp [hy, hs]
          obtain ⟨hq1, hq2⟩ := nextL_mem (l := l) (p := (d, s)) (q := (d.set i true, t)) (k := i + 1) hd (by rw [nextL, e]; simp)
          have hGi := hG (d.set i true) t { f with ids := f.ids ++ [o.ID] } hq1 hq2
          generalize G (d.set i true) t { f with ids := f.ids ++ [o.ID] } = r at h h0 hGi ⊢
          cases h1 : r.1 with
          | true => rw [h1] at h; simp only [if_true] at h; rw [h1] at h; cases h
          | false =>
            rw [h1] at h h0
            simp only [Bool.false_eq_true, if_false] at h h0 ⊢
            have hl0 := loopP_left (l := l) (d := d) (s := s) hleft n (i + 1) { r.2 with ids := r.2.ids.dropLast }
            simp only at hl0
            obtain ⟨g1, g2⟩ := hGi h1 (by omega) hf
            obtain ⟨g3, g4⟩ := ih { r.2 with ids := r.2.ids.dropLast } h h0 g2
            exact ⟨split (fun q hq => by rw [e, List.mem_singleton] at hq; subst hq; exact g1) g3, g4⟩
theorem undone_rep (n : Nat) : undone (List.replicate n false) = n := by unfold undone; rw [List.count_replicate]; simp
theorem work_next {ls : List (List OpT)} {g : Nat} {d : List Bool} (hg : g < ls.length) : work ls (g + 1) (nextD ls (g + 1)) + 1 ≤ work ls g d := by
  unfold work nextD
  rw [undone_rep, if_pos hg]
  by_cases h : g + 1 < ls.length
  · rw [if_pos h, List.drop_eq_getElem_cons h, List.getElem?_eq_getElem h]
    simp only [Option.getD_some, List.map_cons, List.sum_cons]
    omega
  · rw [if_neg h, List.getElem?_eq_none (by omega), List.drop_eq_nil_of_le (by omega), List.drop_eq_nil_of_le (by omega)]
    simp
theorem work_go {ls : List (List OpT)} {g : Nat} {d d' : List Bool} (h : undone d' + 1 = undone d) : work ls g d' + 1 = work ls g d := by
  unfold work; omega
theorem nextD_len {ls : List (List OpT)} {g : Nat} {l : List OpT} (h : ls[g]? = some l) : (nextD ls g).length = l.length := by
  unfold nextD; rw [h]; simp
theorem findP_no {ls : List (List OpT)} (hS : Settled ls) : ∀ k g d s f, (∀ l, ls[g]? = some l → d.length = l.length) → work ls g d ≤ k → (findP ls k g d s f).1 = false → 0 ≤ (findP ls k g d s f).2.left → DeadOk ls f → ¬ Fin' ls g d s ∧ DeadOk ls (findP ls k g d s f).2
  | 0, g, d, s, f => fun _ hk => by unfold work at hk; omega
  | k + 1, g, d, s, f => fun hd hk h h0 hf => by
    rw [findP] at h h0 ⊢
    cases hl : ls[g]? with
    | none => rw [hl] at h; cases h
    | some l =>
      rw [hl] at h h0
      simp only at h h0 ⊢
      have hgl : g < ls.length := (List.getElem?_eq_some_iff.1 hl).1
      cases hfu : fullP l d with
      | true =>
        rw [hfu] at h h0
        simp only [if_true] at h h0 ⊢
        obtain ⟨g1, g2⟩ := findP_no hS k (g + 1) (nextD ls (g + 1)) s f (fun l' h' => nextD_len h') (by have := work_next (d := d) hgl; omega) h h0 hf
        exact ⟨fun hh => g1 ((Fin'.full hS hl (hd l hl) hfu).1 hh), g2⟩
      | false =>
        rw [hfu] at h h0
        simp only [Bool.false_eq_true, if_false] at h h0 ⊢
        by_cases hdd : (g, d, s) ∈ f.dead
        · rw [if_pos hdd]
          exact ⟨hf _ hdd, hf⟩
        · rw [if_neg hdd] at h h0 ⊢
          by_cases hz : f.left - 1 < 0
          · rw [if_pos hz] at h0
            simp only at h0; omega
          · rw [if_neg hz] at h h0 ⊢
            have hL := loopP_no (s := s) (G := findP ls k g) hl (hd l hl) (findP_left k g) (fun d' t f' e1 e2 e3 e4 e5 => findP_no hS k g d' t f' (fun l' h' => by rw [hl] at h'; obtain rfl := Option.some.inj h'; exact e1) (by have := work_go (ls := ls) (g := g) e2; omega) e3 e4 e5)
              l.length 0 { f with left := f.left - 1, seen := (g, d, s) :: f.seen }
            generalize loopP (findP ls k g) l d s 0 l.length { f with left := f.left - 1, seen := (g, d, s) :: f.seen } = r at h h0 hL ⊢
            cases h1 : r.1 with
            | true => rw [h1] at h; simp only [if_true] at h; rw [h1] at h; cases h
            | false =>
              rw [h1] at h h0
              simp only [Bool.false_eq_true, if_false] at h h0 ⊢
              obtain ⟨g1, g2⟩ := hL h1 h0 hf
              have no : ¬ Fin' ls g d s := fun hh => by
                obtain ⟨j, hj, q, hq, hq2⟩ := hh.next hl hfu
                exact g1 j (Nat.zero_le _) (by omega) q hq hq2
              refine ⟨no, fun p hp => ?_⟩
              rcases List.mem_cons.1 hp with rfl | hp
              · exact no
              · exact g2 p hp
theorem loopP_ids {G : List Bool → List Int → FS → Bool × FS} {l : List OpT} {d : List Bool} {s : List Int} (hG : ∀ d t f, (G d t f).1 = false → (G d t f).2.ids = f.ids) : ∀ n i f, (loopP G l d s i n f).1 = false → (loopP G l d s i n f).2.ids = f.ids
  | 0, i, f, _ => rfl
  | n + 1, i, f, h => by
    have ih := loopP_ids (l := l) (d := d) (s := s) hG n (i + 1)
    rw [loopP] at h ⊢
    cases ho : l[i]? with
    | none => rfl
    | some o =>
      rw [ho] at h
      simp only at h ⊢
      cases hy : mayP l d i o with
      | false => rw [hy] at h; simp only [Bool.false_eq_true, if_false] at h ⊢; exact ih f h
      | true =>
        rw [hy] at h
        simp only [if_true] at h ⊢
        cases hs : stepP s o with
        | none => rw [hs] at h; exact ih f h
        | some t =>
          rw [hs] at h
          simp only at h ⊢
          have h2 := hG (d.set i true) t { f with ids := f.ids ++ [o.ID] }
          generalize G (d.set i true) t { f with ids := f.ids ++ [o.ID] } = r at h h2 ⊢
          cases h1 : r.1 with
          | true => rw [h1] at h; simp only [if_true] at h; rw [h1] at h; cases h
          | false =>
            rw [h1] at h
            simp only [Bool.false_eq_true, if_false] at h ⊢
            rw [ih _ h]
            have := h2 h1
            simp only at this ⊢
            rw [this]
            simp
theorem findP_ids {ls : List (List OpT)} : ∀ k g d s f, (findP ls k g d s f).1 = false → (findP ls k g d s f).2.ids = f.ids
  | 0, g, d, s, f => fun _ => rfl
  | k + 1, g, d, s, f => fun h => by
    rw [findP] at h ⊢
    cases hl : ls[g]? with
    | none => rfl
    | some l =>
      rw [hl] at h
      simp only at h ⊢
      cases hfu : fullP l d with
      | true => rw [hfu] at h; simp only [if_true] at h ⊢; exact findP_ids k _ _ _ f h
      | false =>
        rw [hfu] at h
        simp only [Bool.false_eq_true, if_false] at h ⊢
        by_cases hdd : (g, d, s) ∈ f.dead
        · rw [if_pos hdd]
        · rw [if_neg hdd] at h ⊢
          by_cases hz : f.left - 1 < 0
          · rw [if_pos hz]
          · rw [if_neg hz] at h ⊢
            have hL := loopP_ids (l := l) (d := d) (s := s) (G := findP ls k g) (fun d t f h => findP_ids k g d t f h) l.length 0 { f with left := f.left - 1, seen := (g, d, s) :: f.seen }
            generalize loopP (findP ls k g) l d s 0 l.length { f with left := f.left - 1, seen := (g, d, s) :: f.seen } = r at h hL ⊢
            cases h1 : r.1 with
            | true => rw [h1] at h; simp only [if_true] at h; rw [h1] at h; cases h
            | false => simp only [Bool.false_eq_true, if_false]; exact hL h1
inductive Path (ls : List (List OpT)) : Nat → List Bool → List Int → List OpT → Prop
  | out {g : Nat} {d : List Bool} {s : List Int} : ls[g]? = none → Path ls g d s []
  | full {g : Nat} {d : List Bool} {s : List Int} {l : List OpT} {L : List OpT} : ls[g]? = some l → fullP l d = true → Path ls (g + 1) (nextD ls (g + 1)) s L → Path ls g d s L
  | step {g : Nat} {d : List Bool} {s : List Int} {l : List OpT} {L : List OpT} {k : Nat} {o : OpT} {t : List Int} : ls[g]? = some l → l[k]? = some o → mayP l d k o = true → stepP s o = some t → Path ls g (d.set k true) t L → Path ls g d s (o :: L)
theorem loopP_yes {ls : List (List OpT)} {g : Nat} {l : List OpT} {d : List Bool} {s : List Int} {G : List Bool → List Int → FS → Bool × FS} (hl : ls[g]? = some l) (hI : ∀ d t f, (G d t f).1 = false → (G d t f).2.ids = f.ids)
    (hG : ∀ d t f, (G d t f).1 = true → ∃ L, Path ls g d t L ∧ (G d t f).2.ids = f.ids ++ L.map OpT.ID) : ∀ n i f, (loopP G l d s i n f).1 = true → ∃ L, Path ls g d s L ∧ (loopP G l d s i n f).2.ids = f.ids ++ L.map OpT.ID
  | 0, i, f, h => by cases h
  | n + 1, i, f, h => by
    have ih := loopP_yes (d := d) (s := s) hl hI hG n (i + 1)
    rw [loopP] at h ⊢
    cases ho : l[i]? with
    | none => rw [ho] at h; cases h
    | some o =>
      rw [ho] at h
      simp only at h ⊢
      cases hy : mayP l d i o with
      | false => rw [hy] at h; simp only [Bool.false_eq_true, if_false] at h ⊢; exact ih f h
      | true =>
        rw [hy] at h
        simp only [if_true] at h ⊢
        cases hs : stepP s o with
        | none => rw [hs] at h; exact ih f h
        | some t =>
          rw [hs] at h
          simp only at h ⊢
          have h2 := hI (d.set i true) t { f with ids := f.ids ++ [o.ID] }
          have h3 := hG (d.set i true) t { f with ids := f.ids ++ [o.ID] }
          generalize G (d.set i true) t { f with ids := f.ids ++ [o.ID] } = r at h h2 h3 ⊢
          cases h1 : r.1 with
          | true =>
            obtain ⟨L, g1, g2⟩ := h3 h1
            simp only [if_true]
            exact ⟨o :: L, .step hl ho hy hs g1, by rw [g2]; simp⟩
          | false =>
            rw [h1] at h
            simp only [Bool.false_eq_true, if_false] at h ⊢
            have := h2 h1
            have e : ({ r.2 with ids := r.2.ids.dropLast } : FS).ids = f.ids := by simp only at this ⊢; rw [this]; simp
            obtain ⟨L, g1, g2⟩ := ih _ h
            exact ⟨L, g1, by rw [g2, e]⟩
theorem findP_yes {ls : List (List OpT)} : ∀ k g d s f, (findP ls k g d s f).1 = true → ∃ L, Path ls g d s L ∧ (findP ls k g d s f).2.ids = f.ids ++ L.map OpT.ID
  | 0, g, d, s, f => fun h => by cases h
  | k + 1, g, d, s, f => fun h => by
    rw [findP] at h ⊢
    cases hl : ls[g]? with
    | none => exact ⟨[], .out hl, by simp⟩
    | some l =>
      rw [hl] at h
      simp only at h ⊢
      cases hfu : fullP l d with
      | true =>
        rw [hfu] at h
        simp only [if_true] at h ⊢
        obtain ⟨L, g1, g2⟩ := findP_yes k _ _ _ f h
        exact ⟨L, .full hl hfu g1, g2⟩
      | false =>
        rw [hfu] at h
        simp only [Bool.false_eq_true, if_false] at h ⊢
        by_cases hdd : (g, d, s) ∈ f.dead
        · rw [if_pos hdd] at h; cases h
        · rw [if_neg hdd] at h ⊢
          by_cases hz : f.left - 1 < 0
          · rw [if_pos hz] at h; cases h
          · rw [if_neg hz] at h ⊢
            have hL := loopP_yes (d := d) (s := s) (G := findP ls k g) hl (fun d t f h => findP_ids k g d t f h) (fun d t f h => findP_yes k g d t f h) l.length 0 { f with left := f.left - 1, seen := (g, d, s) :: f.seen }
            generalize loopP (findP ls k g) l d s 0 l.length { f with left := f.left - 1, seen := (g, d, s) :: f.seen } = r at h hL ⊢
            cases h1 : r.1 with
            | true => simp only [if_true]; exact hL h1
            | false => rw [h1] at h; cases h
theorem Path.fin {ls : List (List OpT)} {g : Nat} {d : List Bool} {s : List Int} {L : List OpT} (h : Path ls g d s L) : Fin' ls g d s := by
  induction h with
  | out h => exact .out h
  | full hl hf _ ih => exact .seg hl (.refl _) hf ih
  | @step g d s l L k o t hl ho hm hs _ ih =>
    have hk := (List.getElem?_eq_some_iff.1 ho).1
    exact Fin'.go (q := (d.set k true, t)) hl hk (newAt_iff.2 ⟨o, ho, hm, hs, rfl⟩) ih
end Go.Proofs.Ytbeoedgoikcbpaa

namespace Go.Proofs.Ytbeoedgoikcbpaa
set_option linter.unusedSimpArgs false
set_option linter.unusedVariables false
set_option maxRecDepth 100000
open Go Go.Ann Go.RowKit
structure SeenOk (ls : List (List OpT)) (R : OSpot → Prop) (f : FS) : Prop where
  nd : f.seen.Nodup
  rch : ∀ p ∈ f.seen, R p ∧ p.1 < ls.length
structure SeenR (ls : List (List OpT)) (R : OSpot → Prop) (f : FS) (r : Bool × FS) : Prop where
  left : 0 ≤ r.2.left
  sum : r.2.left + r.2.seen.length = f.left + f.seen.length
  ok : SeenOk ls R r.2
  no : r.1 = false → (∀ p ∈ r.2.seen, p ∈ r.2.dead ∨ p ∈ f.seen) ∧ ∀ p ∈ f.dead, p ∈ r.2.dead
theorem loopP_seen {ls : List (List OpT)} {R : OSpot → Prop} {n : Nat} {g : Nat} {l : List OpT} {d : List Bool} {s : List Int} {G : List Bool → List Int → FS → Bool × FS} (hd : d.length = l.length) (hgo : ∀ k q, q ∈ newAt l (d, s) k → R (g, q.1, q.2))
    (hG : ∀ d' t f, d'.length = l.length → undone d' + 1 = undone d → R (g, d', t) → SeenOk ls R f → (∀ p ∈ f.seen, p ∈ f.dead ∨ work ls g d' < work ls p.1 p.2.1) → 0 ≤ f.left → (n : Int) ≤ f.left + f.seen.length → SeenR ls R f (G d' t f)) :
    ∀ m i f, SeenOk ls R f → (∀ p ∈ f.seen, p ∈ f.dead ∨ work ls g d ≤ work ls p.1 p.2.1) → 0 ≤ f.left → (n : Int) ≤ f.left + f.seen.length → SeenR ls R f (loopP G l d s i m f)
  | 0, i, f, h1, h2, h3, h4 => ⟨h3, rfl, h1, fun _ => ⟨fun p hp => .inr hp, fun p hp => hp⟩⟩
  | m + 1, i, f, h1, h2, h3, h4 => by
    have ih := loopP_seen (n := n) (s := s) hd hgo hG m (i + 1)
    rw [loopP]
    cases ho : l[i]? with
    | none => exact ⟨h3, rfl, h1, fun _ => ⟨fun p hp => .inr hp, fun p hp => hp⟩⟩
    | some o =>
      simp only
      cases hy : mayP l d i o with
      | false => simp only [Bool.false_eq_true, if_false]; exact ih f h1 h2 h3 h4
      | true =>
        simp only [if_true]
        cases hs : stepP s o with
        | none => exact ih f h1 h2 h3 h4
        | some t =>
          simp only
          have e : newAt l (d, s) i = [(d.set i true, t)] := by unfold newAt; rw [ho]; simp [hy, hs]
          obtain ⟨hq1, hq2⟩ := nextL_mem (l := l) (p := (d, s)) (q := (d.set i true, t)) (k := i + 1) hd (by rw [nextL, e]; simp)
          have hw := work_go (ls := ls) (g := g) hq2
          have hGi := hG (d.set i true) t { f with ids := f.ids ++ [o.ID] } hq1 hq2 (hgo i (d.set i true, t) (by rw [e]; simp)) ⟨h1.nd, h1.rch⟩ (fun p hp => (h2 p hp).imp id fun h => by simp only at hw; omega) h3 h4
          generalize G (d.set i true) t { f with ids := f.ids ++ [o.ID] } = r at hGi ⊢
          obtain ⟨a1, a2, a3, a4⟩ := hGi
          simp only at a2
          cases hr : r.1 with
          | true => simp only [if_true]; exact ⟨a1, a2, a3, fun h => by rw [hr] at h; cases h⟩
          | false =>
            simp only [Bool.false_eq_true, if_false]
            obtain ⟨a5, a6⟩ := a4 hr
            have b := ih { r.2 with ids := r.2.ids.dropLast } ⟨a3.nd, a3.rch⟩ (fun p hp => (a5 p hp).elim .inl fun h => (h2 p h).imp (a6 p) id) a1 (by simp only; omega)
            obtain ⟨b1, b2, b3, b4⟩ := b
            simp only at b2 b4
            refine ⟨b1, by omega, b3, fun h => ?_⟩
            obtain ⟨b5, b6⟩ := b4 h
            exact ⟨fun p hp => (b5 p hp).elim .inl fun h => (a5 p h).elim (fun h => .inl (b6 p h)) .inr, fun p hp => b6 p (a6 p hp)⟩
theorem findP_seen {ls : List (List OpT)} {R : OSpot → Prop} {n : Nat} (hN : ∀ S : List OSpot, S.Nodup → (∀ p ∈ S, R p ∧ p.1 < ls.length) → S.length ≤ n)
    (hgo : ∀ g l d s k q, ls[g]? = some l → R (g, d, s) → q ∈ newAt l (d, s) k → R (g, q.1, q.2)) (hfull : ∀ g l d s, ls[g]? = some l → fullP l d = true → R (g, d, s) → R (g + 1, nextD ls (g + 1), s)) :
    ∀ k g d s f, (∀ l, ls[g]? = some l → d.length = l.length) → R (g, d, s) → SeenOk ls R f → (∀ p ∈ f.seen, p ∈ f.dead ∨ work ls g d < work ls p.1 p.2.1) → 0 ≤ f.left → (n : Int) ≤ f.left + f.seen.length → SeenR ls R f (findP ls k g d s f)
  | 0, g, d, s, f, _, _, h1, h2, h3, h4 => ⟨h3, rfl, h1, fun _ => ⟨fun p hp => .inr hp, fun p hp => hp⟩⟩
  | k + 1, g, d, s, f, hd, hR, h1, h2, h3, h4 => by
    have same : SeenR ls R f (false, f) := ⟨h3, rfl, h1, fun _ => ⟨fun p hp => .inr hp, fun p hp => hp⟩⟩
    rw [findP]
    cases hl : ls[g]? with
    | none => exact ⟨h3, rfl, h1, fun h => by cases h⟩
    | some l =>
      have hgl : g < ls.length := (List.getElem?_eq_some_iff.1 hl).1
      simp only
      cases hfu : fullP l d with
      | true =>
        simp only [if_true]
        have hw := work_next (d := d) hgl
        exact findP_seen hN hgo hfull k (g + 1) (nextD ls (g + 1)) s f (fun l' h' => nextD_len h') (hfull g l d s hl hfu hR) h1 (fun p hp => (h2 p hp).imp id fun h => by omega) h3 h4
      | false =>
        simp only [Bool.false_eq_true, if_false]
        by_cases hdd : (g, d, s) ∈ f.dead
        · rw [if_pos hdd]; exact same
        · rw [if_neg hdd]
          have hnew : (g, d, s) ∉ f.seen := fun h => (h2 _ h).elim hdd fun h => by simp only at h; omega
          have ok1 : SeenOk ls R { f with left := f.left - 1, seen := (g, d, s) :: f.seen } := ⟨List.nodup_cons.2 ⟨hnew, h1.nd⟩, fun p hp => by
            rcases List.mem_cons.1 hp with rfl | hp
            · exact ⟨hR, hgl⟩
            · exact h1.rch p hp⟩
          have hlen := hN _ ok1.nd ok1.rch
          simp only [List.length_cons] at hlen
          have hz : ¬ f.left - 1 < 0 := by omega
          rw [if_neg hz]
          have hL := loopP_seen (n := n) (s := s) (G := findP ls k g) (hd l hl) (fun j q hq => hgo g l d s j q hl hR hq) (fun d' t f' e1 e2 e3 e4 e5 e6 e7 => findP_seen hN hgo hfull k g d' t f' (fun l' h' => by rw [hl] at h'; obtain rfl := Option.some.inj h'; exact e1) e3 e4 e5 e6 e7)
            l.length 0 { f with left := f.left - 1, seen := (g, d, s) :: f.seen } ok1 (fun p hp => by
              rcases List.mem_cons.1 hp with rfl | hp
              · exact .inr (Nat.le_refl _)
              · exact (h2 p hp).imp id fun h => by omega) (by simp only; omega) (by simp only [List.length_cons]; omega)
          generalize loopP (findP ls k g) l d s 0 l.length { f with left := f.left - 1, seen := (g, d, s) :: f.seen } = r at hL ⊢
          obtain ⟨a1, a2, a3, a4⟩ := hL
          simp only [List.length_cons] at a2
          cases hr : r.1 with
          | true => simp only [if_true]; exact ⟨a1, by omega, a3, fun h => by rw [hr] at h; cases h⟩
          | false =>
            simp only [Bool.false_eq_true, if_false]
            obtain ⟨a5, a6⟩ := a4 hr
            refine ⟨a1, by simp only; omega, ⟨a3.nd, a3.rch⟩, fun _ => ⟨fun p hp => ?_, fun p hp => List.mem_cons_of_mem _ (a6 p hp)⟩⟩
            rcases a5 p hp with h | h
            · exact .inl (List.mem_cons_of_mem _ h)
            · rcases List.mem_cons.1 h with rfl | h
              · exact .inl (List.mem_cons_self ..)
              · exact .inr h
end Go.Proofs.Ytbeoedgoikcbpaa

namespace Go.Proofs.Ytbeoedgoikcbpaa
open Go Go.Ann
noncomputable def c9code : Code := match Try.f9.body with | some c => c | none => .skip
noncomputable def c9S0 (_ : Unit) : Cmd := .ret
noncomputable def c9S1 (_ : Unit) : Cmd := (.cond (.tmp 13)
  (.seq (.ops [
  ⟨some 14, .call ⟨.value (.func 26), #[], #[]⟩, 4, none⟩,
  ⟨some 2, .assign (.tmp 14), 4, none⟩] [2]) (sg c9S0))
  (.skip [1]))
noncomputable def c9S2 (_ : Unit) : Cmd := .ret
noncomputable def c9S3 (_ : Unit) : Cmd := (.ops [
 ⟨some 39, .fieldAddr 27 (.tmp 6) 1, 0, none⟩,
 ⟨some 40, .load 25 (.tmp 39), 25, none⟩,
 ⟨some 3, .assign (.tmp 40), 25, none⟩] [1, 3, 4, 5])
noncomputable def c9S4 (_ : Unit) : Cmd := (.seq (.seq (.ops [
 ⟨some 36, .move (.tmp 7), 3, none⟩,
 ⟨some 37, .binOp .neq 3 (.tmp 36) (.const (.int .i64 0)) 3, 4, none⟩] [1, 4, 5, 6, 37])
 (.cond (.tmp 37)
  (.seq (.ops [
  ⟨some 38, .call ⟨.value (.func 26), #[], #[]⟩, 4, none⟩,
  ⟨some 2, .assign (.tmp 38), 4, none⟩] [2]) (sg c9S2))
  (.skip [1, 4, 5, 6]))) (sg c9S3))
noncomputable def c9S5 (_ : Unit) : Cmd := (.ops [
 ⟨some 25, .move (.tmp 5), 3, none⟩,
 ⟨some 26, .binOp .add 3 (.tmp 25) (.const (.int .i64 1)) 3, 3, none⟩,
 ⟨some 5, .assign (.tmp 26), 3, none⟩] [1, 3, 4, 5])
noncomputable def c9S6 (_ : Unit) : Cmd := (.seq (.block 1 (.seq (.ops [
 ⟨some 28, .move (.tmp 4), 47, none⟩,
 ⟨some 29, .move (.tmp 5), 3, none⟩,
 ⟨some 30, .indexAddr 47 (.tmp 28) (.tmp 29), 0, none⟩,
 ⟨some 31, .load 24 (.tmp 30), 24, none⟩,
 ⟨some 32, .move (.tmp 3), 25, none⟩,
 ⟨some 33, .call ⟨.value (.func 16), #[(.tmp 31), (.tmp 32), (.const (.int .i64 32768))], #[24, 25, 3]⟩, 34, none⟩,
 ⟨some 27, .move (.tmp 33), 34, none⟩,
 ⟨some 34, .extract (.tmp 27) 0, 27, none⟩,
 ⟨some 35, .extract (.tmp 27) 1, 3, none⟩,
 ⟨some 6, .alloc 27, 0, none⟩,
 ⟨none, .store 27 (.tmp 6) (.tmp 34), 0, none⟩,
 ⟨some 7, .assign (.tmp 35), 3, none⟩] [1, 4, 5, 6, 7]) (sg c9S4))) (sg c9S5))
noncomputable def c9L0 (_ : Unit) : Cmd := (.seq (.seq (.ops [
 ⟨some 21, .move (.tmp 5), 3, none⟩,
 ⟨some 22, .move (.tmp 4), 47, none⟩,
 ⟨some 23, .call ⟨.builtin .len, #[(.tmp 22)], #[47]⟩, 3, none⟩,
 ⟨some 24, .binOp .lss 3 (.tmp 21) (.tmp 23) 3, 4, none⟩] [1, 3, 4, 5, 24])
 (.cond (.tmp 24)
  (.skip [1, 3, 4, 5])
  (.exit 0 [1, 3]))) (sg c9S6))
noncomputable def c9S7 (_ : Unit) : Cmd := .ret
noncomputable def c9S8 (_ : Unit) : Cmd := (.seq (.ops [
 ⟨some 56, .move (.tmp 9), 4, none⟩,
 ⟨some 57, .unOp .not 4 (.tmp 56), 4, none⟩,
 ⟨some 58, .move (.tmp 57), 4, none⟩,
 ⟨some 59, .move (.tmp 8), 36, (some (58, true))⟩,
 ⟨some 60, .call ⟨.builtin .len, #[(.tmp 59)], #[36]⟩, 3, (some (58, true))⟩,
 ⟨some 61, .binOp .eql 3 (.tmp 60) (.const (.int .i64 0)) 3, 4, (some (58, true))⟩,
 ⟨some 62, .pick (.tmp 58) (.tmp 61) (.const (.bool false)), 4, none⟩,
 ⟨some 63, .move (.tmp 62), 4, none⟩,
 ⟨some 64, .move (.tmp 9), 4, (some (63, false))⟩,
 ⟨some 65, .move (.tmp 64), 4, (some (63, false))⟩,
 ⟨some 66, .load 24 (.tmp 1), 24, (some (65, true))⟩,
 ⟨some 67, .move (.tmp 8), 36, (some (65, true))⟩,
 ⟨some 68, .call ⟨.value (.func 28), #[(.tmp 66), (.tmp 67)], #[24, 36]⟩, 4, (some (65, true))⟩,
 ⟨some 69, .pick (.tmp 65) (.tmp 68) (.const (.bool false)), 4, (some (63, false))⟩,
 ⟨some 70, .pick (.tmp 63) (.const (.bool true)) (.tmp 69), 4, none⟩,
 ⟨some 71, .move (.tmp 70), 4, none⟩,
 ⟨some 72, .call ⟨.value (.func 26), #[], #[]⟩, 4, (some (71, true))⟩,
 ⟨some 73, .pick (.tmp 71) (.tmp 72) (.const (.bool false)), 4, none⟩,
 ⟨some 2, .assign (.tmp 73), 4, none⟩] [2]) (sg c9S7))
noncomputable def c9S9 (_ : Unit) : Cmd := (.seq (.seq (.ops [
 ⟨some 47, .move (.tmp 10), 28, none⟩,
 ⟨some 48, .binOp .neq 28 (.tmp 47) (.const (.int .i64 0)) 28, 4, none⟩,
 ⟨some 49, .move (.tmp 48), 4, none⟩,
 ⟨some 50, .move (.tmp 9), 4, (some (49, false))⟩,
 ⟨some 51, .move (.tmp 3), 25, (some (49, false))⟩,
 ⟨some 52, .call ⟨.builtin .len, #[(.tmp 51)], #[25]⟩, 3, (some (49, false))⟩,
 ⟨some 53, .binOp .gtr 3 (.tmp 52) (.const (.int .i64 0)) 3, 4, (some (49, false))⟩,
 ⟨some 54, .binOp .neq 4 (.tmp 50) (.tmp 53) 4, 4, (some (49, false))⟩,
 ⟨some 55, .pick (.tmp 49) (.const (.bool true)) (.tmp 54), 4, none⟩] [1, 8, 9, 55])
 (.cond (.tmp 55)
  (.seq (.ops [
  ⟨some 2, .assign (.const (.bool false)), 4, none⟩] [2])
  .ret)
  (.skip [1, 8, 9]))) (sg c9S8))
noncomputable def c9S10 (_ : Unit) : Cmd := (.seq (.ops [
 ⟨some 42, .load 24 (.tmp 1), 24, none⟩,
 ⟨some 43, .call ⟨.value (.func 27), #[(.tmp 42), (.const (.int .i64 32768))], #[24, 3]⟩, 53, none⟩,
 ⟨some 41, .move (.tmp 43), 53, none⟩,
 ⟨some 44, .extract (.tmp 41) 0, 36, none⟩,
 ⟨some 45, .extract (.tmp 41) 1, 4, none⟩,
 ⟨some 46, .extract (.tmp 41) 2, 28, none⟩,
 ⟨some 8, .assign (.tmp 44), 36, none⟩,
 ⟨some 9, .assign (.tmp 45), 4, none⟩,
 ⟨some 10, .assign (.tmp 46), 28, none⟩] [1, 3, 8, 9, 10]) (sg c9S9))
noncomputable def c9S11 (_ : Unit) : Cmd := (.seq (.seq (.ops [
 ⟨some 5, .assign (.const (.int .i64 0)), 3, none⟩] [1, 3, 4, 5])
 (.block 0 (.loop (sg c9L0)))) (sg c9S10))
noncomputable def c9S12 (_ : Unit) : Cmd := (.seq (.ops [
 ⟨some 19, .load 24 (.tmp 1), 24, none⟩,
 ⟨some 20, .call ⟨.value (.func 24), #[(.tmp 19)], #[24]⟩, 47, none⟩,
 ⟨some 4, .assign (.tmp 20), 47, none⟩] [1, 3, 4]) (sg c9S11))
noncomputable def c9S13 (_ : Unit) : Cmd := (.seq (.ops [
 ⟨some 15, .fieldAddr 24 (.tmp 1) 1, 0, none⟩,
 ⟨some 16, .load 3 (.tmp 15), 3, none⟩,
 ⟨some 17, .call ⟨.value (.func 23), #[(.tmp 16)], #[3]⟩, 36, none⟩,
 ⟨some 18, .buildSlice 25 1 #[(0, (.tmp 17))], 25, none⟩,
 ⟨some 3, .assign (.tmp 18), 25, none⟩] [1, 3]) (sg c9S12))
noncomputable def c9 : Cmd := (.seq (.ops [
 ⟨some 1, .box 24 (.tmp 0), 0, none⟩,
 ⟨some 2, .assign (.const (.bool false)), 4, none⟩] [1])
 (.seq (.seq (.ops [
 ⟨some 11, .load 24 (.tmp 1), 24, none⟩,
 ⟨some 12, .call ⟨.value (.func 25), #[(.tmp 11), (.const (.int .i64 7))], #[24, 3]⟩, 4, none⟩,
 ⟨some 13, .unOp .not 4 (.tmp 12), 4, none⟩] [1, 13]) (sg c9S1)) (sg c9S13)))
@[go_sem] theorem go9 : goFunc Try.prog 9 = true := by kernel_rfl
noncomputable def c10code : Code := match Try.f10.body with | some c => c | none => .skip
noncomputable def c10S0 (_ : Unit) : Cmd := .ret
noncomputable def c10S1 (_ : Unit) : Cmd := (.cond (.tmp 22)
  (.seq (.ops [
  ⟨some 23, .call ⟨.value (.func 26), #[], #[]⟩, 4, none⟩,
  ⟨some 4, .assign (.tmp 23), 4, none⟩] [4]) (sg c10S0))
  (.skip [1, 2]))
noncomputable def c10S2 (_ : Unit) : Cmd := .ret
noncomputable def c10S3 (_ : Unit) : Cmd := (.seq (.ops [
 ⟨some 48, .fieldAddr 27 (.tmp 9) 1, 0, none⟩,
 ⟨some 49, .load 25 (.tmp 48), 25, none⟩,
 ⟨some 5, .assign (.tmp 49), 25, none⟩] [1, 2, 5, 6, 7, 8, 9])
 (.ops [
 ⟨some 50, .move (.tmp 7), 3, none⟩,
 ⟨some 51, .fieldAddr 27 (.tmp 9) 2, 0, none⟩,
 ⟨some 52, .load 3 (.tmp 51), 3, none⟩,
 ⟨some 53, .binOp .add 3 (.tmp 50) (.tmp 52) 3, 3, none⟩,
 ⟨some 7, .assign (.tmp 53), 3, none⟩] [1, 2, 5, 6, 7, 8]))
noncomputable def c10S4 (_ : Unit) : Cmd := (.seq (.seq (.ops [
 ⟨some 45, .move (.tmp 10), 3, none⟩,
 ⟨some 46, .binOp .neq 3 (.tmp 45) (.const (.int .i64 0)) 3, 4, none⟩] [1, 2, 6, 7, 8, 9, 46])
 (.cond (.tmp 46)
  (.seq (.ops [
  ⟨some 47, .call ⟨.value (.func 26), #[], #[]⟩, 4, none⟩,
  ⟨some 4, .assign (.tmp 47), 4, none⟩] [4]) (sg c10S2))
  (.skip [1, 2, 6, 7, 8, 9]))) (sg c10S3))
noncomputable def c10S5 (_ : Unit) : Cmd := (.ops [
 ⟨some 34, .move (.tmp 8), 3, none⟩,
 ⟨some 35, .binOp .add 3 (.tmp 34) (.const (.int .i64 1)) 3, 3, none⟩,
 ⟨some 8, .assign (.tmp 35), 3, none⟩] [1, 2, 5, 6, 7, 8])
noncomputable def c10S6 (_ : Unit) : Cmd := (.seq (.block 1 (.seq (.ops [
 ⟨some 37, .move (.tmp 6), 47, none⟩,
 ⟨some 38, .move (.tmp 8), 3, none⟩,
 ⟨some 39, .indexAddr 47 (.tmp 37) (.tmp 38), 0, none⟩,
 ⟨some 40, .load 24 (.tmp 39), 24, none⟩,
 ⟨some 41, .move (.tmp 5), 25, none⟩,
 ⟨some 42, .call ⟨.value (.func 16), #[(.tmp 40), (.tmp 41), (.const (.int .i64 32768))], #[24, 25, 3]⟩, 34, none⟩,
 ⟨some 36, .move (.tmp 42), 34, none⟩,
 ⟨some 43, .extract (.tmp 36) 0, 27, none⟩,
 ⟨some 44, .extract (.tmp 36) 1, 3, none⟩,
 ⟨some 9, .alloc 27, 0, none⟩,
 ⟨none, .store 27 (.tmp 9) (.tmp 43), 0, none⟩,
 ⟨some 10, .assign (.tmp 44), 3, none⟩] [1, 2, 6, 7, 8, 9, 10]) (sg c10S4))) (sg c10S5))
noncomputable def c10L0 (_ : Unit) : Cmd := (.seq (.seq (.ops [
 ⟨some 30, .move (.tmp 8), 3, none⟩,
 ⟨some 31, .move (.tmp 6), 47, none⟩,
 ⟨some 32, .call ⟨.builtin .len, #[(.tmp 31)], #[47]⟩, 3, none⟩,
 ⟨some 33, .binOp .lss 3 (.tmp 30) (.tmp 32) 3, 4, none⟩] [1, 2, 5, 6, 7, 8, 33])
 (.cond (.tmp 33)
  (.skip [1, 2, 5, 6, 7, 8])
  (.exit 0 [1, 2, 7]))) (sg c10S6))
noncomputable def c10S7 (_ : Unit) : Cmd := .ret
noncomputable def c10S8 (_ : Unit) : Cmd := (.cond (.tmp 94)
  (.seq (.ops [
  ⟨some 4, .assign (.const (.bool false)), 4, none⟩] [4])
  .ret)
  (.skip [1, 7, 11, 12, 17, 18, 19]))
noncomputable def c10S9 (_ : Unit) : Cmd := .ret
noncomputable def c10S10 (_ : Unit) : Cmd := .ret
noncomputable def c10S11 (_ : Unit) : Cmd := (.seq (.ops [
 ⟨some 112, .move (.tmp 19), 28, none⟩,
 ⟨some 113, .binOp .eql 28 (.tmp 112) (.const (.int .i64 0)) 28, 4, none⟩,
 ⟨some 114, .move (.tmp 113), 4, none⟩,
 ⟨some 115, .move (.tmp 18), 4, (some (114, true))⟩,
 ⟨some 116, .move (.tmp 12), 4, (some (114, true))⟩,
 ⟨some 117, .binOp .eql 4 (.tmp 115) (.tmp 116) 4, 4, (some (114, true))⟩,
 ⟨some 118, .pick (.tmp 114) (.tmp 117) (.const (.bool false)), 4, none⟩,
 ⟨some 119, .move (.tmp 118), 4, none⟩,
 ⟨some 120, .move (.tmp 17), 36, (some (119, true))⟩,
 ⟨some 121, .move (.tmp 11), 36, (some (119, true))⟩,
 ⟨some 122, .call ⟨.value (.func 29), #[(.tmp 120), (.tmp 121)], #[36, 36]⟩, 4, (some (119, true))⟩,
 ⟨some 123, .pick (.tmp 119) (.tmp 122) (.const (.bool false)), 4, none⟩,
 ⟨some 124, .move (.tmp 123), 4, none⟩,
 ⟨some 125, .call ⟨.value (.func 26), #[], #[]⟩, 4, (some (124, true))⟩,
 ⟨some 126, .pick (.tmp 124) (.tmp 125) (.const (.bool false)), 4, none⟩,
 ⟨some 4, .assign (.tmp 126), 4, none⟩] [4]) (sg c10S10))
noncomputable def c10S12 (_ : Unit) : Cmd := (.seq (.seq (.ops [
 ⟨some 95, .move (.tmp 19), 28, none⟩,
 ⟨some 96, .binOp .eql 28 (.tmp 95) (.const (.int .i64 35)) 28, 4, none⟩] [1, 7, 11, 12, 17, 18, 19, 96])
 (.cond (.tmp 96)
  (.seq (.ops [
  ⟨some 97, .move (.tmp 17), 36, none⟩,
  ⟨some 98, .call ⟨.builtin .len, #[(.tmp 97)], #[36]⟩, 3, none⟩,
  ⟨some 99, .binOp .eql 3 (.tmp 98) (.const (.int .i64 0)) 3, 4, none⟩,
  ⟨some 100, .move (.tmp 99), 4, none⟩,
  ⟨some 101, .move (.tmp 18), 4, (some (100, true))⟩,
  ⟨some 102, .unOp .not 4 (.tmp 101), 4, (some (100, true))⟩,
  ⟨some 103, .pick (.tmp 100) (.tmp 102) (.const (.bool false)), 4, none⟩,
  ⟨some 104, .move (.tmp 103), 4, none⟩,
  ⟨some 105, .move (.tmp 1), 3, (some (104, true))⟩,
  ⟨some 106, .move (.tmp 7), 3, (some (104, true))⟩,
  ⟨some 107, .binOp .lss 3 (.tmp 105) (.tmp 106) 3, 4, (some (104, true))⟩,
  ⟨some 108, .pick (.tmp 104) (.tmp 107) (.const (.bool false)), 4, none⟩,
  ⟨some 109, .move (.tmp 108), 4, none⟩,
  ⟨some 110, .call ⟨.value (.func 26), #[], #[]⟩, 4, (some (109, true))⟩,
  ⟨some 111, .pick (.tmp 109) (.tmp 110) (.const (.bool false)), 4, none⟩,
  ⟨some 4, .assign (.tmp 111), 4, none⟩] [4]) (sg c10S9))
  (.skip [11, 12, 17, 18, 19]))) (sg c10S11))
noncomputable def c10S13 (_ : Unit) : Cmd := (.seq (.seq (.ops [
 ⟨some 77, .move (.tmp 13), 28, none⟩,
 ⟨some 78, .binOp .neq 28 (.tmp 77) (.const (.int .i64 0)) 28, 4, none⟩,
 ⟨some 79, .move (.tmp 78), 4, none⟩,
 ⟨some 80, .move (.tmp 16), 28, (some (79, false))⟩,
 ⟨some 81, .move (.tmp 13), 28, (some (79, false))⟩,
 ⟨some 82, .binOp .neq 28 (.tmp 80) (.tmp 81) 28, 4, (some (79, false))⟩,
 ⟨some 83, .pick (.tmp 79) (.const (.bool true)) (.tmp 82), 4, none⟩,
 ⟨some 84, .move (.tmp 83), 4, none⟩,
 ⟨some 85, .move (.tmp 11), 36, (some (84, false))⟩,
 ⟨some 86, .move (.tmp 14), 36, (some (84, false))⟩,
 ⟨some 87, .call ⟨.value (.func 29), #[(.tmp 85), (.tmp 86)], #[36, 36]⟩, 4, (some (84, false))⟩,
 ⟨some 88, .unOp .not 4 (.tmp 87), 4, (some (84, false))⟩,
 ⟨some 89, .pick (.tmp 84) (.const (.bool true)) (.tmp 88), 4, none⟩,
 ⟨some 90, .move (.tmp 89), 4, none⟩,
 ⟨some 91, .move (.tmp 12), 4, (some (90, false))⟩,
 ⟨some 92, .move (.tmp 15), 4, (some (90, false))⟩,
 ⟨some 93, .binOp .neq 4 (.tmp 91) (.tmp 92) 4, 4, (some (90, false))⟩,
 ⟨some 94, .pick (.tmp 90) (.const (.bool true)) (.tmp 93), 4, none⟩] [1, 7, 11, 12, 17, 18, 19, 94]) (sg c10S8)) (sg c10S12))
noncomputable def c10S14 (_ : Unit) : Cmd := (.seq (.ops [
 ⟨some 71, .load 24 (.tmp 2), 24, none⟩,
 ⟨some 72, .move (.tmp 1), 3, none⟩,
 ⟨some 73, .call ⟨.value (.func 27), #[(.tmp 71), (.tmp 72)], #[24, 3]⟩, 53, none⟩,
 ⟨some 70, .move (.tmp 73), 53, none⟩,
 ⟨some 74, .extract (.tmp 70) 0, 36, none⟩,
 ⟨some 75, .extract (.tmp 70) 1, 4, none⟩,
 ⟨some 76, .extract (.tmp 70) 2, 28, none⟩,
 ⟨some 17, .assign (.tmp 74), 36, none⟩,
 ⟨some 18, .assign (.tmp 75), 4, none⟩,
 ⟨some 19, .assign (.tmp 76), 28, none⟩] [1, 7, 11, 12, 13, 14, 15, 16, 17, 18, 19]) (sg c10S13))
noncomputable def c10S15 (_ : Unit) : Cmd := (.seq (.ops [
 ⟨some 64, .load 24 (.tmp 2), 24, none⟩,
 ⟨some 65, .move (.tmp 7), 3, none⟩,
 ⟨some 66, .call ⟨.value (.func 27), #[(.tmp 64), (.tmp 65)], #[24, 3]⟩, 53, none⟩,
 ⟨some 63, .move (.tmp 66), 53, none⟩,
 ⟨some 67, .extract (.tmp 63) 0, 36, none⟩,
 ⟨some 68, .extract (.tmp 63) 1, 4, none⟩,
 ⟨some 69, .extract (.tmp 63) 2, 28, none⟩,
 ⟨some 14, .assign (.tmp 67), 36, none⟩,
 ⟨some 15, .assign (.tmp 68), 4, none⟩,
 ⟨some 16, .assign (.tmp 69), 28, none⟩] [1, 2, 7, 11, 12, 13, 14, 15, 16]) (sg c10S14))
noncomputable def c10S16 (_ : Unit) : Cmd := (.seq (.ops [
 ⟨some 58, .load 24 (.tmp 2), 24, none⟩,
 ⟨some 59, .call ⟨.value (.func 27), #[(.tmp 58), (.const (.int .i64 32768))], #[24, 3]⟩, 53, none⟩,
 ⟨some 57, .move (.tmp 59), 53, none⟩,
 ⟨some 60, .extract (.tmp 57) 0, 36, none⟩,
 ⟨some 61, .extract (.tmp 57) 1, 4, none⟩,
 ⟨some 62, .extract (.tmp 57) 2, 28, none⟩,
 ⟨some 11, .assign (.tmp 60), 36, none⟩,
 ⟨some 12, .assign (.tmp 61), 4, none⟩,
 ⟨some 13, .assign (.tmp 62), 28, none⟩] [1, 2, 7, 11, 12, 13]) (sg c10S15))
noncomputable def c10S17 (_ : Unit) : Cmd := (.seq (.seq (.ops [
 ⟨some 54, .move (.tmp 7), 3, none⟩,
 ⟨some 55, .binOp .gtr 3 (.tmp 54) (.const (.int .i64 32768)) 3, 4, none⟩] [1, 2, 7, 55])
 (.cond (.tmp 55)
  (.seq (.ops [
  ⟨some 56, .call ⟨.value (.func 26), #[], #[]⟩, 4, none⟩,
  ⟨some 4, .assign (.tmp 56), 4, none⟩] [4]) (sg c10S7))
  (.skip [1, 2, 7]))) (sg c10S16))
noncomputable def c10S18 (_ : Unit) : Cmd := (.seq (.ops [
 ⟨some 7, .assign (.const (.int .i64 0)), 3, none⟩] [1, 2, 5, 6, 7])
 (.seq (.seq (.ops [
 ⟨some 8, .assign (.const (.int .i64 0)), 3, none⟩] [1, 2, 5, 6, 7, 8])
 (.block 0 (.loop (sg c10L0)))) (sg c10S17)))
noncomputable def c10S19 (_ : Unit) : Cmd := (.seq (.ops [
 ⟨some 28, .load 24 (.tmp 2), 24, none⟩,
 ⟨some 29, .call ⟨.value (.func 24), #[(.tmp 28)], #[24]⟩, 47, none⟩,
 ⟨some 6, .assign (.tmp 29), 47, none⟩] [1, 2, 5, 6]) (sg c10S18))
noncomputable def c10S20 (_ : Unit) : Cmd := (.seq (.ops [
 ⟨some 24, .fieldAddr 24 (.tmp 2) 1, 0, none⟩,
 ⟨some 25, .load 3 (.tmp 24), 3, none⟩,
 ⟨some 26, .call ⟨.value (.func 23), #[(.tmp 25)], #[3]⟩, 36, none⟩,
 ⟨some 27, .buildSlice 25 1 #[(0, (.tmp 26))], 25, none⟩,
 ⟨some 5, .assign (.tmp 27), 25, none⟩] [1, 2, 5]) (sg c10S19))
noncomputable def c10 : Cmd := (.seq (.ops [
 ⟨some 2, .box 24 (.tmp 0), 0, none⟩,
 ⟨some 4, .assign (.const (.bool false)), 4, none⟩] [1, 2])
 (.seq (.seq (.ops [
 ⟨some 20, .load 24 (.tmp 2), 24, none⟩,
 ⟨some 21, .call ⟨.value (.func 25), #[(.tmp 20), (.const (.int .i64 7))], #[24, 3]⟩, 4, none⟩,
 ⟨some 22, .unOp .not 4 (.tmp 21), 4, none⟩] [1, 2, 22]) (sg c10S1)) (sg c10S20)))
set_option maxRecDepth 100000 in
theorem ent10 (a0 a1 : Value) (w : World) (K : Value → World → Prop) (h : W Try.prog c10 [(0, a0), (1, a1)] w (finQ Try.prog [.tmp 4] K)) : Ret Try.prog 10 [a0, a1] w K :=
  Ret_of_W (code := c10code) Try.func10 (by kernel_rfl) (by kernel_rfl) (of_decide_eq_true (by kernel_rfl)) h
@[go_sem] theorem go10 : goFunc Try.prog 10 = true := by kernel_rfl
noncomputable def c11S0 (_ : Unit) : Cmd := (.ops [
 ⟨some 21, .move (.tmp 6), 3, none⟩,
 ⟨some 22, .binOp .add 3 (.tmp 21) (.const (.int .i64 1)) 3, 3, none⟩,
 ⟨some 6, .assign (.tmp 22), 3, none⟩] [1, 2, 5, 6])
noncomputable def c11S1 (_ : Unit) : Cmd := (.seq (.block 1 (.seq (.ops [
 ⟨some 23, .move (.tmp 6), 3, none⟩,
 ⟨some 24, .binOp .add 3 (.tmp 23) (.const (.int .i64 1)) 3, 3, none⟩,
 ⟨some 25, .fieldAddr 58 (.tmp 2) 0, 0, none⟩,
 ⟨none, .store 3 (.tmp 25) (.tmp 24), 0, none⟩] [1, 2, 5, 6])
 (.ops [
 ⟨some 26, .fieldAddr 24 (.tmp 5) 2, 0, none⟩,
 ⟨some 27, .load 22 (.tmp 26), 22, none⟩,
 ⟨some 28, .load 58 (.tmp 2), 58, none⟩,
 ⟨some 29, .buildSlice 22 1 #[(0, (.tmp 28))], 22, none⟩,
 ⟨some 30, .call ⟨.builtin .append, #[(.tmp 27), (.tmp 29)], #[22, 22]⟩, 22, none⟩,
 ⟨some 31, .fieldAddr 24 (.tmp 5) 2, 0, none⟩,
 ⟨none, .store 22 (.tmp 31) (.tmp 30), 0, none⟩] [1, 2, 5, 6]))) (sg c11S0))
noncomputable def c11L0 (_ : Unit) : Cmd := (.seq (.seq (.ops [
 ⟨some 16, .move (.tmp 6), 3, none⟩,
 ⟨some 17, .move (.tmp 1), 5, none⟩,
 ⟨some 18, .binOp .rem 5 (.tmp 17) (.const (.int .u8 40)) 5, 5, none⟩,
 ⟨some 19, .convert 5 3 (.tmp 18), 3, none⟩,
 ⟨some 20, .binOp .lss 3 (.tmp 16) (.tmp 19) 3, 4, none⟩] [1, 2, 5, 6, 20])
 (.cond (.tmp 20)
  (.skip [1, 2, 5, 6])
  (.exit 0 [5]))) (sg c11S1))
noncomputable def c11S2 (_ : Unit) : Cmd := .ret
noncomputable def c11S3 (_ : Unit) : Cmd := .ret
noncomputable def c11S4 (_ : Unit) : Cmd := (.seq (.ops [
 ⟨some 43, .move (.tmp 7), 36, none⟩,
 ⟨some 44, .call ⟨.builtin .len, #[(.tmp 43)], #[36]⟩, 3, none⟩,
 ⟨some 45, .binOp .eql 3 (.tmp 44) (.const (.int .i64 0)) 3, 4, none⟩,
 ⟨some 46, .move (.tmp 45), 4, none⟩,
 ⟨some 47, .move (.tmp 8), 4, (some (46, true))⟩,
 ⟨some 48, .unOp .not 4 (.tmp 47), 4, (some (46, true))⟩,
 ⟨some 49, .pick (.tmp 46) (.tmp 48) (.const (.bool false)), 4, none⟩,
 ⟨some 50, .move (.tmp 49), 4, none⟩,
 ⟨some 51, .move (.tmp 9), 28, (some (50, true))⟩,
 ⟨some 52, .binOp .eql 28 (.tmp 51) (.const (.int .i64 34)) 28, 4, (some (50, true))⟩,
 ⟨some 53, .pick (.tmp 50) (.tmp 52) (.const (.bool false)), 4, none⟩,
 ⟨some 54, .move (.tmp 53), 4, none⟩,
 ⟨some 55, .call ⟨.value (.func 26), #[], #[]⟩, 4, (some (54, true))⟩,
 ⟨some 56, .pick (.tmp 54) (.tmp 55) (.const (.bool false)), 4, none⟩,
 ⟨some 4, .assign (.tmp 56), 4, none⟩] [4]) (sg c11S3))
noncomputable def c11S5 (_ : Unit) : Cmd := (.seq (.ops [
 ⟨some 38, .load 24 (.tmp 5), 24, none⟩,
 ⟨some 39, .call ⟨.value (.func 27), #[(.tmp 38), (.const (.int .i64 9))], #[24, 3]⟩, 53, none⟩,
 ⟨some 37, .move (.tmp 39), 53, none⟩,
 ⟨some 40, .extract (.tmp 37) 0, 36, none⟩,
 ⟨some 41, .extract (.tmp 37) 1, 4, none⟩,
 ⟨some 42, .extract (.tmp 37) 2, 28, none⟩,
 ⟨some 7, .assign (.tmp 40), 36, none⟩,
 ⟨some 8, .assign (.tmp 41), 4, none⟩,
 ⟨some 9, .assign (.tmp 42), 28, none⟩] [7, 8, 9]) (sg c11S4))
noncomputable def c11S6 (_ : Unit) : Cmd := (.seq (.seq (.ops [
 ⟨some 32, .fieldAddr 24 (.tmp 5) 2, 0, none⟩,
 ⟨some 33, .load 22 (.tmp 32), 22, none⟩,
 ⟨some 34, .call ⟨.builtin .len, #[(.tmp 33)], #[22]⟩, 3, none⟩,
 ⟨some 35, .binOp .leq 3 (.tmp 34) (.const (.int .i64 16)) 3, 4, none⟩] [5, 35])
 (.cond (.tmp 35)
  (.seq (.ops [
  ⟨some 36, .call ⟨.value (.func 26), #[], #[]⟩, 4, none⟩,
  ⟨some 4, .assign (.tmp 36), 4, none⟩] [4]) (sg c11S2))
  (.skip [5]))) (sg c11S5))
noncomputable def c11 : Cmd := (.seq (.ops [
 ⟨some 2, .box 58 (.tmp 0), 0, none⟩,
 ⟨some 4, .assign (.const (.bool false)), 4, none⟩] [1, 2])
 (.seq (.ops [
 ⟨some 10, .fieldAddr 58 (.tmp 2) 3, 0, none⟩,
 ⟨some 11, .load 3 (.tmp 10), 3, none⟩,
 ⟨some 12, .build 24 #[(1, (.tmp 11))], 24, none⟩,
 ⟨some 5, .alloc 24, 0, none⟩,
 ⟨none, .store 24 (.tmp 5) (.tmp 12), 0, none⟩] [1, 2, 5])
 (.seq (.ops [
 ⟨some 13, .fieldAddr 58 (.tmp 2) 9, 0, none⟩,
 ⟨none, .store 3 (.tmp 13) (.const (.int .i64 1)), 0, none⟩,
 ⟨some 14, .fieldAddr 58 (.tmp 2) 7, 0, none⟩,
 ⟨none, .store 4 (.tmp 14) (.const (.bool true)), 0, none⟩,
 ⟨some 15, .fieldAddr 58 (.tmp 2) 10, 0, none⟩,
 ⟨none, .store 3 (.tmp 15) (.const (.int .i64 9)), 0, none⟩] [1, 2, 5])
 (.seq (.seq (.ops [
 ⟨some 6, .assign (.const (.int .i64 0)), 3, none⟩] [1, 2, 5, 6])
 (.block 0 (.loop (sg c11L0)))) (sg c11S6)))))
@[go_sem] theorem go11 : goFunc Try.prog 11 = true := by kernel_rfl
noncomputable def c25code : Code := match Try.f25.body with | some c => c | none => .skip
noncomputable def c25S0 (_ : Unit) : Cmd := (.cond (.tmp 21)
  (.seq (.ops [
  ⟨some 4, .assign (.const (.bool false)), 4, none⟩] [4])
  .ret)
  (.skip [2]))
noncomputable def c25S1 (_ : Unit) : Cmd := (.cond (.tmp 39)
  (.seq (.ops [
  ⟨some 4, .assign (.const (.bool false)), 4, none⟩] [4])
  .ret)
  (.skip [2, 5]))
noncomputable def c25S2 (_ : Unit) : Cmd := (.ops [
 ⟨some 27, .move (.tmp 5), 3, none⟩,
 ⟨some 28, .binOp .add 3 (.tmp 27) (.const (.int .i64 1)) 3, 3, none⟩,
 ⟨some 5, .assign (.tmp 28), 3, none⟩] [2, 5])
noncomputable def c25S3 (_ : Unit) : Cmd := (.seq (.block 1 (.seq (.draw (drawOps 0 c25code) [2, 5, 39]) (sg c25S1))) (sg c25S2))
noncomputable def c25L0 (_ : Unit) : Cmd := (.seq (.seq (.ops [
 ⟨some 22, .move (.tmp 5), 3, none⟩,
 ⟨some 23, .fieldAddr 24 (.tmp 2) 2, 0, none⟩,
 ⟨some 24, .load 22 (.tmp 23), 22, none⟩,
 ⟨some 25, .call ⟨.builtin .len, #[(.tmp 24)], #[22]⟩, 3, none⟩,
 ⟨some 26, .binOp .lss 3 (.tmp 22) (.tmp 25) 3, 4, none⟩] [2, 5, 26])
 (.cond (.tmp 26)
  (.skip [2, 5])
  (.exit 0 []))) (sg c25S3))
noncomputable def c25S4 (_ : Unit) : Cmd := (.seq (.ops [
 ⟨some 4, .assign (.const (.bool true)), 4, none⟩] [4])
 .ret)
noncomputable def c25S5 (_ : Unit) : Cmd := (.seq (.seq (.ops [
 ⟨some 5, .assign (.const (.int .i64 0)), 3, none⟩] [2, 5])
 (.block 0 (.loop (sg c25L0)))) (sg c25S4))
noncomputable def c25 : Cmd := (.seq (.ops [
 ⟨some 2, .box 24 (.tmp 0), 0, none⟩,
 ⟨some 4, .assign (.const (.bool false)), 4, none⟩] [1, 2])
 (.seq (.seq (.ops [
 ⟨some 6, .fieldAddr 24 (.tmp 2) 2, 0, none⟩,
 ⟨some 7, .load 22 (.tmp 6), 22, none⟩,
 ⟨some 8, .call ⟨.builtin .len, #[(.tmp 7)], #[22]⟩, 3, none⟩,
 ⟨some 9, .move (.tmp 1), 3, none⟩,
 ⟨some 10, .binOp .gtr 3 (.tmp 8) (.tmp 9) 3, 4, none⟩,
 ⟨some 11, .move (.tmp 10), 4, none⟩,
 ⟨some 12, .load 24 (.tmp 2), 24, (some (11, false))⟩,
 ⟨some 13, .call ⟨.value (.func 35), #[(.tmp 12)], #[24]⟩, 4, (some (11, false))⟩,
 ⟨some 14, .unOp .not 4 (.tmp 13), 4, (some (11, false))⟩,
 ⟨some 15, .pick (.tmp 11) (.const (.bool true)) (.tmp 14), 4, none⟩,
 ⟨some 16, .move (.tmp 15), 4, none⟩,
 ⟨some 17, .fieldAddr 24 (.tmp 2) 2, 0, (some (16, false))⟩,
 ⟨some 18, .load 22 (.tmp 17), 22, (some (16, false))⟩,
 ⟨some 19, .call ⟨.value (.func 54), #[(.tmp 18)], #[22]⟩, 4, (some (16, false))⟩,
 ⟨some 20, .unOp .not 4 (.tmp 19), 4, (some (16, false))⟩,
 ⟨some 21, .pick (.tmp 16) (.const (.bool true)) (.tmp 20), 4, none⟩] [2, 21]) (sg c25S0)) (sg c25S5)))
noncomputable def c25D0 : List (Nat × Ins) := [
 (0, ⟨some 29, .fieldAddr 24 (.tmp 2) 2, 0, none⟩),
 (0, ⟨some 31, .move (.tmp 5), 3, none⟩),
 (0, ⟨some 34, .fieldAddr 24 (.tmp 2) 2, 0, none⟩),
 (0, ⟨some 36, .move (.tmp 5), 3, none⟩),
 (1, ⟨some 30, .load 22 (.tmp 29), 22, none⟩),
 (0, ⟨some 32, .indexAddr 22 (.tmp 30) (.tmp 31), 0, none⟩),
 (1, ⟨some 33, .load 58 (.tmp 32), 58, none⟩),
 (2, ⟨some 35, .load 22 (.tmp 34), 22, none⟩),
 (0, ⟨some 37, .indexAddr 22 (.tmp 35) (.tmp 36), 0, none⟩),
 (2, ⟨some 38, .load 58 (.tmp 37), 58, none⟩),
 (2, ⟨some 39, .call ⟨.value (.func 53), #[(.tmp 33), (.tmp 38)], #[58, 58]⟩, 4, none⟩)]
theorem c25draw0 {L : List Nat} {ρ : Env} {w : World} {Q : Post} (S : World → Prop) (hS : S w.drew) (h : DG Try.prog S c25D0 L ρ w.drew Q) : drawW Try.prog (drawOps 0 c25code) L ρ w Q :=
  drawW_held [1, 4] [(0, 0), (0, 2), (0, 5), (0, 7), (1, 1), (0, 3), (1, 4), (2, 6), (0, 8), (2, 9), (2, 10)] c25D0 (by kernel_rfl) (by kernel_rfl) (by kernel_rfl) S hS h
set_option maxRecDepth 100000 in
theorem ent25 (a0 a1 : Value) (w : World) (K : Value → World → Prop) (h : W Try.prog c25 [(0, a0), (1, a1)] w (finQ Try.prog [.tmp 4] K)) : Ret Try.prog 25 [a0, a1] w K :=
  Ret_of_W (code := c25code) Try.func25 (by kernel_rfl) (by kernel_rfl) (of_decide_eq_true (by kernel_rfl)) h
@[go_sem] theorem go25 : goFunc Try.prog 25 = true := by kernel_rfl
noncomputable def c26code : Code := match Try.f26.body with | some c => c | none => .skip
noncomputable def c26S0 (_ : Unit) : Cmd := .ret
noncomputable def c26S1 (_ : Unit) : Cmd := (.seq (.ops [
 ⟨some 15, .move (.tmp 4), 28, none⟩,
 ⟨some 16, .binOp .eql 28 (.tmp 15) (.const (.int .i64 0)) 28, 4, none⟩,
 ⟨some 17, .move (.tmp 16), 4, none⟩,
 ⟨some 18, .move (.tmp 3), 4, (some (17, true))⟩,
 ⟨some 19, .pick (.tmp 17) (.tmp 18) (.const (.bool false)), 4, none⟩,
 ⟨some 20, .move (.tmp 19), 4, none⟩,
 ⟨some 21, .move (.tmp 2), 36, (some (20, true))⟩,
 ⟨some 22, .buildSlice 36 2 #[(0, (.const (.int .i64 9))), (1, (.const (.int .i64 5)))], 36, (some (20, true))⟩,
 ⟨some 23, .call ⟨.value (.func 29), #[(.tmp 21), (.tmp 22)], #[36, 36]⟩, 4, (some (20, true))⟩,
 ⟨some 24, .pick (.tmp 20) (.tmp 23) (.const (.bool false)), 4, none⟩,
 ⟨some 25, .move (.tmp 24), 4, none⟩,
 ⟨some 26, .load 24 (.tmp 1), 24, (some (25, true))⟩,
 ⟨some 27, .move (.tmp 2), 36, (some (25, true))⟩,
 ⟨some 28, .call ⟨.value (.func 55), #[(.tmp 26), (.tmp 27)], #[24, 36]⟩, 4, (some (25, true))⟩,
 ⟨some 29, .pick (.tmp 25) (.tmp 28) (.const (.bool false)), 4, none⟩,
 ⟨some 30, .move (.tmp 29), 4, none⟩,
 ⟨some 31, .load 24 (.tmp 1), 24, (some (30, true))⟩,
 ⟨some 32, .buildSlice 36 2 #[(0, (.const (.int .i64 5))), (1, (.const (.int .i64 9)))], 36, (some (30, true))⟩,
 ⟨some 33, .call ⟨.value (.func 55), #[(.tmp 31), (.tmp 32)], #[24, 36]⟩, 4, (some (30, true))⟩,
 ⟨some 34, .unOp .not 4 (.tmp 33), 4, (some (30, true))⟩,
 ⟨some 35, .pick (.tmp 30) (.tmp 34) (.const (.bool false)), 4, none⟩,
 ⟨some 0, .assign (.tmp 35), 4, none⟩] [0]) (sg c26S0))
noncomputable def c26 : Cmd := (.seq (.ops [
 ⟨some 0, .assign (.const (.bool false)), 4, none⟩] [])
 (.seq (.ops [
 ⟨some 5, .build 58 #[(0, (.const (.int .i64 5))), (3, (.const (.int .i64 1))), (4, (.const (.int .i64 2))), (5, (.const (.int .i64 1))), (7, (.const (.bool true))), (10, (.const (.int .i64 9)))], 58, none⟩,
 ⟨some 6, .build 58 #[(0, (.const (.int .i64 9))), (3, (.const (.int .i64 1))), (4, (.const (.int .i64 1))), (7, (.const (.bool true))), (9, (.const (.int .i64 1))), (10, (.const (.int .i64 8)))], 58, none⟩,
 ⟨some 7, .buildSlice 22 2 #[(0, (.tmp 5)), (1, (.tmp 6))], 22, none⟩,
 ⟨some 8, .build 24 #[(1, (.const (.int .i64 1))), (2, (.tmp 7))], 24, none⟩,
 ⟨some 1, .alloc 24, 0, none⟩,
 ⟨none, .store 24 (.tmp 1) (.tmp 8), 0, none⟩] [1])
 (.seq (.ops [
 ⟨some 10, .load 24 (.tmp 1), 24, none⟩,
 ⟨some 11, .call ⟨.value (.func 27), #[(.tmp 10), (.const (.int .i64 99))], #[24, 3]⟩, 53, none⟩,
 ⟨some 9, .move (.tmp 11), 53, none⟩,
 ⟨some 12, .extract (.tmp 9) 0, 36, none⟩,
 ⟨some 13, .extract (.tmp 9) 1, 4, none⟩,
 ⟨some 14, .extract (.tmp 9) 2, 28, none⟩,
 ⟨some 2, .assign (.tmp 12), 36, none⟩,
 ⟨some 3, .assign (.tmp 13), 4, none⟩,
 ⟨some 4, .assign (.tmp 14), 28, none⟩] [1, 2, 3, 4]) (sg c26S1))))
set_option maxRecDepth 100000 in
theorem ent26 (w : World) (K : Value → World → Prop) (h : W Try.prog c26 [] w (finQ Try.prog [.tmp 0] K)) : Ret Try.prog 26 [] w K :=
  Ret_of_W (code := c26code) Try.func26 (by kernel_rfl) (by kernel_rfl) (of_decide_eq_true (by kernel_rfl)) h
@[go_sem] theorem go26 : goFunc Try.prog 26 = true := by kernel_rfl
noncomputable def c27code : Code := match Try.f27.body with | some c => c | none => .skip
noncomputable def c27S0 (_ : Unit) : Cmd := (.ops [
 ⟨some 33, .move (.tmp 7), 95, none⟩,
 ⟨some 34, .move (.tmp 7), 95, none⟩,
 ⟨some 35, .nilCheck (.tmp 34), 0, none⟩,
 ⟨some 36, .fieldAddr 99 (.tmp 35) 0, 0, none⟩,
 ⟨some 37, .load 97 (.tmp 36), 97, none⟩,
 ⟨some 38, .move (.tmp 10), 22, none⟩,
 ⟨some 39, .buildSlice 97 1 #[(0, (.tmp 38))], 97, none⟩,
 ⟨some 40, .call ⟨.builtin .append, #[(.tmp 37), (.tmp 39)], #[97, 97]⟩, 97, none⟩,
 ⟨some 41, .nilCheck (.tmp 33), 0, none⟩,
 ⟨some 42, .fieldAddr 99 (.tmp 41) 0, 0, none⟩,
 ⟨none, .store 97 (.tmp 42) (.tmp 40), 0, none⟩] [2, 7, 18, 19, 20])
noncomputable def c27S1 (_ : Unit) : Cmd := (.seq (.ops [
 ⟨some 31, .move (.tmp 10), 22, none⟩,
 ⟨some 32, .call ⟨.value (.func 58), #[(.tmp 31), (.func 59)], #[22, 102]⟩, 0, none⟩] [2, 7, 10, 18, 19, 20]) (sg c27S0))
noncomputable def c27S2 (_ : Unit) : Cmd := (.seq (.ops [
 ⟨some 28, .fieldAddr 24 (.tmp 9) 2, 0, none⟩,
 ⟨some 29, .load 22 (.tmp 28), 22, none⟩,
 ⟨some 30, .call ⟨.value (.func 57), #[(.tmp 29)], #[22]⟩, 22, none⟩,
 ⟨some 10, .assign (.tmp 30), 22, none⟩] [2, 7, 10, 18, 19, 20]) (sg c27S1))
noncomputable def c27S3 (_ : Unit) : Cmd := (.ops [
 ⟨some 43, .binOp .add 3 (.tmp 20) (.const (.int .i64 1)) 3, 3, none⟩,
 ⟨some 20, .move (.tmp 43), 3, none⟩] [2, 7, 18, 19, 20])
noncomputable def c27S4 (_ : Unit) : Cmd := (.seq (.block 1 (.seq (.ops [
 ⟨some 22, .indexAddr 47 (.tmp 18) (.tmp 20), 0, none⟩,
 ⟨some 23, .load 24 (.tmp 22), 24, none⟩,
 ⟨some 9, .alloc 24, 0, none⟩,
 ⟨none, .store 24 (.tmp 9) (.tmp 23), 0, none⟩] [2, 7, 9, 18, 19, 20])
 (.seq (.seq (.ops [
 ⟨some 24, .fieldAddr 24 (.tmp 9) 2, 0, none⟩,
 ⟨some 25, .load 22 (.tmp 24), 22, none⟩,
 ⟨some 26, .call ⟨.builtin .len, #[(.tmp 25)], #[22]⟩, 3, none⟩,
 ⟨some 27, .binOp .gtr 3 (.tmp 26) (.const (.int .i64 16)) 3, 4, none⟩] [2, 7, 9, 18, 19, 20, 27])
 (.cond (.tmp 27)
  (.seq (.ops [
  ⟨some 4, .assign (.const (.slice none 0 0)), 36, none⟩,
  ⟨some 5, .assign (.const (.bool false)), 4, none⟩,
  ⟨some 6, .assign (.const (.int .i64 34)), 28, none⟩] [4, 5, 6])
  .ret)
  (.skip [2, 7, 9, 18, 19, 20]))) (sg c27S2)))) (sg c27S3))
noncomputable def c27L0 (_ : Unit) : Cmd := (.seq (.ops [
 ⟨some 21, .binOp .lss 3 (.tmp 20) (.tmp 19) 3, 0, none⟩] [2, 7, 18, 19, 20, 21])
 (.seq (.cond (.tmp 21)
  (.skip [2, 7, 18, 19, 20])
  (.exit 0 [2, 7])) (sg c27S4)))
noncomputable def c27S5 (_ : Unit) : Cmd := (.block 0 (.loop (sg c27L0)))
noncomputable def c27S6 (_ : Unit) : Cmd := (.seq (.ops [
 ⟨some 56, .move (.tmp 7), 95, none⟩,
 ⟨some 57, .nilCheck (.tmp 56), 0, none⟩,
 ⟨some 58, .fieldAddr 99 (.tmp 57) 2, 0, none⟩,
 ⟨some 59, .load 36 (.tmp 58), 36, none⟩,
 ⟨some 4, .assign (.tmp 59), 36, none⟩,
 ⟨some 5, .assign (.const (.bool true)), 4, none⟩,
 ⟨some 6, .assign (.const (.int .i64 0)), 28, none⟩] [4, 5, 6])
 .ret)
noncomputable def c27S7 (_ : Unit) : Cmd := (.seq (.seq (.ops [
 ⟨some 54, .move (.tmp 11), 4, none⟩,
 ⟨some 55, .unOp .not 4 (.tmp 54), 4, none⟩] [7, 55])
 (.cond (.tmp 55)
  (.seq (.ops [
  ⟨some 4, .assign (.const (.slice none 0 0)), 36, none⟩,
  ⟨some 5, .assign (.const (.bool false)), 4, none⟩,
  ⟨some 6, .assign (.const (.int .i64 0)), 28, none⟩] [4, 5, 6])
  .ret)
  (.skip [7]))) (sg c27S6))
noncomputable def c27S8 (_ : Unit) : Cmd := (.seq (.seq (.ops [
 ⟨some 49, .move (.tmp 7), 95, none⟩,
 ⟨some 50, .nilCheck (.tmp 49), 0, none⟩,
 ⟨some 51, .fieldAddr 99 (.tmp 50) 3, 0, none⟩,
 ⟨some 52, .load 3 (.tmp 51), 3, none⟩,
 ⟨some 53, .binOp .lss 3 (.tmp 52) (.const (.int .i64 0)) 3, 4, none⟩] [7, 11, 53])
 (.cond (.tmp 53)
  (.seq (.ops [
  ⟨some 4, .assign (.const (.slice none 0 0)), 36, none⟩,
  ⟨some 5, .assign (.const (.bool false)), 4, none⟩,
  ⟨some 6, .assign (.const (.int .i64 35)), 28, none⟩] [4, 5, 6])
  .ret)
  (.skip [7, 11]))) (sg c27S7))
noncomputable def c27S9 (_ : Unit) : Cmd := (.seq (.ops [
 ⟨some 44, .move (.tmp 7), 95, none⟩,
 ⟨some 45, .fieldAddr 24 (.tmp 2) 1, 0, none⟩,
 ⟨some 46, .load 3 (.tmp 45), 3, none⟩,
 ⟨some 47, .call ⟨.value (.func 62), #[(.tmp 46)], #[3]⟩, 36, none⟩,
 ⟨some 48, .call ⟨.value (.func 61), #[(.tmp 44), (.const (.int .i64 0)), (.const (.int .u32 0)), (.tmp 47)], #[95, 3, 63, 36]⟩, 4, none⟩,
 ⟨some 11, .assign (.tmp 48), 4, none⟩] [7, 11]) (sg c27S8))
noncomputable def c27S10 (_ : Unit) : Cmd := (.seq (.seq (.ops [
 ⟨some 17, .load 24 (.tmp 2), 24, none⟩,
 ⟨some 18, .call ⟨.value (.func 56), #[(.tmp 17)], #[24]⟩, 47, none⟩,
 ⟨some 19, .call ⟨.builtin .len, #[(.tmp 18)], #[47]⟩, 3, none⟩,
 ⟨some 20, .move (.const (.int .i64 0)), 3, none⟩] [2, 7, 18, 19, 20]) (sg c27S5)) (sg c27S9))
noncomputable def c27 : Cmd := (.seq (.ops [
 ⟨some 2, .box 24 (.tmp 0), 0, none⟩,
 ⟨some 4, .assign (.const (.slice none 0 0)), 36, none⟩,
 ⟨some 5, .assign (.const (.bool false)), 4, none⟩,
 ⟨some 6, .assign (.const (.int .i64 0)), 28, none⟩] [1, 2])
 (.seq (.ops [
 ⟨some 12, .makeMap 96 none, 96, none⟩,
 ⟨some 13, .move (.tmp 1), 3, none⟩,
 ⟨some 14, .call ⟨.builtin .min, #[(.tmp 13), (.const (.int .i64 32768))], #[3, 3]⟩, 3, none⟩,
 ⟨some 15, .build 99 #[(1, (.tmp 12)), (3, (.tmp 14))], 99, none⟩,
 ⟨some 16, .box 99 (.tmp 15), 95, none⟩,
 ⟨some 7, .assign (.tmp 16), 95, none⟩] [2, 7]) (sg c27S10)))
set_option maxRecDepth 100000 in
theorem ent27 (a0 a1 : Value) (w : World) (K : Value → World → Prop) (h : W Try.prog c27 [(0, a0), (1, a1)] w (finQ Try.prog [.tmp 4, .tmp 5, .tmp 6] K)) : Ret Try.prog 27 [a0, a1] w K :=
  Ret_of_W (code := c27code) Try.func27 (by kernel_rfl) (by kernel_rfl) (of_decide_eq_true (by kernel_rfl)) h
@[go_sem] theorem go27 : goFunc Try.prog 27 = true := by kernel_rfl
@[go_sem] theorem go28 : goFunc Try.prog 28 = true := by kernel_rfl
noncomputable def c54code : Code := match Try.f54.body with | some c => c | none => .skip
noncomputable def c54S0 (_ : Unit) : Cmd := (.cond (.tmp 19)
  (.seq (.ops [
  ⟨some 2, .assign (.const (.bool false)), 4, none⟩] [2])
  .ret)
  (.skip [0, 3]))
noncomputable def c54S1 (_ : Unit) : Cmd := (.ops [
 ⟨some 8, .move (.tmp 3), 3, none⟩,
 ⟨some 9, .binOp .add 3 (.tmp 8) (.const (.int .i64 1)) 3, 3, none⟩,
 ⟨some 3, .assign (.tmp 9), 3, none⟩] [0, 3])
noncomputable def c54S2 (_ : Unit) : Cmd := (.seq (.block 1 (.seq (.draw (drawOps 0 c54code) [0, 3, 19]) (sg c54S0))) (sg c54S1))
noncomputable def c54L0 (_ : Unit) : Cmd := (.seq (.seq (.ops [
 ⟨some 4, .move (.tmp 3), 3, none⟩,
 ⟨some 5, .move (.tmp 0), 22, none⟩,
 ⟨some 6, .call ⟨.builtin .len, #[(.tmp 5)], #[22]⟩, 3, none⟩,
 ⟨some 7, .binOp .lss 3 (.tmp 4) (.tmp 6) 3, 4, none⟩] [0, 3, 7])
 (.cond (.tmp 7)
  (.skip [0, 3])
  (.exit 0 []))) (sg c54S2))
noncomputable def c54S3 (_ : Unit) : Cmd := (.seq (.ops [
 ⟨some 2, .assign (.const (.bool true)), 4, none⟩] [2])
 .ret)
noncomputable def c54 : Cmd := (.seq (.ops [
 ⟨some 2, .assign (.const (.bool false)), 4, none⟩] [0])
 (.seq (.seq (.ops [
 ⟨some 3, .assign (.const (.int .i64 0)), 3, none⟩] [0, 3])
 (.block 0 (.loop (sg c54L0)))) (sg c54S3)))
noncomputable def c54D0 : List (Bool × Ins) := [
 (true, ⟨some 10, .move (.tmp 0), 22, none⟩),
 (true, ⟨some 11, .move (.tmp 3), 3, none⟩),
 (true, ⟨some 12, .slice 22 (.tmp 10) none (some (.tmp 11)) none, 22, none⟩),
 (true, ⟨some 13, .move (.tmp 0), 22, none⟩),
 (true, ⟨some 14, .move (.tmp 3), 3, none⟩),
 (true, ⟨some 15, .indexAddr 22 (.tmp 13) (.tmp 14), 0, none⟩),
 (true, ⟨some 16, .fieldAddr 58 (.tmp 15) 0, 0, none⟩),
 (false, ⟨some 17, .load 3 (.tmp 16), 3, none⟩),
 (false, ⟨some 18, .call ⟨.value (.func 63), #[(.tmp 12), (.tmp 17)], #[22, 3]⟩, 3, none⟩),
 (true, ⟨some 19, .binOp .geq 3 (.tmp 18) (.const (.int .i64 0)) 3, 4, none⟩)]
theorem c54draw0 {L : List Nat} {ρ : Env} {w : World} {Q : Post} (h : DL Try.prog c54D0 L ρ w.drew Q) : drawW Try.prog (drawOps 0 c54code) L ρ w Q :=
  drawW_by [(true, 0), (true, 1), (true, 2), (true, 3), (true, 4), (true, 5), (true, 6), (false, 7), (false, 8), (true, 9)] c54D0 (by kernel_rfl) (by kernel_rfl) (by kernel_rfl) h
set_option maxRecDepth 100000 in
theorem ent54 (a0 : Value) (w : World) (K : Value → World → Prop) (h : W Try.prog c54 [(0, a0)] w (finQ Try.prog [.tmp 2] K)) : Ret Try.prog 54 [a0] w K :=
  Ret_of_W (code := c54code) Try.func54 (by kernel_rfl) (by kernel_rfl) (of_decide_eq_true (by kernel_rfl)) h
@[go_sem] theorem go54 : goFunc Try.prog 54 = true := by kernel_rfl
noncomputable def c55code : Code := match Try.f55.body with | some c => c | none => .skip
noncomputable def c55S0 (_ : Unit) : Cmd := (.cond (.tmp 34)
  (.seq (.ops [
  ⟨some 4, .assign (.const (.bool false)), 4, none⟩] [4])
  .ret)
  (.skip [1, 2, 5, 8, 15, 16, 17]))
noncomputable def c55S1 (_ : Unit) : Cmd := (.ops [
 ⟨some 35, .move (.tmp 5), 22, none⟩,
 ⟨some 36, .fieldAddr 24 (.tmp 2) 2, 0, none⟩,
 ⟨some 37, .load 22 (.tmp 36), 22, none⟩,
 ⟨some 38, .move (.tmp 8), 3, none⟩,
 ⟨some 39, .indexAddr 22 (.tmp 37) (.tmp 38), 0, none⟩,
 ⟨some 40, .load 58 (.tmp 39), 58, none⟩,
 ⟨some 41, .buildSlice 22 1 #[(0, (.tmp 40))], 22, none⟩,
 ⟨some 42, .call ⟨.builtin .append, #[(.tmp 35), (.tmp 41)], #[22, 22]⟩, 22, none⟩,
 ⟨some 5, .assign (.tmp 42), 22, none⟩] [1, 2, 5, 15, 16, 17])
noncomputable def c55S2 (_ : Unit) : Cmd := (.seq (.seq (.draw (drawOps 0 c55code) [1, 2, 5, 8, 15, 16, 17, 34]) (sg c55S0)) (sg c55S1))
noncomputable def c55S3 (_ : Unit) : Cmd := (.ops [
 ⟨some 43, .binOp .add 3 (.tmp 17) (.const (.int .i64 1)) 3, 3, none⟩,
 ⟨some 17, .move (.tmp 43), 3, none⟩] [1, 2, 5, 15, 16, 17])
noncomputable def c55S4 (_ : Unit) : Cmd := (.seq (.block 1 (.seq (.ops [
 ⟨some 19, .move (.tmp 17), 3, none⟩,
 ⟨some 20, .indexAddr 36 (.tmp 15) (.tmp 17), 0, none⟩,
 ⟨some 21, .load 3 (.tmp 20), 3, none⟩,
 ⟨some 7, .alloc 3, 0, none⟩,
 ⟨some 6, .assign (.tmp 19), 3, none⟩,
 ⟨none, .store 3 (.tmp 7) (.tmp 21), 0, none⟩] [1, 2, 5, 6, 7, 15, 16, 17])
 (.seq (.ops [
 ⟨some 22, .fieldAddr 24 (.tmp 2) 2, 0, none⟩,
 ⟨some 23, .load 22 (.tmp 22), 22, none⟩,
 ⟨some 24, .makeFunc (.func 81) #[] #[(.tmp 7)], 126, none⟩,
 ⟨some 25, .call ⟨.value (.func 80), #[(.tmp 23), (.tmp 24)], #[22, 126]⟩, 3, none⟩,
 ⟨some 8, .assign (.tmp 25), 3, none⟩] [1, 2, 5, 6, 7, 8, 15, 16, 17]) (sg c55S2)))) (sg c55S3))
noncomputable def c55L0 (_ : Unit) : Cmd := (.seq (.ops [
 ⟨some 18, .binOp .lss 3 (.tmp 17) (.tmp 16) 3, 0, none⟩] [1, 2, 5, 15, 16, 17, 18])
 (.seq (.cond (.tmp 18)
  (.skip [1, 2, 5, 15, 16, 17])
  (.exit 0 [1, 2, 5])) (sg c55S4)))
noncomputable def c55S5 (_ : Unit) : Cmd := (.cond (.tmp 55)
  (.seq (.ops [
  ⟨some 4, .assign (.const (.bool false)), 4, none⟩] [4])
  .ret)
  (.skip [1, 2, 5, 44, 45, 46]))
noncomputable def c55S6 (_ : Unit) : Cmd := (.ops [
 ⟨some 56, .binOp .add 3 (.tmp 46) (.const (.int .i64 1)) 3, 3, none⟩,
 ⟨some 46, .move (.tmp 56), 3, none⟩] [1, 2, 5, 44, 45, 46])
noncomputable def c55S7 (_ : Unit) : Cmd := (.seq (.block 3 (.seq (.ops [
 ⟨some 48, .move (.tmp 46), 3, none⟩,
 ⟨some 49, .indexAddr 22 (.tmp 44) (.tmp 46), 0, none⟩,
 ⟨some 50, .load 58 (.tmp 49), 58, none⟩,
 ⟨some 10, .alloc 58, 0, none⟩,
 ⟨some 9, .assign (.tmp 48), 3, none⟩,
 ⟨none, .store 58 (.tmp 10) (.tmp 50), 0, none⟩] [1, 2, 5, 9, 10, 44, 45, 46])
 (.seq (.ops [
 ⟨some 51, .move (.tmp 5), 22, none⟩,
 ⟨some 52, .move (.tmp 9), 3, none⟩,
 ⟨some 53, .slice 22 (.tmp 51) none (some (.tmp 52)) none, 22, none⟩,
 ⟨some 54, .makeFunc (.func 84) #[] #[(.tmp 10)], 126, none⟩,
 ⟨some 55, .call ⟨.value (.func 83), #[(.tmp 53), (.tmp 54)], #[22, 126]⟩, 4, none⟩] [1, 2, 5, 44, 45, 46, 55]) (sg c55S5)))) (sg c55S6))
noncomputable def c55L1 (_ : Unit) : Cmd := (.seq (.ops [
 ⟨some 47, .binOp .lss 3 (.tmp 46) (.tmp 45) 3, 0, none⟩] [1, 2, 5, 44, 45, 46, 47])
 (.seq (.cond (.tmp 47)
  (.skip [1, 2, 5, 44, 45, 46])
  (.exit 2 [1, 2, 5])) (sg c55S7)))
noncomputable def c55S8 (_ : Unit) : Cmd := (.cond (.tmp 72)
  (.seq (.ops [
  ⟨some 4, .assign (.const (.bool false)), 4, none⟩] [4])
  .ret)
  (.skip [1, 2, 5, 58, 59, 60]))
noncomputable def c55S9 (_ : Unit) : Cmd := (.ops [
 ⟨some 73, .binOp .add 3 (.tmp 60) (.const (.int .i64 1)) 3, 3, none⟩,
 ⟨some 60, .move (.tmp 73), 3, none⟩] [1, 2, 5, 58, 59, 60])
noncomputable def c55S10 (_ : Unit) : Cmd := (.seq (.block 5 (.seq (.ops [
 ⟨some 62, .indexAddr 22 (.tmp 58) (.tmp 60), 0, none⟩,
 ⟨some 63, .load 58 (.tmp 62), 58, none⟩,
 ⟨some 12, .alloc 58, 0, none⟩,
 ⟨none, .store 58 (.tmp 12) (.tmp 63), 0, none⟩] [1, 2, 5, 12, 58, 59, 60])
 (.seq (.ops [
 ⟨some 64, .fieldAddr 58 (.tmp 12) 7, 0, none⟩,
 ⟨some 65, .load 4 (.tmp 64), 4, none⟩,
 ⟨some 66, .move (.tmp 65), 4, none⟩,
 ⟨some 67, .move (.tmp 1), 36, (some (66, true))⟩,
 ⟨some 68, .fieldAddr 58 (.tmp 12) 0, 0, (some (66, true))⟩,
 ⟨some 69, .load 3 (.tmp 68), 3, (some (66, true))⟩,
 ⟨some 70, .call ⟨.value (.func 82), #[(.tmp 67), (.tmp 69)], #[36, 3]⟩, 4, (some (66, true))⟩,
 ⟨some 71, .unOp .not 4 (.tmp 70), 4, (some (66, true))⟩,
 ⟨some 72, .pick (.tmp 66) (.tmp 71) (.const (.bool false)), 4, none⟩] [1, 2, 5, 58, 59, 60, 72]) (sg c55S8)))) (sg c55S9))
noncomputable def c55L2 (_ : Unit) : Cmd := (.seq (.ops [
 ⟨some 61, .binOp .lss 3 (.tmp 60) (.tmp 59) 3, 0, none⟩] [1, 2, 5, 58, 59, 60, 61])
 (.seq (.cond (.tmp 61)
  (.skip [1, 2, 5, 58, 59, 60])
  (.exit 4 [2, 5])) (sg c55S10)))
noncomputable def c55S11 (_ : Unit) : Cmd := (.seq (.ops [
 ⟨some 82, .move (.tmp 14), 4, none⟩,
 ⟨some 4, .assign (.tmp 82), 4, none⟩] [4])
 .ret)
noncomputable def c55S12 (_ : Unit) : Cmd := (.seq (.ops [
 ⟨some 75, .fieldAddr 24 (.tmp 2) 1, 0, none⟩,
 ⟨some 76, .load 3 (.tmp 75), 3, none⟩,
 ⟨some 77, .call ⟨.value (.func 62), #[(.tmp 76)], #[3]⟩, 36, none⟩,
 ⟨some 78, .move (.tmp 5), 22, none⟩,
 ⟨some 79, .call ⟨.value (.func 85), #[(.tmp 77), (.tmp 78)], #[36, 22]⟩, 74, none⟩,
 ⟨some 74, .move (.tmp 79), 74, none⟩,
 ⟨some 80, .extract (.tmp 74) 0, 36, none⟩,
 ⟨some 81, .extract (.tmp 74) 1, 4, none⟩,
 ⟨some 13, .assign (.tmp 80), 36, none⟩,
 ⟨some 14, .assign (.tmp 81), 4, none⟩] [14]) (sg c55S11))
noncomputable def c55S13 (_ : Unit) : Cmd := (.seq (.seq (.ops [
 ⟨some 57, .fieldAddr 24 (.tmp 2) 2, 0, none⟩,
 ⟨some 58, .load 22 (.tmp 57), 22, none⟩,
 ⟨some 59, .call ⟨.builtin .len, #[(.tmp 58)], #[22]⟩, 3, none⟩,
 ⟨some 60, .move (.const (.int .i64 0)), 3, none⟩] [1, 2, 5, 58, 59, 60])
 (.block 4 (.loop (sg c55L2)))) (sg c55S12))
noncomputable def c55S14 (_ : Unit) : Cmd := (.seq (.seq (.ops [
 ⟨some 44, .move (.tmp 5), 22, none⟩,
 ⟨some 45, .call ⟨.builtin .len, #[(.tmp 44)], #[22]⟩, 3, none⟩,
 ⟨some 46, .move (.const (.int .i64 0)), 3, none⟩] [1, 2, 5, 44, 45, 46])
 (.block 2 (.loop (sg c55L1)))) (sg c55S13))
noncomputable def c55 : Cmd := (.seq (.ops [
 ⟨some 2, .box 24 (.tmp 0), 0, none⟩,
 ⟨some 4, .assign (.const (.bool false)), 4, none⟩] [1, 2])
 (.seq (.ops [
 ⟨some 5, .assign (.const (.slice none 0 0)), 22, none⟩] [1, 2, 5])
 (.seq (.seq (.ops [
 ⟨some 15, .move (.tmp 1), 36, none⟩,
 ⟨some 16, .call ⟨.builtin .len, #[(.tmp 15)], #[36]⟩, 3, none⟩,
 ⟨some 17, .move (.const (.int .i64 0)), 3, none⟩] [1, 2, 5, 15, 16, 17])
 (.block 0 (.loop (sg c55L0)))) (sg c55S14))))
noncomputable def c55D0 : List (Bool × Ins) := [
 (true, ⟨some 26, .move (.tmp 8), 3, none⟩),
 (true, ⟨some 27, .binOp .lss 3 (.tmp 26) (.const (.int .i64 0)) 3, 4, none⟩),
 (true, ⟨some 28, .move (.tmp 27), 4, none⟩),
 (true, ⟨some 29, .move (.tmp 1), 36, (some (28, false))⟩),
 (true, ⟨some 30, .move (.tmp 6), 3, (some (28, false))⟩),
 (true, ⟨some 31, .slice 36 (.tmp 29) none (some (.tmp 30)) none, 36, (some (28, false))⟩),
 (false, ⟨some 32, .load 3 (.tmp 7), 3, (some (28, false))⟩),
 (false, ⟨some 33, .call ⟨.value (.func 82), #[(.tmp 31), (.tmp 32)], #[36, 3]⟩, 4, (some (28, false))⟩),
 (true, ⟨some 34, .pick (.tmp 28) (.const (.bool true)) (.tmp 33), 4, none⟩)]
theorem c55draw0 {L : List Nat} {ρ : Env} {w : World} {Q : Post} (h : DL Try.prog c55D0 L ρ w.drew Q) : drawW Try.prog (drawOps 0 c55code) L ρ w Q :=
  drawW_by [(true, 0), (true, 1), (true, 2), (true, 3), (true, 4), (true, 5), (false, 6), (false, 7), (true, 8)] c55D0 (by kernel_rfl) (by kernel_rfl) (by kernel_rfl) h
set_option maxRecDepth 100000 in
theorem ent55 (a0 a1 : Value) (w : World) (K : Value → World → Prop) (h : W Try.prog c55 [(0, a0), (1, a1)] w (finQ Try.prog [.tmp 4] K)) : Ret Try.prog 55 [a0, a1] w K :=
  Ret_of_W (code := c55code) Try.func55 (by kernel_rfl) (by kernel_rfl) (of_decide_eq_true (by kernel_rfl)) h
@[go_sem] theorem go55 : goFunc Try.prog 55 = true := by kernel_rfl
noncomputable def c56code : Code := match Try.f56.body with | some c => c | none => .skip
noncomputable def c56S0 (_ : Unit) : Cmd := (.ops [
  ⟨some 41, .move (.tmp 7), 3, none⟩,
  ⟨some 42, .binOp .add 3 (.tmp 41) (.const (.int .i64 1)) 3, 3, none⟩,
  ⟨some 7, .assign (.tmp 42), 3, none⟩] [1, 4, 6, 7, 13, 14, 15])
noncomputable def c56S1 (_ : Unit) : Cmd := (.cond (.tmp 32)
  (.seq (.ops [
  ⟨some 33, .move (.tmp 4), 47, none⟩,
  ⟨some 34, .fieldAddr 24 (.tmp 1) 0, 0, none⟩,
  ⟨some 35, .load 3 (.tmp 34), 3, none⟩,
  ⟨some 36, .fieldAddr 24 (.tmp 1) 1, 0, none⟩,
  ⟨some 37, .load 3 (.tmp 36), 3, none⟩,
  ⟨some 38, .build 24 #[(0, (.tmp 35)), (1, (.tmp 37))], 24, none⟩,
  ⟨some 39, .buildSlice 47 1 #[(0, (.tmp 38))], 47, none⟩,
  ⟨some 40, .call ⟨.builtin .append, #[(.tmp 33), (.tmp 39)], #[47, 47]⟩, 47, none⟩,
  ⟨some 4, .assign (.tmp 40), 47, none⟩] [1, 4, 6, 7, 13, 14, 15]) (sg c56S0))
  (.skip [1, 4, 6, 7, 13, 14, 15]))
noncomputable def c56S2 (_ : Unit) : Cmd := (.draw (drawOps 1 c56code) [1, 4, 13, 14, 15])
noncomputable def c56S3 (_ : Unit) : Cmd := (.ops [
 ⟨some 55, .binOp .add 3 (.tmp 15) (.const (.int .i64 1)) 3, 3, none⟩,
 ⟨some 15, .move (.tmp 55), 3, none⟩] [1, 4, 13, 14, 15])
noncomputable def c56S4 (_ : Unit) : Cmd := (.seq (.block 1 (.seq (.ops [
 ⟨some 17, .indexAddr 22 (.tmp 13) (.tmp 15), 0, none⟩,
 ⟨some 18, .load 58 (.tmp 17), 58, none⟩,
 ⟨some 6, .alloc 58, 0, none⟩,
 ⟨none, .store 58 (.tmp 6) (.tmp 18), 0, none⟩] [1, 4, 6, 13, 14, 15])
 (.seq (.ops [
 ⟨some 19, .move (.tmp 4), 47, none⟩,
 ⟨some 20, .call ⟨.builtin .len, #[(.tmp 19)], #[47]⟩, 3, none⟩,
 ⟨some 21, .binOp .sub 3 (.tmp 20) (.const (.int .i64 1)) 3, 3, none⟩,
 ⟨some 7, .assign (.tmp 21), 3, none⟩] [1, 4, 6, 7, 13, 14, 15])
 (.seq (.seq (.draw (drawOps 0 c56code) [1, 4, 6, 7, 13, 14, 15, 32]) (sg c56S1)) (sg c56S2))))) (sg c56S3))
noncomputable def c56L0 (_ : Unit) : Cmd := (.seq (.ops [
 ⟨some 16, .binOp .lss 3 (.tmp 15) (.tmp 14) 3, 0, none⟩] [1, 4, 13, 14, 15, 16])
 (.seq (.cond (.tmp 16)
  (.skip [1, 4, 13, 14, 15])
  (.exit 0 [4])) (sg c56S4)))
noncomputable def c56S5 (_ : Unit) : Cmd := (.seq (.ops [
 ⟨some 56, .move (.tmp 4), 47, none⟩,
 ⟨some 2, .assign (.tmp 56), 47, none⟩] [2])
 .ret)
noncomputable def c56S6 (_ : Unit) : Cmd := (.seq (.ops [
 ⟨some 4, .assign (.const (.slice none 0 0)), 47, none⟩] [1, 3, 4])
 (.seq (.seq (.ops [
 ⟨some 13, .move (.tmp 3), 22, none⟩,
 ⟨some 14, .call ⟨.builtin .len, #[(.tmp 13)], #[22]⟩, 3, none⟩,
 ⟨some 15, .move (.const (.int .i64 0)), 3, none⟩] [1, 4, 13, 14, 15])
 (.block 0 (.loop (sg c56L0)))) (sg c56S5)))
noncomputable def c56S7 (_ : Unit) : Cmd := (.seq (.ops [
 ⟨some 11, .move (.tmp 3), 22, none⟩,
 ⟨some 12, .call ⟨.value (.func 58), #[(.tmp 11), (.func 86)], #[22, 102]⟩, 0, none⟩] [1, 3]) (sg c56S6))
noncomputable def c56 : Cmd := (.seq (.ops [
 ⟨some 1, .box 24 (.tmp 0), 0, none⟩,
 ⟨some 2, .assign (.const (.slice none 0 0)), 47, none⟩] [1])
 (.seq (.ops [
 ⟨some 8, .fieldAddr 24 (.tmp 1) 2, 0, none⟩,
 ⟨some 9, .load 22 (.tmp 8), 22, none⟩,
 ⟨some 10, .call ⟨.value (.func 57), #[(.tmp 9)], #[22]⟩, 22, none⟩,
 ⟨some 3, .assign (.tmp 10), 22, none⟩] [1, 3]) (sg c56S7)))
noncomputable def c56D0 : List (Nat × Ins) := [
 (0, ⟨some 22, .move (.tmp 7), 3, none⟩),
 (0, ⟨some 23, .binOp .lss 3 (.tmp 22) (.const (.int .i64 0)) 3, 4, none⟩),
 (0, ⟨some 24, .move (.tmp 23), 4, none⟩),
 (0, ⟨some 25, .move (.tmp 4), 47, (some (24, false))⟩),
 (0, ⟨some 26, .move (.tmp 7), 3, (some (24, false))⟩),
 (0, ⟨some 27, .indexAddr 47 (.tmp 25) (.tmp 26), 0, (some (24, false))⟩),
 (0, ⟨some 28, .fieldAddr 24 (.tmp 27) 2, 0, (some (24, false))⟩),
 (1, ⟨some 29, .load 22 (.tmp 28), 22, (some (24, false))⟩),
 (2, ⟨some 30, .load 58 (.tmp 6), 58, (some (24, false))⟩),
 (3, ⟨some 31, .call ⟨.value (.func 87), #[(.tmp 29), (.tmp 30)], #[22, 58]⟩, 4, (some (24, false))⟩),
 (0, ⟨some 32, .pick (.tmp 24) (.const (.bool true)) (.tmp 31), 4, none⟩)]
theorem c56draw0 {L : List Nat} {ρ : Env} {w : World} {Q : Post} (S : World → Prop) (hS : S w.drew) (h : DG Try.prog S c56D0 L ρ w.drew Q) : drawW Try.prog (drawOps 0 c56code) L ρ w Q :=
  drawW_held [7] [(0, 0), (0, 1), (0, 2), (0, 3), (0, 4), (0, 5), (0, 6), (1, 7), (2, 8), (3, 9), (0, 10)] c56D0 (by kernel_rfl) (by kernel_rfl) (by kernel_rfl) S hS h
noncomputable def c56D1 : List (Nat × Ins) := [
 (0, ⟨some 43, .move (.tmp 4), 47, none⟩),
 (0, ⟨some 44, .move (.tmp 7), 3, none⟩),
 (0, ⟨some 45, .move (.tmp 4), 47, none⟩),
 (0, ⟨some 46, .move (.tmp 7), 3, none⟩),
 (0, ⟨some 47, .indexAddr 47 (.tmp 45) (.tmp 46), 0, none⟩),
 (0, ⟨some 48, .fieldAddr 24 (.tmp 47) 2, 0, none⟩),
 (1, ⟨some 49, .load 22 (.tmp 48), 22, none⟩),
 (2, ⟨some 50, .load 58 (.tmp 6), 58, none⟩),
 (2, ⟨some 51, .buildSlice 22 1 #[(0, (.tmp 50))], 22, none⟩),
 (3, ⟨some 52, .call ⟨.builtin .append, #[(.tmp 49), (.tmp 51)], #[22, 22]⟩, 22, none⟩),
 (0, ⟨some 53, .indexAddr 47 (.tmp 43) (.tmp 44), 0, none⟩),
 (0, ⟨some 54, .fieldAddr 24 (.tmp 53) 2, 0, none⟩),
 (3, ⟨none, .store 22 (.tmp 54) (.tmp 52), 0, none⟩)]
theorem c56draw1 {L : List Nat} {ρ : Env} {w : World} {Q : Post} (S : World → Prop) (hS : S w.drew) (h : DG Try.prog S c56D1 L ρ w.drew Q) : drawW Try.prog (drawOps 1 c56code) L ρ w Q :=
  drawW_held [6] [(0, 0), (0, 1), (0, 2), (0, 3), (0, 4), (0, 5), (1, 6), (2, 7), (2, 8), (3, 9), (0, 10), (0, 11), (3, 12)] c56D1 (by kernel_rfl) (by kernel_rfl) (by kernel_rfl) S hS h
set_option maxRecDepth 100000 in
theorem ent56 (a0 : Value) (w : World) (K : Value → World → Prop) (h : W Try.prog c56 [(0, a0)] w (finQ Try.prog [.tmp 2] K)) : Ret Try.prog 56 [a0] w K :=
  Ret_of_W (code := c56code) Try.func56 (by kernel_rfl) (by kernel_rfl) (of_decide_eq_true (by kernel_rfl)) h
@[go_sem] theorem go56 : goFunc Try.prog 56 = true := by kernel_rfl
noncomputable def c57code : Code := match Try.f57.body with | some c => c | none => .skip
noncomputable def c57S0 (_ : Unit) : Cmd := .ret
noncomputable def c57S1 (_ : Unit) : Cmd := (.seq (.ops [
 ⟨some 5, .buildSlice 22 0 #[], 22, none⟩,
 ⟨some 6, .move (.tmp 0), 22, none⟩,
 ⟨some 7, .call ⟨.builtin .append, #[(.tmp 5), (.tmp 6)], #[22, 22]⟩, 22, none⟩,
 ⟨some 2, .assign (.tmp 7), 22, none⟩] [2]) (sg c57S0))
noncomputable def c57 : Cmd := (.seq (.ops [
 ⟨some 2, .assign (.const (.slice none 0 0)), 22, none⟩] [0])
 (.seq (.seq (.ops [
 ⟨some 3, .move (.tmp 0), 22, none⟩,
 ⟨some 4, .binOp .eql 22 (.tmp 3) (.const (.slice none 0 0)) 22, 4, none⟩] [0, 4])
 (.cond (.tmp 4)
  (.seq (.ops [
  ⟨some 2, .assign (.const (.slice none 0 0)), 22, none⟩] [2])
  .ret)
  (.skip [0]))) (sg c57S1)))
set_option maxRecDepth 100000 in
theorem ent57 (a0 : Value) (w : World) (K : Value → World → Prop) (h : W Try.prog c57 [(0, a0)] w (finQ Try.prog [.tmp 2] K)) : Ret Try.prog 57 [a0] w K :=
  Ret_of_W (code := c57code) Try.func57 (by kernel_rfl) (by kernel_rfl) (of_decide_eq_true (by kernel_rfl)) h
@[go_sem] theorem go57 : goFunc Try.prog 57 = true := by kernel_rfl
noncomputable def c58code : Code := match Try.f58.body with | some c => c | none => .skip
noncomputable def c58 : Cmd := (.seq (.ops [
 ⟨some 5, .move (.tmp 0), 22, none⟩,
 ⟨some 6, .call ⟨.builtin .len, #[(.tmp 5)], #[22]⟩, 3, none⟩,
 ⟨some 4, .assign (.tmp 6), 3, none⟩] [0, 1, 4])
 (.ops [
 ⟨some 7, .move (.tmp 0), 22, none⟩,
 ⟨some 8, .move (.tmp 4), 3, none⟩,
 ⟨some 9, .move (.tmp 4), 3, none⟩,
 ⟨some 10, .convert 3 76 (.tmp 9), 76, none⟩,
 ⟨some 11, .call ⟨.value (.func 70), #[(.tmp 10)], #[76]⟩, 3, none⟩,
 ⟨some 12, .move (.tmp 1), 102, none⟩,
 ⟨some 13, .call ⟨.value (.func 88), #[(.tmp 7), (.const (.int .i64 0)), (.tmp 8), (.tmp 11), (.tmp 12)], #[22, 3, 3, 3, 102]⟩, 0, none⟩] []))
set_option maxRecDepth 100000 in
theorem ent58 (a0 a1 : Value) (w : World) (K : Value → World → Prop) (h : W Try.prog c58 [(0, a0), (1, a1)] w (finQ Try.prog [] K)) : Ret Try.prog 58 [a0, a1] w K :=
  Ret_of_W (code := c58code) Try.func58 (by kernel_rfl) (by kernel_rfl) (of_decide_eq_true (by kernel_rfl)) h
@[go_sem] theorem go58 : goFunc Try.prog 58 = true := by kernel_rfl
noncomputable def c59code : Code := match Try.f59.body with | some c => c | none => .skip
noncomputable def c59S0 (_ : Unit) : Cmd := .ret
noncomputable def c59 : Cmd := (.seq (.ops [
 ⟨some 2, .box 58 (.tmp 0), 0, none⟩,
 ⟨some 3, .box 58 (.tmp 1), 0, none⟩,
 ⟨some 4, .assign (.const (.int .i64 0)), 3, none⟩] [2, 3])
 (.seq (.ops [
 ⟨some 5, .fieldAddr 58 (.tmp 2) 0, 0, none⟩,
 ⟨some 6, .load 3 (.tmp 5), 3, none⟩,
 ⟨some 7, .fieldAddr 58 (.tmp 3) 0, 0, none⟩,
 ⟨some 8, .load 3 (.tmp 7), 3, none⟩,
 ⟨some 9, .call ⟨.value (.func 60), #[(.tmp 6), (.tmp 8)], #[3, 3]⟩, 3, none⟩,
 ⟨some 4, .assign (.tmp 9), 3, none⟩] [4]) (sg c59S0)))
set_option maxRecDepth 100000 in
theorem ent59 (a0 a1 : Value) (w : World) (K : Value → World → Prop) (h : W Try.prog c59 [(0, a0), (1, a1)] w (finQ Try.prog [.tmp 4] K)) : Ret Try.prog 59 [a0, a1] w K :=
  Ret_of_W (code := c59code) Try.func59 (by kernel_rfl) (by kernel_rfl) (of_decide_eq_true (by kernel_rfl)) h
@[go_sem] theorem go59 : goFunc Try.prog 59 = true := by kernel_rfl
noncomputable def c60code : Code := match Try.f60.body with | some c => c | none => .skip
noncomputable def c60S0 (_ : Unit) : Cmd := (.seq (.ops [
  ⟨some 4, .assign (.const (.int .i64 (-1))), 3, none⟩] [4])
  .ret)
noncomputable def c60S1 (_ : Unit) : Cmd := (.seq (.ops [
 ⟨some 4, .assign (.const (.int .i64 0)), 3, none⟩] [4])
 .ret)
noncomputable def c60S2 (_ : Unit) : Cmd := (.seq (.seq (.ops [
 ⟨some 17, .move (.tmp 0), 3, none⟩,
 ⟨some 18, .move (.tmp 1), 3, none⟩,
 ⟨some 19, .binOp .gtr 3 (.tmp 17) (.tmp 18) 3, 4, none⟩] [19])
 (.cond (.tmp 19)
  (.seq (.ops [
  ⟨some 4, .assign (.const (.int .i64 1)), 3, none⟩] [4])
  .ret)
  (.skip []))) (sg c60S1))
noncomputable def c60S3 (_ : Unit) : Cmd := (.seq (.seq (.ops [
 ⟨some 14, .move (.tmp 0), 3, none⟩,
 ⟨some 15, .move (.tmp 1), 3, none⟩,
 ⟨some 16, .binOp .lss 3 (.tmp 14) (.tmp 15) 3, 4, none⟩] [0, 1, 16])
 (.cond (.tmp 16)
  (.seq (.ops [
  ⟨some 4, .assign (.const (.int .i64 (-1))), 3, none⟩] [4])
  .ret)
  (.skip [0, 1]))) (sg c60S2))
noncomputable def c60S4 (_ : Unit) : Cmd := (.seq (.seq (.ops [
 ⟨some 13, .move (.tmp 6), 4, none⟩] [0, 1, 13])
 (.cond (.tmp 13)
  (.seq (.ops [
  ⟨some 4, .assign (.const (.int .i64 1)), 3, none⟩] [4])
  .ret)
  (.skip [0, 1]))) (sg c60S3))
noncomputable def c60S5 (_ : Unit) : Cmd := (.seq (.seq (.ops [
 ⟨some 11, .move (.tmp 5), 4, none⟩] [0, 1, 6, 11])
 (.cond (.tmp 11)
  (.seq (.seq (.ops [
  ⟨some 12, .move (.tmp 6), 4, none⟩] [12])
  (.cond (.tmp 12)
   (.seq (.ops [
   ⟨some 4, .assign (.const (.int .i64 0)), 3, none⟩] [4])
   .ret)
   (.skip []))) (sg c60S0))
  (.skip [0, 1, 6]))) (sg c60S4))
noncomputable def c60S6 (_ : Unit) : Cmd := (.seq (.ops [
 ⟨some 9, .move (.tmp 1), 3, none⟩,
 ⟨some 10, .call ⟨.value (.func 89), #[(.tmp 9)], #[3]⟩, 4, none⟩,
 ⟨some 6, .assign (.tmp 10), 4, none⟩] [0, 1, 5, 6]) (sg c60S5))
noncomputable def c60 : Cmd := (.seq (.ops [
 ⟨some 4, .assign (.const (.int .i64 0)), 3, none⟩] [0, 1])
 (.seq (.ops [
 ⟨some 7, .move (.tmp 0), 3, none⟩,
 ⟨some 8, .call ⟨.value (.func 89), #[(.tmp 7)], #[3]⟩, 4, none⟩,
 ⟨some 5, .assign (.tmp 8), 4, none⟩] [0, 1, 5]) (sg c60S6)))
set_option maxRecDepth 100000 in
theorem ent60 (a0 a1 : Value) (w : World) (K : Value → World → Prop) (h : W Try.prog c60 [(0, a0), (1, a1)] w (finQ Try.prog [.tmp 4] K)) : Ret Try.prog 60 [a0, a1] w K :=
  Ret_of_W (code := c60code) Try.func60 (by kernel_rfl) (by kernel_rfl) (of_decide_eq_true (by kernel_rfl)) h
@[go_sem] theorem go60 : goFunc Try.prog 60 = true := by kernel_rfl
noncomputable def c61code : Code := match Try.f61.body with | some c => c | none => .skip
noncomputable def c61S0 (_ : Unit) : Cmd := .ret
noncomputable def c61S1 (_ : Unit) : Cmd := (.cond (.tmp 31)
  (.seq (.opsX [
  ⟨some 32, .move (.tmp 0), 95, none⟩,
  ⟨some 33, .move (.tmp 1), 3, none⟩,
  ⟨some 34, .binOp .add 3 (.tmp 33) (.const (.int .i64 1)) 3, 3, none⟩,
  ⟨some 35, .move (.tmp 3), 36, none⟩,
  ⟨some 36, .call ⟨.value (.func 61), #[(.tmp 32), (.tmp 34), (.const (.int .u32 0)), (.tmp 35)], #[95, 3, 63, 36]⟩, 4, none⟩,
  ⟨some 8, .assign (.tmp 36), 4, none⟩] [8]) (sg c61S0))
  (.skip [0, 1, 2, 3, 9]))
noncomputable def c61S2 (_ : Unit) : Cmd := (.cond (.tmp 47)
  (.seq (.ops [
  ⟨some 8, .assign (.const (.bool false)), 4, none⟩] [8])
  .ret)
  (.skip [0, 1, 2, 3, 9, 10]))
noncomputable def c61S3 (_ : Unit) : Cmd := (.cond (.tmp 78)
  (.exit 1 [0, 1, 2, 3, 9, 10, 60, 61, 62])
  (.skip [0, 1, 2, 3, 9, 10, 11, 12, 60, 61, 62]))
noncomputable def c61S4 (_ : Unit) : Cmd := (.cond (.tmp 106)
  (.seq (.ops [
  ⟨some 8, .assign (.const (.bool true)), 4, none⟩] [8])
  .ret)
  (.skip [0, 1, 2, 3, 9, 10, 60, 61, 62]))
noncomputable def c61S5 (_ : Unit) : Cmd := (.draw (drawOps 2 c61code) [0, 1, 2, 3, 9, 10, 60, 61, 62])
noncomputable def c61S6 (_ : Unit) : Cmd := (.seq (.seq (.ops [
 ⟨some 98, .move (.tmp 0), 95, none⟩,
 ⟨some 99, .move (.tmp 1), 3, none⟩,
 ⟨some 100, .move (.tmp 2), 63, none⟩,
 ⟨some 101, .move (.tmp 11), 3, none⟩,
 ⟨some 102, .convert 3 76 (.tmp 101), 76, none⟩,
 ⟨some 103, .binOp .shl 63 (.const (.int .u32 1)) (.tmp 102) 76, 63, none⟩,
 ⟨some 104, .binOp .or 63 (.tmp 100) (.tmp 103) 63, 63, none⟩,
 ⟨some 105, .move (.tmp 13), 36, none⟩,
 ⟨some 106, .call ⟨.value (.func 61), #[(.tmp 98), (.tmp 99), (.tmp 104), (.tmp 105)], #[95, 3, 63, 36]⟩, 4, none⟩] [0, 1, 2, 3, 9, 10, 60, 61, 62, 106]) (sg c61S4)) (sg c61S5))
noncomputable def c61S7 (_ : Unit) : Cmd := (.seq (.draw (drawOps 1 c61code) [0, 1, 2, 3, 9, 10, 11, 13, 60, 61, 62]) (sg c61S6))
noncomputable def c61S8 (_ : Unit) : Cmd := (.seq (.seq (.ops [
 ⟨some 85, .move (.tmp 14), 4, none⟩,
 ⟨some 86, .unOp .not 4 (.tmp 85), 4, none⟩] [0, 1, 2, 3, 9, 10, 11, 12, 13, 60, 61, 62, 86])
 (.cond (.tmp 86)
  (.exit 1 [0, 1, 2, 3, 9, 10, 60, 61, 62])
  (.skip [0, 1, 2, 3, 9, 10, 11, 12, 13, 60, 61, 62]))) (sg c61S7))
noncomputable def c61S9 (_ : Unit) : Cmd := (.seq (.ops [
 ⟨some 80, .move (.tmp 3), 36, none⟩,
 ⟨some 81, .load 58 (.tmp 12), 58, none⟩,
 ⟨some 82, .call ⟨.value (.func 33), #[(.tmp 80), (.tmp 81)], #[36, 58]⟩, 74, none⟩,
 ⟨some 79, .move (.tmp 82), 74, none⟩,
 ⟨some 83, .extract (.tmp 79) 0, 36, none⟩,
 ⟨some 84, .extract (.tmp 79) 1, 4, none⟩,
 ⟨some 13, .assign (.tmp 83), 36, none⟩,
 ⟨some 14, .assign (.tmp 84), 4, none⟩] [0, 1, 2, 3, 9, 10, 11, 12, 13, 14, 60, 61, 62]) (sg c61S8))
noncomputable def c61S10 (_ : Unit) : Cmd := (.opsX [
 ⟨some 121, .binOp .add 3 (.tmp 62) (.const (.int .i64 1)) 3, 3, none⟩,
 ⟨some 62, .move (.tmp 121), 3, none⟩] [0, 1, 2, 3, 9, 10, 60, 61, 62])
noncomputable def c61S11 (_ : Unit) : Cmd := (.seq (.block 1 (.seq (.ops [
 ⟨some 64, .move (.tmp 62), 3, none⟩,
 ⟨some 65, .indexAddr 22 (.tmp 60) (.tmp 62), 0, none⟩,
 ⟨some 66, .load 58 (.tmp 65), 58, none⟩,
 ⟨some 12, .alloc 58, 0, none⟩,
 ⟨some 11, .assign (.tmp 64), 3, none⟩,
 ⟨none, .store 58 (.tmp 12) (.tmp 66), 0, none⟩] [0, 1, 2, 3, 9, 10, 11, 12, 60, 61, 62])
 (.seq (.seq (.ops [
 ⟨some 67, .move (.tmp 2), 63, none⟩,
 ⟨some 68, .move (.tmp 11), 3, none⟩,
 ⟨some 69, .convert 3 76 (.tmp 68), 76, none⟩,
 ⟨some 70, .binOp .shr 63 (.tmp 67) (.tmp 69) 76, 63, none⟩,
 ⟨some 71, .binOp .and 63 (.tmp 70) (.const (.int .u32 1)) 63, 63, none⟩,
 ⟨some 72, .binOp .eql 63 (.tmp 71) (.const (.int .u32 1)) 63, 4, none⟩,
 ⟨some 73, .move (.tmp 72), 4, none⟩,
 ⟨some 74, .move (.tmp 9), 22, (some (73, false))⟩,
 ⟨some 75, .move (.tmp 2), 63, (some (73, false))⟩,
 ⟨some 76, .load 58 (.tmp 12), 58, (some (73, false))⟩,
 ⟨some 77, .call ⟨.value (.func 91), #[(.tmp 74), (.tmp 75), (.tmp 76)], #[22, 63, 58]⟩, 4, (some (73, false))⟩,
 ⟨some 78, .pick (.tmp 73) (.const (.bool true)) (.tmp 77), 4, none⟩] [0, 1, 2, 3, 9, 10, 11, 12, 60, 61, 62, 78]) (sg c61S3)) (sg c61S9)))) (sg c61S10))
noncomputable def c61L0 (_ : Unit) : Cmd := (.seq (.ops [
 ⟨some 63, .binOp .lss 3 (.tmp 62) (.tmp 61) 3, 0, none⟩] [0, 1, 2, 3, 9, 10, 60, 61, 62, 63])
 (.seq (.cond (.tmp 63)
  (.skip [0, 1, 2, 3, 9, 10, 60, 61, 62])
  (.exit 0 [0, 10])) (sg c61S11)))
noncomputable def c61S12 (_ : Unit) : Cmd := (.seq (.ops [
 ⟨some 8, .assign (.const (.bool false)), 4, none⟩] [8])
 .ret)
noncomputable def c61S13 (_ : Unit) : Cmd := (.seq (.draw (drawOps 3 c61code) []) (sg c61S12))
noncomputable def c61S14 (_ : Unit) : Cmd := (.seq (.seq (.ops [
 ⟨some 60, .move (.tmp 9), 22, none⟩,
 ⟨some 61, .call ⟨.builtin .len, #[(.tmp 60)], #[22]⟩, 3, none⟩,
 ⟨some 62, .move (.const (.int .i64 0)), 3, none⟩] [0, 1, 2, 3, 9, 10, 60, 61, 62])
 (.block 0 (.loop (sg c61L0)))) (sg c61S13))
noncomputable def c61S15 (_ : Unit) : Cmd := (.seq (.seq (.opsX [
 ⟨some 48, .move (.tmp 0), 95, none⟩,
 ⟨some 49, .nilCheck (.tmp 48), 0, none⟩,
 ⟨some 50, .fieldAddr 99 (.tmp 49) 3, 0, none⟩,
 ⟨some 51, .load 3 (.tmp 50), 3, none⟩,
 ⟨some 52, .binOp .sub 3 (.tmp 51) (.const (.int .i64 1)) 3, 3, none⟩,
 ⟨some 53, .nilCheck (.tmp 48), 0, none⟩,
 ⟨some 54, .fieldAddr 99 (.tmp 53) 3, 0, none⟩,
 ⟨none, .store 3 (.tmp 54) (.tmp 52), 0, none⟩] [0, 1, 2, 3, 9, 10])
 (.seq (.ops [
 ⟨some 55, .move (.tmp 0), 95, none⟩,
 ⟨some 56, .nilCheck (.tmp 55), 0, none⟩,
 ⟨some 57, .fieldAddr 99 (.tmp 56) 3, 0, none⟩,
 ⟨some 58, .load 3 (.tmp 57), 3, none⟩,
 ⟨some 59, .binOp .lss 3 (.tmp 58) (.const (.int .i64 0)) 3, 4, none⟩] [0, 1, 2, 3, 9, 10, 59])
 (.cond (.tmp 59)
  (.seq (.ops [
  ⟨some 8, .assign (.const (.bool false)), 4, none⟩] [8])
  .ret)
  (.skip [0, 1, 2, 3, 9, 10])))) (sg c61S14))
noncomputable def c61S16 (_ : Unit) : Cmd := (.seq (.seq (.draw (drawOps 0 c61code) [0, 1, 2, 3, 9, 10, 47]) (sg c61S2)) (sg c61S15))
noncomputable def c61S17 (_ : Unit) : Cmd := (.seq (.ops [
 ⟨some 37, .move (.tmp 1), 3, none⟩,
 ⟨some 38, .move (.tmp 2), 63, none⟩,
 ⟨some 39, .move (.tmp 3), 36, none⟩,
 ⟨some 40, .call ⟨.value (.func 43), #[(.tmp 39)], #[36]⟩, 9, none⟩,
 ⟨some 41, .build 134 #[(0, (.tmp 37)), (1, (.tmp 38)), (2, (.tmp 40))], 134, none⟩,
 ⟨some 10, .alloc 134, 0, none⟩,
 ⟨none, .store 134 (.tmp 10) (.tmp 41), 0, none⟩] [0, 1, 2, 3, 9, 10]) (sg c61S16))
noncomputable def c61S18 (_ : Unit) : Cmd := (.seq (.ops [
 ⟨some 22, .move (.tmp 0), 95, none⟩,
 ⟨some 23, .nilCheck (.tmp 22), 0, none⟩,
 ⟨some 24, .fieldAddr 99 (.tmp 23) 0, 0, none⟩,
 ⟨some 25, .load 97 (.tmp 24), 97, none⟩,
 ⟨some 26, .move (.tmp 1), 3, none⟩,
 ⟨some 27, .indexAddr 97 (.tmp 25) (.tmp 26), 0, none⟩,
 ⟨some 28, .load 22 (.tmp 27), 22, none⟩,
 ⟨some 9, .assign (.tmp 28), 22, none⟩] [0, 1, 2, 3, 9])
 (.seq (.seq (.ops [
 ⟨some 29, .move (.tmp 9), 22, none⟩,
 ⟨some 30, .move (.tmp 2), 63, none⟩,
 ⟨some 31, .call ⟨.value (.func 90), #[(.tmp 29), (.tmp 30)], #[22, 63]⟩, 4, none⟩] [0, 1, 2, 3, 9, 31]) (sg c61S1)) (sg c61S17)))
noncomputable def c61 : Cmd := (.seq (.ops [
 ⟨some 8, .assign (.const (.bool false)), 4, none⟩] [0, 1, 2, 3])
 (.seq (.seq (.ops [
 ⟨some 15, .move (.tmp 1), 3, none⟩,
 ⟨some 16, .move (.tmp 0), 95, none⟩,
 ⟨some 17, .nilCheck (.tmp 16), 0, none⟩,
 ⟨some 18, .fieldAddr 99 (.tmp 17) 0, 0, none⟩,
 ⟨some 19, .load 97 (.tmp 18), 97, none⟩,
 ⟨some 20, .call ⟨.builtin .len, #[(.tmp 19)], #[97]⟩, 3, none⟩,
 ⟨some 21, .binOp .eql 3 (.tmp 15) (.tmp 20) 3, 4, none⟩] [0, 1, 2, 3, 21])
 (.cond (.tmp 21)
  (.seq (.ops [
  ⟨some 8, .assign (.const (.bool true)), 4, none⟩] [8])
  .ret)
  (.skip [0, 1, 2, 3]))) (sg c61S18)))
noncomputable def c61D0 : List (Nat × Ins) := [
 (0, ⟨some 42, .move (.tmp 0), 95, none⟩),
 (0, ⟨some 43, .nilCheck (.tmp 42), 0, none⟩),
 (0, ⟨some 44, .fieldAddr 99 (.tmp 43) 1, 0, none⟩),
 (1, ⟨some 45, .load 96 (.tmp 44), 96, none⟩),
 (2, ⟨some 46, .load 134 (.tmp 10), 134, none⟩),
 (3, ⟨some 47, .lookup 96 (.tmp 45) (.tmp 46) false, 4, none⟩)]
theorem c61draw0 {L : List Nat} {ρ : Env} {w : World} {Q : Post} (S : World → Prop) (hS : S w.drew) (h : DG Try.prog S c61D0 L ρ w.drew Q) : drawW Try.prog (drawOps 0 c61code) L ρ w Q :=
  drawW_held [3] [(0, 0), (0, 1), (0, 2), (1, 3), (2, 4), (3, 5)] c61D0 (by kernel_rfl) (by kernel_rfl) (by kernel_rfl) S hS h
noncomputable def c61D1 : List (Nat × Ins) := [
 (0, ⟨some 87, .move (.tmp 0), 95, none⟩),
 (0, ⟨some 88, .move (.tmp 0), 95, none⟩),
 (0, ⟨some 89, .nilCheck (.tmp 88), 0, none⟩),
 (0, ⟨some 90, .fieldAddr 99 (.tmp 89) 2, 0, none⟩),
 (0, ⟨some 92, .fieldAddr 58 (.tmp 12) 0, 0, none⟩),
 (1, ⟨some 91, .load 36 (.tmp 90), 36, none⟩),
 (2, ⟨some 93, .load 3 (.tmp 92), 3, none⟩),
 (2, ⟨some 94, .buildSlice 36 1 #[(0, (.tmp 93))], 36, none⟩),
 (3, ⟨some 95, .call ⟨.builtin .append, #[(.tmp 91), (.tmp 94)], #[36, 36]⟩, 36, none⟩),
 (0, ⟨some 96, .nilCheck (.tmp 87), 0, none⟩),
 (0, ⟨some 97, .fieldAddr 99 (.tmp 96) 2, 0, none⟩),
 (3, ⟨none, .store 36 (.tmp 97) (.tmp 95), 0, none⟩)]
theorem c61draw1 {L : List Nat} {ρ : Env} {w : World} {Q : Post} (S : World → Prop) (hS : S w.drew) (h : DG Try.prog S c61D1 L ρ w.drew Q) : drawW Try.prog (drawOps 1 c61code) L ρ w Q :=
  drawW_held [4] [(0, 0), (0, 1), (0, 2), (0, 3), (0, 5), (1, 4), (2, 6), (2, 7), (3, 8), (0, 9), (0, 10), (3, 11)] c61D1 (by kernel_rfl) (by kernel_rfl) (by kernel_rfl) S hS h
noncomputable def c61D2 : List (Nat × Ins) := [
 (0, ⟨some 107, .move (.tmp 0), 95, none⟩),
 (0, ⟨some 108, .move (.tmp 0), 95, none⟩),
 (0, ⟨some 109, .nilCheck (.tmp 108), 0, none⟩),
 (0, ⟨some 110, .fieldAddr 99 (.tmp 109) 2, 0, none⟩),
 (0, ⟨some 112, .move (.tmp 0), 95, none⟩),
 (0, ⟨some 113, .nilCheck (.tmp 112), 0, none⟩),
 (0, ⟨some 114, .fieldAddr 99 (.tmp 113) 2, 0, none⟩),
 (1, ⟨some 111, .load 36 (.tmp 110), 36, none⟩),
 (2, ⟨some 115, .load 36 (.tmp 114), 36, none⟩),
 (0, ⟨some 116, .call ⟨.builtin .len, #[(.tmp 115)], #[36]⟩, 3, none⟩),
 (0, ⟨some 117, .binOp .sub 3 (.tmp 116) (.const (.int .i64 1)) 3, 3, none⟩),
 (0, ⟨some 118, .slice 36 (.tmp 111) none (some (.tmp 117)) none, 36, none⟩),
 (0, ⟨some 119, .nilCheck (.tmp 107), 0, none⟩),
 (0, ⟨some 120, .fieldAddr 99 (.tmp 119) 2, 0, none⟩),
 (3, ⟨none, .store 36 (.tmp 120) (.tmp 118), 0, none⟩)]
theorem c61draw2 {L : List Nat} {ρ : Env} {w : World} {Q : Post} (S : World → Prop) (hS : S w.drew) (h : DG Try.prog S c61D2 L ρ w.drew Q) : drawW Try.prog (drawOps 2 c61code) L ρ w Q :=
  drawW_held [4] [(0, 0), (0, 1), (0, 2), (0, 3), (0, 5), (0, 6), (0, 7), (1, 4), (2, 8), (0, 9), (0, 10), (0, 11), (0, 12), (0, 13), (3, 14)] c61D2 (by kernel_rfl) (by kernel_rfl) (by kernel_rfl) S hS h
noncomputable def c61D3 : List (Nat × Ins) := [
 (0, ⟨some 122, .move (.tmp 0), 95, none⟩),
 (0, ⟨some 123, .nilCheck (.tmp 122), 0, none⟩),
 (0, ⟨some 124, .fieldAddr 99 (.tmp 123) 1, 0, none⟩),
 (1, ⟨some 125, .load 96 (.tmp 124), 96, none⟩),
 (2, ⟨some 126, .load 134 (.tmp 10), 134, none⟩),
 (3, ⟨none, .mapUpdate 96 (.tmp 125) (.tmp 126) (.const (.bool true)), 0, none⟩)]
theorem c61draw3 {L : List Nat} {ρ : Env} {w : World} {Q : Post} (S : World → Prop) (hS : S w.drew) (h : DG Try.prog S c61D3 L ρ w.drew Q) : drawW Try.prog (drawOps 3 c61code) L ρ w Q :=
  drawW_held [3] [(0, 0), (0, 1), (0, 2), (1, 3), (2, 4), (3, 5)] c61D3 (by kernel_rfl) (by kernel_rfl) (by kernel_rfl) S hS h
set_option maxRecDepth 100000 in
theorem ent61 (a0 a1 a2 a3 : Value) (w : World) (K : Value → World → Prop) (h : W Try.prog c61 [(0, a0), (1, a1), (2, a2), (3, a3)] w (finQ Try.prog [.tmp 8] K)) : Ret Try.prog 61 [a0, a1, a2, a3] w K :=
  Ret_of_W (code := c61code) Try.func61 (by kernel_rfl) (by kernel_rfl) (of_decide_eq_true (by kernel_rfl)) h
@[go_sem] theorem go61 : goFunc Try.prog 61 = true := by kernel_rfl
noncomputable def c62code : Code := match Try.f62.body with | some c => c | none => .skip
noncomputable def c62S0 (_ : Unit) : Cmd := (.cond (.tmp 4)
  (.seq (.ops [
  ⟨some 7, .buildSlice 36 1 #[(0, (.const (.int .i64 0)))], 36, none⟩,
  ⟨some 2, .assign (.tmp 7), 36, none⟩] [2])
  .ret)
  (.skip []))
noncomputable def c62S1 (_ : Unit) : Cmd := (.seq (.ops [
 ⟨some 2, .assign (.const (.slice none 0 0)), 36, none⟩] [2])
 .ret)
noncomputable def c62 : Cmd := (.seq (.ops [
 ⟨some 2, .assign (.const (.slice none 0 0)), 36, none⟩] [0])
 (.seq (.seq (.ops [
 ⟨some 3, .move (.tmp 0), 3, none⟩] [3])
 (.block 0 (.seq (.seq (.ops [
 ⟨some 5, .binOp .eql 3 (.tmp 3) (.const (.int .i64 1)) 3, 4, none⟩,
 ⟨some 4, .assign (.tmp 5), 4, none⟩] [3, 4])
 (.cond (.tmp 4)
  (.skip [4])
  (.ops [
  ⟨some 6, .binOp .eql 3 (.tmp 3) (.const (.int .i64 2)) 3, 4, none⟩,
  ⟨some 4, .assign (.tmp 6), 4, none⟩] [4]))) (sg c62S0)))) (sg c62S1)))
set_option maxRecDepth 100000 in
theorem ent62 (a0 : Value) (w : World) (K : Value → World → Prop) (h : W Try.prog c62 [(0, a0)] w (finQ Try.prog [.tmp 2] K)) : Ret Try.prog 62 [a0] w K :=
  Ret_of_W (code := c62code) Try.func62 (by kernel_rfl) (by kernel_rfl) (of_decide_eq_true (by kernel_rfl)) h
@[go_sem] theorem go62 : goFunc Try.prog 62 = true := by kernel_rfl
noncomputable def c63code : Code := match Try.f63.body with | some c => c | none => .skip
noncomputable def c63S0 (_ : Unit) : Cmd := (.ops [
 ⟨some 10, .move (.tmp 5), 3, none⟩,
 ⟨some 11, .binOp .add 3 (.tmp 10) (.const (.int .i64 1)) 3, 3, none⟩,
 ⟨some 5, .assign (.tmp 11), 3, none⟩] [0, 1, 5])
noncomputable def c63S1 (_ : Unit) : Cmd := (.seq (.block 1 (.seq (.ops [
 ⟨some 12, .move (.tmp 0), 22, none⟩,
 ⟨some 13, .move (.tmp 5), 3, none⟩,
 ⟨some 14, .indexAddr 22 (.tmp 12) (.tmp 13), 0, none⟩,
 ⟨some 15, .fieldAddr 58 (.tmp 14) 0, 0, none⟩,
 ⟨some 16, .load 3 (.tmp 15), 3, none⟩,
 ⟨some 17, .move (.tmp 1), 3, none⟩,
 ⟨some 18, .binOp .eql 3 (.tmp 16) (.tmp 17) 3, 4, none⟩] [0, 1, 5, 18])
 (.cond (.tmp 18)
  (.seq (.ops [
  ⟨some 19, .move (.tmp 5), 3, none⟩,
  ⟨some 4, .assign (.tmp 19), 3, none⟩] [4])
  .ret)
  (.skip [0, 1, 5])))) (sg c63S0))
noncomputable def c63L0 (_ : Unit) : Cmd := (.seq (.seq (.ops [
 ⟨some 6, .move (.tmp 5), 3, none⟩,
 ⟨some 7, .move (.tmp 0), 22, none⟩,
 ⟨some 8, .call ⟨.builtin .len, #[(.tmp 7)], #[22]⟩, 3, none⟩,
 ⟨some 9, .binOp .lss 3 (.tmp 6) (.tmp 8) 3, 4, none⟩] [0, 1, 5, 9])
 (.cond (.tmp 9)
  (.skip [0, 1, 5])
  (.exit 0 []))) (sg c63S1))
noncomputable def c63S2 (_ : Unit) : Cmd := (.seq (.ops [
 ⟨some 4, .assign (.const (.int .i64 (-1))), 3, none⟩] [4])
 .ret)
noncomputable def c63 : Cmd := (.seq (.ops [
 ⟨some 4, .assign (.const (.int .i64 0)), 3, none⟩] [0, 1])
 (.seq (.seq (.ops [
 ⟨some 5, .assign (.const (.int .i64 0)), 3, none⟩] [0, 1, 5])
 (.block 0 (.loop (sg c63L0)))) (sg c63S2)))
set_option maxRecDepth 100000 in
theorem ent63 (a0 a1 : Value) (w : World) (K : Value → World → Prop) (h : W Try.prog c63 [(0, a0), (1, a1)] w (finQ Try.prog [.tmp 4] K)) : Ret Try.prog 63 [a0, a1] w K :=
  Ret_of_W (code := c63code) Try.func63 (by kernel_rfl) (by kernel_rfl) (of_decide_eq_true (by kernel_rfl)) h
@[go_sem] theorem go63 : goFunc Try.prog 63 = true := by kernel_rfl
@[go_sem] theorem go64 : goFunc Try.prog 64 = true := by kernel_rfl
@[go_sem] theorem go70 : goFunc Try.prog 70 = true := by kernel_rfl
noncomputable def c80code : Code := match Try.f80.body with | some c => c | none => .skip
noncomputable def c80S0 (_ : Unit) : Cmd := (.cond (.tmp 16)
  (.seq (.ops [
  ⟨some 17, .move (.tmp 5), 3, none⟩,
  ⟨some 4, .assign (.tmp 17), 3, none⟩] [4])
  .ret)
  (.skip [0, 1, 7, 8]))
noncomputable def c80S1 (_ : Unit) : Cmd := (.ops [
 ⟨some 18, .binOp .add 3 (.tmp 8) (.const (.int .i64 1)) 3, 3, none⟩,
 ⟨some 8, .move (.tmp 18), 3, none⟩] [0, 1, 7, 8])
noncomputable def c80S2 (_ : Unit) : Cmd := (.seq (.block 1 (.seq (.ops [
 ⟨some 10, .move (.tmp 8), 3, none⟩,
 ⟨some 5, .assign (.tmp 10), 3, none⟩] [0, 1, 5, 7, 8])
 (.seq (.ops [
 ⟨some 11, .move (.tmp 1), 126, none⟩,
 ⟨some 12, .move (.tmp 0), 22, none⟩,
 ⟨some 13, .move (.tmp 5), 3, none⟩,
 ⟨some 14, .indexAddr 22 (.tmp 12) (.tmp 13), 0, none⟩,
 ⟨some 15, .load 58 (.tmp 14), 58, none⟩,
 ⟨some 16, .call ⟨.value (.tmp 11), #[(.tmp 15)], #[58]⟩, 4, none⟩] [0, 1, 5, 7, 8, 16]) (sg c80S0)))) (sg c80S1))
noncomputable def c80L0 (_ : Unit) : Cmd := (.seq (.ops [
 ⟨some 9, .binOp .lss 3 (.tmp 8) (.tmp 7) 3, 0, none⟩] [0, 1, 7, 8, 9])
 (.seq (.cond (.tmp 9)
  (.skip [0, 1, 7, 8])
  (.exit 0 [])) (sg c80S2)))
noncomputable def c80S3 (_ : Unit) : Cmd := (.seq (.ops [
 ⟨some 4, .assign (.const (.int .i64 (-1))), 3, none⟩] [4])
 .ret)
noncomputable def c80 : Cmd := (.seq (.ops [
 ⟨some 4, .assign (.const (.int .i64 0)), 3, none⟩] [0, 1])
 (.seq (.seq (.ops [
 ⟨some 6, .move (.tmp 0), 22, none⟩,
 ⟨some 7, .call ⟨.builtin .len, #[(.tmp 6)], #[22]⟩, 3, none⟩,
 ⟨some 8, .move (.const (.int .i64 0)), 3, none⟩] [0, 1, 7, 8])
 (.block 0 (.loop (sg c80L0)))) (sg c80S3)))
set_option maxRecDepth 100000 in
theorem ent80 (a0 a1 : Value) (w : World) (K : Value → World → Prop) (h : W Try.prog c80 [(0, a0), (1, a1)] w (finQ Try.prog [.tmp 4] K)) : Ret Try.prog 80 [a0, a1] w K :=
  Ret_of_W (code := c80code) Try.func80 (by kernel_rfl) (by kernel_rfl) (of_decide_eq_true (by kernel_rfl)) h
@[go_sem] theorem go80 : goFunc Try.prog 80 = true := by kernel_rfl
noncomputable def c81code : Code := match Try.f81.body with | some c => c | none => .skip
noncomputable def c81 : Cmd := (.seq (.ops [
 ⟨some 2, .box 58 (.tmp 0), 0, none⟩,
 ⟨some 3, .assign (.const (.bool false)), 4, none⟩] [1, 2])
 (.seq (.ops [
 ⟨some 4, .fieldAddr 58 (.tmp 2) 0, 0, none⟩,
 ⟨some 5, .load 3 (.tmp 4), 3, none⟩,
 ⟨some 6, .load 3 (.tmp 1), 3, none⟩,
 ⟨some 7, .binOp .eql 3 (.tmp 5) (.tmp 6) 3, 4, none⟩,
 ⟨some 3, .assign (.tmp 7), 4, none⟩] [3])
 .ret))
set_option maxRecDepth 100000 in
theorem ent81 (a0 a1 : Value) (w : World) (K : Value → World → Prop) (h : W Try.prog c81 [(0, a0), (1, a1)] w (finQ Try.prog [.tmp 3] K)) : Ret Try.prog 81 [a0, a1] w K :=
  Ret_of_W (code := c81code) Try.func81 (by kernel_rfl) (by kernel_rfl) (of_decide_eq_true (by kernel_rfl)) h
@[go_sem] theorem go81 : goFunc Try.prog 81 = true := by kernel_rfl
noncomputable def c82code : Code := match Try.f82.body with | some c => c | none => .skip
noncomputable def c82S0 (_ : Unit) : Cmd := .ret
noncomputable def c82 : Cmd := (.seq (.ops [
 ⟨some 4, .assign (.const (.bool false)), 4, none⟩] [0, 1])
 (.seq (.ops [
 ⟨some 5, .move (.tmp 0), 36, none⟩,
 ⟨some 6, .move (.tmp 1), 3, none⟩,
 ⟨some 7, .call ⟨.value (.func 110), #[(.tmp 5), (.tmp 6)], #[36, 3]⟩, 3, none⟩,
 ⟨some 8, .binOp .geq 3 (.tmp 7) (.const (.int .i64 0)) 3, 4, none⟩,
 ⟨some 4, .assign (.tmp 8), 4, none⟩] [4]) (sg c82S0)))
set_option maxRecDepth 100000 in
theorem ent82 (a0 a1 : Value) (w : World) (K : Value → World → Prop) (h : W Try.prog c82 [(0, a0), (1, a1)] w (finQ Try.prog [.tmp 4] K)) : Ret Try.prog 82 [a0, a1] w K :=
  Ret_of_W (code := c82code) Try.func82 (by kernel_rfl) (by kernel_rfl) (of_decide_eq_true (by kernel_rfl)) h
@[go_sem] theorem go82 : goFunc Try.prog 82 = true := by kernel_rfl
noncomputable def c83code : Code := match Try.f83.body with | some c => c | none => .skip
noncomputable def c83S0 (_ : Unit) : Cmd := .ret
noncomputable def c83 : Cmd := (.seq (.ops [
 ⟨some 4, .assign (.const (.bool false)), 4, none⟩] [0, 1])
 (.seq (.ops [
 ⟨some 5, .move (.tmp 0), 22, none⟩,
 ⟨some 6, .move (.tmp 1), 126, none⟩,
 ⟨some 7, .call ⟨.value (.func 80), #[(.tmp 5), (.tmp 6)], #[22, 126]⟩, 3, none⟩,
 ⟨some 8, .binOp .geq 3 (.tmp 7) (.const (.int .i64 0)) 3, 4, none⟩,
 ⟨some 4, .assign (.tmp 8), 4, none⟩] [4]) (sg c83S0)))
set_option maxRecDepth 100000 in
theorem ent83 (a0 a1 : Value) (w : World) (K : Value → World → Prop) (h : W Try.prog c83 [(0, a0), (1, a1)] w (finQ Try.prog [.tmp 4] K)) : Ret Try.prog 83 [a0, a1] w K :=
  Ret_of_W (code := c83code) Try.func83 (by kernel_rfl) (by kernel_rfl) (of_decide_eq_true (by kernel_rfl)) h
@[go_sem] theorem go83 : goFunc Try.prog 83 = true := by kernel_rfl
noncomputable def c84code : Code := match Try.f84.body with | some c => c | none => .skip
noncomputable def c84S0 (_ : Unit) : Cmd := .ret
noncomputable def c84 : Cmd := (.seq (.ops [
 ⟨some 2, .box 58 (.tmp 0), 0, none⟩,
 ⟨some 3, .assign (.const (.bool false)), 4, none⟩] [1, 2])
 (.seq (.ops [
 ⟨some 4, .load 58 (.tmp 1), 58, none⟩,
 ⟨some 5, .load 58 (.tmp 2), 58, none⟩,
 ⟨some 6, .call ⟨.value (.func 65), #[(.tmp 4), (.tmp 5)], #[58, 58]⟩, 4, none⟩,
 ⟨some 3, .assign (.tmp 6), 4, none⟩] [3]) (sg c84S0)))
set_option maxRecDepth 100000 in
theorem ent84 (a0 a1 : Value) (w : World) (K : Value → World → Prop) (h : W Try.prog c84 [(0, a0), (1, a1)] w (finQ Try.prog [.tmp 3] K)) : Ret Try.prog 84 [a0, a1] w K :=
  Ret_of_W (code := c84code) Try.func84 (by kernel_rfl) (by kernel_rfl) (of_decide_eq_true (by kernel_rfl)) h
@[go_sem] theorem go84 : goFunc Try.prog 84 = true := by kernel_rfl
noncomputable def c85code : Code := match Try.f85.body with | some c => c | none => .skip
noncomputable def c85S0 (_ : Unit) : Cmd := (.seq (.ops [
 ⟨some 24, .move (.tmp 7), 4, none⟩,
 ⟨some 25, .unOp .not 4 (.tmp 24), 4, none⟩] [6, 12, 13, 14, 25])
 (.cond (.tmp 25)
  (.seq (.ops [
  ⟨some 4, .assign (.const (.slice none 0 0)), 36, none⟩,
  ⟨some 5, .assign (.const (.bool false)), 4, none⟩] [4, 5])
  .ret)
  (.skip [6, 12, 13, 14])))
noncomputable def c85S1 (_ : Unit) : Cmd := (.ops [
 ⟨some 26, .binOp .add 3 (.tmp 14) (.const (.int .i64 1)) 3, 3, none⟩,
 ⟨some 14, .move (.tmp 26), 3, none⟩] [6, 12, 13, 14])
noncomputable def c85S2 (_ : Unit) : Cmd := (.seq (.block 1 (.seq (.ops [
 ⟨some 16, .indexAddr 22 (.tmp 12) (.tmp 14), 0, none⟩,
 ⟨some 17, .load 58 (.tmp 16), 58, none⟩,
 ⟨some 9, .alloc 58, 0, none⟩,
 ⟨none, .store 58 (.tmp 9) (.tmp 17), 0, none⟩] [6, 9, 12, 13, 14])
 (.seq (.ops [
 ⟨some 19, .move (.tmp 6), 36, none⟩,
 ⟨some 20, .load 58 (.tmp 9), 58, none⟩,
 ⟨some 21, .call ⟨.value (.func 33), #[(.tmp 19), (.tmp 20)], #[36, 58]⟩, 74, none⟩,
 ⟨some 18, .move (.tmp 21), 74, none⟩,
 ⟨some 22, .extract (.tmp 18) 0, 36, none⟩,
 ⟨some 23, .extract (.tmp 18) 1, 4, none⟩,
 ⟨some 6, .assign (.tmp 22), 36, none⟩,
 ⟨some 7, .assign (.tmp 23), 4, none⟩] [6, 7, 12, 13, 14]) (sg c85S0)))) (sg c85S1))
noncomputable def c85L0 (_ : Unit) : Cmd := (.seq (.ops [
 ⟨some 15, .binOp .lss 3 (.tmp 14) (.tmp 13) 3, 0, none⟩] [6, 12, 13, 14, 15])
 (.seq (.cond (.tmp 15)
  (.skip [6, 12, 13, 14])
  (.exit 0 [6])) (sg c85S2)))
noncomputable def c85S3 (_ : Unit) : Cmd := (.seq (.ops [
 ⟨some 27, .move (.tmp 6), 36, none⟩,
 ⟨some 4, .assign (.tmp 27), 36, none⟩,
 ⟨some 5, .assign (.const (.bool true)), 4, none⟩] [4, 5])
 .ret)
noncomputable def c85S4 (_ : Unit) : Cmd := (.seq (.seq (.ops [
 ⟨some 12, .move (.tmp 1), 22, none⟩,
 ⟨some 13, .call ⟨.builtin .len, #[(.tmp 12)], #[22]⟩, 3, none⟩,
 ⟨some 14, .move (.const (.int .i64 0)), 3, none⟩] [6, 12, 13, 14])
 (.block 0 (.loop (sg c85L0)))) (sg c85S3))
noncomputable def c85 : Cmd := (.seq (.ops [
 ⟨some 4, .assign (.const (.slice none 0 0)), 36, none⟩,
 ⟨some 5, .assign (.const (.bool false)), 4, none⟩] [0, 1])
 (.seq (.ops [
 ⟨some 10, .move (.tmp 0), 36, none⟩,
 ⟨some 11, .call ⟨.value (.func 39), #[(.tmp 10)], #[36]⟩, 36, none⟩,
 ⟨some 6, .assign (.tmp 11), 36, none⟩,
 ⟨some 7, .assign (.const (.bool true)), 4, none⟩] [1, 6]) (sg c85S4)))
set_option maxRecDepth 100000 in
theorem ent85 (a0 a1 : Value) (w : World) (K : Value → World → Prop) (h : W Try.prog c85 [(0, a0), (1, a1)] w (finQ Try.prog [.tmp 4, .tmp 5] K)) : Ret Try.prog 85 [a0, a1] w K :=
  Ret_of_W (code := c85code) Try.func85 (by kernel_rfl) (by kernel_rfl) (of_decide_eq_true (by kernel_rfl)) h
@[go_sem] theorem go85 : goFunc Try.prog 85 = true := by kernel_rfl
noncomputable def c86code : Code := match Try.f86.body with | some c => c | none => .skip
noncomputable def c86S0 (_ : Unit) : Cmd := .ret
noncomputable def c86 : Cmd := (.seq (.ops [
 ⟨some 2, .box 58 (.tmp 0), 0, none⟩,
 ⟨some 3, .box 58 (.tmp 1), 0, none⟩,
 ⟨some 4, .assign (.const (.int .i64 0)), 3, none⟩] [2, 3])
 (.seq (.draw (drawOps 0 c86code) [4]) (sg c86S0)))
noncomputable def c86D0 : List (Nat × Ins) := [
 (0, ⟨some 5, .fieldAddr 58 (.tmp 2) 9, 0, none⟩),
 (0, ⟨some 7, .fieldAddr 58 (.tmp 3) 9, 0, none⟩),
 (0, ⟨some 10, .fieldAddr 58 (.tmp 2) 0, 0, none⟩),
 (0, ⟨some 12, .fieldAddr 58 (.tmp 3) 0, 0, none⟩),
 (1, ⟨some 6, .load 3 (.tmp 5), 3, none⟩),
 (1, ⟨some 8, .load 3 (.tmp 7), 3, none⟩),
 (1, ⟨some 11, .load 3 (.tmp 10), 3, none⟩),
 (1, ⟨some 13, .load 3 (.tmp 12), 3, none⟩),
 (2, ⟨some 9, .call ⟨.value (.func 60), #[(.tmp 6), (.tmp 8)], #[3, 3]⟩, 3, none⟩),
 (2, ⟨some 14, .call ⟨.value (.func 60), #[(.tmp 11), (.tmp 13)], #[3, 3]⟩, 3, none⟩),
 (2, ⟨some 15, .buildSlice 36 2 #[(0, (.tmp 9)), (1, (.tmp 14))], 36, none⟩),
 (2, ⟨some 16, .call ⟨.value (.func 111), #[(.tmp 15)], #[36]⟩, 3, none⟩),
 (0, ⟨some 4, .assign (.tmp 16), 3, none⟩)]
theorem c86draw0 {L : List Nat} {ρ : Env} {w : World} {Q : Post} (S : World → Prop) (hS : S w.drew) (h : DG Try.prog S c86D0 L ρ w.drew Q) : drawW Try.prog (drawOps 0 c86code) L ρ w Q :=
  drawW_held [1, 3, 6, 8] [(0, 0), (0, 2), (0, 5), (0, 7), (1, 1), (1, 3), (1, 6), (1, 8), (2, 4), (2, 9), (2, 10), (2, 11), (0, 12)] c86D0 (by kernel_rfl) (by kernel_rfl) (by kernel_rfl) S hS h
set_option maxRecDepth 100000 in
theorem ent86 (a0 a1 : Value) (w : World) (K : Value → World → Prop) (h : W Try.prog c86 [(0, a0), (1, a1)] w (finQ Try.prog [.tmp 4] K)) : Ret Try.prog 86 [a0, a1] w K :=
  Ret_of_W (code := c86code) Try.func86 (by kernel_rfl) (by kernel_rfl) (of_decide_eq_true (by kernel_rfl)) h
@[go_sem] theorem go86 : goFunc Try.prog 86 = true := by kernel_rfl
noncomputable def c87code : Code := match Try.f87.body with | some c => c | none => .skip
noncomputable def c87S0 (_ : Unit) : Cmd := .ret
noncomputable def c87 : Cmd := (.seq (.ops [
 ⟨some 3, .box 58 (.tmp 1), 0, none⟩,
 ⟨some 4, .assign (.const (.bool false)), 4, none⟩] [0, 3])
 (.seq (.ops [
 ⟨some 5, .move (.tmp 0), 22, none⟩,
 ⟨some 6, .makeFunc (.func 112) #[] #[(.tmp 3)], 126, none⟩,
 ⟨some 7, .call ⟨.value (.func 83), #[(.tmp 5), (.tmp 6)], #[22, 126]⟩, 4, none⟩,
 ⟨some 8, .unOp .not 4 (.tmp 7), 4, none⟩,
 ⟨some 4, .assign (.tmp 8), 4, none⟩] [4]) (sg c87S0)))
set_option maxRecDepth 100000 in
theorem ent87 (a0 a1 : Value) (w : World) (K : Value → World → Prop) (h : W Try.prog c87 [(0, a0), (1, a1)] w (finQ Try.prog [.tmp 4] K)) : Ret Try.prog 87 [a0, a1] w K :=
  Ret_of_W (code := c87code) Try.func87 (by kernel_rfl) (by kernel_rfl) (of_decide_eq_true (by kernel_rfl)) h
@[go_sem] theorem go87 : goFunc Try.prog 87 = true := by kernel_rfl
noncomputable def c88code : Code := match Try.f88.body with | some c => c | none => .skip
noncomputable def c88S0 (_ : Unit) : Cmd := .ret
noncomputable def c88S1 (_ : Unit) : Cmd := .ret
noncomputable def c88S2 (_ : Unit) : Cmd := (.ops [
  ⟨some 45, .move (.tmp 3), 3, none⟩,
  ⟨some 46, .binOp .sub 3 (.tmp 45) (.const (.int .i64 1)) 3, 3, none⟩,
  ⟨some 3, .assign (.tmp 46), 3, none⟩] [0, 1, 2, 3, 4, 10, 11, 12])
noncomputable def c88S3 (_ : Unit) : Cmd := (.seq (.ops [
  ⟨some 62, .move (.tmp 2), 3, none⟩,
  ⟨some 63, .binOp .sub 3 (.tmp 62) (.const (.int .i64 1)) 3, 3, none⟩,
  ⟨some 64, .move (.tmp 13), 3, none⟩,
  ⟨some 65, .move (.tmp 1), 3, none⟩,
  ⟨some 66, .binOp .sub 3 (.tmp 64) (.tmp 65) 3, 3, none⟩,
  ⟨some 67, .binOp .sub 3 (.tmp 63) (.tmp 66) 3, 3, none⟩,
  ⟨some 13, .assign (.tmp 67), 3, none⟩] [0, 1, 2, 3, 4, 10, 11, 12, 13])
  (.ops [
  ⟨some 14, .assign (.const (.int .i64 1)), 137, none⟩] [0, 1, 2, 3, 4, 10, 11, 12, 13, 14]))
noncomputable def c88S4 (_ : Unit) : Cmd := (.cond (.tmp 80)
   .ret
   (.skip [0, 1, 2, 3, 4, 10, 11, 12, 13]))
noncomputable def c88S5 (_ : Unit) : Cmd := (.seq (.ops [
  ⟨some 104, .move (.tmp 15), 3, none⟩,
  ⟨some 1, .assign (.tmp 104), 3, none⟩] [0, 1, 2, 3, 4, 10, 11])
  (.exit 1 [0, 1, 2, 3, 4, 10, 11]))
noncomputable def c88S6 (_ : Unit) : Cmd := (.cond (.tmp 97)
  (.seq (.ops [
  ⟨some 98, .move (.tmp 0), 22, none⟩,
  ⟨some 99, .move (.tmp 1), 3, none⟩,
  ⟨some 100, .move (.tmp 2), 3, none⟩,
  ⟨some 101, .move (.tmp 13), 3, none⟩,
  ⟨some 102, .move (.tmp 4), 102, none⟩,
  ⟨some 103, .call ⟨.value (.func 119), #[(.tmp 98), (.tmp 99), (.tmp 100), (.tmp 101), (.tmp 102)], #[22, 3, 3, 3, 102]⟩, 3, none⟩,
  ⟨some 15, .assign (.tmp 103), 3, none⟩] [0, 2, 3, 4, 10, 11, 15]) (sg c88S5))
  (.skip [0, 1, 2, 3, 4, 12, 13]))
noncomputable def c88S7 (_ : Unit) : Cmd := (.ops [
  ⟨some 135, .move (.tmp 16), 3, none⟩,
  ⟨some 136, .binOp .add 3 (.tmp 135) (.const (.int .i64 1)) 3, 3, none⟩,
  ⟨some 1, .assign (.tmp 136), 3, none⟩] [0, 1, 2, 3, 4, 10, 11])
noncomputable def c88S8 (_ : Unit) : Cmd := (.ops [
  ⟨some 147, .move (.tmp 16), 3, none⟩,
  ⟨some 2, .assign (.tmp 147), 3, none⟩] [0, 1, 2, 3, 4, 10, 11])
noncomputable def c88S9 (_ : Unit) : Cmd := (.seq (.ops [
 ⟨some 114, .move (.tmp 17), 4, none⟩,
 ⟨some 11, .assign (.tmp 114), 4, none⟩] [0, 1, 2, 3, 4, 11, 12, 16])
 (.seq (.ops [
 ⟨some 115, .move (.tmp 16), 3, none⟩,
 ⟨some 116, .move (.tmp 1), 3, none⟩,
 ⟨some 117, .binOp .sub 3 (.tmp 115) (.tmp 116) 3, 3, none⟩,
 ⟨some 118, .move (.tmp 2), 3, none⟩,
 ⟨some 119, .move (.tmp 16), 3, none⟩,
 ⟨some 120, .binOp .sub 3 (.tmp 118) (.tmp 119) 3, 3, none⟩,
 ⟨some 18, .assign (.tmp 117), 3, none⟩,
 ⟨some 19, .assign (.tmp 120), 3, none⟩] [0, 1, 2, 3, 4, 11, 12, 16, 18, 19])
 (.seq (.ops [
 ⟨some 121, .move (.tmp 12), 3, none⟩,
 ⟨some 122, .binOp .quo 3 (.tmp 121) (.const (.int .i64 8)) 3, 3, none⟩,
 ⟨some 20, .assign (.tmp 122), 3, none⟩] [0, 1, 2, 3, 4, 11, 16, 18, 19, 20])
 (.seq (.ops [
 ⟨some 123, .move (.tmp 18), 3, none⟩,
 ⟨some 124, .move (.tmp 19), 3, none⟩,
 ⟨some 125, .binOp .lss 3 (.tmp 123) (.tmp 124) 3, 4, none⟩] [0, 1, 2, 3, 4, 11, 16, 18, 19, 20, 125])
 (.cond (.tmp 125)
  (.seq (.ops [
  ⟨some 126, .move (.tmp 18), 3, none⟩,
  ⟨some 127, .move (.tmp 20), 3, none⟩,
  ⟨some 128, .binOp .geq 3 (.tmp 126) (.tmp 127) 3, 4, none⟩,
  ⟨some 10, .assign (.tmp 128), 4, none⟩] [0, 1, 2, 3, 4, 10, 11, 16])
  (.seq (.ops [
  ⟨some 129, .move (.tmp 0), 22, none⟩,
  ⟨some 130, .move (.tmp 1), 3, none⟩,
  ⟨some 131, .move (.tmp 16), 3, none⟩,
  ⟨some 132, .move (.tmp 3), 3, none⟩,
  ⟨some 133, .move (.tmp 4), 102, none⟩,
  ⟨some 134, .call ⟨.value (.func 88), #[(.tmp 129), (.tmp 130), (.tmp 131), (.tmp 132), (.tmp 133)], #[22, 3, 3, 3, 102]⟩, 0, none⟩] [0, 2, 3, 4, 10, 11, 16]) (sg c88S7)))
  (.seq (.ops [
  ⟨some 137, .move (.tmp 19), 3, none⟩,
  ⟨some 138, .move (.tmp 20), 3, none⟩,
  ⟨some 139, .binOp .geq 3 (.tmp 137) (.tmp 138) 3, 4, none⟩,
  ⟨some 10, .assign (.tmp 139), 4, none⟩] [0, 1, 2, 3, 4, 10, 11, 16])
  (.seq (.ops [
  ⟨some 140, .move (.tmp 0), 22, none⟩,
  ⟨some 141, .move (.tmp 16), 3, none⟩,
  ⟨some 142, .binOp .add 3 (.tmp 141) (.const (.int .i64 1)) 3, 3, none⟩,
  ⟨some 143, .move (.tmp 2), 3, none⟩,
  ⟨some 144, .move (.tmp 3), 3, none⟩,
  ⟨some 145, .move (.tmp 4), 102, none⟩,
  ⟨some 146, .call ⟨.value (.func 88), #[(.tmp 140), (.tmp 142), (.tmp 143), (.tmp 144), (.tmp 145)], #[22, 3, 3, 3, 102]⟩, 0, none⟩] [0, 1, 3, 4, 10, 11, 16]) (sg c88S8))))))))
noncomputable def c88S10 (_ : Unit) : Cmd := (.seq (.ops [
 ⟨some 106, .move (.tmp 0), 22, none⟩,
 ⟨some 107, .move (.tmp 1), 3, none⟩,
 ⟨some 108, .move (.tmp 2), 3, none⟩,
 ⟨some 109, .move (.tmp 13), 3, none⟩,
 ⟨some 110, .move (.tmp 4), 102, none⟩,
 ⟨some 111, .call ⟨.value (.func 120), #[(.tmp 106), (.tmp 107), (.tmp 108), (.tmp 109), (.tmp 110)], #[22, 3, 3, 3, 102]⟩, 142, none⟩,
 ⟨some 105, .move (.tmp 111), 142, none⟩,
 ⟨some 112, .extract (.tmp 105) 0, 3, none⟩,
 ⟨some 113, .extract (.tmp 105) 1, 4, none⟩,
 ⟨some 16, .assign (.tmp 112), 3, none⟩,
 ⟨some 17, .assign (.tmp 113), 4, none⟩] [0, 1, 2, 3, 4, 12, 16, 17]) (sg c88S9))
noncomputable def c88S11 (_ : Unit) : Cmd := (.seq (.seq (.draw (drawOps 0 c88code) [0, 1, 2, 3, 4, 10, 11, 12, 13, 97]) (sg c88S6)) (sg c88S10))
noncomputable def c88S12 (_ : Unit) : Cmd := (.seq (.seq (.ops [
 ⟨some 68, .move (.tmp 10), 4, none⟩,
 ⟨some 69, .move (.tmp 68), 4, none⟩,
 ⟨some 70, .move (.tmp 11), 4, (some (69, true))⟩,
 ⟨some 71, .pick (.tmp 69) (.tmp 70) (.const (.bool false)), 4, none⟩,
 ⟨some 72, .move (.tmp 71), 4, none⟩,
 ⟨some 73, .move (.tmp 14), 137, (some (72, true))⟩,
 ⟨some 74, .binOp .eql 137 (.tmp 73) (.const (.int .i64 1)) 137, 4, (some (72, true))⟩,
 ⟨some 75, .pick (.tmp 72) (.tmp 74) (.const (.bool false)), 4, none⟩] [0, 1, 2, 3, 4, 10, 11, 12, 13, 75])
 (.cond (.tmp 75)
  (.seq (.ops [
  ⟨some 76, .move (.tmp 0), 22, none⟩,
  ⟨some 77, .move (.tmp 1), 3, none⟩,
  ⟨some 78, .move (.tmp 2), 3, none⟩,
  ⟨some 79, .move (.tmp 4), 102, none⟩,
  ⟨some 80, .call ⟨.value (.func 118), #[(.tmp 76), (.tmp 77), (.tmp 78), (.tmp 79)], #[22, 3, 3, 102]⟩, 4, none⟩] [0, 1, 2, 3, 4, 10, 11, 12, 13, 80]) (sg c88S4))
  (.skip [0, 1, 2, 3, 4, 10, 11, 12, 13]))) (sg c88S11))
noncomputable def c88S13 (_ : Unit) : Cmd := (.seq (.seq (.ops [
 ⟨some 55, .move (.tmp 14), 137, none⟩,
 ⟨some 56, .binOp .eql 137 (.tmp 55) (.const (.int .i64 2)) 137, 4, none⟩] [0, 1, 2, 3, 4, 10, 11, 12, 13, 14, 56])
 (.cond (.tmp 56)
  (.seq (.ops [
  ⟨some 57, .move (.tmp 0), 22, none⟩,
  ⟨some 58, .move (.tmp 1), 3, none⟩,
  ⟨some 59, .move (.tmp 2), 3, none⟩,
  ⟨some 60, .move (.tmp 4), 102, none⟩,
  ⟨some 61, .call ⟨.value (.func 117), #[(.tmp 57), (.tmp 58), (.tmp 59), (.tmp 60)], #[22, 3, 3, 102]⟩, 0, none⟩] [0, 1, 2, 3, 4, 10, 11, 12, 13]) (sg c88S3))
  (.skip [0, 1, 2, 3, 4, 10, 11, 12, 13, 14]))) (sg c88S12))
noncomputable def c88S14 (_ : Unit) : Cmd := (.seq (.ops [
 ⟨some 48, .move (.tmp 0), 22, none⟩,
 ⟨some 49, .move (.tmp 1), 3, none⟩,
 ⟨some 50, .move (.tmp 2), 3, none⟩,
 ⟨some 51, .move (.tmp 4), 102, none⟩,
 ⟨some 52, .call ⟨.value (.func 116), #[(.tmp 48), (.tmp 49), (.tmp 50), (.tmp 51)], #[22, 3, 3, 102]⟩, 138, none⟩,
 ⟨some 47, .move (.tmp 52), 138, none⟩,
 ⟨some 53, .extract (.tmp 47) 0, 3, none⟩,
 ⟨some 54, .extract (.tmp 47) 1, 137, none⟩,
 ⟨some 13, .assign (.tmp 53), 3, none⟩,
 ⟨some 14, .assign (.tmp 54), 137, none⟩] [0, 1, 2, 3, 4, 10, 11, 12, 13, 14]) (sg c88S13))
noncomputable def c88S15 (_ : Unit) : Cmd := (.seq (.seq (.ops [
 ⟨some 38, .move (.tmp 10), 4, none⟩,
 ⟨some 39, .unOp .not 4 (.tmp 38), 4, none⟩] [0, 1, 2, 3, 4, 10, 11, 12, 39])
 (.cond (.tmp 39)
  (.seq (.ops [
  ⟨some 40, .move (.tmp 0), 22, none⟩,
  ⟨some 41, .move (.tmp 1), 3, none⟩,
  ⟨some 42, .move (.tmp 2), 3, none⟩,
  ⟨some 43, .move (.tmp 4), 102, none⟩,
  ⟨some 44, .call ⟨.value (.func 115), #[(.tmp 40), (.tmp 41), (.tmp 42), (.tmp 43)], #[22, 3, 3, 102]⟩, 0, none⟩] [0, 1, 2, 3, 4, 10, 11, 12]) (sg c88S2))
  (.skip [0, 1, 2, 3, 4, 10, 11, 12]))) (sg c88S14))
noncomputable def c88S16 (_ : Unit) : Cmd := (.seq (.seq (.ops [
 ⟨some 31, .move (.tmp 3), 3, none⟩,
 ⟨some 32, .binOp .eql 3 (.tmp 31) (.const (.int .i64 0)) 3, 4, none⟩] [0, 1, 2, 3, 4, 10, 11, 12, 32])
 (.cond (.tmp 32)
  (.seq (.ops [
  ⟨some 33, .move (.tmp 0), 22, none⟩,
  ⟨some 34, .move (.tmp 1), 3, none⟩,
  ⟨some 35, .move (.tmp 2), 3, none⟩,
  ⟨some 36, .move (.tmp 4), 102, none⟩,
  ⟨some 37, .call ⟨.value (.func 114), #[(.tmp 33), (.tmp 34), (.tmp 35), (.tmp 36)], #[22, 3, 3, 102]⟩, 0, none⟩] []) (sg c88S1))
  (.skip [0, 1, 2, 3, 4, 10, 11, 12]))) (sg c88S15))
noncomputable def c88L0 (_ : Unit) : Cmd := (.block 1 (.seq (.ops [
 ⟨some 21, .move (.tmp 2), 3, none⟩,
 ⟨some 22, .move (.tmp 1), 3, none⟩,
 ⟨some 23, .binOp .sub 3 (.tmp 21) (.tmp 22) 3, 3, none⟩,
 ⟨some 12, .assign (.tmp 23), 3, none⟩] [0, 1, 2, 3, 4, 10, 11, 12])
 (.seq (.seq (.ops [
 ⟨some 24, .move (.tmp 12), 3, none⟩,
 ⟨some 25, .binOp .leq 3 (.tmp 24) (.const (.int .i64 12)) 3, 4, none⟩] [0, 1, 2, 3, 4, 10, 11, 12, 25])
 (.cond (.tmp 25)
  (.seq (.ops [
  ⟨some 26, .move (.tmp 0), 22, none⟩,
  ⟨some 27, .move (.tmp 1), 3, none⟩,
  ⟨some 28, .move (.tmp 2), 3, none⟩,
  ⟨some 29, .move (.tmp 4), 102, none⟩,
  ⟨some 30, .call ⟨.value (.func 113), #[(.tmp 26), (.tmp 27), (.tmp 28), (.tmp 29)], #[22, 3, 3, 102]⟩, 0, none⟩] []) (sg c88S0))
  (.skip [0, 1, 2, 3, 4, 10, 11, 12]))) (sg c88S16))))
noncomputable def c88 : Cmd := (.seq (.ops [
 ⟨some 10, .assign (.const (.bool true)), 4, none⟩] [0, 1, 2, 3, 4, 10])
 (.seq (.ops [
 ⟨some 11, .assign (.const (.bool true)), 4, none⟩] [0, 1, 2, 3, 4, 10, 11])
 (.block 0 (.loop (sg c88L0)))))
set_option maxRecDepth 100000 in
theorem ent88 (a0 a1 a2 a3 a4 : Value) (w : World) (K : Value → World → Prop) (h : W Try.prog c88 [(0, a0), (1, a1), (2, a2), (3, a3), (4, a4)] w (finQ Try.prog [] K)) : Ret Try.prog 88 [a0, a1, a2, a3, a4] w K :=
  Ret_of_W (code := c88code) Try.func88 (by kernel_rfl) (by kernel_rfl) (of_decide_eq_true (by kernel_rfl)) h
@[go_sem] theorem go88 : goFunc Try.prog 88 = true := by kernel_rfl
noncomputable def c89code : Code := match Try.f89.body with | some c => c | none => .skip
noncomputable def c89 : Cmd := (.seq (.ops [
 ⟨some 2, .assign (.const (.bool false)), 4, none⟩] [0])
 (.seq (.ops [
 ⟨some 3, .move (.tmp 0), 3, none⟩,
 ⟨some 4, .move (.tmp 0), 3, none⟩,
 ⟨some 5, .binOp .neq 3 (.tmp 3) (.tmp 4) 3, 4, none⟩,
 ⟨some 2, .assign (.tmp 5), 4, none⟩] [2])
 .ret))
set_option maxRecDepth 100000 in
theorem ent89 (a0 : Value) (w : World) (K : Value → World → Prop) (h : W Try.prog c89 [(0, a0)] w (finQ Try.prog [.tmp 2] K)) : Ret Try.prog 89 [a0] w K :=
  Ret_of_W (code := c89code) Try.func89 (by kernel_rfl) (by kernel_rfl) (of_decide_eq_true (by kernel_rfl)) h
@[go_sem] theorem go89 : goFunc Try.prog 89 = true := by kernel_rfl
noncomputable def c90code : Code := match Try.f90.body with | some c => c | none => .skip
noncomputable def c90S0 (_ : Unit) : Cmd := (.ops [
 ⟨some 24, .binOp .add 3 (.tmp 9) (.const (.int .i64 1)) 3, 3, none⟩,
 ⟨some 9, .move (.tmp 24), 3, none⟩] [1, 7, 8, 9])
noncomputable def c90S1 (_ : Unit) : Cmd := (.seq (.block 1 (.seq (.ops [
 ⟨some 11, .move (.tmp 9), 3, none⟩,
 ⟨some 12, .indexAddr 22 (.tmp 7) (.tmp 9), 0, none⟩,
 ⟨some 13, .load 58 (.tmp 12), 58, none⟩,
 ⟨some 6, .alloc 58, 0, none⟩,
 ⟨some 5, .assign (.tmp 11), 3, none⟩,
 ⟨none, .store 58 (.tmp 6) (.tmp 13), 0, none⟩] [1, 5, 6, 7, 8, 9])
 (.seq (.ops [
 ⟨some 14, .fieldAddr 58 (.tmp 6) 7, 0, none⟩,
 ⟨some 15, .load 4 (.tmp 14), 4, none⟩,
 ⟨some 16, .move (.tmp 15), 4, none⟩,
 ⟨some 17, .move (.tmp 1), 63, (some (16, true))⟩,
 ⟨some 18, .move (.tmp 5), 3, (some (16, true))⟩,
 ⟨some 19, .convert 3 76 (.tmp 18), 76, (some (16, true))⟩,
 ⟨some 20, .binOp .shr 63 (.tmp 17) (.tmp 19) 76, 63, (some (16, true))⟩,
 ⟨some 21, .binOp .and 63 (.tmp 20) (.const (.int .u32 1)) 63, 63, (some (16, true))⟩,
 ⟨some 22, .binOp .eql 63 (.tmp 21) (.const (.int .u32 0)) 63, 4, (some (16, true))⟩,
 ⟨some 23, .pick (.tmp 16) (.tmp 22) (.const (.bool false)), 4, none⟩] [1, 7, 8, 9, 23])
 (.cond (.tmp 23)
  (.seq (.ops [
  ⟨some 4, .assign (.const (.bool false)), 4, none⟩] [4])
  .ret)
  (.skip [1, 7, 8, 9]))))) (sg c90S0))
noncomputable def c90L0 (_ : Unit) : Cmd := (.seq (.ops [
 ⟨some 10, .binOp .lss 3 (.tmp 9) (.tmp 8) 3, 0, none⟩] [1, 7, 8, 9, 10])
 (.seq (.cond (.tmp 10)
  (.skip [1, 7, 8, 9])
  (.exit 0 [])) (sg c90S1)))
noncomputable def c90S2 (_ : Unit) : Cmd := (.seq (.ops [
 ⟨some 4, .assign (.const (.bool true)), 4, none⟩] [4])
 .ret)
noncomputable def c90 : Cmd := (.seq (.ops [
 ⟨some 4, .assign (.const (.bool false)), 4, none⟩] [0, 1])
 (.seq (.seq (.ops [
 ⟨some 7, .move (.tmp 0), 22, none⟩,
 ⟨some 8, .call ⟨.builtin .len, #[(.tmp 7)], #[22]⟩, 3, none⟩,
 ⟨some 9, .move (.const (.int .i64 0)), 3, none⟩] [1, 7, 8, 9])
 (.block 0 (.loop (sg c90L0)))) (sg c90S2)))
set_option maxRecDepth 100000 in
theorem ent90 (a0 a1 : Value) (w : World) (K : Value → World → Prop) (h : W Try.prog c90 [(0, a0), (1, a1)] w (finQ Try.prog [.tmp 4] K)) : Ret Try.prog 90 [a0, a1] w K :=
  Ret_of_W (code := c90code) Try.func90 (by kernel_rfl) (by kernel_rfl) (of_decide_eq_true (by kernel_rfl)) h
@[go_sem] theorem go90 : goFunc Try.prog 90 = true := by kernel_rfl
noncomputable def c91code : Code := match Try.f91.body with | some c => c | none => .skip
noncomputable def c91S0 (_ : Unit) : Cmd := (.cond (.tmp 26)
  (.seq (.ops [
  ⟨some 6, .assign (.const (.bool true)), 4, none⟩] [6])
  .ret)
  (.skip [1, 5, 9, 10, 11]))
noncomputable def c91S1 (_ : Unit) : Cmd := (.ops [
 ⟨some 27, .binOp .add 3 (.tmp 11) (.const (.int .i64 1)) 3, 3, none⟩,
 ⟨some 11, .move (.tmp 27), 3, none⟩] [1, 5, 9, 10, 11])
noncomputable def c91S2 (_ : Unit) : Cmd := (.seq (.block 1 (.seq (.ops [
 ⟨some 13, .move (.tmp 11), 3, none⟩,
 ⟨some 14, .indexAddr 22 (.tmp 9) (.tmp 11), 0, none⟩,
 ⟨some 15, .load 58 (.tmp 14), 58, none⟩,
 ⟨some 8, .alloc 58, 0, none⟩,
 ⟨some 7, .assign (.tmp 13), 3, none⟩,
 ⟨none, .store 58 (.tmp 8) (.tmp 15), 0, none⟩] [1, 5, 7, 8, 9, 10, 11])
 (.seq (.ops [
 ⟨some 16, .move (.tmp 1), 63, none⟩,
 ⟨some 17, .move (.tmp 7), 3, none⟩,
 ⟨some 18, .convert 3 76 (.tmp 17), 76, none⟩,
 ⟨some 19, .binOp .shr 63 (.tmp 16) (.tmp 18) 76, 63, none⟩,
 ⟨some 20, .binOp .and 63 (.tmp 19) (.const (.int .u32 1)) 63, 63, none⟩,
 ⟨some 21, .binOp .eql 63 (.tmp 20) (.const (.int .u32 0)) 63, 4, none⟩,
 ⟨some 22, .move (.tmp 21), 4, none⟩,
 ⟨some 23, .load 58 (.tmp 8), 58, (some (22, true))⟩,
 ⟨some 24, .load 58 (.tmp 5), 58, (some (22, true))⟩,
 ⟨some 25, .call ⟨.value (.func 65), #[(.tmp 23), (.tmp 24)], #[58, 58]⟩, 4, (some (22, true))⟩,
 ⟨some 26, .pick (.tmp 22) (.tmp 25) (.const (.bool false)), 4, none⟩] [1, 5, 9, 10, 11, 26]) (sg c91S0)))) (sg c91S1))
noncomputable def c91L0 (_ : Unit) : Cmd := (.seq (.ops [
 ⟨some 12, .binOp .lss 3 (.tmp 11) (.tmp 10) 3, 0, none⟩] [1, 5, 9, 10, 11, 12])
 (.seq (.cond (.tmp 12)
  (.skip [1, 5, 9, 10, 11])
  (.exit 0 [])) (sg c91S2)))
noncomputable def c91S3 (_ : Unit) : Cmd := (.seq (.ops [
 ⟨some 6, .assign (.const (.bool false)), 4, none⟩] [6])
 .ret)
noncomputable def c91 : Cmd := (.seq (.ops [
 ⟨some 5, .box 58 (.tmp 2), 0, none⟩,
 ⟨some 6, .assign (.const (.bool false)), 4, none⟩] [0, 1, 5])
 (.seq (.seq (.ops [
 ⟨some 9, .move (.tmp 0), 22, none⟩,
 ⟨some 10, .call ⟨.builtin .len, #[(.tmp 9)], #[22]⟩, 3, none⟩,
 ⟨some 11, .move (.const (.int .i64 0)), 3, none⟩] [1, 5, 9, 10, 11])
 (.block 0 (.loop (sg c91L0)))) (sg c91S3)))
set_option maxRecDepth 100000 in
theorem ent91 (a0 a1 a2 : Value) (w : World) (K : Value → World → Prop) (h : W Try.prog c91 [(0, a0), (1, a1), (2, a2)] w (finQ Try.prog [.tmp 6] K)) : Ret Try.prog 91 [a0, a1, a2] w K :=
  Ret_of_W (code := c91code) Try.func91 (by kernel_rfl) (by kernel_rfl) (of_decide_eq_true (by kernel_rfl)) h
@[go_sem] theorem go91 : goFunc Try.prog 91 = true := by kernel_rfl
noncomputable def c110code : Code := match Try.f110.body with | some c => c | none => .skip
noncomputable def c110S0 (_ : Unit) : Cmd := (.ops [
 ⟨some 18, .binOp .add 3 (.tmp 8) (.const (.int .i64 1)) 3, 3, none⟩,
 ⟨some 8, .move (.tmp 18), 3, none⟩] [0, 1, 7, 8])
noncomputable def c110S1 (_ : Unit) : Cmd := (.seq (.block 1 (.seq (.ops [
 ⟨some 10, .move (.tmp 8), 3, none⟩,
 ⟨some 5, .assign (.tmp 10), 3, none⟩] [0, 1, 5, 7, 8])
 (.seq (.ops [
 ⟨some 11, .move (.tmp 1), 3, none⟩,
 ⟨some 12, .move (.tmp 0), 36, none⟩,
 ⟨some 13, .move (.tmp 5), 3, none⟩,
 ⟨some 14, .indexAddr 36 (.tmp 12) (.tmp 13), 0, none⟩,
 ⟨some 15, .load 3 (.tmp 14), 3, none⟩,
 ⟨some 16, .binOp .eql 3 (.tmp 11) (.tmp 15) 3, 4, none⟩] [0, 1, 5, 7, 8, 16])
 (.cond (.tmp 16)
  (.seq (.ops [
  ⟨some 17, .move (.tmp 5), 3, none⟩,
  ⟨some 4, .assign (.tmp 17), 3, none⟩] [4])
  .ret)
  (.skip [0, 1, 7, 8]))))) (sg c110S0))
noncomputable def c110L0 (_ : Unit) : Cmd := (.seq (.ops [
 ⟨some 9, .binOp .lss 3 (.tmp 8) (.tmp 7) 3, 0, none⟩] [0, 1, 7, 8, 9])
 (.seq (.cond (.tmp 9)
  (.skip [0, 1, 7, 8])
  (.exit 0 [])) (sg c110S1)))
noncomputable def c110S2 (_ : Unit) : Cmd := (.seq (.ops [
 ⟨some 4, .assign (.const (.int .i64 (-1))), 3, none⟩] [4])
 .ret)
noncomputable def c110 : Cmd := (.seq (.ops [
 ⟨some 4, .assign (.const (.int .i64 0)), 3, none⟩] [0, 1])
 (.seq (.seq (.ops [
 ⟨some 6, .move (.tmp 0), 36, none⟩,
 ⟨some 7, .call ⟨.builtin .len, #[(.tmp 6)], #[36]⟩, 3, none⟩,
 ⟨some 8, .move (.const (.int .i64 0)), 3, none⟩] [0, 1, 7, 8])
 (.block 0 (.loop (sg c110L0)))) (sg c110S2)))
set_option maxRecDepth 100000 in
theorem ent110 (a0 a1 : Value) (w : World) (K : Value → World → Prop) (h : W Try.prog c110 [(0, a0), (1, a1)] w (finQ Try.prog [.tmp 4] K)) : Ret Try.prog 110 [a0, a1] w K :=
  Ret_of_W (code := c110code) Try.func110 (by kernel_rfl) (by kernel_rfl) (of_decide_eq_true (by kernel_rfl)) h
@[go_sem] theorem go110 : goFunc Try.prog 110 = true := by kernel_rfl
noncomputable def c111code : Code := match Try.f111.body with | some c => c | none => .skip
noncomputable def c111S0 (_ : Unit) : Cmd := (.ops [
 ⟨some 16, .binOp .add 3 (.tmp 8) (.const (.int .i64 1)) 3, 3, none⟩,
 ⟨some 8, .move (.tmp 16), 3, none⟩] [3, 6, 7, 8])
noncomputable def c111S1 (_ : Unit) : Cmd := (.seq (.block 1 (.seq (.ops [
 ⟨some 10, .indexAddr 36 (.tmp 6) (.tmp 8), 0, none⟩,
 ⟨some 11, .load 3 (.tmp 10), 3, none⟩,
 ⟨some 5, .assign (.tmp 11), 3, none⟩] [3, 5, 6, 7, 8])
 (.seq (.ops [
 ⟨some 12, .move (.tmp 5), 3, none⟩,
 ⟨some 13, .move (.tmp 3), 3, none⟩,
 ⟨some 14, .binOp .neq 3 (.tmp 12) (.tmp 13) 3, 4, none⟩] [3, 5, 6, 7, 8, 14])
 (.cond (.tmp 14)
  (.seq (.ops [
  ⟨some 15, .move (.tmp 5), 3, none⟩,
  ⟨some 2, .assign (.tmp 15), 3, none⟩] [2])
  .ret)
  (.skip [3, 6, 7, 8]))))) (sg c111S0))
noncomputable def c111L0 (_ : Unit) : Cmd := (.seq (.ops [
 ⟨some 9, .binOp .lss 3 (.tmp 8) (.tmp 7) 3, 0, none⟩] [3, 6, 7, 8, 9])
 (.seq (.cond (.tmp 9)
  (.skip [3, 6, 7, 8])
  (.exit 0 [3])) (sg c111S1)))
noncomputable def c111S2 (_ : Unit) : Cmd := (.seq (.ops [
 ⟨some 17, .move (.tmp 3), 3, none⟩,
 ⟨some 2, .assign (.tmp 17), 3, none⟩] [2])
 .ret)
noncomputable def c111 : Cmd := (.seq (.ops [
 ⟨some 2, .assign (.const (.int .i64 0)), 3, none⟩] [0])
 (.seq (.ops [
 ⟨some 3, .assign (.const (.int .i64 0)), 3, none⟩] [0, 3])
 (.seq (.seq (.ops [
 ⟨some 6, .move (.tmp 0), 36, none⟩,
 ⟨some 7, .call ⟨.builtin .len, #[(.tmp 6)], #[36]⟩, 3, none⟩,
 ⟨some 8, .move (.const (.int .i64 0)), 3, none⟩] [3, 6, 7, 8])
 (.block 0 (.loop (sg c111L0)))) (sg c111S2))))
set_option maxRecDepth 100000 in
theorem ent111 (a0 : Value) (w : World) (K : Value → World → Prop) (h : W Try.prog c111 [(0, a0)] w (finQ Try.prog [.tmp 2] K)) : Ret Try.prog 111 [a0] w K :=
  Ret_of_W (code := c111code) Try.func111 (by kernel_rfl) (by kernel_rfl) (of_decide_eq_true (by kernel_rfl)) h
@[go_sem] theorem go111 : goFunc Try.prog 111 = true := by kernel_rfl
noncomputable def c112code : Code := match Try.f112.body with | some c => c | none => .skip
noncomputable def c112S0 (_ : Unit) : Cmd := .ret
noncomputable def c112 : Cmd := (.seq (.ops [
 ⟨some 2, .box 58 (.tmp 0), 0, none⟩,
 ⟨some 3, .assign (.const (.bool false)), 4, none⟩] [1, 2])
 (.seq (.ops [
 ⟨some 4, .load 58 (.tmp 2), 58, none⟩,
 ⟨some 5, .load 58 (.tmp 1), 58, none⟩,
 ⟨some 6, .call ⟨.value (.func 65), #[(.tmp 4), (.tmp 5)], #[58, 58]⟩, 4, none⟩,
 ⟨some 7, .unOp .not 4 (.tmp 6), 4, none⟩,
 ⟨some 3, .assign (.tmp 7), 4, none⟩] [3]) (sg c112S0)))
set_option maxRecDepth 100000 in
theorem ent112 (a0 a1 : Value) (w : World) (K : Value → World → Prop) (h : W Try.prog c112 [(0, a0), (1, a1)] w (finQ Try.prog [.tmp 3] K)) : Ret Try.prog 112 [a0, a1] w K :=
  Ret_of_W (code := c112code) Try.func112 (by kernel_rfl) (by kernel_rfl) (of_decide_eq_true (by kernel_rfl)) h
@[go_sem] theorem go112 : goFunc Try.prog 112 = true := by kernel_rfl
noncomputable def c113code : Code := match Try.f113.body with | some c => c | none => .skip
noncomputable def c113S0 (_ : Unit) : Cmd := (.cond (.tmp 34)
  (.skip [0, 1, 2, 3, 8, 9])
  (.exit 2 [0, 1, 2, 3, 8]))
noncomputable def c113S1 (_ : Unit) : Cmd := (.ops [
 ⟨some 35, .move (.tmp 9), 3, none⟩,
 ⟨some 36, .binOp .sub 3 (.tmp 35) (.const (.int .i64 1)) 3, 3, none⟩,
 ⟨some 9, .assign (.tmp 36), 3, none⟩] [0, 1, 2, 3, 8, 9])
noncomputable def c113S2 (_ : Unit) : Cmd := (.seq (.block 3 (.draw (drawOps 1 c113code) [0, 1, 2, 3, 8, 9])) (sg c113S1))
noncomputable def c113L0 (_ : Unit) : Cmd := (.seq (.seq (.draw (drawOps 0 c113code) [0, 1, 2, 3, 8, 9, 34]) (sg c113S0)) (sg c113S2))
noncomputable def c113S3 (_ : Unit) : Cmd := (.ops [
 ⟨some 15, .move (.tmp 8), 3, none⟩,
 ⟨some 16, .binOp .add 3 (.tmp 15) (.const (.int .i64 1)) 3, 3, none⟩,
 ⟨some 8, .assign (.tmp 16), 3, none⟩] [0, 1, 2, 3, 8])
noncomputable def c113S4 (_ : Unit) : Cmd := (.seq (.block 1 (.seq (.ops [
 ⟨some 17, .move (.tmp 8), 3, none⟩,
 ⟨some 9, .assign (.tmp 17), 3, none⟩] [0, 1, 2, 3, 8, 9])
 (.block 2 (.loop (sg c113L0))))) (sg c113S3))
noncomputable def c113L1 (_ : Unit) : Cmd := (.seq (.seq (.ops [
 ⟨some 12, .move (.tmp 8), 3, none⟩,
 ⟨some 13, .move (.tmp 2), 3, none⟩,
 ⟨some 14, .binOp .lss 3 (.tmp 12) (.tmp 13) 3, 4, none⟩] [0, 1, 2, 3, 8, 14])
 (.cond (.tmp 14)
  (.skip [0, 1, 2, 3, 8])
  (.exit 0 []))) (sg c113S4))
noncomputable def c113 : Cmd := (.seq (.ops [
 ⟨some 10, .move (.tmp 1), 3, none⟩,
 ⟨some 11, .binOp .add 3 (.tmp 10) (.const (.int .i64 1)) 3, 3, none⟩,
 ⟨some 8, .assign (.tmp 11), 3, none⟩] [0, 1, 2, 3, 8])
 (.block 0 (.loop (sg c113L1))))
set_option maxRecDepth 100000 in
theorem ent113 (a0 a1 a2 a3 : Value) (w : World) (K : Value → World → Prop) (h : W Try.prog c113 [(0, a0), (1, a1), (2, a2), (3, a3)] w (finQ Try.prog [] K)) : Ret Try.prog 113 [a0, a1, a2, a3] w K :=
  Ret_of_W (code := c113code) Try.func113 (by kernel_rfl) (by kernel_rfl) (of_decide_eq_true (by kernel_rfl)) h
@[go_sem] theorem go113 : goFunc Try.prog 113 = true := by kernel_rfl
end Go.Proofs.Ytbeoedgoikcbpaa

namespace Go.Proofs.Ytbeoedgoikcbpaa
set_option linter.unusedSimpArgs false
set_option linter.unusedVariables false
set_option maxRecDepth 100000
open Go Go.Ann Go.RowKit
theorem mfirst_ok (k : Int) (w : World) : Ret Try.prog 62 [.int .i64 k] w fun u w' => (RdS w' 1 intE u (firstP k) ∧ ∀ j, slFoot u j → w.heap.size ≤ j) ∧ Below w.heap.size w w' := by
  refine ent62 _ _ _ ?_
  by_cases h : k = 1 ∨ k = 2
  · have e : firstP k = [0] := if_pos h
    rw [e]
    have fin : ∀ {K : Value → World → Prop}, K (.slice (some ⟨w.heap.size, 0, none⟩) 1 1) (w.alloc (.cells #[.int .i64 0] 3)) → bsW Try.prog 36 1 [0] [.int .i64 0] w K := fun hK => bsW_ones ty36mkI rfl rfl (by decide) (by decide) (intE_one 0) hK
    have res : (RdS (w.alloc (.cells #[.int .i64 0] 3)) 1 intE (.slice (some ⟨w.heap.size, 0, none⟩) 1 1) [0] ∧ ∀ j, slFoot (.slice (some ⟨w.heap.size, 0, none⟩) 1 1) j → w.heap.size ≤ j) ∧ Below w.heap.size w (w.alloc (.cells #[.int .i64 0] 3)) := by
      refine ⟨⟨rd_new (sz := 1) (n := 1) rfl, fun j hj => ?_⟩, (Below.refl _ _).alloc (Nat.le_refl _) _⟩
      have := slFoot_own hj
      simp only [Value.ownBlock, Option.some.injEq] at this
      omega
    rcases h with rfl | rfl
    · simp (disch := first | omega | exact okFill_t rfl | exact okSize_t rfl | exact fun h => h | (simp only [World.size_alloc, World.size_drew, World.size_setCell, size_fill, bytesW]; omega)) only [go_sem, c62, c62S0, c62S1]
      refine fin ?_
      simp (disch := first | omega | exact okFill_t rfl | exact okSize_t rfl | exact fun h => h | (simp only [World.size_alloc, World.size_drew, World.size_setCell, size_fill, bytesW]; omega)) only [go_sem, c62, c62S0, c62S1]
      exact res
    · simp (disch := first | omega | exact okFill_t rfl | exact okSize_t rfl | exact fun h => h | (simp only [World.size_alloc, World.size_drew, World.size_setCell, size_fill, bytesW]; omega)) only [go_sem, c62, c62S0, c62S1]
      refine fin ?_
      simp (disch := first | omega | exact okFill_t rfl | exact okSize_t rfl | exact fun h => h | (simp only [World.size_alloc, World.size_drew, World.size_setCell, size_fill, bytesW]; omega)) only [go_sem, c62, c62S0, c62S1]
      exact res
  · have e : firstP k = [] := if_neg h
    rw [e]
    have h1 : ¬ k = 1 := fun e => h (.inl e)
    have h2 : ¬ k = 2 := fun e => h (.inr e)
    simp (disch := first | omega | exact okFill_t rfl | exact okSize_t rfl | exact fun h => h | (simp only [World.size_alloc, World.size_drew, World.size_setCell, size_fill, bytesW]; omega)) only [go_sem, c62, c62S0, c62S1, h1, h2]
    refine ⟨⟨⟨by simp, none, 0, rfl, Nat.le_refl _, fun h => absurd rfl h⟩, fun j hj => ?_⟩, Below.refl _ _⟩
    have := slFoot_own hj
    simp [Value.ownBlock] at this
theorem ofull_ok {w : World} {lv : Value} {l : List OpT} {d : List Bool} (h : RdS w 11 OpT.enc lv l) (hd : d.length = l.length) (hn : l.length ≤ 16) :
    Ret Try.prog 90 [lv, .int .u32 (maskN d)] w fun u w' => u = .bool (fullP l d) ∧ Below w.heap.size w w' := by
  obtain ⟨la, lc, rfl, _⟩ := h.form
  refine ent90 _ _ _ _ ?_
  simp (disch := first | omega | exact okFill_t rfl | exact okSize_t rfl | exact fun h => h | (simp only [World.size_alloc, World.size_drew, World.size_setCell, size_fill, bytesW]; omega)) only [go_sem, c90, c90S0, c90S1, c90L0, c90S2]
  refine W_loopU (fun k : Nat => [(9, .int .i64 k)]) (fun k w' => Below w.heap.size w w' ∧ k ≤ l.length ∧ ∀ i (h : i < l.length) (h' : i < d.length), i < k → l[i].Done = true → d[i] = true) (fun k => l.length - k) 0 rfl ⟨Below.refl _ _, Nat.zero_le _, fun i _ _ h => by omega⟩ ?_
  rintro k w2 ⟨b2, hk, hinv⟩
  by_cases hlt : k < l.length
  · have hlt' : (k : Int) < l.length := by omega
    obtain ⟨p, rfl⟩ := h.ptr (by omega)
    have eo := (h.below b2 (by decide)).at OpT.len hlt
    have e1 := wrap_u64_nat (show k < 18446744073709551616 by omega)
    have e2 : bits .and .u32 ((maskN d : Int) / 2 ^ min k 32) 1 = if d.getD k false = true then 1 else 0 := by
      rw [Nat.min_eq_left (by omega)]; exact mask_bit (by omega)
    have ao := l[k].at
    simp (disch := first | omega | exact okFill_t rfl | exact okSize_t rfl | exact fun h => h | (simp only [World.size_alloc, World.size_drew, World.size_setCell, size_fill, bytesW]; omega)) only [go_sem, c90, c90S0, c90S1, c90L0, c90S2, c90L0, hlt', eo, OpT.len, e1, ao]
    rw [e2]
    have hkd : k < d.length := by omega
    have ed : d.getD k false = d[k] := by rw [List.getD_eq_getElem?_getD, List.getElem?_eq_getElem hkd]; rfl
    rw [ed]
    have b3 : Below w.heap.size w (w2.alloc (.cells l[k].enc.toArray 58)) := b2.alloc b2.size _
    have step : (l[k].Done = true → d[k] = true) → ∀ i (h : i < l.length) (h' : i < d.length), i < k + 1 → l[i].Done = true → d[i] = true := fun hh i hi hi' hik hD => by
      rcases Nat.lt_or_ge i k with h' | h'
      · exact hinv i hi hi' h' hD
      · obtain rfl : i = k := by omega
        exact hh hD
    cases hdk : d[k] with
    | true => exact ⟨by omega, fun _ => ⟨by omega, fun h => by simp at h, fun _ => ⟨⟨by omega, by omega⟩, k + 1, rfl, ⟨b3, by omega, step fun _ => hdk⟩, by omega⟩⟩, fun hD => ⟨⟨by omega, by omega⟩, k + 1, rfl, ⟨b3, by omega, step fun _ => hdk⟩, by omega⟩⟩
    | false =>
      refine ⟨by omega, fun hD => ⟨by omega, fun _ => ⟨?_, b3⟩, fun h => by simp at h⟩, fun hD => ⟨⟨by omega, by omega⟩, k + 1, rfl, ⟨b3, by omega, step fun h => by rw [hD] at h; cases h⟩, by omega⟩⟩
      cases hf : fullP l d with
      | false => rfl
      | true =>
        have := (fullP_iff hd).1 hf k hlt hkd hD
        rw [hdk] at this; cases this
  · have hlt' : ¬ (k : Int) < l.length := by omega
    simp (disch := first | omega | exact okFill_t rfl | exact okSize_t rfl | exact fun h => h | (simp only [World.size_alloc, World.size_drew, World.size_setCell, size_fill, bytesW]; omega)) only [go_sem, c90, c90S0, c90S1, c90L0, c90S2, c90L0, hlt']
    refine ⟨?_, b2⟩
    exact ((fullP_iff hd).2 fun i hi hi' => hinv i hi hi' (by omega)).symm
theorem olate_ok {w : World} {lv : Value} {l : List OpT} {d : List Bool} {o : OpT} (h : RdS w 11 OpT.enc lv l) (hd : d.length = l.length) (hn : l.length ≤ 16) :
    Ret Try.prog 91 [lv, .int .u32 (maskN d), .agg o.enc.toArray] w fun u w' => u = .bool (!((l.map fun p => before p o).zip d).all fun p => p.2 || !p.1) ∧ Below w.heap.size w w' := by
  obtain ⟨la, lc, rfl, _⟩ := h.form
  refine ent91 _ _ _ _ _ ?_
  have s1 := (St.start (W0 := w)).box o.enc.toArray 58
  simp (disch := first | omega | exact okFill_t rfl | exact okSize_t rfl | exact fun h => h | (simp only [World.size_alloc, World.size_drew, World.size_setCell, size_fill, bytesW]; omega)) only [go_sem, c91, c91S0, c91S1, c91S2, c91L0, c91S3]
  generalize w.alloc (.cells o.enc.toArray 58) = w1 at s1 ⊢
  generalize hb : w.heap.size = b0 at s1 ⊢
  refine W_loopU (fun k : Nat => [(11, .int .i64 k)]) (fun k w' => St w w' (fun _ => False) [.blk b0 o.enc.toArray 58] [] ∧ k ≤ l.length ∧ ∀ i (h : i < l.length) (h' : i < d.length), i < k → before l[i] o = true → d[i] = true) (fun k => l.length - k) 0 rfl ⟨s1, Nat.zero_le _, fun i _ _ h => by omega⟩ ?_
  rintro k w2 ⟨s2, hk, hinv⟩
  by_cases hlt : k < l.length
  · have hlt' : (k : Int) < l.length := by omega
    obtain ⟨p, rfl⟩ := h.ptr (by omega)
    have eo := (h.below s2.bel (by decide)).at OpT.len hlt
    have r2 := s2.rules 0 rfl
    have l2 := (s2.low 0 rfl).2
    have e1 := wrap_u64_nat (show k < 18446744073709551616 by omega)
    have e2 : bits .and .u32 ((maskN d : Int) / 2 ^ min k 32) 1 = if d.getD k false = true then 1 else 0 := by
      rw [Nat.min_eq_left (by omega)]; exact mask_bit (by omega)
    have hkd : k < d.length := by omega
    have ed : d.getD k false = d[k] := by rw [List.getD_eq_getElem?_getD, List.getElem?_eq_getElem hkd]; rfl
    rw [ed] at e2
    simp (disch := first | omega | exact okFill_t rfl | exact okSize_t rfl | exact fun h => h | (simp only [World.size_alloc, World.size_drew, World.size_setCell, size_fill, bytesW]; omega)) only [go_sem, c91, c91S0, c91S1, c91S2, c91L0, c91S3, c91L0, hlt', eo, OpT.len, e1, r2, e2]
    have step : (before l[k] o = true → d[k] = true) → ∀ i (h : i < l.length) (h' : i < d.length), i < k + 1 → before l[i] o = true → d[i] = true := fun hh i hi hi' hik hD => by
      rcases Nat.lt_or_ge i k with h' | h'
      · exact hinv i hi hi' h' hD
      · obtain rfl : i = k := by omega
        exact hh hD
    have s3 := s2.alloc' (.cells l[k].enc.toArray 58)
    cases hdk : d[k] with
    | true => exact ⟨by omega, by omega, fun h => by simp at h, fun _ => ⟨⟨by omega, by omega⟩, k + 1, rfl, ⟨s3, by omega, step fun _ => hdk⟩, by omega⟩⟩
    | false =>
      refine ⟨by omega, by omega, fun _ => Ret.mono (before_ok _ _ _) ?_, fun h => by simp at h⟩
      rintro _ w4 ⟨rfl, b4⟩
      have s4 := s3.call b4
      cases hbf : before l[k] o with
      | true =>
        simp (disch := first | omega | exact okFill_t rfl | exact okSize_t rfl | exact fun h => h | (simp only [World.size_alloc, World.size_drew, World.size_setCell, size_fill, bytesW]; omega)) only [go_sem, c91, c91S0, c91S1, c91S2, c91L0, c91S3]
        have : ((l.map fun p => before p o).zip d).all (fun p => p.2 || !p.1) = false := by
          cases hz : ((l.map fun p => before p o).zip d).all (fun p => p.2 || !p.1) with
          | false => rfl
          | true =>
            have := (zipAll (fun p => before p o) l d hd).1 hz k hlt hkd hbf
            rw [hdk] at this; cases this
        rw [this]
        exact ⟨rfl, by rw [← hb]; exact s4.bel⟩
      | false =>
        simp (disch := first | omega | exact okFill_t rfl | exact okSize_t rfl | exact fun h => h | (simp only [World.size_alloc, World.size_drew, World.size_setCell, size_fill, bytesW]; omega)) only [go_sem, c91, c91S0, c91S1, c91S2, c91L0, c91S3]
        exact ⟨⟨by omega, by omega⟩, k + 1, rfl, ⟨s4, by omega, step fun h => by rw [hbf] at h; cases h⟩, by omega⟩
  · have hlt' : ¬ (k : Int) < l.length := by omega
    simp (disch := first | omega | exact okFill_t rfl | exact okSize_t rfl | exact fun h => h | (simp only [World.size_alloc, World.size_drew, World.size_setCell, size_fill, bytesW]; omega)) only [go_sem, c91, c91S0, c91S1, c91S2, c91L0, c91S3, c91L0, hlt']
    have := (zipAll (fun p => before p o) l d hd).2 fun i hi hi' => hinv i hi hi' (by omega)
    rw [this]
    exact ⟨rfl, by rw [← hb]; exact s2.bel⟩
end Go.Proofs.Ytbeoedgoikcbpaa

namespace Go.Proofs.Ytbeoedgoikcbpaa
set_option linter.unusedSimpArgs false
set_option linter.unusedVariables false
set_option maxRecDepth 100000
open Go Go.Ann Go.RowKit
abbrev OKey := Nat × Nat × List UInt8
def osE (k : OKey) : List Value := [.int .i64 k.1, .int .u32 k.2.1, .string (ofL k.2.2)]
theorem keyT_os : ∃ d, KeyT Try.prog 134 (fun k : OKey => .agg (osE k).toArray) d := by
  refine ⟨_, keyT_flat ty134flat Try.underlying134 (fun a b => ?_) fun a i f h => ?_⟩
  · simp only [aggEq, osE, vEq, andO, if_true, toL_ofL, Option.some.injEq]
    rw [Bool.eq_iff_iff, decide_eq_true_eq]
    obtain ⟨a1, a2, a3⟩ := a
    obtain ⟨b1, b2, b3⟩ := b
    simp only [Bool.and_eq_true, decide_eq_true_eq, Bool.and_true, Prod.mk.injEq]
    constructor
    · rintro ⟨h1, h2, h3⟩; exact ⟨by omega, by omega, of_decide_eq_true h3⟩
    · rintro ⟨h1, h2, h3⟩; exact ⟨by omega, by omega, decide_eq_true h3⟩
  · match i, h with
    | 0, h => simp at h; subst h; exact ⟨_, rfl⟩
    | 1, h => simp at h; subst h; exact ⟨_, rfl⟩
    | 2, h => simp at h; subst h; exact ⟨_, rfl⟩
    | i + 3, h => simp at h
def osK (p : OSpot) : OKey := (p.1, maskN p.2.1, txt p.2.2)
theorem osK_mem {ls : List (List OpT)} {dead : List OSpot} {g : Nat} {d : List Bool} {s : List Int} {l : List OpT} (hl : ls[g]? = some l) (hd : d.length = l.length) (hs : OkS s) (hok : ∀ p ∈ dead, (∀ l, ls[p.1]? = some l → p.2.1.length = l.length) ∧ OkS p.2.2) :
    osK (g, d, s) ∈ dead.map osK ↔ (g, d, s) ∈ dead := by
  rw [List.mem_map]
  constructor
  · rintro ⟨⟨g', d', s'⟩, hp, e⟩
    obtain ⟨h1, h2⟩ := hok _ hp
    unfold osK at e
    simp only [Prod.mk.injEq] at e
    obtain ⟨rfl, e2, e3⟩ := e
    have h3 := h1 l hl
    simp only at h3 h2
    obtain rfl := maskN_inj (h3.trans hd.symm) e2
    obtain rfl := h2.inj hs e3
    exact hp
  · intro h
    exact ⟨_, h, rfl⟩
end Go.Proofs.Ytbeoedgoikcbpaa

namespace Go.Proofs.Ytbeoedgoikcbpaa
set_option linter.unusedSimpArgs false
set_option linter.unusedVariables false
set_option maxRecDepth 100000
open Go Go.Ann Go.RowKit
def ChEx : List (List OpT) → List Int → List Int → Prop
  | [], s, t => t = s
  | l :: r, s, t => ∃ u, Exit l s u ∧ ChEx r u t
theorem fin_chex {ls : List (List OpT)} : ∀ (n g : Nat) (s : List Int), ls.length - g = n → (Fin' ls g (nextD ls g) s ↔ ∃ t, ChEx (ls.drop g) s t)
  | 0, g, s, h => by
    rw [List.drop_eq_nil_of_le (by omega)]
    exact ⟨fun _ => ⟨s, rfl⟩, fun _ => .out (List.getElem?_eq_none (by omega))⟩
  | n + 1, g, s, h => by
    have hg : g < ls.length := by omega
    have hl : ls[g]? = some ls[g] := List.getElem?_eq_getElem hg
    have ed : nextD ls g = List.replicate ls[g].length false := by unfold nextD; rw [hl]; rfl
    rw [List.drop_eq_getElem_cons hg]
    constructor
    · intro hf
      cases hf with
      | out h0 => rw [hl] at h0; cases h0
      | @seg _ _ _ l e t h0 hr he hn =>
        rw [hl] at h0
        obtain rfl := Option.some.inj h0
        rw [ed] at hr
        obtain ⟨u, hu⟩ := (fin_chex n (g + 1) t (by omega)).1 hn
        exact ⟨u, t, ⟨e, hr, he⟩, hu⟩
    · rintro ⟨t, u, ⟨e, hr, he⟩, hu⟩
      rw [ed]
      exact .seg hl hr he ((fin_chex n (g + 1) u (by omega)).2 ⟨t, hu⟩)
theorem chex_snoc : ∀ {a : List (List OpT)} {l : List OpT} {s t : List Int}, ChEx (a ++ [l]) s t ↔ ∃ u, ChEx a s u ∧ Exit l u t
  | [], l, s, t => by
    simp only [List.nil_append, ChEx]
    constructor
    · rintro ⟨u, hu, rfl⟩; exact ⟨s, rfl, hu⟩
    · rintro ⟨u, rfl, hu⟩; exact ⟨t, hu, rfl⟩
  | k :: a, l, s, t => by
    simp only [List.cons_append, ChEx]
    constructor
    · rintro ⟨u, hu, h⟩
      obtain ⟨x, h1, h2⟩ := chex_snoc.1 h
      exact ⟨x, ⟨u, hu, h1⟩, h2⟩
    · rintro ⟨x, ⟨u, hu, h1⟩, h2⟩
      exact ⟨u, hu, chex_snoc.2 ⟨x, h1, h2⟩⟩
end Go.Proofs.Ytbeoedgoikcbpaa

namespace Go.Proofs.Ytbeoedgoikcbpaa.Cut
set_option linter.unusedSimpArgs false
set_option linter.unusedVariables false
set_option maxRecDepth 100000
open Go Go.Ann Go.RowKit
theorem callW_caps {P : Program} {f : FuncId} {first cap : Array Value} {args : List Value} {w : World} {K : Value → World → Prop} : callW P (.func (.func f) first cap) args w K = (goFunc P f = true ∧ Ret P f (first.toList ++ args ++ cap.toList) w K) := rfl
def Tells (w : World) (fv : Value) (p : OpT → Bool) : Prop := ∀ x w', Below w.heap.size w w' → callW Try.prog fv [.agg x.enc.toArray] w' fun u w'' => u = .bool (p x) ∧ Below w'.heap.size w' w''
def firstI (p : OpT → Bool) (l : List OpT) : Int := match l.findIdx? p with | some i => i | none => -1
theorem firstI_at {p : OpT → Bool} {l : List OpT} {k : Nat} (h : k < l.length) (hp : p l[k] = true) (hb : ∀ j, (h : j < l.length) → j < k → p l[j] = false) : firstI p l = k := by
  unfold firstI
  rw [List.findIdx?_eq_some_iff_getElem.2 ⟨h, hp, fun j hj => by rw [hb j (by omega) hj]; decide⟩]
theorem firstI_none {p : OpT → Bool} {l : List OpT} (hb : ∀ j, (h : j < l.length) → p l[j] = false) : firstI p l = -1 := by
  unfold firstI
  rw [List.findIdx?_eq_none_iff.2 fun x hx => by obtain ⟨j, hj, rfl⟩ := List.mem_iff_getElem.1 hx; exact hb j hj]
theorem firstI_any {p : OpT → Bool} {l : List OpT} : decide (0 ≤ firstI p l) = l.any p := by
  rcases h : l.any p with _ | _
  · rw [firstI_none fun j hj => by simpa using (List.any_eq_false.1 h) _ (List.getElem_mem hj)]; decide
  · unfold firstI
    cases e : l.findIdx? p with
    | none => rw [List.findIdx?_eq_none_iff] at e; obtain ⟨x, hx, hp⟩ := List.any_eq_true.1 h; rw [e x hx] at hp; cases hp
    | some i => exact decide_eq_true (by show (0 : Int) ≤ (i : Int); omega)
theorem indexFunc_ok (fv : Value) (p : OpT → Bool) (v : Value) (l : List OpT) (w : World) (h : RdS w 11 OpT.enc v l) (hf : Tells w fv p) (hl : (l.length : Int) ≤ 9223372036854775806) :
    Ret Try.prog 80 [v, fv] w fun u w' => u = .int .i64 (firstI p l) ∧ Below w.heap.size w w' := by
  obtain ⟨a, c, rfl, _⟩ := h.form
  refine ent80 _ _ _ _ ?_
  simp (disch := first | omega | exact okFill_t rfl | exact okSize_t rfl | exact fun h => h | (simp only [World.size_alloc, World.size_drew, World.size_setCell, size_fill, bytesW]; omega)) only [go_sem, c80, c80S0, c80S1, c80S2, c80L0, c80S3]
  refine W_loopU (fun k : Nat => [(8, .int .i64 k)]) (fun k w' => Below w.heap.size w w' ∧ k ≤ l.length ∧ ∀ j, (h : j < l.length) → j < k → p l[j] = false) (fun k => l.length - k) 0 rfl ⟨Below.refl _ _, Nat.zero_le _, fun j _ h => by omega⟩ ?_
  rintro k w1 ⟨hw, hk, he⟩
  by_cases hlt : k < l.length
  · obtain ⟨q, rfl⟩ := h.ptr (by omega)
    have ek := h.eltB hw OpT.len (by decide) hlt
    have ck := cellsO_below hw (h.at OpT.len hlt)
    have hlt' : (k : Int) < l.length := by omega
    simp (disch := first | omega | exact okFill_t rfl | exact okSize_t rfl | exact fun h => h | (simp only [World.size_alloc, World.size_drew, World.size_setCell, size_fill, bytesW]; omega)) only [go_sem, c80, c80S0, c80S1, c80S2, c80L0, c80S3, hlt', ck, ek]
    refine ⟨by omega, callW_mono (hf _ _ hw) ?_⟩
    rintro _ w2 ⟨rfl, hb⟩
    simp (disch := first | omega | exact okFill_t rfl | exact okSize_t rfl | exact fun h => h | (simp only [World.size_alloc, World.size_drew, World.size_setCell, size_fill, bytesW]; omega)) only [go_sem, c80, c80S0, c80S1, c80S2, c80L0, c80S3, hlt']
    have hwt := hw.trans (hb.mono hw.size)
    refine ⟨fun hp => ⟨(firstI_at hlt hp he).symm, hwt⟩, fun hp => ⟨⟨by omega, by omega⟩, k + 1, rfl, ⟨hwt, by omega, fun j h1 h2 => ?_⟩, by omega⟩⟩
    rcases Nat.lt_or_ge j k with h' | h'
    · exact he j h1 h'
    · obtain rfl : j = k := by omega
      exact hp
  · have hlt' : ¬ (k : Int) < l.length := by omega
    simp (disch := first | omega | exact okFill_t rfl | exact okSize_t rfl | exact fun h => h | (simp only [World.size_alloc, World.size_drew, World.size_setCell, size_fill, bytesW]; omega)) only [go_sem, c80, c80S0, c80S1, c80S2, c80L0, c80S3, hlt']
    exact ⟨(firstI_none fun j h => he j h (by omega)).symm, hw⟩
theorem containsFunc_ok (fv : Value) (p : OpT → Bool) (v : Value) (l : List OpT) (w : World) (h : RdS w 11 OpT.enc v l) (hf : Tells w fv p) (hl : (l.length : Int) ≤ 9223372036854775806) :
    Ret Try.prog 83 [v, fv] w fun u w' => u = .bool (l.any p) ∧ Below w.heap.size w w' := by
  refine ent83 _ _ _ _ ?_
  simp (disch := first | omega | exact okFill_t rfl | exact okSize_t rfl | exact fun h => h | (simp only [World.size_alloc, World.size_drew, World.size_setCell, size_fill, bytesW]; omega)) only [go_sem, c83, c83S0]
  refine Ret.mono (indexFunc_ok _ p _ _ _ h hf hl) ?_
  rintro _ w1 ⟨rfl, hb⟩
  simp (disch := first | omega | exact okFill_t rfl | exact okSize_t rfl | exact fun h => h | (simp only [World.size_alloc, World.size_drew, World.size_setCell, size_fill, bytesW]; omega)) only [go_sem, c83, c83S0]
  exact ⟨firstI_any, hb⟩
theorem quiet1_ok (o x : OpT) (b : Nat) (w : World) (h : Blk w b o.enc.toArray 58) :
    Ret Try.prog 112 [.agg x.enc.toArray, .pointer (some ⟨b, 0, none⟩)] w fun u w' => u = .bool (!before x o) ∧ Below w.heap.size w w' := by
  refine ent112 _ _ _ _ ?_
  have hr := (h.alloc (.cells x.enc.toArray 58)).rules
  have hlt := h.lt
  simp (disch := first | omega | exact okFill_t rfl | exact okSize_t rfl | exact fun h => h | (simp only [World.size_alloc, World.size_drew, World.size_setCell, size_fill, bytesW]; omega)) only [go_sem, c112, c112S0, hr]
  refine Ret.mono (before_ok x o _) ?_
  rintro _ w1 ⟨rfl, hb⟩
  simp (disch := first | omega | exact okFill_t rfl | exact okSize_t rfl | exact fun h => h | (simp only [World.size_alloc, World.size_drew, World.size_setCell, size_fill, bytesW]; omega)) only [go_sem, c112, c112S0, hr]
  (repeat' (first | with_reducible exact Below.refl _ _ | with_reducible assumption | (with_reducible refine Below.drew ?_) | (with_reducible refine Below.alloc ?_ ?_ _) | (with_reducible refine Below.setCell ?_ ?_ _) | (with_reducible refine Below.fill ?_ ?_) | (with_reducible refine Below.via (by assumption) ?_ ?_) | omega | (simp only [World.size_alloc, World.size_drew, World.size_setCell, size_fill, bytesW]; omega)))
theorem quiet_ok (v : Value) (l : List OpT) (o : OpT) (w : World) (h : RdS w 11 OpT.enc v l) (hl : (l.length : Int) ≤ 9223372036854775806) :
    Ret Try.prog 87 [v, .agg o.enc.toArray] w fun u w' => u = .bool (l.all fun x => before x o) ∧ Below w.heap.size w w' := by
  obtain ⟨a, c, rfl, _⟩ := h.form
  refine ent87 _ _ _ _ ?_
  simp (disch := first | omega | exact okFill_t rfl | exact okSize_t rfl | exact fun h => h | (simp only [World.size_alloc, World.size_drew, World.size_setCell, size_fill, bytesW]; omega)) only [go_sem, c87, c87S0]
  refine Ret.mono (containsFunc_ok _ (fun x => !before x o) _ _ _ (h.below ((Below.refl _ _).alloc (Nat.le_refl _) _) (by decide)) ?_ hl) ?_
  · intro x w' hb
    rw [callW_caps]
    exact ⟨by kernel_rfl, quiet1_ok o x _ w' (Blk.new.below hb (by rw [World.size_alloc]; omega))⟩
  rintro _ w1 ⟨rfl, hb⟩
  simp (disch := first | omega | exact okFill_t rfl | exact okSize_t rfl | exact fun h => h | (simp only [World.size_alloc, World.size_drew, World.size_setCell, size_fill, bytesW]; omega)) only [go_sem, c87, c87S0]
  refine ⟨?_, by (repeat' (first | with_reducible exact Below.refl _ _ | with_reducible assumption | (with_reducible refine Below.drew ?_) | (with_reducible refine Below.alloc ?_ ?_ _) | (with_reducible refine Below.setCell ?_ ?_ _) | (with_reducible refine Below.fill ?_ ?_) | (with_reducible refine Below.via (by assumption) ?_ ?_) | omega | (simp only [World.size_alloc, World.size_drew, World.size_setCell, size_fill, bytesW]; omega)))⟩
  rw [List.not_all_eq_any_not]
theorem isNaN_ok (a : Int) (w : World) : Ret Try.prog 89 [.int .i64 a] w fun u w' => u = .bool false ∧ w' = w := by
  refine ent89 _ _ _ ?_
  simp (disch := first | omega | exact okFill_t rfl | exact okSize_t rfl | exact fun h => h | (simp only [World.size_alloc, World.size_drew, World.size_setCell, size_fill, bytesW]; omega)) only [go_sem, c89]
theorem compare_ok (a b : Int) (w : World) : Ret Try.prog 60 [.int .i64 a, .int .i64 b] w fun u w' => u = .int .i64 (cmpI a b) ∧ w' = w := by
  refine ent60 _ _ _ _ ?_
  simp (disch := first | omega | exact okFill_t rfl | exact okSize_t rfl | exact fun h => h | (simp only [World.size_alloc, World.size_drew, World.size_setCell, size_fill, bytesW]; omega)) only [go_sem, c60, c60S0, c60S1, c60S2, c60S3, c60S4, c60S5, c60S6]
  refine Ret.mono (isNaN_ok _ _) ?_
  rintro _ _ ⟨rfl, rfl⟩
  simp (disch := first | omega | exact okFill_t rfl | exact okSize_t rfl | exact fun h => h | (simp only [World.size_alloc, World.size_drew, World.size_setCell, size_fill, bytesW]; omega)) only [go_sem, c60, c60S0, c60S1, c60S2, c60S3, c60S4, c60S5, c60S6]
  refine Ret.mono (isNaN_ok _ _) ?_
  rintro _ _ ⟨rfl, rfl⟩
  simp (disch := first | omega | exact okFill_t rfl | exact okSize_t rfl | exact fun h => h | (simp only [World.size_alloc, World.size_drew, World.size_setCell, size_fill, bytesW]; omega)) only [go_sem, c60, c60S0, c60S1, c60S2, c60S3, c60S4, c60S5, c60S6]
  unfold cmpI
  refine ⟨fun h => by rw [if_pos h], fun h => ⟨fun h2 => by rw [if_neg (by omega), if_pos h2], fun h2 => by rw [if_neg (by omega), if_neg (by omega)]⟩⟩
theorem clone_ok (v : Value) (l : List OpT) (w : World) (h : RdS w 11 OpT.enc v l) (hl : l.length ≤ 100) :
    Ret Try.prog 57 [v] w fun u w' => w'.ownsRow w.heap.size 58 11 u l.length (l.flatMap OpT.enc) ∧ Below w.heap.size w w' := by
  obtain ⟨a, c, rfl, _⟩ := h.form
  refine ent57 _ _ _ ?_
  simp (disch := first | omega | exact okFill_t rfl | exact okSize_t rfl | exact fun h => h | (simp only [World.size_alloc, World.size_drew, World.size_setCell, size_fill, bytesW]; omega)) only [go_sem, c57, c57S0, c57S1]
  have hSt := (St.start (W0 := w)).emptyRow 58 11
  refine ⟨fun ha => ?_, fun ha => bsW_none ty22mkI ?_⟩
  · cases a with
    | some a => cases ha
    | none =>
      have h0 : l = [] := by
        cases l with
        | nil => rfl
        | cons x l => obtain ⟨p, hp⟩ := h.ptr (by simp); cases hp
      subst h0
      exact ⟨⟨rfl, .inl ⟨rfl, rfl⟩⟩, Below.refl _ _⟩
  simp (disch := first | omega | exact okFill_t rfl | exact okSize_t rfl | exact fun h => h | (simp only [World.size_alloc, World.size_drew, World.size_setCell, size_fill, bytesW]; omega)) only [go_sem, c57, c57S0, c57S1]
  refine hSt.append 0 rfl ty22mkI rfl (by decide) (h.below hSt.bel (by decide)) (OpT.ones l) (by omega) (by omega) ?_
  intro v2 w2 s2 _
  have e2 := s2.row 0 rfl
  rw [Nat.zero_add, List.nil_append] at e2
  simp (disch := first | omega | exact okFill_t rfl | exact okSize_t rfl | exact fun h => h | (simp only [World.size_alloc, World.size_drew, World.size_setCell, size_fill, bytesW]; omega)) only [go_sem, c57, c57S0, c57S1]
  exact ⟨e2, s2.bel⟩
theorem find_at {α : Type} {p : α → Bool} : ∀ {l : List α} {k : Nat} (h : k < l.length), p l[k] = true → (∀ j, (h : j < l.length) → j < k → p l[j] = false) → l.find? p = some l[k]
  | a :: l, 0, h, hp, _ => by rw [List.find?_cons_of_pos (by exact hp)]; rfl
  | a :: l, k + 1, h, hp, hb => by
    rw [List.find?_cons_of_neg (by have := hb 0 (by simp) (by omega); exact Bool.eq_false_iff.1 this)]
    exact find_at (l := l) (k := k) (by simpa using h) hp fun j h1 h2 => hb (j + 1) (by simpa using h1) (by omega)
theorem or_ok (v : Value) (l : List Int) (w : World) (h : RdS w 1 (fun n => [.int .i64 n]) v l) (hl : (l.length : Int) ≤ 9223372036854775806) :
    Ret Try.prog 111 [v] w fun u w' => u = .int .i64 ((l.find? (· ≠ 0)).getD 0) ∧ w' = w := by
  obtain ⟨a, c, rfl, _⟩ := h.form
  refine ent111 _ _ _ ?_
  simp (disch := first | omega | exact okFill_t rfl | exact okSize_t rfl | exact fun h => h | (simp only [World.size_alloc, World.size_drew, World.size_setCell, size_fill, bytesW]; omega)) only [go_sem, c111, c111S0, c111S1, c111L0, c111S2]
  refine W_loopU (fun k : Nat => [(8, .int .i64 k)]) (fun k w' => w' = w ∧ k ≤ l.length ∧ ∀ j, (h : j < l.length) → j < k → l[j] = 0) (fun k => l.length - k) 0 rfl ⟨rfl, Nat.zero_le _, fun j _ h => by omega⟩ ?_
  rintro k _ ⟨rfl, hk, he⟩
  by_cases hlt : k < l.length
  · obtain ⟨q, rfl⟩ := h.ptr (by omega)
    have ck := h.at1 (e1 := fun n => .int .i64 n) hlt
    have hlt' : (k : Int) < l.length := by omega
    simp (disch := first | omega | exact okFill_t rfl | exact okSize_t rfl | exact fun h => h | (simp only [World.size_alloc, World.size_drew, World.size_setCell, size_fill, bytesW]; omega)) only [go_sem, c111, c111S0, c111S1, c111L0, c111S2, hlt', ck]
    refine ⟨by omega, fun hne => ?_, fun h0 => ⟨⟨by omega, by omega⟩, k + 1, rfl, ⟨by omega, fun j h1 h2 => ?_⟩, by omega⟩⟩
    · rw [find_at hlt (by simpa using hne) fun j h h2 => by simpa using he j h h2]; rfl
    · rcases Nat.lt_or_ge j k with h' | h'
      · exact he j h1 h'
      · obtain rfl : j = k := by omega
        exact h0
  · have hlt' : ¬ (k : Int) < l.length := by omega
    simp (disch := first | omega | exact okFill_t rfl | exact okSize_t rfl | exact fun h => h | (simp only [World.size_alloc, World.size_drew, World.size_setCell, size_fill, bytesW]; omega)) only [go_sem, c111, c111S0, c111S1, c111L0, c111S2, hlt']
    rw [List.find?_eq_none.2 fun x hx => by obtain ⟨j, hj, rfl⟩ := List.mem_iff_getElem.1 hx; simpa using he j hj (by omega)]
    rfl
end Go.Proofs.Ytbeoedgoikcbpaa.Cut
