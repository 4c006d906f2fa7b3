/- Texts put together by program. -/
import Derived.Test.YtbeoedgoikcbpaaQC3
namespace Go.Proofs.Ytbeoedgoikcbpaa
set_option linter.unusedSimpArgs false
set_option linter.unusedVariables false
set_option maxRecDepth 100000
open Go Go.Ann Go.RowKit
def InV (u : Value) (x : Int) (l : List Int) : Prop := ∃ i : Int, u = .int .i64 i ∧ (0 ≤ i ↔ x ∈ l)
theorem icontains_ok {w : World} {v : Value} {l : List Int} (x : Int) (h : RdS w 1 intE v l) (hl : (l.length : Int) ≤ 9223372036854775806) :
    Ret Try.prog 82 [v, .int .i64 x] w fun u w' => u = .bool (decide (x ∈ l)) ∧ w' = w := by
  obtain ⟨a, c, rfl, _⟩ := h.form
  have key : Ret Try.prog 110 [.slice a l.length c, .int .i64 x] w fun u w' => InV u x l ∧ w' = w := by
    refine ent110 _ _ _ _ ?_
    simp (disch := first | omega | exact okFill_t rfl | exact okSize_t rfl | exact fun h => h | (simp only [World.size_alloc, World.size_drew, World.size_setCell, size_fill, bytesW]; omega)) only [go_sem, c110, c110S0, c110S1, c110L0, c110S2]
    refine W_loopU (fun k : Nat => [(8, .int .i64 k)]) (fun k w' => w' = w ∧ k ≤ l.length ∧ ∀ j, (h : j < l.length) → j < k → ¬ x = l[j]) (fun k => l.length - k) 0 rfl ⟨rfl, Nat.zero_le _, fun j _ h => by omega⟩ ?_
    rintro k w2 ⟨e2, hk, hinv⟩
    subst w2
    by_cases hlt : k < l.length
    · have hlt' : (k : Int) < l.length := by omega
      obtain ⟨p, rfl⟩ := h.ptr (by omega)
      have eo := RdS.int h hlt
      simp (disch := first | omega | exact okFill_t rfl | exact okSize_t rfl | exact fun h => h | (simp only [World.size_alloc, World.size_drew, World.size_setCell, size_fill, bytesW]; omega)) only [go_sem, c110, c110S0, c110S1, c110L0, c110S2, c110L0, hlt', eo]
      refine ⟨by omega, fun e => ⟨_, rfl, ⟨fun _ => by rw [e]; exact List.getElem_mem hlt, fun _ => by omega⟩⟩, fun hne => ⟨⟨by omega, by omega⟩, k + 1, rfl, ⟨by omega, fun j h1 h2 => ?_⟩, by omega⟩⟩
      rcases Nat.lt_or_ge j k with h' | h'
      · exact hinv j h1 h'
      · obtain rfl : j = k := by omega
        exact hne
    · have hlt' : ¬ (k : Int) < l.length := by omega
      simp (disch := first | omega | exact okFill_t rfl | exact okSize_t rfl | exact fun h => h | (simp only [World.size_alloc, World.size_drew, World.size_setCell, size_fill, bytesW]; omega)) only [go_sem, c110, c110S0, c110S1, c110L0, c110S2, c110L0, hlt']
      refine ⟨_, rfl, ⟨fun h => absurd h (by decide), fun hm => ?_⟩⟩
      obtain ⟨j, hj, e⟩ := List.mem_iff_getElem.1 hm
      exact absurd e.symm (hinv j hj (by omega))
  refine ent82 _ _ _ _ ?_
  simp (disch := first | omega | exact okFill_t rfl | exact okSize_t rfl | exact fun h => h | (simp only [World.size_alloc, World.size_drew, World.size_setCell, size_fill, bytesW]; omega)) only [go_sem, c82, c82S0]
  refine Ret.mono key ?_
  rintro _ w2 ⟨⟨i, rfl, hi⟩, e2⟩
  subst w2
  have e : decide (0 ≤ i) = decide (x ∈ l) := decide_eq_decide.2 hi
  simp (disch := first | omega | exact okFill_t rfl | exact okSize_t rfl | exact fun h => h | (simp only [World.size_alloc, World.size_drew, World.size_setCell, size_fill, bytesW]; omega)) only [go_sem, c82, c82S0, e]
theorem ovalid_ok {w : World} {ob kd : Int} {lv iv : Value} {l L : List OpT} (h : RdS w 11 OpT.enc lv l) (hi : RdS w 1 intE iv (L.map OpT.ID)) (hl : l.length ≤ 100) (hLl : L.length ≤ 100) (hid : (l.map OpT.ID).Nodup) (hK : ∀ o ∈ l, o.Kind = kd) (hw : ∀ o ∈ l, o.wf) (ho : Ordered l L) :
    Ret Try.prog 55 [.agg #[.int .i64 ob, .int .i64 kd, lv], iv] w fun u w' => u = .bool (runP (firstP kd) L).isSome ∧ Below w.heap.size w w' := by
  obtain ⟨la, lc, rfl, _⟩ := h.form
  obtain ⟨ia, ic, rfl, hic⟩ := hi.form
  rw [List.length_map] at hi hic ⊢
  refine ent55 _ _ _ _ ?_
  have s1 := ((St.start (W0 := w)).box #[.int .i64 ob, .int .i64 kd, .slice la l.length lc] 24).nilRow 58 11
  simp (disch := first | omega | exact okFill_t rfl | exact okSize_t rfl | exact fun h => h | (simp only [World.size_alloc, World.size_drew, World.size_setCell, size_fill, bytesW]; omega)) only [go_sem, c55, c55S0, c55S1, c55S2, c55S3, c55S4, c55S5, c55S6, c55S7, c55L1, c55S8, c55S9, c55S10, c55L2, c55S11, c55S12, c55S13, c55S14]
  generalize hb : w.heap.size = b at s1 ⊢
  generalize w.alloc (.cells #[.int .i64 ob, .int .i64 kd, .slice la l.length lc] 24) = w1 at s1 ⊢
  refine W_loopU (fun q : Nat × Value => [(5, q.2), (17, .int .i64 q.1)]) (fun q w' => St w w' (fun _ => False) [.row q.2 58 11 q.1 ((L.take q.1).flatMap OpT.enc), .blk b #[.int .i64 ob, .int .i64 kd, .slice la l.length lc] 24] [] ∧ q.1 ≤ L.length) (fun q => L.length - q.1) (0, .slice none 0 0) rfl ⟨s1, Nat.zero_le _⟩ ?_
  clear s1
  rintro ⟨k, rv⟩ w2 ⟨s2, hk⟩
  simp only at s2 hk
  obtain ⟨ra, rc, rfl, _⟩ := own_slice (s2.row 0 rfl)
  have r2 := s2.rules 1 rfl
  have l2 := s2.low 1 rfl
  by_cases hlt : k < L.length
  · have hlt' : (k : Int) < L.length := by omega
    obtain ⟨p, rfl⟩ := hi.ptr (by simp only [List.length_map]; omega)
    have ei := RdS.int (hi.below s2.bel (by decide)) (k := k) (by simpa using hlt)
    rw [List.getElem_map] at ei
    have s3 := s2.box #[.int .i64 L[k].ID] 3
    simp (disch := first | omega | exact okFill_t rfl | exact okSize_t rfl | exact fun h => h | (simp only [World.size_alloc, World.size_drew, World.size_setCell, size_fill, bytesW]; omega)) only [go_sem, c55, c55S0, c55S1, c55S3, c55S4, c55L0, c55S5, c55S6, c55S7, c55L1, c55S8, c55S9, c55S10, c55L2, c55S11, c55S12, c55S13, c55S14, c55L0, hlt', ei, r2]
    obtain ⟨kk, hkk, ekk⟩ := List.mem_iff_getElem.1 (ho.sub _ (List.getElem_mem hlt))
    have hB := s3.blk 0 rfl
    have b23 : Below w2.heap.size w2 (w2.alloc (.cells #[.int .i64 L[k].ID] 3)) := (Below.refl _ _).alloc (Nat.le_refl _) _
    generalize w2.alloc (.cells #[.int .i64 L[k].ID] 3) = w3 at s3 hB b23 ⊢
    generalize w2.heap.size = y at s3 hB b23 ⊢
    refine ⟨by omega, Ret.mono (Cut.indexFunc_ok _ (fun o => decide (o.ID = L[k].ID)) _ _ _ (h.below s3.bel (by decide)) (fun x w' hw' => ?_) (by omega)) ?_⟩
    · rw [Cut.callW_caps]
      exact ⟨by kernel_rfl, valid1_ok x y L[k].ID w' (hB.below hw' hB.lt)⟩
    rintro _ w4 ⟨rfl, b4⟩
    have s4 := s3.call b4
    rw [← ekk, firstI_id hid hkk]
    have hkn : ¬ (kk : Int) < 0 := by omega
    have r4 := s4.rules 0 rfl
    have q4 := s4.rules 2 rfl
    have hle : (k : Int) ≤ ic := by omega
    simp (disch := first | omega | exact okFill_t rfl | exact okSize_t rfl | exact fun h => h | (simp only [World.size_alloc, World.size_drew, World.size_setCell, size_fill, bytesW]; omega)) only [go_sem, c55, c55S0, c55S2, c55S3, c55S4, c55L0, c55S5, c55S6, c55S7, c55L1, c55S8, c55S9, c55S10, c55L2, c55S11, c55S12, c55S13, c55S14]
    refine c55draw0 ?_
    simp (disch := first | omega | exact okFill_t rfl | exact okSize_t rfl | exact fun h => h | (simp only [World.size_alloc, World.size_drew, World.size_setCell, size_fill, bytesW]; omega)) only [go_sem, c55, c55S0, c55S1, c55S2, c55S3, c55S4, c55L0, c55S5, c55S6, c55S7, c55L1, c55S8, c55S9, c55S10, c55L2, c55S11, c55S12, c55S13, c55S14, c55D0, hkn, hle, r4, q4]
    have s5 := s4.drew
    have hi5 : RdS w4.drew 1 intE (.slice (offA (some p) ic 0 1) k ic) ((L.take k).map OpT.ID) := by
      have h5 := Cut.rd_take (n := L.length) (k := k) (by have := hi.below s5.bel (by decide); unfold RdS at this; rwa [List.length_map] at this) hk
      have e1 : ((L.map OpT.ID).flatMap intE).take (k * 1) = ((L.take k).map OpT.ID).flatMap intE := by
        rw [Nat.mul_one]
        have : ∀ (m : List Int) (k : Nat), (m.flatMap intE).take k = (m.take k).flatMap intE := by
          intro m
          induction m with
          | nil => intro k; simp
          | cons a m ih => intro k; cases k with
            | zero => rfl
            | succ k => simp only [List.flatMap_cons, intE, List.cons_append, List.nil_append, List.take_succ_cons]; rw [← ih]
        rw [this, List.map_take]
      rw [e1] at h5
      unfold RdS
      have e2 : ((L.take k).map OpT.ID).length = k := by rw [List.length_map, List.length_take]; omega
      rw [e2]
      exact h5
    have hnot : ¬ L[k].ID ∈ (L.take k).map OpT.ID := fun hm => by
      obtain ⟨o, ho', e⟩ := List.mem_map.1 hm
      obtain ⟨j, hj, rfl⟩ := List.mem_iff_getElem.1 ho'
      rw [List.length_take] at hj
      rw [List.getElem_take] at e
      exact ids_ne ho.nd (by omega) hlt (by omega) e
    refine ⟨by omega, Ret.mono (icontains_ok _ hi5 (by rw [List.length_map, List.length_take]; omega)) ?_⟩
    rintro _ w6 ⟨rfl, e6⟩
    subst w6
    clear s4 r4 q4
    have r5 := s5.rules 2 rfl
    obtain ⟨lp, rfl⟩ := h.ptr (by omega)
    have el := (h.below s5.bel (by decide)).at OpT.len hkk
    rw [ekk] at el
    generalize w4.drew = w5 at s5 r5 el ⊢
    simp (disch := first | omega | exact okFill_t rfl | exact okSize_t rfl | exact fun h => h | (simp only [World.size_alloc, World.size_drew, World.size_setCell, size_fill, bytesW]; omega)) only [go_sem, c55, c55S0, c55S1, c55S2, c55S3, c55S4, c55L0, c55S5, c55S6, c55S7, c55L1, c55S8, c55S9, c55S10, c55L2, c55S11, c55S12, c55S13, c55S14, c55D0, hnot, r5, el, OpT.len]
    refine ⟨by omega, bsW_agg ty22mkI rfl (by decide) (by decide) ?_⟩
    have hx : Rd (w5.alloc (.cells L[k].enc.toArray 58)) 11 (.slice (some ⟨w5.heap.size, 0, none⟩) 1 1) 1 L[k].enc := rd_new (n := 1) (cs := L[k].enc.toArray) rfl
    simp (disch := first | omega | exact okFill_t rfl | exact okSize_t rfl | exact fun h => h | (simp only [World.size_alloc, World.size_drew, World.size_setCell, size_fill, bytesW]; omega)) only [go_sem, c55, c55S0, c55S1, c55S2, c55S3, c55S4, c55L0, c55S5, c55S6, c55S7, c55L1, c55S8, c55S9, c55S10, c55L2, c55S11, c55S12, c55S13, c55S14]
    refine (s5.alloc' (.cells L[k].enc.toArray 58)).append 1 rfl ty22mkI rfl (by decide) hx L[k].one (by omega) (by omega) ?_
    intro v6 w6 s6 c6
    simp only [List.set_cons_zero, List.set_cons_succ] at s6
    obtain ⟨a6, d6, rfl, _⟩ := own_slice (s6.row 1 rfl)
    simp (disch := first | omega | exact okFill_t rfl | exact okSize_t rfl | exact fun h => h | (simp only [World.size_alloc, World.size_drew, World.size_setCell, size_fill, bytesW]; omega)) only [go_sem, c55, c55S0, c55S1, c55S2, c55S3, c55S4, c55L0, c55S5, c55S6, c55S7, c55L1, c55S8, c55S9, c55S10, c55L2, c55S11, c55S12, c55S13, c55S14]
    refine ⟨⟨by omega, by omega⟩, (k + 1, .slice a6 (k + 1) d6), rfl, ⟨?_, by simp only; omega⟩, by simp only; omega⟩
    simp only
    rw [List.take_succ_eq_append_getElem hlt, List.flatMap_append, List.flatMap_cons, List.flatMap_nil, List.append_nil]
    exact s6.sub (List.sublist_cons_self _ _)
  · have hlt' : ¬ (k : Int) < L.length := by omega
    obtain rfl : k = L.length := by omega
    have s2 : St w w2 (fun _ => False) [.row (.slice ra L.length rc) 58 11 L.length (L.flatMap OpT.enc), .blk b #[.int .i64 ob, .int .i64 kd, .slice la l.length lc] 24] [] := by rw [List.take_length] at s2; exact s2
    have hrc : L.length ≤ rc := by obtain ⟨_, _, e, hh⟩ := own_slice (s2.row 0 rfl); cases e; exact hh
    simp (disch := first | omega | exact okFill_t rfl | exact okSize_t rfl | exact fun h => h | (simp only [World.size_alloc, World.size_drew, World.size_setCell, size_fill, bytesW]; omega)) only [go_sem, c55, c55S0, c55S1, c55S2, c55S3, c55S4, c55L0, c55S5, c55S6, c55S7, c55S8, c55S9, c55S10, c55L2, c55S11, c55S12, c55S13, c55S14, c55L0, hlt']
    refine W_loopU (fun j : Nat => [(46, .int .i64 j)]) (fun j w' => Below w2.heap.size w2 w' ∧ j ≤ L.length) (fun j => L.length - j) 0 rfl ⟨Below.refl _ _, Nat.zero_le _⟩ ?_
    rintro j w3 ⟨b3, hj⟩
    have s3 := s2.call b3
    have r3 := s3.rules 1 rfl
    have hL3 : RdS w3 11 OpT.enc (.slice ra L.length rc) L := RdS.of_own' (s3.row 0 rfl) L rfl rfl
    by_cases hjk : j < L.length
    · have hjk' : (j : Int) < L.length := by omega
      obtain ⟨rp, rfl⟩ := hL3.ptr (by omega)
      have er := hL3.at OpT.len hjk
      have s4 := s3.box L[j].enc.toArray 58
      have hB := s4.blk 0 rfl
      have hle : (j : Int) ≤ rc := by omega
      simp (disch := first | omega | exact okFill_t rfl | exact okSize_t rfl | exact fun h => h | (simp only [World.size_alloc, World.size_drew, World.size_setCell, size_fill, bytesW]; omega)) only [go_sem, c55, c55S0, c55S1, c55S2, c55S3, c55S4, c55L0, c55S5, c55S6, c55S7, c55L1, c55S8, c55S9, c55S10, c55L2, c55S11, c55S12, c55S13, c55S14, c55L1, hjk', er, OpT.len, hle]
      have b34 : Below w3.heap.size w3 (w3.alloc (.cells L[j].enc.toArray 58)) := (Below.refl _ _).alloc (Nat.le_refl _) _
      have hp4 : RdS w3 11 OpT.enc (.slice (offA (some rp) rc 0 11) j rc) (L.take j) := by
        have h5 := Cut.rd_take (show Rd w3 11 (.slice (some rp) L.length rc) L.length (L.flatMap OpT.enc) from hL3) hj
        rw [Cut.take_flat] at h5
        have e : (L.take j).length = j := by rw [List.length_take]; omega
        unfold RdS
        rw [e]
        exact h5
      refine ⟨by omega, by omega, Ret.mono (Cut.containsFunc_ok _ (fun p => before L[j] p) _ _ _ (hp4.below b34 (by decide)) (fun x w' hw' => ?_) (by rw [List.length_take]; omega)) ?_⟩
      · rw [Cut.callW_caps]
        exact ⟨by kernel_rfl, valid2_ok x L[j] _ w' (hB.below hw' hB.lt)⟩
      rintro _ w5 ⟨rfl, b5⟩
      have hany : (L.take j).any (fun p => before L[j] p) = false := by
        rw [List.any_eq_false]
        intro x hx
        obtain ⟨i, hi', rfl⟩ := List.mem_iff_getElem.1 hx
        rw [List.length_take] at hi'
        rw [List.getElem_take, ho.late i j (by omega) hjk (by omega)]
        decide
      rw [hany]
      simp (disch := first | omega | exact okFill_t rfl | exact okSize_t rfl | exact fun h => h | (simp only [World.size_alloc, World.size_drew, World.size_setCell, size_fill, bytesW]; omega)) only [go_sem, c55, c55S0, c55S1, c55S2, c55S3, c55S4, c55L0, c55S5, c55S6, c55S7, c55L1, c55S8, c55S9, c55S10, c55L2, c55S11, c55S12, c55S13, c55S14]
      exact ⟨⟨by omega, by omega⟩, j + 1, rfl, ⟨Below.next (Below.next b3 b34) b5, by omega⟩, by omega⟩
    · have hjk' : ¬ (j : Int) < L.length := by omega
      clear r2 l2 s2 b3 hj
      simp (disch := first | omega | exact okFill_t rfl | exact okSize_t rfl | exact fun h => h | (simp only [World.size_alloc, World.size_drew, World.size_setCell, size_fill, bytesW]; omega)) only [go_sem, c55, c55S0, c55S1, c55S2, c55S3, c55S4, c55L0, c55S5, c55S6, c55S7, c55L1, c55S8, c55S9, c55S10, c55S11, c55S12, c55S13, c55S14, c55L1, hjk', r3]
      refine W_loopU (fun j : Nat => [(60, .int .i64 j)]) (fun j w' => Below w3.heap.size w3 w' ∧ j ≤ l.length) (fun j => l.length - j) 0 rfl ⟨Below.refl _ _, Nat.zero_le _⟩ ?_
      clear hjk hjk'
      rintro j w4 ⟨b4, hj⟩
      have s4 := s3.call b4
      have r4 := s4.rules 1 rfl
      by_cases hjk : j < l.length
      · have hjk' : (j : Int) < l.length := by omega
        obtain ⟨lp, rfl⟩ := h.ptr (by omega)
        have el := (h.below s4.bel (by decide)).at OpT.len hjk
        have ao := l[j].at
        have s5 := s4.box l[j].enc.toArray 58
        have r5 := s5.rules 0 rfl
        have b45 : Below w4.heap.size w4 (w4.alloc (.cells l[j].enc.toArray 58)) := (Below.refl _ _).alloc (Nat.le_refl _) _
        simp (disch := first | omega | exact okFill_t rfl | exact okSize_t rfl | exact fun h => h | (simp only [World.size_alloc, World.size_drew, World.size_setCell, size_fill, bytesW]; omega)) only [go_sem, c55, c55S0, c55S1, c55S2, c55S3, c55S4, c55L0, c55S5, c55S6, c55S7, c55L1, c55S8, c55S9, c55S10, c55L2, c55S11, c55S12, c55S13, c55S14, c55L2, hjk', el, OpT.len, ao]
        refine ⟨by omega, fun hd => Ret.mono (icontains_ok _ (hi.below s5.bel (by decide)) (by rw [List.length_map]; omega)) ?_, fun hd => ⟨⟨by omega, by omega⟩, j + 1, rfl, ⟨Below.next b4 b45, by omega⟩, by omega⟩⟩
        rintro _ w6 ⟨rfl, e6⟩
        subst w6
        have hin : l[j].ID ∈ L.map OpT.ID := List.mem_map.2 ⟨_, ho.all _ (List.getElem_mem hjk) hd, rfl⟩
        simp (disch := first | omega | exact okFill_t rfl | exact okSize_t rfl | exact fun h => h | (simp only [World.size_alloc, World.size_drew, World.size_setCell, size_fill, bytesW]; omega)) only [go_sem, c55, c55S0, c55S1, c55S2, c55S3, c55S4, c55L0, c55S5, c55S6, c55S7, c55L1, c55S8, c55S9, c55S10, c55L2, c55S11, c55S12, c55S13, c55S14, hin]
        exact ⟨⟨by omega, by omega⟩, j + 1, rfl, ⟨Below.next b4 b45, by omega⟩, by omega⟩
      · have hjk' : ¬ (j : Int) < l.length := by omega
        simp (disch := first | omega | exact okFill_t rfl | exact okSize_t rfl | exact fun h => h | (simp only [World.size_alloc, World.size_drew, World.size_setCell, size_fill, bytesW]; omega)) only [go_sem, c55, c55S0, c55S1, c55S2, c55S3, c55S4, c55L0, c55S5, c55S6, c55S7, c55L1, c55S8, c55S9, c55S10, c55L2, c55S11, c55S12, c55S13, c55S14, c55L2, hjk', r4]
        refine Ret.mono (mfirst_ok kd w4) ?_
        rintro fv w5 ⟨⟨hf5, _⟩, b5⟩
        obtain ⟨fa, fc, rfl, _⟩ := hf5.form
        have s5 := s4.call b5
        have hL5 : RdS w5 11 OpT.enc (.slice ra L.length rc) L := RdS.of_own' (s5.row 0 rfl) L rfl rfl
        simp (disch := first | omega | exact okFill_t rfl | exact okSize_t rfl | exact fun h => h | (simp only [World.size_alloc, World.size_drew, World.size_setCell, size_fill, bytesW]; omega)) only [go_sem, c55, c55S0, c55S1, c55S2, c55S3, c55S4, c55L0, c55S5, c55S6, c55S7, c55L1, c55S8, c55S9, c55S10, c55L2, c55S11, c55S12, c55S13, c55S14]
        refine Ret.mono (mruns_ok hL5 hf5 (by omega) (fun o h => hK o (ho.sub o h)) (fun o h => hw o (ho.sub o h)) (firstOk kd) (by omega)) ?_
        rintro _ w6 ⟨⟨t, ok, rfl, hm⟩, b6⟩
        have e : ok = (runP (firstP kd) L).isSome := by
          cases hr : runP (firstP kd) L with
          | none => rw [hr] at hm; exact hm
          | some t' => rw [hr] at hm; exact hm.1
        subst e
        simp (disch := first | omega | exact okFill_t rfl | exact okSize_t rfl | exact fun h => h | (simp only [World.size_alloc, World.size_drew, World.size_setCell, size_fill, bytesW]; omega)) only [go_sem, c55, c55S0, c55S1, c55S2, c55S3, c55S4, c55L0, c55S5, c55S6, c55S7, c55L1, c55S8, c55S9, c55S10, c55L2, c55S11, c55S12, c55S13, c55S14]
        rw [← hb]
        exact (s5.call b6).bel
end Go.Proofs.Ytbeoedgoikcbpaa

namespace Go.Proofs.Ytbeoedgoikcbpaa
set_option linter.unusedSimpArgs false
set_option linter.unusedVariables false
set_option maxRecDepth 100000
open Go Go.Ann Go.RowKit
def ow1 : OpT := ⟨5, 0, 0, 1, 2, 1, 0, true, 0, 0, 9⟩
def ow2 : OpT := ⟨9, 0, 0, 1, 1, 0, 0, true, 0, 1, 8⟩
theorem sorts_two {cf : OpT → OpT → Int} {a b : OpT} {l : List OpT} (h : Cut.Sorts cf [a, b] l) (hab : cf a b < 0) : l = [a, b] := by
  have hl := h.1.length_eq
  match l, hl with
  | [x, y], _ =>
    have hx : x = a ∨ x = b := by simpa using h.1.mem_iff.1 (List.mem_cons_self (a := x) (l := [y]))
    have hy : y = a ∨ y = b := by simpa using h.1.mem_iff.1 (List.mem_cons_of_mem x (List.mem_singleton.2 rfl))
    have ha : a ∈ [x, y] := h.1.mem_iff.2 (by simp)
    have hb : b ∈ [x, y] := h.1.mem_iff.2 (by simp)
    have hp := (List.pairwise_cons.1 h.2).1 y (by simp)
    rcases hx with rfl | rfl <;> rcases hy with rfl | rfl
    · simp at hb; rw [hb]
    · rfl
    · exact absurd hab hp
    · simp at ha; rw [ha]
theorem ow_ok : Ordered [ow1, ow2] [ow2, ow1] := by
  refine ⟨by simp, by decide, fun i j hi hj hij => ?_, by simp⟩
  simp only [List.length_cons, List.length_nil] at hi hj
  obtain ⟨rfl, rfl⟩ : i = 0 ∧ j = 1 := by omega
  rfl
theorem ow_ok2 : Ordered [ow1, ow2] [ow1, ow2] := by
  refine ⟨by simp, by decide, fun i j hi hj hij => ?_, by simp⟩
  simp only [List.length_cons, List.length_nil] at hi hj
  obtain ⟨rfl, rfl⟩ : i = 0 ∧ j = 1 := by omega
  rfl
theorem ow_K : ∀ o ∈ [ow1, ow2], o.Kind = 1 := by intro o ho; simp only [List.mem_cons, List.not_mem_nil, or_false] at ho; rcases ho with rfl | rfl <;> rfl
theorem ow_w : ∀ o ∈ [ow1, ow2], o.wf := by
  intro o ho
  simp only [List.mem_cons, List.not_mem_nil, or_false] at ho
  rcases ho with rfl | rfl <;> exact ⟨rfl, rfl, rfl, rfl, rfl, rfl, rfl, rfl, rfl, rfl⟩
theorem ow_least {w' : World} {l' : List OpT} {u : Value} (h : Cut.Sorts Cut.earI [ow1, ow2] l') (hv : LeastV w' 1 99 (segsOf 0 1 l') u) : ∃ iv, u = .tuple #[iv, .bool true, .int .i64 0] ∧ RdS w' 1 intE iv [9, 5] := by
  obtain rfl := sorts_two h (by decide)
  have hs : segsOf 0 1 [ow1, ow2] = [⟨0, 1, [ow1, ow2]⟩] := by kernel_rfl
  rw [hs] at hv
  rcases hv with ⟨⟨s, hs', hl⟩, _⟩ | ⟨_, ls, hl, hso, r, hr, hv⟩
  · rw [List.mem_singleton] at hs'; subst hs'; simp at hl
  · match ls, hl with
    | [a], _ =>
      have ha := hso 0 (by simp) (by simp)
      simp only [List.getElem_cons_zero] at ha
      obtain rfl := sorts_two ha (by decide)
      have e1 : (findP [[ow1, ow2]] (work [[ow1, ow2]] 0 (nextD [[ow1, ow2]] 0)) 0 (nextD [[ow1, ow2]] 0) (firstP 1) (fs0 99)).1 = true := by kernel_rfl
      have e2 : (findP [[ow1, ow2]] (work [[ow1, ow2]] 0 (nextD [[ow1, ow2]] 0)) 0 (nextD [[ow1, ow2]] 0) (firstP 1) (fs0 99)).2.ids = [9, 5] := by kernel_rfl
      have e3 : lw (findP [[ow1, ow2]] (work [[ow1, ow2]] 0 (nextD [[ow1, ow2]] 0)) 0 (nextD [[ow1, ow2]] 0) (firstP 1) (fs0 99)).2.left = 96 := by kernel_rfl
      rw [hr] at e1 e2 e3
      rcases hv with ⟨h1, _⟩ | ⟨_, h2, _⟩ | ⟨_, _, iv, h3, h4⟩
      · omega
      · rw [e1] at h2; cases h2
      · exact ⟨iv, h3, by rw [e2] at h4; exact h4⟩
theorem oawake_ok (w : World) : Ret Try.prog 26 [] w fun u w' => u = .bool true ∧ Below w.heap.size w w' := by
  refine ent26 _ _ ?_
  simp (disch := first | omega | exact okFill_t rfl | exact okSize_t rfl | exact fun h => h | (simp only [World.size_alloc, World.size_drew, World.size_setCell, size_fill, bytesW]; omega)) only [go_sem, c26, c26S0, c26S1]
  refine bdW_built (cells := ow1.enc.toArray) (by kernel_rfl) ?_
  simp (disch := first | omega | exact okFill_t rfl | exact okSize_t rfl | exact fun h => h | (simp only [World.size_alloc, World.size_drew, World.size_setCell, size_fill, bytesW]; omega)) only [go_sem, c26, c26S0, c26S1]
  refine bdW_built (cells := ow2.enc.toArray) (by kernel_rfl) ?_
  simp (disch := first | omega | exact okFill_t rfl | exact okSize_t rfl | exact fun h => h | (simp only [World.size_alloc, World.size_drew, World.size_setCell, size_fill, bytesW]; omega)) only [go_sem, c26, c26S0, c26S1]
  refine bsW_cells (cells := ([ow1, ow2].flatMap OpT.enc).toArray) ty22mkI (by decide) (by decide) (by kernel_rfl) ?_
  have hrd : RdS (w.alloc (.cells ([ow1, ow2].flatMap OpT.enc).toArray 58)) 11 OpT.enc (.slice (some ⟨w.heap.size, 0, none⟩) 2 2) [ow1, ow2] := rd_new (t := 58) (sz := 11) (n := 2) (cs := ([ow1, ow2].flatMap OpT.enc).toArray) rfl
  have s1 := (St.start (W0 := w)).alloc' (.cells ([ow1, ow2].flatMap OpT.enc).toArray 58)
  generalize w.alloc (.cells ([ow1, ow2].flatMap OpT.enc).toArray 58) = w1 at hrd s1 ⊢
  simp (disch := first | omega | exact okFill_t rfl | exact okSize_t rfl | exact fun h => h | (simp only [World.size_alloc, World.size_drew, World.size_setCell, size_fill, bytesW]; omega)) only [go_sem, c26, c26S0, c26S1]
  refine bdW_built (cells := #[.int .i64 0, .int .i64 1, .slice (some ⟨w.heap.size, 0, none⟩) 2 2]) (by kernel_rfl) ?_
  simp (disch := first | omega | exact okFill_t rfl | exact okSize_t rfl | exact fun h => h | (simp only [World.size_alloc, World.size_drew, World.size_setCell, size_fill, bytesW]; omega)) only [go_sem, c26, c26S0, c26S1]
  have s2 := s1.box #[.int .i64 0, .int .i64 1, .slice (some ⟨w.heap.size, 0, none⟩) 2 2] 24
  have hrd2 := hrd.below ((Below.refl _ w1).alloc (Nat.le_refl _) (.cells #[.int .i64 0, .int .i64 1, .slice (some ⟨w.heap.size, 0, none⟩) 2 2] 24)) (by decide)
  generalize w1.alloc (.cells #[.int .i64 0, .int .i64 1, .slice (some ⟨w.heap.size, 0, none⟩) 2 2] 24) = w2 at hrd2 s2 ⊢
  generalize w1.heap.size = b at s2 ⊢
  refine Ret.mono (least_ok (kind := 1) (budget := 99) hrd2 (by simp) ow_K ow_w (by constructor <;> decide)) ?_
  rintro u w3 ⟨⟨l', hs, hv⟩, b3⟩
  obtain ⟨iv, rfl, hiv⟩ := ow_least hs hv
  have s3 := s2.call b3
  have hrd3 := hrd2.below b3 (by decide)
  obtain ⟨ia, ic, rfl, _⟩ := hiv.form
  have r3 := s3.rules 0 rfl
  simp (disch := first | omega | exact okFill_t rfl | exact okSize_t rfl | exact fun h => h | (simp only [World.size_alloc, World.size_drew, World.size_setCell, size_fill, bytesW]; omega)) only [go_sem, c26, c26S0, c26S1]
  refine bsW_ones ty36mkI rfl rfl (by decide) (by decide) (by intro v hv; simp only [List.mem_cons, List.not_mem_nil, or_false] at hv; rcases hv with rfl | rfl <;> rfl) ?_
  have s4 := s3.alloc' (.cells #[.int .i64 9, .int .i64 5] 3)
  have h95 : RdS (w3.alloc (.cells #[.int .i64 9, .int .i64 5] 3)) 1 intE (.slice (some ⟨w3.heap.size, 0, none⟩) 2 2) [9, 5] := rd_new (t := 3) (sz := 1) (n := 2) (cs := #[.int .i64 9, .int .i64 5]) rfl
  have b34 : Below w3.heap.size w3 (w3.alloc (.cells #[.int .i64 9, .int .i64 5] 3)) := (Below.refl _ _).alloc (Nat.le_refl _) _
  simp (disch := first | omega | exact okFill_t rfl | exact okSize_t rfl | exact fun h => h | (simp only [World.size_alloc, World.size_drew, World.size_setCell, size_fill, bytesW]; omega)) only [go_sem, c26, c26S0, c26S1]
  have hiv4 := hiv.below b34 (by decide)
  have r4 := s4.rules 0 rfl
  have hrd4 := hrd3.below b34 (by decide)
  generalize hp : w3.heap.size = p4 at h95 b34 ⊢
  generalize w3.alloc (.cells #[.int .i64 9, .int .i64 5] 3) = w4 at s4 h95 hiv4 r4 hrd4 b34 ⊢
  refine Ret.mono (ints_ok _ _ [9, 5] [9, 5] w4 hiv4 h95 (by decide)) ?_
  rintro _ w5 ⟨rfl, b5⟩
  have s5 := s4.call b5
  have r5 := s5.rules 0 rfl
  have hrd5 := hrd4.below b5 (by decide)
  simp (disch := first | omega | exact okFill_t rfl | exact okSize_t rfl | exact fun h => h | (simp only [World.size_alloc, World.size_drew, World.size_setCell, size_fill, bytesW]; omega)) only [go_sem, c26, c26S0, c26S1, r5]
  refine Ret.mono (ovalid_ok (L := [ow2, ow1]) hrd5 (hiv4.below b5 (by decide)) (by simp) (by simp) (by decide) ow_K ow_w ow_ok) ?_
  rintro _ w6 ⟨rfl, b6⟩
  have e6 : (runP (firstP 1) [ow2, ow1]).isSome = true := by kernel_rfl
  rw [e6]
  have s6 := s5.call b6
  have r6 := s6.rules 0 rfl
  simp (disch := first | omega | exact okFill_t rfl | exact okSize_t rfl | exact fun h => h | (simp only [World.size_alloc, World.size_drew, World.size_setCell, size_fill, bytesW]; omega)) only [go_sem, c26, c26S0, c26S1, r6]
  refine bsW_ones ty36mkI rfl rfl (by decide) (by decide) (by intro v hv; simp only [List.mem_cons, List.not_mem_nil, or_false] at hv; rcases hv with rfl | rfl <;> rfl) ?_
  have s7 := s6.alloc' (.cells #[.int .i64 5, .int .i64 9] 3)
  have h59 : RdS (w6.alloc (.cells #[.int .i64 5, .int .i64 9] 3)) 1 intE (.slice (some ⟨w6.heap.size, 0, none⟩) 2 2) ([ow1, ow2].map OpT.ID) := rd_new (t := 3) (sz := 1) (n := 2) (cs := #[.int .i64 5, .int .i64 9]) rfl
  have b67 : Below w6.heap.size w6 (w6.alloc (.cells #[.int .i64 5, .int .i64 9] 3)) := (Below.refl _ _).alloc (Nat.le_refl _) _
  simp (disch := first | omega | exact okFill_t rfl | exact okSize_t rfl | exact fun h => h | (simp only [World.size_alloc, World.size_drew, World.size_setCell, size_fill, bytesW]; omega)) only [go_sem, c26, c26S0, c26S1]
  refine Ret.mono (ovalid_ok (L := [ow1, ow2]) ((hrd5.below b6 (by decide)).below b67 (by decide)) h59 (by simp) (by simp) (by decide) ow_K ow_w ow_ok2) ?_
  rintro _ w8 ⟨rfl, b8⟩
  have e8 : (runP (firstP 1) [ow1, ow2]).isSome = false := by kernel_rfl
  rw [e8]
  simp (disch := first | omega | exact okFill_t rfl | exact okSize_t rfl | exact fun h => h | (simp only [World.size_alloc, World.size_drew, World.size_setCell, size_fill, bytesW]; omega)) only [go_sem, c26, c26S0, c26S1]
  exact (s7.call b8).bel
end Go.Proofs.Ytbeoedgoikcbpaa

namespace Go.Proofs.Ytbeoedgoikcbpaa
set_option linter.unusedSimpArgs false
set_option linter.unusedVariables false
set_option maxRecDepth 100000
open Go Go.Ann Go.RowKit
def CE (a : List (List OpT)) (s0 : List Int) (E : List (List Int)) : Prop := ∀ t, t ∈ E ↔ ChEx a s0 t
theorem CE.start (s0 : List Int) : CE [] s0 [s0] := fun t => by rw [List.mem_singleton]; rfl
end Go.Proofs.Ytbeoedgoikcbpaa

namespace Go.Proofs.Ytbeoedgoikcbpaa
set_option linter.unusedSimpArgs false
set_option linter.unusedVariables false
set_option maxRecDepth 100000
open Go Go.Ann Go.RowKit
def rest (ls : List (List OpT)) (g : Nat) (d : List Bool) : Nat := undone d + ((ls.drop (g + 1)).map List.length).sum
def Perms (b a : List (List OpT)) : Prop := b.length = a.length ∧ ∀ i (h : i < b.length) (h' : i < a.length), b[i].Perm a[i]
theorem Perms.flat : ∀ {b a : List (List OpT)}, Perms b a → b.flatten.Perm a.flatten
  | [], [], _ => .refl _
  | [], _ :: _, h => by have := h.1; simp at this
  | _ :: _, [], h => by have := h.1; simp at this
  | x :: b, y :: a, h => by
    rw [List.flatten_cons, List.flatten_cons]
    refine List.Perm.append (h.2 0 (by simp) (by simp)) (Perms.flat ⟨by have := h.1; simpa using this, fun i hi hi' => ?_⟩)
    have := h.2 (i + 1) (by simpa using hi) (by simpa using hi')
    simpa using this
structure SegF (l : List OpT) (a : List (List OpT)) : Prop where
  flat : a.flatten.Perm l
  ne : ∀ x ∈ a, x ≠ []
  apart : ∀ (i j : Nat) (hi : i < a.length) (hj : j < a.length), i < j → ∀ x ∈ a[i], ∀ y ∈ a[j], before x y = true
theorem SegF.perm {l : List OpT} {a b : List (List OpT)} (h : SegF l a) (k : Perms b a) : SegF l b := by
  refine ⟨k.flat.trans h.flat, fun x hx e => ?_, fun i j hi hj hij x hx y hy => ?_⟩
  · obtain ⟨i, hi, rfl⟩ := List.mem_iff_getElem.1 hx
    have := k.2 i hi (by rw [← k.1]; exact hi)
    rw [e] at this
    exact h.ne _ (List.getElem_mem (by rw [← k.1]; exact hi)) (List.nil_perm.1 this)
  · exact h.apart i j (by rw [← k.1]; exact hi) (by rw [← k.1]; exact hj) hij x ((k.2 i hi _).mem_iff.1 hx) y ((k.2 j hj _).mem_iff.1 hy)
end Go.Proofs.Ytbeoedgoikcbpaa

namespace Go.Proofs.Ytbeoedgoikcbpaa
set_option linter.unusedSimpArgs false
set_option linter.unusedVariables false
set_option maxRecDepth 100000
open Go Go.Ann Go.RowKit Go.WideShapes
def opN (o : OpT) (j : Int) : OpT := { o with ID := j, Done := true, Invoke := 1, Return := 9 }
def mkN (o : OpT) (k : Nat) : List OpT := (List.range k).map fun i : Nat => opN o ((i : Int) + 1)
theorem mkN_succ (o : OpT) (k : Nat) : mkN o (k + 1) = mkN o k ++ [opN o ((k : Int) + 1)] := by
  unfold mkN; rw [List.range_succ, List.map_append]; rfl
theorem mkN_len (o : OpT) (k : Nat) : (mkN o k).length = k := by unfold mkN; simp
theorem mkN_mem {o x : OpT} {k : Nat} (h : x ∈ mkN o k) : ∃ i, i < k ∧ x = opN o ((i : Int) + 1) := by
  unfold mkN at h
  obtain ⟨i, hi, rfl⟩ := List.mem_map.1 h
  exact ⟨i, List.mem_range.1 hi, rfl⟩
theorem mkN_cut {o : OpT} {k : Nat} {l' : List OpT} (h : l'.Perm (mkN o k)) : Cut.NoCut l' := fun p x q e hp => by
  cases p with
  | nil => exact absurd rfl hp
  | cons a p =>
    obtain ⟨i, _, ha⟩ := mkN_mem (h.mem_iff.1 (show a ∈ l' by rw [e]; simp))
    obtain ⟨j, _, hx⟩ := mkN_mem (h.mem_iff.1 (show x ∈ l' by rw [e]; simp))
    have hb : before a x = false := by rw [ha, hx]; rfl
    rw [List.all_cons, hb]; rfl
theorem kOk_of {n : Int} (h : I64 n) : kOk .i64 n := by
  unfold kOk Lit.wf
  unfold I64 at h
  simp [IntKind.min, IntKind.max, IntKind.signed, IntKind.bits]
  omega
theorem st_recast {W0 w : World} {F : Nat → Prop} {L L' : List Res} {I : List Inv} (h : St W0 w F L I) (e : L = L') : St W0 w F L' I := e ▸ h
theorem orderMany_ok {w : World} {o : OpT} {n : Int} (ho : o.wf) (hn : 0 ≤ n ∧ n ≤ 255) :
    Ret Try.prog 11 [.agg o.enc.toArray, .int .u8 n] w fun u w' => u = .bool true ∧ Below w.heap.size w w' := by
  refine ent11 _ _ _ _ ?_
  have s1 := (St.start (W0 := w)).box o.enc.toArray 58
  have r1 := s1.rules 0 rfl
  have l1 := s1.low 0 rfl
  simp (disch := first | omega | exact okFill_t rfl | exact okSize_t rfl | exact fun h => h | (simp only [World.size_alloc, World.size_drew, World.size_setCell, size_fill, bytesW]; omega)) only [go_sem, c11, c11S0, c11S1, c11L0, c11S2, c11S3, c11S4, c11S5, c11S6, OpT.at]
  refine bdW_built (cells := #[.int .i64 0, .int .i64 o.Kind, .slice none 0 0]) (by kernel_rfl) ?_
  have s2 := ((((s1.box #[.int .i64 0, .int .i64 0, .slice none 0 0] 24).fill 0 rfl (cs := #[.int .i64 0, .int .i64 o.Kind, .slice none 0 0]) rfl).set 1 rfl 9 (.int .i64 1)).set 1 rfl 7 (.bool true)).set 1 rfl 10 (.int .i64 9)
  have s3 := s2.nilRow 58 11
  rw [World.size_alloc] at s3
  have s3 := st_recast s3 (L' := [.row (.slice none 0 0) 58 11 0 ((mkN o 0).flatMap OpT.enc), .blk (w.heap.size + 1) #[.int .i64 0, .int .i64 o.Kind, .slice none 0 0] 24, .blk w.heap.size (opN o o.ID).enc.toArray 58]) rfl
  clear s2
  obtain ⟨n, rfl⟩ := Int.eq_ofNat_of_zero_le hn.1
  obtain ⟨m, hm⟩ : ∃ m, m = n % 40 := ⟨_, rfl⟩
  have hm40 : m < 40 := by omega
  simp (disch := first | omega | exact okFill_t rfl | exact okSize_t rfl | exact fun h => h | (simp only [World.size_alloc, World.size_drew, World.size_setCell, size_fill, bytesW]; omega)) only [go_sem, c11, c11S0, c11S1, c11L0, c11S2, c11S3, c11S4, c11S5, c11S6]
  refine ⟨⟨_, rfl⟩, ⟨_, rfl⟩, ⟨_, rfl⟩, ?_⟩
  refine W_loopU (fun x : Nat × Value × Int => [(6, .int .i64 x.1)]) (fun x w' => St w w' (fun _ => False) [.row x.2.1 58 11 x.1 ((mkN o x.1).flatMap OpT.enc), .blk (w.heap.size + 1) #[.int .i64 0, .int .i64 o.Kind, x.2.1] 24, .blk w.heap.size (opN o x.2.2).enc.toArray 58] [] ∧ x.1 ≤ m) (fun x => m - x.1) (0, .slice none 0 0, o.ID) rfl ⟨s3, Nat.zero_le _⟩ ?_
  clear s3
  rintro ⟨k, rv, id⟩ w4 ⟨s4, hk⟩
  simp only at s4 hk
  obtain ⟨ra, rc, rfl, _⟩ := own_slice (s4.row 0 rfl)
  have r4 := s4.rules 1 rfl
  have q4 := s4.rules 2 rfl
  have em : ((n : Int).tmod 40) = (m : Int) := by rw [hm]; rfl
  by_cases hlt : k < m
  · have hlt' : (k : Int) < m := by omega
    simp (disch := first | omega | exact okFill_t rfl | exact okSize_t rfl | exact fun h => h | (simp only [World.size_alloc, World.size_drew, World.size_setCell, size_fill, bytesW]; omega)) only [go_sem, c11, c11S0, c11S1, c11L0, c11S2, c11S3, c11S4, c11S5, c11S6, c11L0, em, hlt', r4, q4, OpT.at]
    refine ⟨by constructor <;> omega, by constructor <;> omega, ?_⟩
    have s5 := s4.set 2 rfl 0 (.int .i64 ((k : Int) + 1))
    have s5 := st_recast s5 (L' := [.row (.slice ra k rc) 58 11 k ((mkN o k).flatMap OpT.enc), .blk (w.heap.size + 1) #[.int .i64 0, .int .i64 o.Kind, .slice ra k rc] 24, .blk w.heap.size (opN o ((k : Int) + 1)).enc.toArray 58]) rfl
    generalize w4.setCell ⟨w.heap.size, 0, none⟩ (.int .i64 ((k : Int) + 1)) = w5 at s5 ⊢
    refine bsW_agg (cs := (opN o ((k : Int) + 1)).enc.toArray) ty22mkI rfl (by decide) (by decide) ?_
    have hx : Rd (w5.alloc (.cells (opN o ((k : Int) + 1)).enc.toArray 58)) 11 (.slice (some ⟨w5.heap.size, 0, none⟩) 1 1) 1 (opN o ((k : Int) + 1)).enc := rd_new (n := 1) (cs := (opN o ((k : Int) + 1)).enc.toArray) rfl
    simp (disch := first | omega | exact okFill_t rfl | exact okSize_t rfl | exact fun h => h | (simp only [World.size_alloc, World.size_drew, World.size_setCell, size_fill, bytesW]; omega)) only [go_sem, c11, c11S0, c11S1, c11L0, c11S2, c11S3, c11S4, c11S5, c11S6]
    refine (s5.alloc' (.cells (opN o ((k : Int) + 1)).enc.toArray 58)).append 0 rfl ty22mkI rfl (by decide) hx (opN o ((k : Int) + 1)).one (by omega) (by omega) ?_
    intro v6 w6 s6 c6
    simp only [List.set_cons_zero, List.set_cons_succ] at s6
    obtain ⟨a6, d6, rfl, _⟩ := own_slice (s6.row 0 rfl)
    have r6 := s6.rules 1 rfl
    simp (disch := first | omega | exact okFill_t rfl | exact okSize_t rfl | exact fun h => h | (simp only [World.size_alloc, World.size_drew, World.size_setCell, size_fill, bytesW]; omega)) only [go_sem, c11, c11S0, c11S1, c11L0, c11S2, c11S3, c11S4, c11S5, c11S6, r6]
    have s7 := s6.set 1 rfl 2 (.slice a6 (k + 1) d6)
    refine ⟨by constructor <;> omega, (k + 1, .slice a6 (k + 1) d6, (k : Int) + 1), rfl, ⟨st_recast s7 ?_, by simp only; omega⟩, by simp only; omega⟩
    simp only [mkN_succ, List.flatMap_append, List.flatMap_cons, List.flatMap_nil, List.append_nil]
    rfl
  · have hlt' : ¬ (k : Int) < m := by omega
    have hkm : k = m := by omega
    simp (disch := first | omega | exact okFill_t rfl | exact okSize_t rfl | exact fun h => h | (simp only [World.size_alloc, World.size_drew, World.size_setCell, size_fill, bytesW]; omega)) only [go_sem, c11, c11S0, c11S1, c11L0, c11S2, c11S3, c11S4, c11S5, c11S6, c11L0, em, hlt', r4, q4]
    refine ⟨by constructor <;> omega, fun h16 => ?_, fun h16 => ?_⟩
    · refine Ret.mono (oawake_ok _) ?_
      rintro _ w5 ⟨rfl, b5⟩
      simp (disch := first | omega | exact okFill_t rfl | exact okSize_t rfl | exact fun h => h | (simp only [World.size_alloc, World.size_drew, World.size_setCell, size_fill, bytesW]; omega)) only [go_sem, c11, c11S0, c11S1, c11L0, c11S2, c11S3, c11S4, c11S5, c11S6]
      exact (s4.call b5).bel
    · have hr : RdS w4 11 OpT.enc (.slice ra k rc) (mkN o k) := RdS.of_own' (s4.row 0 rfl) _ (mkN_len o k).symm rfl
      refine Ret.mono (least_ok hr (by rw [mkN_len]; omega) (fun x hx => ?_) (fun x hx => ?_) (by constructor <;> decide)) ?_
      · obtain ⟨i, _, rfl⟩ := mkN_mem hx; rfl
      · obtain ⟨i, hi, rfl⟩ := mkN_mem hx
        obtain ⟨_, a2, a3, a4, a5, a6, a7, a8, _, _⟩ := ho
        exact ⟨kOk_of (show I64 ((i : Int) + 1) by constructor <;> omega), a2, a3, a4, a5, a6, a7, a8, kOk_of (show I64 1 by constructor <;> decide), kOk_of (show I64 9 by constructor <;> decide)⟩
      rintro u w5 ⟨⟨l', hs, hL⟩, b5⟩
      have hp := hs.1
      have hl' : l'.length = k := by rw [hp.length_eq, mkN_len]
      have es : segsOf 0 o.Kind l' = [⟨0, o.Kind, l'⟩] := Cut.noCut_one (mkN_cut hp) (fun e => by rw [e] at hl'; simp at hl'; omega) (0, o.Kind)
      rw [es] at hL
      rcases hL with ⟨_, rfl⟩ | ⟨h, _⟩
      · simp (disch := first | omega | exact okFill_t rfl | exact okSize_t rfl | exact fun h => h | (simp only [World.size_alloc, World.size_drew, World.size_setCell, size_fill, bytesW]; omega)) only [go_sem, c11, c11S0, c11S1, c11L0, c11S2, c11S3, c11S4, c11S5, c11S6]
        refine Ret.mono (oawake_ok _) ?_
        rintro _ w6 ⟨rfl, b6⟩
        simp (disch := first | omega | exact okFill_t rfl | exact okSize_t rfl | exact fun h => h | (simp only [World.size_alloc, World.size_drew, World.size_setCell, size_fill, bytesW]; omega)) only [go_sem, c11, c11S0, c11S1, c11L0, c11S2, c11S3, c11S4, c11S5, c11S6]
        exact ((s4.call b5).call b6).bel
      · have := h _ (List.mem_singleton.2 rfl)
        simp only at this
        omega
end Go.Proofs.Ytbeoedgoikcbpaa

namespace Go.Proofs.Ytbeoedgoikcbpaa
set_option linter.unusedSimpArgs false
set_option linter.unusedVariables false
set_option maxRecDepth 100000
open Go Go.Ann Go.RowKit Go.WideShapes
theorem orderMany_law {H : Type} {enc : TypeId × Value → H} {w : World} {r : Reach} {b base : Nat} {sp : Nat → Bool} {hd : Bool} {v : Value} {d : DataW H} {p : List MemPlace} {n : Int}
    (h : Value.okWide Try.prog w r b 58 v) (k : DataW.Trod enc Try.prog w base sp hd 58 v d p) (hn : (Lit.int .u8 n).wf = true) :
    Ret Try.prog 11 [v, .int .u8 n] w fun u w' => u = .bool true ∧ Below w.heap.size w w' := by
  obtain ⟨a, cs, rfl, rfl, q1⟩ := Opens.struct_arg opens_OpT Try.underlying58 h k
  refine orderMany_ok q1 ?_
  unfold Lit.wf at hn
  simp [IntKind.min, IntKind.max, IntKind.signed, IntKind.bits] at hn
  omega
end Go.Proofs.Ytbeoedgoikcbpaa
