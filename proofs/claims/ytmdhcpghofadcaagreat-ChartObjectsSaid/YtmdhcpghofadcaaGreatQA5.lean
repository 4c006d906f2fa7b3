/- Texts put together by program. -/
import Derived.Test.YtmdhcpghofadcaaGreatQA4
namespace Go.Proofs.YtmdhcpghofadcaaGreat
set_option linter.unusedSimpArgs false
set_option linter.unusedVariables false
set_option maxRecDepth 100000
open Go Go.Ann Go.RowKit Go.WideShapes Go.Shelf
theorem progs1_ok (a b : OpT) (w : World) : Ret Tryz.prog 72 [.agg a.enc.toArray, .agg b.enc.toArray] w fun u w' => u = .int .i64 (earI a b) ∧ Gr w w' := by
  refine ent72 _ _ _ _ ?_
  have ha := a.at; have hb := b.at
  simp (disch := first | omega | exact okFill_t rfl | exact okSize_t rfl | exact fun h => h | (simp only [World.size_alloc, World.size_drew, World.size_setCell, size_fill, bytesW]; omega)) only [go_sem, c72, c72S0, ha, hb]
  refine c72draw0 (Chg (fun _ => False) _) (Chg.refl _ _) ?_
  simp (disch := first | omega | exact okFill_t rfl | exact okSize_t rfl | exact fun h => h | (simp only [World.size_alloc, World.size_drew, World.size_setCell, size_fill, bytesW]; omega)) only [go_sem, c72, c72S0, c72D0, ha, hb]
  refine Ret.mono (compare_ok _ _ _) ?_
  rintro _ _ ⟨rfl, rfl⟩
  simp (disch := first | omega | exact okFill_t rfl | exact okSize_t rfl | exact fun h => h | (simp only [World.size_alloc, World.size_drew, World.size_setCell, size_fill, bytesW]; omega)) only [go_sem, c72, c72S0, c72D0, ha, hb]
  refine Ret.mono (compare_ok _ _ _) ?_
  rintro _ _ ⟨rfl, rfl⟩
  simp (disch := first | omega | exact okFill_t rfl | exact okSize_t rfl | exact fun h => h | (simp only [World.size_alloc, World.size_drew, World.size_setCell, size_fill, bytesW]; omega)) only [go_sem, c72, c72S0, c72D0, ha, hb]
  refine bsW_ones ty31mkI rfl rfl (by decide) (by decide) (by intro v hv; simp only [List.mem_cons, List.not_mem_nil, or_false] at hv; rcases hv with rfl | rfl <;> rfl) ?_
  simp (disch := first | omega | exact okFill_t rfl | exact okSize_t rfl | exact fun h => h | (simp only [World.size_alloc, World.size_drew, World.size_setCell, size_fill, bytesW]; omega)) only [go_sem, c72, c72S0, c72D0, ha, hb]
  refine ⟨chg_da, Ret.mono (or_ok _ [cmpI a.Invoke b.Invoke, cmpI a.ID b.ID] _ ((ints2_new _ _ (by simp)).below (Below.refl _ _).drew (by decide)) (by simp)) ?_⟩
  rintro _ _ ⟨rfl, rfl⟩
  simp (disch := first | omega | exact okFill_t rfl | exact okSize_t rfl | exact fun h => h | (simp only [World.size_alloc, World.size_drew, World.size_setCell, size_fill, bytesW]; omega)) only [go_sem, c72, c72S0, c72D0, ha, hb]
  exact ⟨chg_da, rfl, (((((Gr.refl w).alloc _).alloc _)).alloc _).drew⟩
def oneE (v : Value) : List Value := [v]
theorem flatMap_one (vs : List Value) : vs.flatMap oneE = vs := by
  induction vs with
  | nil => rfl
  | cons v vs ih => rw [List.flatMap_cons, ih]; rfl
structure Progs (w : World) (B : Nat) (u : Value) (acc : List Seg) (vs : List Value) : Prop where
  len : vs.length = acc.length
  top : RdS w 1 oneE u vs
  elt : ∀ (j : Nat) (s : Seg) (v : Value), acc[j]? = some s → vs[j]? = some v → RdS w 11 OpT.enc v s.ops ∧ s.ops.length ≤ 100
  newT : ∀ k, slFoot u k → B ≤ k
  newE : ∀ v ∈ vs, ∀ k, slFoot v k → B ≤ k
def frz (w1 : World) (B : Nat) : Inv where
  holds w' := ∀ k, B ≤ k → k < w1.heap.size → w'.heap[k]? = w1.heap[k]?
  foot k := B ≤ k ∧ k < w1.heap.size
  loc w w' h hs := fun k h1 h2 => (hs k ⟨h1, h2⟩).trans (h k h1 h2)
theorem Progs.frz {w1 w' : World} {B : Nat} {u : Value} {acc : List Seg} {vs : List Value} (h : Progs w1 B u acc vs) (hf : (frz w1 B).holds w') : Progs w' B u acc vs :=
  ⟨h.len, (Inv.rd 1 oneE u vs).loc w1 w' h.top fun k hk => hf k (h.newT k hk) (h.top.footLt (by decide) hk),
    fun j s v hs hv => ⟨(Inv.rd 11 OpT.enc v s.ops).loc w1 w' (h.elt j s v hs hv).1 fun k hk => hf k (h.newE v (List.mem_of_getElem? hv) k hk) ((h.elt j s v hs hv).1.footLt (by decide) hk), (h.elt j s v hs hv).2⟩, h.newT, h.newE⟩
theorem rowsO_keys {l : List OpT} {d : List (Int × Value × Nat)} {ks : List Int} (hn : (d.map Prod.fst).Nodup) (hp : ks.Perm (d.map Prod.fst)) : (ks.map fun p => rowO l p ((getM p d).getD (.slice none 0 0))).Perm (rowsO l d) := by
  refine (hp.map _).trans ?_
  rw [List.map_map]
  unfold rowsO
  refine List.Perm.of_eq (List.map_congr_left fun x hx => ?_)
  simp only [Function.comp]
  rw [getM_mem hn hx]; rfl
theorem progs7 {W0 w2 : World} {l : List OpT} {mb cl : Nat} {d : List (Int × Value × Nat)} (hM : ByM l d cl) (s2 : St W0 w2 (fun _ => False) (.obj mb (mapG intK idK d cl) :: rowsO l d) []) (hl : l.length ≤ 100) :
    W Tryz.prog (c29S7 ()) [(3, .map (some mb))] w2 (finQ Tryz.prog [.tmp 2] fun u w' => (∃ acc vs, ByProc l acc ∧ Progs w' W0.heap.size u acc vs) ∧ Below W0.heap.size W0 w') := by
  simp (disch := first | omega | exact okFill_t rfl | exact okSize_t rfl | exact fun h => h | (simp only [World.size_alloc, World.size_drew, World.size_setCell, size_fill, bytesW]; omega)) only [go_sem, c29, c29S0, c29S1, c29L0, c29S2, c29S3, c29S4, c29L1, c29S6, c29S7]
  refine Ret.mono (keys_ok w2) ?_
  rintro _ _ ⟨rfl, rfl⟩
  have s3 := s2.box #[.map (some mb)] 117
  generalize w2.heap.size = bx at s3 ⊢
  generalize w2.alloc (.cells #[.map (some mb)] 117) = w3 at s3 ⊢
  simp (disch := first | omega | exact okFill_t rfl | exact okSize_t rfl | exact fun h => h | (simp only [World.size_alloc, World.size_drew, World.size_setCell, size_fill, bytesW]; omega)) only [go_sem, c29, c29S0, c29S1, c29L0, c29S2, c29S3, c29S4, c29L1, c29S6, c29S7]
  have hdl := hM.few
  refine Ret.mono (sortedK_ok s3 hM.nd hM.bn hM.lt (by omega)) ?_
  rintro u w4 ⟨ks, hp, hord, s4⟩
  have hkl : ks.length = d.length := by rw [hp.length_eq, List.length_map]
  obtain ⟨au, cu, rfl, _⟩ := own_slice (s4.row 0 rfl)
  have hnd : ks.Nodup := hp.nodup_iff.2 hM.nd
  have hup : ks.Pairwise (· < ·) := by
    have := hord.and hnd
    exact this.imp fun h => by have := h.1; have := h.2; omega
  have hmem : ∀ p, p ∈ ks ↔ ∃ o ∈ l, o.Proc = p := fun p => by rw [hp.mem_iff]; exact hM.mem p
  have s5 := (s4.perm (L' := .blk bx #[.map (some mb)] 117 :: .row (.slice au ks.length cu) 3 1 ks.length (ks.flatMap intE) :: .obj mb (mapG intK idK d cl) :: (ks.map fun p => rowO l p ((getM p d).getD (.slice none 0 0)))) ((List.Perm.swap ..).trans ((((rowsO_keys hM.nd hp).cons _).cons _).cons _))).sub (List.sublist_cons_self ..)
  have s6 := s5.nilRow 22 1
  clear s2 s3 s4 s5
  simp (disch := first | omega | exact okFill_t rfl | exact okSize_t rfl | exact fun h => h | (simp only [World.size_alloc, World.size_drew, World.size_setCell, size_fill, bytesW]; omega)) only [go_sem, c29, c29S0, c29S1, c29L0, c29S2, c29S3, c29S4, c29L1, c29S5, c29S6, c29S7]
  refine W_loopU (fun x : Nat × Value => [(6, x.2), (31, .int .i64 x.1)]) (fun x w' => x.1 ≤ ks.length ∧ ∃ acc vs, vs.length = acc.length ∧ acc.map Seg.obj = ks.take x.1 ∧ (∀ s ∈ acc, Sorts earI (ofProc s.obj l) s.ops) ∧ (∀ s ∈ acc, ∃ o r, s.ops = o :: r ∧ s.kind = o.Kind) ∧ (∀ v ∈ vs, ∀ k, slFoot v k → W0.heap.size ≤ k) ∧ St W0 w' (fun _ => False) (.row x.2 22 1 acc.length vs :: .row (.slice au ks.length cu) 3 1 ks.length (ks.flatMap intE) :: .obj mb (mapG intK idK d cl) :: ((ks.drop x.1).map fun p => rowO l p ((getM p d).getD (.slice none 0 0)))) (segInvs acc vs)) (fun x => ks.length - x.1) (0, .slice none 0 0) rfl ⟨Nat.zero_le _, [], [], rfl, rfl, (fun s h => by cases h), (fun s h => by cases h), (fun v h => by cases h), s6⟩ ?_
  rintro ⟨i, vo⟩ w5 ⟨hi, acc, vs, hvs, hobj, hsorts, hkind, hnew, s7⟩
  simp only at hi hobj s7
  have hal : acc.length = i := by have := congrArg List.length hobj; rw [List.length_map, List.length_take] at this; omega
  by_cases hlt : i < ks.length
  · have hlt' : (i : Int) < ks.length := by omega
    have hR : RdS w5 1 intE (.slice au ks.length cu) ks := RdS.of_own (s7.row 1 rfl)
    obtain ⟨q, rfl⟩ := hR.ptr (by omega)
    have ek := hR.at1 (e1 := fun n => .int .i64 n) hlt
    obtain ⟨p, hpe⟩ : ∃ p, p = ks[i] := ⟨_, rfl⟩
    have hpm : p ∈ ks := by rw [hpe]; exact List.getElem_mem hlt
    obtain ⟨x, hx, hxe⟩ := List.mem_map.1 (hp.mem_iff.1 hpm)
    have hg : getM p d = some x.2.1 := by rw [← hxe]; exact getM_mem hM.nd hx
    obtain ⟨v, hv⟩ : ∃ v, v = x.2.1 := ⟨_, rfl⟩
    rw [← hv] at hg
    rw [← hpe] at ek
    have hdr : ks.drop i = p :: ks.drop (i + 1) := by rw [hpe]; exact List.drop_eq_getElem_cons hlt
    rw [hdr, List.map_cons, hg] at s7
    change St W0 w5 (fun _ => False) (_ :: _ :: _ :: rowO l p v :: _) _ at s7
    have hol := ofProc_len p l
    simp (disch := first | omega | exact okFill_t rfl | exact okSize_t rfl | exact fun h => h | (simp only [World.size_alloc, World.size_drew, World.size_setCell, size_fill, bytesW]; omega)) only [go_sem, c29, c29S0, c29S1, c29L0, c29S2, c29S3, c29S4, c29L1, c29S5, c29S6, c29S7, hlt', ek]
    refine ⟨by omega, luG_map (ek := intK) (ev := idK) keyT_i Tryz.underlying117 (s7.obj 2 rfl) p (by rfl) ?_⟩
    rw [hg]
    simp (disch := first | omega | exact okFill_t rfl | exact okSize_t rfl | exact fun h => h | (simp only [World.size_alloc, World.size_drew, World.size_setCell, size_fill, bytesW]; omega)) only [go_sem, c29, c29S0, c29S1, c29L0, c29S2, c29S3, c29S4, c29L1, c29S5, c29S6, c29S7, luG, idK]
    refine Ret.mono (sort_ok earI _ (enters_of Tryz.func72 (by kernel_rfl) rfl) swo_ear progs1_ok v (ofProc p l) w5 _ (s7.row 3 rfl) (by omega)) ?_
    rintro _ w6 ⟨l', hs, o6, c6⟩
    have s8 := s7.upd 3 rfl c6 (.row v 56 11 (ofProc p l).length (l'.flatMap OpT.enc)) o6 fun k hk => .inl hk
    have hll : l'.length = (ofProc p l).length := hs.1.length_eq
    simp only [List.set_cons_succ, List.set_cons_zero] at s8
    have s9 := s8.perm (L' := .row v 56 11 (ofProc p l).length (l'.flatMap OpT.enc) :: .row vo 22 1 acc.length vs :: .row (.slice (some q) ks.length cu) 3 1 ks.length (ks.flatMap intE) :: .obj mb (mapG intK idK d cl) :: ((ks.drop (i + 1)).map fun p => rowO l p ((getM p d).getD (.slice none 0 0)))) ((List.Perm.swap ..).trans (((List.Perm.swap ..).trans ((List.Perm.swap ..).cons _)).cons _))
    have s10 := s9.seal (.rd 11 OpT.enc v l') (RdS.of_own' (s9.row 0 rfl) l' hll.symm rfl) fun k hk => slFoot_own hk
    clear s7 s8 s9 c6
    simp (disch := first | omega | exact okFill_t rfl | exact okSize_t rfl | exact fun h => h | (simp only [World.size_alloc, World.size_drew, World.size_setCell, size_fill, bytesW]; omega)) only [go_sem, c29, c29S0, c29S1, c29L0, c29S2, c29S3, c29S4, c29L1, c29S5, c29S6, c29S7]
    refine luG_map (ek := intK) (ev := idK) keyT_i Tryz.underlying117 (s10.obj 2 rfl) p (by rfl) ?_
    rw [hg]
    simp (disch := first | omega | exact okFill_t rfl | exact okSize_t rfl | exact fun h => h | (simp only [World.size_alloc, World.size_drew, World.size_setCell, size_fill, bytesW]; omega)) only [go_sem, c29, c29S0, c29S1, c29L0, c29S2, c29S3, c29S4, c29L1, c29S5, c29S6, c29S7, luG, idK]
    refine bsW_ones ty36mkI rfl rfl (by decide) (by decide) (by intro u hu; rw [List.mem_singleton] at hu; subst hu; obtain ⟨a, b, rfl, _⟩ := own_slice o6; rfl) ?_
    have s11 := s10.alloc' (.cells #[v] 22)
    have hrd : Rd (w6.alloc (.cells #[v] 22)) 1 (.slice (some ⟨w6.heap.size, 0, none⟩) 1 1) 1 [v] := rd_new (t := 22) (sz := 1) (n := 1) (cs := #[v]) rfl
    simp (disch := first | omega | exact okFill_t rfl | exact okSize_t rfl | exact fun h => h | (simp only [World.size_alloc, World.size_drew, World.size_setCell, size_fill, bytesW]; omega)) only [go_sem, c29, c29S0, c29S1, c29L0, c29S2, c29S3, c29S4, c29L1, c29S5, c29S6, c29S7]
    generalize w6.alloc (.cells #[v] 22) = w7 at s11 hrd ⊢
    refine s11.append 0 rfl ty36mkI rfl (by decide) hrd (by intro u hu; rw [List.mem_singleton] at hu; subst hu; obtain ⟨a, b, rfl, _⟩ := own_slice o6; rfl) (by omega) (by omega) ?_
    intro v8 w8 s12 _
    simp only [List.set_cons_zero] at s12
    simp (disch := first | omega | exact okFill_t rfl | exact okSize_t rfl | exact fun h => h | (simp only [World.size_alloc, World.size_drew, World.size_setCell, size_fill, bytesW]; omega)) only [go_sem, c29, c29S0, c29S1, c29L0, c29S2, c29S3, c29S4, c29L1, c29S5, c29S6, c29S7]
    obtain ⟨o, ho, hop⟩ := (hmem p).1 hpm
    have hne : l' ≠ [] := fun e => by
      have hm : o ∈ ofProc p l := by unfold ofProc; rw [List.mem_filter]; exact ⟨ho, by simpa using hop⟩
      rw [e] at hll
      rw [List.eq_nil_of_length_eq_zero hll.symm] at hm
      cases hm
    obtain ⟨y, r, rfl⟩ := List.exists_cons_of_ne_nil hne
    refine ⟨⟨by omega, by omega⟩, (i + 1, v8), rfl, ⟨by simp only; omega, acc ++ [⟨p, y.Kind, y :: r⟩], vs ++ [v], by simp [hvs], ?_, fun s hm => ?_, fun s hm => ?_, fun x hm => ?_, ?_⟩, by simp only; omega⟩
    · rw [List.map_append, hobj, List.take_succ_eq_append_getElem hlt, hpe]; rfl
    · rcases List.mem_append.1 hm with hm | hm
      · exact hsorts s hm
      · rw [List.mem_singleton] at hm; subst hm; exact hs
    · rcases List.mem_append.1 hm with hm | hm
      · exact hkind s hm
      · rw [List.mem_singleton] at hm; subst hm; exact ⟨y, r, rfl, rfl⟩
    · rcases List.mem_append.1 hm with hm | hm
      · exact hnew x hm
      · rw [List.mem_singleton] at hm; subst hm
        exact fun k hk => (o6.lt k (slFoot_own hk)).1
    · simp only
      rw [List.length_append, List.length_singleton]
      refine St.inv_sub s12 fun a ha => ?_
      rcases (segInvs_snoc acc vs _ _ hvs a).1 ha with rfl | ha
      · exact List.mem_cons_self
      · exact List.mem_cons_of_mem _ ha
  · have hlt' : ¬ (i : Int) < ks.length := by omega
    have hii : i = ks.length := by omega
    subst hii
    rw [List.take_length] at hobj
    simp (disch := first | omega | exact okFill_t rfl | exact okSize_t rfl | exact fun h => h | (simp only [World.size_alloc, World.size_drew, World.size_setCell, size_fill, bytesW]; omega)) only [go_sem, c29, c29S0, c29S1, c29L0, c29S2, c29S3, c29S4, c29L1, c29S5, c29S6, c29S7, hlt']
    have o7 := s7.row 0 rfl
    rw [← hvs] at o7
    refine ⟨⟨acc, vs, ⟨?_, hsorts, hkind, fun o ho => ?_⟩, hvs, RdS.of_own' o7 vs rfl (flatMap_one vs).symm, fun j s v hs hv => ⟨(s7.inv _ (segInvs_mem acc vs j s v hs hv)).1, ?_⟩, fun k hk => (o7.lt k (slFoot_own hk)).1, hnew⟩, s7.bel⟩
    · rw [← List.pairwise_map (f := Seg.obj) (R := (· < ·)), hobj]; exact hup
    · have := (hmem o.Proc).2 ⟨o, ho, rfl⟩
      rw [← hobj] at this
      obtain ⟨s, hs, e⟩ := List.mem_map.1 this
      exact ⟨s, hs, e⟩
    · have e1 := (hsorts s (List.mem_of_getElem? hs)).1.length_eq
      have e2 := ofProc_len s.obj l
      omega
theorem programs_ok (v : Value) (l : List OpT) (w : World) (h : RdS w 11 OpT.enc v l) (hl : l.length ≤ 100) :
    Ret Tryz.prog 29 [v] w fun u w' => (∃ acc vs, ByProc l acc ∧ Progs w' w.heap.size u acc vs) ∧ Below w.heap.size w w' := by
  obtain ⟨a, c, rfl, _⟩ := h.form
  refine ent29 _ _ _ ?_
  simp (disch := first | omega | exact okFill_t rfl | exact okSize_t rfl | exact fun h => h | (simp only [World.size_alloc, World.size_drew, World.size_setCell, size_fill, bytesW]; omega)) only [go_sem, c29, c29S0, c29S1, c29S2, c29S3, c29S4, c29L1, c29S5, c29S6]
  refine mmG (ek := intK) (ev := idK) ?_
  have s1 := (St.start (W0 := w)).lay (mapG intK idK [] 0)
  generalize hw1 : w.alloc (mapG intK idK [] 0) = w1 at s1 ⊢
  generalize hmb : w.heap.size = mb at s1 ⊢
  simp (disch := first | omega | exact okFill_t rfl | exact okSize_t rfl | exact fun h => h | (simp only [World.size_alloc, World.size_drew, World.size_setCell, size_fill, bytesW]; omega)) only [go_sem, c29, c29S0, c29S1, c29S2, c29S3, c29S4, c29L1, c29S5, c29S6]
  refine W_loopU (fun k : Nat => [(12, .int .i64 k)]) (fun k w' => k ≤ l.length ∧ ∃ d c, ByM (l.take k) d c ∧ St w w' (fun _ => False) (.obj mb (mapG intK idK d c) :: rowsO (l.take k) d) []) (fun k => l.length - k) 0 rfl ⟨Nat.zero_le _, [], 0, ⟨List.Pairwise.nil, List.Pairwise.nil, (fun x hx => by cases hx), (fun p => by simp), Nat.zero_le _⟩, s1⟩ ?_
  rintro k w2 ⟨hk, d, cl, hM, s2⟩
  by_cases hlt : k < l.length
  · have hlt' : (k : Int) < l.length := by omega
    obtain ⟨q, rfl⟩ := h.ptr (by omega)
    have ek := h.eltB s2.bel OpT.len (by decide) hlt
    have ck := cellsO_below s2.bel (h.at OpT.len hlt)
    have hts : l.take (k + 1) = l.take k ++ [l[k]] := List.take_succ_eq_append_getElem hlt
    generalize l[k] = o at *
    have ao := o.at
    simp (disch := first | omega | exact okFill_t rfl | exact okSize_t rfl | exact fun h => h | (simp only [World.size_alloc, World.size_drew, World.size_setCell, size_fill, bytesW]; omega)) only [go_sem, c29, c29S0, c29S1, c29L0, c29S2, c29S3, c29S4, c29L1, c29S5, c29S6, c29L0, hlt', ck]
    refine ⟨by omega, ?_⟩
    have s3 := s2.box o.enc.toArray 56
    generalize w2.heap.size = b0 at s3 ⊢
    generalize w2.alloc (.cells o.enc.toArray 56) = w3 at s3 ⊢
    refine ⟨by simp [OpT.len], c29draw0 (Same (fun k => k = b0) _) (Same.refl _ _) ?_⟩
    have s4 := s3.drew
    have r4 := s4.rules 0 rfl
    generalize w3.drew = w4 at s4 r4 ⊢
    have sm : ∀ w', Blk w' b0 o.enc.toArray 56 → Same (fun k => k = b0) w4 w' := fun w' hB b hb => by subst hb; exact Eq.trans hB (s4.blk 0 rfl).symm
    obtain ⟨v, R, hv, hperm, s5⟩ : ∃ v R, luG idK (.slice none 0 0) (getM o.Proc d) false = v ∧ (∀ v' c', (rowO (l.take k ++ [o]) o.Proc v' :: R).Perm (rowsO (l.take k ++ [o]) (setM o.Proc v' c' d))) ∧ St w w4 (fun _ => False) (rowO (l.take k) o.Proc v :: .blk b0 o.enc.toArray 56 :: .obj mb (mapG intK idK d cl) :: R) [] := by
      cases hg : getM o.Proc d with
      | some v =>
        obtain ⟨R, h1, h2⟩ := rows_some (t := l.take k) hM.nd hg
        refine ⟨v, R, rfl, h2, s4.perm ?_⟩
        refine List.Perm.trans ?_ (((h1.symm.cons _).cons _))
        exact (List.Perm.swap ..).trans ((List.Perm.swap ..).cons _)
      | none =>
        have e0 : ofProc o.Proc (l.take k) = [] := by
          unfold ofProc
          rw [List.filter_eq_nil_iff]
          intro x hx hp
          rw [decide_eq_true_eq] at hp
          obtain ⟨y, hy, hy1⟩ := List.mem_map.1 ((hM.mem o.Proc).2 ⟨x, hx, hp⟩)
          exact getM_none hg y hy hy1.symm
        refine ⟨_, rowsO (l.take k) d, rfl, rows_none hg, ?_⟩
        unfold rowO
        rw [e0]
        exact s4.nilRow 56 11
    have hol : (ofProc o.Proc (l.take k)).length ≤ 100 := by
      have := ofProc_len o.Proc (l.take k)
      rw [List.length_take] at this; omega
    have hK : ∀ v5 w5 (hs : St w w5 (fun _ => False) (rowO (l.take k ++ [o]) o.Proc v5 :: .blk b0 o.enc.toArray 56 :: .obj mb (mapG intK idK d cl) :: R) []), St w (w5.putObj mb (mapG intK idK (setM o.Proc v5 cl d) (if (getM o.Proc d).isSome then cl else cl + 1))) (fun _ => False) (rowO (l.take k ++ [o]) o.Proc v5 :: .blk b0 o.enc.toArray 56 :: .obj mb (mapG intK idK (setM o.Proc v5 cl d) (if (getM o.Proc d).isSome then cl else cl + 1)) :: R) [] := fun v5 w5 hs => hs.putObj 2 rfl _
    have hK2 : ∀ v5 w5 (hs : St w w5 (fun _ => False) (rowO (l.take k ++ [o]) o.Proc v5 :: .blk b0 o.enc.toArray 56 :: .obj mb (mapG intK idK (setM o.Proc v5 cl d) (if (getM o.Proc d).isSome then cl else cl + 1)) :: R) []), k + 1 ≤ l.length ∧ ∃ d c, ByM (l.take (k + 1)) d c ∧ St w w5 (fun _ => False) (.obj mb (mapG intK idK d c) :: rowsO (l.take (k + 1)) d) [] := by
      intro v5 w5 hs
      rw [hts]
      refine ⟨hlt, _, _, hM.step o v5, ?_⟩
      have hs2 := hs.perm (L' := .blk b0 o.enc.toArray 56 :: .obj mb (mapG intK idK (setM o.Proc v5 cl d) (if (getM o.Proc d).isSome then cl else cl + 1)) :: rowO (l.take k ++ [o]) o.Proc v5 :: R) (((List.Perm.swap ..).cons _).trans (List.Perm.swap ..))
      exact (hs2.sub (List.sublist_cons_self ..)).perm ((hperm v5 cl).symm.cons _)
    have hx : ∀ w', Below w4.heap.size w4 w' → Rd (w'.alloc (.cells o.enc.toArray 56)) 11 (.slice (some ⟨w'.heap.size, 0, none⟩) 1 1) 1 o.enc := fun w' _ => rd_new (t := 56) (sz := 11) (n := 1) (cs := o.enc.toArray) rfl
    have hx0 := hx w4 (Below.refl _ _)
    have s6 := s5.alloc' (.cells o.enc.toArray 56)
    have h0 : Rd (w4.alloc (.cells o.enc.toArray 56)) 11 (.slice (some ⟨w4.heap.size, 0, none⟩) 1 1) 1 o.enc := hx0
    have hcast : ∀ v7 w7, St w w7 (fun _ => False) ((rowO (l.take k) o.Proc v :: .blk b0 o.enc.toArray 56 :: .obj mb (mapG intK idK d cl) :: R).set 0 (.row v7 56 11 ((ofProc o.Proc (l.take k)).length + 1) ((ofProc o.Proc (l.take k)).flatMap OpT.enc ++ o.enc))) [] → St w w7 (fun _ => False) (rowO (l.take k ++ [o]) o.Proc v7 :: .blk b0 o.enc.toArray 56 :: .obj mb (mapG intK idK d cl) :: R) [] := fun v7 w7 hs => st_recast hs (by
      unfold rowO
      rw [ofProc_one, if_pos rfl, List.length_append, List.flatMap_append]
      simp)
    simp (disch := first | omega | exact okFill_t rfl | exact okSize_t rfl | exact fun h => h | (simp only [World.size_alloc, World.size_drew, World.size_setCell, size_fill, bytesW]; omega)) only [go_sem, c29, c29S0, c29S1, c29L0, c29S2, c29S3, c29S4, c29L1, c29S5, c29S6, c29D0, r4, ao]
    refine ⟨luG_map (ek := intK) (ev := idK) keyT_i Tryz.underlying117 (s5.obj 2 rfl) o.Proc (by rfl) ?_, bsW_agg ty22mkI rfl (by decide) (by decide) ?_⟩
    · rw [hv]
      simp (disch := first | omega | exact okFill_t rfl | exact okSize_t rfl | exact fun h => h | (simp only [World.size_alloc, World.size_drew, World.size_setCell, size_fill, bytesW]; omega)) only [go_sem, c29, c29S0, c29S1, c29L0, c29S2, c29S3, c29S4, c29L1, c29S5, c29S6, c29D0, r4, ao]
      refine ⟨Same.refl _ _, bsW_agg ty22mkI rfl (by decide) (by decide) ?_⟩
      generalize w4.alloc (.cells o.enc.toArray 56) = w6 at s6 h0 ⊢
      simp (disch := first | omega | exact okFill_t rfl | exact okSize_t rfl | exact fun h => h | (simp only [World.size_alloc, World.size_drew, World.size_setCell, size_fill, bytesW]; omega)) only [go_sem, c29, c29S0, c29S1, c29L0, c29S2, c29S3, c29S4, c29L1, c29S5, c29S6, c29D0, r4, ao]
      refine ⟨sm _ (s6.blk 1 rfl), s6.append 0 rfl ty22mkI rfl (by decide) h0 o.one (by omega) (by omega) ?_⟩
      intro v7 w7 s7 _
      have s7' := hcast v7 w7 s7
      simp (disch := first | omega | exact okFill_t rfl | exact okSize_t rfl | exact fun h => h | (simp only [World.size_alloc, World.size_drew, World.size_setCell, size_fill, bytesW]; omega)) only [go_sem, c29, c29S0, c29S1, c29L0, c29S2, c29S3, c29S4, c29L1, c29S5, c29S6, c29D0, r4, ao]
      refine ⟨sm _ (s7'.blk 1 rfl), ?_⟩
      refine muG_map (ek := intK) (ev := idK) keyT_i Tryz.underlying117 (fun a => by simp [Instr.sameBits, intK]) (s7'.obj 2 rfl) o.Proc v7 ?_
      have s8 := hK v7 w7 s7'
      generalize w7.putObj mb (mapG intK idK (setM o.Proc v7 cl d) (if (getM o.Proc d).isSome then cl else cl + 1)) = w8 at s8 ⊢
      simp (disch := first | omega | exact okFill_t rfl | exact okSize_t rfl | exact fun h => h | (simp only [World.size_alloc, World.size_drew, World.size_setCell, size_fill, bytesW]; omega)) only [go_sem, c29, c29S0, c29S1, c29L0, c29S2, c29S3, c29S4, c29L1, c29S5, c29S6, c29D0, r4, ao]
      exact ⟨sm _ (s8.blk 1 rfl), ⟨by omega, by omega⟩, k + 1, rfl, hK2 _ _ s8, by omega⟩
    · generalize w4.alloc (.cells o.enc.toArray 56) = w6 at s6 h0 ⊢
      simp (disch := first | omega | exact okFill_t rfl | exact okSize_t rfl | exact fun h => h | (simp only [World.size_alloc, World.size_drew, World.size_setCell, size_fill, bytesW]; omega)) only [go_sem, c29, c29S0, c29S1, c29L0, c29S2, c29S3, c29S4, c29L1, c29S5, c29S6, c29D0, r4, ao]
      refine ⟨sm _ (s6.blk 1 rfl), luG_map (ek := intK) (ev := idK) keyT_i Tryz.underlying117 (s6.obj 2 rfl) o.Proc (by rfl) ?_⟩
      rw [hv]
      simp (disch := first | omega | exact okFill_t rfl | exact okSize_t rfl | exact fun h => h | (simp only [World.size_alloc, World.size_drew, World.size_setCell, size_fill, bytesW]; omega)) only [go_sem, c29, c29S0, c29S1, c29L0, c29S2, c29S3, c29S4, c29L1, c29S5, c29S6, c29D0, r4, ao]
      refine ⟨sm _ (s6.blk 1 rfl), s6.append 0 rfl ty22mkI rfl (by decide) h0 o.one (by omega) (by omega) ?_⟩
      intro v7 w7 s7 _
      have s7' := hcast v7 w7 s7
      simp (disch := first | omega | exact okFill_t rfl | exact okSize_t rfl | exact fun h => h | (simp only [World.size_alloc, World.size_drew, World.size_setCell, size_fill, bytesW]; omega)) only [go_sem, c29, c29S0, c29S1, c29L0, c29S2, c29S3, c29S4, c29L1, c29S5, c29S6, c29D0, r4, ao]
      refine ⟨sm _ (s7'.blk 1 rfl), ?_⟩
      refine muG_map (ek := intK) (ev := idK) keyT_i Tryz.underlying117 (fun a => by simp [Instr.sameBits, intK]) (s7'.obj 2 rfl) o.Proc v7 ?_
      have s8 := hK v7 w7 s7'
      generalize w7.putObj mb (mapG intK idK (setM o.Proc v7 cl d) (if (getM o.Proc d).isSome then cl else cl + 1)) = w8 at s8 ⊢
      simp (disch := first | omega | exact okFill_t rfl | exact okSize_t rfl | exact fun h => h | (simp only [World.size_alloc, World.size_drew, World.size_setCell, size_fill, bytesW]; omega)) only [go_sem, c29, c29S0, c29S1, c29L0, c29S2, c29S3, c29S4, c29L1, c29S5, c29S6, c29D0, r4, ao]
      exact ⟨sm _ (s8.blk 1 rfl), ⟨by omega, by omega⟩, k + 1, rfl, hK2 _ _ s8, by omega⟩
  · have hlt' : ¬ (k : Int) < l.length := by omega
    have hkk : k = l.length := by omega
    subst hkk
    rw [List.take_length] at hM s2
    simp (disch := first | omega | exact okFill_t rfl | exact okSize_t rfl | exact fun h => h | (simp only [World.size_alloc, World.size_drew, World.size_setCell, size_fill, bytesW]; omega)) only [go_sem, c29, c29S0, c29S1, c29L0, c29S2, c29S3, c29S4, c29L1, c29S5, c29S6, c29L0, hlt']
    have := progs7 hM s2 hl
    rw [hmb] at this
    exact this
end Go.Proofs.YtmdhcpghofadcaaGreat

namespace Go.Proofs.YtmdhcpghofadcaaGreat
set_option linter.unusedSimpArgs false
set_option linter.unusedVariables false
set_option maxRecDepth 100000
open Go Go.Ann Go.RowKit Go.WideShapes
theorem snocI {P : List OpT → Prop} (nil : P []) (snoc : ∀ t x, P t → P (t ++ [x])) (l : List OpT) : P l := by
  have : ∀ r : List OpT, P r.reverse := by
    intro r
    induction r with
    | nil => exact nil
    | cons x r ih => rw [List.reverse_cons]; exact snoc _ _ ih
  rw [← List.reverse_reverse l]
  exact this _
def lowT (l : List OpT) : Int := match l with | [] => 0 | o :: r => r.foldl (fun m x => min m x.Invoke) o.Invoke
def endT (l : List OpT) : Int := l.foldl (fun m o => max (if o.Done = true then m else max m 1099511627777) o.Return) 0
def topF (l : List OpT) (m : Int) : Int := l.foldl (fun m o => max (max m o.Invoke) o.Return) m
def topT (l : List OpT) : Int := topF l 0
theorem lowT_snoc (t : List OpT) (o : OpT) : lowT (t ++ [o]) = if t = [] then o.Invoke else min (lowT t) o.Invoke := by
  cases t with
  | nil => rfl
  | cons a t => rw [if_neg (by simp)]; simp [lowT, List.foldl_append]
theorem endT_snoc (t : List OpT) (o : OpT) : endT (t ++ [o]) = max (if o.Done = true then endT t else max (endT t) 1099511627777) o.Return := by
  simp [endT, List.foldl_append]
theorem topF_snoc (t : List OpT) (o : OpT) (m : Int) : topF (t ++ [o]) m = max (max (topF t m) o.Invoke) o.Return := by
  simp [topF, List.foldl_append]
theorem low_le {l : List OpT} : ∀ o ∈ l, lowT l ≤ o.Invoke := by
  induction l using snocI with
  | nil => intro o h; cases h
  | snoc t x ih =>
    intro o h
    rw [lowT_snoc]
    rcases List.mem_append.1 h with h | h
    · rw [if_neg (by intro e; rw [e] at h; cases h)]
      have := ih o h; omega
    · rw [List.mem_singleton] at h; subst h
      split <;> omega
theorem low_in {l : List OpT} (h : l ≠ []) : ∃ o ∈ l, o.Invoke = lowT l := by
  induction l using snocI with
  | nil => exact absurd rfl h
  | snoc t x ih =>
    rw [lowT_snoc]
    by_cases ht : t = []
    · exact ⟨x, by simp, by rw [if_pos ht]⟩
    · rw [if_neg ht]
      obtain ⟨o, ho, e⟩ := ih ht
      rcases Int.le_total (lowT t) x.Invoke with h' | h'
      · exact ⟨o, List.mem_append_left _ ho, by omega⟩
      · exact ⟨x, by simp, by omega⟩
theorem le_top (l : List OpT) (m : Int) : m ≤ topF l m ∧ ∀ o ∈ l, o.Invoke ≤ topF l m ∧ o.Return ≤ topF l m := by
  induction l using snocI with
  | nil => exact ⟨Int.le_refl _, fun o h => by cases h⟩
  | snoc t x ih =>
    rw [topF_snoc]
    refine ⟨by omega, fun o h => ?_⟩
    rcases List.mem_append.1 h with h | h
    · have := ih.2 o h; omega
    · rw [List.mem_singleton] at h; subst h; omega
theorem top_le {l : List OpT} {m b : Int} (hm : m ≤ b) (h : ∀ o ∈ l, o.Invoke ≤ b ∧ o.Return ≤ b) : topF l m ≤ b := by
  induction l using snocI with
  | nil => exact hm
  | snoc t x ih =>
    rw [topF_snoc]
    have := ih fun o ho => h o (List.mem_append_left _ ho)
    have := h x (by simp)
    omega
theorem le_end (l : List OpT) : 0 ≤ endT l ∧ ∀ o ∈ l, o.Return ≤ endT l ∧ (o.Done = false → 1099511627777 ≤ endT l) := by
  induction l using snocI with
  | nil => exact ⟨Int.le_refl _, fun o h => by cases h⟩
  | snoc t x ih =>
    rw [endT_snoc]
    refine ⟨by split <;> omega, fun o h => ?_⟩
    rcases List.mem_append.1 h with h | h
    · have := ih.2 o h
      refine ⟨by split <;> omega, fun hd => by have := this.2 hd; split <;> omega⟩
    · rw [List.mem_singleton] at h; subst h
      refine ⟨by omega, fun hd => by rw [hd]; simp; omega⟩
structure OpG (o : OpT) : Prop where
  p0 : 0 ≤ o.Proc
  p1 : o.Proc ≤ 1023
  b0 : 0 ≤ o.Object
  b1 : o.Object ≤ 1023
  i0 : 0 ≤ o.Invoke
  i1 : o.Invoke ≤ 1099511627776
  rd : o.Done = true → o.Invoke < o.Return ∧ o.Return ≤ 1099511627776
  ro : o.Done = false → o.Return = 0
theorem end_top {l : List OpT} (hg : ∀ o ∈ l, OpG o) (h : endT l ≤ 1099511627776) : endT l = topT l := by
  have hd : ∀ o ∈ l, o.Done = true := fun o ho => by
    cases hx : o.Done with
    | true => rfl
    | false => have := ((le_end l).2 o ho).2 hx; omega
  clear h
  unfold topT
  induction l using snocI with
  | nil => rfl
  | snoc t x ih =>
    rw [endT_snoc, topF_snoc, hd x (by simp), ih (fun o ho => hg o (List.mem_append_left _ ho)) fun o ho => hd o (List.mem_append_left _ ho)]
    have := (hg x (by simp)).rd (hd x (by simp))
    simp only [if_true]
    omega
theorem low_top {l : List OpT} (hg : ∀ o ∈ l, OpG o) (h : l ≠ []) : topF l (lowT l) = topT l := by
  obtain ⟨o, ho, e⟩ := low_in h
  have h0 := (hg o ho).i0
  apply Int.le_antisymm
  · refine top_le ?_ fun x hx => (le_top l 0).2 x hx
    rw [← e]; exact ((le_top l 0).2 o ho).1
  · refine top_le ?_ fun x hx => (le_top l _).2 x hx
    have := (le_top l (lowT l)).1
    omega
def scOf (l : List OpT) (wd : Nat) : Sc := ⟨lowT l, topT l, wd⟩
theorem scOf_ok {l : List OpT} {wd : Nat} (hg : ∀ o ∈ l, OpG o) (h8 : 8 ≤ wd) (h1 : wd ≤ 200) : (scOf l wd).ok ∧ ∀ o ∈ l, (scOf l wd).has o := by
  have ht : topT l ≤ 1099511627776 := top_le (by decide) fun o ho => by
    have := hg o ho
    refine ⟨this.i1, ?_⟩
    cases hd : o.Done with
    | true => exact (this.rd hd).2
    | false => rw [this.ro hd]; decide
  have hlow : 0 ≤ lowT l := by
    by_cases h : l = []
    · rw [h]; decide
    · obtain ⟨o, ho, e⟩ := low_in h; rw [← e]; exact (hg o ho).i0
  have hlt : lowT l ≤ topT l := by
    by_cases h : l = []
    · rw [h]; decide
    · obtain ⟨o, ho, e⟩ := low_in h; rw [← e]; exact ((le_top l 0).2 o ho).1
  refine ⟨⟨hlow, hlt, by show topT l ≤ _; omega, h8, h1⟩, fun o ho => ⟨low_le o ho, ((le_top l 0).2 o ho).1, fun hd => ?_, ((le_top l 0).2 o ho).2⟩⟩
  have := (hg o ho).rd hd
  omega
section
variable {va : Value} {l : List OpT} {w : World}
theorem span_ok (h : RdS w 11 OpT.enc va l) (hl : l.length ≤ 100) (hw : ∀ o ∈ l, o.wf) : Ret Tryz.prog 76 [va] w fun u w' => u = .tuple #[.int .i64 (lowT l), .int .i64 (endT l)] ∧ Below w.heap.size w w' := by
  obtain ⟨a, c, rfl, _⟩ := h.form
  refine ent76 _ _ _ ?_
  simp (disch := first | omega | exact okFill_t rfl | exact okSize_t rfl | exact fun h => h | (simp only [World.size_alloc, World.size_drew, World.size_setCell, size_fill, bytesW]; omega)) only [go_sem, c76, c76S0, c76S1, c76S2, c76S3, c76L0, c76S4, c76S5]
  refine ⟨fun h0 => ?_, fun h0 => ?_⟩
  · have : l = [] := List.eq_nil_of_length_eq_zero (by omega)
    subst this
    exact ⟨rfl, Below.refl _ _⟩
  have hpos : 0 < l.length := by omega
  obtain ⟨q, rfl⟩ := h.ptr hpos
  have e0 := h.eltB (Below.refl _ _) OpT.len (by decide) hpos
  have a0 := l[0].at
  have e9 : w.cell? ⟨q.block, q.off + 9, none⟩ = some (.int .i64 l[0].Invoke) := by
    have := e0.2 9 (by decide) (by decide)
    simpa [a0] using this
  simp (disch := first | omega | exact okFill_t rfl | exact okSize_t rfl | exact fun h => h | (simp only [World.size_alloc, World.size_drew, World.size_setCell, size_fill, bytesW]; omega)) only [go_sem, c76, c76S0, c76S1, c76S2, c76S3, c76S4, c76S5, e9, a0]
  refine ⟨by omega, ?_⟩
  refine W_loopU (fun x : Nat × Int × Int => [(4, .int .i64 x.2.1), (5, .int .i64 x.2.2), (17, .int .i64 x.1)]) (fun x w' => x.1 ≤ l.length ∧ x.2.1 = (if x.1 = 0 then l[0].Invoke else lowT (l.take x.1)) ∧ x.2.2 = endT (l.take x.1) ∧ Below w.heap.size w w') (fun x => l.length - x.1) (0, l[0].Invoke, 0) rfl ⟨Nat.zero_le _, rfl, rfl, Below.refl _ _⟩ ?_
  rintro ⟨k, f, e⟩ w2 ⟨hk, hf, he, b2⟩
  simp only at hk hf he
  by_cases hlt : k < l.length
  · have hlt' : (k : Int) < l.length := by omega
    have ek := h.eltB b2 OpT.len (by decide) hlt
    have ck := cellsO_below b2 (h.at OpT.len hlt)
    have ak := l[k].at
    have hts := List.take_succ_eq_append_getElem hlt
    have e1 : min f l[k].Invoke = if k + 1 = 0 then l[0].Invoke else lowT (l.take (k + 1)) := by
      rw [if_neg (by omega), hts, lowT_snoc, hf]
      by_cases h0 : k = 0
      · subst h0; simp
      · rw [if_neg h0, if_neg (by intro e; have := congrArg List.length e; rw [List.length_take, List.length_nil] at this; omega)]
    have e2 := endT_snoc (l.take k) l[k]
    rw [← hts, ← he] at e2
    generalize l[k] = o at *
    simp (disch := first | omega | exact okFill_t rfl | exact okSize_t rfl | exact fun h => h | (simp only [World.size_alloc, World.size_drew, World.size_setCell, size_fill, bytesW]; omega)) only [go_sem, c76, c76S0, c76S1, c76S2, c76S3, c76L0, c76S4, c76S5, c76L0, hlt', ck, ak]
    have bb := b2.alloc b2.size (.cells o.enc.toArray 56)
    refine ⟨by omega, OpT.len _ |>.symm, fun hd => ⟨⟨by omega, by omega⟩, (k + 1, min f o.Invoke, max (max e 1099511627777) o.Return), rfl, ⟨by simp only; omega, e1, ?_, bb⟩, by simp only; omega⟩, fun hd => ⟨⟨by omega, by omega⟩, (k + 1, min f o.Invoke, max e o.Return), rfl, ⟨by simp only; omega, e1, ?_, bb⟩, by simp only; omega⟩⟩
    · rw [e2, if_neg (by rw [hd]; decide)]
    · rw [e2, if_pos hd]
  · have hkk : k = l.length := by omega
    have hlt' : ¬ (k : Int) < l.length := by omega
    subst hkk
    rw [if_neg (by omega), List.take_length] at hf
    rw [List.take_length] at he
    subst hf he
    simp (disch := first | omega | exact okFill_t rfl | exact okSize_t rfl | exact fun h => h | (simp only [World.size_alloc, World.size_drew, World.size_setCell, size_fill, bytesW]; omega)) only [go_sem, c76, c76S0, c76S1, c76S2, c76S3, c76L0, c76S4, c76S5, c76L0, hlt']
    exact b2
theorem rspan_ok (h : RdS w 11 OpT.enc va l) (hl : l.length ≤ 100) (hw : ∀ o ∈ l, o.wf) : Ret Tryz.prog 86 [va] w fun u w' => u = .tuple #[.int .i64 (lowT l), .int .i64 (endT l)] ∧ Below w.heap.size w w' := by
  obtain ⟨a, c, rfl, _⟩ := h.form
  refine ent86 _ _ _ ?_
  simp (disch := first | omega | exact okFill_t rfl | exact okSize_t rfl | exact fun h => h | (simp only [World.size_alloc, World.size_drew, World.size_setCell, size_fill, bytesW]; omega)) only [go_sem, c86, c86S0, c86S1, c86S2, c86S3, c86S4]
  refine W_loopU (fun x : Nat × Int × Int => [(4, .int .i64 x.2.1), (5, .int .i64 x.2.2), (6, .int .i64 x.1)]) (fun x w' => x.1 ≤ l.length ∧ x.2.1 = lowT (l.take x.1) ∧ x.2.2 = endT (l.take x.1) ∧ Below w.heap.size w w') (fun x => l.length - x.1) (0, 0, 0) rfl ⟨Nat.zero_le _, rfl, rfl, Below.refl _ _⟩ ?_
  rintro ⟨k, f, e⟩ w2 ⟨hk, hf, he, b2⟩
  simp only at hk hf he
  by_cases hlt : k < l.length
  · have hlt' : (k : Int) < l.length := by omega
    obtain ⟨q, rfl⟩ := h.ptr (by omega)
    have ek := h.eltB b2 OpT.len (by decide) hlt
    have ak := l[k].at
    have hts := List.take_succ_eq_append_getElem hlt
    have e1 : lowT (l.take (k + 1)) = if (k : Int) = 0 then l[k].Invoke else min (lowT (l.take k)) l[k].Invoke := by
      rw [hts, lowT_snoc]
      by_cases h0 : k = 0
      · rw [if_pos (show l.take k = [] by rw [h0]; rfl), if_pos (show (k : Int) = 0 by omega)]
      · rw [if_neg (show ¬ l.take k = [] by intro e; have := congrArg List.length e; rw [List.length_take, List.length_nil] at this; omega), if_neg (show ¬ (k : Int) = 0 by omega)]
    have e2 := endT_snoc (l.take k) l[k]
    rw [← hf] at e1
    rw [← hts, ← he] at e2
    have et : l[k].Done = true → endT (l.take (k + 1)) = max e l[k].Return := fun hd => by rw [e2, if_pos hd]
    have ef : l[k].Done = false → endT (l.take (k + 1)) = max (max e 1099511627777) l[k].Return := fun hd => by rw [e2, if_neg (by rw [hd]; decide)]
    clear e2
    generalize l[k] = o at *
    simp (disch := first | omega | exact okFill_t rfl | exact okSize_t rfl | exact fun h => h | (simp only [World.size_alloc, World.size_drew, World.size_setCell, size_fill, bytesW]; omega)) only [go_sem, c86, c86S0, c86S1, c86S2, c86S3, c86L0, c86S4, c86L0, hlt', ek, ak]
    have ea : (k : Int) = 0 → lowT (l.take (k + 1)) = o.Invoke := fun h => by rw [e1, if_pos h]
    have eb : ¬ (k : Int) = 0 → lowT (l.take (k + 1)) = min f o.Invoke := fun h => by rw [e1, if_neg h]
    clear e1
    have hb0 : o.Done = false ∨ o.Done = true := by cases o.Done <;> simp
    repeat' first | with_reducible apply And.intro | with_reducible intro h
    all_goals first
      | omega
      | (constructor <;> omega)
      | exact ⟨(k + 1, o.Invoke, o.Return), rfl, ⟨by simp only; omega, by simp only; omega, by simp only; rw [et (by assumption)]; omega, b2⟩, by simp only; omega⟩
      | exact ⟨(k + 1, o.Invoke, o.Return), rfl, ⟨by simp only; omega, by simp only; omega, by simp only; rw [ef (by assumption)]; omega, b2⟩, by simp only; omega⟩
      | exact ⟨(k + 1, o.Invoke, 1099511627777), rfl, ⟨by simp only; omega, by simp only; omega, by simp only; rw [et (by assumption)]; omega, b2⟩, by simp only; omega⟩
      | exact ⟨(k + 1, o.Invoke, 1099511627777), rfl, ⟨by simp only; omega, by simp only; omega, by simp only; rw [ef (by assumption)]; omega, b2⟩, by simp only; omega⟩
      | exact ⟨(k + 1, o.Invoke, e), rfl, ⟨by simp only; omega, by simp only; omega, by simp only; rw [et (by assumption)]; omega, b2⟩, by simp only; omega⟩
      | exact ⟨(k + 1, o.Invoke, e), rfl, ⟨by simp only; omega, by simp only; omega, by simp only; rw [ef (by assumption)]; omega, b2⟩, by simp only; omega⟩
      | exact ⟨(k + 1, f, o.Return), rfl, ⟨by simp only; omega, by simp only; omega, by simp only; rw [et (by assumption)]; omega, b2⟩, by simp only; omega⟩
      | exact ⟨(k + 1, f, o.Return), rfl, ⟨by simp only; omega, by simp only; omega, by simp only; rw [ef (by assumption)]; omega, b2⟩, by simp only; omega⟩
      | exact ⟨(k + 1, f, 1099511627777), rfl, ⟨by simp only; omega, by simp only; omega, by simp only; rw [et (by assumption)]; omega, b2⟩, by simp only; omega⟩
      | exact ⟨(k + 1, f, 1099511627777), rfl, ⟨by simp only; omega, by simp only; omega, by simp only; rw [ef (by assumption)]; omega, b2⟩, by simp only; omega⟩
      | exact ⟨(k + 1, f, e), rfl, ⟨by simp only; omega, by simp only; omega, by simp only; rw [et (by assumption)]; omega, b2⟩, by simp only; omega⟩
      | exact ⟨(k + 1, f, e), rfl, ⟨by simp only; omega, by simp only; omega, by simp only; rw [ef (by assumption)]; omega, b2⟩, by simp only; omega⟩
  · have hkk : k = l.length := by omega
    have hlt' : ¬ (k : Int) < l.length := by omega
    subst hkk
    rw [List.take_length] at hf he
    subst hf he
    simp (disch := first | omega | exact okFill_t rfl | exact okSize_t rfl | exact fun h => h | (simp only [World.size_alloc, World.size_drew, World.size_setCell, size_fill, bytesW]; omega)) only [go_sem, c86, c86S0, c86S1, c86S2, c86S3, c86L0, c86S4, c86L0, hlt']
    exact b2
end
end Go.Proofs.YtmdhcpghofadcaaGreat

namespace Go.Proofs.YtmdhcpghofadcaaGreat
set_option linter.unusedSimpArgs false
set_option linter.unusedVariables false
set_option maxRecDepth 100000
open Go Go.Ann Go.RowKit Go.WideShapes
theorem Sc.len (s : Sc) : s.enc.length = 3 := rfl
theorem Sc.one (s : Sc) : ∀ u ∈ s.enc, u.oneCell' = true := by intro u hu; simp only [Sc.enc, List.mem_cons, List.not_mem_nil, or_false] at hu; rcases hu with rfl | rfl | rfl <;> rfl
theorem Sc.at_ (s : Sc) : s.enc[0]? = some (.int .i64 s.lo) ∧ s.enc[1]? = some (.int .i64 s.hi) ∧ s.enc[2]? = some (.int .i64 s.wd) := ⟨rfl, rfl, rfl⟩
theorem blk_okSt {w : World} {b : Nat} {cs : Array Value} {t : TypeId} (h : Blk w b cs t) {vs : List Value} (h1 : ∀ u ∈ vs, u.oneCell' = true) (h2 : vs.length ≤ cs.size) : okSt w b 0 vs := by
  rw [okSt_iff]
  refine ⟨h1, fun j hj => ⟨⟨cs[j]'(by omega), ?_⟩, ?_⟩⟩
  · rw [h.rules.1, Nat.zero_add]; exact Array.getElem?_eq_getElem (by omega)
  · exact h.rules.2.1 _
theorem mul_in {x y : Int} (h0 : 0 ≤ x) (h1 : x ≤ 2199023255552) (h2 : 0 ≤ y) (h3 : y ≤ 199) : 0 ≤ x * y ∧ x * y ≤ 437605627854848 := by
  refine ⟨Int.mul_nonneg h0 h2, ?_⟩
  have := Int.mul_le_mul h1 h3 h2 (by decide : (0 : Int) ≤ 2199023255552)
  exact this
section
variable {va : Value} {l : List OpT} {w : World}
theorem column_ok {s : Sc} (hs : s.ok) (t : Int) (ht : s.lo ≤ t) (ht2 : t ≤ 2199023255552) : Ret Tryz.prog 83 [.agg s.enc.toArray, .int .i64 t] w fun u w' => u = .int .i64 (s.col t) ∧ Below w.heap.size w w' := by
  refine ent83 _ _ _ _ ?_
  have asc := s.at_
  obtain ⟨h1, h2, h3, h4, h5⟩ := hs
  simp (disch := first | omega | exact okFill_t rfl | exact okSize_t rfl | exact fun h => h | (simp only [World.size_alloc, World.size_drew, World.size_setCell, size_fill, bytesW]; omega)) only [go_sem, c83, c83S0, c83S1, asc]
  have hb : Below w.heap.size w (w.alloc (.cells s.enc.toArray 58)) := (Below.refl _ _).alloc (Nat.le_refl _) _
  obtain ⟨m0, m1⟩ := mul_in (x := min t s.hi - s.lo) (y := (s.wd : Int) - 1) (by omega) (by omega) (by omega) (by omega)
  refine ⟨fun e => ⟨?_, hb⟩, fun e => ⟨by constructor <;> omega, by constructor <;> omega, by constructor <;> omega, by constructor <;> omega, ⟨by omega, by omega, by constructor <;> omega⟩, ?_, hb⟩⟩
  · unfold Sc.col; rw [if_pos e]
  · unfold Sc.col; rw [if_neg e, Int.tdiv_eq_ediv_of_nonneg m0]
theorem rcolumn_ok {s : Sc} (hs : s.ok) (t : Int) (ht : s.lo ≤ t) (ht2 : t ≤ 2199023255552) : Ret Tryz.prog 87 [.agg s.enc.toArray, .int .i64 t] w fun u w' => u = .int .i64 (s.col t) ∧ Below w.heap.size w w' := by
  refine ent87 _ _ _ _ ?_
  have asc := s.at_
  obtain ⟨h1, h2, h3, h4, h5⟩ := hs
  simp (disch := first | omega | exact okFill_t rfl | exact okSize_t rfl | exact fun h => h | (simp only [World.size_alloc, World.size_drew, World.size_setCell, size_fill, bytesW]; omega)) only [go_sem, c87, c87S0, c87S1, asc]
  have hb : Below w.heap.size w (w.alloc (.cells s.enc.toArray 75)) := (Below.refl _ _).alloc (Nat.le_refl _) _
  refine ⟨fun ht3 => ?_, fun ht3 => ?_⟩
  · obtain ⟨m0, m1⟩ := mul_in (x := s.hi - s.lo) (y := (s.wd : Int) - 1) (by omega) (by omega) (by omega) (by omega)
    refine ⟨fun e => ⟨?_, hb⟩, fun e => ⟨by constructor <;> omega, by constructor <;> omega, by constructor <;> omega, by constructor <;> omega, ⟨by omega, by omega, by constructor <;> omega⟩, ?_, hb⟩⟩
    · unfold Sc.col; rw [if_pos e]
    · unfold Sc.col; rw [if_neg e, Int.tdiv_eq_ediv_of_nonneg m0, Int.min_eq_right (by omega)]
  · obtain ⟨m0, m1⟩ := mul_in (x := t - s.lo) (y := (s.wd : Int) - 1) (by omega) (by omega) (by omega) (by omega)
    refine ⟨fun e => ⟨?_, hb⟩, fun e => ⟨by constructor <;> omega, by constructor <;> omega, by constructor <;> omega, by constructor <;> omega, ⟨by omega, by omega, by constructor <;> omega⟩, ?_, hb⟩⟩
    · unfold Sc.col; rw [if_pos e]
    · unfold Sc.col; rw [if_neg e, Int.tdiv_eq_ediv_of_nonneg m0, Int.min_eq_left (by omega)]
theorem over_ok (h : RdS w 11 OpT.enc va l) (hl : l.length ≤ 100) (hw : ∀ o ∈ l, o.wf) (hg : ∀ o ∈ l, OpG o) (wd : Nat) (hwd : wd ≤ 200) : Ret Tryz.prog 35 [va, .int .i64 wd] w fun u w' => u = .agg (scOf l wd).enc.toArray ∧ Below w.heap.size w w' := by
  obtain ⟨a, c, rfl, _⟩ := h.form
  refine ent35 _ _ _ _ ?_
  simp (disch := first | omega | exact okFill_t rfl | exact okSize_t rfl | exact fun h => h | (simp only [World.size_alloc, World.size_drew, World.size_setCell, size_fill, bytesW]; omega)) only [go_sem, c35, c35S0, c35S1, c35L0, c35S2, c35S3]
  have s1 := (St.start (W0 := w)).box #[.int .i64 0, .int .i64 0, .int .i64 0] 58
  obtain ⟨b0, hb0⟩ : ∃ b, b = w.heap.size := ⟨_, rfl⟩
  rw [← hb0] at s1 ⊢
  have h1 := h.below s1.bel (by decide)
  generalize w.alloc (.cells #[.int .i64 0, .int .i64 0, .int .i64 0] 58) = w1 at s1 h1 ⊢
  refine Ret.mono (span_ok h1 hl hw) ?_
  rintro _ w2 ⟨rfl, b2⟩
  have s2 := s1.call b2
  have h2 := h1.below b2 (by decide)
  have fin : ∀ m w3, m = topT l → St w w3 (fun _ => False) [.blk b0 #[.int .i64 0, .int .i64 0, .int .i64 0] 58] [] → W Tryz.prog (c35S2 ()) [(1, .int .i64 wd), (4, .pointer (some ⟨b0, 0, none⟩)), (5, .int .i64 (lowT l)), (6, .int .i64 m)] w3 (finQ Tryz.prog [.cell 4 58] fun u w' => u = .agg (scOf l wd).enc.toArray ∧ Below b0 w w') := by
    intro m w3 hm s3
    subst hm
    have r3 := s3.rules 0 rfl
    simp (disch := first | omega | exact okFill_t rfl | exact okSize_t rfl | exact fun h => h | (simp only [World.size_alloc, World.size_drew, World.size_setCell, size_fill, bytesW]; omega)) only [go_sem, c35, c35S0, c35S1, c35L0, c35S2, c35S3, r3]
    refine bdW_built (cells := (scOf l wd).enc.toArray) (by kernel_rfl) ?_
    have asc := (scOf l wd).at_
    simp (disch := first | omega | exact okFill_t rfl | exact okSize_t rfl | exact fun h => h | (simp only [World.size_alloc, World.size_drew, World.size_setCell, size_fill, bytesW]; omega)) only [go_sem, c35, c35S0, c35S1, c35L0, c35S2, c35S3, r3, asc]
    refine ⟨(scOf l wd).len.symm, blk_okSt (s3.blk 0 rfl) (scOf l wd).one (Nat.le_refl _), ?_⟩
    rw [hb0] at s3 ⊢
    exact ⟨rfl, (s3.fill 0 rfl (cs := (scOf l wd).enc.toArray) rfl).bel⟩
  simp (disch := first | omega | exact okFill_t rfl | exact okSize_t rfl | exact fun h => h | (simp only [World.size_alloc, World.size_drew, World.size_setCell, size_fill, bytesW]; omega)) only [go_sem, c35, c35S0, c35S1, c35L0, c35S3]
  refine ⟨fun ht => ?_, fun ht => fin _ _ (end_top hg ht) s2⟩
  have hne : l ≠ [] := fun e => by subst e; simp [endT] at ht
  refine W_loopU (fun k : Nat => [(6, .int .i64 (topF (l.take k) (lowT l))), (19, .int .i64 k)]) (fun k w' => k ≤ l.length ∧ St w w' (fun _ => False) [.blk b0 #[.int .i64 0, .int .i64 0, .int .i64 0] 58] []) (fun k => l.length - k) 0 rfl ⟨Nat.zero_le _, s2⟩ ?_
  rintro k w3 ⟨hk, s3⟩
  by_cases hlt : k < l.length
  · have hlt' : (k : Int) < l.length := by omega
    obtain ⟨q, rfl⟩ := h.ptr (by omega)
    have ck := cellsO_below s3.bel (h.at OpT.len hlt)
    have ak := l[k].at
    have e1 := topF_snoc (l.take k) l[k] (lowT l)
    rw [← List.take_succ_eq_append_getElem hlt] at e1
    generalize l[k] = o at *
    simp (disch := first | omega | exact okFill_t rfl | exact okSize_t rfl | exact fun h => h | (simp only [World.size_alloc, World.size_drew, World.size_setCell, size_fill, bytesW]; omega)) only [go_sem, c35, c35S0, c35S1, c35L0, c35S3, c35L0, hlt', ck, ak]
    refine ⟨by omega, o.len.symm, ⟨by omega, by omega⟩, k + 1, ?_, ⟨by omega, s3.alloc' _⟩, by omega⟩
    rw [e1]; rfl
  · have hlt' : ¬ (k : Int) < l.length := by omega
    have hkk : k = l.length := by omega
    subst hkk
    rw [List.take_length]
    simp (disch := first | omega | exact okFill_t rfl | exact okSize_t rfl | exact fun h => h | (simp only [World.size_alloc, World.size_drew, World.size_setCell, size_fill, bytesW]; omega)) only [go_sem, c35, c35S0, c35S1, c35L0, c35S3, c35L0, hlt']
    exact fin _ _ (low_top hg hne) s3
theorem times4 {w3 : World} {Q : Post} {q : Addr} {c k b0 : Nat} {f t : Int} {wd : Nat} {o : OpT} (hlt : k < l.length) (hl : l.length ≤ 100) (s3 : St w w3 (fun _ => False) [.blk (b0 + 1) (Sc.mk f t wd).enc.toArray 75, .blk b0 #[.int .i64 0, .int .i64 0, .int .i64 0] 75] [])
    (h : RdS w 11 OpT.enc (.slice (some q) l.length c) l) (ho : o = l[k])
    (hQ : ∀ w', St w w' (fun _ => False) [.blk (b0 + 1) (Sc.mk f (max (max t o.Invoke) o.Return) wd).enc.toArray 75, .blk b0 #[.int .i64 0, .int .i64 0, .int .i64 0] 75] [] → Q .normal [(0, .slice (some q) l.length c), (4, .pointer (some ⟨b0, 0, none⟩)), (5, .pointer (some ⟨b0 + 1, 0, none⟩)), (6, .int .i64 k)] w') :
    W Tryz.prog (c44S4 ()) [(0, .slice (some q) l.length c), (4, .pointer (some ⟨b0, 0, none⟩)), (5, .pointer (some ⟨b0 + 1, 0, none⟩)), (6, .int .i64 k)] w3 (blockQ 1 Q) := by
  have hlt' : (k : Int) < l.length := by omega
  have ek := h.eltB s3.bel OpT.len (by decide) hlt
  rw [← ho] at ek
  have ak := o.at
  have r3 := s3.rules 0 rfl
  have as3 := (Sc.mk f t wd).at_
  simp (disch := first | omega | exact okFill_t rfl | exact okSize_t rfl | exact fun h => h | (simp only [World.size_alloc, World.size_drew, World.size_setCell, size_fill, bytesW]; omega)) only [go_sem, c44, c44S0, c44S1, c44S2, c44S4, c44S5, c44S6, c44L0, c44S7]
  refine c44draw1 ?_
  simp (disch := first | omega | exact okFill_t rfl | exact okSize_t rfl | exact fun h => h | (simp only [World.size_alloc, World.size_drew, World.size_setCell, size_fill, bytesW]; omega)) only [go_sem, c44, c44S0, c44S1, c44S2, c44S4, c44S5, c44S6, c44L0, c44S7, c44D1, hlt', ek, ak, r3, as3]
  have mid : ∀ t' w', t' = max t o.Invoke → St w w' (fun _ => False) [.blk (b0 + 1) (Sc.mk f t' wd).enc.toArray 75, .blk b0 #[.int .i64 0, .int .i64 0, .int .i64 0] 75] [] → W Tryz.prog (c44S3 ()) [(0, .slice (some q) l.length c), (4, .pointer (some ⟨b0, 0, none⟩)), (5, .pointer (some ⟨b0 + 1, 0, none⟩)), (6, .int .i64 k)] w' (blockQ 1 Q) := by
    intro t' w4 ht s4
    have ek := h.eltB s4.bel OpT.len (by decide) hlt
    rw [← ho] at ek
    have r4 := s4.rules 0 rfl
    have as4 := (Sc.mk f t' wd).at_
    rw [← ht] at hQ
    simp (disch := first | omega | exact okFill_t rfl | exact okSize_t rfl | exact fun h => h | (simp only [World.size_alloc, World.size_drew, World.size_setCell, size_fill, bytesW]; omega)) only [go_sem, c44, c44S0, c44S1, c44S2, c44S3, c44S4, c44S5, c44S6, c44L0, c44S7]
    refine c44draw2 ?_
    simp (disch := first | omega | exact okFill_t rfl | exact okSize_t rfl | exact fun h => h | (simp only [World.size_alloc, World.size_drew, World.size_setCell, size_fill, bytesW]; omega)) only [go_sem, c44, c44S0, c44S1, c44S2, c44S3, c44S4, c44S5, c44S6, c44L0, c44S7, c44D2, hlt', ek, ak, r4, as4]
    refine ⟨by omega, fun h1 => ⟨by omega, ?_⟩, fun h1 => ?_⟩
    · rw [show max t' o.Return = o.Return by omega] at hQ
      exact hQ _ ((s4.drew).set 0 rfl 1 (.int .i64 o.Return))
    · rw [show max t' o.Return = t' by omega] at hQ
      exact hQ _ s4.drew
  refine ⟨by omega, fun h1 => ⟨by omega, ?_⟩, fun h1 => ?_⟩
  · exact mid o.Invoke _ (by omega) ((s3.drew).set 0 rfl 1 (.int .i64 o.Invoke))
  · exact mid t _ (by omega) s3.drew
theorem times_ok (h : RdS w 11 OpT.enc va l) (hl : l.length ≤ 100) (hw : ∀ o ∈ l, o.wf) (wd : Nat) (hwd : wd ≤ 200) : Ret Tryz.prog 44 [va, .int .i64 wd] w fun u w' => u = .agg (scOf l wd).enc.toArray ∧ Below w.heap.size w w' := by
  obtain ⟨a, c, rfl, _⟩ := h.form
  refine ent44 _ _ _ _ ?_
  simp (disch := first | omega | exact okFill_t rfl | exact okSize_t rfl | exact fun h => h | (simp only [World.size_alloc, World.size_drew, World.size_setCell, size_fill, bytesW]; omega)) only [go_sem, c44, c44S0, c44S1, c44S2, c44S3, c44S4, c44S5, c44S6, c44L0, c44S7]
  refine bdW_built (cells := (Sc.mk 0 0 wd).enc.toArray) (by kernel_rfl) ?_
  have s1 := ((St.start (W0 := w)).box #[.int .i64 0, .int .i64 0, .int .i64 0] 75).box #[.int .i64 0, .int .i64 0, .int .i64 0] 75
  simp only [World.size_alloc] at s1
  simp (disch := first | omega | exact okFill_t rfl | exact okSize_t rfl | exact fun h => h | (simp only [World.size_alloc, World.size_drew, World.size_setCell, size_fill, bytesW]; omega)) only [go_sem, c44, c44S0, c44S1, c44S2, c44S3, c44S4, c44S5, c44S6, c44L0, c44S7]
  obtain ⟨b0, hb0⟩ : ∃ b, b = w.heap.size := ⟨_, rfl⟩
  rw [← hb0] at s1 ⊢
  generalize (w.alloc (.cells #[.int .i64 0, .int .i64 0, .int .i64 0] 75)).alloc (.cells #[.int .i64 0, .int .i64 0, .int .i64 0] 75) = w1 at s1 ⊢
  have s2 := s1.fill 0 rfl (cs := (Sc.mk 0 0 wd).enc.toArray) rfl
  refine ⟨(Sc.mk 0 0 wd).len.symm, blk_okSt (s1.blk 0 rfl) (Sc.mk 0 0 wd).one (Nat.le_refl _), ?_⟩
  simp only [List.set_cons_zero] at s2
  generalize w1.fill (b0 + 1) (Sc.mk 0 0 wd).enc.toArray = w2 at s2 ⊢
  refine W_loopU (fun k : Nat => [(6, .int .i64 k)]) (fun k w' => k ≤ l.length ∧ St w w' (fun _ => False) [.blk (b0 + 1) (scOf (l.take k) wd).enc.toArray 75, .blk b0 #[.int .i64 0, .int .i64 0, .int .i64 0] 75] []) (fun k => l.length - k) 0 rfl ⟨Nat.zero_le _, s2⟩ ?_
  clear s1 s2
  rintro k w3 ⟨hk, s3⟩
  by_cases hlt : k < l.length
  · have hlt' : (k : Int) < l.length := by omega
    obtain ⟨q, rfl⟩ := h.ptr (by omega)
    have ek := h.eltB s3.bel OpT.len (by decide) hlt
    have ak := l[k].at
    have hts := List.take_succ_eq_append_getElem hlt
    have e1 : lowT (l.take (k + 1)) = if (k : Int) = 0 then l[k].Invoke else min (lowT (l.take k)) l[k].Invoke := by
      rw [hts, lowT_snoc]
      by_cases h0 : k = 0
      · rw [if_pos (show l.take k = [] by rw [h0]; rfl), if_pos (show (k : Int) = 0 by omega)]
      · rw [if_neg (show ¬ l.take k = [] by intro e; have := congrArg List.length e; rw [List.length_take, List.length_nil] at this; omega), if_neg (show ¬ (k : Int) = 0 by omega)]
    have e2 := topF_snoc (l.take k) l[k] 0
    rw [← hts] at e2
    have r3 := s3.rules 0 rfl
    have asc := (scOf (l.take k) wd).at_
    simp (disch := first | omega | exact okFill_t rfl | exact okSize_t rfl | exact fun h => h | (simp only [World.size_alloc, World.size_drew, World.size_setCell, size_fill, bytesW]; omega)) only [go_sem, c44, c44S0, c44S1, c44S2, c44S3, c44S5, c44S6, c44L0, c44S7, c44L0, hlt']
    refine c44draw0 ?_
    obtain ⟨o, ho⟩ : ∃ o, o = l[k] := ⟨_, rfl⟩
    rw [← ho] at ek e1 e2
    have ak := o.at
    simp (disch := first | omega | exact okFill_t rfl | exact okSize_t rfl | exact fun h => h | (simp only [World.size_alloc, World.size_drew, World.size_setCell, size_fill, bytesW]; omega)) only [go_sem, c44, c44S0, c44S1, c44S2, c44S3, c44S5, c44S6, c44L0, c44S7, c44D0, ek, ak, r3, asc]
    have fin : ∀ f w', f = lowT (l.take (k + 1)) → St w w' (fun _ => False) [.blk (b0 + 1) (Sc.mk f (topT (l.take k)) wd).enc.toArray 75, .blk b0 #[.int .i64 0, .int .i64 0, .int .i64 0] 75] [] → ∀ Q : Post, (∀ w', St w w' (fun _ => False) [.blk (b0 + 1) (scOf (l.take (k + 1)) wd).enc.toArray 75, .blk b0 #[.int .i64 0, .int .i64 0, .int .i64 0] 75] [] → Q .normal [(0, .slice (some q) l.length c), (4, .pointer (some ⟨b0, 0, none⟩)), (5, .pointer (some ⟨b0 + 1, 0, none⟩)), (6, .int .i64 k)] w') → W Tryz.prog (c44S4 ()) [(0, .slice (some q) l.length c), (4, .pointer (some ⟨b0, 0, none⟩)), (5, .pointer (some ⟨b0 + 1, 0, none⟩)), (6, .int .i64 k)] w' (blockQ 1 Q) := by
      intro f w' hf s4 Q hQ
      refine times4 hlt hl s4 h ho fun w5 s5 => hQ w5 ?_
      unfold scOf topT
      rw [e2, ← hf]
      exact s5
    refine ⟨fun hk0 => ⟨by omega, fun h1 => ⟨by omega, fin o.Invoke _ ?_ ((s3.set 0 rfl 0 (.int .i64 o.Invoke)).drew) _ ?_⟩, fun h1 => fin (lowT (l.take k)) _ ?_ s3.drew _ ?_⟩, fun hk0 => ⟨by omega, fin o.Invoke _ ?_ ((s3.set 0 rfl 0 (.int .i64 o.Invoke)).drew) _ ?_⟩⟩
    · rw [e1, if_neg hk0]
      have h2 : o.Invoke < lowT (l.take k) := h1
      omega
    · intro w5 s5
      simp (disch := first | omega | exact okFill_t rfl | exact okSize_t rfl | exact fun h => h | (simp only [World.size_alloc, World.size_drew, World.size_setCell, size_fill, bytesW]; omega)) only [go_sem, c44, c44S0, c44S1, c44S2, c44S3, c44S4, c44S5, c44S6, c44L0, c44S7]
      exact ⟨⟨by omega, by omega⟩, k + 1, rfl, ⟨hlt, s5⟩, by omega⟩
    · rw [e1, if_neg hk0]
      have h2 : lowT (l.take k) ≤ o.Invoke := h1
      omega
    · intro w5 s5
      simp (disch := first | omega | exact okFill_t rfl | exact okSize_t rfl | exact fun h => h | (simp only [World.size_alloc, World.size_drew, World.size_setCell, size_fill, bytesW]; omega)) only [go_sem, c44, c44S0, c44S1, c44S2, c44S3, c44S4, c44S5, c44S6, c44L0, c44S7]
      exact ⟨⟨by omega, by omega⟩, k + 1, rfl, ⟨hlt, s5⟩, by omega⟩
    · rw [e1, if_pos hk0]
    · intro w5 s5
      simp (disch := first | omega | exact okFill_t rfl | exact okSize_t rfl | exact fun h => h | (simp only [World.size_alloc, World.size_drew, World.size_setCell, size_fill, bytesW]; omega)) only [go_sem, c44, c44S0, c44S1, c44S2, c44S3, c44S4, c44S5, c44S6, c44L0, c44S7]
      exact ⟨⟨by omega, by omega⟩, k + 1, rfl, ⟨hlt, s5⟩, by omega⟩
  · have hlt' : ¬ (k : Int) < l.length := by omega
    have hkk : k = l.length := by omega
    subst hkk
    rw [List.take_length] at s3
    have r3 := s3.rules 0 rfl
    have asc := (scOf l wd).at_
    have r4 := s3.rules 1 rfl
    simp (disch := first | omega | exact okFill_t rfl | exact okSize_t rfl | exact fun h => h | (simp only [World.size_alloc, World.size_drew, World.size_setCell, size_fill, bytesW]; omega)) only [go_sem, c44, c44S0, c44S1, c44S2, c44S3, c44S4, c44S5, c44S6, c44L0, c44S7, c44L0, hlt', r3, r4, asc]
    rw [hb0] at s3 ⊢
    exact ⟨(scOf l wd).len.symm, blk_okSt (s3.blk 1 rfl) (scOf l wd).one (Nat.le_refl _), rfl, (s3.fill 1 rfl (cs := (scOf l wd).enc.toArray) rfl).bel⟩
end
end Go.Proofs.YtmdhcpghofadcaaGreat

namespace Go.Proofs.YtmdhcpghofadcaaGreat
set_option linter.unusedSimpArgs false
set_option linter.unusedVariables false
set_option maxRecDepth 100000
open Go Go.Ann Go.RowKit Go.WideShapes
def BR (b n : Nat) (f : Nat → UInt8) (c : Nat) : Res := .obj b (.cells (byteRow (bytesF n f) c) 5 (c, c + 1))
section
variable {W0 w : World} {F : Nat → Prop} {L : List Res} {I : List Inv} {b n c : Nat} {f g : Nat → UInt8}
theorem st_br (h : St W0 w F L I) (i : Nat) (hi : L[i]? = some (BR b n f c)) : (∀ k, k < n → w.cell? ⟨b, k, none⟩ = some (.int .u8 ((f k).toNat : Int))) ∧ (∀ k, k < c → w.frozen? ⟨b, k, none⟩ = false) := by
  have hb : w.heap[b]? = some (.cells (byteRow (bytesF n f) c) 5 (c, c + 1)) := h.obj i hi
  refine ⟨fun k hk => ?_, fun k hk => ?_⟩
  · simp only [World.cell?, hb, Option.isSome, Bool.false_eq_true, if_false]
    unfold byteRow
    rw [Array.getElem?_append_left (by simpa [bytesF] using hk)]
    simp [bytesF, hk]
  · simp only [World.frozen?, hb]
    simp; omega
theorem byteRow_set (hn : n ≤ c) {k : Nat} {x : UInt8} (hk : k < n) (hx : g k = x) (hg : ∀ j, j < n → j ≠ k → f j = g j) : (byteRow (bytesF n f) c).setIfInBounds k (.int .u8 (x.toNat : Int)) = byteRow (bytesF n g) c := by
  have e := bytesF_set (n := n) (f := f) (g := g) hx hg
  unfold byteRow
  rw [bytesF_len, bytesF_len]
  apply Array.ext'
  simp only [Array.toList_setIfInBounds, Array.toList_append]
  rw [List.set_append_left _ _ (by simp [bytesF, hk])]
  congr 1
theorem st_brSet (h : St W0 w F L I) (i : Nat) (hi : L[i]? = some (BR b n f c)) (hn : n ≤ c) (k : Nat) (hk : k < n) (x : UInt8) (v : Int) (hv : v = (x.toNat : Int)) (g : Nat → UInt8) (hx : g k = x) (hg : ∀ j, j < n → j ≠ k → f j = g j) :
    St W0 (w.setCell ⟨b, k, none⟩ (.int .u8 v)) F (L.set i (BR b n g c)) I := by
  subst hv
  have hb : w.heap[b]? = some (.cells (byteRow (bytesF n f) c) 5 (c, c + 1)) := h.obj i hi
  refine h.upd i hi ((Chg.refl _ w).setCell _ _ fun _ => rfl) _ ⟨?_, (h.res _ (List.mem_of_getElem? hi)).1.2⟩ fun k hk => .inl hk
  unfold World.setCell
  simp only [Array.getElem?_modify, if_true, hb]
  simp only [Option.map_some, Option.isSome_none, Bool.false_eq_true, if_false]
  rw [byteRow_set hn hk hx hg]
theorem st_bytes (h : St W0 w F L I) (l : List UInt8) (c : Nat) : St W0 (bytesW w l c 5) F (BR w.heap.size l.length (fun k => (l[k]?).getD 0) c :: L) I := by
  have e : bytesF l.length (fun k => (l[k]?).getD 0) = l := by
    refine List.ext_getElem (by simp [bytesF]) fun j h1 h2 => ?_
    simp [bytesF, h2]
  have := (h.lay (.cells (byteRow l c) 5 (c, c + 1))).drew
  unfold BR
  rw [e]
  exact this
end
section
variable {W0 w : World} {F : Nat → Prop} {L : List Res} {I : List Inv} {b c : Nat} {f : Nat → UInt8} {s : Sc} {o : OpT} {b4 b5 : Nat}
def midF (s : Sc) (o : OpT) (f : Nat → UInt8) (j : Nat) (k : Nat) : UInt8 := if s.a o < k ∧ k < s.b o then (if k - s.a o - 1 < j then ((labelL o)[k - s.a o - 1]?).getD 45 else 45) else f k
theorem bar4 {K : Value → World → Prop} (hs : s.ok) (ho : s.has o) (hc : s.wd ≤ c) (hK : ∀ w', St W0 w' F (BR b s.wd (barF s o f) c :: L) I → K (.tuple #[]) w') (h : St W0 w F (BR b s.wd (midF s o f (labelL o).length) c :: .blk b5 o.enc.toArray 56 :: L) I) :
    W Tryz.prog (c82S4 ()) [(0, .slice (some ⟨b, 0, none⟩) s.wd c), (5, .pointer (some ⟨b5, 0, none⟩)), (6, .int .i64 (s.a o)), (7, .int .i64 (s.b o))] w (finQ Tryz.prog [] K) := by
  obtain ⟨ab, bw, _, _⟩ := Sc.ab hs ho
  have r0 := st_br h 0 rfl
  have r5 := h.rules 1 rfl
  have ao := o.at
  obtain ⟨a, ha⟩ : ∃ a, a = s.a o := ⟨_, rfl⟩
  obtain ⟨e, hb⟩ : ∃ e, e = s.b o := ⟨_, rfl⟩
  rw [← ha, ← hb] at ab
  rw [← hb] at bw
  rw [← ha, ← hb]
  have hlta : (a : Int) < s.wd := by omega
  have hlte : (e : Int) < s.wd := by omega
  have ca := r0.1 a (by omega)
  have fa := r0.2 a (by omega)
  have lab : ∀ j, (if j < (labelL o).length then ((labelL o)[j]?).getD 45 else 45) = ((labelL o)[j]?).getD 45 := fun j => by
    by_cases hj : j < (labelL o).length
    · rw [if_pos hj]
    · rw [if_neg hj, List.getElem?_eq_none (by omega)]; rfl
  have s1 := st_brSet h 0 rfl hc a (by omega) 91 91 rfl (fun k => if k = a then 91 else midF s o f (labelL o).length k) (by simp) (fun j _ hj => by rw [if_neg hj])
  simp only [List.set_cons_zero] at s1
  have r1 := st_br s1 0 rfl
  have r5 := s1.rules 1 rfl
  have ce := r1.1 e (by omega)
  have fe := r1.2 e (by omega)
  have fin : ∀ x, signB o a e e = x → ∀ v : Int, v = (x.toNat : Int) → ∀ w1, St W0 w1 F (BR b s.wd (fun k => if k = a then 91 else midF s o f (labelL o).length k) c :: .blk b5 o.enc.toArray 56 :: L) I → St W0 (w1.setCell ⟨b, e, none⟩ (.int .u8 v)) F (BR b s.wd (barF s o f) c :: L) I := by
    intro x hx v hv w1 h1
    have s2 := st_brSet h1 0 rfl hc e (by omega) x v hv (barF s o f) (by unfold barF; rw [← ha, ← hb, if_pos ⟨ab, Nat.le_refl _⟩, hx]) (fun j _ hj => by
      unfold barF midF signB
      rw [← ha, ← hb, if_neg hj, lab]
      by_cases h1 : j = a
      · subst h1; rw [if_pos rfl, if_pos ⟨Nat.le_refl _, ab⟩, if_pos rfl]
      · rw [if_neg h1, if_neg h1]
        by_cases h2 : a < j ∧ j < e
        · rw [if_pos h2, if_pos ⟨by omega, by omega⟩]
        · rw [if_neg h2, if_neg (by omega)])
    exact s2.sub (by simp)
  clear r0
  simp (disch := first | omega | exact okFill_t rfl | exact okSize_t rfl | exact fun h => h | (simp only [World.size_alloc, World.size_drew, World.size_setCell, size_fill, bytesW]; omega)) only [go_sem, c82, c82L0, c82S1, c82S2, c82L1, c82S3, c82S4, c82S5, c82S6, c82S7, hlta, ca, fa]
  generalize w.setCell ⟨b, a, none⟩ (.int .u8 91) = w1 at *
  simp (disch := first | omega | exact okFill_t rfl | exact okSize_t rfl | exact fun h => h | (simp only [World.size_alloc, World.size_drew, World.size_setCell, size_fill, bytesW]; omega)) only [go_sem, c82, c82S0, c82L0, c82S1, c82S2, c82L1, c82S3, c82S4, c82S5, c82S6, c82S7, hlte, ce, fe, ao, r5]
  refine ⟨by omega, fun hd => ⟨by omega, hK _ (fin 62 (by unfold signB; rw [if_pos rfl, hd]; rfl) 62 rfl _ s1)⟩, fun hd => ⟨fun he => ⟨by omega, hK _ (fin 124 (by unfold signB; rw [if_pos rfl, if_pos hd, if_pos (by omega)]) 124 rfl _ s1)⟩, fun he => ⟨by omega, hK _ (fin 93 (by unfold signB; rw [if_pos rfl, if_pos hd, if_neg (by omega)]) 93 rfl _ s1)⟩⟩⟩
theorem label_len {o : OpT} (hw : o.wf) : (labelL o).length ≤ 100 := by
  have h1 := nameL_le o.Method
  have h2 := numL_le (i64_of_k hw.2.2.2.2.2.1)
  have h3 := numL_le (i64_of_k hw.2.2.2.2.2.2.1)
  have h4 := numL_le (i64_of_k hw.2.2.2.2.2.2.2.1)
  unfold labelL argL resL
  simp only [List.length_append]
  split <;> split <;> (try split) <;> simp only [List.length_append, List.length_cons, List.length_nil] <;> omega
theorem bar6 {K : Value → World → Prop} (hs : s.ok) (ho : s.has o) (hw : o.wf) (hc : s.wd ≤ c) (hK : ∀ w', St W0 w' F (BR b s.wd (barF s o f) c :: L) I → K (.tuple #[]) w') (h : St W0 w F (BR b s.wd f c :: .blk b5 o.enc.toArray 56 :: L) I) :
    W Tryz.prog (c82S6 ()) [(0, .slice (some ⟨b, 0, none⟩) s.wd c), (5, .pointer (some ⟨b5, 0, none⟩)), (6, .int .i64 (s.a o)), (7, .int .i64 (s.b o))] w (finQ Tryz.prog [] K) := by
  obtain ⟨ab, bw, _, _⟩ := Sc.ab hs ho
  obtain ⟨a, ha⟩ : ∃ a, a = s.a o := ⟨_, rfl⟩
  obtain ⟨e, hb⟩ : ∃ e, e = s.b o := ⟨_, rfl⟩
  have hwd := hs.wd1
  have hll := label_len hw
  have B4 := fun w' h' => bar4 (W0 := W0) (w := w') (F := F) (L := L) (I := I) (f := f) (b := b) (b5 := b5) (K := K) hs ho hc hK h'
  rw [← ha, ← hb] at ab B4
  rw [← hb] at bw
  rw [← ha, ← hb]
  simp (disch := first | omega | exact okFill_t rfl | exact okSize_t rfl | exact fun h => h | (simp only [World.size_alloc, World.size_drew, World.size_setCell, size_fill, bytesW]; omega)) only [go_sem, c82, c82S0, c82S1, c82S2, c82L1, c82S3, c82S4, c82S6, c82S7]
  refine ⟨by constructor <;> omega, ?_⟩
  refine W_loopU (fun i : Nat => [(8, .int .i64 i)]) (fun i w' => a + 1 ≤ i ∧ i ≤ e + 1 ∧ St W0 w' F (BR b s.wd (fun k => if a < k ∧ k < i ∧ k < e then 45 else f k) c :: .blk b5 o.enc.toArray 56 :: L) I) (fun i => e + 1 - i) (a + 1) rfl ⟨Nat.le_refl _, by omega, ?_⟩ ?_
  · have : (fun k => if a < k ∧ k < a + 1 ∧ k < e then 45 else f k) = f := by
      funext k; rw [if_neg (by omega)]
    rw [this]; exact h
  rintro i w1 ⟨h1, h2, s1⟩
  by_cases hlt : i < e
  · have hlt' : (i : Int) < e := by omega
    have hiw : (i : Int) < s.wd := by omega
    have r1 := st_br s1 0 rfl
    have ci := r1.1 i (by omega)
    have fi := r1.2 i (by omega)
    clear r1
    have s2 := st_brSet s1 0 rfl hc i (by omega) 45 45 rfl (fun k => if a < k ∧ k < i + 1 ∧ k < e then 45 else f k) (by rw [if_pos ⟨by omega, by omega, hlt⟩]) (fun j _ hj => by
      by_cases hx : a < j ∧ j < i ∧ j < e
      · rw [if_pos hx, if_pos ⟨hx.1, by omega, hx.2.2⟩]
      · rw [if_neg hx, if_neg (by omega)])
    simp (disch := first | omega | exact okFill_t rfl | exact okSize_t rfl | exact fun h => h | (simp only [World.size_alloc, World.size_drew, World.size_setCell, size_fill, bytesW]; omega)) only [go_sem, c82, c82S0, c82L0, c82S1, c82S2, c82L1, c82S3, c82S4, c82S6, c82S7, c82L0, hlt', hiw, ci, fi]
    exact ⟨by omega, by constructor <;> omega, i + 1, rfl, ⟨by omega, by omega, s2⟩, by omega⟩
  · have hlt' : ¬ (i : Int) < e := by omega
    simp (disch := first | omega | exact okFill_t rfl | exact okSize_t rfl | exact fun h => h | (simp only [World.size_alloc, World.size_drew, World.size_setCell, size_fill, bytesW]; omega)) only [go_sem, c82, c82S0, c82L0, c82S1, c82S2, c82L1, c82S3, c82S4, c82S6, c82S7, c82L0, hlt']
    have s2 : St W0 w1 F (BR b s.wd (midF s o f 0) c :: .blk b5 o.enc.toArray 56 :: L) I := by
      have : (fun k => if a < k ∧ k < i ∧ k < e then 45 else f k) = midF s o f 0 := by
        funext k
        unfold midF
        rw [← ha, ← hb]
        by_cases hx : a < k ∧ k < e
        · rw [if_pos hx, if_pos ⟨hx.1, by omega, hx.2⟩]; rfl
        · rw [if_neg hx, if_neg (by omega)]
      rw [← this]; exact s1
    clear s1
    have r5 := s2.rules 1 rfl
    simp (disch := first | omega | exact okFill_t rfl | exact okSize_t rfl | exact fun h => h | (simp only [World.size_alloc, World.size_drew, World.size_setCell, size_fill, bytesW]; omega)) only [go_sem, c82, c82S0, c82L0, c82S1, c82S2, c82S3, c82S5, c82S6, c82S7, r5]
    refine Ret.mono (label_ok o hw w1) ?_
    rintro _ w2 ⟨rfl, b2⟩
    have s3 := s2.call b2
    simp (disch := first | omega | exact okFill_t rfl | exact okSize_t rfl | exact fun h => h | (simp only [World.size_alloc, World.size_drew, World.size_setCell, size_fill, bytesW]; omega)) only [go_sem, c82, c82S0, c82L0, c82S1, c82S2, c82S3, c82S5, c82S6, c82S7]
    intro cl hcl
    have s4 := st_bytes s3 (labelL o) cl
    generalize w2.heap.size = bl at s4 ⊢
    generalize bytesW w2 (labelL o) cl 5 = w3 at s4 ⊢
    have s5 := s4.perm (L' := BR b s.wd (midF s o f 0) c :: .blk b5 o.enc.toArray 56 :: BR bl (labelL o).length (fun k => ((labelL o)[k]?).getD 0) cl :: L) ((List.Perm.swap ..).trans ((List.Perm.swap ..).cons _)).symm
    clear s2 s3 s4
    refine W_loopU (fun j : Nat => [(38, .int .i64 j)]) (fun j w' => j ≤ (labelL o).length ∧ St W0 w' F (BR b s.wd (midF s o f j) c :: .blk b5 o.enc.toArray 56 :: BR bl (labelL o).length (fun k => ((labelL o)[k]?).getD 0) cl :: L) I) (fun j => (labelL o).length - j) 0 rfl ⟨Nat.zero_le _, s5⟩ ?_
    clear s5 b2
    rintro j w4 ⟨hj, s6⟩
    by_cases hjl : j < (labelL o).length
    · have hjl' : (j : Int) < (labelL o).length := by omega
      have cj := (st_br s6 2 rfl).1 j hjl
      have ej : ((labelL o)[j]?).getD 0 = (labelL o)[j] := by rw [List.getElem?_eq_getElem hjl]; rfl
      rw [ej] at cj
      by_cases hje : a + 1 + j < e
      · have hje' : (a : Int) + 1 + j < e := by omega
        have hjw : (a : Int) + 1 + j < s.wd := by omega
        have r6 := st_br s6 0 rfl
        have ct := r6.1 (a + 1 + j) (by omega)
        have ft := r6.2 (a + 1 + j) (by omega)
        clear r6
        have s7 := st_brSet s6 0 rfl hc (a + 1 + j) (by omega) (labelL o)[j] _ rfl (midF s o f (j + 1)) (by
          unfold midF
          rw [← ha, ← hb, if_pos ⟨by omega, hje⟩, if_pos (by omega), show a + 1 + j - a - 1 = j by omega, List.getElem?_eq_getElem hjl]; rfl) (fun k _ hk => by
          unfold midF
          rw [← ha, ← hb]
          by_cases hx : a < k ∧ k < e
          · rw [if_pos hx, if_pos hx]
            by_cases hy : k - a - 1 < j
            · rw [if_pos hy, if_pos (by omega)]
            · rw [if_neg hy, if_neg (by omega)]
          · rw [if_neg hx, if_neg hx])
        have et : ((a : Int) + 1 + j).toNat = a + 1 + j := by omega
        simp (disch := first | omega | exact okFill_t rfl | exact okSize_t rfl | exact fun h => h | (simp only [World.size_alloc, World.size_drew, World.size_setCell, size_fill, bytesW]; omega)) only [go_sem, c82, c82S0, c82L0, c82S1, c82S2, c82L1, c82S3, c82S5, c82S6, c82S7, hjl', cj, hje', hjw, et, ct, ft]
        exact ⟨by omega, by constructor <;> omega, by constructor <;> omega, by constructor <;> omega, by constructor <;> omega, by omega, by constructor <;> omega, j + 1, rfl, ⟨by omega, s7⟩, by omega⟩
      · have hje' : ¬ (a : Int) + 1 + j < e := by omega
        have s7 : midF s o f (j + 1) = midF s o f j := by
          funext k
          unfold midF
          rw [← ha, ← hb]
          by_cases hx : a < k ∧ k < e
          · rw [if_pos hx, if_pos hx, if_pos (by omega), if_pos (by omega)]
          · rw [if_neg hx, if_neg hx]
        simp (disch := first | omega | exact okFill_t rfl | exact okSize_t rfl | exact fun h => h | (simp only [World.size_alloc, World.size_drew, World.size_setCell, size_fill, bytesW]; omega)) only [go_sem, c82, c82S0, c82L0, c82S1, c82S2, c82L1, c82S3, c82S5, c82S6, c82S7, hjl', cj, hje']
        exact ⟨by omega, by constructor <;> omega, by constructor <;> omega, by constructor <;> omega, j + 1, rfl, ⟨by omega, by rw [s7]; exact s6⟩, by omega⟩
    · have hjl' : ¬ (j : Int) < (labelL o).length := by omega
      have hjj : j = (labelL o).length := by omega
      subst hjj
      simp (disch := first | omega | exact okFill_t rfl | exact okSize_t rfl | exact fun h => h | (simp only [World.size_alloc, World.size_drew, World.size_setCell, size_fill, bytesW]; omega)) only [go_sem, c82, c82S0, c82L0, c82S1, c82S2, c82L1, c82S3, c82S5, c82S6, c82S7, hjl']
      exact B4 _ (s6.sub (by simp))
theorem bar_ok (hs : s.ok) (ho : s.has o) (hw : o.wf) (hc : s.wd ≤ c) (h : St W0 w F (BR b s.wd f c :: L) I) :
    Ret Tryz.prog 82 [.slice (some ⟨b, 0, none⟩) s.wd c, .agg s.enc.toArray, .agg o.enc.toArray] w fun u w' => u = .tuple #[] ∧ St W0 w' F (BR b s.wd (barF s o f) c :: L) I := by
  refine ent82 _ _ _ _ _ ?_
  simp (disch := first | omega | exact okFill_t rfl | exact okSize_t rfl | exact fun h => h | (simp only [World.size_alloc, World.size_drew, World.size_setCell, size_fill, bytesW]; omega)) only [go_sem, c82, c82S0, c82L0, c82S1, c82S2, c82L1, c82S3, c82S4, c82S5, c82S6, c82S7]
  have s1 := (h.box s.enc.toArray 58).box o.enc.toArray 56
  simp only [World.size_alloc] at s1
  generalize w.heap.size = b4 at s1 ⊢
  generalize (w.alloc (.cells s.enc.toArray 58)).alloc (.cells o.enc.toArray 56) = w1 at s1 ⊢
  obtain ⟨b5, hb5⟩ : ∃ b, b = b4 + 1 := ⟨_, rfl⟩
  rw [← hb5] at s1 ⊢
  refine c82draw0 (Chg (fun _ => False) _) (Chg.refl _ _) ?_
  have s2 := s1.drew
  have r4 := s2.rules 1 rfl
  have r5 := s2.rules 0 rfl
  have low4 := s2.low 1 rfl
  have low5 := s2.low 0 rfl
  have ao := o.at
  have asc := s.at_
  generalize w1.drew = w2 at s2 r4 r5 low4 low5 ⊢
  simp (disch := first | omega | exact okFill_t rfl | exact okSize_t rfl | exact fun h => h | (simp only [World.size_alloc, World.size_drew, World.size_setCell, size_fill, bytesW]; omega)) only [go_sem, c82, c82S0, c82L0, c82S1, c82S2, c82L1, c82S3, c82S4, c82S5, c82S6, c82D0, r4, r5, ao, asc]
  have hwd := hs.wd1
  have hw8 := hs.wd8
  obtain ⟨ab, bw, e1, e2⟩ := Sc.ab hs ho
  have hr2 : o.Return ≤ 2199023255552 := Int.le_trans ho.r2 hs.hi1
  have hi2 : o.Invoke ≤ 2199023255552 := Int.le_trans ho.i2 hs.hi1
  refine ⟨by constructor <;> omega, Ret.mono (column_ok hs _ ho.i1 hi2) ?_⟩
  rintro _ w3 ⟨rfl, b3⟩
  have s3 := s2.call b3
  have r5 := s3.rules 0 rfl
  have r4 := s3.rules 1 rfl
  have r5' := s2.rules 0 rfl
  simp (disch := first | omega | exact okFill_t rfl | exact okSize_t rfl | exact fun h => h | (simp only [World.size_alloc, World.size_drew, World.size_setCell, size_fill, bytesW]; omega)) only [go_sem, c82, c82S0, c82L0, c82S1, c82S2, c82L1, c82S3, c82S4, c82S5, c82S6, c82D0, r5, ao, asc]
  refine ⟨Chg.of_below b3, ?_⟩
  rw [e1]
  have B6 := fun w' h' => bar6 (W0 := W0) (w := w') (F := F) (L := .blk b4 s.enc.toArray 58 :: L) (I := I) (f := f) (b := b) (b5 := b5) (K := fun u w' => u = .tuple #[] ∧ St W0 w' F (BR b s.wd (barF s o f) c :: L) I) hs ho hw hc (fun w' h => ⟨rfl, h.sub (by simp)⟩) h'
  have pm : ∀ w', St W0 w' F (.blk b5 o.enc.toArray 56 :: .blk b4 s.enc.toArray 58 :: BR b s.wd f c :: L) I → St W0 w' F (BR b s.wd f c :: .blk b5 o.enc.toArray 56 :: .blk b4 s.enc.toArray 58 :: L) I := fun w' h' => h'.perm (((List.Perm.swap ..).trans ((List.Perm.swap ..).cons _)))
  simp (disch := first | omega | exact okFill_t rfl | exact okSize_t rfl | exact fun h => h | (simp only [World.size_alloc, World.size_drew, World.size_setCell, size_fill, bytesW]; omega)) only [go_sem, c82, c82S0, c82L0, c82S1, c82S2, c82L1, c82S3, c82S4, c82S5, c82S7, r4, r5, ao, asc]
  refine ⟨fun hd => ?_, fun hd => ?_⟩
  · rw [if_pos hd] at e2
    refine Ret.mono (column_ok hs _ (Int.le_trans ho.i1 (ho.r1 hd)) hr2) ?_
    rintro _ w4 ⟨rfl, b4'⟩
    simp (disch := first | omega | exact okFill_t rfl | exact okSize_t rfl | exact fun h => h | (simp only [World.size_alloc, World.size_drew, World.size_setCell, size_fill, bytesW]; omega)) only [go_sem, c82, c82S0, c82L0, c82S1, c82S2, c82L1, c82S3, c82S4, c82S5, c82S7]
    rw [e2]
    exact B6 _ (pm _ (s3.call b4'))
  · rw [if_neg (by rw [hd]; decide)] at e2
    rw [e2]
    exact B6 _ (pm _ s3)
end
end Go.Proofs.YtmdhcpghofadcaaGreat

namespace Go.Proofs.YtmdhcpghofadcaaGreat
set_option linter.unusedSimpArgs false
set_option linter.unusedVariables false
set_option maxRecDepth 100000
open Go Go.Ann Go.RowKit Go.WideShapes
theorem br_ext {b n c : Nat} {f g : Nat → UInt8} (h : ∀ k, k < n → f k = g k) : BR b n f c = BR b n g c := by
  unfold BR; rw [bytesF_ext h]
theorem rowF_snoc (s : Sc) (t : List OpT) (o : OpT) : rowF s (t ++ [o]) = barF s o (rowF s t) := by
  simp [rowF, List.foldl_append]
theorem br_bytes {W0 w : World} {F : Nat → Prop} {L : List Res} {I : List Inv} {b n c : Nat} {f : Nat → UInt8} (h : St W0 w F (BR b n f c :: L) I) : bytesAt w (some ⟨b, 0, none⟩) (bytesF n f) := by
  intro i x hx
  have hi : i < n := by have := (List.getElem?_eq_some_iff.1 hx).1; rwa [bytesF_len] at this
  rw [bytesF_get hi, Option.some.injEq] at hx
  subst hx
  simp only [Addr.add_lit, Nat.zero_add]
  exact (st_br h 0 rfl).1 i hi
section
variable {va : Value} {l : List OpT} {w : World} {s : Sc}
theorem row_ok (h : RdS w 11 OpT.enc va l) (hl : l.length ≤ 100) (hw : ∀ o ∈ l, o.wf) (hs : s.ok) (ho : ∀ o ∈ l, s.has o) : Ret Tryz.prog 40 [.agg s.enc.toArray, va] w fun u w' => u = .string (ofL (rowL s l)) ∧ Below w.heap.size w w' := by
  obtain ⟨a, c, rfl, _⟩ := h.form
  have hwd := hs.wd1
  refine ent40 _ _ _ _ ?_
  have s1 := (St.start (W0 := w)).box s.enc.toArray 58
  have asc := s.at_
  have r1 := s1.rules 0 rfl
  obtain ⟨b0, hb0⟩ : ∃ b, b = w.heap.size := ⟨_, rfl⟩
  simp (disch := first | omega | exact okFill_t rfl | exact okSize_t rfl | exact fun h => h | (simp only [World.size_alloc, World.size_drew, World.size_setCell, size_fill, bytesW]; omega)) only [go_sem, c40, c40S0, c40S1, c40L0, c40S2, c40S3, asc]
  refine Ret.mono (repeat_ok 46 s.wd (by omega) _) ?_
  rintro _ w2 ⟨rfl, b2⟩
  have s2 := s1.call b2
  rw [← hb0] at s2 ⊢
  simp (disch := first | omega | exact okFill_t rfl | exact okSize_t rfl | exact fun h => h | (simp only [World.size_alloc, World.size_drew, World.size_setCell, size_fill, bytesW]; omega)) only [go_sem, c40, c40S0, c40S1, c40S2, c40S3]
  intro cl hcl
  rw [List.length_replicate] at hcl
  rw [show (List.replicate s.wd (46 : UInt8)).length = s.wd from List.length_replicate]
  have s3 := st_bytes s2 (List.replicate s.wd 46) cl
  rw [br_ext (g := rowF s []) (fun k hk => by rw [List.length_replicate] at hk; simp [rowF, hk]), List.length_replicate] at s3
  generalize w2.heap.size = b at s3 ⊢
  generalize bytesW w2 (List.replicate s.wd 46) cl 5 = w3 at s3 ⊢
  clear r1
  refine W_loopU (fun k : Nat => [(14, .int .i64 k)]) (fun k w' => k ≤ l.length ∧ St w w' (fun _ => False) [BR b s.wd (rowF s (l.take k)) cl, .blk b0 s.enc.toArray 58] []) (fun k => l.length - k) 0 rfl ⟨Nat.zero_le _, s3⟩ ?_
  clear s3
  rintro k w4 ⟨hk, s4⟩
  by_cases hlt : k < l.length
  · have hlt' : (k : Int) < l.length := by omega
    obtain ⟨q, rfl⟩ := h.ptr (by omega)
    have ck := cellsO_below s4.bel (h.at OpT.len hlt)
    have ak := l[k].at
    have r4 := s4.rules 1 rfl
    have s5 := s4.box l[k].enc.toArray 56
    have e1 := rowF_snoc s (l.take k) l[k]
    rw [← List.take_succ_eq_append_getElem hlt] at e1
    have hm := List.getElem_mem hlt
    simp (disch := first | omega | exact okFill_t rfl | exact okSize_t rfl | exact fun h => h | (simp only [World.size_alloc, World.size_drew, World.size_setCell, size_fill, bytesW]; omega)) only [go_sem, c40, c40S0, c40S1, c40L0, c40S3, c40L0, hlt', ck, ak, r4]
    refine ⟨by omega, l[k].len.symm, ?_⟩
    have r5 := s5.rules 2 rfl
    have r6 := s5.rules 0 rfl
    generalize w4.heap.size = b7 at s5 r6 ⊢
    generalize w4.alloc (.cells l[k].enc.toArray 56) = w5 at s5 r5 r6 ⊢
    simp (disch := first | omega | exact okFill_t rfl | exact okSize_t rfl | exact fun h => h | (simp only [World.size_alloc, World.size_drew, World.size_setCell, size_fill, bytesW]; omega)) only [go_sem, c40, c40S0, c40S1, c40L0, c40S3, r5, r6, asc, ak]
    have s6 := s5.perm (L' := BR b s.wd (rowF s (l.take k)) cl :: .blk b7 l[k].enc.toArray 56 :: [.blk b0 s.enc.toArray 58]) (List.Perm.swap ..)
    refine Ret.mono (bar_ok hs (ho _ hm) (hw _ hm) hcl s6) ?_
    rintro _ w7 ⟨rfl, s7⟩
    simp (disch := first | omega | exact okFill_t rfl | exact okSize_t rfl | exact fun h => h | (simp only [World.size_alloc, World.size_drew, World.size_setCell, size_fill, bytesW]; omega)) only [go_sem, c40, c40S0, c40S1, c40L0, c40S3]
    rw [← e1] at s7
    exact ⟨by constructor <;> omega, k + 1, rfl, ⟨hlt, s7.sub (by simp)⟩, by omega⟩
  · have hlt' : ¬ (k : Int) < l.length := by omega
    have hkk : k = l.length := by omega
    subst hkk
    rw [List.take_length] at s4
    simp (disch := first | omega | exact okFill_t rfl | exact okSize_t rfl | exact fun h => h | (simp only [World.size_alloc, World.size_drew, World.size_setCell, size_fill, bytesW]; omega)) only [go_sem, c40, c40S0, c40S1, c40L0, c40S2, c40S3, c40L0, hlt']
    refine ⟨rowL s l, bytesF_len _ _, br_bytes s4, rfl, ?_⟩
    rw [hb0]; exact s4.bel
end
end Go.Proofs.YtmdhcpghofadcaaGreat

namespace Go.Proofs.YtmdhcpghofadcaaGreat
set_option linter.unusedSimpArgs false
set_option linter.unusedVariables false
set_option maxRecDepth 100000
open Go Go.Ann Go.RowKit Go.WideShapes
section
variable {va : Value} {l : List OpT} {w : World} {s : Sc}
theorem sign_ok {o : OpT} (hw : o.wf) {a b k : Nat} (h1 : a ≤ k) (h2 : k ≤ b) (h3 : b ≤ 200) : Ret Tryz.prog 125 [.agg o.enc.toArray, .int .i64 k, .int .i64 a, .int .i64 b] w fun u w' => u = .string (ofL [signB o a b k]) ∧ Below w.heap.size w w' := by
  have ao := o.at
  refine ent125 _ _ _ _ _ _ ?_
  have hB := Blk.new (w := w) (cs := o.enc.toArray) (t := 56)
  have b1 : Below w.heap.size w (w.alloc (.cells o.enc.toArray 56)) := (Below.refl _ _).alloc (Nat.le_refl _) _
  have hll := label_len hw
  have x1 : k = b → o.Done = false → signB o a b k = 62 := fun h1 h2 => by unfold signB; rw [if_pos h1, h2]; rfl
  have x2 : k = b → o.Done = true → a = b → signB o a b k = 124 := fun h1 h2 h3 => by unfold signB; rw [if_pos h1, if_pos h2, if_pos h3]
  have x3 : k = b → o.Done = true → ¬ a = b → signB o a b k = 93 := fun h1 h2 h3 => by unfold signB; rw [if_pos h1, if_pos h2, if_neg h3]
  have x4 : ¬ k = b → k = a → signB o a b k = 91 := fun h1 h2 => by unfold signB; rw [if_neg h1, if_pos h2]
  have x5 : ¬ k = b → ¬ k = a → signB o a b k = ((labelL o)[k - a - 1]?).getD 45 := fun h1 h2 => by unfold signB; rw [if_neg h1, if_neg h2]
  generalize signB o a b k = X at *
  have hlt := hB.lt
  have r1 := hB.rules
  have S3 : ¬ k = b → W Tryz.prog (c125S3 ()) [(1, .int .i64 k), (2, .int .i64 a), (4, .pointer (some ⟨w.heap.size, 0, none⟩))] (w.alloc (.cells o.enc.toArray 56)) (finQ Tryz.prog [.tmp 8] fun u w' => u = .string (ofL [X]) ∧ Below w.heap.size w w') := by
    intro hkb
    generalize w.alloc (.cells o.enc.toArray 56) = w1 at *
    by_cases hka : k = a
    · have hka' : (k : Int) = a := by omega
      simp (disch := first | omega | exact okFill_t rfl | exact okSize_t rfl | exact fun h => h | (simp only [World.size_alloc, World.size_drew, World.size_setCell, size_fill, bytesW]; omega)) only [go_sem, c125, c125S0, c125S1, c125S3, c125S4, c125S5, hka']
      rw [x4 hkb hka]
      exact ⟨rfl, b1⟩
    · have hka' : ¬ (k : Int) = a := by omega
      simp (disch := first | omega | exact okFill_t rfl | exact okSize_t rfl | exact fun h => h | (simp only [World.size_alloc, World.size_drew, World.size_setCell, size_fill, bytesW]; omega)) only [go_sem, c125, c125S0, c125S1, c125S2, c125S3, c125S4, c125S5, hka', r1, ao]
      refine Ret.mono (rlabel_ok o hw w1) ?_
      rintro _ w2 ⟨rfl, b2⟩
      have b02 := b1.trans (b2.mono b1.size)
      rw [x5 hkb hka]
      have e1 : (k : Int) - a - 1 = ((k - a - 1 : Nat) : Int) := by omega
      have e2 : (k : Int) - a = ((k - a - 1 + 1 : Nat) : Int) := by omega
      by_cases hlab : k - a - 1 < (labelL o).length
      · have hlab' : (k : Int) - a - 1 < (labelL o).length := by omega
        simp (disch := first | omega | exact okFill_t rfl | exact okSize_t rfl | exact fun h => h | (simp only [World.size_alloc, World.size_drew, World.size_setCell, size_fill, bytesW]; omega)) only [go_sem, c125, c125S0, c125S1, c125S2, c125S3, c125S4, c125S5, hlab']
        refine ⟨by constructor <;> omega, by constructor <;> omega, by constructor <;> omega, by constructor <;> omega, by constructor <;> omega, ⟨by omega, by omega, by omega⟩, ?_, b02⟩
        rw [e1, e2, List.getElem?_eq_getElem hlab]
        unfold cutL
        rw [Int.toNat_natCast, Int.toNat_natCast, List.take_succ_eq_append_getElem hlab, List.drop_append_of_le_length (by rw [List.length_take]; omega), List.drop_of_length_le (by rw [List.length_take]; omega)]
        rfl
      · have hlab' : ¬ (k : Int) - a - 1 < (labelL o).length := by omega
        simp (disch := first | omega | exact okFill_t rfl | exact okSize_t rfl | exact fun h => h | (simp only [World.size_alloc, World.size_drew, World.size_setCell, size_fill, bytesW]; omega)) only [go_sem, c125, c125S0, c125S1, c125S2, c125S3, c125S4, c125S5, hlab']
        rw [List.getElem?_eq_none (by omega)]
        exact ⟨by constructor <;> omega, by constructor <;> omega, rfl, b02⟩
  simp (disch := first | omega | exact okFill_t rfl | exact okSize_t rfl | exact fun h => h | (simp only [World.size_alloc, World.size_drew, World.size_setCell, size_fill, bytesW]; omega)) only [go_sem, c125, c125S0, c125S1, c125S2, c125S4, c125S5, ao]
  repeat' first | with_reducible apply And.intro | with_reducible intro h
  all_goals first
    | exact b1
    | exact S3 (by omega)
    | (exfalso; omega)
    | (rw [x1 (by omega) (by assumption)])
    | (rw [x2 (by omega) (by assumption) (by omega)])
    | (rw [x3 (by omega) (by assumption) (by omega)])
    | (exfalso; omega)
theorem rsign0 {w4 : World} {Q : Post} {q : Addr} {c k i b0 : Nat} {x : UInt8} {v5 : Value} {o : OpT} (hs : s.ok) (hoo : s.has o) (hwo : o.wf) (hk : k < s.wd) (hil : i < l.length) (hl : l.length ≤ 100) (s4 : St w w4 (fun _ => False) [.blk b0 s.enc.toArray 75] [])
    (h : RdS w 11 OpT.enc (.slice (some q) l.length c) l) (hoe : o = l[i])
    (hQ : ∀ w', St w w' (fun _ => False) [.blk b0 s.enc.toArray 75] [] → Q .normal [(1, .slice (some q) l.length c), (2, .pointer (some ⟨b0, 0, none⟩)), (5, v5), (6, .int .i64 k), (7, .string (ofL [barF s o (fun _ => x) k])), (8, .int .i64 i)] w') :
    W Tryz.prog (c85S0 ()) [(1, .slice (some q) l.length c), (2, .pointer (some ⟨b0, 0, none⟩)), (5, v5), (6, .int .i64 k), (7, .string (ofL [x])), (8, .int .i64 i), (9, .int .i64 (s.a o)), (10, .int .i64 (s.b o))] w4 (blockQ 3 Q) := by
  obtain ⟨ab, bw, _, _⟩ := Sc.ab hs hoo
  have hwd := hs.wd1
  have hil' : (i : Int) < l.length := by omega
  have ci := cellsO_below s4.bel (h.at OpT.len hil)
  rw [← hoe] at ci
  have no : ¬ (s.a o ≤ k ∧ k ≤ s.b o) → Q .normal [(1, .slice (some q) l.length c), (2, .pointer (some ⟨b0, 0, none⟩)), (5, v5), (6, .int .i64 k), (7, .string (ofL [x])), (8, .int .i64 i)] w4 := fun hn => by
    have := hQ _ s4
    unfold barF at this
    rw [if_neg hn] at this
    exact this
  have yes : ∀ w', (s.a o ≤ k ∧ k ≤ s.b o) → Below w4.heap.size w4 w' → Q .normal [(1, .slice (some q) l.length c), (2, .pointer (some ⟨b0, 0, none⟩)), (5, v5), (6, .int .i64 k), (7, .string (ofL [signB o (s.a o) (s.b o) k])), (8, .int .i64 i)] w' := fun w' hn hb => by
    have := hQ _ (s4.call hb)
    unfold barF at this
    rw [if_pos hn] at this
    exact this
  clear hQ
  simp (disch := first | omega | exact okFill_t rfl | exact okSize_t rfl | exact fun h => h | (simp only [World.size_alloc, World.size_drew, World.size_setCell, size_fill, bytesW]; omega)) only [go_sem, c85, c85S0, c85S1, c85S2, c85S3, c85L0, c85S4, c85S5, c85S6, c85L1, c85S7, hil', ci]
  repeat' first | with_reducible apply And.intro | with_reducible intro h
  all_goals first
    | omega
    | exact no (by omega)
    | (refine Ret.mono (sign_ok hwo (by omega) (by omega) (by omega)) ?_
       rintro _ w5 ⟨rfl, b5⟩
       simp (disch := first | omega | exact okFill_t rfl | exact okSize_t rfl | exact fun h => h | (simp only [World.size_alloc, World.size_drew, World.size_setCell, size_fill, bytesW]; omega)) only [go_sem, c85, c85S0, c85S1, c85S2, c85S3, c85L0, c85S4, c85S5, c85S6, c85L1, c85S7]
       exact yes _ (by omega) b5)
theorem rrow_ok (h : RdS w 11 OpT.enc va l) (hl : l.length ≤ 100) (hw : ∀ o ∈ l, o.wf) (hs : s.ok) (ho : ∀ o ∈ l, s.has o) : Ret Tryz.prog 85 [.agg s.enc.toArray, va] w fun u w' => u = .string (ofL (rowL s l)) ∧ Below w.heap.size w w' := by
  obtain ⟨a, c, rfl, _⟩ := h.form
  have hwd := hs.wd1
  refine ent85 _ _ _ _ ?_
  have s1 := (St.start (W0 := w)).box s.enc.toArray 75
  have asc := s.at_
  obtain ⟨b0, hb0⟩ : ∃ b, b = w.heap.size := ⟨_, rfl⟩
  simp (disch := first | omega | exact okFill_t rfl | exact okSize_t rfl | exact fun h => h | (simp only [World.size_alloc, World.size_drew, World.size_setCell, size_fill, bytesW]; omega)) only [go_sem, c85, c85S0, c85S1, c85S2, c85S3, c85L0, c85S4, c85S5, c85S6, c85S7, asc]
  rw [← hb0] at s1 ⊢
  generalize w.alloc (.cells s.enc.toArray 75) = w1 at s1 ⊢
  refine W_loopU (fun k : Nat => [(5, .string (ofL (bytesF k (rowF s l)))), (6, .int .i64 k)]) (fun k w' => k ≤ s.wd ∧ St w w' (fun _ => False) [.blk b0 s.enc.toArray 75] []) (fun k => s.wd - k) 0 rfl ⟨Nat.zero_le _, s1⟩ ?_
  rintro k w2 ⟨hk, s2⟩
  have r2 := s2.rules 0 rfl
  by_cases hlt : k < s.wd
  · have hlt' : (k : Int) < s.wd := by omega
    simp (disch := first | omega | exact okFill_t rfl | exact okSize_t rfl | exact fun h => h | (simp only [World.size_alloc, World.size_drew, World.size_setCell, size_fill, bytesW]; omega)) only [go_sem, c85, c85S0, c85S1, c85S2, c85S3, c85S5, c85S6, c85L1, c85S7, c85L1, r2, asc, hlt']
    refine W_loopU (fun i : Nat => [(7, .string (ofL [rowF s (l.take i) k])), (8, .int .i64 i)]) (fun i w' => i ≤ l.length ∧ St w w' (fun _ => False) [.blk b0 s.enc.toArray 75] []) (fun i => l.length - i) 0 rfl ⟨Nat.zero_le _, s2⟩ ?_
    rintro i w3 ⟨hi, s3⟩
    by_cases hil : i < l.length
    · have hil' : (i : Int) < l.length := by omega
      obtain ⟨q, rfl⟩ := h.ptr (by omega)
      have r3 := s3.rules 0 rfl
      have ei := h.eltB s3.bel OpT.len (by decide) hil
      have ci := cellsO_below s3.bel (h.at OpT.len hil)
      have ai := l[i].at
      simp (disch := first | omega | exact okFill_t rfl | exact okSize_t rfl | exact fun h => h | (simp only [World.size_alloc, World.size_drew, World.size_setCell, size_fill, bytesW]; omega)) only [go_sem, c85, c85S0, c85S2, c85S3, c85L0, c85S5, c85S6, c85L1, c85S7, c85L0, hil']
      refine c85draw0 (Chg (fun _ => False) _) (Chg.refl _ _) ?_
      have low := s3.low 0 rfl
      have hq := h.blt OpT.len (by decide) (by omega)
      have hd3 : w3.drew.heap.size = w3.heap.size := rfl
      have hsz := s3.size
      simp (disch := first | omega | exact okFill_t rfl | exact okSize_t rfl | exact fun h => h | (simp only [World.size_alloc, World.size_drew, World.size_setCell, size_fill, bytesW]; omega)) only [go_sem, c85, c85S0, c85S2, c85S3, c85L0, c85S5, c85S6, c85L1, c85S7, c85D0, hil', r3, asc, ei, ai]
      have hm := List.getElem_mem hil
      have e1 := rowF_snoc s (l.take i) l[i]
      rw [← List.take_succ_eq_append_getElem hil] at e1
      obtain ⟨o, hoe⟩ : ∃ o, o = l[i] := ⟨_, rfl⟩
      rw [← hoe] at ei ci ai hm e1 ⊢
      have hoo := ho o hm
      obtain ⟨ab, bw, ea, eb⟩ := Sc.ab hs hoo
      have hr2 : o.Return ≤ 2199023255552 := Int.le_trans hoo.r2 hs.hi1
      have hi2 : o.Invoke ≤ 2199023255552 := Int.le_trans hoo.i2 hs.hi1
      refine ⟨by omega, by constructor <;> omega, Ret.mono (rcolumn_ok hs _ hoo.i1 hi2) ?_⟩
      rintro _ w4 ⟨rfl, b4⟩
      have b34 : Below w3.heap.size w3 w4 := (Below.refl _ w3).drew.trans b4
      have s4 := s3.call b34
      have r4 := s4.rules 0 rfl
      have ei4 := h.eltB s4.bel OpT.len (by decide) hil
      have ci4 := cellsO_below s4.bel (h.at OpT.len hil)
      rw [← hoe] at ei4 ci4
      simp (disch := first | omega | exact okFill_t rfl | exact okSize_t rfl | exact fun h => h | (simp only [World.size_alloc, World.size_drew, World.size_setCell, size_fill, bytesW]; omega)) only [go_sem, c85, c85S1, c85S2, c85S3, c85L0, c85S5, c85S6, c85L1, c85S7, c85D0, hil', r3, asc, ei4, ai]
      rw [ea]
      have e1' : rowF s (l.take (i + 1)) k = barF s o (fun _ => rowF s (l.take i) k) k := by rw [e1]; rfl
      refine ⟨Chg.of_below b4, by omega, fun hd => ?_, fun hd => ?_⟩
      · rw [if_pos hd] at eb
        refine c85draw1 (Chg (fun _ => False) _) (Chg.refl _ _) ?_
        have hd4 : w4.drew.heap.size = w4.heap.size := rfl
        have low4 := s4.low 0 rfl
        simp (disch := first | omega | exact okFill_t rfl | exact okSize_t rfl | exact fun h => h | (simp only [World.size_alloc, World.size_drew, World.size_setCell, size_fill, bytesW]; omega)) only [go_sem, c85, c85S1, c85S2, c85S3, c85L0, c85S5, c85S6, c85L1, c85S7, c85D1, hil', r4, asc, ei4, ai]
        refine ⟨by omega, Ret.mono (rcolumn_ok hs _ (Int.le_trans hoo.i1 (hoo.r1 hd)) hr2) ?_⟩
        rintro _ w5 ⟨rfl, b5⟩
        have s5 := s4.call ((Below.refl _ w4).drew.trans b5)
        simp (disch := first | omega | exact okFill_t rfl | exact okSize_t rfl | exact fun h => h | (simp only [World.size_alloc, World.size_drew, World.size_setCell, size_fill, bytesW]; omega)) only [go_sem, c85, c85S1, c85S2, c85S3, c85L0, c85S5, c85S6, c85L1, c85S7, c85D1]
        rw [eb]
        refine rsign0 hs hoo (hw o hm) hlt hil hl s5 h hoe fun w' s6 => ?_
        simp (disch := first | omega | exact okFill_t rfl | exact okSize_t rfl | exact fun h => h | (simp only [World.size_alloc, World.size_drew, World.size_setCell, size_fill, bytesW]; omega)) only [go_sem, c85, c85S0, c85S1, c85S2, c85S3, c85L0, c85S5, c85S6, c85L1, c85S7]
        rw [← e1']
        exact ⟨by constructor <;> omega, i + 1, rfl, ⟨by omega, s6⟩, by omega⟩
      · rw [if_neg (by rw [hd]; decide)] at eb
        rw [eb]
        refine rsign0 hs hoo (hw o hm) hlt hil hl s4 h hoe fun w' s5 => ?_
        simp (disch := first | omega | exact okFill_t rfl | exact okSize_t rfl | exact fun h => h | (simp only [World.size_alloc, World.size_drew, World.size_setCell, size_fill, bytesW]; omega)) only [go_sem, c85, c85S0, c85S1, c85S2, c85S3, c85L0, c85S5, c85S6, c85L1, c85S7]
        rw [← e1']
        exact ⟨by constructor <;> omega, i + 1, rfl, ⟨by omega, s5⟩, by omega⟩
    · have hil' : ¬ (i : Int) < l.length := by omega
      have hii : i = l.length := by omega
      subst hii
      rw [List.take_length]
      simp (disch := first | omega | exact okFill_t rfl | exact okSize_t rfl | exact fun h => h | (simp only [World.size_alloc, World.size_drew, World.size_setCell, size_fill, bytesW]; omega)) only [go_sem, c85, c85S0, c85S1, c85S2, c85S3, c85L0, c85S4, c85S5, c85S6, c85L1, c85S7, c85L0, hil']
      have hbl := bytesF_len k (rowF s l)
      exact ⟨by omega, by constructor <;> omega, k + 1, by rw [bytesF_snoc]; rfl, ⟨hlt, s3⟩, by omega⟩
  · have hlt' : ¬ (k : Int) < s.wd := by omega
    have hkk : k = s.wd := by omega
    subst hkk
    simp (disch := first | omega | exact okFill_t rfl | exact okSize_t rfl | exact fun h => h | (simp only [World.size_alloc, World.size_drew, World.size_setCell, size_fill, bytesW]; omega)) only [go_sem, c85, c85S0, c85S1, c85S2, c85S3, c85L0, c85S4, c85S5, c85S6, c85L1, c85S7, c85L1, r2, asc, hlt']
    rw [hb0]
    exact ⟨rfl, s2.bel⟩
end
end Go.Proofs.YtmdhcpghofadcaaGreat

namespace Go.Proofs.YtmdhcpghofadcaaGreat
set_option linter.unusedSimpArgs false
set_option linter.unusedVariables false
set_option maxRecDepth 100000
open Go Go.Ann Go.RowKit Go.WideShapes Go.Shelf
theorem headL_len {l : List UInt8} (h : l.length ≤ 7) : (headL l).length = 7 := by unfold headL; simp; omega
theorem head_ok (l : List UInt8) (hl : l.length ≤ 7) (w : World) : Ret Tryz.prog 39 [.string (ofL l)] w fun u w' => u = .string (ofL (headL l)) ∧ Below w.heap.size w w' := by
  refine ent39 _ _ _ ?_
  simp (disch := first | omega | exact okFill_t rfl | exact okSize_t rfl | exact fun h => h | (simp only [World.size_alloc, World.size_drew, World.size_setCell, size_fill, bytesW]; omega)) only [go_sem, c39, c39S0]
  refine Ret.mono (repeat_ok 32 7 (by decide) w) ?_
  rintro _ w2 ⟨rfl, b2⟩
  simp (disch := first | omega | exact okFill_t rfl | exact okSize_t rfl | exact fun h => h | (simp only [World.size_alloc, World.size_drew, World.size_setCell, size_fill, bytesW]; omega)) only [go_sem, c39, c39S0]
  have e : List.take 7 (l ++ List.replicate 7 32) = headL l := by
    unfold headL
    rw [List.take_append, List.take_of_length_le (by omega), List.take_replicate, Nat.min_eq_left (by omega)]
  rw [e]
  exact ⟨by rw [List.length_replicate]; omega, by rw [List.length_append, List.length_replicate]; omega, rfl, b2⟩
theorem rhead_ok (l : List UInt8) (hl : l.length ≤ 7) (w : World) : Ret Tryz.prog 47 [.string (ofL l)] w fun u w' => u = .string (ofL (headL l)) ∧ Below w.heap.size w w' := by
  refine ent47 _ _ _ ?_
  simp (disch := first | omega | exact okFill_t rfl | exact okSize_t rfl | exact fun h => h | (simp only [World.size_alloc, World.size_drew, World.size_setCell, size_fill, bytesW]; omega)) only [go_sem, c47, c47S0, c47S1]
  refine W_loopU (fun k : Nat => [(0, .string (ofL (l ++ List.replicate k 32)))]) (fun k w' => l.length + k ≤ 7 ∧ w' = w) (fun k => 7 - k) 0 (by rw [List.replicate_zero, List.append_nil]; rfl) ⟨by omega, rfl⟩ ?_
  rintro k _ ⟨hk, rfl⟩
  have hlen : (l ++ List.replicate k (32 : UInt8)).length = l.length + k := by simp
  by_cases hlt : l.length + k < 7
  · have hlt' : ((l.length + k : Nat) : Int) < 7 := by omega
    simp (disch := first | omega | exact okFill_t rfl | exact okSize_t rfl | exact fun h => h | (simp only [World.size_alloc, World.size_drew, World.size_setCell, size_fill, bytesW]; omega)) only [go_sem, c47, c47S0, c47L0, c47S1, c47L0, hlen, hlt']
    exact ⟨fun _ => ⟨by omega, k + 1, by rw [List.replicate_succ', List.append_assoc], by omega, by omega⟩, fun h => by omega⟩
  · have hlt' : ¬ ((l.length + k : Nat) : Int) < 7 := by omega
    have e : l ++ List.replicate k 32 = headL l := by unfold headL; rw [show 7 - l.length = k by omega]
    simp (disch := first | omega | exact okFill_t rfl | exact okSize_t rfl | exact fun h => h | (simp only [World.size_alloc, World.size_drew, World.size_setCell, size_fill, bytesW]; omega)) only [go_sem, c47, c47S0, c47L0, c47S1, c47L0, hlen, hlt']
    exact ⟨fun h => by omega, fun _ => ⟨by rw [e], Below.refl _ _⟩⟩
theorem proc_len {n : Int} (h0 : 0 ≤ n) (h1 : n ≤ 1023) : (numL n).length ≤ 4 := by
  unfold numL
  rw [if_neg (by omega)]
  exact decL_len _ 4 (by omega) (by decide)
theorem linesL_snoc (s : Sc) (P : List (List OpT)) (p : List OpT) : linesL s (P ++ [p]) = linesL s P ++ lineL s p := by
  simp [linesL, List.flatMap_append]
theorem lineL_len {s : Sc} {p : List OpT} (h0 : 0 ≤ procOf p) (h1 : procOf p ≤ 1023) : (lineL s p).length = 8 + s.wd := by
  have := proc_len h0 h1
  unfold lineL
  rw [List.length_append, List.length_append, headL_len (by rw [List.length_cons]; omega)]
  unfold rowL
  rw [bytesF_len]; simp; omega
theorem linesL_len {s : Sc} : ∀ {P : List (List OpT)}, (∀ p ∈ P, 0 ≤ procOf p ∧ procOf p ≤ 1023) → (linesL s P).length = P.length * (8 + s.wd)
  | [], _ => by simp [linesL]
  | p :: P, h => by
    have h1 := h p List.mem_cons_self
    have ih := linesL_len (s := s) (P := P) fun q hq => h q (List.mem_cons_of_mem _ hq)
    have e : linesL s (p :: P) = lineL s p ++ linesL s P := by simp [linesL]
    rw [e, List.length_append, ih, lineL_len h1.1 h1.2, List.length_cons, Nat.add_mul]; omega
theorem prog_in {l : List OpT} {acc : List Seg} (h : ByProc l acc) {s : Seg} (hs : s ∈ acc) : (∀ o ∈ s.ops, o ∈ l ∧ o.Proc = s.obj) ∧ s.ops ≠ [] ∧ procOf s.ops = s.obj ∧ s.ops.length ≤ l.length := by
  have h1 : ∀ o ∈ s.ops, o ∈ l ∧ o.Proc = s.obj := fun o ho => by
    have := (h.sorts s hs).1.mem_iff.1 ho
    unfold ofProc at this
    rw [List.mem_filter, decide_eq_true_eq] at this
    exact this
  obtain ⟨o, r, e, _⟩ := h.kind s hs
  refine ⟨h1, by rw [e]; simp, ?_, ?_⟩
  · rw [e]; exact (h1 o (by rw [e]; exact List.mem_cons_self)).2
  · have := (h.sorts s hs).1.length_eq
    have := ofProc_len s.obj l
    omega
theorem prog_few {l : List OpT} {acc : List Seg} (h : ByProc l acc) : acc.length ≤ l.length := by
  have hn : (acc.map Seg.obj).Nodup := by
    unfold List.Nodup
    rw [List.pairwise_map]
    exact h.up.imp fun h => by omega
  have hs : ∀ x ∈ acc.map Seg.obj, x ∈ l.map OpT.Proc := fun x hx => by
    obtain ⟨s, hs, rfl⟩ := List.mem_map.1 hx
    obtain ⟨h1, h2, _, _⟩ := prog_in h hs
    obtain ⟨o, r, e⟩ := List.exists_cons_of_ne_nil h2
    have := h1 o (by rw [e]; exact List.mem_cons_self)
    rw [← this.2]
    exact List.mem_map_of_mem this.1
  have key : ∀ (D d : List Int), D.Nodup → (∀ x ∈ D, x ∈ d) → D.length ≤ d.length := by
    intro D
    induction D with
    | nil => intro d _ _; exact Nat.zero_le _
    | cons a D ih =>
      intro d nd hs
      rw [List.nodup_cons] at nd
      have h1 : ∀ x ∈ D, x ∈ d.erase a := fun x hx => (List.mem_erase_of_ne (fun e => nd.1 (by rw [← e]; exact hx))).2 (hs x (List.mem_cons_of_mem _ hx))
      have := ih _ nd.2 h1
      have ha := hs a (List.mem_cons_self ..)
      rw [List.length_erase_of_mem ha] at this
      have := List.length_pos_of_mem ha
      rw [List.length_cons]; omega
  have := key _ _ hn hs
  simpa using this
structure HistG (l : List OpT) : Prop where
  len : l.length ≤ 100
  wf : ∀ o ∈ l, o.wf
  g : ∀ o ∈ l, OpG o
section
variable {va : Value} {l : List OpT} {w : World} {s : Sc}
theorem rrows_ok (h : RdS w 11 OpT.enc va l) (hh : HistG l) (hs : s.ok) (ho : ∀ o ∈ l, s.has o) : Ret Tryz.prog 46 [.agg s.enc.toArray, va] w fun u w' => (∃ acc, ByProc l acc ∧ u = .string (ofL (linesL s (acc.map Seg.ops)))) ∧ Below w.heap.size w w' := by
  obtain ⟨hl, hw, hg⟩ := hh
  obtain ⟨a, c, rfl, _⟩ := h.form
  have hwd := hs.wd1
  refine ent46 _ _ _ _ ?_
  have s1 := (St.start (W0 := w)).box s.enc.toArray 75
  have asc := s.at_
  obtain ⟨b0, hb0⟩ : ∃ b, b = w.heap.size := ⟨_, rfl⟩
  simp (disch := first | omega | exact okFill_t rfl | exact okSize_t rfl | exact fun h => h | (simp only [World.size_alloc, World.size_drew, World.size_setCell, size_fill, bytesW]; omega)) only [go_sem, c46, c46S0, c46S1, c46S2, c46S3, asc]
  rw [← hb0] at s1 ⊢
  generalize w.alloc (.cells s.enc.toArray 75) = w1 at s1 ⊢
  refine Ret.mono (rprograms_ok _ _ _ (h.below s1.bel (by decide)) hl) ?_
  rintro u w2 ⟨⟨acc, hacc, hu⟩, b2⟩
  have s2 := s1.call b2
  obtain ⟨pu, cu, rfl, _⟩ := hu.form
  have few := prog_few hacc
  have hpr : ∀ p ∈ acc.map Seg.ops, 0 ≤ procOf p ∧ procOf p ≤ 1023 := fun p hp => by
    obtain ⟨x, hx, rfl⟩ := List.mem_map.1 hp
    obtain ⟨h1, h2, h3, _⟩ := prog_in hacc hx
    obtain ⟨o, r, e⟩ := List.exists_cons_of_ne_nil h2
    have := h1 o (by rw [e]; exact List.mem_cons_self)
    rw [h3, ← this.2]
    exact ⟨(hg o this.1).p0, (hg o this.1).p1⟩
  simp (disch := first | omega | exact okFill_t rfl | exact okSize_t rfl | exact fun h => h | (simp only [World.size_alloc, World.size_drew, World.size_setCell, size_fill, bytesW]; omega)) only [go_sem, c46, c46S0, c46S1, c46S2, c46S3]
  refine W_loopU (fun k : Nat => [(5, .string (ofL (linesL s ((acc.take k).map Seg.ops)))), (7, .int .i64 k)]) (fun k w' => k ≤ acc.length ∧ Below w2.heap.size w2 w' ∧ St w w' (fun _ => False) [.blk b0 s.enc.toArray 75] []) (fun k => acc.length - k) 0 rfl ⟨Nat.zero_le _, Below.refl _ _, s2⟩ ?_
  rintro k w3 ⟨hk, b3, s3⟩
  by_cases hlt : k < acc.length
  · have hlt' : (k : Int) < acc.length := by omega
    obtain ⟨q, rfl⟩ := hu.ptr (by omega)
    have hu3 := hu.below b3 (by decide) fun x c => progR.below b3 x c
    simp (disch := first | omega | exact okFill_t rfl | exact okSize_t rfl | exact fun h => h | (simp only [World.size_alloc, World.size_drew, World.size_setCell, size_fill, bytesW]; omega)) only [go_sem, c46, c46S0, c46S1, c46L0, c46S2, c46S3, c46L0, hlt']
    refine c46draw0 (Chg (fun _ => False) _) (Chg.refl _ _) ?_
    have s4 := s3.drew
    have r4 := s4.rules 0 rfl
    have low4 := s4.low 0 rfl
    have hu4 : RdR w3.drew 1 progR _ acc := hu3.below (Below.refl _ w3).drew (by decide) fun x c => progR.below (Below.refl _ w3).drew x c
    have hq := hu4.blt (by decide) (by omega)
    obtain ⟨_, _, ⟨vp, rfl, hvp, _⟩, ek1, ek⟩ := hu4.elt (by decide) hlt
    rw [Nat.mul_one] at ek ek1
    have ek0 := ek.1
    clear ek
    have hm := List.getElem_mem hlt
    have et := List.take_succ_eq_append_getElem hlt
    obtain ⟨p, hp⟩ : ∃ p, p = acc[k] := ⟨_, rfl⟩
    rw [← hp] at hvp hm et
    have e1 : linesL s ((acc.take (k + 1)).map Seg.ops) = linesL s ((acc.take k).map Seg.ops) ++ lineL s p.ops := by rw [et, List.map_append]; exact linesL_snoc _ _ _
    obtain ⟨h1, h2, h3, h4⟩ := prog_in hacc hm
    have hpp := hpr p.ops (List.mem_map_of_mem hm)
    obtain ⟨o, r, e⟩ := List.exists_cons_of_ne_nil h2
    have ht : (linesL s ((acc.take k).map Seg.ops)).length ≤ 100 * 208 := by
      rw [linesL_len fun q hq => hpr q (by obtain ⟨x, hx, rfl⟩ := List.mem_map.1 hq; exact List.mem_map_of_mem (List.mem_of_mem_take hx)), List.length_map, List.length_take]
      exact Nat.mul_le_mul (by omega) (by omega)
    have b24 : Below w2.heap.size w2 w3.drew := b3.drew
    generalize w3.drew = w4 at s4 r4 low4 hu4 hq hvp ek1 ek0 b24 ⊢
    obtain ⟨pp, cp, rfl, _⟩ := hvp.form
    obtain ⟨pp, rfl⟩ := hvp.ptr (by rw [e]; simp)
    have hpl := hvp.blt OpT.len (by decide) (by rw [e]; simp)
    have e0 := hvp.elt OpT.len (by decide) (show 0 < p.ops.length by rw [e]; simp)
    have eo : p.ops[0]'(by rw [e]; simp) = o := by simp [e]
    rw [eo] at e0
    have ao := o.at
    have e9 : w4.cell? ⟨pp.block, pp.off + 1, none⟩ = some (.int .i64 o.Proc) := by
      have := e0.2 1 (by decide) (by decide)
      simpa [ao] using this
    simp only [List.getElem?_cons_zero] at ek0
    have hP : I64 o.Proc := by
      have h0 := (hg o (h1 o (by rw [e]; exact List.mem_cons_self)).1)
      have := h0.p0; have := h0.p1
      constructor <;> omega
    have hpo : procOf p.ops = o.Proc := by rw [e]; rfl
    have hpl4 := proc_len hpp.1 hpp.2
    rw [hpo] at hpl4
    have hlen0 : 0 < p.ops.length := by rw [e]; simp
    simp (disch := first | omega | exact okFill_t rfl | exact okSize_t rfl | exact fun h => h | (simp only [World.size_alloc, World.size_drew, World.size_setCell, size_fill, bytesW]; omega)) only [go_sem, c46, c46S0, c46S1, c46L0, c46S2, c46S3, c46D0, hlt', r4, asc, ek0, e9]
    refine ⟨by omega, by omega, by omega, Ret.mono (number_ok _ w4 hP) ?_⟩
    rintro _ w5 ⟨rfl, b5⟩
    simp (disch := first | omega | exact okFill_t rfl | exact okSize_t rfl | exact fun h => h | (simp only [World.size_alloc, World.size_drew, World.size_setCell, size_fill, bytesW]; omega)) only [go_sem, c46, c46S0, c46S1, c46L0, c46S2, c46S3, c46D0, hlt', r4, asc, ek0, e9]
    refine ⟨Chg.of_below b5, by omega, Ret.mono (rhead_ok (112 :: numL o.Proc) (by rw [List.length_cons]; omega) w5) ?_⟩
    rintro _ w6 ⟨rfl, b6⟩
    have b46 := b5.trans (b6.mono b5.size)
    have hhl : (headL (112 :: numL o.Proc)).length = 7 := headL_len (by rw [List.length_cons]; omega)
    simp (disch := first | omega | exact okFill_t rfl | exact okSize_t rfl | exact fun h => h | (simp only [World.size_alloc, World.size_drew, World.size_setCell, size_fill, bytesW]; omega)) only [go_sem, c46, c46S0, c46S1, c46L0, c46S2, c46S3, c46D0, hlt', r4, asc, ek0, e9]
    refine ⟨Chg.of_below b46, by omega, Ret.mono (rrow_ok (hvp.below b46 (by decide)) (by omega) (fun x hx => hw x (h1 x hx).1) hs (fun x hx => ho x (h1 x hx).1)) ?_⟩
    rintro _ w7 ⟨rfl, b7⟩
    have b47 := b46.trans (b7.mono b46.size)
    have hrl : (rowL s p.ops).length = s.wd := bytesF_len _ _
    have hlen2 : (linesL s ((acc.take k).map Seg.ops) ++ headL (112 :: numL o.Proc)).length ≤ 100 * 208 + 7 := by rw [List.length_append]; omega
    simp (disch := first | omega | exact okFill_t rfl | exact okSize_t rfl | exact fun h => h | (simp only [World.size_alloc, World.size_drew, World.size_setCell, size_fill, bytesW]; omega)) only [go_sem, c46, c46S0, c46S1, c46L0, c46S2, c46S3, c46D0, hlt', r4, asc, ek0, e9]
    refine ⟨Chg.of_below b47, by omega, by rw [List.length_append]; omega, by constructor <;> omega, k + 1, ?_, ⟨hlt, b24.trans (b47.mono b24.size), s4.call b47⟩, by omega⟩
    rw [e1]
    unfold lineL
    rw [hpo]
    simp only [List.append_assoc]
    rfl
  · have hlt' : ¬ (k : Int) < acc.length := by omega
    have hkk : k = acc.length := by omega
    subst hkk
    rw [List.take_length]
    simp (disch := first | omega | exact okFill_t rfl | exact okSize_t rfl | exact fun h => h | (simp only [World.size_alloc, World.size_drew, World.size_setCell, size_fill, bytesW]; omega)) only [go_sem, c46, c46S0, c46S1, c46L0, c46S2, c46S3, c46L0, hlt']
    rw [hb0]
    exact ⟨⟨acc, hacc, rfl⟩, s3.bel⟩
end
def DrawR (l : List OpT) (width : Int) (u : Value) : Prop := (¬ (8 ≤ width ∧ width ≤ 200) ∧ u = .tuple #[.string (ofL []), .int .i64 1]) ∨ ((8 ≤ width ∧ width ≤ 200) ∧ ∃ acc, ByProc l acc ∧ u = .tuple #[.string (ofL (linesL (scOf l width.toNat) (acc.map Seg.ops))), .int .i64 0])
section
variable {va : Value} {l : List OpT} {w : World} {s : Sc}
end
end Go.Proofs.YtmdhcpghofadcaaGreat

namespace Go.Proofs.YtmdhcpghofadcaaGreat
set_option linter.unusedSimpArgs false
set_option linter.unusedVariables false
set_option maxRecDepth 100000
open Go Go.Ann Go.RowKit Go.WideShapes Go.Shelf
section
variable {va : Value} {l : List OpT} {w : World} {s : Sc}
theorem draw_ok (h : RdS w 11 OpT.enc va l) (hh : HistG l) (width : Int) : Ret Tryz.prog 34 [va, .int .i64 width] w fun u w' => DrawR l width u ∧ Below w.heap.size w w' := by
  refine ent34 _ _ _ _ ?_
  simp (disch := first | omega | exact okFill_t rfl | exact okSize_t rfl | exact fun h => h | (simp only [World.size_alloc, World.size_drew, World.size_setCell, size_fill, bytesW]; omega)) only [go_sem, c34, c34S0, c34S1, c34L0, c34S2, c34S3, c34S4, c34S5]
  refine ⟨fun h1 => ⟨fun h2 => ⟨.inl ⟨by omega, rfl⟩, Below.refl _ _⟩, fun h2 => ?_⟩, fun h1 => ⟨.inl ⟨by omega, rfl⟩, Below.refl _ _⟩⟩
  obtain ⟨wd, rfl⟩ : ∃ wd : Nat, width = wd := ⟨width.toNat, by omega⟩
  obtain ⟨hs, hho⟩ := scOf_ok hh.g (show 8 ≤ wd by omega) (show wd ≤ 200 by omega)
  simp (disch := first | omega | exact okFill_t rfl | exact okSize_t rfl | exact fun h => h | (simp only [World.size_alloc, World.size_drew, World.size_setCell, size_fill, bytesW]; omega)) only [go_sem, c34, c34S0, c34S1, c34L0, c34S2, c34S3, c34S4, c34S6]
  refine Ret.mono (over_ok h hh.len hh.wf hh.g wd (by omega)) ?_
  rintro _ w2 ⟨rfl, b2⟩
  obtain ⟨sc, hsc⟩ : ∃ sc, sc = scOf l wd := ⟨_, rfl⟩
  have hwde : sc.wd = wd := by rw [hsc]; rfl
  rw [← hsc] at hs hho ⊢
  obtain ⟨hl, hw, hg⟩ := hh
  have s1 := ((((St.start (W0 := w)).call b2).box sc.enc.toArray 58).box #[.pointer none, .slice none 0 0] 63).nilRow 5 1
  simp only [World.size_alloc] at s1
  have asc := sc.at_
  simp (disch := first | omega | exact okFill_t rfl | exact okSize_t rfl | exact fun h => h | (simp only [World.size_alloc, World.size_drew, World.size_setCell, size_fill, bytesW]; omega)) only [go_sem, c34, c34S0, c34S1, c34L0, c34S3, c34S5, c34S6]
  refine ⟨sc.len.symm, ?_⟩
  generalize w2.heap.size = b6 at s1 ⊢
  generalize (w2.alloc (.cells sc.enc.toArray 58)).alloc (.cells #[.pointer none, .slice none 0 0] 63) = w3 at s1 ⊢
  obtain ⟨b7, hb7⟩ : ∃ b, b = b6 + 1 := ⟨_, rfl⟩
  rw [← hb7] at s1 ⊢
  have s2 : St w w3 (fun _ => False) (BuL b7 (.pointer none) (.slice none 0 0) [] ++ [.blk b6 sc.enc.toArray 58]) [] := s1.perm (List.Perm.swap ..)
  refine Ret.mono (programs_ok va l w3 (h.below s2.bel (by decide)) hl) ?_
  rintro u w4 ⟨⟨acc, vls, hacc, hP⟩, b4⟩
  have s3 := s2.made b4 (frz w4 w3.heap.size) (fun k _ _ => rfl) fun k hk => hk
  clear s1 s2
  obtain ⟨pu, cu, rfl, _⟩ := hP.top.form
  have hvl := hP.len
  have few := prog_few hacc
  have hpr : ∀ p ∈ acc.map Seg.ops, 0 ≤ procOf p ∧ procOf p ≤ 1023 := fun p hp => by
    obtain ⟨x, hx, rfl⟩ := List.mem_map.1 hp
    obtain ⟨h1, h2, h3, _⟩ := prog_in hacc hx
    obtain ⟨o, r, e⟩ := List.exists_cons_of_ne_nil h2
    have := h1 o (by rw [e]; exact List.mem_cons_self)
    rw [h3, ← this.2]
    exact ⟨(hg o this.1).p0, (hg o this.1).p1⟩
  have hlen : ∀ k, (linesL sc ((acc.take k).map Seg.ops)).length ≤ 100 * 208 := fun k => by
    rw [linesL_len fun q hq => hpr q (by obtain ⟨x, hx, rfl⟩ := List.mem_map.1 hq; exact List.mem_map_of_mem (List.mem_of_mem_take hx)), List.length_map, List.length_take]
    exact Nat.mul_le_mul (by omega) (by omega)
  simp (disch := first | omega | exact okFill_t rfl | exact okSize_t rfl | exact fun h => h | (simp only [World.size_alloc, World.size_drew, World.size_setCell, size_fill, bytesW]; omega)) only [go_sem, c34, c34S0, c34S1, c34S2, c34S3, c34S5, c34S6]
  refine W_loopU (fun k : Nat => [(22, .int .i64 k)]) (fun k w' => k ≤ acc.length ∧ ∃ p v, BuOk b7 p v (linesL sc ((acc.take k).map Seg.ops)) ∧ St w w' (fun _ => False) (BuL b7 p v (linesL sc ((acc.take k).map Seg.ops)) ++ [.blk b6 sc.enc.toArray 58]) [frz w4 w3.heap.size]) (fun k => acc.length - k) 0 (by rw [hvl]; rfl) ⟨Nat.zero_le _, _, _, ⟨.inl rfl, fun _ => rfl⟩, s3⟩ ?_
  clear s3
  rintro k w5 ⟨hk, bp, bv, bok, s5⟩
  have hP5 := hP.frz (s5.get 0 rfl)
  by_cases hlt : k < acc.length
  · have hlt' : (k : Int) < vls.length := by omega
    obtain ⟨q, rfl⟩ := hP5.top.ptr (by omega)
    have hkv : k < vls.length := by omega
    obtain ⟨p, hp⟩ : ∃ p, p = acc[k] := ⟨_, rfl⟩
    have hm : p ∈ acc := by rw [hp]; exact List.getElem_mem hlt
    have et := List.take_succ_eq_append_getElem hlt
    rw [← hp] at et
    obtain ⟨vp, hvpe⟩ : ∃ v, v = vls[k] := ⟨_, rfl⟩
    have hvm : vp ∈ vls := by rw [hvpe]; exact List.getElem_mem hkv
    have ck := (show RdS w5 1 (fun v : Value => [v]) (.slice (some q) vls.length cu) vls from hP5.top).at1 (e1 := fun v => v) hkv
    rw [← hvpe] at ck
    have hvq : vls[k]? = some vp := by rw [hvpe]; exact List.getElem?_eq_getElem hkv
    have haq : acc[k]? = some p := by rw [hp]; exact List.getElem?_eq_getElem hlt
    obtain ⟨hvp, hpl100⟩ := hP5.elt k p vp haq hvq
    have e1 : linesL sc ((acc.take (k + 1)).map Seg.ops) = linesL sc ((acc.take k).map Seg.ops) ++ lineL sc p.ops := by rw [et, List.map_append]; exact linesL_snoc _ _ _
    obtain ⟨hi1, hi2, hi3, hi4⟩ := prog_in hacc hm
    have hpp := hpr p.ops (List.mem_map_of_mem hm)
    obtain ⟨o, r, e⟩ := List.exists_cons_of_ne_nil hi2
    have hlk := hlen k
    obtain ⟨pp, cp, rfl, _⟩ := hvp.form
    obtain ⟨pp, rfl⟩ := hvp.ptr (by rw [e]; simp)
    have e0 := hvp.elt OpT.len (by decide) (show 0 < p.ops.length by rw [e]; simp)
    have eo : p.ops[0]'(by rw [e]; simp) = o := by simp [e]
    rw [eo] at e0
    have ao := o.at
    have hpo : procOf p.ops = o.Proc := by rw [e]; rfl
    have hlen0 : 0 < p.ops.length := by rw [e]; simp
    have hI : I64 o.Proc := by
      have h0 := (hg o (hi1 o (by rw [e]; exact List.mem_cons_self)).1)
      have := h0.p0; have := h0.p1
      constructor <;> omega
    have hpl4 := proc_len hpp.1 hpp.2
    rw [hpo] at hpl4
    have fnew : w3.heap.size ≤ pp.block ∧ pp.block < w4.heap.size := ⟨hP.newE _ hvm pp.block ⟨pp, _, _, rfl, by omega, rfl⟩, (hP.elt k p _ haq hvq).1.footLt (by decide) ⟨pp, _, _, rfl, by omega, rfl⟩⟩
    simp (disch := first | omega | exact okFill_t rfl | exact okSize_t rfl | exact fun h => h | (simp only [World.size_alloc, World.size_drew, World.size_setCell, size_fill, bytesW]; omega)) only [go_sem, c34, c34S0, c34S1, c34L0, c34S2, c34S3, c34S4, c34S5, c34S6, c34L0, hlt', ck]
    refine ⟨by omega, c34draw0 (Same (fun j => j = b6 ∨ j = pp.block) _) (Same.refl _ _) ?_⟩
    have s6 := s5.drew
    have hP6 := hP.frz (s6.get 0 rfl)
    have hvp6 := (hP6.elt k p _ haq hvq).1
    have e0 := hvp6.elt OpT.len (by decide) hlen0
    rw [eo] at e0
    have r6 := s6.rules 2 rfl
    generalize w5.drew = w6 at s6 hP6 hvp6 e0 r6 ⊢
    have e9 : w6.cell? ⟨pp.block, pp.off + 1, none⟩ = some (.int .i64 o.Proc) := by
      have := e0.2 1 (by decide) (by decide)
      simpa [ao] using this
    have sm : ∀ bp' bv' bs' w', St w w' (fun _ => False) (BuL b7 bp' bv' bs' ++ [.blk b6 sc.enc.toArray 58]) [frz w4 w3.heap.size] → Same (fun j => j = b6 ∨ j = pp.block) w6 w' := by
      intro bp' bv' bs' w' h' j hj
      rcases hj with rfl | rfl
      · exact Eq.trans (h'.blk 2 rfl) (s6.blk 2 rfl).symm
      · exact Eq.trans (h'.get 0 rfl _ fnew.1 fnew.2) (s6.get 0 rfl _ fnew.1 fnew.2).symm
    simp (disch := first | omega | exact okFill_t rfl | exact okSize_t rfl | exact fun h => h | (simp only [World.size_alloc, World.size_drew, World.size_setCell, size_fill, bytesW]; omega)) only [go_sem, c34, c34S0, c34S1, c34L0, c34S2, c34S3, c34S5, c34S6, c34D0, r6, asc, e9]
    refine ⟨by omega, Ret.mono (digits_ok _ w6 hI) ?_⟩
    rintro _ w7 ⟨rfl, b7'⟩
    have s7 := s6.call b7'
    simp (disch := first | omega | exact okFill_t rfl | exact okSize_t rfl | exact fun h => h | (simp only [World.size_alloc, World.size_drew, World.size_setCell, size_fill, bytesW]; omega)) only [go_sem, c34, c34S0, c34S1, c34L0, c34S2, c34S3, c34S5, c34S6, c34D0]
    refine ⟨sm _ _ _ _ s7, by omega, Ret.mono (head_ok (112 :: numL o.Proc) (by rw [List.length_cons]; omega) w7) ?_⟩
    rintro _ w8 ⟨rfl, b8⟩
    have s8 := s7.call b8
    have b68 := b7'.trans (b8.mono b7'.size)
    have hhl : (headL (112 :: numL o.Proc)).length = 7 := headL_len (by rw [List.length_cons]; omega)
    simp (disch := first | omega | exact okFill_t rfl | exact okSize_t rfl | exact fun h => h | (simp only [World.size_alloc, World.size_drew, World.size_setCell, size_fill, bytesW]; omega)) only [go_sem, c34, c34S0, c34S1, c34L0, c34S2, c34S3, c34S5, c34S6, c34D0]
    refine ⟨sm _ _ _ _ s8, Ret.mono (row_ok (hvp6.below b68 (by decide)) (by omega) (fun x hx => hw x (hi1 x hx).1) hs (fun x hx => hho x (hi1 x hx).1)) ?_⟩
    rintro _ w9 ⟨rfl, b9⟩
    have s9 := s8.call b9
    have hrl : (rowL sc p.ops).length = sc.wd := bytesF_len _ _
    have hll : (lineL sc p.ops).length = 8 + sc.wd := lineL_len hpp.1 hpp.2
    have ell : headL (112 :: numL o.Proc) ++ rowL sc p.ops ++ [10] = lineL sc p.ops := by unfold lineL; rw [hpo]
    simp (disch := first | omega | exact okFill_t rfl | exact okSize_t rfl | exact fun h => h | (simp only [World.size_alloc, World.size_drew, World.size_setCell, size_fill, bytesW]; omega)) only [go_sem, c34, c34S0, c34S1, c34L0, c34S2, c34S3, c34S5, c34S6, c34D0]
    refine ⟨sm _ _ _ _ s9, by omega, by rw [List.length_append]; omega, ?_⟩
    rw [ell]
    refine Ret.mono (writeS_ok (lineL sc p.ops) s9 bok (by omega)) ?_
    rintro u10 w10 ⟨bp', bv', bok', s10⟩
    rw [← e1] at bok' s10
    simp (disch := first | omega | exact okFill_t rfl | exact okSize_t rfl | exact fun h => h | (simp only [World.size_alloc, World.size_drew, World.size_setCell, size_fill, bytesW]; omega)) only [go_sem, c34, c34S0, c34S1, c34L0, c34S2, c34S3, c34S5, c34S6, c34D0]
    exact ⟨sm _ _ _ _ s10, by constructor <;> omega, k + 1, rfl, ⟨hlt, bp', bv', bok', s10⟩, by omega⟩
  · have hlt' : ¬ (k : Int) < vls.length := by omega
    have hkk : k = acc.length := by omega
    subst hkk
    have hl0 := hlen acc.length
    rw [List.take_length] at s5 bok hl0
    simp (disch := first | omega | exact okFill_t rfl | exact okSize_t rfl | exact fun h => h | (simp only [World.size_alloc, World.size_drew, World.size_setCell, size_fill, bytesW]; omega)) only [go_sem, c34, c34S0, c34S1, c34L0, c34S2, c34S3, c34S4, c34S5, c34S6, c34L0, hlt']
    refine Ret.mono (stringS_ok s5 bok (by omega)) ?_
    rintro _ w6 ⟨rfl, s6⟩
    simp (disch := first | omega | exact okFill_t rfl | exact okSize_t rfl | exact fun h => h | (simp only [World.size_alloc, World.size_drew, World.size_setCell, size_fill, bytesW]; omega)) only [go_sem, c34, c34S0, c34S1, c34L0, c34S2, c34S3, c34S4, c34S5, c34S6]
    exact ⟨.inr ⟨⟨h1, h2⟩, acc, hacc, by rw [Int.toNat_natCast, ← hsc]⟩, s6.bel⟩
end
end Go.Proofs.YtmdhcpghofadcaaGreat

namespace Go.Proofs.YtmdhcpghofadcaaGreat
set_option linter.unusedSimpArgs false
set_option linter.unusedVariables false
set_option maxRecDepth 100000
open Go Go.Ann Go.RowKit
theorem between_ok (a b c : Int) (w : World) : Ret Tryz.prog 102 [.int .i64 a, .int .i64 b, .int .i64 c] w fun v w' => v = .bool (decide (b ≤ a ∧ a ≤ c)) ∧ Below w.heap.size w w' := by
  refine ent102 _ _ _ _ _ ?_
  simp (disch := first | omega | exact okFill_t rfl | exact okSize_t rfl | exact fun h => h | (simp only [World.size_alloc, World.size_drew, World.size_setCell, size_fill, bytesW]; omega)) only [go_sem, c102]
  refine ⟨fun h => ⟨?_, Below.refl _ _⟩, fun h => ⟨?_, Below.refl _ _⟩⟩
  · rw [Bool.eq_iff_iff]; simp; omega
  · rw [eq_comm, decide_eq_false_iff_not]; omega
theorem answer_ok (a b : Int) (w : World) : Ret Tryz.prog 104 [.int .i64 a, .int .i64 b] w fun v w' => (∃ r, v = .bool r) ∧ Below w.heap.size w w' := by
  refine ent104 _ _ _ _ ?_
  simp (disch := first | omega | exact okFill_t rfl | exact okSize_t rfl | exact fun h => h | (simp only [World.size_alloc, World.size_drew, World.size_setCell, size_fill, bytesW]; omega)) only [go_sem, c104, c104S0, c104S1, c104S2, c104S3, c104S4, c104S5, c104S6]
  refine ⟨fun _ => by (repeat' (first | with_reducible exact Below.refl _ _ | with_reducible assumption | (with_reducible refine Below.drew ?_) | (with_reducible refine Below.alloc ?_ ?_ _) | (with_reducible refine Below.setCell ?_ ?_ _) | (with_reducible refine Below.fill ?_ ?_) | (with_reducible refine Below.via (by assumption) ?_ ?_) | omega | (simp only [World.size_alloc, World.size_drew, World.size_setCell, size_fill, bytesW]; omega))), fun _ => ⟨fun _ => ⟨fun _ => by (repeat' (first | with_reducible exact Below.refl _ _ | with_reducible assumption | (with_reducible refine Below.drew ?_) | (with_reducible refine Below.alloc ?_ ?_ _) | (with_reducible refine Below.setCell ?_ ?_ _) | (with_reducible refine Below.fill ?_ ?_) | (with_reducible refine Below.via (by assumption) ?_ ?_) | omega | (simp only [World.size_alloc, World.size_drew, World.size_setCell, size_fill, bytesW]; omega))), fun _ => by (repeat' (first | with_reducible exact Below.refl _ _ | with_reducible assumption | (with_reducible refine Below.drew ?_) | (with_reducible refine Below.alloc ?_ ?_ _) | (with_reducible refine Below.setCell ?_ ?_ _) | (with_reducible refine Below.fill ?_ ?_) | (with_reducible refine Below.via (by assumption) ?_ ?_) | omega | (simp only [World.size_alloc, World.size_drew, World.size_setCell, size_fill, bytesW]; omega)))⟩, fun _ => ⟨fun _ => Ret.mono (between_ok _ _ _ _) ?_, fun _ => ⟨fun _ => Ret.mono (between_ok _ _ _ _) ?_, fun _ => Ret.mono (between_ok _ _ _ _) ?_⟩⟩⟩⟩
  all_goals
    rintro _ w2 ⟨rfl, b2⟩
    simp (disch := first | omega | exact okFill_t rfl | exact okSize_t rfl | exact fun h => h | (simp only [World.size_alloc, World.size_drew, World.size_setCell, size_fill, bytesW]; omega)) only [go_sem, c104, c104S0, c104S1, c104S2, c104S3, c104S4, c104S5, c104S6]
    exact b2
structure Row4 where
  kind : Int
  method : Int
  args : Int
  how : Int
def Row4.enc (r : Row4) : List Value := [.int .i64 r.kind, .int .i64 r.method, .int .i64 r.args, .int .i64 r.how]
theorem Row4.len (r : Row4) : r.enc.length = 4 := rfl
theorem Row4.one (r : Row4) : ∀ u ∈ r.enc, u.oneCell' = true := by intro u hu; simp only [Row4.enc, List.mem_cons, List.not_mem_nil, or_false] at hu; rcases hu with rfl | rfl | rfl | rfl <;> rfl
theorem Row4.at (r : Row4) : r.enc[0]? = some (.int .i64 r.kind) ∧ r.enc[1]? = some (.int .i64 r.method) ∧ r.enc[2]? = some (.int .i64 r.args) ∧ r.enc[3]? = some (.int .i64 r.how) := ⟨rfl, rfl, rfl, rfl⟩
def rowsTable : List Row4 := [⟨1, 1, 0, 2⟩, ⟨1, 2, 1, 0⟩, ⟨1, 3, 2, 1⟩, ⟨2, 1, 0, 3⟩, ⟨2, 4, 0, 0⟩, ⟨2, 5, 0, 0⟩, ⟨3, 6, 1, 0⟩, ⟨3, 7, 0, 4⟩, ⟨4, 8, 1, 0⟩, ⟨4, 9, 0, 4⟩, ⟨5, 10, 1, 1⟩, ⟨5, 11, 1, 1⟩, ⟨5, 12, 1, 1⟩, ⟨6, 13, 0, 0⟩, ⟨6, 14, 0, 0⟩]
set_option maxRecDepth 100000 in
theorem rows_ok (w : World) : Ret Tryz.prog 135 [] w fun v w' => RdS w' 4 Row4.enc v rowsTable ∧ Below w.heap.size w w' := by
  refine ent135 _ _ ?_
  simp (disch := first | omega | exact okFill_t rfl | exact okSize_t rfl | exact fun h => h | (simp only [World.size_alloc, World.size_drew, World.size_setCell, size_fill, bytesW]; omega)) only [go_sem, c135]
  refine bdW_built (cells := (Row4.enc ⟨1, 1, 0, 2⟩).toArray) (by kernel_rfl) ?_
  simp (disch := first | omega | exact okFill_t rfl | exact okSize_t rfl | exact fun h => h | (simp only [World.size_alloc, World.size_drew, World.size_setCell, size_fill, bytesW]; omega)) only [go_sem, c135]
  refine bdW_built (cells := (Row4.enc ⟨1, 2, 1, 0⟩).toArray) (by kernel_rfl) ?_
  simp (disch := first | omega | exact okFill_t rfl | exact okSize_t rfl | exact fun h => h | (simp only [World.size_alloc, World.size_drew, World.size_setCell, size_fill, bytesW]; omega)) only [go_sem, c135]
  refine bdW_built (cells := (Row4.enc ⟨1, 3, 2, 1⟩).toArray) (by kernel_rfl) ?_
  simp (disch := first | omega | exact okFill_t rfl | exact okSize_t rfl | exact fun h => h | (simp only [World.size_alloc, World.size_drew, World.size_setCell, size_fill, bytesW]; omega)) only [go_sem, c135]
  refine bdW_built (cells := (Row4.enc ⟨2, 1, 0, 3⟩).toArray) (by kernel_rfl) ?_
  simp (disch := first | omega | exact okFill_t rfl | exact okSize_t rfl | exact fun h => h | (simp only [World.size_alloc, World.size_drew, World.size_setCell, size_fill, bytesW]; omega)) only [go_sem, c135]
  refine bdW_built (cells := (Row4.enc ⟨2, 4, 0, 0⟩).toArray) (by kernel_rfl) ?_
  simp (disch := first | omega | exact okFill_t rfl | exact okSize_t rfl | exact fun h => h | (simp only [World.size_alloc, World.size_drew, World.size_setCell, size_fill, bytesW]; omega)) only [go_sem, c135]
  refine bdW_built (cells := (Row4.enc ⟨2, 5, 0, 0⟩).toArray) (by kernel_rfl) ?_
  simp (disch := first | omega | exact okFill_t rfl | exact okSize_t rfl | exact fun h => h | (simp only [World.size_alloc, World.size_drew, World.size_setCell, size_fill, bytesW]; omega)) only [go_sem, c135]
  refine bdW_built (cells := (Row4.enc ⟨3, 6, 1, 0⟩).toArray) (by kernel_rfl) ?_
  simp (disch := first | omega | exact okFill_t rfl | exact okSize_t rfl | exact fun h => h | (simp only [World.size_alloc, World.size_drew, World.size_setCell, size_fill, bytesW]; omega)) only [go_sem, c135]
  refine bdW_built (cells := (Row4.enc ⟨3, 7, 0, 4⟩).toArray) (by kernel_rfl) ?_
  simp (disch := first | omega | exact okFill_t rfl | exact okSize_t rfl | exact fun h => h | (simp only [World.size_alloc, World.size_drew, World.size_setCell, size_fill, bytesW]; omega)) only [go_sem, c135]
  refine bdW_built (cells := (Row4.enc ⟨4, 8, 1, 0⟩).toArray) (by kernel_rfl) ?_
  simp (disch := first | omega | exact okFill_t rfl | exact okSize_t rfl | exact fun h => h | (simp only [World.size_alloc, World.size_drew, World.size_setCell, size_fill, bytesW]; omega)) only [go_sem, c135]
  refine bdW_built (cells := (Row4.enc ⟨4, 9, 0, 4⟩).toArray) (by kernel_rfl) ?_
  simp (disch := first | omega | exact okFill_t rfl | exact okSize_t rfl | exact fun h => h | (simp only [World.size_alloc, World.size_drew, World.size_setCell, size_fill, bytesW]; omega)) only [go_sem, c135]
  refine bdW_built (cells := (Row4.enc ⟨5, 10, 1, 1⟩).toArray) (by kernel_rfl) ?_
  simp (disch := first | omega | exact okFill_t rfl | exact okSize_t rfl | exact fun h => h | (simp only [World.size_alloc, World.size_drew, World.size_setCell, size_fill, bytesW]; omega)) only [go_sem, c135]
  refine bdW_built (cells := (Row4.enc ⟨5, 11, 1, 1⟩).toArray) (by kernel_rfl) ?_
  simp (disch := first | omega | exact okFill_t rfl | exact okSize_t rfl | exact fun h => h | (simp only [World.size_alloc, World.size_drew, World.size_setCell, size_fill, bytesW]; omega)) only [go_sem, c135]
  refine bdW_built (cells := (Row4.enc ⟨5, 12, 1, 1⟩).toArray) (by kernel_rfl) ?_
  simp (disch := first | omega | exact okFill_t rfl | exact okSize_t rfl | exact fun h => h | (simp only [World.size_alloc, World.size_drew, World.size_setCell, size_fill, bytesW]; omega)) only [go_sem, c135]
  refine bdW_built (cells := (Row4.enc ⟨6, 13, 0, 0⟩).toArray) (by kernel_rfl) ?_
  simp (disch := first | omega | exact okFill_t rfl | exact okSize_t rfl | exact fun h => h | (simp only [World.size_alloc, World.size_drew, World.size_setCell, size_fill, bytesW]; omega)) only [go_sem, c135]
  refine bdW_built (cells := (Row4.enc ⟨6, 14, 0, 0⟩).toArray) (by kernel_rfl) ?_
  simp (disch := first | omega | exact okFill_t rfl | exact okSize_t rfl | exact fun h => h | (simp only [World.size_alloc, World.size_drew, World.size_setCell, size_fill, bytesW]; omega)) only [go_sem, c135]
  refine bsW_cells (cells := (rowsTable.flatMap Row4.enc).toArray) ty187mkI (by decide) (by decide) (by kernel_rfl) ?_
  simp (disch := first | omega | exact okFill_t rfl | exact okSize_t rfl | exact fun h => h | (simp only [World.size_alloc, World.size_drew, World.size_setCell, size_fill, bytesW]; omega)) only [go_sem, c135]
  exact ⟨rd_new (w := w) (sz := 4) (n := 15) (cs := (rowsTable.flatMap Row4.enc).toArray) rfl, by (repeat' (first | with_reducible exact Below.refl _ _ | with_reducible assumption | (with_reducible refine Below.drew ?_) | (with_reducible refine Below.alloc ?_ ?_ _) | (with_reducible refine Below.setCell ?_ ?_ _) | (with_reducible refine Below.fill ?_ ?_) | (with_reducible refine Below.via (by assumption) ?_ ?_) | omega | (simp only [World.size_alloc, World.size_drew, World.size_setCell, size_fill, bytesW]; omega)))⟩
theorem find_ok (a b : Int) (w : World) : Ret Tryz.prog 103 [.int .i64 a, .int .i64 b] w fun v w' => (∃ r : Row4, ∃ k, v = .tuple #[.agg r.enc.toArray, .bool k]) ∧ Below w.heap.size w w' := by
  refine ent103 _ _ _ _ ?_
  simp (disch := first | omega | exact okFill_t rfl | exact okSize_t rfl | exact fun h => h | (simp only [World.size_alloc, World.size_drew, World.size_setCell, size_fill, bytesW]; omega)) only [go_sem, c103, c103S0, c103S1, c103L0, c103S2, c103S3]
  obtain ⟨z, hz⟩ : ∃ z : Row4, z = ⟨0, 0, 0, 0⟩ := ⟨_, rfl⟩
  have s1 := (St.start (W0 := w)).box z.enc.toArray 153
  have hzz : #[Value.int .i64 0, .int .i64 0, .int .i64 0, .int .i64 0] = z.enc.toArray := by rw [hz]; rfl
  rw [hzz]
  generalize w.alloc (.cells z.enc.toArray 153) = w1 at s1 ⊢
  obtain ⟨b0, hb0⟩ : ∃ b, b = w.heap.size := ⟨_, rfl⟩
  have hbb : ∀ w', Below w.heap.size w w' → Below b0 w w' := fun _ h => by rw [hb0]; exact h
  rw [← hb0] at s1 ⊢
  have az := z.at
  refine Ret.mono (rows_ok _) ?_
  rintro vt w2 ⟨ht, b2⟩
  obtain ⟨pt, ct, rfl, _⟩ := ht.form
  have s2 := s1.call b2
  simp (disch := first | omega | exact okFill_t rfl | exact okSize_t rfl | exact fun h => h | (simp only [World.size_alloc, World.size_drew, World.size_setCell, size_fill, bytesW]; omega)) only [go_sem, c103, c103S0, c103S1, c103L0, c103S2, c103S3]
  refine W_loopU (fun k : Nat => [(7, .int .i64 k)]) (fun k w' => Below w2.heap.size w2 w' ∧ k ≤ rowsTable.length) (fun k => rowsTable.length - k) 0 rfl ⟨Below.refl _ _, Nat.zero_le _⟩ ?_
  rintro k w3 ⟨b3, hk⟩
  have s3 := s2.call b3
  have r3 := s3.rules 0 rfl
  have h3 := ht.below b3 (by decide)
  have b03 := s3.bel
  have hsz : rowsTable.length = 15 := rfl
  generalize rowsTable = tb at *
  by_cases hlt : k < tb.length
  · have hlt' : (k : Int) < tb.length := by omega
    obtain ⟨p, rfl⟩ := ht.ptr (by omega)
    have ek := h3.eltB (Below.refl _ _) Row4.len (by decide) hlt
    have ck := h3.at Row4.len hlt
    have ak := tb[k].at
    simp (disch := first | omega | exact okFill_t rfl | exact okSize_t rfl | exact fun h => h | (simp only [World.size_alloc, World.size_drew, World.size_setCell, size_fill, bytesW]; omega)) only [go_sem, c103, c103S0, c103S1, c103L0, c103S2, c103S3, hlt', ek, ak, ck, r3, az]
    refine ⟨by omega, fun e1 => ⟨by omega, fun e2 => ⟨by omega, tb[k].len.symm, blk_okSt (s3.blk 0 rfl) tb[k].one (Nat.le_refl _), ⟨tb[k], true, rfl⟩, hbb _ ((s3.fill 0 rfl (cs := tb[k].enc.toArray) rfl).bel)⟩, fun e2 => ⟨⟨by omega, by omega⟩, k + 1, rfl, ⟨b3, by omega⟩, by omega⟩⟩, fun e1 => ⟨⟨by omega, by omega⟩, k + 1, rfl, ⟨b3, by omega⟩, by omega⟩⟩
  · have hlt' : ¬ (k : Int) < tb.length := by omega
    simp (disch := first | omega | exact okFill_t rfl | exact okSize_t rfl | exact fun h => h | (simp only [World.size_alloc, World.size_drew, World.size_setCell, size_fill, bytesW]; omega)) only [go_sem, c103, c103S0, c103S1, c103L0, c103S2, c103S3, hlt', r3]
    refine bdW_built (cells := z.enc.toArray) (by rw [hz]; kernel_rfl) ?_
    simp (disch := first | omega | exact okFill_t rfl | exact okSize_t rfl | exact fun h => h | (simp only [World.size_alloc, World.size_drew, World.size_setCell, size_fill, bytesW]; omega)) only [go_sem, c103, c103S0, c103S1, c103L0, c103S2, c103S3, hlt', r3, az]
    exact ⟨z.len.symm, blk_okSt (s3.blk 0 rfl) z.one (Nat.le_refl _), ⟨z, false, rfl⟩, hbb _ ((s3.fill 0 rfl (cs := z.enc.toArray) rfl).bel)⟩
def TimeG (o : OpT) : Prop := 0 ≤ o.Invoke ∧ o.Invoke ≤ 1099511627776 ∧ (o.Done = true → o.Invoke < o.Return ∧ o.Return ≤ 1099511627776) ∧ (o.Done = false → o.Return = 0)
theorem check6 {o : OpT} {w : World} {K : Value → World → Prop} {b0 : Nat} (hb0 : b0 < w.heap.size) (h0 : Blk w b0 o.enc.toArray 56) (hK : ∀ e w', (e = 0 → TimeG o) → Below w.heap.size w w' → K (.int .i64 e) w') :
    W Tryz.prog (c55S6 ()) [(1, .pointer (some ⟨b0, 0, none⟩))] w (finQ Tryz.prog [.tmp 2] K) := by
  have r0 := h0.rules
  have ao := o.at
  simp (disch := first | omega | exact okFill_t rfl | exact okSize_t rfl | exact fun h => h | (simp only [World.size_alloc, World.size_drew, World.size_setCell, size_fill, bytesW]; omega)) only [go_sem, c55, c55S0, c55S1, c55S2, c55S3, c55S4, c55S5, c55S6, c55S7, c55S8, c55S9, c55S10, c55S11, c55S12, r0, ao]
  refine Ret.mono (between_ok _ _ _ _) ?_
  rintro _ w2 ⟨rfl, b2⟩
  clear r0
  have r0 := (h0.below b2 hb0).rules
  have bad : K (.int .i64 31) w2 := hK 31 w2 (fun h => absurd h (by decide)) b2
  have good : TimeG o → K (.int .i64 0) w2 := fun h => hK 0 w2 (fun _ => h) b2
  clear hK
  simp (disch := first | omega | exact okFill_t rfl | exact okSize_t rfl | exact fun h => h | (simp only [World.size_alloc, World.size_drew, World.size_setCell, size_fill, bytesW]; omega)) only [go_sem, c55, c55S0, c55S1, c55S2, c55S3, c55S4, c55S5, c55S6, c55S7, c55S8, c55S9, c55S10, c55S11, c55S12, r0, ao]
  repeat' first | with_reducible apply And.intro | with_reducible intro h
  all_goals first
    | exact bad
    | exact good ⟨by omega, by omega, fun hd => by first | omega | simp_all, fun hd => by first | omega | simp_all⟩
theorem check8 {o : OpT} {r : Row4} {w : World} {K : Value → World → Prop} {b0 b1 : Nat} (m n : Int) (hb0 : b0 < w.heap.size) (h0 : Blk w b0 o.enc.toArray 56) (h1 : Blk w b1 r.enc.toArray 153)
    (hK : ∀ e w', (e = 0 → TimeG o) → Below w.heap.size w w' → K (.int .i64 e) w') :
    W Tryz.prog (c55S8 ()) [(1, .pointer (some ⟨b0, 0, none⟩)), (3, .pointer (some ⟨b1, 0, none⟩)), (5, .int .i64 m), (6, .int .i64 n)] w (finQ Tryz.prog [.tmp 2] K) := by
  have hb1 := h1.lt
  have bad : ∀ w', Below w.heap.size w w' → K (.int .i64 33) w' := fun w' b => hK 33 w' (fun h => absurd h (by decide)) b
  have r0 := h0.rules
  have r1 := h1.rules
  have ao := o.at
  have ar := r.at
  simp (disch := first | omega | exact okFill_t rfl | exact okSize_t rfl | exact fun h => h | (simp only [World.size_alloc, World.size_drew, World.size_setCell, size_fill, bytesW]; omega)) only [go_sem, c55, c55S0, c55S1, c55S2, c55S3, c55S4, c55S5, c55S6, c55S7, c55S8, c55S9, c55S10, c55S11, c55S12, r0, r1, ao, ar]
  refine Ret.mono (between_ok _ _ _ _) ?_
  rintro _ w2 ⟨rfl, b2⟩
  clear r0 r1
  have r0 := (h0.below b2 hb0).rules
  have r1 := (h1.below b2 hb1).rules
  simp (disch := first | omega | exact okFill_t rfl | exact okSize_t rfl | exact fun h => h | (simp only [World.size_alloc, World.size_drew, World.size_setCell, size_fill, bytesW]; omega)) only [go_sem, c55, c55S0, c55S1, c55S2, c55S3, c55S4, c55S5, c55S6, c55S7, c55S8, c55S9, c55S10, c55S11, c55S12, r0, r1, ao, ar]
  refine ⟨fun _ => Ret.mono (between_ok _ _ _ _) ?_, fun _ => bad _ b2⟩
  rintro _ w3 ⟨rfl, b3⟩
  have b03 := b2.trans (b3.mono b2.size)
  clear r0 r1
  have r0 := (h0.below b03 hb0).rules
  have r1 := (h1.below b03 hb1).rules
  have t6 : ∀ w', Below w.heap.size w w' → W Tryz.prog (c55S6 ()) [(1, .pointer (some ⟨b0, 0, none⟩))] w' (finQ Tryz.prog [.tmp 2] K) := fun w' h => check6 (Nat.lt_of_lt_of_le hb0 h.size) (h0.below h hb0) fun e w'' he b => hK e w'' he (h.trans (b.mono h.size))
  have t63 := t6 _ b03
  have bad3 := bad _ b03
  simp (disch := first | omega | exact okFill_t rfl | exact okSize_t rfl | exact fun h => h | (simp only [World.size_alloc, World.size_drew, World.size_setCell, size_fill, bytesW]; omega)) only [go_sem, c55, c55S0, c55S1, c55S2, c55S3, c55S4, c55S5, c55S7, c55S8, c55S9, c55S10, c55S11, c55S12, r0, r1, ao, ar]
  repeat' first | with_reducible apply And.intro | with_reducible intro h
  all_goals first
    | exact t63
    | exact bad3
    | (refine Ret.mono (answer_ok _ _ _) ?_
       rintro _ w4 ⟨⟨x4, rfl⟩, b4⟩
       have b04 := b03.trans (b4.mono b03.size)
       clear r0 r1
       have r0 := (h0.below b04 hb0).rules
       have t64 := t6 _ b04
       have bad4 := bad _ b04
       simp (disch := first | omega | exact okFill_t rfl | exact okSize_t rfl | exact fun h => h | (simp only [World.size_alloc, World.size_drew, World.size_setCell, size_fill, bytesW]; omega)) only [go_sem, c55, c55S0, c55S1, c55S2, c55S3, c55S4, c55S5, c55S7, c55S8, c55S9, c55S10, c55S11, c55S12, r0, ao]
       repeat' first | with_reducible apply And.intro | with_reducible intro h
       all_goals first
         | exact t64
         | exact bad4)
def ChkR (o : OpT) (v : Value) : Prop := ∃ e, v = .int .i64 e ∧ (e = 0 → OpG o)
theorem ChkR.bad (o : OpT) {e : Int} (h : e ≠ 0) : ChkR o (.int .i64 e) := ⟨e, rfl, fun h' => absurd h' h⟩
theorem checkOp_ok (o : OpT) (w : World) : Ret Tryz.prog 55 [.agg o.enc.toArray] w fun v w' => ChkR o v ∧ Below w.heap.size w w' := by
  refine ent55 _ _ _ ?_
  simp (disch := first | omega | exact okFill_t rfl | exact okSize_t rfl | exact fun h => h | (simp only [World.size_alloc, World.size_drew, World.size_setCell, size_fill, bytesW]; omega)) only [go_sem, c55, c55S0, c55S1, c55S2, c55S3, c55S4, c55S5, c55S6, c55S7, c55S8, c55S9, c55S10, c55S11, c55S12]
  have s1 := (St.start (W0 := w)).box o.enc.toArray 56
  generalize w.alloc (.cells o.enc.toArray 56) = w1 at s1 ⊢
  obtain ⟨b0, hb0⟩ : ∃ b, b = w.heap.size := ⟨_, rfl⟩
  have hbb : ∀ w', Below w.heap.size w w' → Below b0 w w' := fun _ h => by rw [hb0]; exact h
  rw [← hb0] at s1 ⊢
  have ao := o.at
  simp (disch := first | omega | exact okFill_t rfl | exact okSize_t rfl | exact fun h => h | (simp only [World.size_alloc, World.size_drew, World.size_setCell, size_fill, bytesW]; omega)) only [go_sem, c55, c55S0, c55S1, c55S2, c55S3, c55S4, c55S5, c55S6, c55S7, c55S8, c55S9, c55S10, c55S11, c55S12, ao]
  refine Ret.mono (between_ok _ _ _ _) ?_
  rintro _ w2 ⟨rfl, b2⟩
  have s2 := s1.call b2
  clear s1 b2
  have r2 := s2.rules 0 rfl
  simp (disch := first | omega | exact okFill_t rfl | exact okSize_t rfl | exact fun h => h | (simp only [World.size_alloc, World.size_drew, World.size_setCell, size_fill, bytesW]; omega)) only [go_sem, c55, c55S0, c55S1, c55S2, c55S3, c55S4, c55S5, c55S6, c55S7, c55S8, c55S9, c55S10, c55S11, c55S12, ao, r2]
  refine ⟨fun _ => Ret.mono (between_ok _ _ _ _) ?_, fun _ => ⟨.bad o (by decide), hbb _ s2.bel⟩⟩
  rintro _ w3 ⟨rfl, b3⟩
  have s3 := s2.call b3
  clear s2 b3 r2
  have r3 := s3.rules 0 rfl
  simp (disch := first | omega | exact okFill_t rfl | exact okSize_t rfl | exact fun h => h | (simp only [World.size_alloc, World.size_drew, World.size_setCell, size_fill, bytesW]; omega)) only [go_sem, c55, c55S0, c55S1, c55S2, c55S3, c55S4, c55S5, c55S6, c55S7, c55S8, c55S9, c55S10, c55S11, c55S12, ao, r3]
  refine ⟨fun hp => Ret.mono (between_ok _ _ _ _) ?_, fun _ => ⟨.bad o (by decide), hbb _ s3.bel⟩⟩
  rintro _ w4 ⟨rfl, b4⟩
  have s4 := s3.call b4
  clear s3 b4 r3
  have r4 := s4.rules 0 rfl
  simp (disch := first | omega | exact okFill_t rfl | exact okSize_t rfl | exact fun h => h | (simp only [World.size_alloc, World.size_drew, World.size_setCell, size_fill, bytesW]; omega)) only [go_sem, c55, c55S0, c55S1, c55S2, c55S3, c55S4, c55S5, c55S6, c55S7, c55S8, c55S9, c55S10, c55S11, c55S12, ao, r4]
  refine ⟨fun _ => ⟨.bad o (by decide), hbb _ s4.bel⟩, fun hq => Ret.mono (find_ok _ _ _) ?_⟩
  rintro _ w5 ⟨⟨r, kk, rfl⟩, b5⟩
  have s5 := s4.call b5
  clear s4 b5 r4
  have ar := r.at
  have r5 := s5.rules 0 rfl
  simp (disch := first | omega | exact okFill_t rfl | exact okSize_t rfl | exact fun h => h | (simp only [World.size_alloc, World.size_drew, World.size_setCell, size_fill, bytesW]; omega)) only [go_sem, c55, c55S0, c55S1, c55S2, c55S3, c55S4, c55S5, c55S6, c55S7, c55S9, c55S10, c55S11, c55S12, ao, ar, r5]
  have s6 := s5.box r.enc.toArray 153
  generalize w5.alloc (.cells r.enc.toArray 153) = w6 at s6 ⊢
  have b6 := s6.bel
  have hG : TimeG o → OpG o := fun ht => ⟨by omega, by omega, hq.1, hq.2, ht.1, ht.2.1, ht.2.2.1, ht.2.2.2⟩
  have t6 := fun m n => check8 (o := o) (r := r) m n (s6.low 1 rfl).2 (s6.blk 1 rfl) (s6.blk 0 rfl) (K := fun v w' => ChkR o v ∧ Below b0 w w') fun e w' he b => ⟨⟨e, rfl, fun h => hG (he h)⟩, hbb _ (b6.trans (b.mono b6.size))⟩
  have bad6 : ChkR o (.int .i64 33) ∧ Below b0 w w6 := ⟨.bad o (by decide), hbb _ b6⟩
  exact ⟨r.len.symm, fun _ => bad6, fun _ => ⟨fun _ => ⟨fun _ => t6 _ _, fun _ => t6 _ _⟩, fun _ => ⟨fun _ => t6 _ _, fun _ => t6 _ _⟩⟩⟩
end Go.Proofs.YtmdhcpghofadcaaGreat

namespace Go.Proofs.YtmdhcpghofadcaaGreat
set_option linter.unusedSimpArgs false
set_option linter.unusedVariables false
set_option maxRecDepth 100000
open Go Go.Ann Go.RowKit
theorem beside_ok (va : Value) (l : List OpT) (o : OpT) (w : World) (ha : RdS w 11 OpT.enc va l) (hl : (l.length : Int) ≤ 9223372036854775806) :
    Ret Tryz.prog 75 [va, .agg o.enc.toArray] w fun v w' => (∃ e, v = .int .i64 e ∧ (e = 0 → ∀ x ∈ l, x.ID ≠ o.ID → x.Object = o.Object → x.Kind = o.Kind)) ∧ Below w.heap.size w w' := by
  obtain ⟨pa, ca, rfl, _⟩ := ha.form
  refine ent75 _ _ _ _ ?_
  simp (disch := first | omega | exact okFill_t rfl | exact okSize_t rfl | exact fun h => h | (simp only [World.size_alloc, World.size_drew, World.size_setCell, size_fill, bytesW]; omega)) only [go_sem, c75, c75S0, c75S1, c75S2, c75L0, c75S3, c75S4, c75S5, c75L1, c75S6, c75S7]
  have s1 := (St.start (W0 := w)).box o.enc.toArray 56
  have h1 := ha.below s1.bel (by decide)
  generalize w.alloc (.cells o.enc.toArray 56) = w1 at s1 h1 ⊢
  obtain ⟨b0, hb0⟩ : ∃ b, b = w.heap.size := ⟨_, rfl⟩
  have hbb : ∀ w', Below w.heap.size w w' → Below b0 w w' := fun _ h => by rw [hb0]; exact h
  rw [← hb0] at s1 ⊢
  have ao := o.at
  refine W_loopU (fun k : Nat => [(5, .int .i64 k)]) (fun k w' => Below w1.heap.size w1 w' ∧ k ≤ l.length ∧ ∀ j, (h : j < l.length) → j < k → l[j].ID ≠ o.ID → l[j].Object = o.Object → l[j].Kind = o.Kind) (fun k => l.length - k) 0 rfl ⟨Below.refl _ _, Nat.zero_le _, fun j _ h => by omega⟩ ?_
  rintro k w2 ⟨b2, hk, he⟩
  have s2 := s1.call b2
  have r2 := s2.rules 0 rfl
  have h2 := h1.below b2 (by decide)
  by_cases hlt : k < l.length
  · have hlt' : (k : Int) < l.length := by omega
    obtain ⟨p, rfl⟩ := ha.ptr (by omega)
    have ek := h2.eltB (Below.refl _ _) OpT.len (by decide) hlt
    have ak := l[k].at
    simp (disch := first | omega | exact okFill_t rfl | exact okSize_t rfl | exact fun h => h | (simp only [World.size_alloc, World.size_drew, World.size_setCell, size_fill, bytesW]; omega)) only [go_sem, c75, c75S0, c75S1, c75S2, c75L0, c75S3, c75S4, c75S5, c75L1, c75S6, c75S7, hlt']
    refine c75draw0 ?_
    simp (disch := first | omega | exact okFill_t rfl | exact okSize_t rfl | exact fun h => h | (simp only [World.size_alloc, World.size_drew, World.size_setCell, size_fill, bytesW]; omega)) only [go_sem, c75, c75S0, c75S1, c75S2, c75L0, c75S3, c75S4, c75S5, c75L1, c75S6, c75S7, c75D0, r2, ek, ak, ao]
    have b02 : Below w.heap.size w w2.drew := (s1.bel.trans (b2.mono s1.size)).drew
    have go : (l[k].ID ≠ o.ID → l[k].Object = o.Object → l[k].Kind = o.Kind) → ∀ j, (h : j < l.length) → j < k + 1 → l[j].ID ≠ o.ID → l[j].Object = o.Object → l[j].Kind = o.Kind := fun hx j h1 h3 => by
      rcases Nat.lt_or_ge j k with h' | h'
      · exact he j h1 h'
      · obtain rfl : j = k := by omega
        exact hx
    refine ⟨⟨by omega, by omega⟩, fun e1 => ⟨⟨by omega, by omega⟩, fun e2 => ⟨⟨by omega, by omega⟩, fun e3 => hbb _ (b02), fun e3 => ⟨⟨by omega, by omega⟩, k + 1, rfl, ⟨b2.drew, by omega, go fun _ _ => e3⟩, by omega⟩⟩, fun e2 => ⟨⟨by omega, by omega⟩, k + 1, rfl, ⟨b2.drew, by omega, go fun _ h => absurd h e2⟩, by omega⟩⟩, fun e1 => ⟨⟨by omega, by omega⟩, k + 1, rfl, ⟨b2.drew, by omega, go fun h => absurd e1 h⟩, by omega⟩⟩
  · have hlt' : ¬ (k : Int) < l.length := by omega
    simp (disch := first | omega | exact okFill_t rfl | exact okSize_t rfl | exact fun h => h | (simp only [World.size_alloc, World.size_drew, World.size_setCell, size_fill, bytesW]; omega)) only [go_sem, c75, c75S0, c75S1, c75S2, c75L0, c75S3, c75S4, c75S5, c75L1, c75S6, c75S7, hlt']
    have hall : ∀ x ∈ l, x.ID ≠ o.ID → x.Object = o.Object → x.Kind = o.Kind := fun x hx => by
      obtain ⟨j, hj, rfl⟩ := List.mem_iff_getElem.1 hx
      exact he j hj (by omega)
    clear he
    refine W_loopU (fun k : Nat => [(6, .int .i64 k)]) (fun k w' => Below w1.heap.size w1 w' ∧ k ≤ l.length) (fun k => l.length - k) 0 rfl ⟨b2, Nat.zero_le _⟩ ?_
    clear r2 h2 s2 b2
    rintro k w3 ⟨b3, hk⟩
    have s3 := s1.call b3
    have r3 := s3.rules 0 rfl
    have h3 := h1.below b3 (by decide)
    by_cases hlt : k < l.length
    · have hlt' : (k : Int) < l.length := by omega
      obtain ⟨p, rfl⟩ := ha.ptr (by omega)
      have ek := h3.eltB (Below.refl _ _) OpT.len (by decide) hlt
      have ck := h3.at OpT.len hlt
      have ak := l[k].at
      simp (disch := first | omega | exact okFill_t rfl | exact okSize_t rfl | exact fun h => h | (simp only [World.size_alloc, World.size_drew, World.size_setCell, size_fill, bytesW]; omega)) only [go_sem, c75, c75S0, c75S1, c75S2, c75L0, c75S3, c75S4, c75S5, c75L1, c75S6, c75S7, hlt']
      have hp3 := h3.blt OpT.len (by decide) (by omega)
      have hb3 := s3.low 0 rfl
      have hd3 : w3.drew.heap.size = w3.heap.size := rfl
      refine c75draw1 (Chg (fun _ => False) _) (Chg.refl _ _) ?_
      simp (disch := first | omega | exact okFill_t rfl | exact okSize_t rfl | exact fun h => h | (simp only [World.size_alloc, World.size_drew, World.size_setCell, size_fill, bytesW]; omega)) only [go_sem, c75, c75S0, c75S1, c75S2, c75L0, c75S3, c75S4, c75S5, c75L1, c75S6, c75S7, c75D1, r3, ek, ak, ao, ck]
      have b03 : Below w1.heap.size w1 w3.drew := b3.drew
      refine ⟨⟨by omega, by omega⟩, fun e1 => ⟨⟨by omega, by omega⟩, fun e2 => ⟨⟨by omega, by omega⟩, Ret.mono (rbefore_ok _ _ _) ?_⟩, fun e2 => ⟨⟨by omega, by omega⟩, k + 1, rfl, ⟨b03, by omega⟩, by omega⟩⟩, fun e1 => ⟨⟨by omega, by omega⟩, k + 1, rfl, ⟨b03, by omega⟩, by omega⟩⟩
      rintro _ w4 ⟨rfl, b4⟩
      have b34 : Below w3.heap.size w3 w4 := (Below.refl _ w3).drew.trans b4
      have h4 := h3.below b34 (by decide)
      have ck4 := h4.at OpT.len hlt
      have s4 := s3.call b34
      have r4 := s4.rules 0 rfl
      have b04 : Below w1.heap.size w1 w4 := b3.trans (b34.mono b3.size)
      simp (disch := first | omega | exact okFill_t rfl | exact okSize_t rfl | exact fun h => h | (simp only [World.size_alloc, World.size_drew, World.size_setCell, size_fill, bytesW]; omega)) only [go_sem, c75, c75S0, c75S1, c75S2, c75L0, c75S3, c75S4, c75S5, c75L1, c75S6, c75S7, c75D1, r3, r4, ek, ak, ao, ck, ck4]
      refine ⟨Chg.of_below b4, fun e3 => ⟨⟨by omega, by omega⟩, Chg.of_below b4, Ret.mono (rbefore_ok _ _ _) ?_⟩, fun e3 => ⟨⟨by omega, by omega⟩, k + 1, rfl, ⟨b04, by omega⟩, by omega⟩⟩
      rintro _ w5 ⟨rfl, b5⟩
      have b05 : Below w1.heap.size w1 w5 := b04.trans (b5.mono b04.size)
      simp (disch := first | omega | exact okFill_t rfl | exact okSize_t rfl | exact fun h => h | (simp only [World.size_alloc, World.size_drew, World.size_setCell, size_fill, bytesW]; omega)) only [go_sem, c75, c75S0, c75S1, c75S2, c75L0, c75S3, c75S4, c75S5, c75L1, c75S6, c75S7, c75D1, r3, r4, ek, ak, ao, ck, ck4]
      exact ⟨(Chg.of_below b4).trans (Chg.of_below b5), fun _ => hbb _ (s1.bel.trans (b05.mono s1.size)), fun _ => ⟨⟨by omega, by omega⟩, k + 1, rfl, ⟨b05, by omega⟩, by omega⟩⟩
    · have hlt' : ¬ (k : Int) < l.length := by omega
      simp (disch := first | omega | exact okFill_t rfl | exact okSize_t rfl | exact fun h => h | (simp only [World.size_alloc, World.size_drew, World.size_setCell, size_fill, bytesW]; omega)) only [go_sem, c75, c75S0, c75S1, c75S2, c75L0, c75S3, c75S4, c75S5, c75L1, c75S6, c75S7, hlt']
      exact ⟨hall, hbb _ ((s1.bel.trans (b3.mono s1.size)))⟩
theorem rising_pairwise {l : List OpT} (h : ∀ j, (h : j + 1 < l.length) → l[j].ID < l[j + 1].ID) : l.Pairwise fun a b => a.ID < b.ID := by
  rw [List.pairwise_iff_getElem]
  intro i j hi hj hij
  induction j with
  | zero => omega
  | succ j ih =>
    rcases Nat.lt_or_ge i j with h1 | h1
    · exact Int.lt_trans (ih (by omega) h1) (h j hj)
    · obtain rfl : i = j := by omega
      exact h i hj
theorem pair_id {l : List OpT} (hp : l.Pairwise fun a b => a.ID < b.ID) : Pure l := fun a ha b hb e => by
  obtain ⟨i, hi, rfl⟩ := List.mem_iff_getElem.1 ha
  obtain ⟨j, hj, rfl⟩ := List.mem_iff_getElem.1 hb
  rw [List.pairwise_iff_getElem] at hp
  rcases Nat.lt_trichotomy i j with h | rfl | h
  · have := hp i j hi hj h; omega
  · rfl
  · have := hp j i hj hi h; omega
def Hist (l : List OpT) : Prop := l.Pairwise (fun a b => a.ID < b.ID) ∧ ∀ a ∈ l, ∀ b ∈ l, a.Object = b.Object → a.Kind = b.Kind
def ChkL (l : List OpT) (v : Value) : Prop := ∃ e, v = .int .i64 e ∧ (e = 0 → (Hist l ∧ l.length ≤ 64) ∧ ∀ o ∈ l, OpG o)
theorem ChkL.bad (l : List OpT) {e : Int} (h : e ≠ 0) : ChkL l (.int .i64 e) := ⟨e, rfl, fun h' => absurd h' h⟩
theorem check_ok (va : Value) (l : List OpT) (w : World) (ha : RdS w 11 OpT.enc va l) (hl : (l.length : Int) ≤ 9223372036854775806) :
    Ret Tryz.prog 33 [va] w fun v w' => ChkL l v ∧ Below w.heap.size w w' := by
  obtain ⟨pa, ca, rfl, _⟩ := ha.form
  refine ent33 _ _ _ ?_
  simp (disch := first | omega | exact okFill_t rfl | exact okSize_t rfl | exact fun h => h | (simp only [World.size_alloc, World.size_drew, World.size_setCell, size_fill, bytesW]; omega)) only [go_sem, c33, c33S0, c33S1, c33S2, c33S3, c33S4, c33L0, c33S5, c33S6, c33S7, c33L1, c33S8, c33S9, c33S10]
  refine ⟨fun _ => ⟨.bad l (by decide), Below.refl _ _⟩, fun h64 => ?_⟩
  refine W_loopU (fun k : Nat => [(3, .int .i64 k)]) (fun k w' => Below w.heap.size w w' ∧ k ≤ l.length ∧ (∀ j, (h : j < l.length) → j < k → OpG l[j]) ∧ ∀ j, (h : j + 1 < l.length) → j + 1 < k → l[j].ID < l[j + 1].ID) (fun k => l.length - k) 0 rfl ⟨Below.refl _ _, Nat.zero_le _, (fun j _ h => by omega), fun j _ h => by omega⟩ ?_
  rintro k w2 ⟨b2, hk, hg, he⟩
  have h2 := ha.below b2 (by decide)
  by_cases hlt : k < l.length
  · have hlt' : (k : Int) < l.length := by omega
    obtain ⟨p, rfl⟩ := ha.ptr (by omega)
    have ek := h2.at OpT.len hlt
    simp (disch := first | omega | exact okFill_t rfl | exact okSize_t rfl | exact fun h => h | (simp only [World.size_alloc, World.size_drew, World.size_setCell, size_fill, bytesW]; omega)) only [go_sem, c33, c33S0, c33S1, c33S2, c33S3, c33S4, c33L0, c33S5, c33S6, c33S7, c33L1, c33S8, c33S9, c33S10, hlt', ek]
    refine ⟨by omega, Ret.mono (checkOp_ok _ _) ?_⟩
    rintro _ w3 ⟨⟨e, rfl, hge⟩, b3⟩
    have b03 := b2.trans (b3.mono b2.size)
    simp (disch := first | omega | exact okFill_t rfl | exact okSize_t rfl | exact fun h => h | (simp only [World.size_alloc, World.size_drew, World.size_setCell, size_fill, bytesW]; omega)) only [go_sem, c33, c33S0, c33S1, c33S2, c33S3, c33S4, c33L0, c33S5, c33S6, c33S7, c33L1, c33S8, c33S9, c33S10]
    refine ⟨fun e0 => ⟨.bad l e0, b03⟩, fun e0 => ?_⟩
    have hg2 : ∀ j, (h : j < l.length) → j < k + 1 → OpG l[j] := fun j h1 h2 => by
      rcases Nat.lt_or_ge j k with h' | h'
      · exact hg j h1 h'
      · obtain rfl : j = k := by omega
        exact hge e0
    have h3 := ha.below b03 (by decide)
    have ek3 := h3.eltB (Below.refl _ _) OpT.len (by decide) hlt
    have ak := l[k].at
    rcases Nat.eq_zero_or_pos k with rfl | hk0
    · refine c33draw0 ?_
      simp (disch := first | omega | exact okFill_t rfl | exact okSize_t rfl | exact fun h => h | (simp only [World.size_alloc, World.size_drew, World.size_setCell, size_fill, bytesW]; omega)) only [go_sem, c33, c33S0, c33S1, c33S2, c33S3, c33S4, c33L0, c33S5, c33S6, c33S7, c33L1, c33S8, c33S9, c33S10, c33D0, hlt', ek3, ak]
      exact ⟨⟨by omega, by omega⟩, 1, rfl, ⟨b03.drew, by omega, hg2, fun j _ h => by omega⟩, by omega⟩
    · have ej3 := h3.eltB (Below.refl _ _) OpT.len (by decide) (show k - 1 < l.length by omega)
      have aj := l[k - 1].at
      have hk1 : (k : Int) - 1 = (k - 1 : Nat) := by omega
      refine c33draw0 ?_
      simp (disch := first | omega | exact okFill_t rfl | exact okSize_t rfl | exact fun h => h | (simp only [World.size_alloc, World.size_drew, World.size_setCell, size_fill, bytesW]; omega)) only [go_sem, c33, c33S0, c33S1, c33S2, c33S3, c33S4, c33L0, c33S5, c33S6, c33S7, c33L1, c33S8, c33S9, c33S10, c33D0, hlt', ek3, ak, hk1, ej3, aj]
      refine ⟨fun _ => ⟨by omega, ⟨by omega, by omega⟩, ⟨by omega, by omega⟩, fun _ => ⟨.bad l (by decide), b03.drew⟩, fun e1 => ⟨⟨by omega, by omega⟩, k + 1, rfl, ⟨b03.drew, by omega, hg2, fun j h1 h3 => ?_⟩, by omega⟩⟩, fun h => by omega⟩
      rcases Nat.lt_or_ge (j + 1) k with h' | h'
      · exact he j h1 h'
      · have h4 : j = k - 1 := by omega
        subst h4
        have h5 : l[k - 1 + 1] = l[k] := by congr 1; omega
        rw [h5]; exact e1
  · have hlt' : ¬ (k : Int) < l.length := by omega
    simp (disch := first | omega | exact okFill_t rfl | exact okSize_t rfl | exact fun h => h | (simp only [World.size_alloc, World.size_drew, World.size_setCell, size_fill, bytesW]; omega)) only [go_sem, c33, c33S0, c33S1, c33S2, c33S3, c33S4, c33L0, c33S5, c33S6, c33S7, c33L1, c33S8, c33S9, c33S10, hlt']
    have hp : l.Pairwise fun a b => a.ID < b.ID := rising_pairwise fun j h => he j h (by omega)
    clear he
    refine W_loopU (fun k : Nat => [(5, .int .i64 k)]) (fun k w' => Below w.heap.size w w' ∧ k ≤ l.length ∧ ∀ j, (h : j < l.length) → j < k → ∀ x ∈ l, x.ID ≠ l[j].ID → x.Object = l[j].Object → x.Kind = l[j].Kind) (fun k => l.length - k) 0 rfl ⟨b2, Nat.zero_le _, fun j _ h => by omega⟩ ?_
    clear h2 b2
    rintro k w3 ⟨b3, hk, he⟩
    have h3 := ha.below b3 (by decide)
    by_cases hlt : k < l.length
    · have hlt' : (k : Int) < l.length := by omega
      obtain ⟨p, rfl⟩ := ha.ptr (by omega)
      have ek := h3.at OpT.len hlt
      simp (disch := first | omega | exact okFill_t rfl | exact okSize_t rfl | exact fun h => h | (simp only [World.size_alloc, World.size_drew, World.size_setCell, size_fill, bytesW]; omega)) only [go_sem, c33, c33S0, c33S1, c33S2, c33S3, c33S4, c33L0, c33S5, c33S6, c33S7, c33L1, c33S8, c33S9, c33S10, hlt', ek]
      refine ⟨by omega, Ret.mono (beside_ok _ _ _ _ h3 hl) ?_⟩
      rintro _ w4 ⟨⟨e, rfl, hee⟩, b4⟩
      simp (disch := first | omega | exact okFill_t rfl | exact okSize_t rfl | exact fun h => h | (simp only [World.size_alloc, World.size_drew, World.size_setCell, size_fill, bytesW]; omega)) only [go_sem, c33, c33S0, c33S1, c33S2, c33S3, c33S4, c33L0, c33S5, c33S6, c33S7, c33L1, c33S8, c33S9, c33S10]
      have b04 := b3.trans (b4.mono b3.size)
      refine ⟨fun e0 => ⟨.bad l e0, b04⟩, fun e0 => ⟨⟨by omega, by omega⟩, k + 1, rfl, ⟨b04, by omega, fun j h1 h3 => ?_⟩, by omega⟩⟩
      rcases Nat.lt_or_ge j k with h' | h'
      · exact he j h1 h'
      · obtain rfl : j = k := by omega
        exact hee e0
    · have hlt' : ¬ (k : Int) < l.length := by omega
      simp (disch := first | omega | exact okFill_t rfl | exact okSize_t rfl | exact fun h => h | (simp only [World.size_alloc, World.size_drew, World.size_setCell, size_fill, bytesW]; omega)) only [go_sem, c33, c33S0, c33S1, c33S2, c33S3, c33S4, c33L0, c33S5, c33S6, c33S7, c33L1, c33S8, c33S9, c33S10, hlt']
      refine ⟨⟨0, rfl, fun _ => ⟨⟨⟨hp, fun a h1 b h2 e => ?_⟩, by omega⟩, fun o ho => by obtain ⟨j, hj, rfl⟩ := List.mem_iff_getElem.1 ho; exact hg j hj (by omega)⟩⟩, b3⟩
      by_cases hid : a.ID = b.ID
      · rw [pair_id hp a h1 b h2 hid]
      · obtain ⟨j, hj, rfl⟩ := List.mem_iff_getElem.1 h2
        exact he j hj (by omega) a h1 hid e
structure Good (l : List OpT) : Prop where
  h : HistG l
  id : l.Pairwise fun a b => a.ID < b.ID
  kind : ∀ a ∈ l, ∀ b ∈ l, a.Object = b.Object → a.Kind = b.Kind
  few : l.length ≤ 64
theorem Good.pure {l : List OpT} (h : Good l) : Pure l := pair_id h.id
def GoodR (l : List OpT) (v : Value) : Prop := ∃ b, v = .bool b ∧ (b = true → Good l)
theorem good_ok (va : Value) (l : List OpT) (w : World) (ha : RdS w 11 OpT.enc va l) (hw : ∀ o ∈ l, o.wf) (hl : (l.length : Int) ≤ 9223372036854775807) : Ret Tryz.prog 10 [va] w fun v w' => GoodR l v ∧ Below w.heap.size w w' := by
  obtain ⟨pa, ca, rfl, _⟩ := ha.form
  refine ent10 _ _ _ ?_
  simp (disch := first | omega | exact okFill_t rfl | exact okSize_t rfl | exact fun h => h | (simp only [World.size_alloc, World.size_drew, World.size_setCell, size_fill, bytesW]; omega)) only [go_sem, c10, c10S0]
  refine ⟨fun h64 => Ret.mono (check_ok _ l w ha (by omega)) ?_, fun h64 => ⟨⟨false, rfl, fun h => by cases h⟩, Below.refl _ _⟩⟩
  rintro _ w2 ⟨⟨e, rfl, he⟩, b2⟩
  simp (disch := first | omega | exact okFill_t rfl | exact okSize_t rfl | exact fun h => h | (simp only [World.size_alloc, World.size_drew, World.size_setCell, size_fill, bytesW]; omega)) only [go_sem, c10, c10S0]
  refine ⟨⟨decide (e = 0), rfl, fun h => ?_⟩, b2⟩
  obtain ⟨⟨⟨h1, h2⟩, h3⟩, h4⟩ := he (by simpa using h)
  exact ⟨⟨by omega, hw, h4⟩, h1, h2, h3⟩
end Go.Proofs.YtmdhcpghofadcaaGreat

namespace Go.Proofs.YtmdhcpghofadcaaGreat
set_option linter.unusedSimpArgs false
set_option linter.unusedVariables false
set_option maxRecDepth 100000
open Go Go.Ann Go.RowKit Go.WideShapes Go.Shelf
def awO : OpT := ⟨1, 1, 0, 3, 6, 5, 0, true, 0, 0, 10⟩
theorem aw_label : labelL awO = [101, 110, 113, 53] := by
  have h : numL 5 = [53] := by unfold numL; rw [if_neg (by decide)]; show decL 5 = _; rw [decL_small (by decide)]; rfl
  unfold labelL argL resL
  show nameL 6 ++ (if _ then numL 5 else _) ++ _ = _
  rw [if_pos (by decide), if_neg (by decide), h]
  rfl
theorem aw_row : rowL (scOf [awO] 12) [awO] = [91, 101, 110, 113, 53, 45, 45, 45, 45, 45, 45, 93] := by
  have ha : (scOf [awO] 12).a awO = 0 := by decide
  have hb : (scOf [awO] 12).b awO = 11 := by decide
  unfold rowL rowF
  simp only [List.foldl_cons, List.foldl_nil]
  unfold barF signB
  rw [ha, hb, aw_label]
  decide
theorem aw_good : Good [awO] where
  h := ⟨by decide, fun o ho => by rw [List.mem_singleton] at ho; subst ho; unfold OpT.wf awO kOk; decide, fun o ho => by rw [List.mem_singleton] at ho; subst ho; exact ⟨by decide, by decide, by decide, by decide, by decide, by decide, fun _ => by decide, fun h => by cases h⟩⟩
  id := List.pairwise_singleton _ _
  kind := fun a ha b hb _ => by rw [List.mem_singleton] at ha hb; rw [ha, hb]
  few := by decide
theorem aw_by {acc : List Seg} (h : ByProc [awO] acc) : acc = [⟨1, 3, [awO]⟩] := by
  refine byProc_unique aw_good.pure h ⟨List.pairwise_singleton _ _, fun s hs => ?_, fun s hs => ?_, fun o ho => ?_⟩
  · rw [List.mem_singleton] at hs; subst hs
    exact ⟨List.Perm.refl _, List.pairwise_singleton _ _⟩
  · rw [List.mem_singleton] at hs; subst hs
    exact ⟨awO, [], rfl, rfl⟩
  · rw [List.mem_singleton] at ho; subst ho
    exact ⟨_, List.mem_singleton_self _, rfl⟩
theorem aw_lines : linesL (scOf [awO] 12) ([⟨1, 3, [awO]⟩].map Seg.ops) = [112, 49, 32, 32, 32, 32, 32, 91, 101, 110, 113, 53, 45, 45, 45, 45, 45, 45, 93, 10] := by
  have h : numL 1 = [49] := by unfold numL; rw [if_neg (by decide)]; show decL 1 = _; rw [decL_small (by decide)]; rfl
  show (lineL (scOf [awO] 12) [awO]) ++ [] = _
  unfold lineL
  rw [aw_row, show procOf [awO] = 1 from rfl, h]
  rfl
theorem awake_ok (w : World) : Ret Tryz.prog 11 [] w fun u w' => u = .bool true ∧ Below w.heap.size w w' := by
  refine ent11 _ _ ?_
  simp (disch := first | omega | exact okFill_t rfl | exact okSize_t rfl | exact fun h => h | (simp only [World.size_alloc, World.size_drew, World.size_setCell, size_fill, bytesW]; omega)) only [go_sem, c11, c11S0]
  refine bdW_built (cells := awO.enc.toArray) (by kernel_rfl) ?_
  simp (disch := first | omega | exact okFill_t rfl | exact okSize_t rfl | exact fun h => h | (simp only [World.size_alloc, World.size_drew, World.size_setCell, size_fill, bytesW]; omega)) only [go_sem, c11, c11S0]
  refine bsW_agg ty22mkI rfl (by decide) (by decide) ?_
  have hrd : RdS (w.alloc (.cells awO.enc.toArray 56)) 11 OpT.enc (.slice (some ⟨w.heap.size, 0, none⟩) 1 1) [awO] := rd_new (t := 56) (sz := 11) (n := 1) (cs := awO.enc.toArray) rfl
  have b1 : Below w.heap.size w (w.alloc (.cells awO.enc.toArray 56)) := (Below.refl _ _).alloc (Nat.le_refl _) _
  generalize w.alloc (.cells awO.enc.toArray 56) = w1 at hrd b1 ⊢
  simp (disch := first | omega | exact okFill_t rfl | exact okSize_t rfl | exact fun h => h | (simp only [World.size_alloc, World.size_drew, World.size_setCell, size_fill, bytesW]; omega)) only [go_sem, c11, c11S0]
  refine Ret.mono (draw_ok hrd aw_good.h 12) ?_
  rintro u w2 ⟨hu, b2⟩
  have b02 := b1.trans (b2.mono b1.size)
  rcases hu with ⟨h, _⟩ | ⟨_, acc, hacc, rfl⟩
  · exact absurd ⟨by decide, by decide⟩ h
  rw [aw_by hacc, show (12 : Int).toNat = 12 from rfl, aw_lines]
  simp (disch := first | omega | exact okFill_t rfl | exact okSize_t rfl | exact fun h => h | (simp only [World.size_alloc, World.size_drew, World.size_setCell, size_fill, bytesW]; omega)) only [go_sem, c11, c11S0]
  exact ⟨by kernel_rfl, b02⟩
section
variable {va : Value} {l : List OpT} {w : World} {o : OpT}
end
end Go.Proofs.YtmdhcpghofadcaaGreat

namespace Go.Proofs.YtmdhcpghofadcaaGreat
set_option linter.unusedSimpArgs false
set_option linter.unusedVariables false
set_option maxRecDepth 100000
open Go Go.Ann Go.RowKit Go.WideShapes Go.Shelf
theorem top_end {l : List OpT} (hg : ∀ o ∈ l, OpG o) : topT l ≤ endT l := by
  obtain ⟨h0, h1⟩ := le_end l
  refine top_le h0 fun o ho => ⟨?_, (h1 o ho).1⟩
  cases hd : o.Done with
  | true => have := (hg o ho).rd hd; have := (h1 o ho).1; omega
  | false => have := (hg o ho).i1; have := (h1 o ho).2 hd; omega
def rulF (s : Sc) (f : Nat → UInt8) (x : Seg) (k : Nat) : UInt8 := if k = (s.col (lowT x.ops)).toNat then 94 else if k = (s.col (endT x.ops)).toNat ∧ f k = 32 then 36 else f k
def rulerF (s : Sc) (l : List Seg) : Nat → UInt8 := l.foldl (rulF s) fun _ => 32
def rulerL (s : Sc) (l : List Seg) : List UInt8 := bytesF s.wd (rulerF s l)
theorem rulerF_snoc (s : Sc) (t : List Seg) (x : Seg) : rulerF s (t ++ [x]) = rulF s (rulerF s t) x := by
  simp [rulerF, List.foldl_append]
structure SegIn (s : Sc) (x : Seg) : Prop where
  ne : x.ops ≠ []
  len : x.ops.length ≤ 100
  wf : ∀ o ∈ x.ops, o.wf
  g : ∀ o ∈ x.ops, OpG o
  has : ∀ o ∈ x.ops, s.has o
theorem SegIn.times {s : Sc} {x : Seg} (hs : s.ok) (h : SegIn s x) : s.lo ≤ lowT x.ops ∧ lowT x.ops ≤ 2199023255552 ∧ s.lo ≤ endT x.ops ∧ endT x.ops ≤ 2199023255552 := by
  obtain ⟨o, ho, e⟩ := low_in h.ne
  have h1 := (h.has o ho).i1
  have h2 := (h.has o ho).i2
  have h3 := hs.hi1
  have h4 := ((le_top x.ops 0).2 o ho).1
  have h5 := top_end h.g
  refine ⟨by omega, by omega, ?_, ?_⟩
  · show s.lo ≤ _
    have : topF x.ops 0 = topT x.ops := rfl
    omega
  · have : ∀ l : List OpT, (∀ o ∈ l, OpG o) → endT l ≤ 1099511627777 := by
      intro l
      induction l using snocI with
      | nil => intro _; decide
      | snoc t y ih =>
        intro hg
        have h6 := ih fun o ho => hg o (List.mem_append_left _ ho)
        have hy := hg y (by simp)
        rw [endT_snoc]
        cases hd : y.Done with
        | true => have := hy.rd hd; simp only [if_true]; omega
        | false => have := hy.ro hd; simp only [Bool.false_eq_true, if_false]; omega
    have := this _ h.g
    omega
section
variable {va : Value} {l : List Seg} {w : World} {s : Sc}
theorem ruler_ok (h : RdR w 3 segR va l) (hl : l.length ≤ 100) (hs : s.ok) (hx : ∀ x ∈ l, SegIn s x) : Ret Tryz.prog 41 [.agg s.enc.toArray, va] w fun u w' => u = .string (ofL (rulerL s l)) ∧ Below w.heap.size w w' := by
  obtain ⟨a, c, rfl, _⟩ := h.form
  have hwd := hs.wd1
  have hw8 := hs.wd8
  refine ent41 _ _ _ _ ?_
  have s1 := (St.start (W0 := w)).box s.enc.toArray 58
  have asc := s.at_
  obtain ⟨b0, hb0⟩ : ∃ b, b = w.heap.size := ⟨_, rfl⟩
  simp (disch := first | omega | exact okFill_t rfl | exact okSize_t rfl | exact fun h => h | (simp only [World.size_alloc, World.size_drew, World.size_setCell, size_fill, bytesW]; omega)) only [go_sem, c41, c41S0, c41S1, c41S2, c41S3, c41S4, c41L0, c41S5, c41S6, asc]
  refine Ret.mono (repeat_ok 32 s.wd (by omega) _) ?_
  rintro _ w2 ⟨rfl, b2⟩
  have s2 := s1.call b2
  rw [← hb0] at s2 ⊢
  simp (disch := first | omega | exact okFill_t rfl | exact okSize_t rfl | exact fun h => h | (simp only [World.size_alloc, World.size_drew, World.size_setCell, size_fill, bytesW]; omega)) only [go_sem, c41, c41S0, c41S1, c41S2, c41S3, c41S4, c41S5, c41S6]
  intro cl hcl
  rw [List.length_replicate] at hcl
  rw [show (List.replicate s.wd (32 : UInt8)).length = s.wd from List.length_replicate]
  have s3 := st_bytes s2 (List.replicate s.wd 32) cl
  rw [br_ext (g := rulerF s []) (fun k hk => by rw [List.length_replicate] at hk; simp [rulerF, hk]), List.length_replicate] at s3
  generalize w2.heap.size = b at s3 ⊢
  generalize bytesW w2 (List.replicate s.wd 32) cl 5 = w3 at s3 ⊢
  refine W_loopU (fun k : Nat => [(17, .int .i64 k)]) (fun k w' => k ≤ l.length ∧ St w w' (fun _ => False) [BR b s.wd (rulerF s (l.take k)) cl, .blk b0 s.enc.toArray 58] []) (fun k => l.length - k) 0 rfl ⟨Nat.zero_le _, s3⟩ ?_
  clear s3 s2 s1
  rintro k w4 ⟨hk, s4⟩
  by_cases hlt : k < l.length
  · have hlt' : (k : Int) < l.length := by omega
    obtain ⟨q, rfl⟩ := h.ptr (by omega)
    have h4 := h.below s4.bel (by decide) fun x c => segR.below s4.bel x c
    obtain ⟨_, _, ⟨v, rfl, hv, _⟩, ck, _⟩ := h4.elt (by decide) hlt
    have e1 := rulerF_snoc s (l.take k) l[k]
    rw [← List.take_succ_eq_append_getElem hlt] at e1
    have hm := List.getElem_mem hlt
    obtain ⟨x, hxe⟩ : ∃ x, x = l[k] := ⟨_, rfl⟩
    rw [← hxe] at hv e1 hm ck
    obtain ⟨t1, t2, t3, t4⟩ := (hx x hm).times hs
    have ca := Sc.col_le hs t1
    have cb := Sc.col_le hs t3
    obtain ⟨a', ha'⟩ : ∃ a' : Nat, a' = (s.col (lowT x.ops)).toNat := ⟨_, rfl⟩
    obtain ⟨e', he'⟩ : ∃ e' : Nat, e' = (s.col (endT x.ops)).toNat := ⟨_, rfl⟩
    have eca : s.col (lowT x.ops) = a' := by omega
    have ecb : s.col (endT x.ops) = e' := by omega
    obtain ⟨pv, cv, rfl, _⟩ := hv.form
    simp (disch := first | omega | exact okFill_t rfl | exact okSize_t rfl | exact fun h => h | (simp only [World.size_alloc, World.size_drew, World.size_setCell, size_fill, bytesW]; omega)) only [go_sem, c41, c41S0, c41S1, c41S2, c41S3, c41S4, c41L0, c41S6, c41L0, hlt', ck]
    have s5 := s4.alloc' (.cells #[.int .i64 x.obj, .int .i64 x.kind, .slice pv x.ops.length cv] 51)
    have hv5 := hv.below ((Below.refl w4.heap.size w4).alloc (Nat.le_refl _) (.cells #[.int .i64 x.obj, .int .i64 x.kind, .slice pv x.ops.length cv] 51)) (by decide)
    generalize w4.alloc (.cells #[.int .i64 x.obj, .int .i64 x.kind, .slice pv x.ops.length cv] 51) = w5 at s5 hv5 ⊢
    have hX := hx x hm
    refine ⟨by omega, Ret.mono (span_ok hv5 hX.len hX.wf) ?_⟩
    rintro _ w6 ⟨rfl, b6⟩
    have s6 := s5.call b6
    have r6 := s6.rules 1 rfl
    simp (disch := first | omega | exact okFill_t rfl | exact okSize_t rfl | exact fun h => h | (simp only [World.size_alloc, World.size_drew, World.size_setCell, size_fill, bytesW]; omega)) only [go_sem, c41, c41S0, c41S2, c41S3, c41S4, c41L0, c41S6, r6, asc]
    refine Ret.mono (column_ok hs _ t1 t2) ?_
    rintro _ w7 ⟨rfl, b7⟩
    have s7 := s6.call b7
    rw [eca]
    have haw : (a' : Int) < s.wd := by omega
    have hew : (e' : Int) < s.wd := by omega
    have rb := st_br s7 0 rfl
    have c7 := rb.1 a' (by omega)
    have f7 := rb.2 a' (by omega)
    clear rb
    have s8 := st_brSet s7 0 rfl hcl a' (by omega) 94 94 rfl (fun j => if j = a' then 94 else rulerF s (l.take k) j) (by simp) (fun j _ hj => by rw [if_neg hj])
    simp only [List.set_cons_zero] at s8
    simp (disch := first | omega | exact okFill_t rfl | exact okSize_t rfl | exact fun h => h | (simp only [World.size_alloc, World.size_drew, World.size_setCell, size_fill, bytesW]; omega)) only [go_sem, c41, c41S0, c41S2, c41S3, c41S4, c41L0, c41S6, haw, c7, f7]
    refine ⟨by omega, ?_⟩
    generalize w7.setCell ⟨b, a', none⟩ (.int .u8 94) = w8 at s8 ⊢
    have r8 := s8.rules 1 rfl
    simp (disch := first | omega | exact okFill_t rfl | exact okSize_t rfl | exact fun h => h | (simp only [World.size_alloc, World.size_drew, World.size_setCell, size_fill, bytesW]; omega)) only [go_sem, c41, c41S1, c41S2, c41S3, c41S4, c41L0, c41S6, r8, asc]
    refine Ret.mono (column_ok hs _ t3 t4) ?_
    rintro _ w9 ⟨rfl, b9⟩
    have s9 := s8.call b9
    rw [ecb]
    have rb := st_br s9 0 rfl
    have c9 := rb.1 e' (by omega)
    have f9 := rb.2 e' (by omega)
    clear rb
    have e32 : ((if e' = a' then (94 : UInt8) else rulerF s (l.take k) e').toNat : Int) = 32 ↔ (e' ≠ a' ∧ rulerF s (l.take k) e' = 32) := by
      by_cases h1 : e' = a'
      · rw [if_pos h1]
        exact ⟨fun h => absurd h (by decide), fun h => absurd h1 h.1⟩
      · rw [if_neg h1]
        have h32 : (32 : UInt8).toNat = 32 := rfl
        refine ⟨fun h => ⟨h1, UInt8.toNat_inj.1 ?_⟩, fun h => by rw [h.2]; rfl⟩
        omega
    simp (disch := first | omega | exact okFill_t rfl | exact okSize_t rfl | exact fun h => h | (simp only [World.size_alloc, World.size_drew, World.size_setCell, size_fill, bytesW]; omega)) only [go_sem, c41, c41S0, c41S1, c41S2, c41S3, c41S4, c41L0, c41S6, hew, c9, f9]
    have g1 : ∀ j, j ≠ e' → (if j = a' then 94 else rulerF s (l.take k) j) = rulF s (rulerF s (l.take k)) x j := fun j hj => by
      unfold rulF
      rw [← ha', ← he']
      by_cases h1 : j = a'
      · rw [if_pos h1, if_pos h1]
      · rw [if_neg h1, if_neg h1, if_neg (fun h => hj h.1)]
    refine ⟨by omega, fun h1 => ⟨by omega, by constructor <;> omega, k + 1, rfl, ⟨hlt, ?_⟩, by omega⟩, fun h1 => ⟨by constructor <;> omega, k + 1, rfl, ⟨hlt, ?_⟩, by omega⟩⟩
    · obtain ⟨n1, n2⟩ := e32.1 h1
      have s10 := st_brSet s9 0 rfl hcl e' (by omega) 36 36 rfl (rulF s (rulerF s (l.take k)) x) (by unfold rulF; rw [← ha', ← he', if_neg n1, if_pos ⟨rfl, n2⟩]) (fun j _ hj => g1 j hj)
      rw [e1]
      exact s10
    · have hne : ¬ (e' ≠ a' ∧ rulerF s (l.take k) e' = 32) := fun h => h1 (e32.2 h)
      rw [e1, br_ext (g := fun j => if j = a' then 94 else rulerF s (l.take k) j) fun j _ => ?_]
      · exact s9
      · by_cases hj : j = e'
        · subst hj
          unfold rulF
          rw [← ha', ← he']
          by_cases h2 : j = a'
          · rw [if_pos h2, if_pos h2]
          · rw [if_neg h2, if_neg h2, if_neg (fun h => hne ⟨h2, h.2⟩)]
        · exact (g1 j hj).symm
  · have hlt' : ¬ (k : Int) < l.length := by omega
    have hkk : k = l.length := by omega
    subst hkk
    rw [List.take_length] at s4
    simp (disch := first | omega | exact okFill_t rfl | exact okSize_t rfl | exact fun h => h | (simp only [World.size_alloc, World.size_drew, World.size_setCell, size_fill, bytesW]; omega)) only [go_sem, c41, c41S0, c41S1, c41S2, c41S3, c41S4, c41L0, c41S5, c41S6, c41L0, hlt']
    refine ⟨rulerL s l, bytesF_len _ _, br_bytes s4, rfl, ?_⟩
    rw [hb0]; exact s4.bel
end
end Go.Proofs.YtmdhcpghofadcaaGreat

namespace Go.Proofs.YtmdhcpghofadcaaGreat
set_option linter.unusedSimpArgs false
set_option linter.unusedVariables false
set_option maxRecDepth 100000
open Go Go.Ann Go.RowKit Go.WideShapes Go.Shelf
def segsOf (x : Seg) : List Seg := x.ops.foldl (cutStep segQ fun _ => (x.obj, x.kind)) []
def objL (s : Sc) (q : Seg × List Seg) : List UInt8 := [111, 98, 106, 101, 99, 116, 32] ++ numL q.1.obj ++ [10] ++ linesL s (q.2.map Seg.ops) ++ (headL [] ++ rulerL s (segsOf q.1) ++ [10])
def objsL (s : Sc) (P : List (Seg × List Seg)) : List UInt8 := P.flatMap (objL s)
def ObjR (l : List OpT) (width : Int) (u : Value) : Prop := (¬ (8 ≤ width ∧ width ≤ 200) ∧ u = .tuple #[.string (ofL []), .int .i64 1]) ∨ ((8 ≤ width ∧ width ≤ 200) ∧ ∃ P : List (Seg × List Seg), ByObj l (P.map Prod.fst) ∧ (∀ q ∈ P, ByProc q.1.ops q.2) ∧ u = .tuple #[.string (ofL (objsL (scOf l width.toNat) P)), .int .i64 0])
theorem obj_in {l : List OpT} {acc : List Seg} (h : ByObj l acc) {x : Seg} (hx : x ∈ acc) : (∀ o ∈ x.ops, o ∈ l ∧ o.Object = x.obj) ∧ x.ops ≠ [] ∧ x.ops.length ≤ l.length ∧ x.ops.Pairwise fun a b => ¬ earI b a < 0 := by
  have h1 : ∀ o ∈ x.ops, o ∈ l ∧ o.Object = x.obj := fun o ho => by
    have := (h.sorts x hx).1.mem_iff.1 ho
    unfold ofObj at this
    rw [List.mem_filter, decide_eq_true_eq] at this
    exact this
  obtain ⟨o, r, e, _⟩ := h.kind x hx
  refine ⟨h1, by rw [e]; simp, ?_, (h.sorts x hx).2⟩
  have := (h.sorts x hx).1.length_eq
  have := ofObj_len x.obj l
  omega
theorem obj_few {l : List OpT} {acc : List Seg} (h : ByObj l acc) : acc.length ≤ l.length := by
  have hn : (acc.map Seg.obj).Nodup := by
    unfold List.Nodup
    rw [List.pairwise_map]
    exact h.up.imp fun h => by omega
  have hs : ∀ x ∈ acc.map Seg.obj, x ∈ l.map OpT.Object := fun x hx => by
    obtain ⟨s, hs, rfl⟩ := List.mem_map.1 hx
    obtain ⟨h1, h2, _, _⟩ := obj_in h hs
    obtain ⟨o, r, e⟩ := List.exists_cons_of_ne_nil h2
    have := h1 o (by rw [e]; exact List.mem_cons_self)
    rw [← this.2]
    exact List.mem_map_of_mem this.1
  have key : ∀ (D d : List Int), D.Nodup → (∀ x ∈ D, x ∈ d) → D.length ≤ d.length := by
    intro D
    induction D with
    | nil => intro d _ _; exact Nat.zero_le _
    | cons a D ih =>
      intro d nd hs
      rw [List.nodup_cons] at nd
      have h1 : ∀ x ∈ D, x ∈ d.erase a := fun x hx => (List.mem_erase_of_ne (fun e => nd.1 (by rw [← e]; exact hx))).2 (hs x (List.mem_cons_of_mem _ hx))
      have := ih _ nd.2 h1
      have ha := hs a (List.mem_cons_self ..)
      rw [List.length_erase_of_mem ha] at this
      have := List.length_pos_of_mem ha
      rw [List.length_cons]; omega
  have := key _ _ hn hs
  simpa using this
theorem obj_unique {l : List OpT} (hp : Pure l) {width : Int} {u v : Value} (hu : ObjR l width u) (hv : ObjR l width v) : u = v := by
  rcases hu with ⟨h1, rfl⟩ | ⟨h1, P, hP, hq, rfl⟩
  · rcases hv with ⟨_, rfl⟩ | ⟨h2, _⟩
    · rfl
    · exact absurd h2 h1
  · rcases hv with ⟨h2, _⟩ | ⟨_, P', hP', hq', rfl⟩
    · exact absurd h1 h2
    · have e := byObj_unique hp hP hP'
      have : P = P' := by
        have hlen : P.length = P'.length := by have := congrArg List.length e; simpa using this
        refine List.ext_getElem hlen fun i h1 h2 => ?_
        have ei : P[i].1 = P'[i].1 := by
          have := congrArg (fun l : List Seg => l[i]?) e
          simpa [h1, h2] using this
        have hx := List.mem_map_of_mem (f := Prod.fst) (List.getElem_mem h1)
        have hpure : Pure P[i].1.ops := fun a ha b hb => hp a ((obj_in hP hx).1 a ha).1 b ((obj_in hP hx).1 b hb).1
        have hb := hq' _ (List.getElem_mem h2)
        rw [← ei] at hb
        exact Prod.ext ei (byProc_unique hpure (hq _ (List.getElem_mem h1)) hb)
      rw [this]
theorem segs_in {s : Sc} {x : Seg} (hl : x.ops.length ≤ 100) (hw : ∀ o ∈ x.ops, o.wf) (hg : ∀ o ∈ x.ops, OpG o) (hh : ∀ o ∈ x.ops, s.has o) : (segsOf x).length ≤ 100 ∧ ∀ y ∈ segsOf x, SegIn s y := by
  have hne := cut_ne segQ (fun _ => (x.obj, x.kind)) x.ops [] (fun s h => by cases h)
  have hfl := cut_flat segQ (fun _ => (x.obj, x.kind)) x.ops []
  simp only [List.flatMap_nil, List.nil_append] at hfl
  refine ⟨?_, fun y hy => ?_⟩
  · have := segs_len _ hne
    rw [hfl] at this
    exact Nat.le_trans this hl
  · have hsub : ∀ o ∈ y.ops, o ∈ x.ops := fun o ho => by rw [← hfl]; exact List.mem_flatMap.2 ⟨y, hy, ho⟩
    refine ⟨hne y hy, ?_, fun o ho => hw o (hsub o ho), fun o ho => hg o (hsub o ho), fun o ho => hh o (hsub o ho)⟩
    have hfl' : (segsOf x).flatMap Seg.ops = x.ops := hfl
    have := seg_len _ y hy
    rw [hfl'] at this
    omega
theorem objL_len {s : Sc} (hs : s.ok) {q : Seg × List Seg} (h0 : 0 ≤ q.1.obj) (h1 : q.1.obj ≤ 1023) (hq : q.2.length ≤ 100) (hp : ∀ p ∈ q.2.map Seg.ops, 0 ≤ procOf p ∧ procOf p ≤ 1023) : (objL s q).length ≤ 30000 := by
  have h2 := proc_len h0 h1
  have h3 := linesL_len (s := s) hp
  have hwd := hs.wd1
  have h4 : (rulerL s (segsOf q.1)).length = s.wd := bytesF_len _ _
  have h5 : (q.2.map Seg.ops).length * (8 + s.wd) ≤ 100 * 208 := by rw [List.length_map]; exact Nat.mul_le_mul hq (by omega)
  unfold objL
  simp only [List.length_append, List.length_cons, List.length_nil, headL_len (l := []) (by decide)]
  omega
theorem objsL_len {s : Sc} : ∀ {P : List (Seg × List Seg)}, (∀ q ∈ P, (objL s q).length ≤ 30000) → (objsL s P).length ≤ P.length * 30000
  | [], _ => by simp [objsL]
  | q :: P, h => by
    have h1 := h q List.mem_cons_self
    have ih := objsL_len (P := P) fun q hq => h q (List.mem_cons_of_mem _ hq)
    have e : objsL s (q :: P) = objL s q ++ objsL s P := by simp [objsL]
    rw [e, List.length_append, List.length_cons, Nat.add_mul]; omega
theorem objsL_snoc (s : Sc) (P : List (Seg × List Seg)) (q : Seg × List Seg) : objsL s (P ++ [q]) = objsL s P ++ objL s q := by
  simp [objsL, List.flatMap_append]
def frzB (w1 : World) (b : Nat) : Inv where
  holds w' := ∀ k, k < w1.heap.size → k ≠ b → w'.heap[k]? = w1.heap[k]?
  foot k := k < w1.heap.size ∧ k ≠ b
  loc w w' h hs := fun k h1 h2 => (hs k ⟨h1, h2⟩).trans (h k h1 h2)
theorem rd_ne {α : Type} {enc : α → List Value} {sz : Nat} (hk : ∀ x, (enc x).length = sz) (h3 : 3 ≤ sz) {w : World} {v : Value} {xs : List α} (h : RdS w sz enc v xs) {b : Nat} {cs : Array Value} {t : TypeId} (hb : Blk w b cs t) (hc : cs.size = 2) {k : Nat} (hf : slFoot v k) : k ≠ b := by
  rintro rfl
  obtain ⟨a, n, c, rfl, hn, rfl⟩ := hf
  obtain ⟨a', c', e, _⟩ := h.form
  simp only [Value.slice.injEq] at e
  obtain ⟨_, rfl, _⟩ := e
  have hlt : 0 < xs.length := by omega
  have := (h.elt hk (by omega) hlt).2 2 (by decide) (by omega)
  rw [hb.cell, Array.getElem?_eq_none (by omega)] at this
  rw [List.getElem?_eq_getElem (by rw [hk]; omega)] at this
  cases this
theorem frz_rd {α : Type} {enc : α → List Value} {sz : Nat} (hk : ∀ x, (enc x).length = sz) (h3 : 3 ≤ sz) {w w' : World} {v : Value} {xs : List α} (h : RdS w sz enc v xs) {b : Nat} {cs : Array Value} {t : TypeId} (hb : Blk w b cs t) (hc : cs.size = 2) (hf : (frzB w b).holds w') : RdS w' sz enc v xs :=
  (Inv.rd sz enc v xs).loc w w' h fun k hk' => hf k (h.footLt (by omega) hk') (rd_ne hk h3 h hb hc hk')
theorem segs_foot {w : World} {v : Value} {xs : List Seg} (h : RdR w 3 segR v xs) {b : Nat} {cs : Array Value} {t : TypeId} (hb : Blk w b cs t) (hc : cs.size = 2) : ∀ k, slFoot v k → k < w.heap.size ∧ k ≠ b := by
  rintro k ⟨a, n, c, rfl, hn, rfl⟩
  obtain ⟨a', c', e, _⟩ := h.form
  simp only [Value.slice.injEq] at e
  obtain ⟨_, rfl, _⟩ := e
  have hlt : 0 < xs.length := by omega
  refine ⟨h.blt (by decide) hlt, ?_⟩
  rintro rfl
  obtain ⟨c3, h1, _, _, h2⟩ := h.elt (by decide) hlt
  have := h2.2 2 (by decide) (by decide)
  rw [hb.cell, Array.getElem?_eq_none (by omega), List.getElem?_eq_getElem (by omega)] at this
  cases this
theorem frz_segs {w w' : World} {v : Value} {xs : List Seg} (h : RdR w 3 segR v xs) {b : Nat} {cs : Array Value} {t : TypeId} (hb : Blk w b cs t) (hc : cs.size = 2) (hf : (frzB w b).holds w') : RdR w' 3 segR v xs := by
  have hfoot := segs_foot h hb hc
  obtain ⟨cc, h1, h2, h3⟩ := h
  refine ⟨cc, h1, fun j c x hj hx => ?_, Rd.loc h3 fun k hk => hf k (hfoot k hk).1 (hfoot k hk).2⟩
  obtain ⟨h4, v', rfl, h5, h6⟩ := h2 j c x hj hx
  exact ⟨h4, v', rfl, frz_rd OpT.len (by decide) h5 hb hc hf, h6⟩
end Go.Proofs.YtmdhcpghofadcaaGreat

namespace Go.Proofs.YtmdhcpghofadcaaGreat
set_option linter.unusedSimpArgs false
set_option linter.unusedVariables false
set_option maxRecDepth 100000
open Go Go.Ann Go.RowKit Go.WideShapes Go.Shelf
section
variable {va : Value} {l : List OpT} {w : World} {s : Sc}
theorem objs_ok (h : RdS w 11 OpT.enc va l) (hG : Good l) (width : Int) : Ret Tryz.prog 12 [va, .int .i64 width] w fun u w' => ObjR l width u ∧ Below w.heap.size w w' := by
  have hh := hG.h
  refine ent12 _ _ _ _ ?_
  simp (disch := first | omega | exact okFill_t rfl | exact okSize_t rfl | exact fun h => h | (simp only [World.size_alloc, World.size_drew, World.size_setCell, size_fill, bytesW]; omega)) only [go_sem, c12, c12S0, c12S1, c12L0, c12S2, c12S3, c12S4, c12S5, c12S6, c12L1, c12S7, c12S8, c12S9, c12S10]
  refine ⟨fun h1 => ⟨fun h2 => ⟨.inl ⟨by omega, rfl⟩, Below.refl _ _⟩, fun h2 => ?_⟩, fun h1 => ⟨.inl ⟨by omega, rfl⟩, Below.refl _ _⟩⟩
  obtain ⟨wd, rfl⟩ : ∃ wd : Nat, width = wd := ⟨width.toNat, by omega⟩
  obtain ⟨hs, hho⟩ := scOf_ok hh.g (show 8 ≤ wd by omega) (show wd ≤ 200 by omega)
  simp (disch := first | omega | exact okFill_t rfl | exact okSize_t rfl | exact fun h => h | (simp only [World.size_alloc, World.size_drew, World.size_setCell, size_fill, bytesW]; omega)) only [go_sem, c12, c12S0, c12S1, c12L0, c12S2, c12S3, c12S4, c12S5, c12S6, c12L1, c12S7, c12S8, c12S9, c12S11]
  refine Ret.mono (over_ok h hh.len hh.wf hh.g wd (by omega)) ?_
  rintro _ w2 ⟨rfl, b2⟩
  obtain ⟨sc, hsc⟩ : ∃ sc, sc = scOf l wd := ⟨_, rfl⟩
  have hwde : sc.wd = wd := by rw [hsc]; rfl
  rw [← hsc] at hs hho ⊢
  obtain ⟨hl, hw, hg⟩ := hh
  have s1 := ((((St.start (W0 := w)).call b2).box sc.enc.toArray 58).box #[.pointer none, .slice none 0 0] 63).nilRow 5 1
  simp only [World.size_alloc] at s1
  have asc := sc.at_
  simp (disch := first | omega | exact okFill_t rfl | exact okSize_t rfl | exact fun h => h | (simp only [World.size_alloc, World.size_drew, World.size_setCell, size_fill, bytesW]; omega)) only [go_sem, c12, c12S0, c12S1, c12L0, c12S2, c12S3, c12S4, c12S5, c12S6, c12L1, c12S8, c12S10, c12S11]
  refine ⟨sc.len.symm, ?_⟩
  generalize w2.heap.size = b6 at s1 ⊢
  generalize (w2.alloc (.cells sc.enc.toArray 58)).alloc (.cells #[.pointer none, .slice none 0 0] 63) = w3 at s1 ⊢
  obtain ⟨b7, hb7⟩ : ∃ b, b = b6 + 1 := ⟨_, rfl⟩
  rw [← hb7] at s1 ⊢
  have s2 : St w w3 (fun _ => False) (BuL b7 (.pointer none) (.slice none 0 0) [] ++ [.blk b6 sc.enc.toArray 58]) [] := s1.perm (List.Perm.swap ..)
  refine Ret.mono (objects_ok va l w3 (h.below s2.bel (by decide)) hl) ?_
  rintro u w4 ⟨⟨r0, hr0, hu⟩, b4⟩
  have hby : ByObj l (r0.foldl (cutStep objQ objMk) []) := objects_by hr0
  have hu : RdR w4 3 segR u (r0.foldl (cutStep objQ objMk) []) := hu
  generalize r0.foldl (cutStep objQ objMk) [] = acc at hby hu
  have s3 := s2.call b4
  have hB7 := s3.blk 0 rfl
  have hB6 := s3.blk 2 rfl
  have hb67 : b6 ≠ b7 := by omega
  have s4 : St w w4 (fun _ => False) (BuL b7 (.pointer none) (.slice none 0 0) []) [frzB w4 b7] := by
    refine (s3.sub (List.sublist_append_left _ _)).keep (frzB w4 b7) (fun k _ _ => rfl) fun k hk => ⟨hk.1, fun h => h, fun r hr e => ?_⟩
    simp only [BuL, List.mem_cons, List.not_mem_nil, or_false] at hr
    rcases hr with rfl | rfl
    · simp only [Res.own, Option.some.injEq] at e
      exact hk.2 e.symm
    · simp [Res.own, Value.ownBlock] at e
  have low6 := (s3.low 2 rfl).2
  have frz6 : ∀ w', (frzB w4 b7).holds w' → Blk w' b6 sc.enc.toArray 58 := fun w' hf => (hf b6 low6 hb67).trans hB6
  clear s1 s2 s3
  obtain ⟨pu, cu, rfl, _⟩ := hu.form
  have few := obj_few hby
  simp (disch := first | omega | exact okFill_t rfl | exact okSize_t rfl | exact fun h => h | (simp only [World.size_alloc, World.size_drew, World.size_setCell, size_fill, bytesW]; omega)) only [go_sem, c12, c12S0, c12S1, c12L0, c12S2, c12S3, c12S4, c12S5, c12S6, c12S7, c12S8, c12S10, c12S11]
  have hpure := hG.pure
  -- every object
  have objFacts : ∀ x ∈ acc, (∀ o ∈ x.ops, o ∈ l ∧ o.Object = x.obj) ∧ x.ops ≠ [] ∧ x.ops.length ≤ l.length ∧ x.ops.Pairwise fun a b => ¬ earI b a < 0 := fun x hx => obj_in hby hx
  refine W_loopU (fun k : Nat => [(24, .int .i64 k)]) (fun k w' => k ≤ acc.length ∧ ∃ P p v, P.map Prod.fst = acc.take k ∧ (∀ q ∈ P, ByProc q.1.ops q.2) ∧ (∀ q ∈ P, (objL sc q).length ≤ 30000) ∧ BuOk b7 p v (objsL sc P) ∧ St w w' (fun _ => False) (BuL b7 p v (objsL sc P)) [frzB w4 b7]) (fun k => acc.length - k) 0 rfl ⟨Nat.zero_le _, [], _, _, rfl, (fun q h => by cases h), (fun q h => by cases h), ⟨.inl rfl, fun _ => rfl⟩, s4⟩ ?_
  clear s4
  rintro k w5 ⟨hk, P, bp, bv, hP1, hP2, hP3, bok, s5⟩
  have hPl : P.length = k := by have := congrArg List.length hP1; rw [List.length_map, List.length_take] at this; omega
  have hol := objsL_len (s := sc) hP3
  have hol2 : (objsL sc P).length ≤ 100 * 30000 := by
    refine Nat.le_trans hol (Nat.mul_le_mul_right _ ?_)
    omega
  by_cases hlt : k < acc.length
  · have hlt' : (k : Int) < acc.length := by omega
    obtain ⟨q, rfl⟩ := hu.ptr (by omega)
    have hu5 := frz_segs hu hB7 rfl (s5.get 0 rfl)
    obtain ⟨_, _, ⟨v, rfl, hv, _⟩, ck, ek5⟩ := hu5.elt (by decide) hlt
    obtain ⟨_, _, ⟨v', rfl, hv4, _⟩, _, ek4⟩ := hu.elt (by decide) hlt
    have hqf := segs_foot hu hB7 rfl q.block ⟨q, _, _, rfl, by omega, rfl⟩
    have hvv : v = v' := by
      have a5 := ek5.2 2 (by decide) (by decide)
      have a4 := ek4.2 2 (by decide) (by decide)
      have e : w5.cell? ⟨q.block, q.off + k * 3 + 2, none⟩ = w4.cell? ⟨q.block, q.off + k * 3 + 2, none⟩ := by
        unfold World.cell?
        rw [s5.get 0 rfl q.block hqf.1 hqf.2]
      rw [a5, a4] at e
      simpa using e
    subst hvv
    obtain ⟨x, hxe⟩ : ∃ x, x = acc[k] := ⟨_, rfl⟩
    have hm : x ∈ acc := by rw [hxe]; exact List.getElem_mem hlt
    rw [← hxe] at hv hv4 ck
    have hvAt : ∀ w', (frzB w4 b7).holds w' → RdS w' 11 OpT.enc v x.ops := fun w' hf => frz_rd OpT.len (by decide) hv4 hB7 rfl hf
    clear ek5 ek4
    obtain ⟨hx1, hx2, hx3, hx4⟩ := objFacts x hm
    have hxw : ∀ o ∈ x.ops, o.wf := fun o ho => hw o (hx1 o ho).1
    have hxg : ∀ o ∈ x.ops, OpG o := fun o ho => hg o (hx1 o ho).1
    have hxh : ∀ o ∈ x.ops, sc.has o := fun o ho => hho o (hx1 o ho).1
    have hx100 : x.ops.length ≤ 100 := by omega
    have hob : 0 ≤ x.obj ∧ x.obj ≤ 1023 := by
      obtain ⟨o, r, e⟩ := List.exists_cons_of_ne_nil hx2
      have ho := hx1 o (by rw [e]; exact List.mem_cons_self)
      rw [← ho.2]
      exact ⟨(hg o ho.1).b0, (hg o ho.1).b1⟩
    have hI : I64 x.obj := by constructor <;> omega
    have hnl := proc_len hob.1 hob.2
    obtain ⟨pv, cv, rfl, _⟩ := hv.form
    simp (disch := first | omega | exact okFill_t rfl | exact okSize_t rfl | exact fun h => h | (simp only [World.size_alloc, World.size_drew, World.size_setCell, size_fill, bytesW]; omega)) only [go_sem, c12, c12S0, c12S1, c12L0, c12S2, c12S3, c12S5, c12S6, c12L1, c12S7, c12S8, c12S10, c12S11, c12L1, hlt', ck]
    have s6 := s5.box #[.int .i64 x.obj, .int .i64 x.kind, .slice pv x.ops.length cv] 51
    generalize w5.heap.size = b9 at s6 ⊢
    generalize w5.alloc (.cells #[.int .i64 x.obj, .int .i64 x.kind, .slice pv x.ops.length cv] 51) = w6 at s6 ⊢
    have s7 : St w w6 (fun _ => False) (BuL b7 bp bv (objsL sc P) ++ [.blk b9 #[.int .i64 x.obj, .int .i64 x.kind, .slice pv x.ops.length cv] 51]) [frzB w4 b7] := s6.perm (List.perm_append_singleton _ _)
    clear s5 s6
    refine ⟨by omega, Ret.mono (digits_ok _ w6 hI) ?_⟩
    rintro _ w7 ⟨rfl, b7'⟩
    have s8 := s7.call b7'
    obtain ⟨T1, hT1⟩ : ∃ T, T = [111, 98, 106, 101, 99, 116, 32] ++ numL x.obj ++ [10] := ⟨_, rfl⟩
    have hT1l : T1.length ≤ 20 := by rw [hT1]; simp only [List.length_append, List.length_cons, List.length_nil]; omega
    simp (disch := first | omega | exact okFill_t rfl | exact okSize_t rfl | exact fun h => h | (simp only [World.size_alloc, World.size_drew, World.size_setCell, size_fill, bytesW]; omega)) only [go_sem, c12, c12S0, c12S1, c12L0, c12S2, c12S3, c12S5, c12S6, c12L1, c12S7, c12S8, c12S10, c12S11]
    refine ⟨by omega, by first | omega | (simp only [List.length_cons, List.length_append]; omega), ?_⟩
    have eT1 : (111 :: 98 :: 106 :: 101 :: 99 :: 116 :: 32 :: (numL x.obj ++ [10]) : List UInt8) = T1 := by rw [hT1]; rfl
    rw [eT1]
    refine Ret.mono (writeS_ok T1 s8 bok (by omega)) ?_
    rintro u9 w9 ⟨bp1, bv1, bok1, s9⟩
    clear s7 s8
    have r9 := s9.rules 2 rfl
    simp (disch := first | omega | exact okFill_t rfl | exact okSize_t rfl | exact fun h => h | (simp only [World.size_alloc, World.size_drew, World.size_setCell, size_fill, bytesW]; omega)) only [go_sem, c12, c12S0, c12S1, c12L0, c12S4, c12S5, c12S6, c12L1, c12S7, c12S8, c12S10, c12S11, r9]
    refine Ret.mono (programs_ok _ x.ops w9 (hvAt _ (s9.get 0 rfl)) hx100) ?_
    rintro u10 w10 ⟨⟨pac, vls, hpac, hP⟩, b10⟩
    have s10 := s9.made b10 (frz w10 w9.heap.size) (fun k _ _ => rfl) fun k hk => hk
    clear s9 r9
    obtain ⟨pu10, cu10, rfl, _⟩ := hP.top.form
    have hvl := hP.len
    have pfew := prog_few hpac
    have hpr : ∀ p ∈ pac.map Seg.ops, 0 ≤ procOf p ∧ procOf p ≤ 1023 := fun p hp => by
      obtain ⟨y, hy, rfl⟩ := List.mem_map.1 hp
      obtain ⟨h1, h2, h3, _⟩ := prog_in hpac hy
      obtain ⟨o, r, e⟩ := List.exists_cons_of_ne_nil h2
      have := h1 o (by rw [e]; exact List.mem_cons_self)
      rw [h3, ← this.2]
      exact ⟨(hxg o this.1).p0, (hxg o this.1).p1⟩
    have hlen : ∀ j, (linesL sc ((pac.take j).map Seg.ops)).length ≤ 100 * 208 := fun j => by
      rw [linesL_len fun q hq => hpr q (by obtain ⟨y, hy, rfl⟩ := List.mem_map.1 hq; exact List.mem_map_of_mem (List.mem_of_mem_take hy)), List.length_map, List.length_take]
      exact Nat.mul_le_mul (by omega) (by omega)
    simp (disch := first | omega | exact okFill_t rfl | exact okSize_t rfl | exact fun h => h | (simp only [World.size_alloc, World.size_drew, World.size_setCell, size_fill, bytesW]; omega)) only [go_sem, c12, c12S0, c12S1, c12S2, c12S4, c12S5, c12S6, c12L1, c12S7, c12S8, c12S10, c12S11]
    refine W_loopU (fun j : Nat => [(38, .int .i64 j)]) (fun j w' => j ≤ pac.length ∧ ∃ p v, BuOk b7 p v (objsL sc P ++ T1 ++ linesL sc ((pac.take j).map Seg.ops)) ∧ St w w' (fun _ => False) (BuL b7 p v (objsL sc P ++ T1 ++ linesL sc ((pac.take j).map Seg.ops)) ++ [.blk b9 #[.int .i64 x.obj, .int .i64 x.kind, .slice pv x.ops.length cv] 51]) [frz w10 w9.heap.size, frzB w4 b7]) (fun j => pac.length - j) 0 (by rw [hvl]; rfl) ⟨Nat.zero_le _, bp1, bv1, by simpa [linesL] using bok1, by simpa [linesL] using s10⟩ ?_
    clear s10 bok1
    rintro j w11 ⟨hj, bp2, bv2, bok2, s11⟩
    have hlj := hlen j
    have htl : (objsL sc P ++ T1 ++ linesL sc ((pac.take j).map Seg.ops)).length ≤ 100 * 30000 + 20 + 100 * 208 := by rw [List.length_append, List.length_append]; omega
    by_cases hjl : j < pac.length
    · have hjl' : (j : Int) < vls.length := by omega
      have hP11 := hP.frz (s11.get 0 rfl)
      obtain ⟨q2, rfl⟩ := hP11.top.ptr (by omega)
      have hjv : j < vls.length := by omega
      obtain ⟨p, hp⟩ : ∃ p, p = pac[j] := ⟨_, rfl⟩
      have hpm : p ∈ pac := by rw [hp]; exact List.getElem_mem hjl
      have et := List.take_succ_eq_append_getElem hjl
      rw [← hp] at et
      obtain ⟨vp, hvpe⟩ : ∃ v, v = vls[j] := ⟨_, rfl⟩
      have hvm : vp ∈ vls := by rw [hvpe]; exact List.getElem_mem hjv
      have cj := (show RdS w11 1 (fun v : Value => [v]) (.slice (some q2) vls.length cu10) vls from hP11.top).at1 (e1 := fun v => v) hjv
      rw [← hvpe] at cj
      have hvq : vls[j]? = some vp := by rw [hvpe]; exact List.getElem?_eq_getElem hjv
      have haq : pac[j]? = some p := by rw [hp]; exact List.getElem?_eq_getElem hjl
      obtain ⟨hvp, hpl100⟩ := hP11.elt j p vp haq hvq
      have e1 : linesL sc ((pac.take (j + 1)).map Seg.ops) = linesL sc ((pac.take j).map Seg.ops) ++ lineL sc p.ops := by rw [et, List.map_append]; exact linesL_snoc _ _ _
      obtain ⟨hi1, hi2, hi3, hi4⟩ := prog_in hpac hpm
      have hpp := hpr p.ops (List.mem_map_of_mem hpm)
      obtain ⟨o, r, e⟩ := List.exists_cons_of_ne_nil hi2
      obtain ⟨pp, cp, rfl, _⟩ := hvp.form
      obtain ⟨pp, rfl⟩ := hvp.ptr (by rw [e]; simp)
      have eo : p.ops[0]'(by rw [e]; simp) = o := by simp [e]
      have ao := o.at
      have hpo : procOf p.ops = o.Proc := by rw [e]; rfl
      have hlen0 : 0 < p.ops.length := by rw [e]; simp
      have hIo : I64 o.Proc := by
        have h0 := (hxg o (hi1 o (by rw [e]; exact List.mem_cons_self)).1)
        have := h0.p0; have := h0.p1
        constructor <;> omega
      have hpl4 := proc_len hpp.1 hpp.2
      rw [hpo] at hpl4
      have fnew : w9.heap.size ≤ pp.block ∧ pp.block < w10.heap.size := ⟨hP.newE _ hvm pp.block ⟨pp, _, _, rfl, by omega, rfl⟩, (hP.elt j p _ haq hvq).1.footLt (by decide) ⟨pp, _, _, rfl, by omega, rfl⟩⟩
      simp (disch := first | omega | exact okFill_t rfl | exact okSize_t rfl | exact fun h => h | (simp only [World.size_alloc, World.size_drew, World.size_setCell, size_fill, bytesW]; omega)) only [go_sem, c12, c12S0, c12S1, c12L0, c12S2, c12S4, c12S5, c12S6, c12L1, c12S7, c12S8, c12S10, c12S11, c12L0, hjl', cj]
      refine ⟨by omega, c12draw0 (Same (fun j => j = b6 ∨ j = pp.block) _) (Same.refl _ _) ?_⟩
      have s12 := s11.drew
      have hP12 := hP.frz (s12.get 0 rfl)
      have hvp12 := (hP12.elt j p _ haq hvq).1
      have e0 := hvp12.elt OpT.len (by decide) hlen0
      rw [eo] at e0
      have r6 := (frz6 _ (s12.get 1 rfl)).rules
      generalize w11.drew = w12 at s12 hP12 hvp12 e0 r6 ⊢
      have e9 : w12.cell? ⟨pp.block, pp.off + 1, none⟩ = some (.int .i64 o.Proc) := by
        have := e0.2 1 (by decide) (by decide)
        simpa [ao] using this
      have sm : ∀ bp' bv' bs' w', St w w' (fun _ => False) (BuL b7 bp' bv' bs' ++ [.blk b9 #[.int .i64 x.obj, .int .i64 x.kind, .slice pv x.ops.length cv] 51]) [frz w10 w9.heap.size, frzB w4 b7] → Same (fun j => j = b6 ∨ j = pp.block) w12 w' := by
        intro bp' bv' bs' w' h' m hm'
        rcases hm' with rfl | rfl
        · exact Eq.trans (frz6 _ (h'.get 1 rfl)) (frz6 _ (s12.get 1 rfl)).symm
        · exact Eq.trans (h'.get 0 rfl _ fnew.1 fnew.2) (s12.get 0 rfl _ fnew.1 fnew.2).symm
      simp (disch := first | omega | exact okFill_t rfl | exact okSize_t rfl | exact fun h => h | (simp only [World.size_alloc, World.size_drew, World.size_setCell, size_fill, bytesW]; omega)) only [go_sem, c12, c12S0, c12S1, c12L0, c12S2, c12S4, c12S5, c12S6, c12L1, c12S7, c12S8, c12S10, c12S11, c12D0, r6, asc, e9]
      refine ⟨by omega, Ret.mono (digits_ok _ w12 hIo) ?_⟩
      rintro _ w13 ⟨rfl, b13⟩
      have s13 := s12.call b13
      simp (disch := first | omega | exact okFill_t rfl | exact okSize_t rfl | exact fun h => h | (simp only [World.size_alloc, World.size_drew, World.size_setCell, size_fill, bytesW]; omega)) only [go_sem, c12, c12S0, c12S1, c12L0, c12S2, c12S4, c12S5, c12S6, c12L1, c12S7, c12S8, c12S10, c12S11, c12D0]
      refine ⟨sm _ _ _ _ s13, by omega, Ret.mono (head_ok (112 :: numL o.Proc) (by rw [List.length_cons]; omega) w13) ?_⟩
      rintro _ w14 ⟨rfl, b14⟩
      have s14 := s13.call b14
      have b1214 := b13.trans (b14.mono b13.size)
      have hhl : (headL (112 :: numL o.Proc)).length = 7 := headL_len (by rw [List.length_cons]; omega)
      simp (disch := first | omega | exact okFill_t rfl | exact okSize_t rfl | exact fun h => h | (simp only [World.size_alloc, World.size_drew, World.size_setCell, size_fill, bytesW]; omega)) only [go_sem, c12, c12S0, c12S1, c12L0, c12S2, c12S4, c12S5, c12S6, c12L1, c12S7, c12S8, c12S10, c12S11, c12D0]
      refine ⟨sm _ _ _ _ s14, Ret.mono (row_ok (hvp12.below b1214 (by decide)) (by omega) (fun y hy => hxw y (hi1 y hy).1) hs (fun y hy => hxh y (hi1 y hy).1)) ?_⟩
      rintro _ w15 ⟨rfl, b15⟩
      have s15 := s14.call b15
      have hrl : (rowL sc p.ops).length = sc.wd := bytesF_len _ _
      have hll : (lineL sc p.ops).length = 8 + sc.wd := lineL_len hpp.1 hpp.2
      have ell : headL (112 :: numL o.Proc) ++ rowL sc p.ops ++ [10] = lineL sc p.ops := by unfold lineL; rw [hpo]
      simp (disch := first | omega | exact okFill_t rfl | exact okSize_t rfl | exact fun h => h | (simp only [World.size_alloc, World.size_drew, World.size_setCell, size_fill, bytesW]; omega)) only [go_sem, c12, c12S0, c12S1, c12L0, c12S2, c12S4, c12S5, c12S6, c12L1, c12S7, c12S8, c12S10, c12S11, c12D0]
      refine ⟨sm _ _ _ _ s15, by omega, by rw [List.length_append]; omega, ?_⟩
      rw [ell]
      refine Ret.mono (writeS_ok (lineL sc p.ops) s15 bok2 (by omega)) ?_
      rintro u16 w16 ⟨bp', bv', bok', s16⟩
      rw [List.append_assoc, ← e1] at bok' s16
      simp (disch := first | omega | exact okFill_t rfl | exact okSize_t rfl | exact fun h => h | (simp only [World.size_alloc, World.size_drew, World.size_setCell, size_fill, bytesW]; omega)) only [go_sem, c12, c12S0, c12S1, c12L0, c12S2, c12S4, c12S5, c12S6, c12L1, c12S7, c12S8, c12S10, c12S11, c12D0]
      exact ⟨sm _ _ _ _ s16, by constructor <;> omega, j + 1, rfl, ⟨hjl, bp', bv', bok', s16⟩, by omega⟩
    · have hjl' : ¬ (j : Int) < vls.length := by omega
      have hjj : j = pac.length := by omega
      subst hjj
      rw [List.take_length] at s11 bok2 htl hlj
      simp (disch := first | omega | exact okFill_t rfl | exact okSize_t rfl | exact fun h => h | (simp only [World.size_alloc, World.size_drew, World.size_setCell, size_fill, bytesW]; omega)) only [go_sem, c12, c12S0, c12S1, c12L0, c12S2, c12S3, c12S4, c12S5, c12S6, c12L1, c12S7, c12S8, c12S10, c12S11, c12L0, hjl']
      refine c12draw1 (Same (fun j => j = b6 ∨ j = b9) _) (Same.refl _ _) ?_
      have s12 := s11.drew
      have r6 := (frz6 _ (s12.get 1 rfl)).rules
      have r9 := s12.rules 2 rfl
      generalize w11.drew = w12 at s12 r6 r9 ⊢
      have sm : ∀ bp' bv' bs' w', St w w' (fun _ => False) (BuL b7 bp' bv' bs' ++ [.blk b9 #[.int .i64 x.obj, .int .i64 x.kind, .slice pv x.ops.length cv] 51]) [frz w10 w9.heap.size, frzB w4 b7] → Same (fun j => j = b6 ∨ j = b9) w12 w' := by
        intro bp' bv' bs' w' h' m hm'
        rcases hm' with rfl | rfl
        · exact Eq.trans (frz6 _ (h'.get 1 rfl)) (frz6 _ (s12.get 1 rfl)).symm
        · exact Eq.trans (h'.blk 2 rfl) (s12.blk 2 rfl).symm
      simp (disch := first | omega | exact okFill_t rfl | exact okSize_t rfl | exact fun h => h | (simp only [World.size_alloc, World.size_drew, World.size_setCell, size_fill, bytesW]; omega)) only [go_sem, c12, c12S0, c12S1, c12L0, c12S2, c12S3, c12S4, c12S5, c12S6, c12L1, c12S7, c12S8, c12S10, c12S11, c12D1, r6, r9, asc]
      refine Ret.mono (head_ok [] (by decide) w12) ?_
      rintro _ w13 ⟨rfl, b13⟩
      have s13 := s12.call b13
      simp (disch := first | omega | exact okFill_t rfl | exact okSize_t rfl | exact fun h => h | (simp only [World.size_alloc, World.size_drew, World.size_setCell, size_fill, bytesW]; omega)) only [go_sem, c12, c12S0, c12S1, c12L0, c12S2, c12S3, c12S4, c12S5, c12S6, c12L1, c12S7, c12S8, c12S10, c12S11, c12D1]
      refine ⟨sm _ _ _ _ s13, Ret.mono (segments_ok x.obj x.kind _ x.ops w13 (hvAt _ (s13.get 1 rfl)) hx100) ?_⟩
      rintro us w14 ⟨⟨l', hl', hus⟩, b14⟩
      have s14 := s13.call b14
      have hxp : Pure x.ops := fun a ha b hb => hpure a (hx1 a ha).1 b (hx1 b hb).1
      have el' : l' = x.ops := sorts_unique hxp hl' ⟨List.Perm.refl _, hx4⟩
      subst el'
      have hus : RdR w14 3 segR us (segsOf x) := hus
      obtain ⟨hsl, hsi⟩ := segs_in hx100 hxw hxg hxh
      simp (disch := first | omega | exact okFill_t rfl | exact okSize_t rfl | exact fun h => h | (simp only [World.size_alloc, World.size_drew, World.size_setCell, size_fill, bytesW]; omega)) only [go_sem, c12, c12S0, c12S1, c12L0, c12S2, c12S3, c12S4, c12S5, c12S6, c12L1, c12S7, c12S8, c12S10, c12S11, c12D1]
      refine ⟨sm _ _ _ _ s14, Ret.mono (ruler_ok hus hsl hs hsi) ?_⟩
      rintro _ w15 ⟨rfl, b15⟩
      have s15 := s14.call b15
      have hrl : (rulerL sc (segsOf x)).length = sc.wd := bytesF_len _ _
      have hhl : (headL []).length = 7 := headL_len (by decide)
      have hscw := hs.wd1
      simp (disch := first | omega | exact okFill_t rfl | exact okSize_t rfl | exact fun h => h | (simp only [World.size_alloc, World.size_drew, World.size_setCell, size_fill, bytesW]; omega)) only [go_sem, c12, c12S0, c12S1, c12L0, c12S2, c12S3, c12S4, c12S5, c12S6, c12L1, c12S7, c12S8, c12S10, c12S11, c12D1]
      have hT3 : (headL [] ++ rulerL sc (segsOf x) ++ [10]).length ≤ 208 := by simp only [List.length_append, List.length_cons, List.length_nil]; omega
      refine ⟨sm _ _ _ _ s15, by omega, by rw [List.length_append]; omega, Ret.mono (writeS_ok (headL [] ++ rulerL sc (segsOf x) ++ [10]) s15 bok2 (by omega)) ?_⟩
      rintro u16 w16 ⟨bp', bv', bok', s16⟩
      have eall : objsL sc P ++ T1 ++ linesL sc (pac.map Seg.ops) ++ (headL [] ++ rulerL sc (segsOf x) ++ [10]) = objsL sc (P ++ [(x, pac)]) := by
        rw [objsL_snoc, hT1]
        unfold objL
        simp only [List.append_assoc]
      rw [eall] at bok' s16
      simp (disch := first | omega | exact okFill_t rfl | exact okSize_t rfl | exact fun h => h | (simp only [World.size_alloc, World.size_drew, World.size_setCell, size_fill, bytesW]; omega)) only [go_sem, c12, c12S0, c12S1, c12L0, c12S2, c12S3, c12S4, c12S5, c12S6, c12L1, c12S7, c12S8, c12S10, c12S11, c12D1]
      have s17 : St w w16 (fun _ => False) (BuL b7 bp' bv' (objsL sc (P ++ [(x, pac)]))) [frzB w4 b7] := (s16.sub (List.sublist_append_left _ _)).inv_sub fun a ha => List.mem_cons_of_mem _ ha
      refine ⟨sm _ _ _ _ s16, by constructor <;> omega, k + 1, rfl, ⟨hlt, P ++ [(x, pac)], bp', bv', ?_, fun q hq => ?_, fun q hq => ?_, bok', s17⟩, by omega⟩
      · rw [List.map_append, hP1, List.take_succ_eq_append_getElem hlt, ← hxe]; rfl
      · rcases List.mem_append.1 hq with hq | hq
        · exact hP2 q hq
        · rw [List.mem_singleton] at hq; subst hq; exact hpac
      · rcases List.mem_append.1 hq with hq | hq
        · exact hP3 q hq
        · rw [List.mem_singleton] at hq; subst hq
          exact objL_len hs hob.1 hob.2 (show pac.length ≤ 100 by omega) hpr
  · have hlt' : ¬ (k : Int) < acc.length := by omega
    have hkk : k = acc.length := by omega
    subst hkk
    rw [List.take_length] at hP1
    simp (disch := first | omega | exact okFill_t rfl | exact okSize_t rfl | exact fun h => h | (simp only [World.size_alloc, World.size_drew, World.size_setCell, size_fill, bytesW]; omega)) only [go_sem, c12, c12S0, c12S1, c12L0, c12S2, c12S3, c12S4, c12S5, c12S6, c12L1, c12S7, c12S8, c12S9, c12S10, c12S11, c12L1, hlt']
    have s5' : St w w5 (fun _ => False) (BuL b7 bp bv (objsL sc P) ++ []) [frzB w4 b7] := by rw [List.append_nil]; exact s5
    refine Ret.mono (stringS_ok s5' bok (by omega)) ?_
    rintro _ w6 ⟨rfl, s6⟩
    simp (disch := first | omega | exact okFill_t rfl | exact okSize_t rfl | exact fun h => h | (simp only [World.size_alloc, World.size_drew, World.size_setCell, size_fill, bytesW]; omega)) only [go_sem, c12, c12S0, c12S1, c12L0, c12S2, c12S3, c12S4, c12S5, c12S6, c12L1, c12S7, c12S8, c12S9, c12S10, c12S11]
    refine ⟨.inr ⟨⟨h1, h2⟩, P, by rw [hP1]; exact hby, hP2, by rw [Int.toNat_natCast, ← hsc]⟩, s6.bel⟩
end
end Go.Proofs.YtmdhcpghofadcaaGreat

namespace Go.Proofs.YtmdhcpghofadcaaGreat
set_option linter.unusedSimpArgs false
set_option linter.unusedVariables false
set_option maxRecDepth 100000
open Go Go.Ann Go.RowKit Go.WideShapes Go.Shelf
def bkA (n : Nat) (f : Nat → UInt8) : Array Value := ((bytesF n f).map byteV).toArray
def BK (b n : Nat) (f : Nat → UInt8) : Res := .blk b (bkA n f) 5
section
variable {W0 w : World} {F : Nat → Prop} {L : List Res} {I : List Inv} {b n : Nat} {f g : Nat → UInt8}
theorem bkA_get {k : Nat} (hk : k < n) : (bkA n f)[k]? = some (.int .u8 ((f k).toNat : Int)) := by
  unfold bkA
  rw [List.getElem?_toArray, List.getElem?_map, bytesF_get hk]
  rfl
theorem bk_ext (h : ∀ k, k < n → f k = g k) : BK b n f = BK b n g := by
  unfold BK bkA; rw [bytesF_ext h]
theorem st_bkSet (h : St W0 w F L I) (i : Nat) (hi : L[i]? = some (BK b n f)) (k : Nat) (hk : k < n) (x : UInt8) (v : Int) (hv : v = (x.toNat : Int)) (g : Nat → UInt8) (hx : g k = x) (hg : ∀ j, j < n → j ≠ k → f j = g j) :
    St W0 (w.setCell ⟨b, k, none⟩ (.int .u8 v)) F (L.set i (BK b n g)) I := by
  subst hv
  have := h.set i hi k (.int .u8 (x.toNat : Int))
  refine st_recast this ?_
  congr 1
  unfold BK
  congr 1
  unfold bkA
  rw [← bytesF_set (n := n) (f := f) (g := g) hx hg]
  simp [byteV]
theorem bk_bytes (h : St W0 w F (BK b n f :: L) I) : bytesAt w (some ⟨b, 0, none⟩) (bytesF n f) := by
  intro i x hx
  have hi : i < n := by have := (List.getElem?_eq_some_iff.1 hx).1; rwa [bytesF_len] at this
  rw [bytesF_get hi, Option.some.injEq] at hx
  subst hx
  simp only [Addr.add_lit, Nat.zero_add]
  exact ((h.rules 0 rfl).1 i).trans (bkA_get hi)
theorem bk_zero (n : Nat) : zerosA (.int .u8 0) n = bkA n fun _ => 0 := by
  unfold bkA
  rw [bytesF_one]
  unfold zerosA
  simp [byteV]
end
section
variable {va : Value} {l : List Seg} {w : World} {s : Sc}
theorem rruler_ok (h : RdR w 3 segR va l) (hl : l.length ≤ 100) (hs : s.ok) (hx : ∀ x ∈ l, SegIn s x) : Ret Tryz.prog 48 [.agg s.enc.toArray, va] w fun u w' => u = .string (ofL (rulerL s l)) ∧ Below w.heap.size w w' := by
  obtain ⟨a, c, rfl, _⟩ := h.form
  have hwd := hs.wd1
  have hw8 := hs.wd8
  refine ent48 _ _ _ _ ?_
  have s1 := (St.start (W0 := w)).box s.enc.toArray 75
  have asc := s.at_
  obtain ⟨b0, hb0⟩ : ∃ b, b = w.heap.size := ⟨_, rfl⟩
  simp (disch := first | omega | exact okFill_t rfl | exact okSize_t rfl | exact fun h => h | (simp only [World.size_alloc, World.size_drew, World.size_setCell, size_fill, bytesW]; omega)) only [go_sem, c48, c48S0, c48L0, c48S1, c48S2, c48S3, c48S4, c48S5, c48L1, c48S6, asc]
  rw [← hb0] at s1 ⊢
  generalize w.alloc (.cells s.enc.toArray 75) = w2 at s1 ⊢
  refine msW_one ty61mkI rfl (by omega) (by omega) (by omega) (by omega) ?_
  rw [Int.toNat_natCast, bk_zero]
  have s2 : St w (w2.alloc (.cells (bkA s.wd fun _ => 0) 5)) (fun _ => False) [BK w2.heap.size s.wd (fun _ => 0), .blk b0 s.enc.toArray 75] [] := s1.box _ _
  simp (disch := first | omega | exact okFill_t rfl | exact okSize_t rfl | exact fun h => h | (simp only [World.size_alloc, World.size_drew, World.size_setCell, size_fill, bytesW]; omega)) only [go_sem, c48, c48S0, c48S1, c48S2, c48S3, c48S4, c48S5, c48L1, c48S6]
  generalize w2.heap.size = b at s2 ⊢
  generalize w2.alloc (.cells (bkA s.wd fun _ => 0) 5) = w3 at s2 ⊢
  refine W_loopU (fun k : Nat => [(6, .int .i64 k)]) (fun k w' => k ≤ s.wd ∧ St w w' (fun _ => False) [BK b s.wd (fun j => if j < k then 32 else 0), .blk b0 s.enc.toArray 75] []) (fun k => s.wd - k) 0 rfl ⟨Nat.zero_le _, by simpa using s2⟩ ?_
  clear s1 s2
  rintro k w4 ⟨hk, s4⟩
  by_cases hkw : k < s.wd
  · have hkw' : (k : Int) < s.wd := by omega
    have r4 := s4.rules 0 rfl
    have c4 := (r4.1 k).trans (bkA_get hkw)
    have f4 := r4.2.1 k
    clear r4
    have s5 := st_bkSet s4 0 rfl k hkw 32 32 rfl (fun j => if j < k + 1 then 32 else 0) (by simp) (fun j _ hj => by
      by_cases h1 : j < k
      · rw [if_pos h1, if_pos (by omega)]
      · rw [if_neg h1, if_neg (by omega)])
    simp only [List.set_cons_zero] at s5
    simp (disch := first | omega | exact okFill_t rfl | exact okSize_t rfl | exact fun h => h | (simp only [World.size_alloc, World.size_drew, World.size_setCell, size_fill, bytesW]; omega)) only [go_sem, c48, c48S0, c48L0, c48S1, c48S2, c48S3, c48S4, c48S5, c48L1, c48S6, c48L0, hkw', c4, f4]
    exact ⟨by omega, by constructor <;> omega, k + 1, rfl, ⟨hkw, s5⟩, by omega⟩
  have hkw' : ¬ (k : Int) < s.wd := by omega
  rw [bk_ext (g := rulerF s []) (fun j hj => by rw [if_pos (by omega)]; rfl)] at s4
  simp (disch := first | omega | exact okFill_t rfl | exact okSize_t rfl | exact fun h => h | (simp only [World.size_alloc, World.size_drew, World.size_setCell, size_fill, bytesW]; omega)) only [go_sem, c48, c48S0, c48L0, c48S1, c48S2, c48S3, c48S4, c48S5, c48S6, c48S7, c48L0, hkw']
  refine W_loopU (fun k : Nat => [(7, .int .i64 k)]) (fun k w' => k ≤ l.length ∧ St w w' (fun _ => False) [BK b s.wd (rulerF s (l.take k)), .blk b0 s.enc.toArray 75] []) (fun k => l.length - k) 0 rfl ⟨Nat.zero_le _, s4⟩ ?_
  clear s4 hk hkw hkw'
  rintro k w4 ⟨hk, s4⟩
  by_cases hlt : k < l.length
  · have hlt' : (k : Int) < l.length := by omega
    obtain ⟨q, rfl⟩ := h.ptr (by omega)
    have h4 := h.below s4.bel (by decide) fun x c => segR.below s4.bel x c
    obtain ⟨_, _, ⟨v, rfl, hv, _⟩, _, ek⟩ := h4.elt (by decide) hlt
    have ck2 := ek.2 2 (by decide) (by decide)
    have e1 := rulerF_snoc s (l.take k) l[k]
    rw [← List.take_succ_eq_append_getElem hlt] at e1
    have hm := List.getElem_mem hlt
    obtain ⟨x, hxe⟩ : ∃ x, x = l[k] := ⟨_, rfl⟩
    rw [← hxe] at hv e1 hm
    obtain ⟨t1, t2, t3, t4⟩ := (hx x hm).times hs
    have ca := Sc.col_le hs t1
    have cb := Sc.col_le hs t3
    obtain ⟨a', ha'⟩ : ∃ a' : Nat, a' = (s.col (lowT x.ops)).toNat := ⟨_, rfl⟩
    obtain ⟨e', he'⟩ : ∃ e' : Nat, e' = (s.col (endT x.ops)).toNat := ⟨_, rfl⟩
    have eca : s.col (lowT x.ops) = a' := by omega
    have ecb : s.col (endT x.ops) = e' := by omega
    obtain ⟨pv, cv, rfl, _⟩ := hv.form
    simp only [List.getElem?_cons_succ, List.getElem?_cons_zero] at ck2
    simp (disch := first | omega | exact okFill_t rfl | exact okSize_t rfl | exact fun h => h | (simp only [World.size_alloc, World.size_drew, World.size_setCell, size_fill, bytesW]; omega)) only [go_sem, c48, c48S0, c48L0, c48S1, c48S2, c48S4, c48S5, c48L1, c48S7, c48L1, hlt', ck2]
    have hX := hx x hm
    refine ⟨by omega, Ret.mono (rspan_ok hv hX.len hX.wf) ?_⟩
    rintro _ w6 ⟨rfl, b6⟩
    have s6 := s4.call b6
    have r6 := s6.rules 1 rfl
    simp (disch := first | omega | exact okFill_t rfl | exact okSize_t rfl | exact fun h => h | (simp only [World.size_alloc, World.size_drew, World.size_setCell, size_fill, bytesW]; omega)) only [go_sem, c48, c48S0, c48L0, c48S1, c48S3, c48S4, c48S5, c48L1, c48S7, r6, asc]
    refine Ret.mono (rcolumn_ok hs _ t1 t2) ?_
    rintro _ w7 ⟨rfl, b7⟩
    have s7 := s6.call b7
    rw [eca]
    have haw' : a' < s.wd := by omega
    have hew' : e' < s.wd := by omega
    have haw : (a' : Int) < s.wd := by omega
    have hew : (e' : Int) < s.wd := by omega
    have rb := s7.rules 0 rfl
    have c7 := (rb.1 a').trans (bkA_get haw')
    have f7 := rb.2.1 a'
    clear rb
    have s8 := st_bkSet s7 0 rfl a' haw' 94 94 rfl (fun j => if j = a' then 94 else rulerF s (l.take k) j) (by simp) (fun j _ hj => by rw [if_neg hj])
    simp only [List.set_cons_zero] at s8
    simp (disch := first | omega | exact okFill_t rfl | exact okSize_t rfl | exact fun h => h | (simp only [World.size_alloc, World.size_drew, World.size_setCell, size_fill, bytesW]; omega)) only [go_sem, c48, c48S0, c48L0, c48S1, c48S3, c48S4, c48S5, c48L1, c48S7, haw, c7, f7]
    refine ⟨by omega, ?_⟩
    generalize w7.setCell ⟨b, a', none⟩ (.int .u8 94) = w8 at s8 ⊢
    have r8 := s8.rules 1 rfl
    simp (disch := first | omega | exact okFill_t rfl | exact okSize_t rfl | exact fun h => h | (simp only [World.size_alloc, World.size_drew, World.size_setCell, size_fill, bytesW]; omega)) only [go_sem, c48, c48S0, c48L0, c48S2, c48S3, c48S4, c48S5, c48L1, c48S7, r8, asc]
    refine Ret.mono (rcolumn_ok hs _ t3 t4) ?_
    rintro _ w9 ⟨rfl, b9⟩
    have s9 := s8.call b9
    rw [ecb]
    have rb := s9.rules 0 rfl
    have c9 := (rb.1 e').trans (bkA_get hew')
    have f9 := rb.2.1 e'
    have r9 := s9.rules 1 rfl
    clear rb
    have e32 : ((if e' = a' then (94 : UInt8) else rulerF s (l.take k) e').toNat : Int) = 32 ↔ (e' ≠ a' ∧ rulerF s (l.take k) e' = 32) := by
      by_cases h1 : e' = a'
      · rw [if_pos h1]
        exact ⟨fun h => absurd h (by decide), fun h => absurd h1 h.1⟩
      · rw [if_neg h1]
        have h32 : (32 : UInt8).toNat = 32 := rfl
        refine ⟨fun h => ⟨h1, UInt8.toNat_inj.1 ?_⟩, fun h => by rw [h.2]; rfl⟩
        omega
    have g1 : ∀ j, j ≠ e' → (if j = a' then 94 else rulerF s (l.take k) j) = rulF s (rulerF s (l.take k)) x j := fun j hj => by
      unfold rulF
      rw [← ha', ← he']
      by_cases h1 : j = a'
      · rw [if_pos h1, if_pos h1]
      · rw [if_neg h1, if_neg h1, if_neg (fun h => hj h.1)]
    simp (disch := first | omega | exact okFill_t rfl | exact okSize_t rfl | exact fun h => h | (simp only [World.size_alloc, World.size_drew, World.size_setCell, size_fill, bytesW]; omega)) only [go_sem, c48, c48S0, c48L0, c48S1, c48S2, c48S3, c48S4, c48S5, c48L1, c48S7, hew, c9, f9, r9, asc]
    refine ⟨by omega, fun h1 => Ret.mono (rcolumn_ok hs _ t3 t4) ?_, fun h1 => ⟨by constructor <;> omega, k + 1, rfl, ⟨hlt, ?_⟩, by omega⟩⟩
    · rintro _ w10 ⟨rfl, b10⟩
      have s10' := s9.call b10
      rw [ecb]
      have rb := s10'.rules 0 rfl
      have c10 := (rb.1 e').trans (bkA_get hew')
      have f10 := rb.2.1 e'
      clear rb
      obtain ⟨n1, n2⟩ := e32.1 h1
      have s10 := st_bkSet s10' 0 rfl e' hew' 36 36 rfl (rulF s (rulerF s (l.take k)) x) (by unfold rulF; rw [← ha', ← he', if_neg n1, if_pos ⟨rfl, n2⟩]) (fun j _ hj => g1 j hj)
      simp (disch := first | omega | exact okFill_t rfl | exact okSize_t rfl | exact fun h => h | (simp only [World.size_alloc, World.size_drew, World.size_setCell, size_fill, bytesW]; omega)) only [go_sem, c48, c48S0, c48L0, c48S1, c48S2, c48S3, c48S4, c48S5, c48L1, c48S7, hew, c10, f10]
      refine ⟨by omega, by constructor <;> omega, k + 1, rfl, ⟨hlt, ?_⟩, by omega⟩
      rw [e1]
      exact s10
    · have hne : ¬ (e' ≠ a' ∧ rulerF s (l.take k) e' = 32) := fun h => h1 (e32.2 h)
      rw [e1, bk_ext (g := fun j => if j = a' then 94 else rulerF s (l.take k) j) fun j _ => ?_]
      · exact s9
      · by_cases hj : j = e'
        · subst hj
          unfold rulF
          rw [← ha', ← he']
          by_cases h2 : j = a'
          · rw [if_pos h2, if_pos h2]
          · rw [if_neg h2, if_neg h2, if_neg (fun h => hne ⟨h2, h.2⟩)]
        · exact (g1 j hj).symm
  · have hlt' : ¬ (k : Int) < l.length := by omega
    have hkk : k = l.length := by omega
    subst hkk
    rw [List.take_length] at s4
    simp (disch := first | omega | exact okFill_t rfl | exact okSize_t rfl | exact fun h => h | (simp only [World.size_alloc, World.size_drew, World.size_setCell, size_fill, bytesW]; omega)) only [go_sem, c48, c48S0, c48L0, c48S1, c48S2, c48S3, c48S4, c48S5, c48L1, c48S6, c48S7, c48L1, hlt']
    refine ⟨rulerL s l, bytesF_len _ _, bk_bytes s4, rfl, ?_⟩
    rw [hb0]; exact s4.bel
end
end Go.Proofs.YtmdhcpghofadcaaGreat

namespace Go.Proofs.YtmdhcpghofadcaaGreat
set_option linter.unusedSimpArgs false
set_option linter.unusedVariables false
set_option maxRecDepth 100000
open Go Go.Ann Go.RowKit Go.WideShapes Go.Shelf
section
variable {va : Value} {l : List OpT} {w : World} {s : Sc}
theorem robjs_ok (h : RdS w 11 OpT.enc va l) (hG : Good l) (width : Int) : Ret Tryz.prog 13 [va, .int .i64 width] w fun u w' => ObjR l width u ∧ Below w.heap.size w w' := by
  have hh := hG.h
  refine ent13 _ _ _ _ ?_
  simp (disch := first | omega | exact okFill_t rfl | exact okSize_t rfl | exact fun h => h | (simp only [World.size_alloc, World.size_drew, World.size_setCell, size_fill, bytesW]; omega)) only [go_sem, c13, c13S0, c13S1, c13L0, c13S2, c13S3, c13S4]
  refine ⟨fun h1 => ⟨fun h2 => ⟨.inl ⟨by omega, rfl⟩, Below.refl _ _⟩, fun h2 => ?_⟩, fun h1 => ⟨.inl ⟨by omega, rfl⟩, Below.refl _ _⟩⟩
  obtain ⟨wd, rfl⟩ : ∃ wd : Nat, width = wd := ⟨width.toNat, by omega⟩
  obtain ⟨hs, hho⟩ := scOf_ok hh.g (show 8 ≤ wd by omega) (show wd ≤ 200 by omega)
  simp (disch := first | omega | exact okFill_t rfl | exact okSize_t rfl | exact fun h => h | (simp only [World.size_alloc, World.size_drew, World.size_setCell, size_fill, bytesW]; omega)) only [go_sem, c13, c13S0, c13S1, c13L0, c13S2, c13S3, c13S5]
  refine Ret.mono (times_ok h hh.len hh.wf wd (by omega)) ?_
  rintro _ w2 ⟨rfl, b2⟩
  obtain ⟨sc, hsc⟩ : ∃ sc, sc = scOf l wd := ⟨_, rfl⟩
  have hwde : sc.wd = wd := by rw [hsc]; rfl
  rw [← hsc] at hs hho ⊢
  obtain ⟨hl, hw, hg⟩ := hh
  have s1 := ((St.start (W0 := w)).call b2).box sc.enc.toArray 75
  have asc := sc.at_
  simp (disch := first | omega | exact okFill_t rfl | exact okSize_t rfl | exact fun h => h | (simp only [World.size_alloc, World.size_drew, World.size_setCell, size_fill, bytesW]; omega)) only [go_sem, c13, c13S0, c13S1, c13S2, c13S3, c13S4, c13S5]
  refine ⟨sc.len.symm, ?_⟩
  generalize w2.heap.size = b6 at s1 ⊢
  generalize w2.alloc (.cells sc.enc.toArray 75) = w3 at s1 ⊢
  refine Ret.mono (robjects_ok va l w3 (h.below s1.bel (by decide)) hl) ?_
  rintro u w4 ⟨⟨acc, hby, hu⟩, b4⟩
  have s2 := s1.call b4
  obtain ⟨pu, cu, rfl, _⟩ := hu.form
  have few := obj_few hby
  have hpure := hG.pure
  simp (disch := first | omega | exact okFill_t rfl | exact okSize_t rfl | exact fun h => h | (simp only [World.size_alloc, World.size_drew, World.size_setCell, size_fill, bytesW]; omega)) only [go_sem, c13, c13S0, c13S1, c13S2, c13S3, c13S4, c13S5]
  refine W_loopU (fun x : Nat × List (Seg × List Seg) => [(7, .string (ofL (objsL sc x.2))), (9, .int .i64 x.1)]) (fun x w' => x.1 ≤ acc.length ∧ x.2.map Prod.fst = acc.take x.1 ∧ (∀ q ∈ x.2, ByProc q.1.ops q.2) ∧ (∀ q ∈ x.2, (objL sc q).length ≤ 30000) ∧ Below w4.heap.size w4 w' ∧ St w w' (fun _ => False) [.blk b6 sc.enc.toArray 75] []) (fun x => acc.length - x.1) (0, []) rfl ⟨Nat.zero_le _, rfl, (fun q h => by cases h), (fun q h => by cases h), Below.refl _ _, s2⟩ ?_
  clear s1 s2
  rintro ⟨k, P⟩ w5 ⟨hk, hP1, hP2, hP3, b5, s5⟩
  simp only at hk hP1 hP2 hP3
  have hPl : P.length = k := by have := congrArg List.length hP1; rw [List.length_map, List.length_take] at this; omega
  have hol := objsL_len (s := sc) hP3
  have hol2 : (objsL sc P).length ≤ 100 * 30000 := Nat.le_trans hol (Nat.mul_le_mul_right _ (by omega))
  by_cases hlt : k < acc.length
  · have hlt' : (k : Int) < acc.length := by omega
    obtain ⟨q, rfl⟩ := hu.ptr (by omega)
    simp (disch := first | omega | exact okFill_t rfl | exact okSize_t rfl | exact fun h => h | (simp only [World.size_alloc, World.size_drew, World.size_setCell, size_fill, bytesW]; omega)) only [go_sem, c13, c13S0, c13S1, c13L0, c13S2, c13S3, c13S4, c13S5, c13L0, hlt']
    refine c13draw0 (Chg (fun _ => False) _) (Chg.refl _ _) ?_
    have s6 := s5.drew
    have b46 : Below w4.heap.size w4 w5.drew := b5.drew
    have hu6 := hu.below b46 (by decide) fun x c => segR.below b46 x c
    have r6 := s6.rules 0 rfl
    have low6 := s6.low 0 rfl
    have hq := hu6.blt (by decide) (by omega)
    generalize w5.drew = w6 at s6 b46 hu6 r6 low6 hq ⊢
    obtain ⟨_, _, ⟨v, rfl, hv, _⟩, ck, ek⟩ := hu6.elt (by decide) hlt
    obtain ⟨x, hxe⟩ : ∃ x, x = acc[k] := ⟨_, rfl⟩
    have hm : x ∈ acc := by rw [hxe]; exact List.getElem_mem hlt
    rw [← hxe] at hv ck ek
    have ek0 := ek.1
    have ek2 := ek.2 2 (by decide) (by decide)
    simp only [List.getElem?_cons_zero, List.getElem?_cons_succ] at ek0 ek2
    clear ek
    obtain ⟨hx1, hx2, hx3, hx4⟩ := obj_in hby hm
    have hxw : ∀ o ∈ x.ops, o.wf := fun o ho => hw o (hx1 o ho).1
    have hxg : ∀ o ∈ x.ops, OpG o := fun o ho => hg o (hx1 o ho).1
    have hxh : ∀ o ∈ x.ops, sc.has o := fun o ho => hho o (hx1 o ho).1
    have hx100 : x.ops.length ≤ 100 := by omega
    have hob : 0 ≤ x.obj ∧ x.obj ≤ 1023 := by
      obtain ⟨o, r, e⟩ := List.exists_cons_of_ne_nil hx2
      have ho := hx1 o (by rw [e]; exact List.mem_cons_self)
      rw [← ho.2]
      exact ⟨(hg o ho.1).b0, (hg o ho.1).b1⟩
    have hI : I64 x.obj := by constructor <;> omega
    have hnl := proc_len hob.1 hob.2
    obtain ⟨pv, cv, rfl, _⟩ := hv.form
    simp (disch := first | omega | exact okFill_t rfl | exact okSize_t rfl | exact fun h => h | (simp only [World.size_alloc, World.size_drew, World.size_setCell, size_fill, bytesW]; omega)) only [go_sem, c13, c13S0, c13S1, c13L0, c13S2, c13S3, c13S4, c13S5, c13D0, hlt', r6, asc, ck, ek0, ek2]
    refine ⟨by omega, by omega, by omega, by omega, Ret.mono (number_ok _ w6 hI) ?_⟩
    rintro _ w7 ⟨rfl, b7⟩
    simp (disch := first | omega | exact okFill_t rfl | exact okSize_t rfl | exact fun h => h | (simp only [World.size_alloc, World.size_drew, World.size_setCell, size_fill, bytesW]; omega)) only [go_sem, c13, c13S0, c13S1, c13L0, c13S2, c13S3, c13S4, c13S5, c13D0]
    refine ⟨Chg.of_below b7, by simp only [List.length_append, List.length_cons, List.length_nil]; omega, by simp only [List.length_append, List.length_cons, List.length_nil]; omega, Ret.mono (rrows_ok (hv.below b7 (by decide)) ⟨hx100, hxw, hxg⟩ hs hxh) ?_⟩
    rintro _ w8 ⟨⟨pac, hpac, rfl⟩, b8⟩
    have b68 := b7.trans (b8.mono b7.size)
    have pfew := prog_few hpac
    have hpr : ∀ p ∈ pac.map Seg.ops, 0 ≤ procOf p ∧ procOf p ≤ 1023 := fun p hp => by
      obtain ⟨y, hy, rfl⟩ := List.mem_map.1 hp
      obtain ⟨h1, h2, h3, _⟩ := prog_in hpac hy
      obtain ⟨o, r, e⟩ := List.exists_cons_of_ne_nil h2
      have := h1 o (by rw [e]; exact List.mem_cons_self)
      rw [h3, ← this.2]
      exact ⟨(hxg o this.1).p0, (hxg o this.1).p1⟩
    have hll : (linesL sc (pac.map Seg.ops)).length ≤ 100 * 208 := by
      have hwd := hs.wd1
      rw [linesL_len hpr, List.length_map]
      exact Nat.mul_le_mul (by omega) (by omega)
    have hhl : (headL []).length = 7 := headL_len (by decide)
    simp (disch := first | omega | exact okFill_t rfl | exact okSize_t rfl | exact fun h => h | (simp only [World.size_alloc, World.size_drew, World.size_setCell, size_fill, bytesW]; omega)) only [go_sem, c13, c13S0, c13S1, c13L0, c13S2, c13S3, c13S4, c13S5, c13D0]
    refine ⟨Chg.of_below b68, by simp only [List.length_append, List.length_cons, List.length_nil]; omega, Ret.mono (rhead_ok [] (by decide) w8) ?_⟩
    rintro _ w9 ⟨rfl, b9⟩
    have b69 := b68.trans (b9.mono b68.size)
    simp (disch := first | omega | exact okFill_t rfl | exact okSize_t rfl | exact fun h => h | (simp only [World.size_alloc, World.size_drew, World.size_setCell, size_fill, bytesW]; omega)) only [go_sem, c13, c13S0, c13S1, c13L0, c13S2, c13S3, c13S4, c13S5, c13D0]
    refine ⟨Chg.of_below b69, by simp only [List.length_append, List.length_cons, List.length_nil]; omega, Ret.mono (rsegments_ok x.obj x.kind _ x.ops w9 (hv.below b69 (by decide)) hx100) ?_⟩
    rintro us w10 ⟨⟨l', hl', hus⟩, b10⟩
    have b610 := b69.trans (b10.mono b69.size)
    have hxp : Pure x.ops := fun a ha b hb => hpure a (hx1 a ha).1 b (hx1 b hb).1
    have el' : l' = x.ops := sorts_unique hxp hl' ⟨List.Perm.refl _, hx4⟩
    subst el'
    have hus : RdR w10 3 segR us (segsOf x) := hus
    obtain ⟨hsl, hsi⟩ := segs_in hx100 hxw hxg hxh
    simp (disch := first | omega | exact okFill_t rfl | exact okSize_t rfl | exact fun h => h | (simp only [World.size_alloc, World.size_drew, World.size_setCell, size_fill, bytesW]; omega)) only [go_sem, c13, c13S0, c13S1, c13L0, c13S2, c13S3, c13S4, c13S5, c13D0]
    refine ⟨Chg.of_below b610, Ret.mono (rruler_ok hus hsl hs hsi) ?_⟩
    rintro _ w11 ⟨rfl, b11⟩
    have b611 := b610.trans (b11.mono b610.size)
    have hrl : (rulerL sc (segsOf x)).length = sc.wd := bytesF_len _ _
    have hscw := hs.wd1
    simp (disch := first | omega | exact okFill_t rfl | exact okSize_t rfl | exact fun h => h | (simp only [World.size_alloc, World.size_drew, World.size_setCell, size_fill, bytesW]; omega)) only [go_sem, c13, c13S0, c13S1, c13L0, c13S2, c13S3, c13S4, c13S5, c13D0]
    have eall : objsL sc P ++ [111, 98, 106, 101, 99, 116, 32] ++ numL x.obj ++ [10] ++ linesL sc (pac.map Seg.ops) ++ headL [] ++ rulerL sc (segsOf x) ++ [10] = objsL sc (P ++ [(x, pac)]) := by
      rw [objsL_snoc]
      unfold objL
      simp only [List.append_assoc]
    have b411 := b46.trans (b611.mono b46.size)
    refine ⟨Chg.of_below b611, by simp only [List.length_append, List.length_cons, List.length_nil]; omega, by simp only [List.length_append, List.length_cons, List.length_nil]; omega, by constructor <;> omega, (k + 1, P ++ [(x, pac)]), by rw [← eall]; rfl, ⟨hlt, ?_, fun q hq => ?_, fun q hq => ?_, b411, s6.call b611⟩, by simp only; omega⟩
    · simp only
      rw [List.map_append, hP1, List.take_succ_eq_append_getElem hlt, ← hxe]; rfl
    · rcases List.mem_append.1 hq with hq | hq
      · exact hP2 q hq
      · rw [List.mem_singleton] at hq; subst hq; exact hpac
    · rcases List.mem_append.1 hq with hq | hq
      · exact hP3 q hq
      · rw [List.mem_singleton] at hq; subst hq
        exact objL_len hs hob.1 hob.2 (show pac.length ≤ 100 by omega) hpr
  · have hlt' : ¬ (k : Int) < acc.length := by omega
    have hkk : k = acc.length := by omega
    subst hkk
    rw [List.take_length] at hP1
    simp (disch := first | omega | exact okFill_t rfl | exact okSize_t rfl | exact fun h => h | (simp only [World.size_alloc, World.size_drew, World.size_setCell, size_fill, bytesW]; omega)) only [go_sem, c13, c13S0, c13S1, c13L0, c13S2, c13S3, c13S4, c13S5, c13L0, hlt']
    exact ⟨.inr ⟨⟨h1, h2⟩, P, by rw [hP1]; exact hby, hP2, by rw [Int.toNat_natCast, ← hsc]⟩, s5.bel⟩
theorem objectsLaw_ok (h : RdS w 11 OpT.enc va l) (hl : (l.length : Int) ≤ 9223372036854775807) (hw : ∀ o ∈ l, o.wf) (width : Int) : Ret Tryz.prog 3 [va, .int .i64 width] w fun u w' => u = .bool true ∧ Below w.heap.size w w' := by
  obtain ⟨pa, ca, rfl, _⟩ := h.form
  refine ent3 _ _ _ _ ?_
  simp (disch := first | omega | exact okFill_t rfl | exact okSize_t rfl | exact fun h => h | (simp only [World.size_alloc, World.size_drew, World.size_setCell, size_fill, bytesW]; omega)) only [go_sem, c3, c3S0, c3S1, c3S2, c3S3, c3S4, c3S5]
  refine Ret.mono (good_ok _ l w h hw hl) ?_
  rintro _ w2 ⟨⟨b, rfl, hb⟩, b2⟩
  cases b with
  | false =>
    simp (disch := first | omega | exact okFill_t rfl | exact okSize_t rfl | exact fun h => h | (simp only [World.size_alloc, World.size_drew, World.size_setCell, size_fill, bytesW]; omega)) only [go_sem, c3, c3S0, c3S1, c3S2, c3S3, c3S4, c3S5]
    refine Ret.mono (awake_ok w2) ?_
    rintro _ w3 ⟨rfl, b3⟩
    simp (disch := first | omega | exact okFill_t rfl | exact okSize_t rfl | exact fun h => h | (simp only [World.size_alloc, World.size_drew, World.size_setCell, size_fill, bytesW]; omega)) only [go_sem, c3, c3S0, c3S1, c3S2, c3S3, c3S4, c3S5]
    exact b2.trans (b3.mono b2.size)
  | true =>
    have hG := hb rfl
    simp (disch := first | omega | exact okFill_t rfl | exact okSize_t rfl | exact fun h => h | (simp only [World.size_alloc, World.size_drew, World.size_setCell, size_fill, bytesW]; omega)) only [go_sem, c3, c3S0, c3S1, c3S2, c3S3, c3S4, c3S5]
    refine Ret.mono (objs_ok (h.below b2 (by decide)) hG width) ?_
    rintro u w3 ⟨hu, b3⟩
    have b03 := b2.trans (b3.mono b2.size)
    obtain ⟨us, ue, rfl⟩ : ∃ us ue, u = .tuple #[.string (ofL us), .int .i64 ue] := by
      rcases hu with ⟨_, rfl⟩ | ⟨_, P, _, _, rfl⟩ <;> exact ⟨_, _, rfl⟩
    simp (disch := first | omega | exact okFill_t rfl | exact okSize_t rfl | exact fun h => h | (simp only [World.size_alloc, World.size_drew, World.size_setCell, size_fill, bytesW]; omega)) only [go_sem, c3, c3S0, c3S1, c3S2, c3S3, c3S4, c3S5]
    refine Ret.mono (robjs_ok (h.below b03 (by decide)) hG width) ?_
    rintro v w4 ⟨hv, b4⟩
    have b04 := b03.trans (b4.mono b03.size)
    have := obj_unique hG.pure hu hv
    subst this
    simp (disch := first | omega | exact okFill_t rfl | exact okSize_t rfl | exact fun h => h | (simp only [World.size_alloc, World.size_drew, World.size_setCell, size_fill, bytesW]; omega)) only [go_sem, c3, c3S0, c3S1, c3S2, c3S3, c3S4, c3S5]
    refine Ret.mono (awake_ok w4) ?_
    rintro _ w5 ⟨rfl, b5⟩
    simp (disch := first | omega | exact okFill_t rfl | exact okSize_t rfl | exact fun h => h | (simp only [World.size_alloc, World.size_drew, World.size_setCell, size_fill, bytesW]; omega)) only [go_sem, c3, c3S0, c3S1, c3S2, c3S3, c3S4, c3S5]
    exact b04.trans (b5.mono b04.size)
end
set_option maxRecDepth 100000 in
theorem objects_law {H : Type} {enc : TypeId × Value → H} {w : World} {r : Reach} {b base : Nat} {sp : Nat → Bool} {hd : Bool} {v : Value} {d : DataW H} {p : List MemPlace}
    (h : Value.okWide Tryz.prog w r b 22 v) (k : DataW.Trod enc Tryz.prog w base sp hd 22 v d p) (n : Int) :
    Ret Tryz.prog 3 [v, .int .i64 n] w fun u w' => u = .bool true ∧ Below w.heap.size w w' := by
  obtain ⟨xs, q1, q3, q2⟩ := Opens.slice_arg opens_Ops Tryz.underlying22 h k
  exact objectsLaw_ok q1 q2 q3 n
end Go.Proofs.YtmdhcpghofadcaaGreat
