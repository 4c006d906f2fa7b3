/- Texts put together by program: L30, L31, L32, L33. -/
import Derived.Test.YtbeoedgoikcbpaaM3
namespace Go.Proofs.Ytbeoedgoikcbpaa
set_option linter.unusedSimpArgs false
set_option linter.unusedVariables false
set_option maxRecDepth 100000
open Go Go.Ann Go.RowKit
def Inv.bs (B : List (Value × List Bool)) : Inv := ⟨fun w => ∀ p ∈ B, RdS w 1 boolE p.1 p.2, fun k => ∃ p ∈ B, slFoot p.1 k, fun w w' h hk p hp => RdS.loc (h p hp) fun k hf => hk k ⟨p, hp, hf⟩⟩
/-- A row of truths that is not written any more. -/
theorem bs_seal {W0 w : World} {F : Nat → Prop} {L : List Res} {I : List Inv} {v : Value} {e sz n : Nat} {xs : List Value} {d : List Bool} {D : List VS} {B : List (Value × List Bool)} (h : St W0 w F (.row v e sz n xs :: L) (Inv.vs D :: Inv.bs B :: I)) (hr : RdS w 1 boolE v d) : St W0 w F L (Inv.vs D :: Inv.bs ((v, d) :: B) :: I) := by
  have h1 := h.seal (Inv.bs [(v, d)]) (fun p hp => by rw [List.mem_singleton] at hp; subst hp; exact hr) (fun k hk => by
    obtain ⟨p, hp, hk⟩ := hk
    rw [List.mem_singleton] at hp; subst hp
    exact slFoot_own hk)
  have i0 := h1.inv _ (List.mem_cons_self ..)
  have i1 := h1.inv (Inv.vs D) (List.mem_cons_of_mem _ (List.mem_cons_self ..))
  have i2 := h1.inv (Inv.bs B) (List.mem_cons_of_mem _ (List.mem_cons_of_mem _ (List.mem_cons_self ..)))
  refine ((h1.inv_sub (I' := I) fun a ha => List.mem_cons_of_mem _ (List.mem_cons_of_mem _ (List.mem_cons_of_mem _ ha))).keep (Inv.bs ((v, d) :: B)) (fun p hp => ?_) fun k hk => ?_).keep (Inv.vs D) i1.1 i1.2
  · rcases List.mem_cons.1 hp with rfl | hp
    · exact hr
    · exact i2.1 p hp
  · obtain ⟨p, hp, hk⟩ := hk
    rcases List.mem_cons.1 hp with rfl | hp
    · exact i0.2 k ⟨_, List.mem_singleton.2 rfl, hk⟩
    · exact i2.2 k ⟨p, hp, hk⟩
/-- A state that leans on one that is there, or is new. -/
theorem vs_add2 {W0 w w' : World} {F : Nat → Prop} {L : List Res} {I : List Inv} {D : List VS} {v u : Value} {s t : List Int} (h : St W0 w F L (Inv.vs D :: I)) (hb : Below w.heap.size w w') (hr : RdS w' 1 intE v s) (hu : (u, t) ∈ D) (hf : ∀ k, slFoot v k → slFoot u k ∨ w.heap.size ≤ k) : St W0 w' F L (Inv.vs ((v, s) :: D) :: I) := by
  have h' := h.call hb
  have hD := h'.inv _ (List.mem_cons_self ..)
  refine (h'.inv_sub (I' := I) fun a ha => List.mem_cons_of_mem _ ha).keep (Inv.vs ((v, s) :: D)) (fun p hp => ?_) fun k hk => ?_
  · rcases List.mem_cons.1 hp with rfl | hp
    · exact hr
    · exact hD.1 p hp
  · obtain ⟨p, hp, hk⟩ := hk
    rcases List.mem_cons.1 hp with rfl | hp
    · rcases hf k hk with h1 | h1
      · exact hD.2 k ⟨_, hu, h1⟩
      · refine ⟨hr.footLt (by decide) hk, fun hF => ?_, fun r hr' e => ?_⟩
        · have := (h.foot k hF).2; omega
        · have := ((h.res r hr').1.lt k e).2; omega
    · exact hD.2 k ⟨p, hp, hk⟩
/-- A spot of the document, with its slices. -/
abbrev RS := Value × Value × Spot
def rsE (q : RS) : List Value := [q.1, q.2.1]
def rsP (q : RS) : Spot := q.2.2
def rkey (q : RS) : List UInt8 := keyL q.2.2.1 q.2.2.2
def strE (l : List UInt8) : Value := .string (ofL l)
def addR (Q : List RS) (q : RS) : List RS := if q.2.2 ∈ Q.map rsP then Q else Q ++ [q]
theorem addR_snd (Q : List RS) (q : RS) : (addR Q q).map rsP = addP (Q.map rsP) q.2.2 := by
  unfold addR addP
  split
  · rfl
  · simp [rsP]
theorem addR_mem {Q : List RS} {q p : RS} (h : p ∈ addR Q q) : p ∈ Q ∨ p = q := by
  unfold addR at h
  split at h
  · exact .inl h
  · rcases List.mem_append.1 h with h | h
    · exact .inl h
    · exact .inr (List.mem_singleton.1 h)
theorem addR_pre (Q : List RS) (q : RS) : Q <+: addR Q q := by
  unfold addR; split
  · exact List.prefix_rfl
  · exact List.prefix_append _ _
theorem rkey_iff {K : Int} {M n : Nat} {Q : List RS} {q : RS} (hM : M + n ≤ 1000000) (hQ : ∀ p ∈ Q, Good K M n (rsP p)) (hq : Good K M n (rsP q)) : rkey q ∈ Q.map rkey ↔ rsP q ∈ Q.map rsP := by
  constructor
  · intro h
    obtain ⟨p, hp, e⟩ := List.mem_map.1 h
    have g := hQ p hp
    obtain ⟨e1, e2⟩ := keyL_inj (g.len.trans hq.len.symm) (g.okS hM) (hq.okS hM) e
    exact List.mem_map.2 ⟨p, hp, Prod.ext e1 e2⟩
  · intro h
    obtain ⟨p, hp, e⟩ := List.mem_map.1 h
    refine List.mem_map.2 ⟨p, hp, ?_⟩
    have e : p.2.2 = q.2.2 := e
    unfold rkey
    rw [e]
/-- What the search holds: the spots, the keys. -/
def RL (m : Nat) (ov : Value) (Q : List RS) : List Res := [.row ov 83 2 Q.length (Q.flatMap rsE), .obj m (mapO strE (Q.map rkey))]
theorem bool_map (d : List Bool) : d.flatMap boolE = d.map Value.bool := by
  induction d with
  | nil => rfl
  | cons x d ih => rw [List.flatMap_cons, ih]; rfl
theorem keyT_s : KeyT Try.prog 9 strE .string := keyT_str Try.underlying9
theorem own_cell {w : World} {B0 e sz n m c g : Nat} {xs : List Value} (h : w.ownsRow B0 e sz (.slice (some ⟨g, 0, none⟩) n c) m xs) : (∀ j u, xs[j]? = some u → w.cell? ⟨g, j, none⟩ = some u) ∧ ∀ j, w.frozen? ⟨g, j, none⟩ = false := by
  rcases h.2 with ⟨e, _⟩ | ⟨g', c', cur, e, hg, hb, _, _, _, ht⟩
  · cases e
  · simp only [Value.slice.injEq, Option.some.injEq, Addr.mk.injEq] at e
    obtain ⟨⟨rfl, _⟩, _⟩ := e
    have hB : Blk w g cur e := hb
    refine ⟨fun j u hu => ?_, hB.frozen⟩
    rw [hB.cell, ← Array.getElem?_toList]
    rw [← ht, List.getElem?_take] at hu
    split at hu
    · exact hu
    · cases hu
theorem rs_in {W0 w : World} {F : Nat → Prop} {L : List Res} {I : List Inv} {m i lc M : Nat} {la : Option Addr} {ov dv sv : Value} {l : List OpT} {d : List Bool} {s : List Int} {Q : List RS} {D : List VS} {B : List (Value × List Bool)} {b K : Int} {P : Post}
    (h : St W0 w F (RL m ov Q ++ L) (Inv.vs D :: Inv.bs B :: Inv.rd 11 OpT.enc (.slice la l.length lc) l :: I)) (hq : Q[i]? = some (dv, sv, d, s))
    (hn : l.length ≤ 16) (hK : ∀ o ∈ l, o.Kind = K) (hw : ∀ o ∈ l, o.wf) (hM : M ≤ 100000) (hQ : ∀ q ∈ Q, Good K M l.length (rsP q)) (hD : ∀ q ∈ Q, (q.2.1, q.2.2.2) ∈ D ∧ (q.1, q.2.2.1) ∈ B) (hlen : Q.length ≤ 200000)
    (hP : ∀ (w' : World) (Q' : List RS) (D' : List VS) (B' : List (Value × List Bool)) (ov' : Value), St W0 w' F (RL m ov' Q' ++ L) (Inv.vs D' :: Inv.bs B' :: Inv.rd 11 OpT.enc (.slice la l.length lc) l :: I) →
      (∀ q ∈ Q', Good K M l.length (rsP q)) → (∀ q ∈ Q', (q.2.1, q.2.2.2) ∈ D' ∧ (q.1, q.2.2.1) ∈ B') → Q'.map rsP = roundK l (d, s) (Q.map rsP) l.length → (∀ p ∈ D, p ∈ D') → Q <+: Q' →
      P .normal [(0, .slice la l.length lc), (2, .int .i64 b), (7, ov'), (8, .map (some m)), (12, .int .i64 (i + 1))] w') :
    W Try.prog (sg c37S14) [(0, .slice la l.length lc), (2, .int .i64 b), (7, ov), (8, .map (some m)), (12, .int .i64 i)] w P := by
  simp (disch := first | omega | exact okFill_t rfl | exact okSize_t rfl | exact fun h => h | (simp only [World.size_alloc, World.size_drew, World.size_setCell, size_fill, bytesW]; omega)) only [go_sem, ↓reduceIte, reduceCtorEq, Nat.reduceBEq, Nat.reduceEqDiff, Nat.reduceAdd, Nat.reduceMul, Int.reduceNe, Int.reduceEq, Int.reduceLT, Int.reduceLE, Int.reduceNeg, Int.reduceAdd, Int.reduceSub, Int.reduceMul, Int.reduceToNat, beq_self_eq_true, c37, c37S0, c37S1, c37S2, c37S3, c37L0, c37S4, c37S5, c37S6, c37S7, c37S8, c37S9, c37S10, c37S11, c37S12, c37L1, c37S14, c37L2, c37S15, c37S16, c37S17]
  have hil : i < Q.length := (List.getElem?_eq_some_iff.1 hq).1
  refine W_loopU (fun x : Nat × Value × List RS × List VS × List (Value × List Bool) => [(7, x.2.1), (13, .int .i64 x.1)]) (fun z w' => St W0 w' F (RL m z.2.1 z.2.2.1 ++ L) (Inv.vs z.2.2.2.1 :: Inv.bs z.2.2.2.2 :: Inv.rd 11 OpT.enc (.slice la l.length lc) l :: I) ∧ z.1 ≤ l.length ∧
    (∀ q ∈ z.2.2.1, Good K M l.length (rsP q)) ∧ (∀ q ∈ z.2.2.1, (q.2.1, q.2.2.2) ∈ z.2.2.2.1 ∧ (q.1, q.2.2.1) ∈ z.2.2.2.2) ∧ z.2.2.1.map rsP = roundK l (d, s) (Q.map rsP) z.1 ∧ (∀ p ∈ D, p ∈ z.2.2.2.1) ∧ Q <+: z.2.2.1) (fun z => l.length - z.1) (0, ov, Q, D, B) rfl ⟨h, Nat.zero_le _, hQ, hD, rfl, (fun p hp => hp), List.prefix_rfl⟩ ?_
  rintro ⟨k, ok, R, E, C⟩ w2 ⟨s2, hk, gR, dR, eR, sub, pre⟩
  simp only at s2 hk gR dR eR sub pre
  have hRl : R.length ≤ Q.length + k := by
    have := congrArg List.length eR
    have h2 := roundK_len l (d, s) (Q.map rsP) k
    simp only [List.length_map] at this h2
    omega
  have hiR : i < R.length := Nat.lt_of_lt_of_le hil pre.length_le
  have hRi : R[i] = (dv, sv, d, s) := by
    obtain ⟨t, rfl⟩ := pre
    rw [List.getElem_append_left hil]
    exact (List.getElem?_eq_some_iff.1 hq).2
  obtain ⟨ra, rc, rfl, _⟩ := own_slice (s2.row 0 rfl)
  obtain ⟨g, rfl⟩ := own_ptr (s2.row 0 rfl) (by omega)
  by_cases hlt : k < l.length
  · have hlt' : (k : Int) < l.length := by omega
    have hrd := s2.rd 2 rfl
    obtain ⟨p, rfl⟩ := hrd.ptr (by omega)
    have eo := hrd.at OpT.len hlt
    have ee := (RdS.of_own' (enc := rsE) (s2.row 0 rfl) R rfl rfl).elt (fun _ => rfl) (by decide) hiR
    rw [hRi, Addr.add_lit, Nat.zero_add] at ee
    have e0 : w2.cell? ⟨g, i * 2, none⟩ = some dv := ee.1
    have e1 : w2.cell? ⟨g, i * 2 + 1, none⟩ = some sv := by
      have := ee.2 1 (by decide) (by decide)
      simp only [Nat.zero_add] at this
      exact this
    have hmemR : R[i] ∈ R := List.getElem_mem hiR
    have gi : Good K M l.length (d, s) := by have := gR _ hmemR; rw [hRi] at this; exact this
    have di := dR _ hmemR
    rw [hRi] at di
    have hdv : RdS w2 1 boolE dv d := (s2.inv (Inv.bs C) (List.mem_cons_of_mem _ (List.mem_cons_self ..))).1 _ di.2
    have hsv : RdS w2 1 intE sv s := (s2.inv (Inv.vs E) (List.mem_cons_self ..)).1 _ di.1
    obtain ⟨da, dc, rfl, _⟩ := hdv.form
    obtain ⟨sa, sc, rfl, _⟩ := hsv.form
    simp (disch := first | omega | exact okFill_t rfl | exact okSize_t rfl | exact fun h => h | (simp only [World.size_alloc, World.size_drew, World.size_setCell, size_fill, bytesW]; omega)) only [go_sem, ↓reduceIte, reduceCtorEq, Nat.reduceBEq, Nat.reduceEqDiff, Nat.reduceAdd, Nat.reduceMul, Int.reduceNe, Int.reduceEq, Int.reduceLT, Int.reduceLE, Int.reduceNeg, Int.reduceAdd, Int.reduceSub, Int.reduceMul, Int.reduceToNat, beq_self_eq_true, c37, c37S0, c37S1, c37S2, c37S3, c37L0, c37S4, c37S5, c37S6, c37S7, c37S8, c37S9, c37S10, c37S11, c37S12, c37L1, c37S13, c37S14, c37L2, c37S15, c37S16, c37S17, c37L1, hlt', e0]
    refine ⟨⟨by omega, by omega⟩, Ret.mono (rmay_ok hrd hdv gi.len hlt hn) ?_⟩
    rintro _ w3 ⟨rfl, b3⟩
    have s3 := s2.call b3
    have go1 : roundK l (d, s) (Q.map rsP) (k + 1) = goP l (d, s) (R.map rsP) k := by rw [roundK, ← eR]
    have lk : l[k]? = some l[k] := List.getElem?_eq_getElem hlt
    have hmem := List.getElem_mem hlt
    have gd : d.length = l.length := gi.len
    cases hmy : mayP l d k l[k] with
    | false =>
      simp (disch := first | omega | exact okFill_t rfl | exact okSize_t rfl | exact fun h => h | (simp only [World.size_alloc, World.size_drew, World.size_setCell, size_fill, bytesW]; omega)) only [go_sem, ↓reduceIte, reduceCtorEq, Nat.reduceBEq, Nat.reduceEqDiff, Nat.reduceAdd, Nat.reduceMul, Int.reduceNe, Int.reduceEq, Int.reduceLT, Int.reduceLE, Int.reduceNeg, Int.reduceAdd, Int.reduceSub, Int.reduceMul, Int.reduceToNat, beq_self_eq_true, c37, c37S0, c37S1, c37S2, c37S3, c37L0, c37S4, c37S5, c37S6, c37S7, c37S8, c37S9, c37S10, c37S11, c37S12, c37L1, c37S13, c37S14, c37L2, c37S15, c37S16, c37S17]
      refine ⟨⟨by omega, by omega⟩, (k + 1, .slice (some ⟨g, 0, none⟩) R.length rc, R, E, C), rfl, ⟨s3, by simp only; omega, gR, dR, ?_, sub, pre⟩, by simp only; omega⟩
      simp only
      rw [go1]; unfold goP; rw [lk]; simp [hmy]
    | true =>
      have e0' : w3.cell? ⟨g, i * 2, none⟩ = some (.slice da d.length dc) := cell_below b3 e0
      have e1' : w3.cell? ⟨g, i * 2 + 1, none⟩ = some (.slice sa s.length sc) := cell_below b3 e1
      have eo' := cellsO_below b3 eo
      have lg : g < w3.heap.size := World.block_lt_of_cell? w3 ⟨g, i * 2, none⟩ e0'
      have hsv3 : RdS w3.drew 1 intE (.slice sa s.length sc) s := (hsv.below b3 (by decide)).below (Below.refl _ w3).drew (by decide)
      have s4 := s3.drew
      simp (disch := first | omega | exact okFill_t rfl | exact okSize_t rfl | exact fun h => h | (simp only [World.size_alloc, World.size_drew, World.size_setCell, size_fill, bytesW]; omega)) only [go_sem, ↓reduceIte, reduceCtorEq, Nat.reduceBEq, Nat.reduceEqDiff, Nat.reduceAdd, Nat.reduceMul, Int.reduceNe, Int.reduceEq, Int.reduceLT, Int.reduceLE, Int.reduceNeg, Int.reduceAdd, Int.reduceSub, Int.reduceMul, Int.reduceToNat, beq_self_eq_true, c37, c37S0, c37S1, c37S2, c37S3, c37L0, c37S4, c37S5, c37S6, c37S7, c37S8, c37S9, c37S10, c37S11, c37S12, c37L1, c37S13, c37S14, c37L2, c37S15, c37S16, c37S17]
      refine c37draw1 (Chg (fun _ => False) _) (Chg.refl _ _) ?_
      simp (disch := first | omega | exact okFill_t rfl | exact okSize_t rfl | exact fun h => h | (simp only [World.size_alloc, World.size_drew, World.size_setCell, size_fill, bytesW]; omega)) only [go_sem, ↓reduceIte, reduceCtorEq, Nat.reduceBEq, Nat.reduceEqDiff, Nat.reduceAdd, Nat.reduceMul, Int.reduceNe, Int.reduceEq, Int.reduceLT, Int.reduceLE, Int.reduceNeg, Int.reduceAdd, Int.reduceSub, Int.reduceMul, Int.reduceToNat, beq_self_eq_true, c37, c37S0, c37S1, c37S2, c37S3, c37L0, c37S4, c37S5, c37S6, c37S7, c37S8, c37S9, c37S10, c37S11, c37S12, c37L1, c37S13, c37S14, c37L2, c37S15, c37S16, c37S17, c37D1, e1', eo', OpT.len]
      have hsl : s.length ≤ 1000000 := (gi.okS (by omega)).2
      refine ⟨⟨by omega, by omega⟩, ⟨by omega, by omega⟩, Ret.mono (rstep_ok _ s l[k] _ hsv3 hsl (fun e => gi.ris ((hK _ hmem).symm.trans e))) ?_⟩
      rintro _ w5 ⟨⟨t, okk, rfl, hm⟩, b5⟩
      cases hst : stepP s l[k] with
      | none =>
        rw [hst] at hm
        have hm : okk = false := hm
        subst hm
        have s5 := s4.call b5
        simp (disch := first | omega | exact okFill_t rfl | exact okSize_t rfl | exact fun h => h | (simp only [World.size_alloc, World.size_drew, World.size_setCell, size_fill, bytesW]; omega)) only [go_sem, ↓reduceIte, reduceCtorEq, Nat.reduceBEq, Nat.reduceEqDiff, Nat.reduceAdd, Nat.reduceMul, Int.reduceNe, Int.reduceEq, Int.reduceLT, Int.reduceLE, Int.reduceNeg, Int.reduceAdd, Int.reduceSub, Int.reduceMul, Int.reduceToNat, beq_self_eq_true, c37, c37S0, c37S1, c37S2, c37S3, c37L0, c37S4, c37S5, c37S6, c37S7, c37S8, c37S9, c37S10, c37S11, c37S12, c37L1, c37S13, c37S14, c37L2, c37S15, c37S16, c37S17, c37D1]
        refine ⟨⟨by omega, by omega⟩, (k + 1, .slice (some ⟨g, 0, none⟩) R.length rc, R, E, C), rfl, ⟨s5, by simp only; omega, gR, dR, ?_, sub, pre⟩, by simp only; omega⟩
        simp only
        rw [go1]; unfold goP; rw [lk]; simp [hmy, hst]
      | some s' =>
        rw [hst] at hm
        obtain ⟨rfl, h5, f5⟩ := hm
        have s5 := vs_add2 s4 b5 h5 di.1 f5
        have gN : Good K M l.length (d.set k true, s') := gi.go hlt hK hw hmy hst
        have e05 : w5.cell? ⟨g, i * 2, none⟩ = some (.slice da d.length dc) := cell_below b5 e0'
        obtain ⟨tb, tc, rfl, _⟩ := h5.form
        simp (disch := first | omega | exact okFill_t rfl | exact okSize_t rfl | exact fun h => h | (simp only [World.size_alloc, World.size_drew, World.size_setCell, size_fill, bytesW]; omega)) only [go_sem, ↓reduceIte, reduceCtorEq, Nat.reduceBEq, Nat.reduceEqDiff, Nat.reduceAdd, Nat.reduceMul, Int.reduceNe, Int.reduceEq, Int.reduceLT, Int.reduceLE, Int.reduceNeg, Int.reduceAdd, Int.reduceSub, Int.reduceMul, Int.reduceToNat, beq_self_eq_true, c37, c37S0, c37S1, c37S2, c37S3, c37L0, c37S4, c37S5, c37S6, c37S7, c37S8, c37S9, c37S10, c37S11, c37S12, c37L1, c37S13, c37S14, c37L2, c37S15, c37S16, c37S17, c37D1]
        refine bsW_none ty41mkI ?_
        have lg5 : g < w5.heap.size := World.block_lt_of_cell? w5 ⟨g, i * 2, none⟩ e05
        simp (disch := first | omega | exact okFill_t rfl | exact okSize_t rfl | exact fun h => h | (simp only [World.size_alloc, World.size_drew, World.size_setCell, size_fill, bytesW]; omega)) only [go_sem, ↓reduceIte, reduceCtorEq, Nat.reduceBEq, Nat.reduceEqDiff, Nat.reduceAdd, Nat.reduceMul, Int.reduceNe, Int.reduceEq, Int.reduceLT, Int.reduceLE, Int.reduceNeg, Int.reduceAdd, Int.reduceSub, Int.reduceMul, Int.reduceToNat, beq_self_eq_true, c37, c37S0, c37S1, c37S2, c37S3, c37L0, c37S4, c37S5, c37S6, c37S7, c37S8, c37S9, c37S10, c37S11, c37S12, c37L1, c37S13, c37S14, c37L2, c37S15, c37S16, c37S17, e05]
        have s6 := s5.emptyRow 4 1
        have hdv6 : RdS (w5.alloc (.cells #[] 4)) 1 boolE (.slice da d.length dc) d := (s6.inv (Inv.bs C) (by simp)).1 _ di.2
        refine ⟨⟨by omega, by omega⟩, s6.append 0 rfl ty41mkI rfl (by decide) hdv6 (by intro u hu; obtain ⟨x, _, hx⟩ := List.mem_flatMap.1 hu; simp only [boolE, List.mem_singleton] at hx; subst hx; rfl) (by omega) (by omega) ?_⟩
        intro v7 w7 s7 c7
        simp only [List.set_cons_zero, List.nil_append, Nat.zero_add] at s7
        obtain ⟨a7, d7, rfl, _⟩ := own_slice (s7.row 0 rfl)
        obtain ⟨g7, rfl⟩ := own_ptr (s7.row 0 rfl) (by omega)
        simp (disch := first | omega | exact okFill_t rfl | exact okSize_t rfl | exact fun h => h | (simp only [World.size_alloc, World.size_drew, World.size_setCell, size_fill, bytesW]; omega)) only [go_sem, ↓reduceIte, reduceCtorEq, Nat.reduceBEq, Nat.reduceEqDiff, Nat.reduceAdd, Nat.reduceMul, Int.reduceNe, Int.reduceEq, Int.reduceLT, Int.reduceLE, Int.reduceNeg, Int.reduceAdd, Int.reduceSub, Int.reduceMul, Int.reduceToNat, beq_self_eq_true, c37, c37S0, c37S1, c37S2, c37S3, c37L0, c37S4, c37S5, c37S6, c37S7, c37S8, c37S9, c37S10, c37S11, c37S12, c37L1, c37S13, c37S14, c37L2, c37S15, c37S16, c37S17]
        refine bdW_built (cells := #[.slice (some ⟨g7, 0, none⟩) d.length d7, .slice tb s'.length tc]) (by kernel_rfl) ?_
        simp (disch := first | omega | exact okFill_t rfl | exact okSize_t rfl | exact fun h => h | (simp only [World.size_alloc, World.size_drew, World.size_setCell, size_fill, bytesW]; omega)) only [go_sem, ↓reduceIte, reduceCtorEq, Nat.reduceBEq, Nat.reduceEqDiff, Nat.reduceAdd, Nat.reduceMul, Int.reduceNe, Int.reduceEq, Int.reduceLT, Int.reduceLE, Int.reduceNeg, Int.reduceAdd, Int.reduceSub, Int.reduceMul, Int.reduceToNat, beq_self_eq_true, c37, c37S0, c37S1, c37S2, c37S3, c37L0, c37S4, c37S5, c37S6, c37S8, c37S9, c37S10, c37S11, c37S12, c37L1, c37S13, c37S14, c37L2, c37S15, c37S16, c37S17]
        have s8 := s7.box #[.slice (some ⟨g7, 0, none⟩) d.length d7, .slice tb s'.length tc] 83
        have n7 : w7.heap.size = w7.heap.size := rfl
        generalize w7.alloc (.cells #[.slice (some ⟨g7, 0, none⟩) d.length d7, .slice tb s'.length tc] 83) = w8 at s8 ⊢
        generalize w7.heap.size = y at s8 ⊢
        have r8 := s8.rules 0 rfl
        have c8 := own_cell (s8.row 1 rfl)
        have dk : (d.flatMap boolE)[k]? = some (.bool (d[k]'(by omega))) := by
          rw [bool_map, List.getElem?_map, List.getElem?_eq_getElem (by omega)]; rfl
        have ck := c8.1 k _ dk
        have fk := c8.2 k
        have ny : g7 ≠ y := fun e => s8.ne 0 1 rfl rfl (by decide) (k := y) rfl (by rw [← e]; rfl)
        simp (disch := first | omega | exact okFill_t rfl | exact okSize_t rfl | exact fun h => h | (simp only [World.size_alloc, World.size_drew, World.size_setCell, size_fill, bytesW]; omega)) only [go_sem, ↓reduceIte, reduceCtorEq, Nat.reduceBEq, Nat.reduceEqDiff, Nat.reduceAdd, Nat.reduceMul, Int.reduceNe, Int.reduceEq, Int.reduceLT, Int.reduceLE, Int.reduceNeg, Int.reduceAdd, Int.reduceSub, Int.reduceMul, Int.reduceToNat, beq_self_eq_true, c37, c37S0, c37S1, c37S2, c37S3, c37L0, c37S4, c37S5, c37S6, c37S7, c37S8, c37S9, c37S10, c37S11, c37S12, c37L1, c37S13, c37S14, c37L2, c37S15, c37S16, c37S17, r8, ck, fk]
        have s9 := bs_seal (d := d.set k true) ((s8.put 1 rfl k (.bool true)).perm (List.Perm.swap _ _ _)) (by
          refine RdS.of_own' (((s8.put 1 rfl k (.bool true)).row 1 rfl)) (d.set k true) (by simp) ?_
          rw [bool_map, bool_map, List.map_set])
        refine ⟨⟨by omega, by omega⟩, ?_⟩
        have ly := (s9.low 0 rfl).2
        generalize w8.setCell ⟨g7, k, none⟩ (.bool true) = w9 at s9 ly ⊢
        have hdN : RdS w9 1 boolE (.slice (some ⟨g7, 0, none⟩) d.length d7) (d.set k true) := (s9.inv (Inv.bs _) (List.mem_cons_of_mem _ (List.mem_cons_self ..))).1 _ (List.mem_cons_self ..)
        have hsN : RdS w9 1 intE (.slice tb s'.length tc) s' := (s9.inv (Inv.vs _) (List.mem_cons_self ..)).1 _ (List.mem_cons_self ..)
        have okN := gN.okS (show M + l.length ≤ 1000000 by omega)
        refine Ret.mono (key_ok hdN hsN okN (by simp; omega)) ?_
        rintro _ w10 ⟨rfl, b10⟩
        have s10 := s9.call b10
        simp (disch := first | omega | exact okFill_t rfl | exact okSize_t rfl | exact fun h => h | (simp only [World.size_alloc, World.size_drew, World.size_setCell, size_fill, bytesW]; omega)) only [go_sem, ↓reduceIte, reduceCtorEq, Nat.reduceBEq, Nat.reduceEqDiff, Nat.reduceAdd, Nat.reduceMul, Int.reduceNe, Int.reduceEq, Int.reduceLT, Int.reduceLE, Int.reduceNeg, Int.reduceAdd, Int.reduceSub, Int.reduceMul, Int.reduceToNat, beq_self_eq_true, c37, c37S0, c37S1, c37S2, c37S3, c37L0, c37S4, c37S5, c37S6, c37S7, c37S8, c37S9, c37S10, c37S11, c37S12, c37L1, c37S13, c37S14, c37L2, c37S15, c37S16, c37S17]
        refine luW_map keyT_s Try.underlying109 (s10.obj 2 rfl) (keyL (d.set k true) s') (Try.zeroValue4 _) ?_
        have hmm := rkey_iff (M := M) (Q := R) (q := ((Value.slice (some ⟨g7, 0, none⟩) d.length d7 : Value), (Value.slice tb s'.length tc : Value), (d.set k true, s'))) (by omega) gR gN
        simp (disch := first | omega | exact okFill_t rfl | exact okSize_t rfl | exact fun h => h | (simp only [World.size_alloc, World.size_drew, World.size_setCell, size_fill, bytesW]; omega)) only [go_sem, ↓reduceIte, reduceCtorEq, Nat.reduceBEq, Nat.reduceEqDiff, Nat.reduceAdd, Nat.reduceMul, Int.reduceNe, Int.reduceEq, Int.reduceLT, Int.reduceLE, Int.reduceNeg, Int.reduceAdd, Int.reduceSub, Int.reduceMul, Int.reduceToNat, beq_self_eq_true, c37, c37S0, c37S1, c37S2, c37S3, c37L0, c37S4, c37S5, c37S6, c37S7, c37S8, c37S9, c37S10, c37S11, c37S12, c37L1, c37S13, c37S14, c37L2, c37S15, c37S16, c37S17]
        refine ⟨fun hno => ?_, fun hyes => ?_⟩
        · have hnin : (d.set k true, s') ∉ R.map rsP := fun h' => hno (hmm.2 h')
          have r10 := s10.rules 0 rfl
          simp (disch := first | omega | exact okFill_t rfl | exact okSize_t rfl | exact fun h => h | (simp only [World.size_alloc, World.size_drew, World.size_setCell, size_fill, bytesW]; omega)) only [go_sem, ↓reduceIte, reduceCtorEq, Nat.reduceBEq, Nat.reduceEqDiff, Nat.reduceAdd, Nat.reduceMul, Int.reduceNe, Int.reduceEq, Int.reduceLT, Int.reduceLE, Int.reduceNeg, Int.reduceAdd, Int.reduceSub, Int.reduceMul, Int.reduceToNat, beq_self_eq_true, c37, c37S0, c37S1, c37S2, c37S3, c37L0, c37S4, c37S5, c37S6, c37S7, c37S8, c37S9, c37S10, c37S11, c37S12, c37L1, c37S13, c37S14, c37L2, c37S15, c37S16, c37S17, r10]
          have hdN2 := hdN.below b10 (by decide)
          have hsN2 := hsN.below b10 (by decide)
          refine Ret.mono (key_ok hdN2 hsN2 okN (by simp; omega)) ?_
          rintro _ w11 ⟨rfl, b11⟩
          have s11 := s10.call b11
          simp (disch := first | omega | exact okFill_t rfl | exact okSize_t rfl | exact fun h => h | (simp only [World.size_alloc, World.size_drew, World.size_setCell, size_fill, bytesW]; omega)) only [go_sem, ↓reduceIte, reduceCtorEq, Nat.reduceBEq, Nat.reduceEqDiff, Nat.reduceAdd, Nat.reduceMul, Int.reduceNe, Int.reduceEq, Int.reduceLT, Int.reduceLE, Int.reduceNeg, Int.reduceAdd, Int.reduceSub, Int.reduceMul, Int.reduceToNat, beq_self_eq_true, c37, c37S0, c37S1, c37S2, c37S3, c37L0, c37S4, c37S5, c37S6, c37S7, c37S8, c37S9, c37S10, c37S11, c37S12, c37L1, c37S13, c37S14, c37L2, c37S15, c37S16, c37S17]
          refine muW_map keyT_s Try.underlying109 (s11.obj 2 rfl) (keyL (d.set k true) s') hno ?_
          have s12 := s11.putObj 2 rfl (mapO strE (R.map rkey ++ [keyL (d.set k true) s']))
          simp only [List.set_cons_zero, List.set_cons_succ, RL, List.cons_append, List.nil_append] at s12
          generalize w11.putObj m (mapO strE (R.map rkey ++ [keyL (d.set k true) s'])) = w12 at s12 ⊢
          have r12 := s12.rules 0 rfl
          simp (disch := first | omega | exact okFill_t rfl | exact okSize_t rfl | exact fun h => h | (simp only [World.size_alloc, World.size_drew, World.size_setCell, size_fill, bytesW]; omega)) only [go_sem, ↓reduceIte, reduceCtorEq, Nat.reduceBEq, Nat.reduceEqDiff, Nat.reduceAdd, Nat.reduceMul, Int.reduceNe, Int.reduceEq, Int.reduceLT, Int.reduceLE, Int.reduceNeg, Int.reduceAdd, Int.reduceSub, Int.reduceMul, Int.reduceToNat, beq_self_eq_true, c37, c37S0, c37S1, c37S2, c37S3, c37L0, c37S4, c37S5, c37S6, c37S7, c37S8, c37S9, c37S10, c37S11, c37S12, c37L1, c37S13, c37S14, c37L2, c37S15, c37S16, c37S17, r12]
          refine bsW_agg ty79mkI rfl (by decide) (by decide) ?_
          simp (disch := first | omega | exact okFill_t rfl | exact okSize_t rfl | exact fun h => h | (simp only [World.size_alloc, World.size_drew, World.size_setCell, size_fill, bytesW]; omega)) only [go_sem, ↓reduceIte, reduceCtorEq, Nat.reduceBEq, Nat.reduceEqDiff, Nat.reduceAdd, Nat.reduceMul, Int.reduceNe, Int.reduceEq, Int.reduceLT, Int.reduceLE, Int.reduceNeg, Int.reduceAdd, Int.reduceSub, Int.reduceMul, Int.reduceToNat, beq_self_eq_true, c37, c37S0, c37S1, c37S2, c37S3, c37L0, c37S4, c37S5, c37S6, c37S7, c37S8, c37S9, c37S10, c37S11, c37S12, c37L1, c37S13, c37S14, c37L2, c37S15, c37S16, c37S17]
          have hx : Rd (w12.alloc (.cells #[.slice (some ⟨g7, 0, none⟩) d.length d7, .slice tb s'.length tc] 83)) 2 (.slice (some ⟨w12.heap.size, 0, none⟩) 1 1) 1 [.slice (some ⟨g7, 0, none⟩) d.length d7, .slice tb s'.length tc] := rd_new (n := 1) (cs := #[.slice (some ⟨g7, 0, none⟩) d.length d7, .slice tb s'.length tc]) rfl
          refine (s12.alloc' (.cells #[.slice (some ⟨g7, 0, none⟩) d.length d7, .slice tb s'.length tc] 83)).append 1 rfl ty79mkI rfl (by decide) hx (by intro u hu; simp only [List.mem_cons, List.not_mem_nil, or_false] at hu; rcases hu with rfl | rfl <;> rfl) (by omega) (by omega) ?_
          intro v13 w13 s13 c13
          simp only [List.set_cons_zero, List.set_cons_succ] at s13
          simp (disch := first | omega | exact okFill_t rfl | exact okSize_t rfl | exact fun h => h | (simp only [World.size_alloc, World.size_drew, World.size_setCell, size_fill, bytesW]; omega)) only [go_sem, ↓reduceIte, reduceCtorEq, Nat.reduceBEq, Nat.reduceEqDiff, Nat.reduceAdd, Nat.reduceMul, Int.reduceNe, Int.reduceEq, Int.reduceLT, Int.reduceLE, Int.reduceNeg, Int.reduceAdd, Int.reduceSub, Int.reduceMul, Int.reduceToNat, beq_self_eq_true, c37, c37S0, c37S1, c37S2, c37S3, c37L0, c37S4, c37S5, c37S6, c37S7, c37S8, c37S9, c37S10, c37S11, c37S12, c37L1, c37S13, c37S14, c37L2, c37S15, c37S16, c37S17]
          have s14 := s13.sub (L' := RL m v13 (R ++ [((Value.slice (some ⟨g7, 0, none⟩) d.length d7 : Value), (Value.slice tb s'.length tc : Value), (d.set k true, s'))]) ++ L) (by
            unfold RL
            rw [List.length_append, List.flatMap_append, List.map_append]
            exact List.sublist_cons_self _ _)
          have eA : addR R ((Value.slice (some ⟨g7, 0, none⟩) d.length d7 : Value), (Value.slice tb s'.length tc : Value), (d.set k true, s')) = R ++ [((Value.slice (some ⟨g7, 0, none⟩) d.length d7 : Value), (Value.slice tb s'.length tc : Value), (d.set k true, s'))] := by
            unfold addR
            exact if_neg hnin
          rw [← eA] at s14
          refine ⟨⟨by omega, by omega⟩, (k + 1, v13, addR R ((Value.slice (some ⟨g7, 0, none⟩) d.length d7 : Value), (Value.slice tb s'.length tc : Value), (d.set k true, s')), (.slice tb s'.length tc, s') :: E, (.slice (some ⟨g7, 0, none⟩) d.length d7, d.set k true) :: C), rfl, ⟨s14, by simp only; omega, fun q hq => ?_, fun q hq => ?_, ?_, fun p hp => List.mem_cons_of_mem _ (sub p hp), pre.trans (addR_pre _ _)⟩, by simp only; omega⟩
          · rcases addR_mem hq with hq | rfl
            · exact gR q hq
            · exact gN
          · rcases addR_mem hq with hq | rfl
            · exact ⟨List.mem_cons_of_mem _ (dR q hq).1, List.mem_cons_of_mem _ (dR q hq).2⟩
            · exact ⟨List.mem_cons_self .., List.mem_cons_self ..⟩
          · simp only
            rw [go1, addR_snd]; unfold goP; rw [lk]; simp only [hmy, hst, if_true]
        · have hin : (d.set k true, s') ∈ R.map rsP := hmm.1 hyes
          refine ⟨⟨by omega, by omega⟩, (k + 1, .slice (some ⟨g, 0, none⟩) R.length rc, R, (.slice tb s'.length tc, s') :: E, (.slice (some ⟨g7, 0, none⟩) d.length d7, d.set k true) :: C), rfl, ⟨s10.sub (List.sublist_cons_self _ _), by simp only; omega, gR, fun q hq => ⟨List.mem_cons_of_mem _ (dR q hq).1, List.mem_cons_of_mem _ (dR q hq).2⟩, ?_, fun p hp => List.mem_cons_of_mem _ (sub p hp), pre⟩, by simp only; omega⟩
          simp only
          rw [go1]; unfold goP; rw [lk]; simp only [hmy, hst, if_true]
          unfold addP
          rw [if_pos hin]
  · have hlt' : ¬ (k : Int) < l.length := by omega
    simp (disch := first | omega | exact okFill_t rfl | exact okSize_t rfl | exact fun h => h | (simp only [World.size_alloc, World.size_drew, World.size_setCell, size_fill, bytesW]; omega)) only [go_sem, ↓reduceIte, reduceCtorEq, Nat.reduceBEq, Nat.reduceEqDiff, Nat.reduceAdd, Nat.reduceMul, Int.reduceNe, Int.reduceEq, Int.reduceLT, Int.reduceLE, Int.reduceNeg, Int.reduceAdd, Int.reduceSub, Int.reduceMul, Int.reduceToNat, beq_self_eq_true, c37, c37S0, c37S1, c37S2, c37S3, c37L0, c37S4, c37S5, c37S6, c37S7, c37S8, c37S9, c37S10, c37S11, c37S12, c37L1, c37S13, c37S14, c37L2, c37S15, c37S16, c37S17, c37L1, hlt']
    have e : k = l.length := by omega
    subst e
    refine ⟨⟨by omega, by omega⟩, ?_⟩
    exact hP _ _ _ _ _ s2 gR dR eR sub pre
end Go.Proofs.Ytbeoedgoikcbpaa
namespace Go.Proofs.Ytbeoedgoikcbpaa
set_option linter.unusedSimpArgs false
set_option linter.unusedVariables false
set_option maxRecDepth 100000
open Go Go.Ann Go.RowKit
def SpotsR (l : List OpT) (t0 : List Spot) (b : Int) (Q : List RS) : Prop :=
  (b < (Q.length : Int) ∧ SearchR l t0 b none) ∨ ((Q.length : Int) ≤ b ∧ SearchR l t0 b (some (Q.map rsP)))
theorem rs_main {W0 w : World} {F : Nat → Prop} {L : List Res} {I : List Inv} {m lc M : Nat} {la : Option Addr} {ov : Value} {l : List OpT} {Q : List RS} {D : List VS} {B : List (Value × List Bool)} {b K : Int} {t0 : List Spot} {P : Value → World → Prop}
    (h : St W0 w F (RL m ov Q ++ L) (Inv.vs D :: Inv.bs B :: Inv.rd 11 OpT.enc (.slice la l.length lc) l :: I))
    (hn : l.length ≤ 16) (hK : ∀ o ∈ l, o.Kind = K) (hw : ∀ o ∈ l, o.wf) (hM : M ≤ 100000) (hQ : ∀ q ∈ Q, Good K M l.length (rsP q)) (hD : ∀ q ∈ Q, (q.2.1, q.2.2.2) ∈ D ∧ (q.1, q.2.2.1) ∈ B) (hlen : Q.length ≤ 60000) (hb : b ≤ 32768)
    (hover : b < (Q.length : Int) → b < (t0.length : Int)) (h0 : (Q.length : Int) ≤ b → Q.map rsP = t0)
    (hP : ∀ (w' : World) (Q' : List RS) (D' : List VS) (B' : List (Value × List Bool)) (ov' : Value), St W0 w' F (RL m ov' Q' ++ L) (Inv.vs D' :: Inv.bs B' :: Inv.rd 11 OpT.enc (.slice la l.length lc) l :: I) →
      (∀ q ∈ Q', Good K M l.length (rsP q)) → (∀ q ∈ Q', (q.2.1, q.2.2.2) ∈ D' ∧ (q.1, q.2.2.1) ∈ B') → Q'.length ≤ 60100 → SpotsR l t0 b Q' → P ov' w') :
    W Try.prog (sg c37S16) [(0, .slice la l.length lc), (2, .int .i64 b), (7, ov), (8, .map (some m))] w (finQ Try.prog [.tmp 6] P) := by
  simp (disch := first | omega | exact okFill_t rfl | exact okSize_t rfl | exact fun h => h | (simp only [World.size_alloc, World.size_drew, World.size_setCell, size_fill, bytesW]; omega)) only [go_sem, ↓reduceIte, reduceCtorEq, Nat.reduceBEq, Nat.reduceEqDiff, Nat.reduceAdd, Nat.reduceMul, Int.reduceNe, Int.reduceEq, Int.reduceLT, Int.reduceLE, Int.reduceNeg, Int.reduceAdd, Int.reduceSub, Int.reduceMul, Int.reduceToNat, beq_self_eq_true, c37, c37S0, c37S1, c37S2, c37S3, c37L0, c37S4, c37S5, c37S6, c37S7, c37S8, c37S9, c37S10, c37S11, c37S12, c37L1, c37S13, c37S14, c37L2, c37S15, c37S16, c37S17]
  by_cases hov : b < (Q.length : Int)
  · refine W_loopU (fun x : Nat => [(12, .int .i64 x)]) (fun x w' => w' = w ∧ x = 0) (fun x => x) 0 rfl ⟨rfl, rfl⟩ ?_
    rintro x _ ⟨rfl, rfl⟩
    obtain ⟨oa, oc, rfl, _⟩ := own_slice (h.row 0 rfl)
    have hov' : ¬ (Q.length : Int) ≤ b := by omega
    by_cases h0 : (0 : Int) < Q.length
    · simp (disch := first | omega | exact okFill_t rfl | exact okSize_t rfl | exact fun h => h | (simp only [World.size_alloc, World.size_drew, World.size_setCell, size_fill, bytesW]; omega)) only [go_sem, ↓reduceIte, reduceCtorEq, Nat.reduceBEq, Nat.reduceEqDiff, Nat.reduceAdd, Nat.reduceMul, Int.reduceNe, Int.reduceEq, Int.reduceLT, Int.reduceLE, Int.reduceNeg, Int.reduceAdd, Int.reduceSub, Int.reduceMul, Int.reduceToNat, beq_self_eq_true, c37, c37S0, c37S1, c37S2, c37S3, c37L0, c37S4, c37S5, c37S6, c37S7, c37S8, c37S9, c37S10, c37S11, c37S12, c37L1, c37S13, c37S14, c37L2, c37S15, c37S16, c37S17, c37L2, h0, hov']
      exact hP _ Q D B _ h hQ hD (by omega) (.inl ⟨hov, 0, hover hov⟩)
    · simp (disch := first | omega | exact okFill_t rfl | exact okSize_t rfl | exact fun h => h | (simp only [World.size_alloc, World.size_drew, World.size_setCell, size_fill, bytesW]; omega)) only [go_sem, ↓reduceIte, reduceCtorEq, Nat.reduceBEq, Nat.reduceEqDiff, Nat.reduceAdd, Nat.reduceMul, Int.reduceNe, Int.reduceEq, Int.reduceLT, Int.reduceLE, Int.reduceNeg, Int.reduceAdd, Int.reduceSub, Int.reduceMul, Int.reduceToNat, beq_self_eq_true, c37, c37S0, c37S1, c37S2, c37S3, c37L0, c37S4, c37S5, c37S6, c37S7, c37S8, c37S9, c37S10, c37S11, c37S12, c37L1, c37S13, c37S14, c37L2, c37S15, c37S16, c37S17, c37L2, h0]
      exact hP _ Q D B _ h hQ hD (by omega) (.inl ⟨hov, 0, hover hov⟩)
  have e0 := h0 (by omega)
  refine W_loopU (fun x : Nat × Value × List RS × List VS × List (Value × List Bool) => [(7, x.2.1), (12, .int .i64 x.1)]) (fun z w' => St W0 w' F (RL m z.2.1 z.2.2.1 ++ L) (Inv.vs z.2.2.2.1 :: Inv.bs z.2.2.2.2 :: Inv.rd 11 OpT.enc (.slice la l.length lc) l :: I) ∧ z.1 ≤ 32769 ∧ z.1 ≤ z.2.2.1.length ∧ z.2.2.1.length ≤ 60100 ∧
    (∀ q ∈ z.2.2.1, Good K M l.length (rsP q)) ∧ (∀ q ∈ z.2.2.1, (q.2.1, q.2.2.2) ∈ z.2.2.2.1 ∧ (q.1, q.2.2.1) ∈ z.2.2.2.2) ∧ z.2.2.1.map rsP = bfsN l t0 z.1) (fun z => 32770 - z.1) (0, ov, Q, D, B) rfl ⟨h, by omega, Nat.zero_le _, by simp only; omega, hQ, hD, e0⟩ ?_
  rintro ⟨i, ok, R, E, C⟩ w2 ⟨s2, h32, hi, hRl, gR, dR, eR⟩
  simp only at s2 h32 hi hRl gR dR eR
  obtain ⟨ra, rc, rfl, _⟩ := own_slice (s2.row 0 rfl)
  by_cases hlt : i < R.length
  · have hlt' : (i : Int) < R.length := by omega
    by_cases ho : (R.length : Int) ≤ b
    · simp (disch := first | omega | exact okFill_t rfl | exact okSize_t rfl | exact fun h => h | (simp only [World.size_alloc, World.size_drew, World.size_setCell, size_fill, bytesW]; omega)) only [go_sem, ↓reduceIte, reduceCtorEq, Nat.reduceBEq, Nat.reduceEqDiff, Nat.reduceAdd, Nat.reduceMul, Int.reduceNe, Int.reduceEq, Int.reduceLT, Int.reduceLE, Int.reduceNeg, Int.reduceAdd, Int.reduceSub, Int.reduceMul, Int.reduceToNat, beq_self_eq_true, c37, c37S0, c37S1, c37S2, c37S3, c37L0, c37S4, c37S5, c37S6, c37S7, c37S8, c37S9, c37S10, c37S11, c37S12, c37L1, c37S13, c37L2, c37S15, c37S16, c37S17, c37L2, hlt', ho]
      obtain ⟨⟨dv, sv, d, s⟩, hri⟩ : ∃ q, R[i] = q := ⟨_, rfl⟩
      have hrq : R[i]? = some (dv, sv, d, s) := by rw [List.getElem?_eq_getElem hlt, hri]
      refine rs_in (K := K) (M := M) s2 hrq hn hK hw hM gR dR (by omega) ?_
      intro w3 R3 E3 C3 v3 s3 g3 d3 e3 sub3 pre3
      simp (disch := first | omega | exact okFill_t rfl | exact okSize_t rfl | exact fun h => h | (simp only [World.size_alloc, World.size_drew, World.size_setCell, size_fill, bytesW]; omega)) only [go_sem, ↓reduceIte, reduceCtorEq, Nat.reduceBEq, Nat.reduceEqDiff, Nat.reduceAdd, Nat.reduceMul, Int.reduceNe, Int.reduceEq, Int.reduceLT, Int.reduceLE, Int.reduceNeg, Int.reduceAdd, Int.reduceSub, Int.reduceMul, Int.reduceToNat, beq_self_eq_true, c37, c37S0, c37S1, c37S2, c37S3, c37L0, c37S4, c37S5, c37S6, c37S7, c37S8, c37S9, c37S10, c37S11, c37S12, c37L1, c37S13, c37S14, c37L2, c37S15, c37S16, c37S17]
      have len3 : R3.length ≤ R.length + l.length := by
        have := congrArg List.length e3
        have h2 := roundK_len l (d, s) (R.map rsP) l.length
        simp only [List.length_map] at this h2
        omega
      refine ⟨(i + 1, v3, R3, E3, C3), rfl, ⟨s3, by simp only; omega, by simp only; have := pre3.length_le; omega, by simp only; omega, g3, d3, ?_⟩, by simp only; omega⟩
      simp only
      rw [bfsN, ← eR, List.getElem?_map, hrq]
      exact e3
    · simp (disch := first | omega | exact okFill_t rfl | exact okSize_t rfl | exact fun h => h | (simp only [World.size_alloc, World.size_drew, World.size_setCell, size_fill, bytesW]; omega)) only [go_sem, ↓reduceIte, reduceCtorEq, Nat.reduceBEq, Nat.reduceEqDiff, Nat.reduceAdd, Nat.reduceMul, Int.reduceNe, Int.reduceEq, Int.reduceLT, Int.reduceLE, Int.reduceNeg, Int.reduceAdd, Int.reduceSub, Int.reduceMul, Int.reduceToNat, beq_self_eq_true, c37, c37S0, c37S1, c37S2, c37S3, c37L0, c37S4, c37S5, c37S6, c37S7, c37S8, c37S9, c37S10, c37S11, c37S12, c37L1, c37S13, c37S14, c37L2, c37S15, c37S16, c37S17, c37L2, hlt', ho]
      refine hP _ R E C _ s2 gR dR hRl (.inl ⟨by omega, i, ?_⟩)
      rw [← eR, List.length_map]; omega
  · have hlt' : ¬ (i : Int) < R.length := by omega
    simp (disch := first | omega | exact okFill_t rfl | exact okSize_t rfl | exact fun h => h | (simp only [World.size_alloc, World.size_drew, World.size_setCell, size_fill, bytesW]; omega)) only [go_sem, ↓reduceIte, reduceCtorEq, Nat.reduceBEq, Nat.reduceEqDiff, Nat.reduceAdd, Nat.reduceMul, Int.reduceNe, Int.reduceEq, Int.reduceLT, Int.reduceLE, Int.reduceNeg, Int.reduceAdd, Int.reduceSub, Int.reduceMul, Int.reduceToNat, beq_self_eq_true, c37, c37S0, c37S1, c37S2, c37S3, c37L0, c37S4, c37S5, c37S6, c37S7, c37S8, c37S9, c37S10, c37S11, c37S12, c37L1, c37S13, c37S14, c37L2, c37S15, c37S16, c37S17, c37L2, hlt']
    refine hP _ R E C _ s2 gR dR hRl ?_
    by_cases ho : (R.length : Int) ≤ b
    · exact .inr ⟨ho, ⟨i, eR.symm, by rw [List.length_map]; omega⟩, by rw [List.length_map]; exact ho⟩
    · refine .inl ⟨by omega, i, ?_⟩
      rw [← eR, List.length_map]; omega
end Go.Proofs.Ytbeoedgoikcbpaa
namespace Go.Proofs.Ytbeoedgoikcbpaa
set_option linter.unusedSimpArgs false
set_option linter.unusedVariables false
set_option maxRecDepth 100000
open Go Go.Ann Go.RowKit
theorem bs_seal2 {W0 w : World} {F : Nat → Prop} {L : List Res} {I : List Inv} {v : Value} {r : Res} {d : List Bool} {D : List VS} {B : List (Value × List Bool)} (h : St W0 w F (r :: L) (Inv.vs D :: Inv.bs B :: I)) (hr : RdS w 1 boolE v d) (hf : ∀ k, slFoot v k → r.own = some k) : St W0 w F L (Inv.vs D :: Inv.bs ((v, d) :: B) :: I) := by
  have h1 := h.seal (Inv.bs [(v, d)]) (fun p hp => by rw [List.mem_singleton] at hp; subst hp; exact hr) (fun k hk => by
    obtain ⟨p, hp, hk⟩ := hk
    rw [List.mem_singleton] at hp; subst hp
    exact hf k hk)
  have i0 := h1.inv _ (List.mem_cons_self ..)
  have i1 := h1.inv (Inv.vs D) (List.mem_cons_of_mem _ (List.mem_cons_self ..))
  have i2 := h1.inv (Inv.bs B) (List.mem_cons_of_mem _ (List.mem_cons_of_mem _ (List.mem_cons_self ..)))
  refine ((h1.inv_sub (I' := I) fun a ha => List.mem_cons_of_mem _ (List.mem_cons_of_mem _ (List.mem_cons_of_mem _ ha))).keep (Inv.bs ((v, d) :: B)) (fun p hp => ?_) fun k hk => ?_).keep (Inv.vs D) i1.1 i1.2
  · rcases List.mem_cons.1 hp with rfl | hp
    · exact hr
    · exact i2.1 p hp
  · obtain ⟨p, hp, hk⟩ := hk
    rcases List.mem_cons.1 hp with rfl | hp
    · exact i0.2 k ⟨_, List.mem_singleton.2 rfl, hk⟩
    · exact i2.2 k ⟨p, hp, hk⟩
theorem rd_false {w : World} {g n : Nat} {t : TypeId} (hB : Blk w g (zerosA (Value.bool false) n) t) : RdS w 1 boolE (.slice (some ⟨g, 0, none⟩) n n) (List.replicate n false) := by
  have e : (zerosA (Value.bool false) n).toList = (List.replicate n false).map Value.bool := by simp [zerosA]
  refine ⟨by rw [bool_map]; simp, some ⟨g, 0, none⟩, n, by simp, by simp, fun _ => ⟨_, rfl, fun j u hu => ?_⟩⟩
  rw [bool_map, ← e] at hu
  rw [Addr.add_lit, Nat.zero_add, hB.cell, ← Array.getElem?_toList]
  exact hu
/-- A spot that nothing is done in. -/
theorem rs_new {w : World} {ov mv sv : Value} {n lc k U fc : Nat} {la : Option Addr} {p : Addr} {b : Int} {Q : Post} (hn : n ≤ 16) (hk : k < U) (hs : w.cell? (p.add k) = some sv) (h1 : ∃ a n c, sv = .slice a n c)
    (hQ : ∀ w' y g, St w.drew w' (fun _ => False) [.blk y #[.slice (some ⟨g, 0, none⟩) n n, sv] 83, .blk g (zerosA (.bool false) n) 4] [] →
      W Try.prog (sg c37S1) [(0, .slice la n lc), (2, .int .i64 b), (7, ov), (8, mv), (9, .slice (some p) U fc), (10, .int .i64 k), (11, .pointer (some ⟨y, 0, none⟩))] w' Q) :
    drawW Try.prog (drawOps 0 c37code) [0, 2, 7, 8, 9, 10, 11] [(0, .slice la n lc), (2, .int .i64 b), (7, ov), (8, mv), (9, .slice (some p) U fc), (10, .int .i64 k)] w (thenQ Try.prog (sg c37S1) Q) := by
  obtain ⟨sa, sn, sc, rfl⟩ := h1
  have lp : p.block < w.heap.size := by have := World.block_lt_of_cell? w _ hs; rwa [add_block] at this
  have lp' : p.block < w.drew.heap.size := lp
  refine c37draw0 (Chg (fun _ => False) _) (Chg.refl _ _) ?_
  have t0 := St.start (W0 := w.drew)
  simp (disch := first | omega | exact okFill_t rfl | exact okSize_t rfl | exact fun h => h | (simp only [World.size_alloc, World.size_drew, World.size_setCell, size_fill, bytesW]; omega)) only [go_sem, ↓reduceIte, reduceCtorEq, Nat.reduceBEq, Nat.reduceEqDiff, Nat.reduceAdd, Nat.reduceMul, Int.reduceNe, Int.reduceEq, Int.reduceLT, Int.reduceLE, Int.reduceNeg, Int.reduceAdd, Int.reduceSub, Int.reduceMul, Int.reduceToNat, beq_self_eq_true, c37, c37S0, c37S2, c37S3, c37L0, c37S4, c37S5, c37S6, c37S7, c37S8, c37S9, c37S10, c37S11, c37S12, c37L1, c37S13, c37S14, c37L2, c37S15, c37S16, c37S17, c37D0, hs]
  refine ⟨⟨by omega, by omega⟩, ?_, ?_⟩
  · refine msW_one ty41mkI rfl (by omega) (by omega) (by omega) (by omega) ?_
    simp (disch := first | omega | exact okFill_t rfl | exact okSize_t rfl | exact fun h => h | (simp only [World.size_alloc, World.size_drew, World.size_setCell, size_fill, bytesW]; omega)) only [go_sem, ↓reduceIte, reduceCtorEq, Nat.reduceBEq, Nat.reduceEqDiff, Nat.reduceAdd, Nat.reduceMul, Int.reduceNe, Int.reduceEq, Int.reduceLT, Int.reduceLE, Int.reduceNeg, Int.reduceAdd, Int.reduceSub, Int.reduceMul, Int.reduceToNat, beq_self_eq_true, c37, c37S0, c37S2, c37S3, c37L0, c37S4, c37S5, c37S6, c37S7, c37S8, c37S9, c37S10, c37S11, c37S12, c37L1, c37S13, c37S14, c37L2, c37S15, c37S16, c37S17]
    have t1 := t0.box (zerosA (.bool false) n) 4
    refine ⟨Chg.of_below t1.bel, ?_, ?_⟩
    · refine bdW_built (cells := #[.slice (some ⟨w.heap.size, 0, none⟩) n n, .slice sa sn sc]) (by kernel_rfl) ?_
      simp (disch := first | omega | exact okFill_t rfl | exact okSize_t rfl | exact fun h => h | (simp only [World.size_alloc, World.size_drew, World.size_setCell, size_fill, bytesW]; omega)) only [go_sem, ↓reduceIte, reduceCtorEq, Nat.reduceBEq, Nat.reduceEqDiff, Nat.reduceAdd, Nat.reduceMul, Int.reduceNe, Int.reduceEq, Int.reduceLT, Int.reduceLE, Int.reduceNeg, Int.reduceAdd, Int.reduceSub, Int.reduceMul, Int.reduceToNat, beq_self_eq_true, c37, c37S0, c37S2, c37S3, c37L0, c37S4, c37S5, c37S6, c37S7, c37S8, c37S9, c37S10, c37S11, c37S12, c37L1, c37S13, c37S14, c37L2, c37S15, c37S16, c37S17]
      have t2 := t1.box #[.slice none 0 0, .slice none 0 0] 83
      rw [World.size_alloc, World.size_drew] at t2
      have t3 := t2.fill 0 rfl (cs := #[.slice (some ⟨w.heap.size, 0, none⟩) n n, .slice sa sn sc]) rfl
      exact ⟨Chg.of_below t1.bel, Chg.of_below t2.bel, Chg.of_below t3.bel, hQ _ _ _ t3⟩
    · have t2 := t1.box #[.slice none 0 0, .slice none 0 0] 83
      rw [World.size_alloc, World.size_drew] at t2
      refine ⟨Chg.of_below t2.bel, bdW_built (cells := #[.slice (some ⟨w.heap.size, 0, none⟩) n n, .slice sa sn sc]) (by kernel_rfl) ?_⟩
      simp (disch := first | omega | exact okFill_t rfl | exact okSize_t rfl | exact fun h => h | (simp only [World.size_alloc, World.size_drew, World.size_setCell, size_fill, bytesW]; omega)) only [go_sem, ↓reduceIte, reduceCtorEq, Nat.reduceBEq, Nat.reduceEqDiff, Nat.reduceAdd, Nat.reduceMul, Int.reduceNe, Int.reduceEq, Int.reduceLT, Int.reduceLE, Int.reduceNeg, Int.reduceAdd, Int.reduceSub, Int.reduceMul, Int.reduceToNat, beq_self_eq_true, c37, c37S0, c37S2, c37S3, c37L0, c37S4, c37S5, c37S6, c37S7, c37S8, c37S9, c37S10, c37S11, c37S12, c37L1, c37S13, c37S14, c37L2, c37S15, c37S16, c37S17]
      have t3 := t2.fill 0 rfl (cs := #[.slice (some ⟨w.heap.size, 0, none⟩) n n, .slice sa sn sc]) rfl
      exact ⟨Chg.of_below t2.bel, Chg.of_below t3.bel, hQ _ _ _ t3⟩
  · have t1 := t0.box #[.slice none 0 0, .slice none 0 0] 83
    refine ⟨Chg.of_below t1.bel, msW_one ty41mkI rfl (by omega) (by omega) (by omega) (by omega) ?_⟩
    simp (disch := first | omega | exact okFill_t rfl | exact okSize_t rfl | exact fun h => h | (simp only [World.size_alloc, World.size_drew, World.size_setCell, size_fill, bytesW]; omega)) only [go_sem, ↓reduceIte, reduceCtorEq, Nat.reduceBEq, Nat.reduceEqDiff, Nat.reduceAdd, Nat.reduceMul, Int.reduceNe, Int.reduceEq, Int.reduceLT, Int.reduceLE, Int.reduceNeg, Int.reduceAdd, Int.reduceSub, Int.reduceMul, Int.reduceToNat, beq_self_eq_true, c37, c37S0, c37S2, c37S3, c37L0, c37S4, c37S5, c37S6, c37S7, c37S8, c37S9, c37S10, c37S11, c37S12, c37L1, c37S13, c37S14, c37L2, c37S15, c37S16, c37S17]
    have t2 := t1.box (zerosA (.bool false) n) 4
    rw [World.size_alloc, World.size_drew] at t2
    refine ⟨Chg.of_below t2.bel, bdW_built (cells := #[.slice (some ⟨w.heap.size + 1, 0, none⟩) n n, .slice sa sn sc]) (by kernel_rfl) ?_⟩
    simp (disch := first | omega | exact okFill_t rfl | exact okSize_t rfl | exact fun h => h | (simp only [World.size_alloc, World.size_drew, World.size_setCell, size_fill, bytesW]; omega)) only [go_sem, ↓reduceIte, reduceCtorEq, Nat.reduceBEq, Nat.reduceEqDiff, Nat.reduceAdd, Nat.reduceMul, Int.reduceNe, Int.reduceEq, Int.reduceLT, Int.reduceLE, Int.reduceNeg, Int.reduceAdd, Int.reduceSub, Int.reduceMul, Int.reduceToNat, beq_self_eq_true, c37, c37S0, c37S2, c37S3, c37L0, c37S4, c37S5, c37S6, c37S7, c37S8, c37S9, c37S10, c37S11, c37S12, c37L1, c37S13, c37S14, c37L2, c37S15, c37S16, c37S17]
    have t3 := t2.fill 1 rfl (cs := #[.slice (some ⟨w.heap.size + 1, 0, none⟩) n n, .slice sa sn sc]) rfl
    exact ⟨Chg.of_below t2.bel, Chg.of_below t3.bel, hQ _ _ _ (t3.perm (List.Perm.swap _ _ _))⟩
theorem spots_ok {W0 w : World} {F : Nat → Prop} {L : List Res} {I : List Inv} {lc M : Nat} {la : Option Addr} {ev : Value} {l : List OpT} {E D : List VS} {b K : Int}
    (h : St W0 w F L (Inv.vs D :: Inv.rd 11 OpT.enc (.slice la l.length lc) l :: I)) (hE : RowS w ev E) (hED : ∀ p ∈ E, p ∈ D)
    (hn : l.length ≤ 16) (hK : ∀ o ∈ l, o.Kind = K) (hw : ∀ o ∈ l, o.wf) (hEl : E.length ≤ 50000) (hM : M ≤ 100000)
    (hEo : ∀ p ∈ E, Ok64 p.2 ∧ p.2.length ≤ M ∧ (K = 5 → p.2.Pairwise (· < ·))) (hb : b ≤ 32768) :
    Ret Try.prog 37 [.slice la l.length lc, ev, .int .i64 b] w fun u w' => ∃ U0 Q D' B' m, Uniq (E.map Prod.snd) U0 ∧ St W0 w' F (RL m u Q ++ L) (Inv.vs D' :: Inv.bs B' :: Inv.rd 11 OpT.enc (.slice la l.length lc) l :: I) ∧
      (∀ q ∈ Q, Good K M l.length (rsP q)) ∧ (∀ q ∈ Q, (q.2.1, q.2.2.2) ∈ D' ∧ (q.1, q.2.2.1) ∈ B') ∧ Q.length ≤ 60100 ∧ SpotsR l (startP l.length U0) b Q := by
  refine ent37 _ _ _ _ _ ?_
  simp (disch := first | omega | exact okFill_t rfl | exact okSize_t rfl | exact fun h => h | (simp only [World.size_alloc, World.size_drew, World.size_setCell, size_fill, bytesW]; omega)) only [go_sem, ↓reduceIte, reduceCtorEq, Nat.reduceBEq, Nat.reduceEqDiff, Nat.reduceAdd, Nat.reduceMul, Int.reduceNe, Int.reduceEq, Int.reduceLT, Int.reduceLE, Int.reduceNeg, Int.reduceAdd, Int.reduceSub, Int.reduceMul, Int.reduceToNat, beq_self_eq_true, c37, c37S0, c37S1, c37S2, c37S3, c37L0, c37S4, c37S5, c37S6, c37S7, c37S8, c37S9, c37S10, c37S11, c37S12, c37L1, c37S13, c37S14, c37L2, c37S15, c37S16, c37S17]
  refine mmW_map (κ := List UInt8) (enc := strE) ?_
  have s1 := h.lay (mapO strE [])
  have hE1 := hE.below ((Below.refl w.heap.size w).alloc (Nat.le_refl _) (mapO strE []))
  generalize w.alloc (mapO strE []) = w1 at s1 hE1 ⊢
  generalize w.heap.size = m at s1 ⊢
  simp (disch := first | omega | exact okFill_t rfl | exact okSize_t rfl | exact fun h => h | (simp only [World.size_alloc, World.size_drew, World.size_setCell, size_fill, bytesW]; omega)) only [go_sem, ↓reduceIte, reduceCtorEq, Nat.reduceBEq, Nat.reduceEqDiff, Nat.reduceAdd, Nat.reduceMul, Int.reduceNe, Int.reduceEq, Int.reduceLT, Int.reduceLE, Int.reduceNeg, Int.reduceAdd, Int.reduceSub, Int.reduceMul, Int.reduceToNat, beq_self_eq_true, c37, c37S0, c37S1, c37S2, c37S3, c37L0, c37S4, c37S5, c37S6, c37S7, c37S8, c37S9, c37S10, c37S11, c37S12, c37L1, c37S13, c37S14, c37L2, c37S15, c37S16, c37S17]
  refine Ret.mono (sorted_ok _ E w1 hE1 (fun p hp => ⟨(hEo p hp).1, by have := (hEo p hp).2.1; omega⟩) (by omega)) ?_
  rintro fv w2 ⟨⟨U, hU, hUE, hrow⟩, b2⟩
  have s2 := ((s1.add b2 (.row fv 36 1 U.length (U.map Prod.fst)) (own_mono hrow s1.size) (fun k hk => (World.ownsRow.lt hrow k hk).1)))
  have i2 := s2.inv _ (List.mem_cons_self ..)
  have s3 := (St.keepSub (s2.inv_sub (I' := Inv.rd 11 OpT.enc (.slice la l.length lc) l :: I) fun a ha => List.mem_cons_of_mem _ ha) (b := Inv.rd 11 OpT.enc (.slice la l.length lc) l) (by simp) (Inv.bs []) (fun p hp => by cases hp) (fun k hk => by obtain ⟨p, hp, _⟩ := hk; cases hp)).keep (Inv.vs D) i2.1 i2.2
  have s4 := (s3.nilRow 83 2)
  have s5 := s4.perm (L' := RL m (.slice none 0 0) [] ++ (.row fv 36 1 U.length (U.map Prod.fst) :: L)) ((List.Perm.swap _ _ _).cons _)
  have hUl : U.length ≤ 50000 := by
    have := uniq_le hU
    simp only [List.length_map] at this
    omega
  have gU : ∀ p ∈ U, Good K M l.length (List.replicate l.length false, p.2) := fun p hp => by
    obtain ⟨h1, h2, h3⟩ := hEo p (hUE p hp)
    exact ⟨by simp, h1, by simp only; omega, h3⟩
  obtain ⟨fa, fc, rfl, _⟩ := own_slice hrow
  simp (disch := first | omega | exact okFill_t rfl | exact okSize_t rfl | exact fun h => h | (simp only [World.size_alloc, World.size_drew, World.size_setCell, size_fill, bytesW]; omega)) only [go_sem, ↓reduceIte, reduceCtorEq, Nat.reduceBEq, Nat.reduceEqDiff, Nat.reduceAdd, Nat.reduceMul, Int.reduceNe, Int.reduceEq, Int.reduceLT, Int.reduceLE, Int.reduceNeg, Int.reduceAdd, Int.reduceSub, Int.reduceMul, Int.reduceToNat, beq_self_eq_true, c37, c37S0, c37S1, c37S2, c37S3, c37L0, c37S4, c37S5, c37S6, c37S7, c37S8, c37S9, c37S10, c37S11, c37S12, c37L1, c37S13, c37S14, c37L2, c37S15, c37S17]
  refine W_loopU (fun x : Nat × Value × List RS × List (Value × List Bool) => [(7, x.2.1), (10, .int .i64 x.1)]) (fun z w' => St W0 w' F (RL m z.2.1 z.2.2.1 ++ (.row (.slice fa U.length fc) 36 1 U.length (U.map Prod.fst) :: L)) (Inv.vs D :: Inv.bs z.2.2.2 :: Inv.rd 11 OpT.enc (.slice la l.length lc) l :: I) ∧ z.1 ≤ U.length ∧ z.2.2.1.length = z.1 ∧ (z.1 = 0 ∨ (z.1 : Int) ≤ b + 1) ∧
    z.2.2.1.map rsP = startP l.length ((U.take z.1).map Prod.snd) ∧ (∀ q ∈ z.2.2.1, (q.2.1, q.2.2.2) ∈ D ∧ (q.1, q.2.2.1) ∈ z.2.2.2)) (fun z => U.length - z.1) (0, .slice none 0 0, [], []) rfl ⟨s5, Nat.zero_le _, rfl, .inl rfl, rfl, (fun q hq => by cases hq)⟩ ?_
  rintro ⟨k, ok, R, C⟩ w6 ⟨s6, hk, hRk, hkb, eR, dR⟩
  simp only at s6 hk hRk hkb eR dR
  have gR : ∀ q ∈ R, Good K M l.length (rsP q) := fun q hq => by
    have : rsP q ∈ R.map rsP := List.mem_map.2 ⟨q, hq, rfl⟩
    rw [eR] at this
    obtain ⟨t, ht, e⟩ := List.mem_map.1 this
    obtain ⟨p, hp, rfl⟩ := List.mem_map.1 ht
    rw [← e]
    exact gU p (List.mem_of_mem_take hp)
  have fin : ∀ (c : ¬ (k < U.length ∧ (R.length : Int) ≤ b)), W Try.prog (sg c37S16) [(0, .slice la l.length lc), (2, .int .i64 b), (7, ok), (8, .map (some m))] w6 (finQ Try.prog [.tmp 6] fun u w' => ∃ U0 Q D' B' m, Uniq (E.map Prod.snd) U0 ∧ St W0 w' F (RL m u Q ++ L) (Inv.vs D' :: Inv.bs B' :: Inv.rd 11 OpT.enc (.slice la l.length lc) l :: I) ∧
      (∀ q ∈ Q, Good K M l.length (rsP q)) ∧ (∀ q ∈ Q, (q.2.1, q.2.2.2) ∈ D' ∧ (q.1, q.2.2.1) ∈ B') ∧ Q.length ≤ 60100 ∧ SpotsR l (startP l.length U0) b Q) := fun hc => by
    refine rs_main (K := K) (M := M) (t0 := startP l.length (U.map Prod.snd)) s6 hn hK hw hM gR dR (by omega) hb (fun ho => ?_) (fun ho => ?_) ?_
    · simp only [startP, List.length_map]; omega
    · have : k = U.length := by
        rcases Nat.lt_or_ge k U.length with hlt | hlt
        · exact absurd ⟨hlt, ho⟩ hc
        · omega
      rw [eR, this, List.take_length]
    · intro w7 Q7 D7 B7 v7 s7 g7 d7 l7 r7
      exact ⟨_, Q7, D7, B7, m, hU, s7.sub ((List.Sublist.refl _).append (List.sublist_cons_self _ _)), g7, d7, l7, r7⟩
  obtain ⟨ra, rc, rfl, _⟩ := own_slice (s6.row 0 rfl)
  by_cases hlt : k < U.length
  · have hlt' : (k : Int) < U.length := by omega
    by_cases ho : (R.length : Int) ≤ b
    · obtain ⟨g, rfl⟩ := own_ptr (s6.row 2 rfl) (by omega)
      have ek := (own_cell (s6.row 2 rfl)).1 k U[k].1 (by simp [hlt])
      have memU := List.getElem_mem hlt
      have hDk : (U[k].1, U[k].2) ∈ D := hED _ (hUE _ memU)
      have hsk : RdS w6 1 intE U[k].1 U[k].2 := (s6.inv (Inv.vs D) (List.mem_cons_self ..)).1 _ hDk
      obtain ⟨sa, sc, hsf, _⟩ := hsk.form
      have gk := gU _ memU
      simp (disch := first | omega | exact okFill_t rfl | exact okSize_t rfl | exact fun h => h | (simp only [World.size_alloc, World.size_drew, World.size_setCell, size_fill, bytesW]; omega)) only [go_sem, ↓reduceIte, reduceCtorEq, Nat.reduceBEq, Nat.reduceEqDiff, Nat.reduceAdd, Nat.reduceMul, Int.reduceNe, Int.reduceEq, Int.reduceLT, Int.reduceLE, Int.reduceNeg, Int.reduceAdd, Int.reduceSub, Int.reduceMul, Int.reduceToNat, beq_self_eq_true, c37, c37S0, c37S1, c37S2, c37S3, c37L0, c37S4, c37S5, c37S6, c37S7, c37S8, c37S9, c37S10, c37S11, c37S12, c37L1, c37S13, c37S14, c37L2, c37S15, c37S16, c37S17, c37L0, hlt', ho]
      refine rs_new (sv := U[k].1) hn hlt (by rw [Addr.add_lit, Nat.zero_add]; exact ek) ⟨_, _, _, hsf⟩ ?_
      intro w7 y g7 t7
      have s7 := St.join s6.drew t7
      have r7 := s7.rules 0 rfl
      rw [hsf] at r7
      have hd7 := rd_false (s7.blk 1 rfl)
      have hs7 : RdS w7 1 intE (.slice sa U[k].2.length sc) U[k].2 := by rw [← hsf]; exact (s7.inv (Inv.vs D) (List.mem_cons_self ..)).1 _ hDk
      simp (disch := first | omega | exact okFill_t rfl | exact okSize_t rfl | exact fun h => h | (simp only [World.size_alloc, World.size_drew, World.size_setCell, size_fill, bytesW]; omega)) only [go_sem, ↓reduceIte, reduceCtorEq, Nat.reduceBEq, Nat.reduceEqDiff, Nat.reduceAdd, Nat.reduceMul, Int.reduceNe, Int.reduceEq, Int.reduceLT, Int.reduceLE, Int.reduceNeg, Int.reduceAdd, Int.reduceSub, Int.reduceMul, Int.reduceToNat, beq_self_eq_true, c37, c37S0, c37S1, c37S2, c37S3, c37L0, c37S4, c37S5, c37S6, c37S7, c37S8, c37S9, c37S10, c37S11, c37S12, c37L1, c37S13, c37S14, c37L2, c37S15, c37S16, c37S17, r7]
      refine Ret.mono (key_ok hd7 hs7 (gk.okS (by omega)) (by simp; omega)) ?_
      rintro _ w8 ⟨rfl, b8⟩
      have s8 := s7.call b8
      simp (disch := first | omega | exact okFill_t rfl | exact okSize_t rfl | exact fun h => h | (simp only [World.size_alloc, World.size_drew, World.size_setCell, size_fill, bytesW]; omega)) only [go_sem, ↓reduceIte, reduceCtorEq, Nat.reduceBEq, Nat.reduceEqDiff, Nat.reduceAdd, Nat.reduceMul, Int.reduceNe, Int.reduceEq, Int.reduceLT, Int.reduceLE, Int.reduceNeg, Int.reduceAdd, Int.reduceSub, Int.reduceMul, Int.reduceToNat, beq_self_eq_true, c37, c37S0, c37S1, c37S2, c37S3, c37L0, c37S4, c37S5, c37S6, c37S7, c37S8, c37S9, c37S10, c37S11, c37S12, c37L1, c37S13, c37S14, c37L2, c37S15, c37S16, c37S17]
      have hnk : keyL (List.replicate l.length false) U[k].2 ∉ R.map rkey := fun hin => by
        have := (rkey_iff (M := M) (Q := R) (q := ((Value.slice none 0 0 : Value), (Value.slice none 0 0 : Value), (List.replicate l.length false, U[k].2))) (by omega) gR gk).1 hin
        rw [eR] at this
        obtain ⟨t, ht, e⟩ := List.mem_map.1 this
        simp only [rsP, Prod.mk.injEq, true_and] at e
        subst e
        have hnd := uniq_nodup hU
        rw [← List.take_append_drop k U, List.map_append, List.nodup_append] at hnd
        refine hnd.2.2 _ ht _ (List.mem_map.2 ⟨U[k], ?_, rfl⟩) rfl
        rw [List.drop_eq_getElem_cons hlt]; exact List.mem_cons_self ..
      refine muW_map keyT_s Try.underlying109 (s8.obj 3 rfl) (keyL (List.replicate l.length false) U[k].2) hnk ?_
      have s9 := s8.putObj 3 rfl (mapO strE (R.map rkey ++ [keyL (List.replicate l.length false) U[k].2]))
      simp only [List.set_cons_zero, List.set_cons_succ, RL, List.cons_append, List.nil_append] at s9
      generalize w8.putObj m (mapO strE (R.map rkey ++ [keyL (List.replicate l.length false) U[k].2])) = w9 at s9 ⊢
      have r9 := s9.rules 0 rfl
      rw [hsf] at r9
      simp (disch := first | omega | exact okFill_t rfl | exact okSize_t rfl | exact fun h => h | (simp only [World.size_alloc, World.size_drew, World.size_setCell, size_fill, bytesW]; omega)) only [go_sem, ↓reduceIte, reduceCtorEq, Nat.reduceBEq, Nat.reduceEqDiff, Nat.reduceAdd, Nat.reduceMul, Int.reduceNe, Int.reduceEq, Int.reduceLT, Int.reduceLE, Int.reduceNeg, Int.reduceAdd, Int.reduceSub, Int.reduceMul, Int.reduceToNat, beq_self_eq_true, c37, c37S0, c37S1, c37S2, c37S3, c37L0, c37S4, c37S5, c37S6, c37S7, c37S8, c37S9, c37S10, c37S11, c37S12, c37L1, c37S13, c37S14, c37L2, c37S15, c37S16, c37S17, r9]
      refine bsW_agg ty79mkI rfl (by decide) (by decide) ?_
      simp (disch := first | omega | exact okFill_t rfl | exact okSize_t rfl | exact fun h => h | (simp only [World.size_alloc, World.size_drew, World.size_setCell, size_fill, bytesW]; omega)) only [go_sem, ↓reduceIte, reduceCtorEq, Nat.reduceBEq, Nat.reduceEqDiff, Nat.reduceAdd, Nat.reduceMul, Int.reduceNe, Int.reduceEq, Int.reduceLT, Int.reduceLE, Int.reduceNeg, Int.reduceAdd, Int.reduceSub, Int.reduceMul, Int.reduceToNat, beq_self_eq_true, c37, c37S0, c37S1, c37S2, c37S3, c37L0, c37S4, c37S5, c37S6, c37S7, c37S8, c37S9, c37S10, c37S11, c37S12, c37L1, c37S13, c37S14, c37L2, c37S15, c37S16, c37S17]
      have hx : Rd (w9.alloc (.cells #[.slice (some ⟨g7, 0, none⟩) l.length l.length, .slice sa U[k].2.length sc] 83)) 2 (.slice (some ⟨w9.heap.size, 0, none⟩) 1 1) 1 [.slice (some ⟨g7, 0, none⟩) l.length l.length, .slice sa U[k].2.length sc] := rd_new (n := 1) (cs := #[.slice (some ⟨g7, 0, none⟩) l.length l.length, .slice sa U[k].2.length sc]) rfl
      refine (s9.alloc' (.cells #[.slice (some ⟨g7, 0, none⟩) l.length l.length, .slice sa U[k].2.length sc] 83)).append 2 rfl ty79mkI rfl (by decide) hx (by intro u hu; simp only [List.mem_cons, List.not_mem_nil, or_false] at hu; rcases hu with rfl | rfl <;> rfl) (by omega) (by omega) ?_
      intro v10 w10 s10 c10
      simp only [List.set_cons_zero, List.set_cons_succ] at s10
      simp (disch := first | omega | exact okFill_t rfl | exact okSize_t rfl | exact fun h => h | (simp only [World.size_alloc, World.size_drew, World.size_setCell, size_fill, bytesW]; omega)) only [go_sem, ↓reduceIte, reduceCtorEq, Nat.reduceBEq, Nat.reduceEqDiff, Nat.reduceAdd, Nat.reduceMul, Int.reduceNe, Int.reduceEq, Int.reduceLT, Int.reduceLE, Int.reduceNeg, Int.reduceAdd, Int.reduceSub, Int.reduceMul, Int.reduceToNat, beq_self_eq_true, c37, c37S0, c37S1, c37S2, c37S3, c37L0, c37S4, c37S5, c37S6, c37S7, c37S8, c37S9, c37S10, c37S11, c37S12, c37L1, c37S13, c37S14, c37L2, c37S15, c37S16, c37S17]
      have s11 := bs_seal2 (v := .slice (some ⟨g7, 0, none⟩) l.length l.length) (d := List.replicate l.length false) (s10.sub (List.sublist_cons_self _ _)) (rd_false (s10.blk 1 rfl)) (fun k hk => by have := slFoot_own hk; exact this)
      have s12 := s11.sub (L' := RL m v10 (R ++ [((Value.slice (some ⟨g7, 0, none⟩) l.length l.length : Value), U[k].1, (List.replicate l.length false, U[k].2))]) ++ (.row (.slice (some ⟨g, 0, none⟩) U.length fc) 36 1 U.length (U.map Prod.fst) :: L)) (by
        unfold RL
        rw [List.length_append, List.flatMap_append, List.map_append, hsf]
        exact List.Sublist.refl _)
      refine ⟨⟨by omega, by omega⟩, (k + 1, v10, R ++ [((Value.slice (some ⟨g7, 0, none⟩) l.length l.length : Value), U[k].1, (List.replicate l.length false, U[k].2))], (.slice (some ⟨g7, 0, none⟩) l.length l.length, List.replicate l.length false) :: C), rfl, ⟨s12, by simp only; omega, by simp [hRk], .inr (by simp only; omega), ?_, fun q hq => ?_⟩, by simp only; omega⟩
      · simp only
        rw [List.map_append, eR, List.take_succ_eq_append_getElem hlt]
        unfold startP
        rw [List.map_append, List.map_append]
        rfl
      · rcases List.mem_append.1 hq with hq | hq
        · exact ⟨(dR q hq).1, List.mem_cons_of_mem _ (dR q hq).2⟩
        · rw [List.mem_singleton] at hq; subst hq
          exact ⟨hDk, List.mem_cons_self ..⟩
    · simp (disch := first | omega | exact okFill_t rfl | exact okSize_t rfl | exact fun h => h | (simp only [World.size_alloc, World.size_drew, World.size_setCell, size_fill, bytesW]; omega)) only [go_sem, ↓reduceIte, reduceCtorEq, Nat.reduceBEq, Nat.reduceEqDiff, Nat.reduceAdd, Nat.reduceMul, Int.reduceNe, Int.reduceEq, Int.reduceLT, Int.reduceLE, Int.reduceNeg, Int.reduceAdd, Int.reduceSub, Int.reduceMul, Int.reduceToNat, beq_self_eq_true, c37, c37S0, c37S1, c37S2, c37S3, c37L0, c37S4, c37S5, c37S6, c37S7, c37S8, c37S9, c37S10, c37S11, c37S12, c37L1, c37S13, c37S14, c37L2, c37S15, c37S17, c37L0, hlt', ho]
      exact fin fun hc => ho hc.2
  · have hlt' : ¬ (k : Int) < U.length := by omega
    simp (disch := first | omega | exact okFill_t rfl | exact okSize_t rfl | exact fun h => h | (simp only [World.size_alloc, World.size_drew, World.size_setCell, size_fill, bytesW]; omega)) only [go_sem, ↓reduceIte, reduceCtorEq, Nat.reduceBEq, Nat.reduceEqDiff, Nat.reduceAdd, Nat.reduceMul, Int.reduceNe, Int.reduceEq, Int.reduceLT, Int.reduceLE, Int.reduceNeg, Int.reduceAdd, Int.reduceSub, Int.reduceMul, Int.reduceToNat, beq_self_eq_true, c37, c37S0, c37S1, c37S2, c37S3, c37L0, c37S4, c37S5, c37S6, c37S7, c37S8, c37S9, c37S10, c37S11, c37S12, c37L1, c37S13, c37S14, c37L2, c37S15, c37S17, c37L0, hlt']
    exact fin fun hc => hlt hc.1
end Go.Proofs.Ytbeoedgoikcbpaa
namespace Go.Proofs.Ytbeoedgoikcbpaa
set_option linter.unusedSimpArgs false
set_option linter.unusedVariables false
set_option maxRecDepth 100000
open Go Go.Ann Go.RowKit
theorem vs_old {W0 w : World} {F : Nat → Prop} {L : List Res} {I : List Inv} {E : List VS} (h : St W0 w F L I) (hE : ∀ p ∈ E, RdS W0 1 intE p.1 p.2) : St W0 w F L (Inv.vs E :: I) :=
  h.keep (Inv.vs E) (fun p hp => (hE p hp).below h.bel (by decide)) fun k hk => by
    obtain ⟨p, hp, hk⟩ := hk
    have hlt := (hE p hp).footLt (by decide) hk
    have := h.size
    exact ⟨by omega, fun hF => by have := (h.foot k hF).1; omega, fun r hr e => by have := ((h.res r hr).1.lt k e).1; omega⟩
theorem rsearch_ok {w : World} {l : List OpT} {lv ev : Value} {ob kd budget K : Int} {E : List VS} {M : Nat} (h : RdS w 11 OpT.enc lv l) (hn : l.length ≤ 16) (hK : ∀ o ∈ l, o.Kind = K) (hw : ∀ o ∈ l, o.wf) (hE : RowS w ev E) (hEl : E.length ≤ 50000) (hM : M ≤ 100000)
    (hEo : ∀ p ∈ E, Ok64 p.2 ∧ p.2.length ≤ M ∧ (K = 5 → p.2.Pairwise (· < ·))) (hb : I64 budget) :
    Ret Try.prog 16 [.agg #[.int .i64 ob, .int .i64 kd, lv], ev, .int .i64 budget] w fun u w' => (∃ U0 r, Uniq (E.map Prod.snd) U0 ∧ SearchR l (startP l.length U0) (min budget 32768) r ∧ SearchV w' l (E.map Prod.snd) U0 r u) ∧ Below w.heap.size w w' := by
  obtain ⟨la, lc, rfl, _⟩ := h.form
  refine ent16 _ _ _ _ _ ?_
  have s1 := ((St.start (W0 := w)).box #[.int .i64 ob, .int .i64 kd, .slice la l.length lc] 24).box #[.slice none 0 0, .slice none 0 0, .int .i64 0] 27
  rw [World.size_alloc] at s1
  have hn' : ¬ (16 : Int) < l.length := by omega
  obtain ⟨b, hbd⟩ : ∃ b : Int, b = if budget < 0 then -1 else min budget 32768 := ⟨_, rfl⟩
  have hb32 : b ≤ 32768 := by rw [hbd]; split <;> omega
  have s2 := vs_old (s1.old h (by decide)) hE.rd
  have r2 := s2.rules 1 rfl
  have key : W Try.prog (sg c16S8) [(1, ev), (2, .int .i64 b), (3, .pointer (some ⟨w.heap.size, 0, none⟩)), (6, .pointer (some ⟨w.heap.size + 1, 0, none⟩))]
      ((w.alloc (.cells #[.int .i64 ob, .int .i64 kd, .slice la l.length lc] 24)).alloc (.cells #[.slice none 0 0, .slice none 0 0, .int .i64 0] 27))
      (finQ Try.prog [.cell 6 27, .tmp 7] fun u w' => (∃ U0 r, Uniq (E.map Prod.snd) U0 ∧ SearchR l (startP l.length U0) (min budget 32768) r ∧ SearchV w' l (E.map Prod.snd) U0 r u) ∧ Below w.heap.size w w') := by
    generalize (w.alloc (.cells #[.int .i64 ob, .int .i64 kd, .slice la l.length lc] 24)).alloc (.cells #[.slice none 0 0, .slice none 0 0, .int .i64 0] 27) = w2 at s2 r2 ⊢
    clear s1
    generalize hrr : w.heap.size + 1 = rr at s2 ⊢
    simp (disch := first | omega | exact okFill_t rfl | exact okSize_t rfl | exact fun h => h | (simp only [World.size_alloc, World.size_drew, World.size_setCell, size_fill, bytesW]; omega)) only [go_sem, ↓reduceIte, reduceCtorEq, Nat.reduceBEq, Nat.reduceEqDiff, Nat.reduceAdd, Nat.reduceMul, Int.reduceNe, Int.reduceEq, Int.reduceLT, Int.reduceLE, Int.reduceNeg, Int.reduceAdd, Int.reduceSub, Int.reduceMul, Int.reduceToNat, beq_self_eq_true, c16, c16S0, c16S1, c16S2, c16L0, c16S3, c16S4, c16S5, c16S6, c16S7, c16S8, c16S9, c16S10, r2]
    refine Ret.mono (spots_ok (K := K) (M := M) s2 (hE.below s2.bel) (fun p hp => hp) hn hK hw hEl hM hEo hb32) ?_
    rintro ov w3 ⟨U0, Q, D, B, m, hU0, s3, gQ, dQ, hQl, hQR⟩
    obtain ⟨oa, oc, rfl, _⟩ := own_slice (s3.row 0 rfl)
    simp (disch := first | omega | exact okFill_t rfl | exact okSize_t rfl | exact fun h => h | (simp only [World.size_alloc, World.size_drew, World.size_setCell, size_fill, bytesW]; omega)) only [go_sem, ↓reduceIte, reduceCtorEq, Nat.reduceBEq, Nat.reduceEqDiff, Nat.reduceAdd, Nat.reduceMul, Int.reduceNe, Int.reduceEq, Int.reduceLT, Int.reduceLE, Int.reduceNeg, Int.reduceAdd, Int.reduceSub, Int.reduceMul, Int.reduceToNat, beq_self_eq_true, c16, c16S0, c16S1, c16S2, c16L0, c16S3, c16S4, c16S5, c16S7, c16S8, c16S9, c16S10]
    have q3 := s3.rules 2 rfl
    refine ⟨fun ho => ?_, fun ho => ?_⟩
    · refine bdW_built (cells := #[.slice none 0 0, .slice none 0 0, .int .i64 0]) (by kernel_rfl) ?_
      simp (disch := first | omega | exact okFill_t rfl | exact okSize_t rfl | exact fun h => h | (simp only [World.size_alloc, World.size_drew, World.size_setCell, size_fill, bytesW]; omega)) only [go_sem, ↓reduceIte, reduceCtorEq, Nat.reduceBEq, Nat.reduceEqDiff, Nat.reduceAdd, Nat.reduceMul, Int.reduceNe, Int.reduceEq, Int.reduceLT, Int.reduceLE, Int.reduceNeg, Int.reduceAdd, Int.reduceSub, Int.reduceMul, Int.reduceToNat, beq_self_eq_true, c16, c16S0, c16S1, c16S2, c16L0, c16S3, c16S4, c16S5, c16S6, c16S7, c16S8, c16S9, c16S10, q3]
      refine ⟨⟨U0, none, hU0, ?_, rfl⟩, (s3.fill 2 rfl (cs := #[.slice none 0 0, .slice none 0 0, .int .i64 0]) rfl).bel⟩
      rcases hQR with ⟨h1, N, h2⟩ | ⟨h1, h2⟩
      · refine ⟨N, ?_⟩
        rw [hbd] at h2
        split at h2 <;> omega
      · omega
    · have hR : SearchR l (startP l.length U0) (min budget 32768) (some (Q.map rsP)) := by
        rcases hQR with ⟨h1, _⟩ | ⟨h1, h2, h3⟩
        · omega
        · refine ⟨h2, ?_⟩
          rw [hbd] at h3
          split at h3
          · rw [List.length_map] at h3; omega
          · exact h3
      simp (disch := first | omega | exact okFill_t rfl | exact okSize_t rfl | exact fun h => h | (simp only [World.size_alloc, World.size_drew, World.size_setCell, size_fill, bytesW]; omega)) only [go_sem, ↓reduceIte, reduceCtorEq, Nat.reduceBEq, Nat.reduceEqDiff, Nat.reduceAdd, Nat.reduceMul, Int.reduceNe, Int.reduceEq, Int.reduceLT, Int.reduceLE, Int.reduceNeg, Int.reduceAdd, Int.reduceSub, Int.reduceMul, Int.reduceToNat, beq_self_eq_true, c16, c16S0, c16S1, c16S2, c16L0, c16S3, c16S4, c16S5, c16S6, c16S7, c16S8, c16S9, c16S10]
      refine Ret.mono (sorted_ok _ E w3 (hE.below s3.bel) (fun p hp => ⟨(hEo p hp).1, by have := (hEo p hp).2.1; omega⟩) (by omega)) ?_
      rintro uv w4 ⟨⟨U, hU, hUE, hrow⟩, b4⟩
      have s4 := s3.add b4 (.row uv 36 1 U.length (U.map Prod.fst)) (own_mono hrow s3.size) (fun k hk => (World.ownsRow.lt hrow k hk).1)
      obtain ⟨ua, uc, rfl, _⟩ := own_slice hrow
      simp (disch := first | omega | exact okFill_t rfl | exact okSize_t rfl | exact fun h => h | (simp only [World.size_alloc, World.size_drew, World.size_setCell, size_fill, bytesW]; omega)) only [go_sem, ↓reduceIte, reduceCtorEq, Nat.reduceBEq, Nat.reduceEqDiff, Nat.reduceAdd, Nat.reduceMul, Int.reduceNe, Int.reduceEq, Int.reduceLT, Int.reduceLE, Int.reduceNeg, Int.reduceAdd, Int.reduceSub, Int.reduceMul, Int.reduceToNat, beq_self_eq_true, c16, c16S0, c16S1, c16S2, c16L0, c16S3, c16S4, c16S5, c16S6, c16S7, c16S8, c16S9, c16S10]
      refine bdW_built (cells := #[.slice ua U.length uc, .slice none 0 0, .int .i64 Q.length]) (by kernel_rfl) ?_
      simp (disch := first | omega | exact okFill_t rfl | exact okSize_t rfl | exact fun h => h | (simp only [World.size_alloc, World.size_drew, World.size_setCell, size_fill, bytesW]; omega)) only [go_sem, ↓reduceIte, reduceCtorEq, Nat.reduceBEq, Nat.reduceEqDiff, Nat.reduceAdd, Nat.reduceMul, Int.reduceNe, Int.reduceEq, Int.reduceLT, Int.reduceLE, Int.reduceNeg, Int.reduceAdd, Int.reduceSub, Int.reduceMul, Int.reduceToNat, beq_self_eq_true, c16, c16S0, c16S1, c16S2, c16L0, c16S3, c16S5, c16S6, c16S7, c16S8, c16S9, c16S10]
      have s5 := (s4.box #[.slice ua U.length uc, .slice none 0 0, .int .i64 Q.length] 27).nilRow 36 1
      generalize w4.alloc (.cells #[.slice ua U.length uc, .slice none 0 0, .int .i64 Q.length] 27) = w5 at s5 ⊢
      generalize w4.heap.size = z at s5 ⊢
      refine W_loopU (fun x : Nat × Value × List VS => [(10, .int .i64 x.1)]) (fun x w' => St w w' (fun _ => False) (.row x.2.1 36 1 x.2.2.length (x.2.2.map Prod.fst) :: .blk z #[.slice ua U.length uc, x.2.1, .int .i64 Q.length] 27 :: .row (.slice ua U.length uc) 36 1 U.length (U.map Prod.fst) :: (RL m (.slice oa Q.length oc) Q ++ [Res.blk rr #[.slice none 0 0, .slice none 0 0, .int .i64 0] 27, Res.blk w.heap.size #[.int .i64 ob, .int .i64 kd, .slice la l.length lc] 24])) [Inv.vs D, Inv.bs B, Inv.rd 11 OpT.enc (.slice la l.length lc) l] ∧ x.1 ≤ Q.length ∧ (∀ p ∈ x.2.2, p ∈ D) ∧ x.2.2.map Prod.snd = (((Q.map rsP).take x.1).filter fun p => fullP l p.1).map Prod.snd) (fun x => Q.length - x.1) (0, .slice none 0 0, []) rfl ⟨s5, Nat.zero_le _, (fun p hp => by cases hp), by simp⟩ ?_
      rintro ⟨i, xv, X⟩ w6 ⟨s6, hi, hX, eX⟩
      simp only at s6 hi hX eX
      obtain ⟨xa, xc, rfl, _⟩ := own_slice (s6.row 0 rfl)
      have hXl : X.length ≤ i := by
        have e1 := congrArg List.length eX
        have e2 := List.length_filter_le (fun p : Spot => fullP l p.1) ((Q.map rsP).take i)
        simp only [List.length_map, List.length_take] at e1 e2
        omega
      by_cases hlt : i < Q.length
      · have hlt' : (i : Int) < Q.length := by omega
        obtain ⟨g, rfl⟩ := own_ptr (s6.row 3 rfl) (by omega)
        have ee := (RdS.of_own' (enc := rsE) (s6.row 3 rfl) Q rfl rfl).elt (fun _ => rfl) (by decide) hlt
        have hmemQ : Q[i] ∈ Q := List.getElem_mem hlt
        have gi := gQ _ hmemQ
        have di := dQ _ hmemQ
        obtain ⟨⟨dv, sv, d, s⟩, hri⟩ : ∃ q, Q[i] = q := ⟨_, rfl⟩
        rw [hri, Addr.add_lit, Nat.zero_add] at ee
        rw [hri] at gi di
        have e0 : w6.cell? ⟨g, i * 2, none⟩ = some dv := ee.1
        have e1 : w6.cell? ⟨g, i * 2 + 1, none⟩ = some sv := by
          have := ee.2 1 (by decide) (by decide)
          simp only [Nat.zero_add] at this
          exact this
        have hdv : RdS w6 1 boolE dv d := (s6.inv (Inv.bs B) (by simp)).1 _ di.2
        have hsv : RdS w6 1 intE sv s := (s6.inv (Inv.vs D) (by simp)).1 _ di.1
        obtain ⟨da, dc, rfl, _⟩ := hdv.form
        obtain ⟨sa, sc, rfl, _⟩ := hsv.form
        have lg : g < w6.heap.size := World.block_lt_of_cell? w6 ⟨g, i * 2, none⟩ e0
        have rs := s6.rules 6 rfl
        have ls := (s6.low 6 rfl).2
        have hl6 : RdS w6 11 OpT.enc (.slice la l.length lc) l := s6.rd 2 rfl
        simp (disch := first | omega | exact okFill_t rfl | exact okSize_t rfl | exact fun h => h | (simp only [World.size_alloc, World.size_drew, World.size_setCell, size_fill, bytesW]; omega)) only [go_sem, ↓reduceIte, reduceCtorEq, Nat.reduceBEq, Nat.reduceEqDiff, Nat.reduceAdd, Nat.reduceMul, Int.reduceNe, Int.reduceEq, Int.reduceLT, Int.reduceLE, Int.reduceNeg, Int.reduceAdd, Int.reduceSub, Int.reduceMul, Int.reduceToNat, beq_self_eq_true, c16, c16S0, c16S1, c16S2, c16L0, c16S3, c16S4, c16S5, c16S6, c16S7, c16S8, c16S9, c16S10, c16L0, hlt']
        refine c16draw0 (Chg (fun _ => False) _) (Chg.refl _ _) ?_
        simp (disch := first | omega | exact okFill_t rfl | exact okSize_t rfl | exact fun h => h | (simp only [World.size_alloc, World.size_drew, World.size_setCell, size_fill, bytesW]; omega)) only [go_sem, ↓reduceIte, reduceCtorEq, Nat.reduceBEq, Nat.reduceEqDiff, Nat.reduceAdd, Nat.reduceMul, Int.reduceNe, Int.reduceEq, Int.reduceLT, Int.reduceLE, Int.reduceNeg, Int.reduceAdd, Int.reduceSub, Int.reduceMul, Int.reduceToNat, beq_self_eq_true, c16, c16S0, c16S1, c16S2, c16L0, c16S3, c16S4, c16S5, c16S6, c16S7, c16S8, c16S9, c16S10, c16D0, e0, rs]
        have hb6 : Below w6.heap.size w6 w6.drew := (Below.refl _ w6).drew
        refine ⟨⟨by omega, by omega⟩, Ret.mono (rfull_ok (hl6.below hb6 (by decide)) (hdv.below hb6 (by decide)) gi.len hn) ?_⟩
        rintro _ _ ⟨rfl, rfl⟩
        have s7 := s6.drew
        have tk7 : (Q.map rsP).take (i + 1) = (Q.map rsP).take i ++ [(d, s)] := by
          rw [List.take_succ_eq_append_getElem (by rw [List.length_map]; exact hlt), List.getElem_map, hri]; rfl
        cases hfu : fullP l d with
        | false =>
          simp (disch := first | omega | exact okFill_t rfl | exact okSize_t rfl | exact fun h => h | (simp only [World.size_alloc, World.size_drew, World.size_setCell, size_fill, bytesW]; omega)) only [go_sem, ↓reduceIte, reduceCtorEq, Nat.reduceBEq, Nat.reduceEqDiff, Nat.reduceAdd, Nat.reduceMul, Int.reduceNe, Int.reduceEq, Int.reduceLT, Int.reduceLE, Int.reduceNeg, Int.reduceAdd, Int.reduceSub, Int.reduceMul, Int.reduceToNat, beq_self_eq_true, c16, c16S0, c16S1, c16S2, c16L0, c16S3, c16S4, c16S5, c16S6, c16S7, c16S8, c16S9, c16S10, c16D0]
          refine ⟨⟨by omega, by omega⟩, (i + 1, .slice xa X.length xc, X), rfl, ⟨s7, by simp only; omega, hX, ?_⟩, by simp only; omega⟩
          simp only
          rw [tk7, List.filter_append, List.map_append, eX]
          simp [hfu]
        | true =>
          have e1' : w6.drew.cell? ⟨g, i * 2 + 1, none⟩ = some (.slice sa s.length sc) := e1
          have z6 := s6.rules 1 rfl
          have lz := (s6.low 1 rfl).2
          have lg' : g < w6.drew.heap.size := lg
          simp (disch := first | omega | exact okFill_t rfl | exact okSize_t rfl | exact fun h => h | (simp only [World.size_alloc, World.size_drew, World.size_setCell, size_fill, bytesW]; omega)) only [go_sem, ↓reduceIte, reduceCtorEq, Nat.reduceBEq, Nat.reduceEqDiff, Nat.reduceAdd, Nat.reduceMul, Int.reduceNe, Int.reduceEq, Int.reduceLT, Int.reduceLE, Int.reduceNeg, Int.reduceAdd, Int.reduceSub, Int.reduceMul, Int.reduceToNat, beq_self_eq_true, c16, c16S0, c16S1, c16S2, c16L0, c16S3, c16S4, c16S5, c16S6, c16S7, c16S8, c16S9, c16S10, c16D0]
          refine c16draw1 (Chg (fun _ => False) _) (Chg.refl _ _) ?_
          have hgz : g ≠ z := fun e => s6.ne 1 3 rfl rfl (by decide) (k := z) rfl (by rw [e]; rfl)
          simp (disch := first | omega | exact okFill_t rfl | exact okSize_t rfl | exact fun h => h | (simp only [World.size_alloc, World.size_drew, World.size_setCell, size_fill, bytesW]; omega)) only [go_sem, ↓reduceIte, reduceCtorEq, Nat.reduceBEq, Nat.reduceEqDiff, Nat.reduceAdd, Nat.reduceMul, Int.reduceNe, Int.reduceEq, Int.reduceLT, Int.reduceLE, Int.reduceNeg, Int.reduceAdd, Int.reduceSub, Int.reduceMul, Int.reduceToNat, beq_self_eq_true, c16, c16S0, c16S1, c16S2, c16L0, c16S3, c16S4, c16S5, c16S6, c16S7, c16S8, c16S9, c16S10, c16D1, e1, z6]
          refine ⟨⟨by omega, by omega⟩, ?_⟩
          refine bsW_ones ty25mkI rfl rfl (by decide) (by decide) (by intro v hv; rw [List.mem_singleton] at hv; subst hv; rfl) ?_
          simp (disch := first | omega | exact okFill_t rfl | exact okSize_t rfl | exact fun h => h | (simp only [World.size_alloc, World.size_drew, World.size_setCell, size_fill, bytesW]; omega)) only [go_sem, ↓reduceIte, reduceCtorEq, Nat.reduceBEq, Nat.reduceEqDiff, Nat.reduceAdd, Nat.reduceMul, Int.reduceNe, Int.reduceEq, Int.reduceLT, Int.reduceLE, Int.reduceNeg, Int.reduceAdd, Int.reduceSub, Int.reduceMul, Int.reduceToNat, beq_self_eq_true, c16, c16S0, c16S1, c16S2, c16L0, c16S3, c16S4, c16S5, c16S6, c16S7, c16S8, c16S9, c16S10, c16D1]
          have hx : Rd (w6.drew.drew.alloc (.cells #[.slice sa s.length sc] 36)) 1 (.slice (some ⟨w6.drew.drew.heap.size, 0, none⟩) 1 1) 1 [.slice sa s.length sc] := rd_new (n := 1) (cs := #[.slice sa s.length sc]) rfl
          have s8 := (s7.drew.alloc' (.cells #[.slice sa s.length sc] 36))
          refine ⟨Chg.of_below ((Below.refl _ _).alloc (Nat.le_refl _) _), s8.append 0 rfl ty25mkI rfl (by decide) hx (by intro v hv; rw [List.mem_singleton] at hv; subst hv; rfl) (by omega) (by omega) ?_⟩
          intro v9 w9 s9 c9
          simp only [List.set_cons_zero] at s9
          obtain ⟨a9, d9, rfl, _⟩ := own_slice (s9.row 0 rfl)
          have z9 := s9.rules 1 rfl
          simp (disch := first | omega | exact okFill_t rfl | exact okSize_t rfl | exact fun h => h | (simp only [World.size_alloc, World.size_drew, World.size_setCell, size_fill, bytesW]; omega)) only [go_sem, ↓reduceIte, reduceCtorEq, Nat.reduceBEq, Nat.reduceEqDiff, Nat.reduceAdd, Nat.reduceMul, Int.reduceNe, Int.reduceEq, Int.reduceLT, Int.reduceLE, Int.reduceNeg, Int.reduceAdd, Int.reduceSub, Int.reduceMul, Int.reduceToNat, beq_self_eq_true, c16, c16S0, c16S1, c16S2, c16L0, c16S3, c16S4, c16S5, c16S6, c16S7, c16S8, c16S9, c16S10, c16D1, z9]
          have s10 := s9.set 1 rfl 1 (.slice a9 (X.length + 1) d9)
          simp only [List.set_cons_zero, List.set_cons_succ] at s10
          have ex : X.length + 1 = (X ++ [((Value.slice sa s.length sc : Value), s)]).length := by simp
          have ey : X.map Prod.fst ++ [Value.slice sa s.length sc] = (X ++ [((Value.slice sa s.length sc : Value), s)]).map Prod.fst := by simp
          rw [ex, ey] at s10
          rw [ex]
          refine ⟨⟨by omega, by omega⟩, (i + 1, .slice a9 (X ++ [((Value.slice sa s.length sc : Value), s)]).length d9, X ++ [((Value.slice sa s.length sc : Value), s)]), rfl, ⟨s10, by simp only; omega, fun p hp => ?_, ?_⟩, by simp only; omega⟩
          · rcases List.mem_append.1 hp with hp | hp
            · exact hX p hp
            · rw [List.mem_singleton] at hp; subst hp; exact di.1
          · simp only
            rw [tk7, List.filter_append, List.map_append, List.map_append, eX]
            simp [hfu]
      · have hlt' : ¬ (i : Int) < Q.length := by omega
        simp (disch := first | omega | exact okFill_t rfl | exact okSize_t rfl | exact fun h => h | (simp only [World.size_alloc, World.size_drew, World.size_setCell, size_fill, bytesW]; omega)) only [go_sem, ↓reduceIte, reduceCtorEq, Nat.reduceBEq, Nat.reduceEqDiff, Nat.reduceAdd, Nat.reduceMul, Int.reduceNe, Int.reduceEq, Int.reduceLT, Int.reduceLE, Int.reduceNeg, Int.reduceAdd, Int.reduceSub, Int.reduceMul, Int.reduceToNat, beq_self_eq_true, c16, c16S0, c16S1, c16S2, c16L0, c16S3, c16S5, c16S6, c16S7, c16S8, c16S9, c16S10, c16L0, hlt']
        have hD6 := s6.inv (Inv.vs D) (by simp)
        have hXr : RowS w6 (.slice xa X.length xc) X := ⟨Rd.of_own (s6.row 0 rfl), fun p hp => hD6.1 p (hX p hp)⟩
        have eX' : X.map Prod.snd = ((Q.map rsP).filter fun p => fullP l p.1).map Prod.snd := by
          rw [eX, List.take_of_length_le (by rw [List.length_map]; omega)]
        have hXo : ∀ p ∈ X, OkS p.2 := fun p hp => by
          have : p.2 ∈ X.map Prod.snd := List.mem_map.2 ⟨p, hp, rfl⟩
          rw [eX'] at this
          obtain ⟨q, hq, e⟩ := List.mem_map.1 this
          obtain ⟨t, ht, rfl⟩ := List.mem_map.1 (List.mem_filter.1 hq).1
          rw [← e]
          exact (gQ t ht).okS (by omega)
        have z6 := s6.rules 1 rfl
        simp (disch := first | omega | exact okFill_t rfl | exact okSize_t rfl | exact fun h => h | (simp only [World.size_alloc, World.size_drew, World.size_setCell, size_fill, bytesW]; omega)) only [go_sem, ↓reduceIte, reduceCtorEq, Nat.reduceBEq, Nat.reduceEqDiff, Nat.reduceAdd, Nat.reduceMul, Int.reduceNe, Int.reduceEq, Int.reduceLT, Int.reduceLE, Int.reduceNeg, Int.reduceAdd, Int.reduceSub, Int.reduceMul, Int.reduceToNat, beq_self_eq_true, c16, c16S0, c16S1, c16S2, c16L0, c16S3, c16S4, c16S5, c16S6, c16S7, c16S8, c16S9, c16S10, z6]
        refine Ret.mono (sorted_ok _ X w6 hXr hXo (by omega)) ?_
        rintro xv w7 ⟨⟨V, hV, hVX, hrowV⟩, b7⟩
        have s7 := s6.add b7 (.row xv 36 1 V.length (V.map Prod.fst)) (own_mono hrowV s6.size) (fun k hk => (World.ownsRow.lt hrowV k hk).1)
        obtain ⟨va, vc, rfl, _⟩ := own_slice hrowV
        have z7 := s7.rules 2 rfl
        have q7 := s7.rules 6 rfl
        have lzr : z ≠ rr := fun e => s7.ne 2 6 rfl rfl (by decide) (k := z) rfl (by rw [e]; rfl)
        simp (disch := first | omega | exact okFill_t rfl | exact okSize_t rfl | exact fun h => h | (simp only [World.size_alloc, World.size_drew, World.size_setCell, size_fill, bytesW]; omega)) only [go_sem, ↓reduceIte, reduceCtorEq, Nat.reduceBEq, Nat.reduceEqDiff, Nat.reduceAdd, Nat.reduceMul, Int.reduceNe, Int.reduceEq, Int.reduceLT, Int.reduceLE, Int.reduceNeg, Int.reduceAdd, Int.reduceSub, Int.reduceMul, Int.reduceToNat, beq_self_eq_true, c16, c16S0, c16S1, c16S2, c16L0, c16S3, c16S4, c16S5, c16S6, c16S7, c16S8, c16S9, c16S10, z7, q7]
        have s8 := (s7.set 2 rfl 1 (.slice va V.length vc)).fill 6 rfl (cs := #[.slice ua U.length uc, .slice va V.length vc, .int .i64 Q.length]) rfl
        have eQ : Q.length = (Q.map rsP).length := by simp
        have hD8 := s8.inv (Inv.vs D) (by simp)
        refine ⟨⟨U.map Prod.snd, some (Q.map rsP), hU, by rw [hU.one hU0]; exact hR, .slice ua U.length uc, .slice va V.length vc, U, V, by rw [← eQ], ⟨Rd.of_own (s8.row 3 rfl), fun p hp => (hE.rd p (hUE p hp)).below s8.bel (by decide)⟩, rfl, ⟨Rd.of_own (s8.row 0 rfl), fun p hp => hD8.1 p (hX p (hVX p hp))⟩, ?_⟩, s8.bel⟩
        rw [← eX']; exact hV
  simp (disch := first | omega | exact okFill_t rfl | exact okSize_t rfl | exact fun h => h | (simp only [World.size_alloc, World.size_drew, World.size_setCell, size_fill, bytesW]; omega)) only [go_sem, ↓reduceIte, reduceCtorEq, Nat.reduceBEq, Nat.reduceEqDiff, Nat.reduceAdd, Nat.reduceMul, Int.reduceNe, Int.reduceEq, Int.reduceLT, Int.reduceLE, Int.reduceNeg, Int.reduceAdd, Int.reduceSub, Int.reduceMul, Int.reduceToNat, beq_self_eq_true, c16, c16S0, c16S1, c16S2, c16L0, c16S3, c16S4, c16S5, c16S6, c16S7, c16S9, c16S10, hn']
  refine ⟨fun h0 => ?_, fun h0 => ⟨fun h1 => ?_, fun h1 => ?_⟩⟩
  · have e : b = -1 := by rw [hbd, if_pos h0]
    rw [e] at key; exact key
  · have e : b = 32768 := by rw [hbd, if_neg (by omega)]; omega
    rw [e] at key; exact key
  · have e : b = budget := by rw [hbd, if_neg (by omega)]; omega
    rw [e] at key; exact key
end Go.Proofs.Ytbeoedgoikcbpaa
