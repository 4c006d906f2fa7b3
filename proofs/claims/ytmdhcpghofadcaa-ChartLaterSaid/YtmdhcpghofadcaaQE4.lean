/- Texts put together by program. -/
import Derived.Test.YtmdhcpghofadcaaQE3
namespace Go.Proofs.Ytmdhcpghofadcaa
set_option linter.unusedSimpArgs false
set_option linter.unusedVariables false
set_option maxRecDepth 100000
open Go Go.Ann Go.RowKit Go.WideShapes Go.Shelf
def segsOf (x : Seg) : List Seg := x.ops.foldl (cutStep segQ fun _ => (x.obj, x.kind)) []
def objL (s : Sc) (q : Seg × List Seg) : List UInt8 := [111, 98, 106, 101, 99, 116, 32] ++ numL q.1.obj ++ [10] ++ linesL s (q.2.map Seg.ops) ++ (headL [] ++ rulerL s (segsOf q.1) ++ [10])
def objsL (s : Sc) (P : List (Seg × List Seg)) : List UInt8 := P.flatMap (objL s)
def ObjR (l : List OpT) (width : Int) (u : Value) : Prop := (¬ (8 ≤ width ∧ width ≤ 200) ∧ u = .tuple #[.string (ofL []), .int .i64 1]) ∨ ((8 ≤ width ∧ width ≤ 200) ∧ ∃ P : List (Seg × List Seg), ByObj l (P.map Prod.fst) ∧ (∀ q ∈ P, ByProc q.1.ops q.2) ∧ u = .tuple #[.string (ofL (objsL (scOf l width.toNat) P)), .int .i64 0])
theorem obj_in {l : List OpT} {acc : List Seg} (h : ByObj l acc) {x : Seg} (hx : x ∈ acc) : (∀ o ∈ x.ops, o ∈ l ∧ o.Object = x.obj) ∧ x.ops ≠ [] ∧ x.ops.length ≤ l.length ∧ x.ops.Pairwise fun a b => ¬ earI b a < 0 := by
  have h1 : ∀ o ∈ x.ops, o ∈ l ∧ o.Object = x.obj := fun o ho => by
    have := (h.sorts x hx).1.mem_iff.1 ho
    unfold ofObj at this
    rw [List.mem_filter, decide_eq_true_eq] at this
    exact this
  obtain ⟨o, r, e, _⟩ := h.kind x hx
  refine ⟨h1, by rw [e]; simp, ?_, (h.sorts x hx).2⟩
  have := (h.sorts x hx).1.length_eq
  have := ofObj_len x.obj l
  omega
theorem obj_few {l : List OpT} {acc : List Seg} (h : ByObj l acc) : acc.length ≤ l.length := by
  have hn : (acc.map Seg.obj).Nodup := by
    unfold List.Nodup
    rw [List.pairwise_map]
    exact h.up.imp fun h => by omega
  have hs : ∀ x ∈ acc.map Seg.obj, x ∈ l.map OpT.Object := fun x hx => by
    obtain ⟨s, hs, rfl⟩ := List.mem_map.1 hx
    obtain ⟨h1, h2, _, _⟩ := obj_in h hs
    obtain ⟨o, r, e⟩ := List.exists_cons_of_ne_nil h2
    have := h1 o (by rw [e]; exact List.mem_cons_self)
    rw [← this.2]
    exact List.mem_map_of_mem this.1
  have key : ∀ (D d : List Int), D.Nodup → (∀ x ∈ D, x ∈ d) → D.length ≤ d.length := by
    intro D
    induction D with
    | nil => intro d _ _; exact Nat.zero_le _
    | cons a D ih =>
      intro d nd hs
      rw [List.nodup_cons] at nd
      have h1 : ∀ x ∈ D, x ∈ d.erase a := fun x hx => (List.mem_erase_of_ne (fun e => nd.1 (by rw [← e]; exact hx))).2 (hs x (List.mem_cons_of_mem _ hx))
      have := ih _ nd.2 h1
      have ha := hs a (List.mem_cons_self ..)
      rw [List.length_erase_of_mem ha] at this
      have := List.length_pos_of_mem ha
      rw [List.length_cons]; omega
  have := key _ _ hn hs
  simpa using this
theorem obj_unique {l : List OpT} (hp : Pure l) {width : Int} {u v : Value} (hu : ObjR l width u) (hv : ObjR l width v) : u = v := by
  rcases hu with ⟨h1, rfl⟩ | ⟨h1, P, hP, hq, rfl⟩
  · rcases hv with ⟨_, rfl⟩ | ⟨h2, _⟩
    · rfl
    · exact absurd h2 h1
  · rcases hv with ⟨h2, _⟩ | ⟨_, P', hP', hq', rfl⟩
    · exact absurd h1 h2
    · have e := byObj_unique hp hP hP'
      have : P = P' := by
        have hlen : P.length = P'.length := by have := congrArg List.length e; simpa using this
        refine List.ext_getElem hlen fun i h1 h2 => ?_
        have ei : P[i].1 = P'[i].1 := by
          have := congrArg (fun l : List Seg => l[i]?) e
          simpa [h1, h2] using this
        have hx := List.mem_map_of_mem (f := Prod.fst) (List.getElem_mem h1)
        have hpure : Pure P[i].1.ops := fun a ha b hb => hp a ((obj_in hP hx).1 a ha).1 b ((obj_in hP hx).1 b hb).1
        have hb := hq' _ (List.getElem_mem h2)
        rw [← ei] at hb
        exact Prod.ext ei (byProc_unique hpure (hq _ (List.getElem_mem h1)) hb)
      rw [this]
theorem segs_in {s : Sc} {x : Seg} (hl : x.ops.length ≤ 100) (hw : ∀ o ∈ x.ops, o.wf) (hg : ∀ o ∈ x.ops, OpG o) (hh : ∀ o ∈ x.ops, s.has o) : (segsOf x).length ≤ 100 ∧ ∀ y ∈ segsOf x, SegIn s y := by
  have hne := cut_ne segQ (fun _ => (x.obj, x.kind)) x.ops [] (fun s h => by cases h)
  have hfl := cut_flat segQ (fun _ => (x.obj, x.kind)) x.ops []
  simp only [List.flatMap_nil, List.nil_append] at hfl
  refine ⟨?_, fun y hy => ?_⟩
  · have := segs_len _ hne
    rw [hfl] at this
    exact Nat.le_trans this hl
  · have hsub : ∀ o ∈ y.ops, o ∈ x.ops := fun o ho => by rw [← hfl]; exact List.mem_flatMap.2 ⟨y, hy, ho⟩
    refine ⟨hne y hy, ?_, fun o ho => hw o (hsub o ho), fun o ho => hg o (hsub o ho), fun o ho => hh o (hsub o ho)⟩
    have hfl' : (segsOf x).flatMap Seg.ops = x.ops := hfl
    have := seg_len _ y hy
    rw [hfl'] at this
    omega
theorem objL_len {s : Sc} (hs : s.ok) {q : Seg × List Seg} (h0 : 0 ≤ q.1.obj) (h1 : q.1.obj ≤ 1023) (hq : q.2.length ≤ 100) (hp : ∀ p ∈ q.2.map Seg.ops, 0 ≤ procOf p ∧ procOf p ≤ 1023) : (objL s q).length ≤ 30000 := by
  have h2 := proc_len h0 h1
  have h3 := linesL_len (s := s) hp
  have hwd := hs.wd1
  have h4 : (rulerL s (segsOf q.1)).length = s.wd := bytesF_len _ _
  have h5 : (q.2.map Seg.ops).length * (8 + s.wd) ≤ 100 * 208 := by rw [List.length_map]; exact Nat.mul_le_mul hq (by omega)
  unfold objL
  simp only [List.length_append, List.length_cons, List.length_nil, headL_len (l := []) (by decide)]
  omega
theorem objsL_len {s : Sc} : ∀ {P : List (Seg × List Seg)}, (∀ q ∈ P, (objL s q).length ≤ 30000) → (objsL s P).length ≤ P.length * 30000
  | [], _ => by simp [objsL]
  | q :: P, h => by
    have h1 := h q List.mem_cons_self
    have ih := objsL_len (P := P) fun q hq => h q (List.mem_cons_of_mem _ hq)
    have e : objsL s (q :: P) = objL s q ++ objsL s P := by simp [objsL]
    rw [e, List.length_append, List.length_cons, Nat.add_mul]; omega
theorem objsL_snoc (s : Sc) (P : List (Seg × List Seg)) (q : Seg × List Seg) : objsL s (P ++ [q]) = objsL s P ++ objL s q := by
  simp [objsL, List.flatMap_append]
def frzB (w1 : World) (b : Nat) : Inv where
  holds w' := ∀ k, k < w1.heap.size → k ≠ b → w'.heap[k]? = w1.heap[k]?
  foot k := k < w1.heap.size ∧ k ≠ b
  loc w w' h hs := fun k h1 h2 => (hs k ⟨h1, h2⟩).trans (h k h1 h2)
theorem rd_ne {α : Type} {enc : α → List Value} {sz : Nat} (hk : ∀ x, (enc x).length = sz) (h3 : 3 ≤ sz) {w : World} {v : Value} {xs : List α} (h : RdS w sz enc v xs) {b : Nat} {cs : Array Value} {t : TypeId} (hb : Blk w b cs t) (hc : cs.size = 2) {k : Nat} (hf : slFoot v k) : k ≠ b := by
  rintro rfl
  obtain ⟨a, n, c, rfl, hn, rfl⟩ := hf
  obtain ⟨a', c', e, _⟩ := h.form
  simp only [Value.slice.injEq] at e
  obtain ⟨_, rfl, _⟩ := e
  have hlt : 0 < xs.length := by omega
  have := (h.elt hk (by omega) hlt).2 2 (by decide) (by omega)
  rw [hb.cell, Array.getElem?_eq_none (by omega)] at this
  rw [List.getElem?_eq_getElem (by rw [hk]; omega)] at this
  cases this
theorem frz_rd {α : Type} {enc : α → List Value} {sz : Nat} (hk : ∀ x, (enc x).length = sz) (h3 : 3 ≤ sz) {w w' : World} {v : Value} {xs : List α} (h : RdS w sz enc v xs) {b : Nat} {cs : Array Value} {t : TypeId} (hb : Blk w b cs t) (hc : cs.size = 2) (hf : (frzB w b).holds w') : RdS w' sz enc v xs :=
  (Inv.rd sz enc v xs).loc w w' h fun k hk' => hf k (h.footLt (by omega) hk') (rd_ne hk h3 h hb hc hk')
theorem segs_foot {w : World} {v : Value} {xs : List Seg} (h : RdR w 3 segR v xs) {b : Nat} {cs : Array Value} {t : TypeId} (hb : Blk w b cs t) (hc : cs.size = 2) : ∀ k, slFoot v k → k < w.heap.size ∧ k ≠ b := by
  rintro k ⟨a, n, c, rfl, hn, rfl⟩
  obtain ⟨a', c', e, _⟩ := h.form
  simp only [Value.slice.injEq] at e
  obtain ⟨_, rfl, _⟩ := e
  have hlt : 0 < xs.length := by omega
  refine ⟨h.blt (by decide) hlt, ?_⟩
  rintro rfl
  obtain ⟨c3, h1, _, _, h2⟩ := h.elt (by decide) hlt
  have := h2.2 2 (by decide) (by decide)
  rw [hb.cell, Array.getElem?_eq_none (by omega), List.getElem?_eq_getElem (by omega)] at this
  cases this
theorem frz_segs {w w' : World} {v : Value} {xs : List Seg} (h : RdR w 3 segR v xs) {b : Nat} {cs : Array Value} {t : TypeId} (hb : Blk w b cs t) (hc : cs.size = 2) (hf : (frzB w b).holds w') : RdR w' 3 segR v xs := by
  have hfoot := segs_foot h hb hc
  obtain ⟨cc, h1, h2, h3⟩ := h
  refine ⟨cc, h1, fun j c x hj hx => ?_, Rd.loc h3 fun k hk => hf k (hfoot k hk).1 (hfoot k hk).2⟩
  obtain ⟨h4, v', rfl, h5, h6⟩ := h2 j c x hj hx
  exact ⟨h4, v', rfl, frz_rd OpT.len (by decide) h5 hb hc hf, h6⟩
end Go.Proofs.Ytmdhcpghofadcaa

namespace Go.Proofs.Ytmdhcpghofadcaa
set_option linter.unusedSimpArgs false
set_option linter.unusedVariables false
set_option maxRecDepth 100000
open Go Go.Ann Go.RowKit Go.WideShapes Go.Shelf
section
variable {va : Value} {l : List OpT} {w : World} {s : Sc}
theorem objs_ok (h : RdS w 11 OpT.enc va l) (hG : Good l) (width : Int) : Ret Try.prog 18 [va, .int .i64 width] w fun u w' => ObjR l width u ∧ Below w.heap.size w w' := by
  have hh := hG.h
  refine ent18 _ _ _ _ ?_
  simp (disch := first | omega | exact okFill_t rfl | exact okSize_t rfl | exact fun h => h | (simp only [World.size_alloc, World.size_drew, World.size_setCell, size_fill, bytesW]; omega)) only [go_sem, c18, c18S0, c18S1, c18L0, c18S2, c18S3, c18S4, c18S5, c18S6, c18L1, c18S7, c18S8, c18S9, c18S10]
  refine ⟨fun h1 => ⟨fun h2 => ⟨.inl ⟨by omega, rfl⟩, Below.refl _ _⟩, fun h2 => ?_⟩, fun h1 => ⟨.inl ⟨by omega, rfl⟩, Below.refl _ _⟩⟩
  obtain ⟨wd, rfl⟩ : ∃ wd : Nat, width = wd := ⟨width.toNat, by omega⟩
  obtain ⟨hs, hho⟩ := scOf_ok hh.g (show 8 ≤ wd by omega) (show wd ≤ 200 by omega)
  simp (disch := first | omega | exact okFill_t rfl | exact okSize_t rfl | exact fun h => h | (simp only [World.size_alloc, World.size_drew, World.size_setCell, size_fill, bytesW]; omega)) only [go_sem, c18, c18S0, c18S1, c18L0, c18S2, c18S3, c18S4, c18S5, c18S6, c18L1, c18S7, c18S8, c18S9, c18S11]
  refine Ret.mono (over_ok h hh.len hh.wf hh.g wd (by omega)) ?_
  rintro _ w2 ⟨rfl, b2⟩
  obtain ⟨sc, hsc⟩ : ∃ sc, sc = scOf l wd := ⟨_, rfl⟩
  have hwde : sc.wd = wd := by rw [hsc]; rfl
  rw [← hsc] at hs hho ⊢
  obtain ⟨hl, hw, hg⟩ := hh
  have s1 := ((((St.start (W0 := w)).call b2).box sc.enc.toArray 51).box #[.pointer none, .slice none 0 0] 56).nilRow 5 1
  simp only [World.size_alloc] at s1
  have asc := sc.at_
  simp (disch := first | omega | exact okFill_t rfl | exact okSize_t rfl | exact fun h => h | (simp only [World.size_alloc, World.size_drew, World.size_setCell, size_fill, bytesW]; omega)) only [go_sem, c18, c18S0, c18S1, c18L0, c18S2, c18S3, c18S4, c18S5, c18S6, c18L1, c18S8, c18S10, c18S11]
  refine ⟨sc.len.symm, ?_⟩
  generalize w2.heap.size = b6 at s1 ⊢
  generalize (w2.alloc (.cells sc.enc.toArray 51)).alloc (.cells #[.pointer none, .slice none 0 0] 56) = w3 at s1 ⊢
  obtain ⟨b7, hb7⟩ : ∃ b, b = b6 + 1 := ⟨_, rfl⟩
  rw [← hb7] at s1 ⊢
  have s2 : St w w3 (fun _ => False) (BuL b7 (.pointer none) (.slice none 0 0) [] ++ [.blk b6 sc.enc.toArray 51]) [] := s1.perm (List.Perm.swap ..)
  refine Ret.mono (objects_ok va l w3 (h.below s2.bel (by decide)) hl) ?_
  rintro u w4 ⟨⟨r0, hr0, hu⟩, b4⟩
  have hby : ByObj l (r0.foldl (cutStep objQ objMk) []) := objects_by hr0
  have hu : RdR w4 3 segR u (r0.foldl (cutStep objQ objMk) []) := hu
  generalize r0.foldl (cutStep objQ objMk) [] = acc at hby hu
  have s3 := s2.call b4
  have hB7 := s3.blk 0 rfl
  have hB6 := s3.blk 2 rfl
  have hb67 : b6 ≠ b7 := by omega
  have s4 : St w w4 (fun _ => False) (BuL b7 (.pointer none) (.slice none 0 0) []) [frzB w4 b7] := by
    refine (s3.sub (List.sublist_append_left _ _)).keep (frzB w4 b7) (fun k _ _ => rfl) fun k hk => ⟨hk.1, fun h => h, fun r hr e => ?_⟩
    simp only [BuL, List.mem_cons, List.not_mem_nil, or_false] at hr
    rcases hr with rfl | rfl
    · simp only [Res.own, Option.some.injEq] at e
      exact hk.2 e.symm
    · simp [Res.own, Value.ownBlock] at e
  have low6 := (s3.low 2 rfl).2
  have frz6 : ∀ w', (frzB w4 b7).holds w' → Blk w' b6 sc.enc.toArray 51 := fun w' hf => (hf b6 low6 hb67).trans hB6
  clear s1 s2 s3
  obtain ⟨pu, cu, rfl, _⟩ := hu.form
  have few := obj_few hby
  simp (disch := first | omega | exact okFill_t rfl | exact okSize_t rfl | exact fun h => h | (simp only [World.size_alloc, World.size_drew, World.size_setCell, size_fill, bytesW]; omega)) only [go_sem, c18, c18S0, c18S1, c18L0, c18S2, c18S3, c18S4, c18S5, c18S6, c18S7, c18S8, c18S10, c18S11]
  have hpure := hG.pure
  -- every object
  have objFacts : ∀ x ∈ acc, (∀ o ∈ x.ops, o ∈ l ∧ o.Object = x.obj) ∧ x.ops ≠ [] ∧ x.ops.length ≤ l.length ∧ x.ops.Pairwise fun a b => ¬ earI b a < 0 := fun x hx => obj_in hby hx
  refine W_loopU (fun k : Nat => [(24, .int .i64 k)]) (fun k w' => k ≤ acc.length ∧ ∃ P p v, P.map Prod.fst = acc.take k ∧ (∀ q ∈ P, ByProc q.1.ops q.2) ∧ (∀ q ∈ P, (objL sc q).length ≤ 30000) ∧ BuOk b7 p v (objsL sc P) ∧ St w w' (fun _ => False) (BuL b7 p v (objsL sc P)) [frzB w4 b7]) (fun k => acc.length - k) 0 rfl ⟨Nat.zero_le _, [], _, _, rfl, (fun q h => by cases h), (fun q h => by cases h), ⟨.inl rfl, fun _ => rfl⟩, s4⟩ ?_
  clear s4
  rintro k w5 ⟨hk, P, bp, bv, hP1, hP2, hP3, bok, s5⟩
  have hPl : P.length = k := by have := congrArg List.length hP1; rw [List.length_map, List.length_take] at this; omega
  have hol := objsL_len (s := sc) hP3
  have hol2 : (objsL sc P).length ≤ 100 * 30000 := by
    refine Nat.le_trans hol (Nat.mul_le_mul_right _ ?_)
    omega
  by_cases hlt : k < acc.length
  · have hlt' : (k : Int) < acc.length := by omega
    obtain ⟨q, rfl⟩ := hu.ptr (by omega)
    have hu5 := frz_segs hu hB7 rfl (s5.get 0 rfl)
    obtain ⟨_, _, ⟨v, rfl, hv, _⟩, ck, ek5⟩ := hu5.elt (by decide) hlt
    obtain ⟨_, _, ⟨v', rfl, hv4, _⟩, _, ek4⟩ := hu.elt (by decide) hlt
    have hqf := segs_foot hu hB7 rfl q.block ⟨q, _, _, rfl, by omega, rfl⟩
    have hvv : v = v' := by
      have a5 := ek5.2 2 (by decide) (by decide)
      have a4 := ek4.2 2 (by decide) (by decide)
      have e : w5.cell? ⟨q.block, q.off + k * 3 + 2, none⟩ = w4.cell? ⟨q.block, q.off + k * 3 + 2, none⟩ := by
        unfold World.cell?
        rw [s5.get 0 rfl q.block hqf.1 hqf.2]
      rw [a5, a4] at e
      simpa using e
    subst hvv
    obtain ⟨x, hxe⟩ : ∃ x, x = acc[k] := ⟨_, rfl⟩
    have hm : x ∈ acc := by rw [hxe]; exact List.getElem_mem hlt
    rw [← hxe] at hv hv4 ck
    have hvAt : ∀ w', (frzB w4 b7).holds w' → RdS w' 11 OpT.enc v x.ops := fun w' hf => frz_rd OpT.len (by decide) hv4 hB7 rfl hf
    clear ek5 ek4
    obtain ⟨hx1, hx2, hx3, hx4⟩ := objFacts x hm
    have hxw : ∀ o ∈ x.ops, o.wf := fun o ho => hw o (hx1 o ho).1
    have hxg : ∀ o ∈ x.ops, OpG o := fun o ho => hg o (hx1 o ho).1
    have hxh : ∀ o ∈ x.ops, sc.has o := fun o ho => hho o (hx1 o ho).1
    have hx100 : x.ops.length ≤ 100 := by omega
    have hob : 0 ≤ x.obj ∧ x.obj ≤ 1023 := by
      obtain ⟨o, r, e⟩ := List.exists_cons_of_ne_nil hx2
      have ho := hx1 o (by rw [e]; exact List.mem_cons_self)
      rw [← ho.2]
      exact ⟨(hg o ho.1).b0, (hg o ho.1).b1⟩
    have hI : I64 x.obj := by constructor <;> omega
    have hnl := proc_len hob.1 hob.2
    obtain ⟨pv, cv, rfl, _⟩ := hv.form
    simp (disch := first | omega | exact okFill_t rfl | exact okSize_t rfl | exact fun h => h | (simp only [World.size_alloc, World.size_drew, World.size_setCell, size_fill, bytesW]; omega)) only [go_sem, c18, c18S0, c18S1, c18L0, c18S2, c18S3, c18S5, c18S6, c18L1, c18S7, c18S8, c18S10, c18S11, c18L1, hlt', ck]
    have s6 := s5.box #[.int .i64 x.obj, .int .i64 x.kind, .slice pv x.ops.length cv] 69
    generalize w5.heap.size = b9 at s6 ⊢
    generalize w5.alloc (.cells #[.int .i64 x.obj, .int .i64 x.kind, .slice pv x.ops.length cv] 69) = w6 at s6 ⊢
    have s7 : St w w6 (fun _ => False) (BuL b7 bp bv (objsL sc P) ++ [.blk b9 #[.int .i64 x.obj, .int .i64 x.kind, .slice pv x.ops.length cv] 69]) [frzB w4 b7] := s6.perm (List.perm_append_singleton _ _)
    clear s5 s6
    refine ⟨by omega, Ret.mono (digits_ok _ w6 hI) ?_⟩
    rintro _ w7 ⟨rfl, b7'⟩
    have s8 := s7.call b7'
    obtain ⟨T1, hT1⟩ : ∃ T, T = [111, 98, 106, 101, 99, 116, 32] ++ numL x.obj ++ [10] := ⟨_, rfl⟩
    have hT1l : T1.length ≤ 20 := by rw [hT1]; simp only [List.length_append, List.length_cons, List.length_nil]; omega
    simp (disch := first | omega | exact okFill_t rfl | exact okSize_t rfl | exact fun h => h | (simp only [World.size_alloc, World.size_drew, World.size_setCell, size_fill, bytesW]; omega)) only [go_sem, c18, c18S0, c18S1, c18L0, c18S2, c18S3, c18S5, c18S6, c18L1, c18S7, c18S8, c18S10, c18S11]
    refine ⟨by omega, by first | omega | (simp only [List.length_cons, List.length_append]; omega), ?_⟩
    have eT1 : (111 :: 98 :: 106 :: 101 :: 99 :: 116 :: 32 :: (numL x.obj ++ [10]) : List UInt8) = T1 := by rw [hT1]; rfl
    rw [eT1]
    refine Ret.mono (writeS_ok T1 s8 bok (by omega)) ?_
    rintro u9 w9 ⟨bp1, bv1, bok1, s9⟩
    clear s7 s8
    have r9 := s9.rules 2 rfl
    simp (disch := first | omega | exact okFill_t rfl | exact okSize_t rfl | exact fun h => h | (simp only [World.size_alloc, World.size_drew, World.size_setCell, size_fill, bytesW]; omega)) only [go_sem, c18, c18S0, c18S1, c18L0, c18S4, c18S5, c18S6, c18L1, c18S7, c18S8, c18S10, c18S11, r9]
    refine Ret.mono (programs_ok _ x.ops w9 (hvAt _ (s9.get 0 rfl)) hx100) ?_
    rintro u10 w10 ⟨⟨pac, vls, hpac, hP⟩, b10⟩
    have s10 := s9.made b10 (frz w10 w9.heap.size) (fun k _ _ => rfl) fun k hk => hk
    clear s9 r9
    obtain ⟨pu10, cu10, rfl, _⟩ := hP.top.form
    have hvl := hP.len
    have pfew := prog_few hpac
    have hpr : ∀ p ∈ pac.map Seg.ops, 0 ≤ procOf p ∧ procOf p ≤ 1023 := fun p hp => by
      obtain ⟨y, hy, rfl⟩ := List.mem_map.1 hp
      obtain ⟨h1, h2, h3, _⟩ := prog_in hpac hy
      obtain ⟨o, r, e⟩ := List.exists_cons_of_ne_nil h2
      have := h1 o (by rw [e]; exact List.mem_cons_self)
      rw [h3, ← this.2]
      exact ⟨(hxg o this.1).p0, (hxg o this.1).p1⟩
    have hlen : ∀ j, (linesL sc ((pac.take j).map Seg.ops)).length ≤ 100 * 208 := fun j => by
      rw [linesL_len fun q hq => hpr q (by obtain ⟨y, hy, rfl⟩ := List.mem_map.1 hq; exact List.mem_map_of_mem (List.mem_of_mem_take hy)), List.length_map, List.length_take]
      exact Nat.mul_le_mul (by omega) (by omega)
    simp (disch := first | omega | exact okFill_t rfl | exact okSize_t rfl | exact fun h => h | (simp only [World.size_alloc, World.size_drew, World.size_setCell, size_fill, bytesW]; omega)) only [go_sem, c18, c18S0, c18S1, c18S2, c18S4, c18S5, c18S6, c18L1, c18S7, c18S8, c18S10, c18S11]
    refine W_loopU (fun j : Nat => [(38, .int .i64 j)]) (fun j w' => j ≤ pac.length ∧ ∃ p v, BuOk b7 p v (objsL sc P ++ T1 ++ linesL sc ((pac.take j).map Seg.ops)) ∧ St w w' (fun _ => False) (BuL b7 p v (objsL sc P ++ T1 ++ linesL sc ((pac.take j).map Seg.ops)) ++ [.blk b9 #[.int .i64 x.obj, .int .i64 x.kind, .slice pv x.ops.length cv] 69]) [frz w10 w9.heap.size, frzB w4 b7]) (fun j => pac.length - j) 0 (by rw [hvl]; rfl) ⟨Nat.zero_le _, bp1, bv1, by simpa [linesL] using bok1, by simpa [linesL] using s10⟩ ?_
    clear s10 bok1
    rintro j w11 ⟨hj, bp2, bv2, bok2, s11⟩
    have hlj := hlen j
    have htl : (objsL sc P ++ T1 ++ linesL sc ((pac.take j).map Seg.ops)).length ≤ 100 * 30000 + 20 + 100 * 208 := by rw [List.length_append, List.length_append]; omega
    by_cases hjl : j < pac.length
    · have hjl' : (j : Int) < vls.length := by omega
      have hP11 := hP.frz (s11.get 0 rfl)
      obtain ⟨q2, rfl⟩ := hP11.top.ptr (by omega)
      have hjv : j < vls.length := by omega
      obtain ⟨p, hp⟩ : ∃ p, p = pac[j] := ⟨_, rfl⟩
      have hpm : p ∈ pac := by rw [hp]; exact List.getElem_mem hjl
      have et := List.take_succ_eq_append_getElem hjl
      rw [← hp] at et
      obtain ⟨vp, hvpe⟩ : ∃ v, v = vls[j] := ⟨_, rfl⟩
      have hvm : vp ∈ vls := by rw [hvpe]; exact List.getElem_mem hjv
      have cj := (show RdS w11 1 (fun v : Value => [v]) (.slice (some q2) vls.length cu10) vls from hP11.top).at1 (e1 := fun v => v) hjv
      rw [← hvpe] at cj
      have hvq : vls[j]? = some vp := by rw [hvpe]; exact List.getElem?_eq_getElem hjv
      have haq : pac[j]? = some p := by rw [hp]; exact List.getElem?_eq_getElem hjl
      obtain ⟨hvp, hpl100⟩ := hP11.elt j p vp haq hvq
      have e1 : linesL sc ((pac.take (j + 1)).map Seg.ops) = linesL sc ((pac.take j).map Seg.ops) ++ lineL sc p.ops := by rw [et, List.map_append]; exact linesL_snoc _ _ _
      obtain ⟨hi1, hi2, hi3, hi4⟩ := prog_in hpac hpm
      have hpp := hpr p.ops (List.mem_map_of_mem hpm)
      obtain ⟨o, r, e⟩ := List.exists_cons_of_ne_nil hi2
      obtain ⟨pp, cp, rfl, _⟩ := hvp.form
      obtain ⟨pp, rfl⟩ := hvp.ptr (by rw [e]; simp)
      have eo : p.ops[0]'(by rw [e]; simp) = o := by simp [e]
      have ao := o.at
      have hpo : procOf p.ops = o.Proc := by rw [e]; rfl
      have hlen0 : 0 < p.ops.length := by rw [e]; simp
      have hIo : I64 o.Proc := by
        have h0 := (hxg o (hi1 o (by rw [e]; exact List.mem_cons_self)).1)
        have := h0.p0; have := h0.p1
        constructor <;> omega
      have hpl4 := proc_len hpp.1 hpp.2
      rw [hpo] at hpl4
      have fnew : w9.heap.size ≤ pp.block ∧ pp.block < w10.heap.size := ⟨hP.newE _ hvm pp.block ⟨pp, _, _, rfl, by omega, rfl⟩, (hP.elt j p _ haq hvq).1.footLt (by decide) ⟨pp, _, _, rfl, by omega, rfl⟩⟩
      simp (disch := first | omega | exact okFill_t rfl | exact okSize_t rfl | exact fun h => h | (simp only [World.size_alloc, World.size_drew, World.size_setCell, size_fill, bytesW]; omega)) only [go_sem, c18, c18S0, c18S1, c18L0, c18S2, c18S4, c18S5, c18S6, c18L1, c18S7, c18S8, c18S10, c18S11, c18L0, hjl', cj]
      refine ⟨by omega, c18draw0 (Same (fun j => j = b6 ∨ j = pp.block) _) (Same.refl _ _) ?_⟩
      have s12 := s11.drew
      have hP12 := hP.frz (s12.get 0 rfl)
      have hvp12 := (hP12.elt j p _ haq hvq).1
      have e0 := hvp12.elt OpT.len (by decide) hlen0
      rw [eo] at e0
      have r6 := (frz6 _ (s12.get 1 rfl)).rules
      generalize w11.drew = w12 at s12 hP12 hvp12 e0 r6 ⊢
      have e9 : w12.cell? ⟨pp.block, pp.off + 1, none⟩ = some (.int .i64 o.Proc) := by
        have := e0.2 1 (by decide) (by decide)
        simpa [ao] using this
      have sm : ∀ bp' bv' bs' w', St w w' (fun _ => False) (BuL b7 bp' bv' bs' ++ [.blk b9 #[.int .i64 x.obj, .int .i64 x.kind, .slice pv x.ops.length cv] 69]) [frz w10 w9.heap.size, frzB w4 b7] → Same (fun j => j = b6 ∨ j = pp.block) w12 w' := by
        intro bp' bv' bs' w' h' m hm'
        rcases hm' with rfl | rfl
        · exact Eq.trans (frz6 _ (h'.get 1 rfl)) (frz6 _ (s12.get 1 rfl)).symm
        · exact Eq.trans (h'.get 0 rfl _ fnew.1 fnew.2) (s12.get 0 rfl _ fnew.1 fnew.2).symm
      simp (disch := first | omega | exact okFill_t rfl | exact okSize_t rfl | exact fun h => h | (simp only [World.size_alloc, World.size_drew, World.size_setCell, size_fill, bytesW]; omega)) only [go_sem, c18, c18S0, c18S1, c18L0, c18S2, c18S4, c18S5, c18S6, c18L1, c18S7, c18S8, c18S10, c18S11, c18D0, r6, asc, e9]
      refine ⟨by omega, Ret.mono (digits_ok _ w12 hIo) ?_⟩
      rintro _ w13 ⟨rfl, b13⟩
      have s13 := s12.call b13
      simp (disch := first | omega | exact okFill_t rfl | exact okSize_t rfl | exact fun h => h | (simp only [World.size_alloc, World.size_drew, World.size_setCell, size_fill, bytesW]; omega)) only [go_sem, c18, c18S0, c18S1, c18L0, c18S2, c18S4, c18S5, c18S6, c18L1, c18S7, c18S8, c18S10, c18S11, c18D0]
      refine ⟨sm _ _ _ _ s13, by omega, Ret.mono (head_ok (112 :: numL o.Proc) (by rw [List.length_cons]; omega) w13) ?_⟩
      rintro _ w14 ⟨rfl, b14⟩
      have s14 := s13.call b14
      have b1214 := b13.trans (b14.mono b13.size)
      have hhl : (headL (112 :: numL o.Proc)).length = 7 := headL_len (by rw [List.length_cons]; omega)
      simp (disch := first | omega | exact okFill_t rfl | exact okSize_t rfl | exact fun h => h | (simp only [World.size_alloc, World.size_drew, World.size_setCell, size_fill, bytesW]; omega)) only [go_sem, c18, c18S0, c18S1, c18L0, c18S2, c18S4, c18S5, c18S6, c18L1, c18S7, c18S8, c18S10, c18S11, c18D0]
      refine ⟨sm _ _ _ _ s14, Ret.mono (row_ok (hvp12.below b1214 (by decide)) (by omega) (fun y hy => hxw y (hi1 y hy).1) hs (fun y hy => hxh y (hi1 y hy).1)) ?_⟩
      rintro _ w15 ⟨rfl, b15⟩
      have s15 := s14.call b15
      have hrl : (rowL sc p.ops).length = sc.wd := bytesF_len _ _
      have hll : (lineL sc p.ops).length = 8 + sc.wd := lineL_len hpp.1 hpp.2
      have ell : headL (112 :: numL o.Proc) ++ rowL sc p.ops ++ [10] = lineL sc p.ops := by unfold lineL; rw [hpo]
      simp (disch := first | omega | exact okFill_t rfl | exact okSize_t rfl | exact fun h => h | (simp only [World.size_alloc, World.size_drew, World.size_setCell, size_fill, bytesW]; omega)) only [go_sem, c18, c18S0, c18S1, c18L0, c18S2, c18S4, c18S5, c18S6, c18L1, c18S7, c18S8, c18S10, c18S11, c18D0]
      refine ⟨sm _ _ _ _ s15, by omega, by rw [List.length_append]; omega, ?_⟩
      rw [ell]
      refine Ret.mono (writeS_ok (lineL sc p.ops) s15 bok2 (by omega)) ?_
      rintro u16 w16 ⟨bp', bv', bok', s16⟩
      rw [List.append_assoc, ← e1] at bok' s16
      simp (disch := first | omega | exact okFill_t rfl | exact okSize_t rfl | exact fun h => h | (simp only [World.size_alloc, World.size_drew, World.size_setCell, size_fill, bytesW]; omega)) only [go_sem, c18, c18S0, c18S1, c18L0, c18S2, c18S4, c18S5, c18S6, c18L1, c18S7, c18S8, c18S10, c18S11, c18D0]
      exact ⟨sm _ _ _ _ s16, by constructor <;> omega, j + 1, rfl, ⟨hjl, bp', bv', bok', s16⟩, by omega⟩
    · have hjl' : ¬ (j : Int) < vls.length := by omega
      have hjj : j = pac.length := by omega
      subst hjj
      rw [List.take_length] at s11 bok2 htl hlj
      simp (disch := first | omega | exact okFill_t rfl | exact okSize_t rfl | exact fun h => h | (simp only [World.size_alloc, World.size_drew, World.size_setCell, size_fill, bytesW]; omega)) only [go_sem, c18, c18S0, c18S1, c18L0, c18S2, c18S3, c18S4, c18S5, c18S6, c18L1, c18S7, c18S8, c18S10, c18S11, c18L0, hjl']
      refine c18draw1 (Same (fun j => j = b6 ∨ j = b9) _) (Same.refl _ _) ?_
      have s12 := s11.drew
      have r6 := (frz6 _ (s12.get 1 rfl)).rules
      have r9 := s12.rules 2 rfl
      generalize w11.drew = w12 at s12 r6 r9 ⊢
      have sm : ∀ bp' bv' bs' w', St w w' (fun _ => False) (BuL b7 bp' bv' bs' ++ [.blk b9 #[.int .i64 x.obj, .int .i64 x.kind, .slice pv x.ops.length cv] 69]) [frz w10 w9.heap.size, frzB w4 b7] → Same (fun j => j = b6 ∨ j = b9) w12 w' := by
        intro bp' bv' bs' w' h' m hm'
        rcases hm' with rfl | rfl
        · exact Eq.trans (frz6 _ (h'.get 1 rfl)) (frz6 _ (s12.get 1 rfl)).symm
        · exact Eq.trans (h'.blk 2 rfl) (s12.blk 2 rfl).symm
      simp (disch := first | omega | exact okFill_t rfl | exact okSize_t rfl | exact fun h => h | (simp only [World.size_alloc, World.size_drew, World.size_setCell, size_fill, bytesW]; omega)) only [go_sem, c18, c18S0, c18S1, c18L0, c18S2, c18S3, c18S4, c18S5, c18S6, c18L1, c18S7, c18S8, c18S10, c18S11, c18D1, r6, r9, asc]
      refine Ret.mono (head_ok [] (by decide) w12) ?_
      rintro _ w13 ⟨rfl, b13⟩
      have s13 := s12.call b13
      simp (disch := first | omega | exact okFill_t rfl | exact okSize_t rfl | exact fun h => h | (simp only [World.size_alloc, World.size_drew, World.size_setCell, size_fill, bytesW]; omega)) only [go_sem, c18, c18S0, c18S1, c18L0, c18S2, c18S3, c18S4, c18S5, c18S6, c18L1, c18S7, c18S8, c18S10, c18S11, c18D1]
      refine ⟨sm _ _ _ _ s13, Ret.mono (segments_ok x.obj x.kind _ x.ops w13 (hvAt _ (s13.get 1 rfl)) hx100) ?_⟩
      rintro us w14 ⟨⟨l', hl', hus⟩, b14⟩
      have s14 := s13.call b14
      have hxp : Pure x.ops := fun a ha b hb => hpure a (hx1 a ha).1 b (hx1 b hb).1
      have el' : l' = x.ops := sorts_unique hxp hl' ⟨List.Perm.refl _, hx4⟩
      subst el'
      have hus : RdR w14 3 segR us (segsOf x) := hus
      obtain ⟨hsl, hsi⟩ := segs_in hx100 hxw hxg hxh
      simp (disch := first | omega | exact okFill_t rfl | exact okSize_t rfl | exact fun h => h | (simp only [World.size_alloc, World.size_drew, World.size_setCell, size_fill, bytesW]; omega)) only [go_sem, c18, c18S0, c18S1, c18L0, c18S2, c18S3, c18S4, c18S5, c18S6, c18L1, c18S7, c18S8, c18S10, c18S11, c18D1]
      refine ⟨sm _ _ _ _ s14, Ret.mono (ruler_ok hus hsl hs hsi) ?_⟩
      rintro _ w15 ⟨rfl, b15⟩
      have s15 := s14.call b15
      have hrl : (rulerL sc (segsOf x)).length = sc.wd := bytesF_len _ _
      have hhl : (headL []).length = 7 := headL_len (by decide)
      have hscw := hs.wd1
      simp (disch := first | omega | exact okFill_t rfl | exact okSize_t rfl | exact fun h => h | (simp only [World.size_alloc, World.size_drew, World.size_setCell, size_fill, bytesW]; omega)) only [go_sem, c18, c18S0, c18S1, c18L0, c18S2, c18S3, c18S4, c18S5, c18S6, c18L1, c18S7, c18S8, c18S10, c18S11, c18D1]
      have hT3 : (headL [] ++ rulerL sc (segsOf x) ++ [10]).length ≤ 208 := by simp only [List.length_append, List.length_cons, List.length_nil]; omega
      refine ⟨sm _ _ _ _ s15, by omega, by rw [List.length_append]; omega, Ret.mono (writeS_ok (headL [] ++ rulerL sc (segsOf x) ++ [10]) s15 bok2 (by omega)) ?_⟩
      rintro u16 w16 ⟨bp', bv', bok', s16⟩
      have eall : objsL sc P ++ T1 ++ linesL sc (pac.map Seg.ops) ++ (headL [] ++ rulerL sc (segsOf x) ++ [10]) = objsL sc (P ++ [(x, pac)]) := by
        rw [objsL_snoc, hT1]
        unfold objL
        simp only [List.append_assoc]
      rw [eall] at bok' s16
      simp (disch := first | omega | exact okFill_t rfl | exact okSize_t rfl | exact fun h => h | (simp only [World.size_alloc, World.size_drew, World.size_setCell, size_fill, bytesW]; omega)) only [go_sem, c18, c18S0, c18S1, c18L0, c18S2, c18S3, c18S4, c18S5, c18S6, c18L1, c18S7, c18S8, c18S10, c18S11, c18D1]
      have s17 : St w w16 (fun _ => False) (BuL b7 bp' bv' (objsL sc (P ++ [(x, pac)]))) [frzB w4 b7] := (s16.sub (List.sublist_append_left _ _)).inv_sub fun a ha => List.mem_cons_of_mem _ ha
      refine ⟨sm _ _ _ _ s16, by constructor <;> omega, k + 1, rfl, ⟨hlt, P ++ [(x, pac)], bp', bv', ?_, fun q hq => ?_, fun q hq => ?_, bok', s17⟩, by omega⟩
      · rw [List.map_append, hP1, List.take_succ_eq_append_getElem hlt, ← hxe]; rfl
      · rcases List.mem_append.1 hq with hq | hq
        · exact hP2 q hq
        · rw [List.mem_singleton] at hq; subst hq; exact hpac
      · rcases List.mem_append.1 hq with hq | hq
        · exact hP3 q hq
        · rw [List.mem_singleton] at hq; subst hq
          exact objL_len hs hob.1 hob.2 (show pac.length ≤ 100 by omega) hpr
  · have hlt' : ¬ (k : Int) < acc.length := by omega
    have hkk : k = acc.length := by omega
    subst hkk
    rw [List.take_length] at hP1
    simp (disch := first | omega | exact okFill_t rfl | exact okSize_t rfl | exact fun h => h | (simp only [World.size_alloc, World.size_drew, World.size_setCell, size_fill, bytesW]; omega)) only [go_sem, c18, c18S0, c18S1, c18L0, c18S2, c18S3, c18S4, c18S5, c18S6, c18L1, c18S7, c18S8, c18S9, c18S10, c18S11, c18L1, hlt']
    have s5' : St w w5 (fun _ => False) (BuL b7 bp bv (objsL sc P) ++ []) [frzB w4 b7] := by rw [List.append_nil]; exact s5
    refine Ret.mono (stringS_ok s5' bok (by omega)) ?_
    rintro _ w6 ⟨rfl, s6⟩
    simp (disch := first | omega | exact okFill_t rfl | exact okSize_t rfl | exact fun h => h | (simp only [World.size_alloc, World.size_drew, World.size_setCell, size_fill, bytesW]; omega)) only [go_sem, c18, c18S0, c18S1, c18L0, c18S2, c18S3, c18S4, c18S5, c18S6, c18L1, c18S7, c18S8, c18S9, c18S10, c18S11]
    refine ⟨.inr ⟨⟨h1, h2⟩, P, by rw [hP1]; exact hby, hP2, by rw [Int.toNat_natCast, ← hsc]⟩, s6.bel⟩
end
end Go.Proofs.Ytmdhcpghofadcaa

namespace Go.Proofs.Ytmdhcpghofadcaa
set_option linter.unusedSimpArgs false
set_option linter.unusedVariables false
set_option maxRecDepth 100000
open Go Go.Ann Go.RowKit Go.WideShapes Go.Shelf
def shO (t : Int) (o : OpT) : OpT := { o with Invoke := o.Invoke + t, Return := if o.Done = true then o.Return + t else o.Return }
def shS (t : Int) (x : Seg) : Seg := ⟨x.obj, x.kind, x.ops.map (shO t)⟩
section
variable {t : Int} {l : List OpT} {acc : List Seg} {s s' : Sc}
theorem sh_ear (a b : OpT) : (earI (shO t a) (shO t b) < 0) = (earI a b < 0) := by
  rw [ear_neg, ear_neg]
  show (a.Invoke + t < b.Invoke + t ∨ a.Invoke + t = b.Invoke + t ∧ a.ID < b.ID) = _
  apply propext
  omega
theorem sh_sorts {l r : List OpT} (h : Sorts earI l r) : Sorts earI (l.map (shO t)) (r.map (shO t)) := by
  refine ⟨h.1.map _, ?_⟩
  rw [List.pairwise_map]
  exact h.2.imp fun h => by rw [sh_ear]; exact h
theorem sh_ofProc (x : Int) : ofProc x (l.map (shO t)) = (ofProc x l).map (shO t) := by
  unfold ofProc
  rw [List.filter_map]
  rfl
theorem sh_ofObj (x : Int) : ofObj x (l.map (shO t)) = (ofObj x l).map (shO t) := by
  unfold ofObj
  rw [List.filter_map]
  rfl
theorem sh_byProc (h : ByProc l acc) : ByProc (l.map (shO t)) (acc.map (shS t)) := by
  refine ⟨?_, fun x hx => ?_, fun x hx => ?_, fun o ho => ?_⟩
  · rw [List.pairwise_map]; exact h.up
  · obtain ⟨y, hy, rfl⟩ := List.mem_map.1 hx
    show Sorts earI (ofProc y.obj _) _
    rw [sh_ofProc]
    exact sh_sorts (h.sorts y hy)
  · obtain ⟨y, hy, rfl⟩ := List.mem_map.1 hx
    obtain ⟨o, r, e, hk⟩ := h.kind y hy
    exact ⟨shO t o, r.map (shO t), by show y.ops.map _ = _; rw [e]; rfl, hk⟩
  · obtain ⟨p, hp, rfl⟩ := List.mem_map.1 ho
    obtain ⟨y, hy, e⟩ := h.all p hp
    exact ⟨shS t y, List.mem_map_of_mem hy, e⟩
theorem sh_byObj (h : ByObj l acc) : ByObj (l.map (shO t)) (acc.map (shS t)) := by
  refine ⟨?_, fun x hx => ?_, fun x hx => ?_, fun o ho => ?_⟩
  · rw [List.pairwise_map]; exact h.up
  · obtain ⟨y, hy, rfl⟩ := List.mem_map.1 hx
    show Sorts earI (ofObj y.obj _) _
    rw [sh_ofObj]
    exact sh_sorts (h.sorts y hy)
  · obtain ⟨y, hy, rfl⟩ := List.mem_map.1 hx
    obtain ⟨o, r, e, hk⟩ := h.kind y hy
    exact ⟨shO t o, r.map (shO t), by show y.ops.map _ = _; rw [e]; rfl, hk⟩
  · obtain ⟨p, hp, rfl⟩ := List.mem_map.1 ho
    obtain ⟨y, hy, e⟩ := h.all p hp
    exact ⟨shS t y, List.mem_map_of_mem hy, e⟩
structure Sft (t : Int) (s s' : Sc) : Prop where
  lo : s'.lo = s.lo + t
  hi : s'.hi = s.hi + t
  wd : s'.wd = s.wd
theorem Sft.col (h : Sft t s s') (x : Int) : s'.col (x + t) = s.col x := by
  unfold Sc.col
  rw [h.lo, h.hi, h.wd]
  by_cases e : s.hi = s.lo
  · rw [if_pos e, if_pos (by omega)]
  · rw [if_neg e, if_neg (by omega)]
    rw [show min (x + t) (s.hi + t) - (s.lo + t) = min x s.hi - s.lo by omega, show s.hi + t - (s.lo + t) = s.hi - s.lo by omega]
theorem Sft.a (h : Sft t s s') (o : OpT) : s'.a (shO t o) = s.a o := by
  unfold Sc.a
  show (s'.col (o.Invoke + t)).toNat = _
  rw [h.col]
theorem Sft.b (h : Sft t s s') (o : OpT) : s'.b (shO t o) = s.b o := by
  unfold Sc.b
  show (if o.Done = true then (s'.col (if o.Done = true then o.Return + t else o.Return)).toNat else s'.wd - 1) = _
  by_cases hd : o.Done = true
  · rw [if_pos hd, if_pos hd, if_pos hd, h.col]
  · rw [if_neg hd, if_neg hd, h.wd]
theorem Sft.bar (h : Sft t s s') (o : OpT) (f : Nat → UInt8) : barF s' (shO t o) f = barF s o f := by
  funext k
  unfold barF
  rw [h.a, h.b]
  rfl
theorem Sft.row (h : Sft t s s') (l : List OpT) : rowL s' (l.map (shO t)) = rowL s l := by
  unfold rowL rowF
  rw [h.wd, List.foldl_map]
  have : (fun (f : Nat → UInt8) o => barF s' (shO t o) f) = fun f o => barF s o f := by
    funext f o; exact h.bar o f
  rw [this]
theorem sh_procOf (p : List OpT) : procOf (p.map (shO t)) = procOf p := by cases p <;> rfl
theorem Sft.lines (h : Sft t s s') (acc : List Seg) : linesL s' ((acc.map (shS t)).map Seg.ops) = linesL s (acc.map Seg.ops) := by
  unfold linesL
  rw [List.map_map, List.flatMap_map, List.flatMap_map]
  congr 1
  funext x
  show lineL s' (x.ops.map (shO t)) = lineL s x.ops
  unfold lineL
  rw [sh_procOf, h.row]
theorem sh_before (a b : OpT) : before (shO t a) (shO t b) = before a b := by
  unfold before
  show (a.Done && decide ((if a.Done = true then a.Return + t else a.Return) < b.Invoke + t)) = _
  cases a.Done with
  | false => rfl
  | true =>
    simp only [if_true, Bool.true_and]
    rw [decide_eq_decide]; omega
theorem sh_cutStep (p : Int × Int) (acc : List Seg) (o : OpT) : cutStep segQ (fun _ => p) (acc.map (shS t)) (shO t o) = (cutStep segQ (fun _ => p) acc o).map (shS t) := by
  unfold cutStep
  rw [List.getLast?_map]
  cases acc.getLast? with
  | none => rfl
  | some x =>
    have e : segQ (shS t x) (shO t o) = segQ x o := by
      unfold segQ
      show (x.ops.map (shO t)).all _ = _
      rw [List.all_map]
      congr 1
      funext y
      exact sh_before y o
    simp only [Option.map_some, e]
    cases segQ x o with
    | true => simp [shS]
    | false => simp [shS]
theorem sh_segs (x : Seg) : segsOf (shS t x) = (segsOf x).map (shS t) := by
  unfold segsOf
  show (x.ops.map (shO t)).foldl (cutStep segQ fun _ => (x.obj, x.kind)) [] = _
  have : ∀ (l : List OpT) (acc : List Seg), (l.map (shO t)).foldl (cutStep segQ fun _ => (x.obj, x.kind)) (acc.map (shS t)) = (l.foldl (cutStep segQ fun _ => (x.obj, x.kind)) acc).map (shS t) := by
    intro l
    induction l with
    | nil => intro acc; rfl
    | cons o l ih =>
      intro acc
      rw [List.map_cons, List.foldl_cons, List.foldl_cons, sh_cutStep, ih]
  exact this x.ops []
theorem sh_low (h : l ≠ []) : lowT (l.map (shO t)) = lowT l + t := by
  have h' : l.map (shO t) ≠ [] := by simpa using h
  obtain ⟨o, ho, e⟩ := low_in h
  obtain ⟨p, hp, e'⟩ := low_in h'
  obtain ⟨q, hq, rfl⟩ := List.mem_map.1 hp
  have h1 := low_le (l := l.map (shO t)) _ (List.mem_map_of_mem ho)
  have h2 := low_le q hq
  have h3 : (shO t o).Invoke = o.Invoke + t := rfl
  have h4 : (shO t q).Invoke = q.Invoke + t := rfl
  omega
theorem sh_top (h : l ≠ []) (hg : ∀ o ∈ l, OpG o) (ht : 0 ≤ t) : topT (l.map (shO t)) = topT l + t := by
  obtain ⟨o, r, e⟩ := List.exists_cons_of_ne_nil h
  have ho : o ∈ l := by rw [e]; exact List.mem_cons_self
  have key := (le_top (l.map (shO t)) 0).2
  apply Int.le_antisymm
  · refine top_le (by have := ((le_top l 0).2 o ho).1; have := (hg o ho).i0; show 0 ≤ topF l 0 + t; omega) fun p hp => ?_
    obtain ⟨q, hq, rfl⟩ := List.mem_map.1 hp
    have h1 := (le_top l 0).2 q hq
    have h4 : (shO t q).Invoke = q.Invoke + t := rfl
    have h5 : (shO t q).Return = if q.Done = true then q.Return + t else q.Return := rfl
    show _ ≤ topF l 0 + t ∧ _ ≤ topF l 0 + t
    refine ⟨by omega, ?_⟩
    rw [h5]
    split <;> omega
  · have hle : topT l ≤ topT (l.map (shO t)) - t := by
      refine top_le ?_ fun q hq => ?_
      · have h1 := (key _ (List.mem_map_of_mem ho)).1
        have h4 : (shO t o).Invoke = o.Invoke + t := rfl
        have := (hg o ho).i0
        show 0 ≤ topF (l.map (shO t)) 0 - t
        omega
      · have h1 := key _ (List.mem_map_of_mem hq)
        have h4 : (shO t q).Invoke = q.Invoke + t := rfl
        have h5 : (shO t q).Return = if q.Done = true then q.Return + t else q.Return := rfl
        show _ ≤ topF (l.map (shO t)) 0 - t ∧ _ ≤ topF (l.map (shO t)) 0 - t
        refine ⟨by omega, ?_⟩
        by_cases hd : q.Done = true
        · rw [if_pos hd] at h5; omega
        · have := (hg q hq).ro (by simpa using hd); have := (hg q hq).i0; omega
    omega
theorem sh_scale (h : l ≠ []) (hg : ∀ o ∈ l, OpG o) (ht : 0 ≤ t) (wd : Nat) : Sft t (scOf l wd) (scOf (l.map (shO t)) wd) := ⟨sh_low h, sh_top h hg ht, rfl⟩
theorem sh_end_done (h : l ≠ []) (hg : ∀ o ∈ l, OpG o) (ht : 0 ≤ t) (hd : ∀ o ∈ l, o.Done = true) : endT (l.map (shO t)) = endT l + t := by
  have e : ∀ l : List OpT, (∀ o ∈ l, OpG o) → (∀ o ∈ l, o.Done = true) → endT l = topT l := by
    intro l
    induction l using snocI with
    | nil => intros; rfl
    | snoc r x ih =>
      intro hg hd
      rw [endT_snoc, hd x (by simp), ih (fun o ho => hg o (List.mem_append_left _ ho)) fun o ho => hd o (List.mem_append_left _ ho)]
      have := (hg x (by simp)).rd (hd x (by simp))
      show _ = topF (r ++ [x]) 0
      rw [topF_snoc]
      show max (if _ then topF r 0 else _) _ = _
      simp only [if_true]
      omega
  have e2 : ∀ l : List OpT, (∀ o ∈ l, OpG o) → (∀ o ∈ l, o.Done = true) → endT (l.map (shO t)) = topT (l.map (shO t)) := by
    intro l
    induction l using snocI with
    | nil => intros; rfl
    | snoc r x ih =>
      intro hg hd
      have hx := (hg x (by simp)).rd (hd x (by simp))
      have h4 : (shO t x).Invoke = x.Invoke + t := rfl
      have h5 : (shO t x).Return = x.Return + t := by show (if x.Done = true then _ else _) = _; rw [if_pos (hd x (by simp))]
      have h6 : (shO t x).Done = true := hd x (by simp)
      rw [List.map_append, List.map_cons, List.map_nil, endT_snoc, h6, ih (fun o ho => hg o (List.mem_append_left _ ho)) fun o ho => hd o (List.mem_append_left _ ho)]
      show _ = topF (r.map (shO t) ++ [shO t x]) 0
      rw [topF_snoc]
      show max (if _ then topF (r.map (shO t)) 0 else _) _ = _
      simp only [if_true]
      omega
  rw [e l hg hd, e2 l hg hd, sh_top h hg ht]
theorem sh_col_end (hS : Sft t s s') (h1 : s.hi ≤ 1099511627776) (h2 : s'.hi ≤ 1099511627776) (h : l ≠ []) (hg : ∀ o ∈ l, OpG o) (ht : 0 ≤ t) : s'.col (endT (l.map (shO t))) = s.col (endT l) := by
  by_cases hd : ∀ o ∈ l, o.Done = true
  · rw [sh_end_done h hg ht hd, hS.col]
  · have : ∃ o ∈ l, o.Done = false := by
      apply Classical.byContradiction
      intro hn
      refine hd fun o ho => ?_
      cases hx : o.Done with
      | true => rfl
      | false => exact absurd ⟨o, ho, hx⟩ hn
    obtain ⟨o, ho, hx⟩ := this
    have h3 := ((le_end l).2 o ho).2 hx
    have h4 := ((le_end (l.map (shO t))).2 _ (List.mem_map_of_mem ho)).2 (show (shO t o).Done = false from hx)
    have c1 : ∀ (s : Sc) (x : Int), s.hi ≤ x → s.col x = s.col s.hi := fun s x hx => by
      unfold Sc.col
      rw [Int.min_eq_right hx, Int.min_self]
    rw [c1 s' _ (by omega), c1 s _ (by omega), hS.hi, hS.col]
theorem sh_ruler (hS : Sft t s s') (h1 : s.hi ≤ 1099511627776) (h2 : s'.hi ≤ 1099511627776) (ht : 0 ≤ t) : ∀ {L : List Seg}, (∀ x ∈ L, x.ops ≠ [] ∧ ∀ o ∈ x.ops, OpG o) → rulerL s' (L.map (shS t)) = rulerL s L := by
  intro L hL
  unfold rulerL rulerF
  rw [hS.wd, List.foldl_map]
  congr 1
  have : ∀ (L : List Seg) (f : Nat → UInt8), (∀ x ∈ L, x.ops ≠ [] ∧ ∀ o ∈ x.ops, OpG o) → L.foldl (fun f x => rulF s' f (shS t x)) f = L.foldl (rulF s) f := by
    intro L
    induction L with
    | nil => intros; rfl
    | cons x L ih =>
      intro f h
      obtain ⟨n1, n2⟩ := h x List.mem_cons_self
      rw [List.foldl_cons, List.foldl_cons, ih _ fun y hy => h y (List.mem_cons_of_mem _ hy)]
      congr 1
      funext k
      have ea : s'.col (lowT (shS t x).ops) = s.col (lowT x.ops) := by
        show s'.col (lowT (x.ops.map (shO t))) = _
        rw [sh_low n1, hS.col]
      have eb : s'.col (endT (shS t x).ops) = s.col (endT x.ops) := sh_col_end hS h1 h2 n1 n2 ht
      unfold rulF
      simp only [ea, eb]
  exact this L _ hL
end
theorem draw_later {t : Int} {l : List OpT} (ht : 0 ≤ t) (hG : Good l) (hG' : Good (l.map (shO t))) {width : Int} {u v : Value} (hu : DrawR l width u) (hv : DrawR (l.map (shO t)) width v) : u = v := by
  refine drawR_one hG'.pure ?_ hv
  rcases hu with ⟨h1, rfl⟩ | ⟨h1, acc, ha, rfl⟩
  · exact .inl ⟨h1, rfl⟩
  · refine .inr ⟨h1, acc.map (shS t), sh_byProc ha, ?_⟩
    by_cases hl : l = []
    · subst hl
      have : acc = [] := List.eq_nil_of_length_eq_zero (by have := prog_few ha; simpa using this)
      subst this
      rfl
    · rw [(sh_scale hl hG.h.g ht width.toNat).lines]
theorem objs_later {t : Int} {l : List OpT} (ht : 0 ≤ t) (hG : Good l) (hG' : Good (l.map (shO t))) {width : Int} {u v : Value} (hu : ObjR l width u) (hv : ObjR (l.map (shO t)) width v) : u = v := by
  refine obj_unique hG'.pure ?_ hv
  rcases hu with ⟨h1, rfl⟩ | ⟨h1, P, hP, hq, rfl⟩
  · exact .inl ⟨h1, rfl⟩
  · refine .inr ⟨h1, P.map fun q => (shS t q.1, q.2.map (shS t)), ?_, fun q hq' => ?_, ?_⟩
    · have := sh_byObj (t := t) hP
      rw [List.map_map] at this ⊢
      exact this
    · obtain ⟨y, hy, rfl⟩ := List.mem_map.1 hq'
      exact sh_byProc (hq y hy)
    · by_cases hl : l = []
      · subst hl
        have : P = [] := List.eq_nil_of_length_eq_zero (by have := obj_few hP; simpa using this)
        subst this
        rfl
      · have hS := sh_scale (t := t) hl hG.h.g ht width.toNat
        have top : ∀ l : List OpT, (∀ o ∈ l, OpG o) → topT l ≤ 1099511627776 := fun l hg => top_le (by decide) fun o ho => by
          have := hg o ho
          refine ⟨this.i1, ?_⟩
          cases hd : o.Done with
          | true => exact (this.rd hd).2
          | false => rw [this.ro hd]; decide
        suffices eT : objsL (scOf l width.toNat) P = objsL (scOf (l.map (shO t)) width.toNat) (P.map fun q => (shS t q.1, q.2.map (shS t))) by rw [eT]
        unfold objsL
        rw [List.flatMap_map, List.flatMap_def, List.flatMap_def]
        congr 1
        refine List.map_congr_left fun q hqm => ?_
        have hx := List.mem_map_of_mem (f := Prod.fst) hqm
        obtain ⟨hx1, hx2, hx3, hx4⟩ := obj_in hP hx
        have hseg : ∀ y ∈ segsOf q.1, y.ops ≠ [] ∧ ∀ o ∈ y.ops, OpG o := fun y hy => by
          have hfl := cut_flat segQ (fun _ => (q.1.obj, q.1.kind)) q.1.ops []
          simp only [List.flatMap_nil, List.nil_append] at hfl
          refine ⟨cut_ne segQ (fun _ => (q.1.obj, q.1.kind)) q.1.ops [] (fun s h => by cases h) y hy, fun o ho => hG.h.g o (hx1 o ?_).1⟩
          rw [← hfl]; exact List.mem_flatMap.2 ⟨y, hy, ho⟩
        show objL (scOf l width.toNat) q = objL (scOf (l.map (shO t)) width.toNat) (shS t q.1, q.2.map (shS t))
        unfold objL
        simp only
        rw [hS.lines, sh_segs, sh_ruler hS (top l hG.h.g) (top _ hG'.h.g) ht hseg]
        rfl
end Go.Proofs.Ytmdhcpghofadcaa

namespace Go.Proofs.Ytmdhcpghofadcaa
set_option linter.unusedSimpArgs false
set_option linter.unusedVariables false
set_option maxRecDepth 100000
open Go Go.Ann Go.RowKit Go.WideShapes Go.Shelf
section
variable {va : Value} {l : List OpT} {w : World}
theorem later_ok (h : RdS w 11 OpT.enc va l) (hl : (l.length : Int) ≤ 9223372036854775807) (hw : ∀ o ∈ l, o.wf) (t : Int) (ht : 0 ≤ t) (ht2 : t ≤ 4294967295) (width : Int) : Ret Try.prog 7 [va, .int .u32 t, .int .i64 width] w fun u w' => u = .bool true ∧ Below w.heap.size w w' := by
  obtain ⟨pa, ca, rfl, _⟩ := h.form
  refine ent7 _ _ _ _ _ ?_
  simp (disch := first | omega | exact okFill_t rfl | exact okSize_t rfl | exact fun h => h | (simp only [World.size_alloc, World.size_drew, World.size_setCell, size_fill, bytesW]; omega)) only [go_sem, c7, c7S0, c7S1, c7S2, c7S3, c7S4, c7L0, c7S5, c7S6, c7S7, c7S8, c7S9, c7S10, c7S11, c7S12, c7S13]
  refine Ret.mono (good_ok _ l w h hw hl) ?_
  rintro _ w2 ⟨⟨b, rfl, hb⟩, b2⟩
  cases b with
  | false =>
    simp (disch := first | omega | exact okFill_t rfl | exact okSize_t rfl | exact fun h => h | (simp only [World.size_alloc, World.size_drew, World.size_setCell, size_fill, bytesW]; omega)) only [go_sem, c7, c7S0, c7S1, c7S2, c7S3, c7S4, c7L0, c7S5, c7S6, c7S7, c7S8, c7S9, c7S10, c7S11, c7S12, c7S13]
    refine Ret.mono (awake_ok w2) ?_
    rintro _ w3 ⟨rfl, b3⟩
    simp (disch := first | omega | exact okFill_t rfl | exact okSize_t rfl | exact fun h => h | (simp only [World.size_alloc, World.size_drew, World.size_setCell, size_fill, bytesW]; omega)) only [go_sem, c7, c7S0, c7S1, c7S2, c7S3, c7S4, c7L0, c7S5, c7S6, c7S7, c7S8, c7S9, c7S10, c7S11, c7S12, c7S13]
    exact b2.trans (b3.mono b2.size)
  | true =>
    have hG := hb rfl
    have hl64 := hG.few
    have s2 := ((St.start (W0 := w)).call b2).nilRow 23 11
    simp (disch := first | omega | exact okFill_t rfl | exact okSize_t rfl | exact fun h => h | (simp only [World.size_alloc, World.size_drew, World.size_setCell, size_fill, bytesW]; omega)) only [go_sem, c7, c7S0, c7S1, c7S2, c7S3, c7S4, c7S5, c7S6, c7S7, c7S8, c7S9, c7S10, c7S11, c7S12, c7S14]
    refine W_loopU (fun x : Nat × Value => [(7, x.2), (8, .int .i64 x.1)]) (fun x w' => x.1 ≤ l.length ∧ St w w' (fun _ => False) [.row x.2 23 11 x.1 (((l.take x.1).map (shO t)).flatMap OpT.enc)] []) (fun x => l.length - x.1) (0, .slice none 0 0) rfl ⟨Nat.zero_le _, s2⟩ ?_
    rintro ⟨k, v⟩ w3 ⟨hk, s3⟩
    simp only at hk s3
    by_cases hlt : k < l.length
    · have hlt' : (k : Int) < l.length := by omega
      obtain ⟨q, rfl⟩ := h.ptr (by omega)
      have ck := cellsO_below s3.bel (h.at OpT.len hlt)
      have hts := List.take_succ_eq_append_getElem hlt
      have hm := List.getElem_mem hlt
      obtain ⟨o, ho⟩ : ∃ o, o = l[k] := ⟨_, rfl⟩
      rw [← ho] at ck hts hm
      have ao := o.at
      have hgo := hG.h.g o hm
      have hi0 := hgo.i0
      have hi1 := hgo.i1
      have s4 := s3.box o.enc.toArray 23
      simp (disch := first | omega | exact okFill_t rfl | exact okSize_t rfl | exact fun h => h | (simp only [World.size_alloc, World.size_drew, World.size_setCell, size_fill, bytesW]; omega)) only [go_sem, c7, c7S0, c7S1, c7S3, c7S4, c7L0, c7S5, c7S6, c7S7, c7S8, c7S9, c7S10, c7S11, c7S12, c7S14, c7L0, hlt', ck, ao]
      obtain ⟨o1, ho1⟩ : ∃ o1 : OpT, o1 = { o with Invoke := o.Invoke + t } := ⟨_, rfl⟩
      have e1 : o.enc.set 9 (.int .i64 (o.Invoke + t)) = o1.enc := by rw [ho1]; rfl
      rw [e1]
      have ao1 := o1.at
      have hd1 : o1.Done = o.Done := by rw [ho1]
      have hr1 : o1.Return = o.Return := by rw [ho1]
      have s5 := s3.box o1.enc.toArray 23
      generalize w3.heap.size = b9 at s5 ⊢
      generalize w3.alloc (.cells o1.enc.toArray 23) = w5 at s5 ⊢
      have r5 := s5.rules 0 rfl
      have push : ∀ w6, St w w6 (fun _ => False) [.blk b9 (shO t o).enc.toArray 23, .row v 23 11 k (((l.take k).map (shO t)).flatMap OpT.enc)] [] → ∀ Q : Post, (∀ v7 w7, St w w7 (fun _ => False) [.row v7 23 11 (k + 1) (((l.take (k + 1)).map (shO t)).flatMap OpT.enc)] [] → Q .normal [(0, .slice (some q) l.length ca), (1, .int .u32 t), (2, .int .i64 width), (7, v7), (8, .int .i64 k)] w7) → W Try.prog (c7S2 ()) [(0, .slice (some q) l.length ca), (1, .int .u32 t), (2, .int .i64 width), (7, v), (8, .int .i64 k), (9, .pointer (some ⟨b9, 0, none⟩))] w6 (blockQ 1 Q) := by
        intro w6 s6 Q hQ
        have r6 := s6.rules 0 rfl
        simp (disch := first | omega | exact okFill_t rfl | exact okSize_t rfl | exact fun h => h | (simp only [World.size_alloc, World.size_drew, World.size_setCell, size_fill, bytesW]; omega)) only [go_sem, c7, c7S0, c7S1, c7S2, c7S3, c7S4, c7L0, c7S5, c7S6, c7S7, c7S8, c7S9, c7S10, c7S11, c7S12, c7S13, c7S14, r6]
        refine bsW_agg ty27mkI rfl (by decide) (by decide) ?_
        have hrd : Rd (w6.alloc (.cells (shO t o).enc.toArray 23)) 11 (.slice (some ⟨w6.heap.size, 0, none⟩) 1 1) 1 (shO t o).enc := rd_new (t := 23) (sz := 11) (n := 1) (cs := (shO t o).enc.toArray) rfl
        have s7 := (s6.sub (List.sublist_cons_self ..)).alloc' (.cells (shO t o).enc.toArray 23)
        simp (disch := first | omega | exact okFill_t rfl | exact okSize_t rfl | exact fun h => h | (simp only [World.size_alloc, World.size_drew, World.size_setCell, size_fill, bytesW]; omega)) only [go_sem, c7, c7S0, c7S1, c7S2, c7S3, c7S4, c7L0, c7S5, c7S6, c7S7, c7S8, c7S9, c7S10, c7S11, c7S12, c7S13, c7S14]
        generalize w6.alloc (.cells (shO t o).enc.toArray 23) = w7 at s7 hrd ⊢
        refine s7.append 0 rfl ty27mkI rfl (by decide) hrd (shO t o).one (by omega) (by omega) ?_
        intro v8 w8 s8 _
        simp only [List.set_cons_zero] at s8
        simp (disch := first | omega | exact okFill_t rfl | exact okSize_t rfl | exact fun h => h | (simp only [World.size_alloc, World.size_drew, World.size_setCell, size_fill, bytesW]; omega)) only [go_sem, c7, c7S0, c7S1, c7S2, c7S3, c7S4, c7L0, c7S5, c7S6, c7S7, c7S8, c7S9, c7S10, c7S11, c7S12, c7S13, c7S14]
        refine hQ v8 w8 ?_
        rw [hts, List.map_append, List.flatMap_append]
        simpa using s8
      have fin : ∀ v7 w7, St w w7 (fun _ => False) [.row v7 23 11 (k + 1) (((l.take (k + 1)).map (shO t)).flatMap OpT.enc)] [] → k + 1 ≤ l.length ∧ St w w7 (fun _ => False) [.row v7 23 11 (k + 1) (((l.take (k + 1)).map (shO t)).flatMap OpT.enc)] [] := fun v7 w7 h7 => ⟨hlt, h7⟩
      refine ⟨by omega, o.len.symm, by constructor <;> omega, by constructor <;> omega, ?_⟩
      simp (disch := first | omega | exact okFill_t rfl | exact okSize_t rfl | exact fun h => h | (simp only [World.size_alloc, World.size_drew, World.size_setCell, size_fill, bytesW]; omega)) only [go_sem, c7, c7S0, c7S1, c7S3, c7S4, c7L0, c7S5, c7S6, c7S7, c7S8, c7S9, c7S10, c7S11, c7S12, c7S14, ao1, r5]
      have close : ∀ v7 w7, St w w7 (fun _ => False) [.row v7 23 11 (k + 1) (((l.take (k + 1)).map (shO t)).flatMap OpT.enc)] [] → (k + 1) ≤ l.length := fun _ _ _ => hlt
      refine ⟨fun hd => ⟨by constructor <;> omega, ?_, push _ ?_ _ ?_⟩, fun hd => push _ ?_ _ ?_⟩
      · have := hgo.rd (by rw [← hd1]; exact hd)
        rw [hr1]; constructor <;> omega
      · have e2 : o1.enc.toArray.setIfInBounds 10 (.int .i64 (o1.Return + t)) = (shO t o).enc.toArray := by
          have hdo : o.Done = true := by rw [← hd1]; exact hd
          rw [ho1]
          unfold shO OpT.enc
          simp [hdo]
        have := s5.set 0 rfl 10 (.int .i64 (o1.Return + t))
        rw [e2] at this
        exact this
      · intro v7 w7 s7
        simp (disch := first | omega | exact okFill_t rfl | exact okSize_t rfl | exact fun h => h | (simp only [World.size_alloc, World.size_drew, World.size_setCell, size_fill, bytesW]; omega)) only [go_sem, c7, c7S0, c7S1, c7S2, c7S3, c7S4, c7L0, c7S5, c7S6, c7S7, c7S8, c7S9, c7S10, c7S11, c7S12, c7S14]
        exact ⟨by constructor <;> omega, (k + 1, v7), rfl, ⟨hlt, s7⟩, by simp only; omega⟩
      · have e2 : o1 = shO t o := by
          have hdo : o.Done = false := by rw [← hd1]; exact hd
          rw [ho1]
          unfold shO
          simp [hdo]
        rw [← e2]; exact s5
      · intro v7 w7 s7
        simp (disch := first | omega | exact okFill_t rfl | exact okSize_t rfl | exact fun h => h | (simp only [World.size_alloc, World.size_drew, World.size_setCell, size_fill, bytesW]; omega)) only [go_sem, c7, c7S0, c7S1, c7S2, c7S3, c7S4, c7L0, c7S5, c7S6, c7S7, c7S8, c7S9, c7S10, c7S11, c7S12, c7S14]
        exact ⟨by constructor <;> omega, (k + 1, v7), rfl, ⟨hlt, s7⟩, by simp only; omega⟩
    · have hlt' : ¬ (k : Int) < l.length := by omega
      have hkk : k = l.length := by omega
      subst hkk
      rw [List.take_length] at s3
      simp (disch := first | omega | exact okFill_t rfl | exact okSize_t rfl | exact fun h => h | (simp only [World.size_alloc, World.size_drew, World.size_setCell, size_fill, bytesW]; omega)) only [go_sem, c7, c7S0, c7S1, c7S2, c7S3, c7S4, c7L0, c7S5, c7S6, c7S7, c7S8, c7S9, c7S10, c7S11, c7S12, c7S14, c7L0, hlt']
      have hrow : RdS w3 11 OpT.enc v (l.map (shO t)) := RdS.of_own' (s3.row 0 rfl) (l.map (shO t)) (by rw [List.length_map]) rfl
      obtain ⟨av, cv, rfl, _⟩ := own_slice (s3.row 0 rfl)
      have b03 : Below w.heap.size w w3 := s3.bel
      have hwl : ∀ o ∈ l.map (shO t), o.wf := fun p hp => by
        obtain ⟨o, ho, rfl⟩ := List.mem_map.1 hp
        have h0 := hw o ho
        have hgo := hG.h.g o ho
        have hi0 := hgo.i0
        have hi1 := hgo.i1
        have ok : ∀ n : Int, I64 n → kOk .i64 n := fun n h => by
          unfold I64 at h
          simp [kOk, Lit.wf, IntKind.min, IntKind.max, IntKind.signed, IntKind.bits]
          omega
        refine ⟨h0.1, h0.2.1, h0.2.2.1, h0.2.2.2.1, h0.2.2.2.2.1, h0.2.2.2.2.2.1, h0.2.2.2.2.2.2.1, h0.2.2.2.2.2.2.2.1, ok _ (by show I64 (o.Invoke + t); constructor <;> omega), ok _ ?_⟩
        show I64 (if o.Done = true then o.Return + t else o.Return)
        cases hd : o.Done with
        | true => have := hgo.rd hd; simp only [if_true]; constructor <;> omega
        | false => have := hgo.ro hd; simp only [Bool.false_eq_true, if_false]; constructor <;> omega
      simp (disch := first | omega | exact okFill_t rfl | exact okSize_t rfl | exact fun h => h | (simp only [World.size_alloc, World.size_drew, World.size_setCell, size_fill, bytesW]; omega)) only [go_sem, c7, c7S0, c7S1, c7S2, c7S3, c7S4, c7L0, c7S5, c7S6, c7S7, c7S8, c7S9, c7S10, c7S11, c7S13, c7S14]
      refine Ret.mono (good_ok _ (l.map (shO t)) w3 hrow hwl (by rw [List.length_map]; omega)) ?_
      rintro _ w4 ⟨⟨b, rfl, hb'⟩, b4⟩
      have b04 := b03.trans (b4.mono b03.size)
      have hrow4 := hrow.below b4 (by decide)
      cases b with
      | false =>
        simp (disch := first | omega | exact okFill_t rfl | exact okSize_t rfl | exact fun h => h | (simp only [World.size_alloc, World.size_drew, World.size_setCell, size_fill, bytesW]; omega)) only [go_sem, c7, c7S0, c7S1, c7S2, c7S3, c7S4, c7L0, c7S5, c7S6, c7S7, c7S8, c7S9, c7S10, c7S11, c7S13, c7S14]
        refine Ret.mono (awake_ok w4) ?_
        rintro _ w5 ⟨rfl, b5⟩
        simp (disch := first | omega | exact okFill_t rfl | exact okSize_t rfl | exact fun h => h | (simp only [World.size_alloc, World.size_drew, World.size_setCell, size_fill, bytesW]; omega)) only [go_sem, c7, c7S0, c7S1, c7S2, c7S3, c7S4, c7L0, c7S5, c7S6, c7S7, c7S8, c7S9, c7S10, c7S11, c7S13, c7S14]
        exact b04.trans (b5.mono b04.size)
      | true =>
        have hG' := hb' rfl
        have tup : ∀ {l : List OpT} {u : Value}, DrawR l width u → ∃ us ue, u = .tuple #[.string (ofL us), .int .i64 ue] ∧ (ue = 0 ↔ (8 ≤ width ∧ width ≤ 200)) := by
          rintro l u (⟨h, rfl⟩ | ⟨h, acc, _, rfl⟩)
          · exact ⟨_, _, rfl, ⟨fun h' => (by cases h'), fun h' => absurd h' h⟩⟩
          · exact ⟨_, _, rfl, ⟨fun _ => h, fun _ => rfl⟩⟩
        simp (disch := first | omega | exact okFill_t rfl | exact okSize_t rfl | exact fun h => h | (simp only [World.size_alloc, World.size_drew, World.size_setCell, size_fill, bytesW]; omega)) only [go_sem, c7, c7S0, c7S1, c7S2, c7S3, c7S4, c7L0, c7S5, c7S6, c7S7, c7S8, c7S9, c7S10, c7S12, c7S13, c7S14]
        refine Ret.mono (draw_ok (h.below b04 (by decide)) hG.h width) ?_
        rintro u w5 ⟨hu, b5⟩
        have b05 := b04.trans (b5.mono b04.size)
        have hrow5 := hrow4.below b5 (by decide)
        obtain ⟨us, ue, rfl, _⟩ := tup hu
        simp (disch := first | omega | exact okFill_t rfl | exact okSize_t rfl | exact fun h => h | (simp only [World.size_alloc, World.size_drew, World.size_setCell, size_fill, bytesW]; omega)) only [go_sem, c7, c7S0, c7S1, c7S2, c7S3, c7S4, c7L0, c7S5, c7S6, c7S7, c7S8, c7S9, c7S11, c7S12, c7S13, c7S14]
        refine Ret.mono (draw_ok hrow5 hG'.h width) ?_
        rintro v w6 ⟨hv, b6⟩
        have b06 := b05.trans (b6.mono b05.size)
        have hrow6 := hrow5.below b6 (by decide)
        have := draw_later ht hG hG' hu hv
        subst this
        simp (disch := first | omega | exact okFill_t rfl | exact okSize_t rfl | exact fun h => h | (simp only [World.size_alloc, World.size_drew, World.size_setCell, size_fill, bytesW]; omega)) only [go_sem, c7, c7S0, c7S1, c7S2, c7S3, c7S4, c7L0, c7S5, c7S6, c7S7, c7S8, c7S10, c7S11, c7S12, c7S13, c7S14]
        refine Ret.mono (objs_ok (h.below b06 (by decide)) hG width) ?_
        rintro x w7 ⟨hx, b7⟩
        have b07 := b06.trans (b7.mono b06.size)
        have hrow7 := hrow6.below b7 (by decide)
        obtain ⟨xs, xe, rfl⟩ : ∃ us ue, x = .tuple #[.string (ofL us), .int .i64 ue] := by
          rcases hx with ⟨_, rfl⟩ | ⟨_, P, _, _, rfl⟩ <;> exact ⟨_, _, rfl⟩
        simp (disch := first | omega | exact okFill_t rfl | exact okSize_t rfl | exact fun h => h | (simp only [World.size_alloc, World.size_drew, World.size_setCell, size_fill, bytesW]; omega)) only [go_sem, c7, c7S0, c7S1, c7S2, c7S3, c7S4, c7L0, c7S5, c7S6, c7S7, c7S9, c7S10, c7S11, c7S12, c7S13, c7S14]
        refine Ret.mono (objs_ok hrow7 hG' width) ?_
        rintro y w8 ⟨hy, b8⟩
        have b08 := b07.trans (b8.mono b07.size)
        have := objs_later ht hG hG' hx hy
        subst this
        have exe : ue = xe := by
          rcases hu with ⟨h1, e1⟩ | ⟨h1, acc, _, e1⟩ <;> rcases hx with ⟨h2, e2⟩ | ⟨h2, P, _, _, e2⟩
          · simp at e1 e2; rw [e1.2, e2.2]
          · exact absurd h2 h1
          · exact absurd h1 h2
          · simp at e1 e2; rw [e1.2, e2.2]
        simp (disch := first | omega | exact okFill_t rfl | exact okSize_t rfl | exact fun h => h | (simp only [World.size_alloc, World.size_drew, World.size_setCell, size_fill, bytesW]; omega)) only [go_sem, c7, c7S0, c7S1, c7S2, c7S3, c7S4, c7L0, c7S5, c7S6, c7S7, c7S8, c7S9, c7S10, c7S11, c7S12, c7S13, c7S14, exe]
        refine Ret.mono (awake_ok w8) ?_
        rintro _ w9 ⟨rfl, b9⟩
        simp (disch := first | omega | exact okFill_t rfl | exact okSize_t rfl | exact fun h => h | (simp only [World.size_alloc, World.size_drew, World.size_setCell, size_fill, bytesW]; omega)) only [go_sem, c7, c7S0, c7S1, c7S2, c7S3, c7S4, c7L0, c7S5, c7S6, c7S7, c7S8, c7S9, c7S10, c7S11, c7S12, c7S13, c7S14]
        exact b08.trans (b9.mono b08.size)
end
set_option maxRecDepth 100000 in
theorem later_law {H : Type} {enc : TypeId × Value → H} {w : World} {r : Reach} {b base : Nat} {sp : Nat → Bool} {hd : Bool} {v : Value} {d : DataW H} {p : List MemPlace}
    (h : Value.okWide Try.prog w r b 27 v) (k : DataW.Trod enc Try.prog w base sp hd 27 v d p) {t : Int} (ht : (Lit.int .u32 t).wf = true) (n : Int) :
    Ret Try.prog 7 [v, .int .u32 t, .int .i64 n] w fun u w' => u = .bool true ∧ Below w.heap.size w w' := by
  obtain ⟨xs, q1, q3, q2⟩ := Opens.slice_arg opens_Ops Try.underlying27 h k
  simp [Lit.wf, IntKind.min, IntKind.max, IntKind.signed, IntKind.bits] at ht
  exact later_ok q1 q2 q3 t (by omega) (by omega) n
end Go.Proofs.Ytmdhcpghofadcaa
