/- Texts put together by program. -/
import Derived.Test.YteiciplnfjnfjaaGreatQC5
namespace Go.Proofs.YteiciplnfjnfjaaGreat.Cut
set_option linter.unusedSimpArgs false
set_option linter.unusedVariables false
set_option maxRecDepth 100000
open Go Go.Ann Go.RowKit
theorem swo_ear:Go.Sort.SWO (ltOf earI) where
  irrefl x:=by rw [lt_ear]; exact decide_eq_false (by omega)
  trans x y z h1 h2:=by rw [lt_ear,decide_eq_true_eq] at *; omega
  ntrans x y z h1 h2:=by rw [lt_ear,decide_eq_false_iff_not] at *; omega
def Cuts (W0 w:World) (more:List Res) (I0:List Inv) (vo:Value) (acc:List Seg):Prop :=
  (acc = [] ∧ vo = .slice none 0 0 ∧ St W0 w (fun _ => False) more I0) ∨
  ∃ ini s vs vl,acc = ini ++ [s] ∧ vs.length = ini.length ∧ (∀ v ∈ vs,∀ k,slFoot v k → W0.heap.size ≤ k) ∧ St W0 w (fun _ => False) (.row vl 38 11 s.ops.length (s.ops.flatMap OpT.enc) :: .row vo 24 3 (ini.length + 1) (segCells ini vs ++ segC s vl) :: more) (segInvs ini vs ++ I0)
theorem Cuts.form {W0 w:World} {more:List Res} {I0:List Inv} {vo:Value} {acc:List Seg} (h:Cuts W0 w more I0 vo acc):∃ a c,vo = .slice a acc.length c:=by
  rcases h with ⟨rfl,rfl,_⟩ | ⟨ini,s,vs,vl,rfl,_,_,h⟩
  · exact ⟨_,_,rfl⟩
  · obtain ⟨a,c,rfl,_⟩:=own_slice (h.row 1 rfl)
    exact ⟨a,c,by rw [List.length_append]; rfl⟩
theorem Cuts.bel {W0 w:World} {more:List Res} {I0:List Inv} {vo:Value} {acc:List Seg} (h:Cuts W0 w more I0 vo acc):Below W0.heap.size W0 w:=by
  rcases h with ⟨_,_,h⟩ | ⟨_,_,_,_,_,_,_,h⟩ <;> exact h.bel
theorem Cuts.call {W0 w w':World} {more:List Res} {I0:List Inv} {vo:Value} {acc:List Seg} (h:Cuts W0 w more I0 vo acc) (hb:Below w.heap.size w w'):Cuts W0 w' more I0 vo acc:=by
  rcases h with ⟨h1,h2,h⟩ | ⟨ini,s,vs,vl,h1,h2,hN,h⟩
  · exact .inl ⟨h1,h2,h.call hb⟩
  · exact .inr ⟨ini,s,vs,vl,h1,h2,hN,h.call hb⟩
theorem Cuts.base {W0 w:World} {more:List Res} {I0:List Inv} {vo:Value} {acc:List Seg} (h:Cuts W0 w more I0 vo acc):St W0 w (fun _ => False) more I0:=by
  rcases h with ⟨_,_,h⟩ | ⟨_,_,_,_,_,_,_,h⟩
  · exact h
  · exact (h.sub ((List.sublist_cons_self _ _).trans (List.sublist_cons_self _ _))).inv_sub fun a ha => List.mem_append_right _ ha
theorem Cuts.box {W0 w:World} {more:List Res} {I0:List Inv} {vo:Value} {acc:List Seg} (h:Cuts W0 w more I0 vo acc) (cs:Array Value) (t:TypeId):Cuts W0 (w.alloc (.cells cs t)) (.blk w.heap.size cs t :: more) I0 vo acc:=by
  rcases h with ⟨h1,h2,h⟩ | ⟨ini,s,vs,vl,h1,h2,hN,h⟩
  · exact .inl ⟨h1,h2,h.box cs t⟩
  · exact .inr ⟨ini,s,vs,vl,h1,h2,hN,(h.box cs t).perm (((List.Perm.swap _ _ _).cons _).trans (List.Perm.swap _ _ _))⟩
theorem Cuts.grow {W0 w:World} {more:List Res} {I0:List Inv} {vo x:Value} {acc:List Seg} (h:Cuts W0 w more I0 vo acc) (obj kind:Int) (hn:acc.length ≤ 100) (hx:Rd w 3 x 1 (segC ⟨obj,kind,[]⟩ (.slice none 0 0))) {K:Value → World → Prop} {cs:Array Bool} {ty:Nat}
    (hK:∀ v' w',Cuts W0 w' more I0 v' (acc ++ [⟨obj,kind,[]⟩]) → K v' w'):rawB Tryz.prog .append #[47,47] ty cs [vo,x] w K:=by
  rcases h with ⟨rfl,rfl,h⟩ | ⟨ini,s,vs,vl,rfl,hl,hN,h⟩
  · have s1:=h.nilRow 24 3
    refine s1.append 0 rfl ty47mkI rfl (by decide) hx (by intro u hu; simp only [segC,List.mem_cons,List.not_mem_nil,or_false] at hu; rcases hu with rfl | rfl | rfl <;> rfl) (by omega) (by omega) ?_
    intro v' w' s2 _
    simp only [List.set_cons_zero] at s2
    exact hK _ _ (.inr ⟨[],_,[],.slice none 0 0,rfl,rfl,(fun v hv => by cases hv),s2.nilRow 38 11⟩)
  · rw [List.length_append,List.length_singleton] at hn
    have s1:=h.seal (.rd 11 OpT.enc vl s.ops) (RdS.of_own (h.row 0 rfl)) fun k hk => slFoot_own hk
    refine s1.append 0 rfl ty47mkI rfl (by decide) hx (by intro u hu; simp only [segC,List.mem_cons,List.not_mem_nil,or_false] at hu; rcases hu with rfl | rfl | rfl <;> rfl) (by omega) (by omega) ?_
    intro v' w' s2 _
    simp only [List.set_cons_zero] at s2
    have s3:=(s2.nilRow 38 11).inv_sub (I':=segInvs (ini ++ [s]) (vs ++ [vl]) ++ I0) fun a ha => by
      rcases List.mem_append.1 ha with ha | ha
      · rcases (segInvs_snoc ini vs s vl hl a).1 ha with rfl | ha
        · exact List.mem_cons_self
        · exact List.mem_cons_of_mem _ (List.mem_append_left _ ha)
      · exact List.mem_cons_of_mem _ (List.mem_append_right _ ha)
    rw [← segCells_snoc ini vs s vl hl] at s3
    refine hK _ _ (.inr ⟨ini ++ [s],_,vs ++ [vl],.slice none 0 0,rfl,by simp [hl],?_,?_⟩)
    · intro v hv k hk
      rcases List.mem_append.1 hv with hv | hv
      · exact hN v hv k hk
      · rw [List.mem_singleton] at hv; subst hv
        exact ((h.row 0 rfl).lt k (slFoot_own hk)).1
    rw [List.length_append,List.length_singleton]
    exact s3
theorem Cuts.out {W0 w:World} {more:List Res} {I0:List Inv} {vo:Value} {acc:List Seg} (h:Cuts W0 w more I0 vo acc) (hs:∀ s ∈ acc,(s.ops.length:Int) ≤ 9223372036854775806) (w2:World) (hw2:∀ k,W0.heap.size ≤ k → k < w.heap.size → w2.heap[k]? = w.heap[k]?):RdR w2 3 segR vo acc:=by
  rcases h with ⟨rfl,rfl,_⟩ | ⟨ini,s,vs,vl,rfl,hl,hN,h⟩
  · exact RdR.nil
  refine ⟨List.zipWith segC (ini ++ [s]) (vs ++ [vl]),by simp [hl],?_,?_⟩
  · intro i c x hc hx
    rw [List.getElem?_zipWith,hx] at hc
    cases hv:(vs ++ [vl])[i]? with
    | none => rw [hv] at hc; cases hc
    | some v =>
      rw [hv] at hc
      simp only [Option.some.injEq] at hc
      subst hc
      refine ⟨rfl,v,rfl,?_,hs x (List.mem_of_getElem? hx)⟩
      rcases Nat.lt_or_ge i ini.length with hi | hi
      · rw [List.getElem?_append_left hi] at hx
        rw [List.getElem?_append_left (by omega)] at hv
        have hi2:=h.inv _ (List.mem_append_left _ (segInvs_mem ini vs i x v hx hv))
        exact RdS.loc hi2.1 fun k hk => hw2 k (hN v (List.mem_of_getElem? hv) k hk) (hi2.2 k hk).1
      · rw [List.getElem?_append_right hi] at hx
        rw [List.getElem?_append_right (by omega),hl] at hv
        have hz:i - ini.length = 0:=by
          have:=(List.getElem?_eq_some_iff.1 hx).1
          simp only [List.length_singleton] at this; omega
        rw [hz] at hx hv
        simp only [List.getElem?_cons_zero,Option.some.injEq] at hx hv
        subst hx; subst hv
        exact RdS.loc (RdS.of_own (h.row 0 rfl)) fun k hk => hw2 k ((h.row 0 rfl).lt k (slFoot_own hk)).1 ((h.row 0 rfl).lt k (slFoot_own hk)).2
  · rw [segCells_flat,segCells_snoc ini vs s vl hl,List.length_append,List.length_singleton]
    exact Rd.loc (Rd.of_own (h.row 1 rfl)) fun k hk => hw2 k ((h.row 1 rfl).lt k (slFoot_own hk)).1 ((h.row 1 rfl).lt k (slFoot_own hk)).2
theorem own_mono {w:World} {B B' e sz n:Nat} {v:Value} {xs:List Value} (h:w.ownsRow B e sz v n xs) (hb:B' ≤ B):w.ownsRow B' e sz v n xs:=by
  obtain ⟨h1,h2 | ⟨g,cap,cur,h3,h4,h5⟩⟩:=h
  · exact ⟨h1,.inl h2⟩
  · exact ⟨h1,.inr ⟨g,cap,cur,h3,by omega,h5⟩⟩
theorem push16 {W0 w:World} {more:List Res} {I0:List Inv} {vo:Value} {ini:List Seg} {s:Seg} {Q:Post} (o:OpT) (b:Nat) (v1 v13 v14 v15:Value) (h:Cuts W0 w (.blk b o.enc.toArray 38 :: more) I0 vo (ini ++ [s])) (hn:ini.length ≤ 100) (hs:s.ops.length ≤ 100)
    (hQ:∀ w',Cuts W0 w' more I0 vo (ini ++ [⟨s.obj,s.kind,s.ops ++ [o]⟩]) → Q .normal [(1,v1),(4,vo),(13,v13),(14,v14),(15,v15)] w') :
    W Tryz.prog (c36S2 ()) [(1,v1),(4,vo),(6,.pointer (some ⟨b,0,none⟩)),(7,.int .i64 ini.length),(13,v13),(14,v14),(15,v15)] w Q:=by
  rcases h with ⟨h,_⟩ | ⟨ini',s',vs,vl,he,hl,hN,h⟩
  · simp at h
  obtain ⟨rfl,rfl⟩:ini = ini' ∧ s = s':=by
    have:=List.append_inj' he rfl
    exact ⟨this.1,by simpa using this.2⟩
  obtain ⟨a,c,rfl,_⟩:=own_slice (h.row 1 rfl)
  obtain ⟨g,rfl⟩:∃ g,a = some ⟨g,0,none⟩:=by
    obtain ⟨_,⟨_,h0⟩ | ⟨g,cap,cur,e,_⟩⟩:=h.row 1 rfl
    · omega
    · cases e; exact ⟨g,rfl⟩
  have hrow:=(h.row 1 rfl)
  have hlen:=segCells_length ini vs hl
  have hc0:w.cell? ⟨g,ini.length * 3 + 2,none⟩ = some vl:=by
    have:=hrow.cells rfl (ini.length * 3 + 2) vl (by rw [List.getElem?_append_right (by omega),hlen,show ini.length * 3 + 2 - ini.length * 3 = 2 by omega]; rfl)
    simpa [Addr.add] using this
  have hgl:=hrow.lt g rfl
  have hne:vl.ownBlock ≠ some g:=h.ne 1 0 rfl rfl (by decide) rfl
  obtain ⟨av,cv,rfl,_⟩:=own_slice (h.row 0 rfl)
  have ho:=h.blk 2 rfl
  have hbl:=ho.lt
  have hor:=ho.rules
  simp (disch:=first|omega|exact okFill_t rfl|exact okSize_t rfl|exact fun h=>h|(simp only[World.size_alloc,World.size_drew,World.size_setCell,size_fill,bytesW];omega)) only [go_sem,c36,c36S0,c36S1,c36S2,c36S3,c36S4,c36L0,c36S5,c36S6,c36S7]
  refine c36draw1 (Chg (fun k => (Value.slice av s.ops.length cv).ownBlock = some k) _) (Chg.refl _ _) ?_
  simp (disch:=first|omega|exact okFill_t rfl|exact okSize_t rfl|exact fun h=>h|(simp only[World.size_alloc,World.size_drew,World.size_setCell,size_fill,bytesW];omega)) only [go_sem,c36,c36S0,c36S1,c36S2,c36S3,c36S4,c36L0,c36S5,c36S6,c36S7,c36D1,hc0,hor]
  refine ⟨⟨by omega,by omega⟩,bsW_agg ty22mkI rfl (by decide) (by decide) ?_⟩
  have h2:St W0 (w.alloc (.cells o.enc.toArray 38)).drew _ _ _:=(h.alloc' (.cells o.enc.toArray 38)).drew
  have hrd:Rd (w.alloc (.cells o.enc.toArray 38)).drew 11 (.slice (some ⟨w.heap.size,0,none⟩) 1 1) 1 o.enc:=rd_new (w:=w.drew) (t:=38) (sz:=11) (n:=1) (cs:=o.enc.toArray) rfl
  simp (disch:=first|omega|exact okFill_t rfl|exact okSize_t rfl|exact fun h=>h|(simp only[World.size_alloc,World.size_drew,World.size_setCell,size_fill,bytesW];omega)) only [go_sem,c36,c36S0,c36S1,c36S2,c36S3,c36S4,c36L0,c36S5,c36S6,c36S7,c36D1,hc0,hor]
  refine ⟨chg_da,h2.append 0 rfl ty22mkI rfl (by decide) hrd o.one (by omega) (by omega) ?_⟩
  intro v3 w3 s3 c3
  simp only [List.set_cons_zero] at s3
  obtain ⟨a3,c3',rfl,_⟩:=own_slice (s3.row 0 rfl)
  have s3':=s3.row 1 rfl
  simp (disch:=first|omega|exact okFill_t rfl|exact okSize_t rfl|exact fun h=>h|(simp only[World.size_alloc,World.size_drew,World.size_setCell,size_fill,bytesW];omega)) only [go_sem,c36,c36S0,c36S1,c36S2,c36S3,c36S4,c36L0,c36S5,c36S6,c36S7,c36D1,hc0,hor]
  have hc3:w3.cell? ⟨g,ini.length * 3 + 2,none⟩ = some (.slice av s.ops.length cv):=by
    have:=s3'.cells rfl (ini.length * 3 + 2) (.slice av s.ops.length cv) (by rw [List.getElem?_append_right (by omega),hlen,show ini.length * 3 + 2 - ini.length * 3 = 2 by omega]; rfl)
    simpa [Addr.add] using this
  have hf3:w3.frozen? ⟨g,ini.length * 3 + 2,none⟩ = false:=by
    obtain ⟨_,⟨h0,_⟩ | ⟨g',cap,cur,e,_,hb,_⟩⟩:=s3'
    · cases h0
    · cases e; exact Blk.frozen (show Blk w3 g cur _ from hb) _
  refine ⟨⟨by omega,by omega⟩,⟨_,hc3⟩,hf3,hQ _ (.inr ⟨ini,_,vs,.slice a3 (s.ops.length + 1) c3',rfl,hl,hN,?_⟩)⟩
  have s4:=(s3.put 1 rfl (ini.length * 3 + 2) (.slice a3 (s.ops.length + 1) c3')).sub (((List.sublist_cons_self _ _).cons_cons _).cons_cons _)
  rw [List.set_append_right _ _ (by omega),hlen,show ini.length * 3 + 2 - ini.length * 3 = 2 by omega] at s4
  have e1:(s.ops ++ [o]).flatMap OpT.enc = s.ops.flatMap OpT.enc ++ o.enc:=by rw [List.flatMap_append]; simp
  have e2:(s.ops ++ [o]).length = s.ops.length + 1:=by simp
  show St W0 _ _ (.row _ _ 11 (s.ops ++ [o]).length ((s.ops ++ [o]).flatMap OpT.enc) :: _) _
  rw [e1,e2]
  exact s4
theorem segments_ok (obj kind:Int) (v:Value) (l:List OpT) (w:World) (h:RdS w 11 OpT.enc v l) (hl:l.length ≤ 100) :
    Ret Tryz.prog 36 [.agg #[.int .i64 obj,.int .i64 kind,v]] w fun u w' => (∃ l',Sorts earI l l' ∧ ∀ w2:World,(∀ k,w.heap.size ≤ k → k < w'.heap.size → w2.heap[k]? = w'.heap[k]?) → RdR w2 3 segR u (l'.foldl (cutStep (fun s o => s.ops.all fun x => before x o) fun _ => (obj,kind)) [])) ∧ Below w.heap.size w w':=by
  obtain ⟨a,c,rfl,_⟩:=h.form
  refine ent36 _ _ _ ?_
  simp (disch:=first|omega|exact okFill_t rfl|exact okSize_t rfl|exact fun h=>h|(simp only[World.size_alloc,World.size_drew,World.size_setCell,size_fill,bytesW];omega)) only [go_sem,c36,c36S0,c36S1,c36S2,c36S3,c36S4,c36L0,c36S5,c36S6,c36S7]
  have s1:=(St.start (W0:=w)).box #[.int .i64 obj,.int .i64 kind,.slice a l.length c] 24
  have h1:=h.below s1.bel (by decide)
  generalize w.alloc (.cells #[.int .i64 obj,.int .i64 kind,.slice a l.length c] 24) = w1 at s1 h1 ⊢
  refine Ret.mono (clone_ok _ _ _ h1 hl) ?_
  rintro vl w2 ⟨o2,b2⟩
  have s2:=s1.add b2 (.row vl 38 11 l.length (l.flatMap OpT.enc)) (own_mono o2 s1.size) fun k hk => (o2.lt k hk).1
  simp (disch:=first|omega|exact okFill_t rfl|exact okSize_t rfl|exact fun h=>h|(simp only[World.size_alloc,World.size_drew,World.size_setCell,size_fill,bytesW];omega)) only [go_sem,c36,c36S0,c36S1,c36S2,c36S3,c36S4,c36L0,c36S5,c36S6,c36S7]
  refine Ret.mono (sort_ok earI _ (enters_of Tryz.func56 (by kernel_rfl) rfl) swo_ear earlier_ok vl l w2 _ (s2.row 0 rfl) hl) ?_
  rintro _ w3 ⟨l',hs,o3,c3⟩
  have s3:=s2.upd 0 rfl c3 (.row vl 38 11 l.length (l'.flatMap OpT.enc)) o3 fun k hk => .inl hk
  have hll:l'.length = l.length:=hs.1.length_eq
  simp only [List.set_cons_zero] at s3
  have s4:=s3.seal (.rd 11 OpT.enc vl l') (RdS.of_own' (s3.row 0 rfl) l' hll.symm rfl) fun k hk => slFoot_own hk
  obtain ⟨al,cl,rfl,_⟩:=own_slice o3
  simp (disch:=first|omega|exact okFill_t rfl|exact okSize_t rfl|exact fun h=>h|(simp only[World.size_alloc,World.size_drew,World.size_setCell,size_fill,bytesW];omega)) only [go_sem,c36,c36S0,c36S1,c36S2,c36S3,c36S4,c36L0,c36S5,c36S6,c36S7]
  refine W_loopU (fun x:Nat × Value => [(4,x.2),(15,.int .i64 x.1)]) (fun x w' => x.1 ≤ l'.length ∧ Cuts w w' [.blk w.heap.size #[.int .i64 obj,.int .i64 kind,.slice a l.length c] 24] [.rd 11 OpT.enc (.slice al l.length cl) l'] x.2 ((l'.take x.1).foldl (cutStep (fun s o => s.ops.all fun x => before x o) fun _ => (obj,kind)) [])) (fun x => l'.length - x.1) (0,.slice none 0 0) rfl ⟨Nat.zero_le _,.inl ⟨rfl,rfl,s4⟩⟩ ?_
  rintro ⟨k,vo⟩ w4 ⟨hk,hc⟩
  simp only at hk hc
  generalize ha:(l'.take k).foldl (cutStep (fun s o => s.ops.all fun x => before x o) fun _ => (obj,kind)) [] = acc at hc
  obtain ⟨ao,co,rfl⟩:=hc.form
  by_cases hlt:k < l'.length
  · have hlt':(k:Int) < l.length:=by omega
    have hstep:(l'.take (k + 1)).foldl (cutStep (fun s o => s.ops.all fun x => before x o) fun _ => (obj,kind)) [] = cutStep (fun s o => s.ops.all fun x => before x o) (fun _ => (obj,kind)) acc l'[k]:=by
      rw [List.take_succ_eq_append_getElem hlt,List.foldl_append,ha]; rfl
    have s5:St w w4 (fun _ => False) [.blk w.heap.size #[.int .i64 obj,.int .i64 kind,.slice a l.length c] 24] [.rd 11 OpT.enc (.slice al l.length cl) l']:=hc.base
    have r5:=s5.rules 0 rfl
    have g5:=s5.get 0 rfl
    have g5':RdS w4 11 OpT.enc (.slice al l.length cl) l':=g5
    obtain ⟨pl,rfl⟩:=RdS.ptr (by rw [← hll] at g5'; exact g5') (by omega)
    have el:=g5'.at OpT.len hlt
    simp (disch:=first|omega|exact okFill_t rfl|exact okSize_t rfl|exact fun h=>h|(simp only[World.size_alloc,World.size_drew,World.size_setCell,size_fill,bytesW];omega)) only [go_sem,c36,c36S0,c36S3,c36S4,c36L0,c36S5,c36S6,c36S7,hlt',r5,el]
    have hflat:=cut_flat (fun s o => s.ops.all fun x => before x o) (fun _ => (obj,kind)) (l'.take k) []
    have hne:=cut_ne (fun s o => s.ops.all fun x => before x o) (fun _ => (obj,kind)) (l'.take k) [] (fun s h => by cases h)
    rw [ha] at hflat hne
    simp only [List.flatMap_nil,List.nil_append] at hflat
    have hlen:=segs_len acc hne
    have hfl:(acc.flatMap Seg.ops).length = k:=by rw [hflat,List.length_take]; omega
    refine ⟨by omega,rfl,⟨by omega,by omega⟩,?_⟩
    have hc6:=hc.box l'[k].enc.toArray 38
    have hw6:=hc6.base.size
    have r6:=hc6.base.rules 1 rfl
    have ho:=hc6.base.blk 0 rfl
    generalize w4.heap.size = bo at hc6 ho ⊢
    generalize w4.alloc (.cells l'[k].enc.toArray 38) = w6 at hc6 ho r6 hw6 ⊢
    have ro:=ho.rules
    have hw7:=ho.lt
    rcases List.eq_nil_or_concat acc with rfl | ⟨ini,s,hacc⟩
    · refine c36draw0 (Chg (fun _ => False) _) (Chg.refl _ _) ?_
      simp (disch:=first|omega|exact okFill_t rfl|exact okSize_t rfl|exact fun h=>h|(simp only[World.size_alloc,World.size_drew,World.size_setCell,size_fill,bytesW];omega)) only [go_sem,c36,c36S0,c36S1,c36S3,c36S4,c36L0,c36S5,c36S6,c36S7,c36D0,r6]
      refine bdW_built (cells:=(segC ⟨obj,kind,[]⟩ (.slice none 0 0)).toArray) (by kernel_rfl) ?_
      simp (disch:=first|omega|exact okFill_t rfl|exact okSize_t rfl|exact fun h=>h|(simp only[World.size_alloc,World.size_drew,World.size_setCell,size_fill,bytesW];omega)) only [go_sem,c36,c36S0,c36S1,c36S3,c36S4,c36L0,c36S5,c36S6,c36S7]
      refine bsW_agg ty47mkI rfl (by decide) (by decide) ?_
      simp (disch:=first|omega|exact okFill_t rfl|exact okSize_t rfl|exact fun h=>h|(simp only[World.size_alloc,World.size_drew,World.size_setCell,size_fill,bytesW];omega)) only [go_sem,c36,c36S0,c36S1,c36S3,c36S4,c36L0,c36S5,c36S6,c36S7]
      have hrd:Rd (w6.alloc (.cells (segC ⟨obj,kind,[]⟩ (.slice none 0 0)).toArray 24)).drew 3 (.slice (some ⟨w6.heap.size,0,none⟩) 1 1) 1 (segC ⟨obj,kind,[]⟩ (.slice none 0 0)):=rd_new (w:=w6.drew) (t:=24) (sz:=3) (n:=1) (cs:=(segC ⟨obj,kind,[]⟩ (.slice none 0 0)).toArray) rfl
      refine (hc6.call (w':=(w6.alloc (.cells (segC ⟨obj,kind,[]⟩ (.slice none 0 0)).toArray 24)).drew) ((Below.refl _ w6).alloc (Nat.le_refl _) _).drew).grow obj kind (by simp) hrd ?_
      intro v8 w8 c8
      simp (disch:=first|omega|exact okFill_t rfl|exact okSize_t rfl|exact fun h=>h|(simp only[World.size_alloc,World.size_drew,World.size_setCell,size_fill,bytesW];omega)) only [go_sem,c36,c36S0,c36S1,c36S3,c36S4,c36L0,c36S5,c36S6,c36S7]
      refine ⟨⟨by decide,by decide⟩,push16 (ini:=[]) l'[k] bo _ _ _ _ c8 (by simp) (by simp) ?_⟩
      intro w9 c9
      simp (disch:=first|omega|exact okFill_t rfl|exact okSize_t rfl|exact fun h=>h|(simp only[World.size_alloc,World.size_drew,World.size_setCell,size_fill,bytesW];omega)) only [go_sem,c36,c36S0,c36S1,c36S2,c36S3,c36S4,c36L0,c36S5,c36S6,c36S7]
      refine ⟨⟨by omega,by omega⟩,(k + 1,_),rfl,⟨by simp only; omega,?_⟩,by simp only; omega⟩
      simp only
      rw [hstep,cutStep_nil]
      exact c9
    · rw [List.concat_eq_append] at hacc
      subst hacc
      rcases id hc6 with ⟨h0,_⟩ | ⟨ini',s',vs,vl,he,hvl,hN6,s6⟩
      · simp at h0
      obtain ⟨rfl,rfl⟩:ini = ini' ∧ s = s':=by
        have:=List.append_inj' he rfl
        exact ⟨this.1,by simpa using this.2⟩
      have hnz:((ini ++ [s]).length:Int) - 1 = ini.length:=by simp
      rw [hnz]
      rw [List.length_append,List.length_singleton] at hc6 s6 ⊢
      obtain ⟨g,rfl⟩:∃ g,ao = some ⟨g,0,none⟩:=by
        obtain ⟨_,⟨_,h0⟩ | ⟨g,cap,cur,e,_⟩⟩:=s6.row 1 rfl
        · omega
        · cases e; exact ⟨g,rfl⟩
      have hrow:=s6.row 1 rfl
      have hsl:=segCells_length ini vs hvl
      have hc0:w6.cell? ⟨g,ini.length * 3 + 2,none⟩ = some vl:=by
        have:=hrow.cells rfl (ini.length * 3 + 2) vl (by rw [List.getElem?_append_right (by omega),hsl,show ini.length * 3 + 2 - ini.length * 3 = 2 by omega]; rfl)
        simpa [Addr.add] using this
      have hgl:=hrow.lt g rfl
      have hil:=s6.row 0 rfl
      obtain ⟨av,cv,rfl,_⟩:=own_slice (s6.row 0 rfl)
      refine c36draw0 (Chg (fun _ => False) _) (Chg.refl _ _) ?_
      simp (disch:=first|omega|exact okFill_t rfl|exact okSize_t rfl|exact fun h=>h|(simp only[World.size_alloc,World.size_drew,World.size_setCell,size_fill,bytesW];omega)) only [go_sem,c36,c36S0,c36S1,c36S3,c36S4,c36L0,c36S5,c36S6,c36S7,c36D0,r6,ro,hc0]
      have hsl':=seg_len (ini ++ [s]) s (by simp)
      refine ⟨fun _ => ⟨⟨by omega,by omega⟩,Ret.mono (quiet_ok _ s.ops l'[k] _ (RdS.of_own (hil.drew)) (by omega)) ?_⟩,fun h => by omega⟩
      rintro _ w8 ⟨rfl,b8⟩
      have hc8:Cuts w w8 _ _ _ (ini ++ [s]):=(hc6.call ((Below.refl _ w6).drew)).call b8
      have r8:=hc8.base.rules 1 rfl
      simp (disch:=first|omega|exact okFill_t rfl|exact okSize_t rfl|exact fun h=>h|(simp only[World.size_alloc,World.size_drew,World.size_setCell,size_fill,bytesW];omega)) only [go_sem,c36,c36S0,c36S1,c36S3,c36S4,c36L0,c36S5,c36S6,c36S7,c36D0,r6,ro,hc0,r8]
      refine ⟨fun hq => ?_,fun hq => ?_⟩
      · refine bdW_built (cells:=(segC ⟨obj,kind,[]⟩ (.slice none 0 0)).toArray) (by kernel_rfl) ?_
        simp (disch:=first|omega|exact okFill_t rfl|exact okSize_t rfl|exact fun h=>h|(simp only[World.size_alloc,World.size_drew,World.size_setCell,size_fill,bytesW];omega)) only [go_sem,c36,c36S0,c36S1,c36S3,c36S4,c36L0,c36S5,c36S6,c36S7]
        refine bsW_agg ty47mkI rfl (by decide) (by decide) ?_
        simp (disch:=first|omega|exact okFill_t rfl|exact okSize_t rfl|exact fun h=>h|(simp only[World.size_alloc,World.size_drew,World.size_setCell,size_fill,bytesW];omega)) only [go_sem,c36,c36S0,c36S1,c36S3,c36S4,c36L0,c36S5,c36S6,c36S7]
        have hrd:Rd (w8.alloc (.cells (segC ⟨obj,kind,[]⟩ (.slice none 0 0)).toArray 24)) 3 (.slice (some ⟨w8.heap.size,0,none⟩) 1 1) 1 (segC ⟨obj,kind,[]⟩ (.slice none 0 0)):=rd_new (t:=24) (sz:=3) (n:=1) (cs:=(segC ⟨obj,kind,[]⟩ (.slice none 0 0)).toArray) rfl
        refine (hc8.call (w':=w8.alloc (.cells (segC ⟨obj,kind,[]⟩ (.slice none 0 0)).toArray 24)) ((Below.refl _ w8).alloc (Nat.le_refl _) _)).grow obj kind (by simp; omega) hrd ?_
        intro v9 w9 c9
        simp (disch:=first|omega|exact okFill_t rfl|exact okSize_t rfl|exact fun h=>h|(simp only[World.size_alloc,World.size_drew,World.size_setCell,size_fill,bytesW];omega)) only [go_sem,c36,c36S0,c36S1,c36S3,c36S4,c36L0,c36S5,c36S6,c36S7]
        refine ⟨⟨by omega,by omega⟩,?_⟩
        rw [show (ini.length:Int) + 1 = ((ini ++ [s]).length:Nat) by simp]
        refine push16 (ini:=ini ++ [s]) l'[k] bo _ _ _ _ c9 (by simp; omega) (by simp) ?_
        intro w10 c10
        simp (disch:=first|omega|exact okFill_t rfl|exact okSize_t rfl|exact fun h=>h|(simp only[World.size_alloc,World.size_drew,World.size_setCell,size_fill,bytesW];omega)) only [go_sem,c36,c36S0,c36S1,c36S2,c36S3,c36S4,c36L0,c36S5,c36S6,c36S7]
        refine ⟨⟨by omega,by omega⟩,(k + 1,_),rfl,⟨by simp only; omega,?_⟩,by simp only; omega⟩
        simp only
        rw [hstep,cutStep_new _ _ hq]
        exact c10
      · refine push16 l'[k] bo _ _ _ _ hc8 (by omega) (by omega) ?_
        intro w9 c9
        simp (disch:=first|omega|exact okFill_t rfl|exact okSize_t rfl|exact fun h=>h|(simp only[World.size_alloc,World.size_drew,World.size_setCell,size_fill,bytesW];omega)) only [go_sem,c36,c36S0,c36S1,c36S2,c36S3,c36S4,c36L0,c36S5,c36S6,c36S7]
        refine ⟨⟨by omega,by omega⟩,(k + 1,_),rfl,⟨by simp only; omega,?_⟩,by simp only; omega⟩
        simp only
        rw [hstep,cutStep_old _ _ hq]
        exact c9
  · have hlt':¬ (k:Int) < l.length:=by omega
    simp (disch:=first|omega|exact okFill_t rfl|exact okSize_t rfl|exact fun h=>h|(simp only[World.size_alloc,World.size_drew,World.size_setCell,size_fill,bytesW];omega)) only [go_sem,c36,c36S0,c36S1,c36S2,c36S3,c36S4,c36L0,c36S5,c36S6,c36S7,hlt']
    have hkl:k = l'.length:=by omega
    subst hkl
    rw [List.take_length] at ha
    subst ha
    have hflat:=cut_flat (fun s o => s.ops.all fun x => before x o) (fun _ => (obj,kind)) l' []
    refine ⟨⟨l',hs,hc.out fun s hs => ?_⟩,hc.bel⟩
    have h1:=seg_len _ s hs
    rw [hflat] at h1
    simp only [List.flatMap_nil,List.nil_append] at h1
    omega
end Go.Proofs.YteiciplnfjnfjaaGreat.Cut

namespace Go.Proofs.YteiciplnfjnfjaaGreat
set_option linter.unusedSimpArgs false
set_option linter.unusedVariables false
set_option maxRecDepth 100000
open Go Go.Ann Go.RowKit
def setL:List Value → Nat → List Value → List Value
  | xs,_,[] => xs
  | xs,o,v :: vs => setL (xs.set o v) (o + 1) vs
theorem setL_mid:∀ (vs A B C:List Value),B.length = vs.length → setL (A ++ B ++ C) A.length vs = A ++ vs ++ C
  | [],A,B,C,h => by
    obtain rfl:=List.length_eq_zero_iff.1 h
    rfl
  | v :: vs,A,b :: B,C,h => by
    rw [setL]
    have e:(A ++ b :: B ++ C).set A.length v = (A ++ [v]) ++ B ++ C:=by
      rw [List.append_assoc,List.set_append_right _ _ (Nat.le_refl _),Nat.sub_self]
      simp
    rw [e]
    have:=setL_mid vs (A ++ [v]) B C (by simpa using h)
    rw [List.length_append,List.length_singleton] at this
    rw [this]
    simp
  | v :: vs,A,[],C,h => by simp at h
theorem ops_len (m:List OpT):(m.flatMap OpT.enc).length = m.length * 11:=by
  induction m with
  | nil => rfl
  | cons o m ih => rw [List.flatMap_cons,List.length_append,ih,OpT.len,List.length_cons]; omega
theorem setL_flat {m:List OpT} {i:Nat} (o:OpT) (h:i < m.length):setL (m.flatMap OpT.enc) (i * 11) (OpT.enc o) = (m.set i o).flatMap OpT.enc:=by
  have e1:m = m.take i ++ [m[i]] ++ m.drop (i + 1):=by rw [← List.take_succ_eq_append_getElem h,List.take_append_drop]
  have e2:m.set i o = m.take i ++ [o] ++ m.drop (i + 1):=by rw [List.set_eq_take_append_cons_drop,if_pos h]; simp
  have e3:i * 11 = ((m.take i).flatMap OpT.enc).length:=by rw [ops_len,List.length_take]; congr 1; omega
  rw [e2]
  conv => lhs; arg 1; rw [e1]
  rw [e3,List.flatMap_append,List.flatMap_append,List.flatMap_append,List.flatMap_append,List.flatMap_singleton,List.flatMap_singleton]
  exact setL_mid _ _ _ _ (by rw [OpT.len,OpT.len])
theorem row_store {W0:World} {F:Nat → Prop} {I:List Inv} {i g cap n e sz:Nat}:∀ (vs:List Value) {w:World} {L:List Res} {xs:List Value} (o k:Nat),St W0 w F L I → L[i]? = some (.row (.slice (some ⟨g,0,none⟩) n cap) e sz n xs) → St W0 (setCellsW w ⟨g,o,none⟩ k vs) F (L.set i (.row (.slice (some ⟨g,0,none⟩) n cap) e sz n (setL xs (o + k) vs))) I
  | [],w,L,xs,o,k,h,hi => by
    rw [setL,setCellsW]
    have:L.set i (.row (.slice (some ⟨g,0,none⟩) n cap) e sz n xs) = L:=by
      obtain ⟨hl,e⟩:=List.getElem?_eq_some_iff.1 hi
      rw [← e,List.set_getElem_self]
    rw [this]
    exact h
  | v :: vs,w,L,xs,o,k,h,hi => by
    rw [setL,setCellsW]
    have h1:=h.put i hi (o + k) v
    obtain ⟨hl,_⟩:=List.getElem?_eq_some_iff.1 hi
    have h2:=row_store vs o (k + 1) h1 (List.getElem?_set_self hl)
    rw [List.set_set] at h2
    have e1:(⟨g,o,none⟩:Addr).add k = ⟨g,o + k,none⟩:=by simp [Addr.add]
    rw [e1,Nat.add_assoc]
    exact h2
theorem own_cell11 {w:World} {B0 e n m c g:Nat} {xs:List Value} (h:w.ownsRow B0 e 11 (.slice (some ⟨g,0,none⟩) n c) m xs):(∀ j u,xs[j]? = some u → w.cell? ⟨g,j,none⟩ = some u) ∧ ∀ j,w.frozen? ⟨g,j,none⟩ = false:=by
  rcases h.2 with ⟨e0,_⟩ | ⟨g',cap,cur,e0,_,hB,hnc,hcm,hcs,htk⟩
  · cases e0
  · cases e0
    have r:Blk w g cur e:=hB
    refine ⟨fun j u hu => ?_,fun j => r.rules.2.1 j⟩
    rw [r.rules.1 j]
    rw [← htk,List.getElem?_take] at hu
    split at hu
    · rw [← Array.getElem?_toList]; exact hu
    · cases hu
theorem store_elt {W0 w:World} {F:Nat → Prop} {L:List Res} {I:List Inv} {i g c n e k:Nat} {m:List OpT} {K:Value → World → Prop} (o:OpT) (s:St W0 w F L I) (hi:L[i]? = some (.row (.slice (some ⟨g,0,none⟩) n c) e 11 m.length (m.flatMap OpT.enc))) (hn:n = m.length) (hk:k < m.length)
    (hK:∀ w',St W0 w' F (L.set i (.row (.slice (some ⟨g,0,none⟩) n c) e 11 m.length ((m.set k o).flatMap OpT.enc))) I → K undef w'):storeW Tryz.prog 38 ((⟨g,0,none⟩:Addr).add (k * 11)) (.agg o.enc.toArray) w K:=by
  subst hn
  have e0:(⟨g,0,none⟩:Addr).add (k * 11) = ⟨g,k * 11,none⟩:=by rw [Addr.add_lit,Nat.zero_add]
  obtain ⟨h1,h2⟩:=own_cell11 (s.row i hi)
  have hl:=ops_len m
  have hkl:k * 11 + 11 ≤ m.length * 11:=by omega
  have ez:(Value.agg o.enc.toArray).cells.toList = o.enc:=rfl
  have es:(Value.agg o.enc.toArray).cells.size = 11:=by show o.enc.toArray.size = 11; rw [List.size_toArray,OpT.len]
  rw [e0]
  refine ⟨by rw [es]; simp only [go_sem],?_,fun j hj => ?_,hK _ ?_⟩
  · rw [ez]; exact OpT.one o
  · rw [es] at hj
    have e1:(⟨g,k * 11,none⟩:Addr).add j = ⟨g,k * 11 + j,none⟩:=by simp [Addr.add]
    rw [e1]
    exact ⟨⟨_,h1 _ _ (List.getElem?_eq_getElem (by rw [hl]; omega))⟩,h2 _⟩
  · rw [ez,← setL_flat o hk]
    exact row_store _ (k * 11) 0 s hi
theorem without1_ok (o:OpT) (b:Nat) (i:Int) (w:World) (hb:w.cell? ⟨b,0,none⟩ = some (.int .i64 i)) (hlt:b < w.heap.size):Ret Tryz.prog 51 [.agg o.enc.toArray,.pointer (some ⟨b,0,none⟩)] w fun u w' => u = .bool (decide (o.ID = i)) ∧ Below w.heap.size w w':=by
  refine ent51 _ _ _ _ ?_
  have ao:=o.at
  have s1:=(St.start (W0:=w)).box o.enc.toArray 38
  have h1:=(s1.bel.cell hlt).trans hb
  have r1:=s1.rules 0 rfl
  simp (disch:=first|omega|exact okFill_t rfl|exact okSize_t rfl|exact fun h=>h|(simp only[World.size_alloc,World.size_drew,World.size_setCell,size_fill,bytesW];omega)) only [go_sem,c51,h1,r1,ao]
  exact s1.bel
theorem wo_snoc (l:List OpT) (o:OpT) (i:Int):wo (l ++ [o]) i = wo l i ++ (if o.ID = i then [] else [o]):=by
  unfold wo
  rw [List.filter_append]
  by_cases h:o.ID = i <;> simp [h]
theorem wo_none {l:List OpT} {i:Int} (h:∀ o ∈ l,o.ID ≠ i):wo l i = l:=by
  unfold wo
  exact List.filter_eq_self.2 fun o ho => by simpa using h o ho
structure Half (l:List OpT) (d:Int) (i j:Nat) (m:List OpT):Prop where
  len:m.length = l.length
  lt:i < j
  le:j ≤ l.length
  cnt:i = (wo (l.take j) d).length
  pre:m.take i = wo (l.take j) d
  post:m.drop j = l.drop j
theorem Half.at {l m:List OpT} {d:Int} {i j:Nat} (h:Half l d i j m) (hj:j < l.length):m[j]'(by rw [h.len]; exact hj) = l[j]:=by
  have h1:(m.drop j)[0]? = (l.drop j)[0]?:=by rw [h.post]
  rw [List.getElem?_drop,List.getElem?_drop,Nat.add_zero,List.getElem?_eq_getElem hj,List.getElem?_eq_getElem (by rw [h.len]; exact hj),Option.some.injEq] at h1
  exact h1
theorem Half.skip {l m:List OpT} {d:Int} {i j:Nat} (h:Half l d i j m) (hj:j < l.length) (he:l[j].ID = d):Half l d i (j + 1) m:=by
  have e:wo (l.take (j + 1)) d = wo (l.take j) d:=by rw [List.take_succ_eq_append_getElem hj,wo_snoc,if_pos he,List.append_nil]
  refine ⟨h.len,by have:=h.lt; omega,hj,by rw [e]; exact h.cnt,by rw [e]; exact h.pre,?_⟩
  have:=congrArg (List.drop 1) h.post
  rwa [List.drop_drop,List.drop_drop] at this
theorem Half.keep {l m:List OpT} {d:Int} {i j:Nat} (h:Half l d i j m) (hj:j < l.length) (he:¬ l[j].ID = d):Half l d (i + 1) (j + 1) (m.set i l[j]):=by
  have e:wo (l.take (j + 1)) d = wo (l.take j) d ++ [l[j]]:=by rw [List.take_succ_eq_append_getElem hj,wo_snoc,if_neg he]
  have hlt:=h.lt
  have hlen:=h.len
  have hi:i < m.length:=by omega
  refine ⟨by rw [List.length_set]; exact h.len,by omega,hj,by rw [e,List.length_append,← h.cnt]; rfl,?_,?_⟩
  · rw [e,List.take_succ_eq_append_getElem (by rw [List.length_set]; exact hi),List.getElem_set_self,List.take_set_of_le (Nat.le_refl _),h.pre]
  · rw [List.drop_set_of_lt (by omega)]
    have:=congrArg (List.drop 1) h.post
    rwa [List.drop_drop,List.drop_drop] at this
theorem Half.start {l:List OpT} {d:Int} {k:Nat} (hk:k < l.length) (he:l[k].ID = d) (hb:∀ j,(h:j < l.length) → j < k → ¬ l[j].ID = d):Half l d k (k + 1) l:=by
  have e:wo (l.take (k + 1)) d = l.take k:=by
    rw [List.take_succ_eq_append_getElem hk,wo_snoc,if_pos he,List.append_nil]
    refine wo_none fun o ho => ?_
    obtain ⟨j,hj,rfl⟩:=List.mem_iff_getElem.1 ho
    rw [List.length_take] at hj
    rw [List.getElem_take]
    exact hb j (by omega) (by omega)
  exact ⟨rfl,by omega,hk,by rw [e,List.length_take]; omega,e.symm,rfl⟩
theorem delOps_ok {W0 w:World} {F:Nat → Prop} {L:List Res} {I:List Inv} {v:Value} {b:Nat} {d:Int} {l:List OpT} (h:St W0 w F (.row v 38 11 l.length (l.flatMap OpT.enc) :: .blk b #[.int .i64 d] 3 :: L) I) (hl:l.length ≤ 100) :
    Ret Tryz.prog 50 [v,.func (.func 51) #[] #[.pointer (some ⟨b,0,none⟩)]] w fun u w' => St W0 w' F (.row u 38 11 (wo l d).length ((wo l d).flatMap OpT.enc) :: .blk b #[.int .i64 d] 3 :: L) I:=by
  obtain ⟨a,c,rfl,hc⟩:=own_slice (h.row 0 rfl)
  refine ent50 _ _ _ _ ?_
  have hb:=(h.rules 1 rfl).1 0
  have hlb:b < w.heap.size:=(h.blk 1 rfl).lt
  have hr:RdS w 11 OpT.enc (.slice a l.length c) l:=RdS.of_own (h.row 0 rfl)
  have tells:∀ (o:OpT) (w':World),w'.cell? ⟨b,0,none⟩ = some (.int .i64 d) → b < w'.heap.size → callW Tryz.prog (.func (.func 51) #[] #[.pointer (some ⟨b,0,none⟩)]) [.agg o.enc.toArray] w' fun u w'' => u = .bool (decide (o.ID = d)) ∧ Below w'.heap.size w' w'':=fun o w' h1 h2 => by
    exact callW_go ⟨by kernel_rfl,without1_ok o b d w' h1 h2⟩
  simp (disch:=first|omega|exact okFill_t rfl|exact okSize_t rfl|exact fun h=>h|(simp only[World.size_alloc,World.size_drew,World.size_setCell,size_fill,bytesW];omega)) only [go_sem,c50,c50S0,c50S1,c50S2,c50L0,c50S3,c50S4,c50S5,c50S6]
  refine Ret.mono (Cut.indexFunc_ok _ (fun o => decide (o.ID = d)) _ l w hr (fun o w' hb' => tells o w' ((hb'.cell hlb).trans hb) (Nat.lt_of_lt_of_le hlb hb'.size)) (by omega)) ?_
  rintro _ w2 ⟨rfl,b2⟩
  have s2:=h.call b2
  cases e:l.findIdx? fun o => decide (o.ID = d) with
  | none =>
    have e1:Cut.firstI (fun o => decide (o.ID = d)) l = -1:=by unfold Cut.firstI; rw [e]
    have e2:wo l d = l:=wo_none fun o ho => by simpa using List.findIdx?_eq_none_iff.1 e o ho
    rw [e1]
    simp (disch:=first|omega|exact okFill_t rfl|exact okSize_t rfl|exact fun h=>h|(simp only[World.size_alloc,World.size_drew,World.size_setCell,size_fill,bytesW];omega)) only [go_sem,c50,c50S0,c50S1,c50S2,c50L0,c50S3,c50S4,c50S5,c50S6]
    rw [e2]
    exact s2
  | some k =>
    have e1:Cut.firstI (fun o => decide (o.ID = d)) l = k:=by unfold Cut.firstI; rw [e]
    obtain ⟨hk,hkp,hkb⟩:=List.findIdx?_eq_some_iff_getElem.1 e
    rw [e1]
    have hs:Half l d k (k + 1) l:=Half.start hk (by simpa using hkp) fun j hj hjk => by simpa using hkb j hjk
    obtain ⟨q,rfl,hq⟩:∃ q,a = some q ∧ ∃ g,q = ⟨g,0,none⟩:=by
      rcases (h.row 0 rfl).2 with ⟨h1,h2⟩ | ⟨g,c',cur,h1,_⟩
      · omega
      · cases h1; exact ⟨_,rfl,g,rfl⟩
    have hk1:¬ (k:Int) = -1:=by omega
    simp (disch:=first|omega|exact okFill_t rfl|exact okSize_t rfl|exact fun h=>h|(simp only[World.size_alloc,World.size_drew,World.size_setCell,size_fill,bytesW];omega)) only [go_sem,c50,c50S0,c50S1,c50S2,c50L0,c50S3,c50S5,c50S6,hk1]
    refine ⟨⟨by omega,by omega⟩,?_⟩
    refine W_loopU (fun x:Nat × Nat × List OpT => [(5,.int .i64 x.1),(6,.int .i64 x.2.1)]) (fun x w' => St W0 w' F (.row (.slice (some q) l.length c) 38 11 l.length (x.2.2.flatMap OpT.enc) :: .blk b #[.int .i64 d] 3 :: L) I ∧ Half l d x.1 x.2.1 x.2.2) (fun x => l.length - x.2.1) (k,k + 1,l) rfl ⟨s2,hs⟩ ?_
    rintro ⟨i,j,m⟩ w3 ⟨s3,hm⟩
    simp only at s3 hm
    have hlt:=hm.lt
    have hle:=hm.le
    by_cases hj:j < l.length
    · have hj':(j:Int) < l.length:=by omega
      have hr3:RdS w3 11 OpT.enc (.slice (some q) l.length c) m :=
        RdS.of_own' (s3.row 0 rfl) m hm.len.symm rfl
      have hjm:j < m.length:=by rw [hm.len]; exact hj
      have eo:=hr3.eltB (Below.refl _ _) OpT.len (by decide) hjm
      have ao:=m[j].at
      have ck:=hr3.at OpT.len hjm
      have em:=hm.at hj
      simp (disch:=first|omega|exact okFill_t rfl|exact okSize_t rfl|exact fun h=>h|(simp only[World.size_alloc,World.size_drew,World.size_setCell,size_fill,bytesW];omega)) only [go_sem,c50,c50S0,c50S1,c50S2,c50L0,c50S3,c50S4,c50S5,c50S6,c50L0,hj',ck,eo,ao]
      refine ⟨by omega,?_⟩
      have s4:=s3.box m[j].enc.toArray 38
      rw [em] at s4 ⊢
      generalize w3.alloc (.cells l[j].enc.toArray 38) = w4 at s4 ⊢
      refine ⟨(OpT.len _).symm,callW_mono (tells l[j] w4 ((s4.rules 2 rfl).1 0) (s4.blk 2 rfl).lt) ?_⟩
      rintro _ w5 ⟨rfl,b5⟩
      have s5:=s4.call b5
      have r5:=s5.rules 0 rfl
      have aj:=l[j].at
      by_cases hd:l[j].ID = d
      · simp (disch:=first|omega|exact okFill_t rfl|exact okSize_t rfl|exact fun h=>h|(simp only[World.size_alloc,World.size_drew,World.size_setCell,size_fill,bytesW];omega)) only [go_sem,c50,c50S0,c50S1,c50S2,c50L0,c50S3,c50S4,c50S5,c50S6,hd]
        exact ⟨⟨by omega,by omega⟩,(i,j + 1,m),rfl,⟨s5.sub (List.sublist_cons_self _ _),hm.skip hj hd⟩,by simp only; omega⟩
      · simp (disch:=first|omega|exact okFill_t rfl|exact okSize_t rfl|exact fun h=>h|(simp only[World.size_alloc,World.size_drew,World.size_setCell,size_fill,bytesW];omega)) only [go_sem,c50,c50S0,c50S1,c50S2,c50L0,c50S3,c50S4,c50S5,c50S6,hd,r5,aj]
        refine ⟨⟨by omega,by omega⟩,?_⟩
        obtain ⟨g,rfl⟩:=hq
        have s6:=s5.sub (List.sublist_cons_self _ _)
        rw [← hm.len] at s6
        refine store_elt (n:=m.length) _ s6 (i:=0) rfl rfl (by rw [hm.len]; omega) ?_
        intro w7 s7
        simp (disch:=first|omega|exact okFill_t rfl|exact okSize_t rfl|exact fun h=>h|(simp only[World.size_alloc,World.size_drew,World.size_setCell,size_fill,bytesW];omega)) only [go_sem,c50,c50S0,c50S1,c50S2,c50L0,c50S3,c50S4,c50S5,c50S6]
        rw [hm.len] at s7
        exact ⟨⟨by omega,by omega⟩,⟨by omega,by omega⟩,(i + 1,j + 1,m.set i l[j]),rfl,⟨s7,hm.keep hj hd⟩,by simp only; omega⟩
    · have hj':¬ (j:Int) < l.length:=by omega
      simp (disch:=first|omega|exact okFill_t rfl|exact okSize_t rfl|exact fun h=>h|(simp only[World.size_alloc,World.size_drew,World.size_setCell,size_fill,bytesW];omega)) only [go_sem,c50,c50S0,c50S1,c50S2,c50L0,c50S4,c50S5,c50S6,c50L0,hj']
      obtain ⟨g,rfl⟩:=hq
      refine ⟨⟨by omega,by omega⟩,?_⟩
      obtain rfl:j = l.length:=by omega
      have hown:=s3.row 0 rfl
      rcases hown.2 with ⟨e0,_⟩ | ⟨g',c',cur,e0,hg,hB,hnc,hcm,hcs,htk⟩
      · cases e0
      cases e0
      have eoff:offA (some ⟨g,0,none⟩) c i 11 = some ⟨g,i * 11,none⟩:=by
        unfold offA
        rw [if_neg (by omega),Option.map_some,Addr.add_lit,Nat.zero_add]
      rw [eoff]
      refine clearB ty22mkI rfl (by decide) hB (o:=i * 11) (by rw [hcs]; have:l.length * 11 ≤ c * 11:=Nat.mul_le_mul_right _ hnc; omega) ?_
      intro w8 ys hys hB8 hC
      simp (disch:=first|omega|exact okFill_t rfl|exact okSize_t rfl|exact fun h=>h|(simp only[World.size_alloc,World.size_drew,World.size_setCell,size_fill,bytesW];omega)) only [go_sem,c50,c50S0,c50S1,c50S2,c50L0,c50S3,c50S4,c50S5,c50S6]
      have hpre:=hm.pre
      rw [List.take_length] at hpre
      have hcnt:i = (wo l d).length:=by have:=hm.cnt; rwa [List.take_length] at this
      have hcc:i * 11 + (l.length - i) * 11 = l.length * 11:=by rw [← Nat.add_mul]; congr 1; omega
      have hcs':l.length * 11 ≤ cur.toList.length:=by
        have e:cur.toList.length = cur.size:=rfl
        rw [e,hcs]; exact Nat.mul_le_mul_right _ hnc
      refine ⟨⟨by omega,by omega⟩,?_⟩
      have e00:offA (some (⟨g,0,none⟩:Addr)) c 0 11 = some ⟨g,0,none⟩:=Cut.offA_zero
      rw [e00]
      have hown8:w8.ownsRow W0.heap.size 38 11 (.slice (some ⟨g,0,none⟩) i c) (wo l d).length ((wo l d).flatMap OpT.enc):=by
        refine ⟨ops_len _,.inr ⟨g,c,_,by rw [hcnt],hg,hB8,by omega,hcm,by rw [List.size_toArray,overL_length (by rw [hys,hcc]; exact hcs'),Array.length_toList,hcs],?_⟩⟩
        have e9:(overL cur.toList (i * 11) ys).take (i * 11) = cur.toList.take (i * 11):=by
          unfold overL
          rw [List.append_assoc,List.take_append_of_le_length (by rw [List.length_take]; omega),List.take_take,Nat.min_self]
        rw [← hcnt,e9]
        have e10:=congrArg (List.take (i * 11)) htk
        rw [List.take_take,Nat.min_eq_left (by omega)] at e10
        rw [e10,← hpre]
        conv => lhs; arg 2; rw [← List.take_append_drop i m]
        rw [List.flatMap_append,List.take_left' (by rw [ops_len,List.length_take,hm.len]; congr 1; omega)]
      have hC':Chg (fun j => (Res.row (.slice (some ⟨g,0,none⟩) l.length c) 38 11 l.length (m.flatMap OpT.enc)).own = some j) w3 w8:=hC.mono fun j _ hj => by subst hj; rfl
      exact s3.upd 0 rfl hC' (.row (.slice (some ⟨g,0,none⟩) i c) 38 11 (wo l d).length ((wo l d).flatMap OpT.enc)) hown8 fun k hk => .inl hk
theorem own_ge {w:World} {B e sz n:Nat} {v:Value} {xs:List Value} (h:w.ownsRow B e sz v n xs) (k:Nat) (hk:v.ownBlock = some k):B ≤ k:=by
  rcases h.2 with ⟨rfl,_⟩ | ⟨g,c,cur,rfl,hg,_⟩
  · simp [Value.ownBlock] at hk
  · simp only [Value.ownBlock,Option.some.injEq] at hk
    omega
theorem own_lower {w:World} {B B' e sz n:Nat} {v:Value} {xs:List Value} (h:w.ownsRow B e sz v n xs) (hb:B' ≤ B):w.ownsRow B' e sz v n xs:=by
  refine ⟨h.1,h.2.imp id ?_⟩
  rintro ⟨g,c,cur,h1,h2,h3⟩
  exact ⟨g,c,cur,h1,Nat.le_trans hb h2,h3⟩
theorem newRow {W0 w w':World} {F:Nat → Prop} {L:List Res} {I:List Inv} {e sz n:Nat} {v:Value} {xs:List Value} (h:St W0 w F L I) (hb:Below w.heap.size w w') (ho:w'.ownsRow w.heap.size e sz v n xs):St W0 w' F (.row v e sz n xs :: L) I :=
  h.add hb (.row v e sz n xs) (own_lower ho h.bel.size) fun k hk => own_ge ho k hk
theorem wo_len_le (l:List OpT) (d:Int):(wo l d).length ≤ l.length:=List.length_filter_le _ _
theorem wout_ok {w:World} {v:Value} {ob kd d:Int} {l:List OpT} (h:RdS w 11 OpT.enc v l) (hl:l.length ≤ 100) :
    Ret Tryz.prog 29 [.agg #[.int .i64 ob,.int .i64 kd,v],.int .i64 d] w fun u w' => (∃ uv,u = .agg #[.int .i64 ob,.int .i64 kd,uv] ∧ w'.ownsRow w.heap.size 38 11 uv (wo l d).length ((wo l d).flatMap OpT.enc)) ∧ Below w.heap.size w w':=by
  obtain ⟨a,c,rfl,_⟩:=h.form
  refine ent29 _ _ _ _ ?_
  have s3:=(((St.start (W0:=w)).box #[.int .i64 ob,.int .i64 kd,.slice a l.length c] 24).box #[.int .i64 d] 3).box #[.int .i64 0,.int .i64 0,.slice none 0 0] 24
  rw [World.size_alloc,World.size_alloc] at s3
  obtain ⟨g,hg⟩:∃ g,g = w.heap.size:=⟨_,rfl⟩
  have h3:=h.below s3.bel (by decide)
  have hgs:(((w.alloc (.cells #[.int .i64 ob,.int .i64 kd,.slice a l.length c] 24)).alloc (.cells #[.int .i64 d] 3)).alloc (.cells #[.int .i64 0,.int .i64 0,.slice none 0 0] 24)).heap.size = w.heap.size + 3:=by rw [World.size_alloc,World.size_alloc,World.size_alloc]
  simp (disch:=first|omega|exact okFill_t rfl|exact okSize_t rfl|exact fun h=>h|(simp only[World.size_alloc,World.size_drew,World.size_setCell,size_fill,bytesW];omega)) only [go_sem,c29]
  generalize ((w.alloc (.cells #[.int .i64 ob,.int .i64 kd,.slice a l.length c] 24)).alloc (.cells #[.int .i64 d] 3)).alloc (.cells #[.int .i64 0,.int .i64 0,.slice none 0 0] 24) = w3 at s3 h3 hgs ⊢
  refine Ret.mono (Cut.clone_ok _ l w3 h3 hl) ?_
  rintro v4 w4 ⟨own4,b4⟩
  have s4:=(newRow s3 b4 own4).perm (L':=[.row v4 38 11 l.length (l.flatMap OpT.enc),.blk (w.heap.size + 1) #[.int .i64 d] 3,.blk w.heap.size #[.int .i64 ob,.int .i64 kd,.slice a l.length c] 24,.blk (w.heap.size + 1 + 1) #[.int .i64 0,.int .i64 0,.slice none 0 0] 24]) (by
    refine List.Perm.cons _ ?_
    exact (List.perm_append_comm (l₁:=[_,_]) (l₂:=[_])).trans (List.Perm.refl _))
  simp (disch:=first|omega|exact okFill_t rfl|exact okSize_t rfl|exact fun h=>h|(simp only[World.size_alloc,World.size_drew,World.size_setCell,size_fill,bytesW];omega)) only [go_sem,c29]
  refine Ret.mono (delOps_ok s4 hl) ?_
  rintro v5 w5 s5
  obtain ⟨va,vc,rfl,_⟩:=own_slice (s5.row 0 rfl)
  have r5:=s5.rules 2 rfl
  have r6:=s5.rules 3 rfl
  simp (disch:=first|omega|exact okFill_t rfl|exact okSize_t rfl|exact fun h=>h|(simp only[World.size_alloc,World.size_drew,World.size_setCell,size_fill,bytesW];omega)) only [go_sem,c29,c29S0,r5,r6]
  have s6:=(s5.set 2 rfl 2 (.slice va (wo l d).length vc)).fill 3 rfl (cs:=#[.int .i64 ob,.int .i64 kd,.slice va (wo l d).length vc]) rfl
  exact ⟨⟨_,rfl,s6.row 0 rfl⟩,s6.bel⟩
end Go.Proofs.YteiciplnfjnfjaaGreat

namespace Go.Proofs.YteiciplnfjnfjaaGreat
set_option linter.unusedSimpArgs false
set_option linter.unusedVariables false
set_option maxRecDepth 100000
open Go Go.Ann Go.RowKit Go.Shelf
section
variable {W0 w:World} {F:Nat → Prop} {L:List Res} {I:List Inv}
theorem sortI_ok {v:Value} {ks:List Int} (h:St W0 w F (.row v 3 1 ks.length (ks.flatMap intE) :: L) I) (hl:ks.length ≤ 100000) :
    Ret Tryz.prog 48 [v] w fun u w' => u = .tuple #[] ∧ ∃ ts:List Int,(ts.Perm ks ∧ ts.Pairwise (· ≤ ·)) ∧ St W0 w' F (.row v 3 1 ks.length (ts.flatMap intE) :: L) I:=by
  have hr:=h.row 0 rfl
  obtain ⟨hlen,⟨rfl,h0⟩ | ⟨g',cap,cur,rfl,hB,hb,hc,hm,hs,hx⟩⟩:=id hr
  · have hn:ks.length = 0:=h0
    refine (Any.slices_Sort_int_none laySortI none 0 w).mono ?_
    rintro e w' ⟨rfl,rfl⟩
    exact ⟨_,rfl,rfl,ks,⟨List.Perm.refl _,by rw [List.eq_nil_of_length_eq_zero hn]; exact List.Pairwise.nil⟩,h⟩
  · have hx':cur.toList.take ks.length = ks.map encZ:=by rw [← intE_map,← hx,Nat.mul_one]
    have hb':w.heap[g']? = some (.cells cur 3 (0,0)):=hb
    refine (Any.slices_Sort_int laySortI g' 0 cap ks w (holds_of_block_i hb' hx') (Array.getElem?_eq_some_iff.1 hb).1 (by omega)).mono ?_
    rintro e w' ⟨rfl,n,os,rfl⟩
    have hml:(ks.mergeSort fun x y => decide (x ≤ y)).length = ks.length:=List.length_mergeSort _
    refine ⟨_,rfl,rfl,ks.mergeSort fun x y => decide (x ≤ y),⟨List.mergeSort_perm _ _,(List.pairwise_mergeSort (le:=fun x y:Int => decide (x ≤ y)) (fun a b c h1 h2 => by simp at h1 h2 ⊢; omega) (fun a b => by simp; omega) ks).imp fun h => by simpa using h⟩,?_⟩
    have ho:=ownsRow_sorted_i (n:=n) (os:=os) hml hB hb' hc hm hs
    rw [← intE_map] at ho
    exact h.grow 0 rfl (grownBy_sorted_i _) ho fun k hk => .inl hk
end
theorem ids_snoc {l:List OpT} {k:Nat} (hk:k < l.length):((l.take (k + 1)).map OpT.ID).flatMap intE = ((l.take k).map OpT.ID).flatMap intE ++ [.int .i64 l[k].ID]:=by
  rw [List.take_succ_eq_append_getElem hk,List.map_append,List.flatMap_append]
  rfl
theorem ids_ok {w:World} {v:Value} {l:List OpT} (h:RdS w 11 OpT.enc v l) (hl:l.length ≤ 100) :
    Ret Tryz.prog 39 [v] w fun u w' => (∃ ts:List Int,ts.Perm (l.map OpT.ID) ∧ ts.Pairwise (· ≤ ·) ∧ w'.ownsRow w.heap.size 3 1 u ts.length (ts.flatMap intE)) ∧ Below w.heap.size w w':=by
  obtain ⟨a,c,rfl,_⟩:=h.form
  refine ent39 _ _ _ ?_
  simp (disch:=first|omega|exact okFill_t rfl|exact okSize_t rfl|exact fun h=>h|(simp only[World.size_alloc,World.size_drew,World.size_setCell,size_fill,bytesW];omega)) only [go_sem,c39,c39S0,c39S1,c39L0,c39S2]
  have s0:=(St.start (W0:=w)).nilRow 3 1
  refine W_loopU (fun x:Value × Nat => [(3,x.1),(8,.int .i64 x.2)]) (fun x w' => St w w' (fun _ => False) [.row x.1 3 1 x.2 (((l.take x.2).map OpT.ID).flatMap intE)] [] ∧ x.2 ≤ l.length) (fun x => l.length - x.2) (.slice none 0 0,0) rfl ⟨s0,Nat.zero_le _⟩ ?_
  rintro ⟨x,k⟩ w1 ⟨s1,hk⟩
  simp only at s1 hk
  by_cases hlt:k < l.length
  · obtain ⟨q,rfl⟩:=h.ptr (by omega)
    have ek:=h.eltB s1.bel OpT.len (by decide) hlt
    have ck:=cellsO_below s1.bel (h.at OpT.len hlt)
    have hlt':(k:Int) < l.length:=by omega
    have ak:=l[k].at
    simp (disch:=first|omega|exact okFill_t rfl|exact okSize_t rfl|exact fun h=>h|(simp only[World.size_alloc,World.size_drew,World.size_setCell,size_fill,bytesW];omega)) only [go_sem,c39,c39S0,c39S1,c39L0,c39S2,c39S3,c39L0,hlt',ck,ek,ak]
    refine ⟨by omega,(OpT.len _).symm,?_⟩
    refine bsW_ones ty66mkI rfl rfl (by decide) (by decide) (fun u hu => by rw [List.mem_singleton] at hu; subst hu; rfl) ?_
    have s3:=(s1.alloc' (.cells l[k].enc.toArray 38)).alloc' (.cells #[.int .i64 l[k].ID] 3)
    have hrd:Rd ((w1.alloc (.cells l[k].enc.toArray 38)).alloc (.cells #[.int .i64 l[k].ID] 3)) 1 (.slice (some ⟨(w1.alloc (.cells l[k].enc.toArray 38)).heap.size,0,none⟩) 1 1) 1 [.int .i64 l[k].ID]:=rd_new (sz:=1) (n:=1) rfl
    rw [World.size_alloc] at hrd
    simp (disch:=first|omega|exact okFill_t rfl|exact okSize_t rfl|exact fun h=>h|(simp only[World.size_alloc,World.size_drew,World.size_setCell,size_fill,bytesW];omega)) only [go_sem,c39,c39S0,c39S1,c39L0,c39S2,c39S3]
    refine s3.append 0 rfl ty66mkI rfl (by decide) hrd (fun u hu => by rw [List.mem_singleton] at hu; subst hu; rfl) (by omega) (by omega) ?_
    intro v4 w4 s4 _
    simp only [List.set_cons_zero] at s4
    simp (disch:=first|omega|exact okFill_t rfl|exact okSize_t rfl|exact fun h=>h|(simp only[World.size_alloc,World.size_drew,World.size_setCell,size_fill,bytesW];omega)) only [go_sem,c39,c39S0,c39S1,c39L0,c39S2,c39S3]
    refine ⟨⟨by omega,by omega⟩,(v4,k + 1),rfl,⟨?_,hlt⟩,by simp only; omega⟩
    simp only
    rw [ids_snoc hlt]
    exact s4
  · have hlt':¬ (k:Int) < l.length:=by omega
    obtain rfl:k = l.length:=by omega
    simp (disch:=first|omega|exact okFill_t rfl|exact okSize_t rfl|exact fun h=>h|(simp only[World.size_alloc,World.size_drew,World.size_setCell,size_fill,bytesW];omega)) only [go_sem,c39,c39S0,c39S1,c39L0,c39S3,c39L0,hlt']
    rw [List.take_length] at s1
    have e:l.length = (l.map OpT.ID).length:=by rw [List.length_map]
    rw [e] at s1
    refine .inl ⟨by kernel_rfl,Ret.mono (sortI_ok s1 (by rw [List.length_map]; omega)) ?_⟩
    rintro _ w2 ⟨rfl,ts,⟨hp,hs⟩,s2⟩
    simp (disch:=first|omega|exact okFill_t rfl|exact okSize_t rfl|exact fun h=>h|(simp only[World.size_alloc,World.size_drew,World.size_setCell,size_fill,bytesW];omega)) only [go_sem,c39,c39S0,c39S1,c39L0,c39S2,c39S3]
    have:=s2.row 0 rfl
    rw [← hp.length_eq] at this
    exact ⟨⟨ts,hp,hs,this⟩,s2.bel⟩
namespace Cut
def idI (a b:OpT):Int:=cmpI a.ID b.ID
theorem sorted1_ok (a b:OpT) (w:World):Ret Tryz.prog 42 [.agg a.enc.toArray,.agg b.enc.toArray] w fun u w' => u = .int .i64 (idI a b) ∧ Gr w w':=by
  refine ent42 _ _ _ _ ?_
  have ha:=a.at; have hb:=b.at
  simp (disch:=first|omega|exact okFill_t rfl|exact okSize_t rfl|exact fun h=>h|(simp only[World.size_alloc,World.size_drew,World.size_setCell,size_fill,bytesW];omega)) only [go_sem,c42,c42S0,ha,hb]
  refine Ret.mono (compare_ok _ _ _) ?_
  rintro _ w2 ⟨rfl,e2⟩
  subst w2
  simp (disch:=first|omega|exact okFill_t rfl|exact okSize_t rfl|exact fun h=>h|(simp only[World.size_alloc,World.size_drew,World.size_setCell,size_fill,bytesW];omega)) only [go_sem,c42,c42S0]
  exact ⟨rfl,((Gr.refl w).alloc _).alloc _⟩
theorem id_neg (a b:OpT):(idI a b < 0) = (a.ID < b.ID):=cmpI_neg _ _
theorem lt_id (a b:OpT):ltOf idI a b = decide (a.ID < b.ID):=by
  unfold ltOf
  rw [decide_eq_decide,id_neg]
theorem idsort_ok (v:Value) (l:List OpT) (w:World) (B:Nat) (h:w.ownsRow B 38 11 v l.length (l.flatMap OpT.enc)) (hl:l.length ≤ 100) :
    Ret Tryz.prog 41 [v,.func (.func 42) #[] #[]] w fun _ w' => ∃ l',Sorts idI l l' ∧ w'.ownsRow B 38 11 v l.length (l'.flatMap OpT.enc) ∧ Chg (fun k => v.ownBlock = some k) w w' :=
  sort_ok idI _ (enters_of Tryz.func42 (by kernel_rfl) rfl) (by
    constructor
    all_goals intros
    all_goals simp only [lt_id,decide_eq_true_eq,decide_eq_false_iff_not] at *
    all_goals omega) sorted1_ok v l w B h hl
end Cut
theorem rise_sorts {l L:List OpT} (hn:(l.map OpT.ID).Nodup) (h:Cut.Sorts Cut.idI l L):Rise l L:=by
  refine ⟨h.1,?_⟩
  have h1:(L.map OpT.ID).Nodup:=(h.1.map OpT.ID).nodup_iff.2 hn
  unfold List.Nodup at h1
  rw [List.pairwise_map] at h1
  refine (h.2.and h1).imp fun {a b} h => ?_
  have:=h.1
  rw [Cut.id_neg] at this
  have:=h.2
  omega
theorem sorted_ok' {w:World} {v:Value} {l:List OpT} (h:RdS w 11 OpT.enc v l) (hl:l.length ≤ 100) (hn:(l.map OpT.ID).Nodup) :
    Ret Tryz.prog 23 [v] w fun u w' => (∃ L,Rise l L ∧ w'.ownsRow w.heap.size 38 11 u L.length (L.flatMap OpT.enc)) ∧ Below w.heap.size w w':=by
  obtain ⟨a,c,rfl,_⟩:=h.form
  refine ent23 _ _ _ ?_
  simp (disch:=first|omega|exact okFill_t rfl|exact okSize_t rfl|exact fun h=>h|(simp only[World.size_alloc,World.size_drew,World.size_setCell,size_fill,bytesW];omega)) only [go_sem,c23,c23S0]
  refine Ret.mono (Cut.clone_ok _ l w h hl) ?_
  rintro v2 w2 ⟨own2,b2⟩
  simp (disch:=first|omega|exact okFill_t rfl|exact okSize_t rfl|exact fun h=>h|(simp only[World.size_alloc,World.size_drew,World.size_setCell,size_fill,bytesW];omega)) only [go_sem,c23,c23S1]
  have s2:=newRow (St.start (W0:=w)) b2 own2
  refine Ret.mono (Cut.idsort_ok v2 l w2 _ own2 hl) ?_
  rintro _ w3 ⟨L,hs,own3,c3⟩
  simp (disch:=first|omega|exact okFill_t rfl|exact okSize_t rfl|exact fun h=>h|(simp only[World.size_alloc,World.size_drew,World.size_setCell,size_fill,bytesW];omega)) only [go_sem,c23,c23S0,c23S1]
  have s3:=s2.upd 0 rfl c3 (.row v2 38 11 l.length (L.flatMap OpT.enc)) own3 fun k hk => .inl hk
  rw [← hs.1.length_eq] at own3
  exact ⟨⟨L,rise_sorts hn hs,own3⟩,s3.bel⟩
end Go.Proofs.YteiciplnfjnfjaaGreat

namespace Go.Proofs.YteiciplnfjnfjaaGreat
set_option linter.unusedSimpArgs false
set_option linter.unusedVariables false
set_option maxRecDepth 100000
open Go Go.Ann Go.RowKit
def plusP (o:OpT):List OpT → Bool → List OpT
  | [],b => if b then [] else [o]
  | x :: r,b => (if b = false ∧ o.ID ≤ x.ID then [o] else []) ++ (if x.ID = o.ID then [] else [x]) ++ plusP o r (b || decide (o.ID ≤ x.ID))
theorem plusP_done (o:OpT):∀ (l:List OpT),(∀ x ∈ l,x.ID ≠ o.ID) → plusP o l true = l
  | [],_ => rfl
  | x :: r,h => by
    rw [plusP,Bool.true_or,plusP_done o r fun y hy => h y (List.mem_cons_of_mem _ hy),if_neg (by simp),if_neg (h x List.mem_cons_self)]
    rfl
theorem plusP_rise {o:OpT}:∀ {l:List OpT},(∀ x ∈ l,x.ID ≠ o.ID) → l.Pairwise (fun a b => a.ID < b.ID) → (plusP o l false).Perm (o :: l) ∧ (plusP o l false).Pairwise fun a b => a.ID < b.ID
  | [],_,_ => ⟨List.Perm.refl _,by simp [plusP]⟩
  | x :: r,h,hp => by
    have hx:=h x List.mem_cons_self
    obtain ⟨hp1,hp2⟩:=List.pairwise_cons.1 hp
    by_cases hle:o.ID ≤ x.ID
    · have e:plusP o (x :: r) false = o :: x :: r:=by
        rw [plusP,if_pos ⟨rfl,hle⟩,if_neg hx,decide_eq_true hle,Bool.or_true,plusP_done o r fun y hy => h y (List.mem_cons_of_mem _ hy)]
        rfl
      rw [e]
      refine ⟨List.Perm.refl _,List.pairwise_cons.2 ⟨fun y hy => ?_,hp⟩⟩
      rcases List.mem_cons.1 hy with rfl | hy
      · omega
      · have:=hp1 y hy; omega
    · have e:plusP o (x :: r) false = x :: plusP o r false:=by
        rw [plusP,if_neg (fun h => hle h.2),if_neg hx,decide_eq_false hle,Bool.or_false]
        rfl
      obtain ⟨ih1,ih2⟩:=plusP_rise (fun y hy => h y (List.mem_cons_of_mem _ hy)) hp2
      rw [e]
      refine ⟨(ih1.cons x).trans (List.Perm.swap _ _ _),List.pairwise_cons.2 ⟨fun y hy => ?_,ih2⟩⟩
      rcases List.mem_cons.1 (ih1.mem_iff.1 hy) with rfl | hy
      · omega
      · exact hp1 y hy
theorem len_flat_snoc (acc:List OpT) (o:OpT):(acc ++ [o]).length = acc.length + 1 ∧ (acc ++ [o]).flatMap OpT.enc = acc.flatMap OpT.enc ++ o.enc:=by
  rw [List.flatMap_append]; simp
theorem without_ref {w:World} {v:Value} {l:List OpT} (d:Int) (h:RdS w 11 OpT.enc v l) (hl:l.length ≤ 100) :
    Ret Tryz.prog 14 [v,.int .i64 d] w fun u w' => w'.ownsRow w.heap.size 38 11 u (wo l d).length ((wo l d).flatMap OpT.enc) ∧ Below w.heap.size w w':=by
  obtain ⟨a,c,rfl,_⟩:=h.form
  refine ent14 _ _ _ _ ?_
  simp (disch:=first|omega|exact okFill_t rfl|exact okSize_t rfl|exact fun h=>h|(simp only[World.size_alloc,World.size_drew,World.size_setCell,size_fill,bytesW];omega)) only [go_sem,c14,c14S0,c14S1,c14L0]
  have s0:=(St.start (W0:=w)).nilRow 38 11
  refine W_loopU (fun x:Value × Nat => [(5,x.1),(6,.int .i64 x.2)]) (fun x w' => St w w' (fun _ => False) [.row x.1 38 11 (wo (l.take x.2) d).length ((wo (l.take x.2) d).flatMap OpT.enc)] [] ∧ x.2 ≤ l.length) (fun x => l.length - x.2) (.slice none 0 0,0) rfl ⟨s0,Nat.zero_le _⟩ ?_
  rintro ⟨x,k⟩ w1 ⟨s1,hk⟩
  simp only at s1 hk
  have hlw:(wo (l.take k) d).length ≤ l.length:=Nat.le_trans (wo_len_le _ _) (by rw [List.length_take]; omega)
  by_cases hlt:k < l.length
  · obtain ⟨q,rfl⟩:=h.ptr (by omega)
    have ek:=h.eltB s1.bel OpT.len (by decide) hlt
    have ck:=cellsO_below s1.bel (h.at OpT.len hlt)
    have hlt':(k:Int) < l.length:=by omega
    have ak:=l[k].at
    have esn:wo (l.take (k + 1)) d = wo (l.take k) d ++ (if l[k].ID = d then [] else [l[k]]):=by rw [List.take_succ_eq_append_getElem hlt,wo_snoc]
    by_cases hd:l[k].ID = d
    · rw [if_pos hd,List.append_nil] at esn
      simp (disch:=first|omega|exact okFill_t rfl|exact okSize_t rfl|exact fun h=>h|(simp only[World.size_alloc,World.size_drew,World.size_setCell,size_fill,bytesW];omega)) only [go_sem,c14,c14S0,c14S1,c14L0,c14S2,c14L0,hlt',ck,ek,ak,hd]
      exact ⟨by omega,⟨by omega,by omega⟩,(x,k + 1),rfl,⟨by rw [esn]; exact s1,hlt⟩,by simp only; omega⟩
    · rw [if_neg hd] at esn
      simp (disch:=first|omega|exact okFill_t rfl|exact okSize_t rfl|exact fun h=>h|(simp only[World.size_alloc,World.size_drew,World.size_setCell,size_fill,bytesW];omega)) only [go_sem,c14,c14S0,c14S1,c14L0,c14S2,c14L0,hlt',ck,ek,ak,hd]
      refine ⟨by omega,by omega,bsW_agg ty22mkI rfl (by decide) (by decide) ?_⟩
      have hrd:Rd (w1.alloc (.cells l[k].enc.toArray 38)) 11 (.slice (some ⟨w1.heap.size,0,none⟩) 1 1) 1 l[k].enc:=rd_new (t:=38) (sz:=11) (n:=1) (cs:=l[k].enc.toArray) rfl
      have s3:=s1.alloc' (.cells l[k].enc.toArray 38)
      generalize w1.alloc (.cells l[k].enc.toArray 38) = w3 at s3 hrd ⊢
      simp (disch:=first|omega|exact okFill_t rfl|exact okSize_t rfl|exact fun h=>h|(simp only[World.size_alloc,World.size_drew,World.size_setCell,size_fill,bytesW];omega)) only [go_sem,c14,c14S0,c14S1,c14L0,c14S2]
      refine s3.append 0 rfl ty22mkI rfl (by decide) hrd l[k].one (by omega) (by omega) ?_
      intro v4 w4 s4 _
      simp only [List.set_cons_zero] at s4
      simp (disch:=first|omega|exact okFill_t rfl|exact okSize_t rfl|exact fun h=>h|(simp only[World.size_alloc,World.size_drew,World.size_setCell,size_fill,bytesW];omega)) only [go_sem,c14,c14S0,c14S1,c14L0,c14S2]
      refine ⟨⟨by omega,by omega⟩,(v4,k + 1),rfl,⟨?_,hlt⟩,by simp only; omega⟩
      simp only
      obtain ⟨e1,e2⟩:=len_flat_snoc (wo (l.take k) d) l[k]
      rw [esn,e1,e2]
      exact s4
  · have hlt':¬ (k:Int) < l.length:=by omega
    obtain rfl:k = l.length:=by omega
    rw [List.take_length] at s1
    simp (disch:=first|omega|exact okFill_t rfl|exact okSize_t rfl|exact fun h=>h|(simp only[World.size_alloc,World.size_drew,World.size_setCell,size_fill,bytesW];omega)) only [go_sem,c14,c14S0,c14S1,c14L0,c14S2,c14L0,hlt']
    exact ⟨s1.row 0 rfl,s1.bel⟩
theorem rise_nil:Rise [] []:=⟨List.Perm.refl _,List.Pairwise.nil⟩
theorem rise_step {l acc:List OpT} {k:Nat} (hn:(l.map OpT.ID).Nodup) (hk:k < l.length) (h:Rise (l.take k) acc):Rise (l.take (k + 1)) (plusP l[k] acc false):=by
  have h1:∀ x ∈ acc,x.ID ≠ l[k].ID:=fun x hx e => by
    obtain ⟨j,hj,rfl⟩:=List.mem_iff_getElem.1 (h.1.mem_iff.1 hx)
    rw [List.length_take] at hj
    rw [List.getElem_take] at e
    have:=List.pairwise_iff_getElem.1 hn j k (by rw [List.length_map]; omega) (by rw [List.length_map]; omega) (by omega)
    rw [List.getElem_map,List.getElem_map] at this
    exact this e
  obtain ⟨h2,h3⟩:=plusP_rise h1 h.2
  refine ⟨?_,h3⟩
  rw [List.take_succ_eq_append_getElem hk]
  exact h2.trans ((h.1.cons _).trans (List.perm_append_singleton _ _).symm)
theorem find_at {p:OpT → Bool} {l:List OpT} {k:Nat} (h:k < l.length) (hp:p l[k] = true) (hb:∀ j,(h:j < l.length) → j < k → p l[j] = false):l.find? p = some l[k]:=by
  rw [List.find?_eq_some_iff_append]
  refine ⟨hp,l.take k,l.drop (k + 1),?_,fun a ha => ?_⟩
  · rw [← List.drop_eq_getElem_cons h,List.take_append_drop]
  · obtain ⟨j,hj,rfl⟩:=List.mem_iff_getElem.1 ha
    rw [List.length_take] at hj
    rw [List.getElem_take,hb j (by omega) (by omega)]
    rfl
theorem blk_okSt {w:World} {b:Nat} {cs:Array Value} {t:TypeId} (h:Blk w b cs t) {vs:List Value} (h1:∀ u ∈ vs,u.oneCell' = true) (h2:vs.length ≤ cs.size):okSt w b 0 vs:=by
  rw [okSt_iff]
  refine ⟨h1,fun j hj => ⟨⟨cs[j]'(by omega),?_⟩,?_⟩⟩
  · rw [h.rules.1,Nat.zero_add]; exact Array.getElem?_eq_getElem (by omega)
  · exact h.rules.2.1 _
theorem get_ok (va:Value) (l:List OpT) (i:Int) (w:World) (ha:RdS w 11 OpT.enc va l) (hl:(l.length:Int) ≤ 9223372036854775806) :
    Ret Tryz.prog 13 [va,.int .i64 i] w fun v w' => ((∃ o,l.find? (fun x => decide (x.ID = i)) = some o ∧ v = .tuple #[.agg o.enc.toArray,.bool true]) ∨ (l.find? (fun x => decide (x.ID = i)) = none ∧ ∃ o:OpT,v = .tuple #[.agg o.enc.toArray,.bool false])) ∧ Below w.heap.size w w':=by
  obtain ⟨pa,ca,rfl,_⟩:=ha.form
  refine ent13 _ _ _ _ ?_
  simp (disch:=first|omega|exact okFill_t rfl|exact okSize_t rfl|exact fun h=>h|(simp only[World.size_alloc,World.size_drew,World.size_setCell,size_fill,bytesW];omega)) only [go_sem,c13,c13S0,c13S1,c13L0,c13S2]
  obtain ⟨z,hz⟩:∃ z:OpT,z = ⟨0,0,0,0,0,0,0,false,0,0,0⟩:=⟨_,rfl⟩
  have s1:=(St.start (W0:=w)).box z.enc.toArray 38
  have hzz:#[Value.int .i64 0,.int .i64 0,.int .i64 0,.int .i64 0,.int .i64 0,.int .i64 0,.int .i64 0,.bool false,.int .i64 0,.int .i64 0,.int .i64 0] = z.enc.toArray:=by rw [hz]; rfl
  rw [hzz]
  have h1:=ha.below s1.bel (by decide)
  generalize w.alloc (.cells z.enc.toArray 38) = w1 at s1 h1 ⊢
  obtain ⟨b0,hb0⟩:∃ b,b = w.heap.size:=⟨_,rfl⟩
  have hbb:∀ w',Below w.heap.size w w' → Below b0 w w':=fun _ h => by rw [hb0]; exact h
  rw [← hb0] at s1 ⊢
  refine W_loopU (fun k:Nat => [(6,.int .i64 k)]) (fun k w' => Below w1.heap.size w1 w' ∧ k ≤ l.length ∧ ∀ j,(h:j < l.length) → j < k → l[j].ID ≠ i) (fun k => l.length - k) 0 rfl ⟨Below.refl _ _,Nat.zero_le _,fun j _ h => by omega⟩ ?_
  rintro k w2 ⟨b2,hk,he⟩
  have s2:=s1.call b2
  have r2:=s2.rules 0 rfl
  have h2:=h1.below b2 (by decide)
  by_cases hlt:k < l.length
  · have hlt':(k:Int) < l.length:=by omega
    obtain ⟨p,rfl⟩:=ha.ptr (by omega)
    have ek:=h2.eltB (Below.refl _ _) OpT.len (by decide) hlt
    have ck:=h2.at OpT.len hlt
    have ak:=l[k].at
    have az:=z.at
    simp (disch:=first|omega|exact okFill_t rfl|exact okSize_t rfl|exact fun h=>h|(simp only[World.size_alloc,World.size_drew,World.size_setCell,size_fill,bytesW];omega)) only [go_sem,c13,c13S0,c13S1,c13L0,c13S2,hlt',ek,ak,ck,r2,az]
    refine ⟨by omega,fun e1 => ⟨by omega,l[k].len.symm,blk_okSt (s2.blk 0 rfl) l[k].one (Nat.le_refl _),?_,hbb _ ((s2.fill 0 rfl (cs:=l[k].enc.toArray) rfl).bel)⟩,fun e1 => ⟨⟨by omega,by omega⟩,k + 1,rfl,⟨b2,by omega,fun j h1 h3 => ?_⟩,by omega⟩⟩
    · exact .inl ⟨l[k],find_at hlt (by simpa using e1) fun j h h' => by simpa using he j h h',rfl⟩
    · rcases Nat.lt_or_ge j k with h' | h'
      · exact he j h1 h'
      · obtain rfl:j = k:=by omega
        exact e1
  · have hlt':¬ (k:Int) < l.length:=by omega
    have az:=z.at
    simp (disch:=first|omega|exact okFill_t rfl|exact okSize_t rfl|exact fun h=>h|(simp only[World.size_alloc,World.size_drew,World.size_setCell,size_fill,bytesW];omega)) only [go_sem,c13,c13S0,c13S1,c13L0,c13S2,hlt',r2]
    refine bdW_built (cells:=z.enc.toArray) (by rw [hz]; kernel_rfl) ?_
    simp (disch:=first|omega|exact okFill_t rfl|exact okSize_t rfl|exact fun h=>h|(simp only[World.size_alloc,World.size_drew,World.size_setCell,size_fill,bytesW];omega)) only [go_sem,c13,c13S0,c13S1,c13L0,c13S2,hlt',r2,az]
    refine ⟨z.len.symm,blk_okSt (s2.blk 0 rfl) z.one (Nat.le_refl _),.inr ⟨List.find?_eq_none.2 fun x hx => ?_,z,rfl⟩,hbb _ ((s2.fill 0 rfl (cs:=z.enc.toArray) rfl).bel)⟩
    obtain ⟨j,hj,rfl⟩:=List.mem_iff_getElem.1 hx
    simpa using he j hj (by omega)
end Go.Proofs.YteiciplnfjnfjaaGreat

namespace Go.Proofs.YteiciplnfjnfjaaGreat
set_option linter.unusedSimpArgs false
set_option linter.unusedVariables false
set_option maxRecDepth 100000
open Go Go.Ann Go.RowKit
def StsK (K:Int) (M:Nat) (E:List (List Int)):Prop:=∀ s ∈ E,Ok64 s ∧ s.length ≤ M ∧ (K = 5 → s.Pairwise (· < ·))
theorem StsK.first (K:Int):StsK K 1 [firstP K]:=by
  intro s hs
  rw [List.mem_singleton] at hs
  subst hs
  refine ⟨?_,?_,?_⟩
  · unfold firstP
    split
    · intro x hx; rw [List.mem_singleton] at hx; subst hx; constructor <;> decide
    · intro x hx; cases hx
  · unfold firstP
    split <;> simp
  · unfold firstP
    split <;> simp
theorem StsK.next {K:Int} {M:Nat} {E U0 X:List (List Int)} {b:List OpT} {bud:Int} {T:List Spot} (h:StsK K M E) (hK:∀ o ∈ b,o.Kind = K) (hw:∀ o ∈ b,o.wf) (hU:Uniq E U0) (hR:SearchR b (startP b.length U0) bud (some T)) (hX:Uniq (outs b T) X):StsK K (M + b.length) X:=by
  obtain ⟨⟨N,rfl,_⟩,_⟩:=hR
  have h0:∀ q ∈ startP b.length U0,Good K M b.length q:=by
    intro q hq
    unfold startP at hq
    obtain ⟨s,hs,rfl⟩:=List.mem_map.1 hq
    obtain ⟨h1,h2,h3⟩:=h s ((hU.2 s).1 hs)
    exact ⟨by simp,h1,by simp only; omega,h3⟩
  intro s hs
  obtain ⟨q,hq,rfl⟩:=List.mem_map.1 ((hX.2 s).1 hs)
  have g:=bfsN_good hK hw h0 N q (List.mem_filter.1 hq).1
  refine ⟨g.ok,?_,g.ris⟩
  have h1:=g.sz
  have h2:=List.count_le_length (a:=true) (l:=q.1)
  have h3:=g.len
  omega
theorem mfirst_ok (k:Int) (w:World):Ret Tryz.prog 35 [.int .i64 k] w fun u w' => (RdS w' 1 intE u (firstP k) ∧ ∀ j,slFoot u j → w.heap.size ≤ j) ∧ Below w.heap.size w w':=by
  refine ent35 _ _ _ ?_
  by_cases h:k = 1 ∨ k = 2
  · have e:firstP k = [0]:=if_pos h
    rw [e]
    have fin:∀ {K:Value → World → Prop},K (.slice (some ⟨w.heap.size,0,none⟩) 1 1) (w.alloc (.cells #[.int .i64 0] 3)) → bsW Tryz.prog 66 1 [0] [.int .i64 0] w K:=fun hK => bsW_ones ty66mkI rfl rfl (by decide) (by decide) (fun u hu => by rw [List.mem_singleton] at hu; subst hu; rfl) hK
    have res:(RdS (w.alloc (.cells #[.int .i64 0] 3)) 1 intE (.slice (some ⟨w.heap.size,0,none⟩) 1 1) [0] ∧ ∀ j,slFoot (.slice (some ⟨w.heap.size,0,none⟩) 1 1) j → w.heap.size ≤ j) ∧ Below w.heap.size w (w.alloc (.cells #[.int .i64 0] 3)):=by
      refine ⟨⟨rd_new (sz:=1) (n:=1) rfl,fun j hj => ?_⟩,(Below.refl _ _).alloc (Nat.le_refl _) _⟩
      have:=slFoot_own hj
      simp only [Value.ownBlock,Option.some.injEq] at this
      omega
    rcases h with rfl | rfl
    · simp (disch:=first|omega|exact okFill_t rfl|exact okSize_t rfl|exact fun h=>h|(simp only[World.size_alloc,World.size_drew,World.size_setCell,size_fill,bytesW];omega)) only [go_sem,c35,c35S0,c35S1]
      refine fin ?_
      simp (disch:=first|omega|exact okFill_t rfl|exact okSize_t rfl|exact fun h=>h|(simp only[World.size_alloc,World.size_drew,World.size_setCell,size_fill,bytesW];omega)) only [go_sem,c35,c35S0,c35S1]
      exact res
    · simp (disch:=first|omega|exact okFill_t rfl|exact okSize_t rfl|exact fun h=>h|(simp only[World.size_alloc,World.size_drew,World.size_setCell,size_fill,bytesW];omega)) only [go_sem,c35,c35S0,c35S1]
      refine fin ?_
      simp (disch:=first|omega|exact okFill_t rfl|exact okSize_t rfl|exact fun h=>h|(simp only[World.size_alloc,World.size_drew,World.size_setCell,size_fill,bytesW];omega)) only [go_sem,c35,c35S0,c35S1]
      exact res
  · have e:firstP k = []:=if_neg h
    rw [e]
    have h1:¬ k = 1:=fun e => h (.inl e)
    have h2:¬ k = 2:=fun e => h (.inr e)
    simp (disch:=first|omega|exact okFill_t rfl|exact okSize_t rfl|exact fun h=>h|(simp only[World.size_alloc,World.size_drew,World.size_setCell,size_fill,bytesW];omega)) only [go_sem,c35,c35S0,c35S1,h1,h2]
    refine ⟨⟨⟨by simp,none,0,rfl,Nat.le_refl _,fun h => absurd rfl h⟩,fun j hj => ?_⟩,Below.refl _ _⟩
    have:=slFoot_own hj
    simp [Value.ownBlock] at this
theorem rfirst_ok (k:Int) (w:World):Ret Tryz.prog 44 [.int .i64 k] w fun u w' => (RdS w' 1 intE u (firstP k) ∧ ∀ j,slFoot u j → w.heap.size ≤ j) ∧ Below w.heap.size w w':=by
  refine ent44 _ _ _ ?_
  by_cases h:k = 1 ∨ k = 2
  · have e:firstP k = [0]:=if_pos h
    rw [e]
    have fin:∀ {K:Value → World → Prop},K (.slice (some ⟨w.heap.size,0,none⟩) 1 1) (w.alloc (.cells #[.int .i64 0] 3)) → bsW Tryz.prog 66 1 [0] [.int .i64 0] w K:=fun hK => bsW_ones ty66mkI rfl rfl (by decide) (by decide) (intE_one 0) hK
    have res:(RdS (w.alloc (.cells #[.int .i64 0] 3)) 1 intE (.slice (some ⟨w.heap.size,0,none⟩) 1 1) [0] ∧ ∀ j,slFoot (.slice (some ⟨w.heap.size,0,none⟩) 1 1) j → w.heap.size ≤ j) ∧ Below w.heap.size w (w.alloc (.cells #[.int .i64 0] 3)):=by
      refine ⟨⟨rd_new (sz:=1) (n:=1) rfl,fun j hj => ?_⟩,(Below.refl _ _).alloc (Nat.le_refl _) _⟩
      have:=slFoot_own hj
      simp only [Value.ownBlock,Option.some.injEq] at this
      omega
    rcases h with rfl | rfl
    · simp (disch:=first|omega|exact okFill_t rfl|exact okSize_t rfl|exact fun h=>h|(simp only[World.size_alloc,World.size_drew,World.size_setCell,size_fill,bytesW];omega)) only [go_sem,c44,c44S0]
      refine fin ?_
      simp (disch:=first|omega|exact okFill_t rfl|exact okSize_t rfl|exact fun h=>h|(simp only[World.size_alloc,World.size_drew,World.size_setCell,size_fill,bytesW];omega)) only [go_sem,c44,c44S0]
      exact res
    · simp (disch:=first|omega|exact okFill_t rfl|exact okSize_t rfl|exact fun h=>h|(simp only[World.size_alloc,World.size_drew,World.size_setCell,size_fill,bytesW];omega)) only [go_sem,c44,c44S0]
      refine fin ?_
      simp (disch:=first|omega|exact okFill_t rfl|exact okSize_t rfl|exact fun h=>h|(simp only[World.size_alloc,World.size_drew,World.size_setCell,size_fill,bytesW];omega)) only [go_sem,c44,c44S0]
      exact res
  · have e:firstP k = []:=if_neg h
    rw [e]
    have h1:¬ k = 1:=fun e => h (.inl e)
    have h2:¬ k = 2:=fun e => h (.inr e)
    simp (disch:=first|omega|exact okFill_t rfl|exact okSize_t rfl|exact fun h=>h|(simp only[World.size_alloc,World.size_drew,World.size_setCell,size_fill,bytesW];omega)) only [go_sem,c44,c44S0,h1,h2]
    refine ⟨⟨⟨by simp,none,0,rfl,Nat.le_refl _,fun h => absurd rfl h⟩,fun j hj => ?_⟩,Below.refl _ _⟩
    have:=slFoot_own hj
    simp [Value.ownBlock] at this
theorem segs_map {acc:List Seg} {k:Nat} (hk:k < acc.length):(acc.drop k).map Seg.ops = acc[k].ops :: (acc.drop (k + 1)).map Seg.ops:=by
  rw [List.drop_eq_getElem_cons hk,List.map_cons]
theorem seg_in {l:List OpT} {acc:List Seg} (hfl:acc.flatMap Seg.ops = l) {k:Nat} (hk:k < acc.length):∀ o ∈ acc[k].ops,o ∈ l:=fun o ho => by
  rw [← hfl]
  exact List.mem_flatMap.2 ⟨_,List.getElem_mem hk,ho⟩
theorem seg_short {l:List OpT} {acc:List Seg} (hfl:acc.flatMap Seg.ops = l) {k:Nat} (hk:k < acc.length):acc[k].ops.length ≤ l.length:=by
  rw [← hfl]
  exact Cut.seg_len _ _ (List.getElem_mem hk)
theorem setCell_other {w:World} {j o:Nat} {u:Value} {k:Nat} (hk:k ≠ j):(w.setCell ⟨j,o,none⟩ u).heap[k]? = w.heap[k]?:=by
  by_cases h:k < w.heap.size
  · exact ((Chg.refl (fun i => i = j) w).setCell ⟨j,o,none⟩ u fun _ => rfl).block k h (fun e => hk e)
  · have h2:¬ k < (w.setCell ⟨j,o,none⟩ u).heap.size:=by rw [World.size_setCell]; exact h
    rw [Array.getElem?_eq_none (Nat.le_of_not_lt h),Array.getElem?_eq_none (Nat.le_of_not_lt h2)]
theorem SearchF.shape {b:Nat} {w':World} {l:List OpT} {E U0:List (List Int)} {r:Option (List Spot)} {u:Value} (h:SearchF b w' l E U0 r u):∃ (ya xa:Option Addr) (yn yc xn xc:Nat) (cnt e:Int),u = .tuple #[.agg #[.slice ya yn yc,.slice xa xn xc,.int .i64 cnt],.int .i64 e]:=by
  cases r with
  | none => exact ⟨none,none,0,0,0,0,0,35,h⟩
  | some T =>
    obtain ⟨uv,xv,U,X,rfl,hU',eU,hX,hUX,f1,f2⟩:=h
    obtain ⟨x1,x2,rfl,_⟩:=hX.form
    obtain ⟨y1,y2,rfl,_⟩:=hU'.form
    exact ⟨_,_,_,_,_,_,_,_,rfl⟩
theorem ex_tail {W0 w9:World} {F:Nat → Prop} {L:List Res} {I:List Inv} {j g8:Nat} {m asked e0 cnt e:Int} {ya xa:Option Addr} {yn yc xn xc:Nat} {v15 v16 v17:Value} {Q:Post}
    (s:St W0 w9 F (.blk g8 #[.slice ya yn yc,.slice xa xn xc,.int .i64 cnt] 77 :: .blk j #[.int .i64 m,.int .i64 asked,.int .i64 e0] 59 :: L) I) (hm:I64 (m - cnt))
    (h1:e ≠ 0 → ∀ w',St W0 w' F (.blk j #[.int .i64 m,.int .i64 asked,.int .i64 e] 59 :: L) I → Q .ret [(4,.bool true)] w')
    (h2:e = 0 → xn = 0 → ∀ w',St W0 w' F (.blk j #[.int .i64 (m - cnt),.int .i64 asked,.int .i64 e0] 59 :: L) I → Q .ret [(4,.bool false)] w')
    (h3:e = 0 → xn ≠ 0 → ∀ w',St W0 w' F (.blk j #[.int .i64 (m - cnt),.int .i64 asked,.int .i64 e0] 59 :: L) I → (∀ k,k ≠ j → w'.heap[k]? = w9.heap[k]?) → Chg (fun i => i = j) w9 w' → Q .normal [(0,.pointer (some ⟨j,0,none⟩)),(5,.slice xa xn xc),(15,v15),(16,v16),(17,v17)] w') :
    W Tryz.prog (sg c21S2) [(0,.pointer (some ⟨j,0,none⟩)),(8,.pointer (some ⟨g8,0,none⟩)),(9,.int .i64 e),(15,v15),(16,v16),(17,v17)] w9 Q:=by
  have r0:=s.rules 0 rfl
  have r1:=s.rules 1 rfl
  by_cases he:e = 0
  · subst he
    simp (disch:=first|omega|exact okFill_t rfl|exact okSize_t rfl|exact fun h=>h|(simp only[World.size_alloc,World.size_drew,World.size_setCell,size_fill,bytesW];omega)) only [go_sem,c21,c21S0,c21S1,c21S2,c21S3,c21S4,c21L0,c21S5,c21S6,c21S7]
    refine c21draw1 (Chg (fun _ => False) _) (Chg.refl _ _) ?_
    have nj:g8 ≠ j:=fun e => by
      have:=s.ne 0 1 rfl rfl (by decide) (k:=j) (by simp [Res.own,e])
      exact this rfl
    have bd:Below w9.heap.size w9 w9.drew:=(Below.refl _ w9).drew
    have sd:=s.call bd
    have rd0:=sd.rules 0 rfl
    have rd1:=sd.rules 1 rfl
    have hl0:=(s.blk 0 rfl).lt
    have hl1:=(s.blk 1 rfl).lt
    have s10:=((s.set 1 rfl 0 (.int .i64 (m - cnt))).sub (List.sublist_cons_self _ _)).drew
    have hoth:∀ k,k ≠ j → (w9.setCell ⟨j,0,none⟩ (.int .i64 (m - cnt))).drew.heap[k]? = w9.heap[k]?:=fun k hk => setCell_other hk
    have hch:Chg (fun i => i = j) w9 (w9.setCell ⟨j,0,none⟩ (.int .i64 (m - cnt))).drew:=((Chg.refl (fun i => i = j) w9).setCell _ _ fun _ => rfl).drew
    by_cases hx:xn = 0
    · have hx':(xn:Int) = 0:=by omega
      simp (disch:=first|omega|exact okFill_t rfl|exact okSize_t rfl|exact fun h=>h|(simp only[World.size_alloc,World.size_drew,World.size_setCell,size_fill,bytesW];omega)) only [go_sem,c21,c21S0,c21S1,c21S2,c21S3,c21S4,c21L0,c21S5,c21S6,c21S7,c21D1,rd0,rd1,r0,hx']
      exact ⟨hm,h2 rfl hx _ s10⟩
    · have hx':¬ (xn:Int) = 0:=by omega
      simp (disch:=first|omega|exact okFill_t rfl|exact okSize_t rfl|exact fun h=>h|(simp only[World.size_alloc,World.size_drew,World.size_setCell,size_fill,bytesW];omega)) only [go_sem,c21,c21S0,c21S1,c21S2,c21S3,c21S4,c21L0,c21S5,c21S6,c21S7,c21D1,rd0,rd1,r0,hx']
      exact ⟨hm,h3 rfl hx _ s10 hoth hch⟩
  · simp (disch:=first|omega|exact okFill_t rfl|exact okSize_t rfl|exact fun h=>h|(simp only[World.size_alloc,World.size_drew,World.size_setCell,size_fill,bytesW];omega)) only [go_sem,c21,c21S0,c21S1,c21S2,c21S3,c21S4,c21L0,c21S5,c21S6,c21S7,he,r1]
    have s2:=(s.set 1 rfl 2 (.int .i64 e)).sub (List.sublist_cons_self _ _)
    exact h1 he _ s2
theorem explained_ok {W0 w:World} {F:Nat → Prop} {L:List Res} {I:List Inv} {j:Nat} {left asked e0 ob kd:Int} {v:Value} {l:List OpT} (h:St W0 w F (.blk j #[.int .i64 left,.int .i64 asked,.int .i64 e0] 59 :: L) I) (hr:RdS w 11 OpT.enc v l) (hl:l.length ≤ 10) (hK:∀ o ∈ l,o.Kind = kd) (hw:∀ o ∈ l,o.wf) (hleft:-9223372036854775808 ≤ left ∧ left ≤ 32768) :
    Ret Tryz.prog 21 [.pointer (some ⟨j,0,none⟩),.agg #[.int .i64 ob,.int .i64 kd,v]] w fun u w' => ∃ a m e,u = .bool a ∧ Ask ob kd l left (a,m,e) ∧ St W0 w' F (.blk j #[.int .i64 m,.int .i64 asked,.int .i64 (if e = 0 then e0 else e)] 59 :: L) I:=by
  obtain ⟨a,c,rfl,_⟩:=hr.form
  refine ent21 _ _ _ _ ?_
  have hj:=(h.blk 0 rfl).lt
  have b1:Below w.heap.size w (w.alloc (.cells #[.int .i64 ob,.int .i64 kd,.slice a l.length c] 24)):=(Below.refl _ w).alloc (Nat.le_refl _) _
  have hB:Blk (w.alloc (.cells #[.int .i64 ob,.int .i64 kd,.slice a l.length c] 24)) w.heap.size #[.int .i64 ob,.int .i64 kd,.slice a l.length c] 24:=Blk.new
  simp (disch:=first|omega|exact okFill_t rfl|exact okSize_t rfl|exact fun h=>h|(simp only[World.size_alloc,World.size_drew,World.size_setCell,size_fill,bytesW];omega)) only [go_sem,c21,c21S0,c21S1,c21S2,c21S3,c21S4,c21L0,c21S5,c21S6]
  generalize w.alloc (.cells #[.int .i64 ob,.int .i64 kd,.slice a l.length c] 24) = w1 at b1 hB ⊢
  refine Ret.mono (mfirst_ok kd w1) ?_
  rintro sv w2 ⟨⟨hsv,hsf⟩,b2⟩
  obtain ⟨sa,sc,rfl,_⟩:=hsv.form
  simp (disch:=first|omega|exact okFill_t rfl|exact okSize_t rfl|exact fun h=>h|(simp only[World.size_alloc,World.size_drew,World.size_setCell,size_fill,bytesW];omega)) only [go_sem,c21,c21S0,c21S1,c21S2,c21S3,c21S4,c21L0,c21S5,c21S6]
  have ones:∀ u ∈ [Value.slice sa (firstP kd).length sc],u.oneCell' = true:=fun u hu => by rw [List.mem_singleton] at hu; subst hu; rfl
  refine bsW_ones ty74mkI rfl rfl (by decide) (by decide) ones ?_
  have hr3:=row1 (t:=66) hsv
  have b3:Below w2.heap.size w2 (w2.alloc (.cells #[.slice sa (firstP kd).length sc] 66)):=(Below.refl _ _).alloc (Nat.le_refl _) _
  generalize hw3:w2.alloc (.cells #[.slice sa (firstP kd).length sc] 66) = w3 at hr3 b3 ⊢
  have b13:=Below.next b2 b3
  have b03:=Below.next b1 b13
  have hB3:=hB.below b13 hB.lt
  have r3:=hB3.rules
  have hrd3:=hr.below b03 (by decide)
  simp (disch:=first|omega|exact okFill_t rfl|exact okSize_t rfl|exact fun h=>h|(simp only[World.size_alloc,World.size_drew,World.size_setCell,size_fill,bytesW];omega)) only [go_sem,c21,c21S0,c21S1,c21S2,c21S3,c21S4,c21L0,c21S5,c21S6,c21S7,r3]
  refine Ret.mono (Cut.segments_ok ob kd _ l w3 hrd3 (by omega)) ?_
  rintro v7 w4 ⟨⟨l',hs,hseg⟩,b4⟩
  have hask:∀ {r:Bool × Int × Int},AskR ((l'.foldl (Cut.cutStep Cut.segQ fun _ => (ob,kd)) []).map Seg.ops) [firstP kd] left r → Ask ob kd l left r:=fun h => ⟨l',hs,h⟩
  have hfl:(l'.foldl (Cut.cutStep Cut.segQ fun _ => (ob,kd)) []).flatMap Seg.ops = l':=by rw [Cut.cut_flat]; rfl
  have hne7:=Cut.cut_ne Cut.segQ (fun _ => (ob,kd)) l' [] fun s hs => by cases hs
  have hseg':∀ w2:World,(∀ k,w3.heap.size ≤ k → k < w4.heap.size → w2.heap[k]? = w4.heap[k]?) → RdR w2 3 Cut.segR v7 (l'.foldl (Cut.cutStep Cut.segQ fun _ => (ob,kd)) []):=hseg
  clear hseg
  generalize l'.foldl (Cut.cutStep Cut.segQ fun _ => (ob,kd)) [] = segs at hask hfl hne7 hseg'
  have hsl:=Cut.segs_len segs hne7
  rw [hfl,hs.1.length_eq] at hsl
  obtain ⟨ps,cs,rfl,_⟩:=(hseg' w4 fun _ _ _ => rfl).form
  have b34:=Below.next b03 b4
  have s4:=h.call b34
  have hrow4:=hr3.below b4
  simp (disch:=first|omega|exact okFill_t rfl|exact okSize_t rfl|exact fun h=>h|(simp only[World.size_alloc,World.size_drew,World.size_setCell,size_fill,bytesW];omega)) only [go_sem,c21,c21S0,c21S1,c21S2,c21S3,c21S4,c21L0,c21S5,c21S7]
  have hf4:∀ i,RowS.foot (.slice (some ⟨w2.heap.size,0,none⟩) 1 1) [(Value.slice sa (firstP kd).length sc,firstP kd)] i → i ≠ j:=by
    have z1:=b1.size
    have z2:=b2.size
    rintro i (hi | ⟨p,hp,hi⟩)
    · have:=slFoot_own hi
      simp only [Value.ownBlock,Option.some.injEq] at this
      omega
    · rw [List.mem_singleton] at hp
      subst hp
      have:=hsf i hi
      omega
  have hjw3:j < w3.heap.size:=Nat.lt_of_lt_of_le hj b03.size
  refine W_loopU (fun x:Nat × Value × List VS × Int => [(5,x.2.1),(17,.int .i64 x.1)]) (fun x w' => St W0 w' F (.blk j #[.int .i64 x.2.2.2,.int .i64 asked,.int .i64 e0] 59 :: L) I ∧ Chg (fun i => i = j) w4 w' ∧ x.1 ≤ segs.length ∧ RowS w' x.2.1 x.2.2.1 ∧ (∀ i,RowS.foot x.2.1 x.2.2.1 i → i ≠ j) ∧ x.2.2.1.length ≤ 32768 ∧ StsK kd (1 + 10 * x.1) (x.2.2.1.map Prod.snd) ∧ (-9223372036854775808 ≤ x.2.2.2 ∧ x.2.2.2 ≤ 32768) ∧ ∀ r,AskR ((segs.drop x.1).map Seg.ops) (x.2.2.1.map Prod.snd) x.2.2.2 r → Ask ob kd l left r) (fun x => segs.length - x.1) (0,.slice (some ⟨w2.heap.size,0,none⟩) 1 1,[(.slice sa (firstP kd).length sc,firstP kd)],left) rfl ⟨s4,Chg.refl _ _,Nat.zero_le _,hrow4,hf4,by simp,StsK.first kd,hleft,fun r hr => hask hr⟩ ?_
  rintro ⟨k,ev,E,m⟩ w5 ⟨s5,hC,hk,hE,hEf,hEl,hSt,hm,hall⟩
  simp only at s5 hC hk hE hEf hEl hSt hm hall
  obtain ⟨ea',ec',rfl,_⟩:=hE.form
  have hsg:=hseg' w5 fun i h1 h2 => hC.block i h2 (by omega)
  by_cases hlt:k < segs.length
  · have hlt':(k:Int) < segs.length:=by omega
    obtain ⟨q,rfl⟩:=hsg.ptr (by omega)
    obtain ⟨cc,hcl,⟨va,rfl,hva,hla⟩,hld,ea⟩:=hsg.elt (by decide) hlt
    obtain ⟨oa,oc,rfl,_⟩:=hva.form
    have hin:=seg_in hfl hlt
    have hsh:=seg_short hfl hlt
    rw [hs.1.length_eq] at hsh
    have hin':∀ o ∈ segs[k].ops,o ∈ l:=fun o ho => hs.1.mem_iff.1 (hin o ho)
    rw [segs_map hlt] at hall
    have r5:=s5.rules 0 rfl
    simp (disch:=first|omega|exact okFill_t rfl|exact okSize_t rfl|exact fun h=>h|(simp only[World.size_alloc,World.size_drew,World.size_setCell,size_fill,bytesW];omega)) only [go_sem,c21,c21S0,c21S1,c21S2,c21S3,c21S4,c21L0,c21S5,c21S6,c21S7,c21L0,hlt',hld,ea]
    refine ⟨by omega,?_⟩
    have hB6:Blk (w5.alloc (.cells #[.int .i64 segs[k].obj,.int .i64 segs[k].kind,.slice oa segs[k].ops.length oc] 24)) w5.heap.size #[.int .i64 segs[k].obj,.int .i64 segs[k].kind,.slice oa segs[k].ops.length oc] 24:=Blk.new
    have b56:Below w5.heap.size w5 (w5.alloc (.cells #[.int .i64 segs[k].obj,.int .i64 segs[k].kind,.slice oa segs[k].ops.length oc] 24)):=(Below.refl _ _).alloc (Nat.le_refl _) _
    have s6:=s5.call b56
    have hj5:=(s5.blk 0 rfl).lt
    generalize w5.alloc (.cells #[.int .i64 segs[k].obj,.int .i64 segs[k].kind,.slice oa segs[k].ops.length oc] 24) = w6 at hB6 b56 s6 ⊢
    have hbl6:=hB6.lt
    have hj6:=(s6.blk 0 rfl).lt
    have rs6:=hB6.rules
    have rj6:=s6.rules 0 rfl
    refine c21draw0 (Chg (fun _ => False) _) (Chg.refl _ _) ?_
    have hE6:=(hE.below b56).below ((Below.refl _ w6).drew)
    have hva6:=(hva.below b56 (by decide)).below ((Below.refl _ w6).drew) (by decide)
    have hK':∀ o ∈ segs[k].ops,o.Kind = kd:=fun o ho => hK o (hin' o ho)
    have hw':∀ o ∈ segs[k].ops,o.wf:=fun o ho => hw o (hin' o ho)
    have hEo:∀ p ∈ E,Ok64 p.2 ∧ p.2.length ≤ 1 + 10 * k ∧ (kd = 5 → p.2.Pairwise (· < ·)):=fun p hp => hSt _ (List.mem_map_of_mem hp)
    simp (disch:=first|omega|exact okFill_t rfl|exact okSize_t rfl|exact fun h=>h|(simp only[World.size_alloc,World.size_drew,World.size_setCell,size_fill,bytesW];omega)) only [go_sem,c21,c21S0,c21S1,c21S3,c21S4,c21L0,c21S5,c21S6,c21S7,c21D0,rs6,rj6]
    have fin:∀ {w8 w9:World} {g8 B:Nat} {U0:List (List Int)} {r:Option (List Spot)} {sm:Value} {e:Int} {ya xa:Option Addr} {yn yc xn xc:Nat} {cnt:Int} {Q:Post},Uniq (E.map Prod.snd) U0 → SearchR segs[k].ops (startP segs[k].ops.length U0) (min m 32768) r → SearchF B w8 segs[k].ops (E.map Prod.snd) U0 r (.tuple #[.agg #[.slice ya yn yc,.slice xa xn xc,.int .i64 cnt],.int .i64 e]) → w6.heap.size ≤ B → (∀ v X,RowS w8 v X → (∀ i,RowS.foot v X i → B ≤ i) → RowS w9 v X) → Below w6.heap.size w6 w9 → Blk w9 g8 #[.slice ya yn yc,.slice xa xn xc,.int .i64 cnt] 77 → w6.heap.size ≤ g8 → (∀ a m e w',Ask ob kd l left (a,m,e) → St W0 w' F (.blk j #[.int .i64 m,.int .i64 asked,.int .i64 (if e = 0 then e0 else e)] 59 :: L) I → Q .ret [(4,.bool a)] w') → 
      (∀ (xa:Option Addr) (xn xc:Nat) (X:List VS) (m':Int) w',xn = X.length → St W0 w' F (.blk j #[.int .i64 m',.int .i64 asked,.int .i64 e0] 59 :: L) I → Chg (fun i => i = j) w4 w' → RowS w' (.slice xa xn xc) X → (∀ i,RowS.foot (.slice xa xn xc) X i → i ≠ j) → X.length ≤ 32768 → StsK kd (1 + 10 * (k + 1)) (X.map Prod.snd) → (-9223372036854775808 ≤ m' ∧ m' ≤ 32768) → (∀ r,AskR ((segs.drop (k + 1)).map Seg.ops) (X.map Prod.snd) m' r → Ask ob kd l left r) → Q .normal [(0,.pointer (some ⟨j,0,none⟩)),(5,.slice xa xn xc),(15,.slice (some q) segs.length cs),(16,.int .i64 segs.length),(17,.int .i64 k)] w') →
      W Tryz.prog (sg c21S2) [(0,.pointer (some ⟨j,0,none⟩)),(8,.pointer (some ⟨g8,0,none⟩)),(9,.int .i64 e),(15,.slice (some q) segs.length cs),(16,.int .i64 segs.length),(17,.int .i64 k)] w9 Q:=by
      intro w8 w9 g8 B U0 r sm e ya xa yn yc xn xc cnt Q hU hR hF hB6' hrow b69 hB9 hg8 hret hnorm
      have s9:=s6.add b69 (.blk g8 #[.slice ya yn yc,.slice xa xn xc,.int .i64 cnt] 77) ⟨hB9,Nat.le_trans s6.bel.size hg8⟩ fun i hi => by
        simp only [Res.own,Option.some.injEq] at hi
        omega
      cases r with
      | none =>
        have e35:e = 35:=by
          unfold SearchF at hF
          simp only [Value.tuple.injEq,Array.mk.injEq,List.cons.injEq,Value.agg.injEq,Value.int.injEq,Value.slice.injEq,and_true,true_and] at hF
          exact hF.2
        have c0:cnt = 0:=by
          unfold SearchF at hF
          simp only [Value.tuple.injEq,Array.mk.injEq,List.cons.injEq,Value.agg.injEq,Value.int.injEq,Value.slice.injEq,and_true,true_and] at hF
          exact hF.1.2.2
        subst e35 c0
        exact ex_tail s9 ⟨by omega,by omega⟩ (fun _ w' s' => hret true m 35 w' (hall _ (.over hU hR)) s') (fun h => absurd h (by decide)) (fun h => absurd h (by decide))
      | some T =>
        obtain ⟨uv,xv,U,X,heq,hU',eU,hX,hUX,f1,f2⟩:=hF
        obtain ⟨x1,x2,rfl,_⟩:=hX.form
        simp only [Value.tuple.injEq,Array.mk.injEq,List.cons.injEq,Value.agg.injEq,Value.int.injEq,Value.slice.injEq,and_true,true_and] at heq
        obtain ⟨⟨_,⟨rfl,rfl,rfl⟩,rfl⟩,rfl⟩:=heq
        have hTl:=hR.2
        have hXl:=Uniq.len hUX
        refine ex_tail s9 ⟨by omega,by omega⟩ (fun h => absurd rfl h) (fun _ hx w' s' => ?_) (fun _ hx w' s' hoth hch => ?_)
        · have hXn:X.map Prod.snd = []:=by rw [List.eq_nil_of_length_eq_zero hx]; rfl
          rw [hXn] at hUX
          exact hret false _ 0 w' (hall _ (.stop hU hR hUX)) s'
        · refine hnorm _ _ _ X _ w' rfl s' (((hC.trans (Chg.of_below b56)).trans (Chg.of_below b69)).trans hch) ((hrow _ _ hX f2).loc fun i hi => hoth i ?_) (fun i hi => ?_) (by omega) ?_ ⟨by omega,by omega⟩ (fun r hr => hall _ (.go hU hR hUX ?_ hr))
          · have:=f2 i hi; omega
          · have:=f2 i hi; omega
          · have:=StsK.next (E:=E.map Prod.snd) hSt hK' hw' hU hR hUX
            intro s hs
            obtain ⟨a1,a2,a3⟩:=this s hs
            exact ⟨a1,by omega,a3⟩
          · intro hn
            exact hx (by rw [← List.length_map (f:=Prod.snd),hn]; rfl)
    have hsz:w6.drew.heap.size = w6.heap.size:=rfl
    refine ⟨?_,?_,?_⟩
    · refine Ret.mono (search_okF (ob:=segs[k].obj) (kd:=segs[k].kind) (K:=kd) (M:=1 + 10 * k) hva6 (by omega) hK' hw' hE6 (by omega) (by omega) hEo ⟨by omega,by omega⟩) ?_
      rintro u w8 ⟨⟨U0,r,hU,hR,hF⟩,b8⟩
      obtain ⟨ya,xa,yn,yc,xn,xc,cnt,e,rfl⟩:=SearchF.shape hF
      simp (disch:=first|omega|exact okFill_t rfl|exact okSize_t rfl|exact fun h=>h|(simp only[World.size_alloc,World.size_drew,World.size_setCell,size_fill,bytesW];omega)) only [go_sem,c21,c21S0,c21S1,c21S3,c21S4,c21L0,c21S5,c21S6,c21S7,c21D0]
      have b68:Below w6.heap.size w6 w8:=Below.next ((Below.refl _ w6).drew) b8
      have hch:Chg (fun _ => False) w6.drew w8:=Chg.of_below b8
      refine ⟨hch,hch.alloc _,hch.alloc _,?_⟩
      have b9:Below w8.heap.size w8 (w8.alloc (.cells #[.slice ya yn yc,.slice xa xn xc,.int .i64 cnt] 77)):=(Below.refl _ _).alloc (Nat.le_refl _) _
      refine fin (B:=w6.heap.size) (sm:=.nilFunc) hU hR hF (Nat.le_refl _) (fun v X h _ => h.below b9) (Below.next b68 b9) Blk.new b68.size (fun a m e w' h1 h2 => ?_) (fun xa xn xc X m' w' h1 h2 h3 h4 h5 h6 h7 h8 h9 => ?_)
      · simp (disch:=first|omega|exact okFill_t rfl|exact okSize_t rfl|exact fun h=>h|(simp only[World.size_alloc,World.size_drew,World.size_setCell,size_fill,bytesW];omega)) only [go_sem,c21,c21S0,c21S1,c21S2,c21S3,c21S4,c21L0,c21S5,c21S6,c21S7]
        exact ⟨a,m,e,rfl,h1,h2⟩
      · simp (disch:=first|omega|exact okFill_t rfl|exact okSize_t rfl|exact fun h=>h|(simp only[World.size_alloc,World.size_drew,World.size_setCell,size_fill,bytesW];omega)) only [go_sem,c21,c21S0,c21S1,c21S2,c21S3,c21S4,c21L0,c21S5,c21S6,c21S7]
        exact ⟨⟨by omega,by omega⟩,(k + 1,.slice xa xn xc,X,m'),rfl,⟨h2,h3,hlt,h4,h5,h6,h7,h8,h9⟩,by simp only; omega⟩
    · exact ((Chg.refl (fun _ => False) w6.drew).alloc _)
    · have hwb:Below w6.heap.size w6 (w6.alloc (.cells #[.slice none 0 0,.slice none 0 0,.int .i64 0] 77)).drew:=((Below.refl _ w6).alloc (Nat.le_refl _) _).drew
      have hBb:Blk (w6.alloc (.cells #[.slice none 0 0,.slice none 0 0,.int .i64 0] 77)).drew w6.heap.size #[.slice none 0 0,.slice none 0 0,.int .i64 0] 77:=(Blk.new (w:=w6))
      have hcb:Chg (fun _ => False) w6.drew (w6.alloc (.cells #[.slice none 0 0,.slice none 0 0,.int .i64 0] 77)).drew:=(Chg.refl (fun _ => False) w6.drew).alloc _
      have hsb:(w6.alloc (.cells #[.slice none 0 0,.slice none 0 0,.int .i64 0] 77)).drew.heap.size = w6.heap.size + 1:=World.size_alloc _ _
      have hvb:=(hva.below b56 (by decide)).below hwb (by decide)
      have hEb:=(hE.below b56).below hwb
      generalize (w6.alloc (.cells #[.slice none 0 0,.slice none 0 0,.int .i64 0] 77)).drew = wb at hwb hBb hcb hsb hvb hEb ⊢
      refine Ret.mono (search_okF (ob:=segs[k].obj) (kd:=segs[k].kind) (K:=kd) (M:=1 + 10 * k) hvb (by omega) hK' hw' hEb (by omega) (by omega) hEo ⟨by omega,by omega⟩) ?_
      rintro u w8 ⟨⟨U0,r,hU,hR,hF⟩,b8⟩
      obtain ⟨ya,xa,yn,yc,xn,xc,cnt,e,rfl⟩:=SearchF.shape hF
      have hB8:=hBb.below b8 hBb.lt
      have r8:=hB8.rules
      simp (disch:=first|omega|exact okFill_t rfl|exact okSize_t rfl|exact fun h=>h|(simp only[World.size_alloc,World.size_drew,World.size_setCell,size_fill,bytesW];omega)) only [go_sem,c21,c21S0,c21S1,c21S3,c21S4,c21L0,c21S5,c21S6,c21S7,c21D0,r8]
      have b68:Below w6.heap.size w6 w8:=Below.next hwb b8
      have hch:Chg (fun _ => False) w6.drew w8:=hcb.trans (Chg.of_below b8)
      have h89:Chg (fun i => i = w6.heap.size) w8 (w8.fill w6.heap.size #[.slice ya yn yc,.slice xa xn xc,.int .i64 cnt]):=(Chg.refl _ w8).fill fun _ => rfl
      have h69:Chg (fun _ => False) w6.drew (w8.fill w6.heap.size #[.slice ya yn yc,.slice xa xn xc,.int .i64 cnt]):=hch.next h89 fun i hi e => by
        have:w6.drew.heap.size = w6.heap.size:=rfl
        omega
      refine ⟨hch,h69,?_⟩
      refine fin (B:=wb.heap.size) (sm:=.nilFunc) hU hR hF hwb.size (fun v X h hf => h.loc fun i hi => ?_) ?_ (hB8.fill rfl) (Nat.le_refl _) (fun a m e w' h1 h2 => ?_) (fun xa xn xc X m' w' h1 h2 h3 h4 h5 h6 h7 h8 h9 => ?_)
      · have e8:(w8.fill w6.heap.size #[.slice ya yn yc,.slice xa xn xc,.int .i64 cnt]).heap.size = w8.heap.size:=size_fill
        by_cases hi8:i < w8.heap.size
        · exact h89.block i hi8 (by have:=hf i hi; omega)
        · rw [Array.getElem?_eq_none (by omega),Array.getElem?_eq_none (by omega)]
      · exact Below.next ((Below.refl _ w6).drew) (h69.below (Nat.le_refl _) fun _ _ h => h)
      · simp (disch:=first|omega|exact okFill_t rfl|exact okSize_t rfl|exact fun h=>h|(simp only[World.size_alloc,World.size_drew,World.size_setCell,size_fill,bytesW];omega)) only [go_sem,c21,c21S0,c21S1,c21S2,c21S3,c21S4,c21L0,c21S5,c21S6,c21S7]
        exact ⟨a,m,e,rfl,h1,h2⟩
      · simp (disch:=first|omega|exact okFill_t rfl|exact okSize_t rfl|exact fun h=>h|(simp only[World.size_alloc,World.size_drew,World.size_setCell,size_fill,bytesW];omega)) only [go_sem,c21,c21S0,c21S1,c21S2,c21S3,c21S4,c21L0,c21S5,c21S6,c21S7]
        exact ⟨⟨by omega,by omega⟩,(k + 1,.slice xa xn xc,X,m'),rfl,⟨h2,h3,hlt,h4,h5,h6,h7,h8,h9⟩,by simp only; omega⟩
  · have hlt':¬ (k:Int) < segs.length:=by omega
    obtain rfl:k = segs.length:=by omega
    simp (disch:=first|omega|exact okFill_t rfl|exact okSize_t rfl|exact fun h=>h|(simp only[World.size_alloc,World.size_drew,World.size_setCell,size_fill,bytesW];omega)) only [go_sem,c21,c21S0,c21S1,c21S2,c21S3,c21S4,c21L0,c21S5,c21S6,c21S7,c21L0,hlt']
    rw [List.drop_length] at hall
    exact ⟨true,m,0,rfl,hall _ .nil,s5⟩
end Go.Proofs.YteiciplnfjnfjaaGreat

namespace Go.Proofs.YteiciplnfjnfjaaGreat
set_option linter.unusedSimpArgs false
set_option linter.unusedVariables false
set_option maxRecDepth 100000
open Go Go.Ann Go.RowKit
theorem SearchV.shape {w':World} {l:List OpT} {E U0:List (List Int)} {r:Option (List Spot)} {u:Value} (h:SearchV w' l E U0 r u):∃ (ya xa:Option Addr) (yn yc xn xc:Nat) (cnt e:Int),u = .tuple #[.agg #[.slice ya yn yc,.slice xa xn xc,.int .i64 cnt],.int .i64 e]:=by
  cases r with
  | none => exact ⟨none,none,0,0,0,0,0,35,h⟩
  | some T =>
    obtain ⟨uv,xv,U,X,rfl,hU',eU,hX,hUX⟩:=h
    obtain ⟨x1,x2,rfl,_⟩:=hX.form
    obtain ⟨y1,y2,rfl,_⟩:=hU'.form
    exact ⟨_,_,_,_,_,_,_,_,rfl⟩
def askV (r:Bool × Int × Int):Value:=.agg #[.bool (if r.2.2 = 0 then r.1 else false),.int .i64 (if r.2.2 = 0 then r.2.1 else 0),.int .i64 r.2.2]
theorem rask_ok {w:World} {left ob kd:Int} {v:Value} {l:List OpT} (hr:RdS w 11 OpT.enc v l) (hl:l.length ≤ 10) (hK:∀ o ∈ l,o.Kind = kd) (hw:∀ o ∈ l,o.wf) (hleft:-9223372036854775808 ≤ left ∧ left ≤ 32768) :
    Ret Tryz.prog 24 [.agg #[.int .i64 ob,.int .i64 kd,v],.int .i64 left] w fun u w' => (∃ r,Ask ob kd l left r ∧ u = askV r) ∧ Below w.heap.size w w':=by
  obtain ⟨a,c,rfl,_⟩:=hr.form
  refine ent24 _ _ _ _ ?_
  have s1:=((St.start (W0:=w)).box #[.int .i64 ob,.int .i64 kd,.slice a l.length c] 24).box #[.bool false,.int .i64 0,.int .i64 0] 63
  rw [World.size_alloc] at s1
  have hr1:=hr.below (w':=(w.alloc (.cells #[.int .i64 ob,.int .i64 kd,.slice a l.length c] 24)).alloc (.cells #[.bool false,.int .i64 0,.int .i64 0] 63)) (((Below.refl _ w).alloc (Nat.le_refl _) _).alloc (by rw [World.size_alloc]; omega) _) (by decide)
  simp (disch:=first|omega|exact okFill_t rfl|exact okSize_t rfl|exact fun h=>h|(simp only[World.size_alloc,World.size_drew,World.size_setCell,size_fill,bytesW];omega)) only [go_sem,c24,c24S0,c24S1,c24S2,c24S3,c24L0,c24S4,c24S5]
  generalize (w.alloc (.cells #[.int .i64 ob,.int .i64 kd,.slice a l.length c] 24)).alloc (.cells #[.bool false,.int .i64 0,.int .i64 0] 63) = w1 at s1 hr1 ⊢
  refine Ret.mono (rfirst_ok kd w1) ?_
  rintro sv w2 ⟨⟨hsv,hsf⟩,b2⟩
  obtain ⟨sa,sc,rfl,_⟩:=hsv.form
  simp (disch:=first|omega|exact okFill_t rfl|exact okSize_t rfl|exact fun h=>h|(simp only[World.size_alloc,World.size_drew,World.size_setCell,size_fill,bytesW];omega)) only [go_sem,c24,c24S0,c24S1,c24S2,c24S3,c24L0,c24S4,c24S5]
  have ones:∀ u ∈ [Value.slice sa (firstP kd).length sc],u.oneCell' = true:=fun u hu => by rw [List.mem_singleton] at hu; subst hu; rfl
  refine bsW_ones ty74mkI rfl rfl (by decide) (by decide) ones ?_
  have hr3:=row1 (t:=66) hsv
  have b3:Below w2.heap.size w2 (w2.alloc (.cells #[.slice sa (firstP kd).length sc] 66)):=(Below.refl _ _).alloc (Nat.le_refl _) _
  generalize hw3:w2.alloc (.cells #[.slice sa (firstP kd).length sc] 66) = w3 at hr3 b3 ⊢
  have b13:=Below.next b2 b3
  have s3:=s1.call b13
  have r3:=s3.rules 1 rfl
  have hrd3:=hr1.below b13 (by decide)
  simp (disch:=first|omega|exact okFill_t rfl|exact okSize_t rfl|exact fun h=>h|(simp only[World.size_alloc,World.size_drew,World.size_setCell,size_fill,bytesW];omega)) only [go_sem,c24,c24S0,c24S1,c24S2,c24S3,c24L0,c24S4,c24S6,r3]
  refine Ret.mono (Cut.rsegments_ok ob kd _ l w3 hrd3 (by omega)) ?_
  rintro v7 w4 ⟨⟨l',hs,hseg⟩,b4⟩
  have hask:∀ {r:Bool × Int × Int},AskR ((l'.foldl (Cut.cutStep Cut.segQ fun _ => (ob,kd)) []).map Seg.ops) [firstP kd] left r → Ask ob kd l left r:=fun h => ⟨l',hs,h⟩
  have hfl:(l'.foldl (Cut.cutStep Cut.segQ fun _ => (ob,kd)) []).flatMap Seg.ops = l':=by rw [Cut.cut_flat]; rfl
  have hne7:=Cut.cut_ne Cut.segQ (fun _ => (ob,kd)) l' [] fun s hs => by cases hs
  generalize l'.foldl (Cut.cutStep Cut.segQ fun _ => (ob,kd)) [] = segs at hask hfl hne7 hseg
  have hsl:=Cut.segs_len segs hne7
  rw [hfl,hs.1.length_eq] at hsl
  obtain ⟨ps,cs,rfl,_⟩:=hseg.form
  have s4:=s3.call b4
  have hrow4:=hr3.below b4
  simp (disch:=first|omega|exact okFill_t rfl|exact okSize_t rfl|exact fun h=>h|(simp only[World.size_alloc,World.size_drew,World.size_setCell,size_fill,bytesW];omega)) only [go_sem,c24,c24S0,c24S1,c24S2,c24S3,c24L0,c24S5,c24S6]
  refine W_loopU (fun x:Nat × Value × List VS × Int => [(1,.int .i64 x.2.2.2),(5,x.2.1),(7,.int .i64 x.1)]) (fun x w' => Below w4.heap.size w4 w' ∧ x.1 ≤ segs.length ∧ RowS w' x.2.1 x.2.2.1 ∧ x.2.2.1.length ≤ 32768 ∧ StsK kd (1 + 10 * x.1) (x.2.2.1.map Prod.snd) ∧ (-9223372036854775808 ≤ x.2.2.2 ∧ x.2.2.2 ≤ 32768) ∧ ∀ r,AskR ((segs.drop x.1).map Seg.ops) (x.2.2.1.map Prod.snd) x.2.2.2 r → Ask ob kd l left r) (fun x => segs.length - x.1) (0,.slice (some ⟨w2.heap.size,0,none⟩) 1 1,[(.slice sa (firstP kd).length sc,firstP kd)],left) rfl ⟨Below.refl _ _,Nat.zero_le _,hrow4,by simp,StsK.first kd,hleft,fun r hr => hask hr⟩ ?_
  rintro ⟨k,ev,E,m⟩ w5 ⟨b5,hk,hE,hEl,hSt,hm,hall⟩
  simp only at b5 hk hE hEl hSt hm hall
  obtain ⟨ea',ec',rfl,_⟩:=hE.form
  have s5:=s4.call b5
  have hsg:=hseg.below b5 (by decide) fun x c => Cut.segR.below b5 x c
  by_cases hlt:k < segs.length
  · have hlt':(k:Int) < segs.length:=by omega
    obtain ⟨q,rfl⟩:=hsg.ptr (by omega)
    obtain ⟨cc,hcl,⟨va,rfl,hva,hla⟩,hld,ea⟩:=hsg.elt (by decide) hlt
    obtain ⟨oa,oc,rfl,_⟩:=hva.form
    have hin:=seg_in hfl hlt
    have hsh:=seg_short hfl hlt
    rw [hs.1.length_eq] at hsh
    have hin':∀ o ∈ segs[k].ops,o ∈ l:=fun o ho => hs.1.mem_iff.1 (hin o ho)
    have hK':∀ o ∈ segs[k].ops,o.Kind = kd:=fun o ho => hK o (hin' o ho)
    have hw':∀ o ∈ segs[k].ops,o.wf:=fun o ho => hw o (hin' o ho)
    have hEo:∀ p ∈ E,Ok64 p.2 ∧ p.2.length ≤ 1 + 10 * k ∧ (kd = 5 → p.2.Pairwise (· < ·)):=fun p hp => hSt _ (List.mem_map_of_mem hp)
    rw [segs_map hlt] at hall
    simp (disch:=first|omega|exact okFill_t rfl|exact okSize_t rfl|exact fun h=>h|(simp only[World.size_alloc,World.size_drew,World.size_setCell,size_fill,bytesW];omega)) only [go_sem,c24,c24S0,c24S1,c24S2,c24S3,c24L0,c24S4,c24S5,c24S6,c24L0,hlt',hld,ea]
    refine ⟨by omega,?_⟩
    refine Ret.mono (rsearch_ok (ob:=segs[k].obj) (kd:=segs[k].kind) (K:=kd) (M:=1 + 10 * k) hva (by omega) hK' hw' hE (by omega) (by omega) hEo ⟨by omega,by omega⟩) ?_
    rintro u w6 ⟨⟨U0,r,hU,hR,hF⟩,b6⟩
    obtain ⟨ya,xa,yn,yc,xn,xc,cnt,e,rfl⟩:=SearchV.shape hF
    have s6:=(s5.call b6).box #[.slice ya yn yc,.slice xa xn xc,.int .i64 cnt] 77
    simp (disch:=first|omega|exact okFill_t rfl|exact okSize_t rfl|exact fun h=>h|(simp only[World.size_alloc,World.size_drew,World.size_setCell,size_fill,bytesW];omega)) only [go_sem,c24,c24S0,c24S2,c24S3,c24L0,c24S4,c24S5,c24S6]
    have hb7:Below w6.heap.size w6 (w6.alloc (.cells #[.slice ya yn yc,.slice xa xn xc,.int .i64 cnt] 77)):=(Below.refl _ _).alloc (Nat.le_refl _) _
    have b47:Below w4.heap.size w4 (w6.alloc (.cells #[.slice ya yn yc,.slice xa xn xc,.int .i64 cnt] 77)):=Below.next b5 (Below.next b6 hb7)
    cases r with
    | none =>
      unfold SearchV at hF
      simp only [Value.tuple.injEq,Array.mk.injEq,List.cons.injEq,Value.agg.injEq,Value.int.injEq,Value.slice.injEq,and_true,true_and] at hF
      obtain ⟨⟨⟨rfl,rfl,rfl⟩,⟨rfl,rfl,rfl⟩,rfl⟩,rfl⟩:=hF
      have rz:=s6.rules 1 rfl
      generalize w6.alloc (.cells #[.slice none 0 0,.slice none 0 0,.int .i64 0] 77) = w7 at s6 hb7 b47 rz ⊢
      simp (disch:=first|omega|exact okFill_t rfl|exact okSize_t rfl|exact fun h=>h|(simp only[World.size_alloc,World.size_drew,World.size_setCell,size_fill,bytesW];omega)) only [go_sem,c24,c24S0,c24S1,c24S2,c24S3,c24L0,c24S4,c24S5,c24S6,rz]
      refine bdW_built (cells:=#[.bool false,.int .i64 0,.int .i64 35]) (by kernel_rfl) ?_
      simp (disch:=first|omega|exact okFill_t rfl|exact okSize_t rfl|exact fun h=>h|(simp only[World.size_alloc,World.size_drew,World.size_setCell,size_fill,bytesW];omega)) only [go_sem,c24,c24S0,c24S1,c24S2,c24S3,c24L0,c24S4,c24S5,c24S6,rz]
      exact ⟨⟨_,hall _ (.over hU hR),rfl⟩,(s6.fill 1 rfl (cs:=#[.bool false,.int .i64 0,.int .i64 35]) rfl).bel⟩
    | some T =>
      obtain ⟨rfl,rfl,U,X,hU',eU,hX,hUX⟩:=SearchV.some hF
      have hX7:=hX.below hb7
      have hTl:=hR.2
      have hXl:=Uniq.len hUX
      have rz:=s6.rules 1 rfl
      have rs:=s6.rules 0 rfl
      obtain ⟨x1,x2,e1,_⟩:=hX.form
      cases e1
      generalize w6.alloc (.cells #[.slice ya yn yc,.slice xa X.length xc,.int .i64 T.length] 77) = w7 at s6 hb7 b47 rz hX7 rs ⊢
      by_cases hx:X.length = 0
      · have hx':(X.length:Int) = 0:=by omega
        simp (disch:=first|omega|exact okFill_t rfl|exact okSize_t rfl|exact fun h=>h|(simp only[World.size_alloc,World.size_drew,World.size_setCell,size_fill,bytesW];omega)) only [go_sem,c24,c24S0,c24S1,c24S2,c24S3,c24L0,c24S4,c24S5,c24S6,rz,rs,hx']
        refine ⟨⟨by omega,by omega⟩,bdW_built (cells:=#[.bool false,.int .i64 (m - T.length),.int .i64 0]) (by kernel_rfl) ?_⟩
        simp (disch:=first|omega|exact okFill_t rfl|exact okSize_t rfl|exact fun h=>h|(simp only[World.size_alloc,World.size_drew,World.size_setCell,size_fill,bytesW];omega)) only [go_sem,c24,c24S0,c24S1,c24S2,c24S3,c24L0,c24S4,c24S5,c24S6,rz]
        have hXn:X.map Prod.snd = []:=by rw [List.eq_nil_of_length_eq_zero hx]; rfl
        rw [hXn] at hUX
        exact ⟨⟨_,hall _ (.stop hU hR hUX),rfl⟩,(s6.fill 1 rfl (cs:=#[.bool false,.int .i64 (m - T.length),.int .i64 0]) rfl).bel⟩
      · have hx':¬ (X.length:Int) = 0:=by omega
        simp (disch:=first|omega|exact okFill_t rfl|exact okSize_t rfl|exact fun h=>h|(simp only[World.size_alloc,World.size_drew,World.size_setCell,size_fill,bytesW];omega)) only [go_sem,c24,c24S0,c24S1,c24S2,c24S3,c24L0,c24S4,c24S5,c24S6,rz,rs,hx']
        refine ⟨⟨by omega,by omega⟩,⟨by omega,by omega⟩,(k + 1,.slice xa X.length xc,X,m - T.length),rfl,⟨b47,hlt,hX7,by simp only; omega,?_,⟨by simp only; omega,by simp only; omega⟩,fun r hr => hall _ (.go hU hR hUX ?_ hr)⟩,by simp only; omega⟩
        · have:=StsK.next (E:=E.map Prod.snd) hSt hK' hw' hU hR hUX
          intro s hs
          obtain ⟨a1,a2,a3⟩:=this s hs
          exact ⟨a1,by simp only; omega,a3⟩
        · intro hn
          exact hx (by rw [← List.length_map (f:=Prod.snd),hn]; rfl)
  · have hlt':¬ (k:Int) < segs.length:=by omega
    obtain rfl:k = segs.length:=by omega
    rw [List.drop_length] at hall
    have rz:=s5.rules 0 rfl
    simp (disch:=first|omega|exact okFill_t rfl|exact okSize_t rfl|exact fun h=>h|(simp only[World.size_alloc,World.size_drew,World.size_setCell,size_fill,bytesW];omega)) only [go_sem,c24,c24S0,c24S1,c24S2,c24S3,c24L0,c24S4,c24S5,c24S6,c24L0,hlt',rz]
    refine bdW_built (cells:=#[.bool true,.int .i64 m,.int .i64 0]) (by kernel_rfl) ?_
    simp (disch:=first|omega|exact okFill_t rfl|exact okSize_t rfl|exact fun h=>h|(simp only[World.size_alloc,World.size_drew,World.size_setCell,size_fill,bytesW];omega)) only [go_sem,c24,c24S0,c24S1,c24S2,c24S3,c24L0,c24S4,c24S5,c24S6,rz]
    exact ⟨⟨_,hall _ .nil,rfl⟩,(s5.fill 0 rfl (cs:=#[.bool true,.int .i64 m,.int .i64 0]) rfl).bel⟩
end Go.Proofs.YteiciplnfjnfjaaGreat

namespace Go.Ann
open Go Go.RowKit
set_option linter.unusedVariables false
set_option linter.unusedSimpArgs false
section
variable {P:Program} {N:Nat}
theorem RangeW_ret {g:Operand} {ps:List Nat} {A B:Cmd} {ρ:Env} {w W0:World} {Q:Post} {F:Nat → Prop} {L0:List Res} {I:List Inv} {α β γ:Type} {gf:Nat} {lb:Array Value}
    (encs:α → List Value) (xs:List α) (L:β → List α → List Res) (y0:β) (T:γ → List Res)
    (hg:ev ρ g = some (.func (.func gf) #[] lb)) (hgo:goFunc P gf = true) (s:St W0 w F L0 I) (hL:L y0 [] = L0) (hlen:∀ x,(encs x).length = ps.length)
    (hit:∀ (fv:Value) (J:List α → World → Prop) (S:World → Prop) (w1:World),(∀ pre w',J pre w' → ∃ l D o y,St W0 w' F (.obj l o :: .obj D (.deferred (some [])) :: L y pre) I) → (∀ pre w' w'',J pre w' → Below w'.heap.size w' w'' → J pre w'') → (∀ w' w'',S w' → Below w'.heap.size w' w'' → S w'') →
      (∀ pre x w',J pre w' → (∃ r,pre ++ x :: r = xs) → callW P fv (encs x) w' fun v w'' => (v = .bool true ∧ J (pre ++ [x]) w'') ∨ (v = .bool false ∧ S w'')) → J [] w1 → Ret P gf (fv :: lb.toList) w1 fun _ w' => J xs w' ∨ S w')
    (hbody:∀ y pre x w' l D o o2,(∃ r,pre ++ x :: r = xs) → St W0 w' F (.obj l o :: .obj D (.deferred (some [])) :: L y pre) I → W P A (zipE ps (encs x) (lowE ρ)) w' fun e ρ1 w1 => match e with
      | .normal => ∃ M,St W0 w1 F (.obj l o :: .obj D (.deferred (some [])) :: M) I ∧ ∀ w2,St W0 w2 F (.obj l o2 :: .obj D (.deferred (some [])) :: M) I → W P B ρ1 w2 fun e2 _ w3 => match e2 with
        | .normal => ∃ y',St W0 w3 F (.obj l o2 :: .obj D (.deferred (some [])) :: L y' (pre ++ [x])) I
        | .ret => ∃ z,St W0 w3 F (.obj l o2 :: .obj D (.deferred (some [])) :: T z) I
        | _ => False
      | _ => False)
    (hdone:∀ y D w',St W0 w' F (.obj D (.deferred (some [])) :: L y xs) I → Q .normal ((D + 1000000,undef) :: ρ) w')
    (hret:∀ z D w',St W0 w' F (.obj D (.deferred (some [])) :: T z) I → Q .ret ((D + 1000000,undef) :: ρ) w'):RangeW P g ps A B ρ w Q:=by
  intro N a ca cb hca hcb hra hrb hps hs
  refine wpIn_rangeFunc fun fn _ => ?_
  obtain ⟨rec,hrec⟩:∃ rec:LoopState → Option Code → Loop,rec = fun st pe => { state:=st,pending:=pe,fn,tmps:=a.tmps,params:=ps.toArray,assign:=ca,body:=cb,defers:=w.heap.size }:=⟨_,rfl⟩
  have hs1:St W0 ((w.alloc (.deferred (some []))).alloc (.loop (rec .ready none))) F (.obj (w.heap.size + 1) (.loop (rec .ready none)) :: .obj w.heap.size (.deferred (some [])) :: L y0 []) I:=by
    rw [hL]
    have:=(s.lay (.deferred (some []))).lay (.loop (rec .ready none))
    rw [World.size_alloc] at this
    exact this
  generalize hw1:(w.alloc (.deferred (some []))).alloc (.loop (rec .ready none)) = w1 at hs1
  refine ⟨w.heap.size + 1,[{ target:=.collected w.heap.size,args:=#[] }],w1,{ target:=.fn (.func gf) lb,args:=#[.func (.yield (w.heap.size + 1)) #[] #[]] },w1,gf,
    #[.func (.yield (w.heap.size + 1)) #[] #[]] ++ lb,w1,?_,?_,?_,?_,fun _ => by decide,?_⟩
  · rw [← hw1,hrec]; exact run_enterLoop_outer _ _ _ _ _
  · simp only [resolve,hs.eval _ _ hg]
    simp [go_sem]
  · intro f' _; exact trivial
  · simp [invoke,go_sem,callFunc_run hgo]
  · generalize w.heap.size + 1 = l at hs1 ⊢
    generalize w.heap.size = D at hrec hs1 ⊢
    have key:=hit (.func (.yield l) #[] #[]) (fun pre w' => ∃ y,St W0 w' F (.obj l (.loop (rec .ready none)) :: .obj D (.deferred (some [])) :: L y pre) I) (fun w' => ∃ z,St W0 w' F (.obj l (.loop (rec .done (some .ret))) :: .obj D (.deferred (some [])) :: T z) I) w1 (fun pre w' ⟨y,h⟩ => ⟨_,_,_,y,h⟩) (fun pre w' w'' ⟨y,h⟩ hb => ⟨y,h.call hb⟩) (fun w' w'' ⟨z,h⟩ hb => ⟨z,h.call hb⟩) ?_ ⟨y0,hs1⟩
    · have e:#[Value.func (.yield l) #[] #[]] ++ lb = (Value.func (.yield l) #[] #[] :: lb.toList).toArray:=by simp
      rw [e]
      refine CallsIn.mono (callsIn_wide.2 key) fun e w2 ⟨v,he,h2⟩ => ?_
      subst he
      rcases h2 with ⟨y,h2⟩ | ⟨z,h2⟩
      · have hl:=h2.obj 0 rfl
        refine ⟨none,w2.putObj l (.loop { rec .ready none with state:=.exhausted }),?_,?_⟩
        · have:=run_endLoop (P:=P) hl (by rw [hrec]; simp)
          rw [hrec] at this ⊢
          exact this
        · have h3:=(h2.putObj 0 rfl (.loop { rec .ready none with state:=.exhausted })).sub (L':=.obj D (.deferred (some [])) :: L y xs) (by simp)
          exact ⟨_,hs.mark D,hdone y D _ h3⟩
      · have hl:=h2.obj 0 rfl
        refine ⟨some .ret,w2.putObj l (.loop { rec .done (some .ret) with state:=.exhausted }),?_,?_⟩
        · have:=run_endLoop (P:=P) hl (by rw [hrec]; simp)
          rw [hrec] at this ⊢
          exact this
        · have h3:=(h2.putObj 0 rfl (.loop { rec .done (some .ret) with state:=.exhausted })).sub (L':=.obj D (.deferred (some [])) :: T z) (by simp)
          exact wpIn_ret ⟨_,hs.mark D,hret z D _ h3⟩
    · rintro pre x w' ⟨y,h⟩ hx
      have hl:=h.obj 0 rfl
      have hsz:(encs x).toArray.size = (rec .ready none).params.size:=by rw [hrec]; simp [hlen]
      have hy:=run_yield (P:=P) hl hsz
      rw [hrec] at hy
      refine ⟨rfl,rfl,fn,_,ca,cb,hy,?_⟩
      refine roundIn_of_wpIn trivial ?_
      have hsim:Sim N { tmps:=((ps.toArray.zip (encs x).toArray).foldl (fun t (p,v) => t.setIfInBounds p v) a.tmps),defers:=[] } (zipE ps (encs x) (lowE ρ)):=by
        have:=Sim.zipE (a:={ tmps:=a.tmps,defers:=[] }) ps (encs x) (lowE ρ) a.tmps hps hs.lowE
        rw [← Array.foldl_toList,Array.toList_zip]
        exact this
      have hA:=W_sound (r:=some l) (n:=0) ca A hca (.inl hra) _ w' _ _ hsim (hbody y pre x w' l D _ (.loop { rec .ready none with state:=.busy }) hx h)
      refine wpIn_mono hA fun e a1 w1 hh => ?_
      obtain ⟨ρ1,hs1,hq⟩:=hh
      cases e with
      | normal =>
        obtain ⟨M,hM,hB⟩:=hq
        have hl1:=hM.obj 0 rfl
        refine ⟨_,run_beginRound hl1 (by rw [hrec]),?_⟩
        have hB':=W_sound (r:=some l) (n:=0) cb B hcb (.inl hrb) _ _ _ a1 hs1 (hB _ (hM.putObj 0 rfl _))
        refine wpIn_mono hB' fun e2 a2 w2 hh => ?_
        obtain ⟨ρ2,hs2,hq2⟩:=hh
        cases e2 with
        | normal =>
          obtain ⟨y',hq2⟩:=hq2
          have hl2:=St.obj hq2 0 rfl
          have he:=run_endRound (P:=P) none hl2
          refine ⟨.bool true,w2.putObj l (.loop (rec .ready none)),?_,.bool true,rfl,.inl ⟨rfl,?_⟩⟩
          · rw [hrec] at he ⊢; exact he
          · exact ⟨y',St.putObj hq2 0 rfl _⟩
        | ret =>
          obtain ⟨z,hq2⟩:=hq2
          have hl2:=St.obj hq2 0 rfl
          have he:=run_endRound (P:=P) (some .ret) hl2
          refine ⟨.bool false,w2.putObj l (.loop (rec .done (some .ret))),?_,.bool false,rfl,.inr ⟨rfl,?_⟩⟩
          · rw [hrec] at he ⊢; exact he
          · exact ⟨z,St.putObj hq2 0 rfl _⟩
        | _ => exact hq2.elim
      | _ => exact hq.elim
end
end Go.Ann

namespace Go.Proofs.YteiciplnfjnfjaaGreat
set_option linter.unusedSimpArgs false
set_option linter.unusedVariables false
set_option maxRecDepth 100000
open Go Go.Ann Go.RowKit
def badL:List Res:=[.blk 0 #[] 0,.blk 0 #[] 0]
theorem bad_no {W0 w:World} {F:Nat → Prop} {I:List Inv} {A:List Res} (h:St W0 w F (A ++ badL) I):False:=by
  have:=h.nd
  rw [List.filterMap_append] at this
  have h2:=(List.nodup_append.1 this).2.1
  simp [badL,Res.own] at h2
noncomputable def ifL (c:Prop) (L:List Res):List Res:=@ite _ c (Classical.propDecidable c) L badL
theorem ifL_pos {c:Prop} {L:List Res} (h:c):ifL c L = L:=by unfold ifL; exact if_pos h
theorem ifL_elim {c:Prop} {W0 w:World} {F:Nat → Prop} {I:List Inv} {A L:List Res} (h:St W0 w F (A ++ ifL c L) I):c ∧ St W0 w F (A ++ L) I:=by
  by_cases hc:c
  · rw [ifL_pos hc] at h
    exact ⟨hc,h⟩
  · unfold ifL at h
    rw [if_neg hc] at h
    exact absurd h fun h => bad_no h
def downs (ts:List Int):Nat → List (Int × Int)
  | 0 => []
  | k + 1 => downs ts k ++ [((ts.length:Int) - 1 - k,ts.getD (ts.length - 1 - k) 0)]
theorem downs_pre (ts:List Int) {k n:Nat} (h:k ≤ n):∃ r,downs ts n = downs ts k ++ r:=by
  induction h with
  | refl => exact ⟨[],by simp⟩
  | step h ih =>
    obtain ⟨r,e⟩:=ih
    exact ⟨_,by rw [downs,e,List.append_assoc]⟩
theorem downs_snd (ts:List Int):∀ k,k ≤ ts.length → (downs ts k).map Prod.snd = ts.reverse.take k
  | 0,_ => by simp [downs]
  | k + 1,h => by
    rw [downs,List.map_append,downs_snd ts k (by omega),List.take_succ_eq_append_getElem (by simp; omega)]
    congr 1
    simp only [List.map_cons,List.map_nil,List.getElem_reverse]
    rw [List.getD_eq_getElem?_getD,List.getElem?_eq_getElem (by omega)]
    rfl
theorem back1_ok (fv:Value) (bx:Nat) (v:Value) (ts:List Int) (J:List (Int × Int) → World → Prop) (S:World → Prop) (w:World) (hl:ts.length ≤ 1000)
    (hb:∀ pre w',J pre w' → w'.cell? ⟨bx,0,none⟩ = some v ∧ RdS w' 1 intE v ts)
    (hf:∀ pre x w',J pre w' → (∃ r,pre ++ x :: r = downs ts ts.length) → callW Tryz.prog fv [.int .i64 x.1,.int .i64 x.2] w' fun v w'' => (v = .bool true ∧ J (pre ++ [x]) w'') ∨ (v = .bool false ∧ S w'')) (h0:J [] w) :
    Ret Tryz.prog 65 [fv,.pointer (some ⟨bx,0,none⟩)] w fun _ w' => J (downs ts ts.length) w' ∨ S w':=by
  obtain ⟨hb0,hr0⟩:=hb _ _ h0
  obtain ⟨a,c,rfl,_⟩:=hr0.form
  refine ent65 _ _ _ _ ?_
  simp (disch:=first|omega|exact okFill_t rfl|exact okSize_t rfl|exact fun h=>h|(simp only[World.size_alloc,World.size_drew,World.size_setCell,size_fill,bytesW];omega)) only [go_sem,c65,c65S0,c65S1,c65S2,c65L0,hb0]
  refine ⟨⟨by omega,by omega⟩,?_⟩
  refine W_loopU (fun x:Int × Nat => [(3,.int .i64 x.1)]) (fun x w' => J (downs ts x.2) w' ∧ x.2 ≤ ts.length ∧ x.1 = (ts.length:Int) - 1 - x.2) (fun x => ts.length - x.2) ((ts.length:Int) - 1,0) rfl ⟨h0,Nat.zero_le _,by simp⟩ ?_
  rintro ⟨i,k⟩ w3 ⟨j3,hk,hi⟩
  simp only at j3 hk hi
  obtain ⟨hb3,hr3⟩:=hb _ _ j3
  by_cases hlt:k < ts.length
  · have h1:i ≥ 0:=by omega
    obtain ⟨n,rfl⟩:∃ n:Nat,i = n:=⟨i.toNat,by omega⟩
    have hn:n = ts.length - 1 - k:=by omega
    have hnl:n < ts.length:=by omega
    have hnl':(n:Int) < ts.length:=by omega
    obtain ⟨q,rfl⟩:=hr3.ptr (by omega)
    have ek:=hr3.eltB (Below.refl _ _) (fun _ => rfl) (by decide) hnl
    have ez:(intE ts[n])[0]? = some (.int .i64 ts[n]):=rfl
    rw [Nat.mul_one] at ek
    simp (disch:=first|omega|exact okFill_t rfl|exact okSize_t rfl|exact fun h=>h|(simp only[World.size_alloc,World.size_drew,World.size_setCell,size_fill,bytesW];omega)) only [go_sem,c65,c65S0,c65S1,c65S2,c65L0,c65L0,h1,hb3,ek,ez,hnl']
    refine callW_mono (hf _ ((n:Int),ts[n]) _ j3 ?_) ?_
    · obtain ⟨r,e⟩:=downs_pre ts (k:=k + 1) (n:=ts.length) (by omega)
      refine ⟨r,?_⟩
      rw [e,downs,List.append_assoc]
      congr 2
      rw [← hn,List.getD_eq_getElem?_getD,List.getElem?_eq_getElem hnl]
      simp only [Option.getD_some,Prod.mk.injEq,and_true]
      omega
    · rintro _ w5 (⟨rfl,j5⟩ | ⟨rfl,s5⟩)
      · simp (disch:=first|omega|exact okFill_t rfl|exact okSize_t rfl|exact fun h=>h|(simp only[World.size_alloc,World.size_drew,World.size_setCell,size_fill,bytesW];omega)) only [go_sem,c65,c65S0,c65S1,c65S2,c65L0]
        refine ⟨⟨by omega,by omega⟩,((n:Int) - 1,k + 1),rfl,⟨?_,hlt,by simp only; omega⟩,by simp only; omega⟩
        simp only
        rw [downs,← hn,List.getD_eq_getElem?_getD,List.getElem?_eq_getElem hnl]
        have:(ts.length:Int) - 1 - k = n:=by omega
        rw [this]
        exact j5
      · simp (disch:=first|omega|exact okFill_t rfl|exact okSize_t rfl|exact fun h=>h|(simp only[World.size_alloc,World.size_drew,World.size_setCell,size_fill,bytesW];omega)) only [go_sem,c65,c65S0,c65S1,c65S2,c65L0]
        exact .inr s5
  · have h1:¬ i ≥ 0:=by omega
    obtain rfl:k = ts.length:=by omega
    simp (disch:=first|omega|exact okFill_t rfl|exact okSize_t rfl|exact fun h=>h|(simp only[World.size_alloc,World.size_drew,World.size_setCell,size_fill,bytesW];omega)) only [go_sem,c65,c65S0,c65S1,c65S2,c65L0,c65L0,h1]
    exact .inl j3
end Go.Proofs.YteiciplnfjnfjaaGreat

namespace Go.Proofs.YteiciplnfjnfjaaGreat
set_option linter.unusedSimpArgs false
set_option linter.unusedVariables false
set_option maxRecDepth 100000
open Go Go.Ann Go.RowKit
theorem rise_ex {l:List OpT} (hn:(l.map OpT.ID).Nodup):∃ L,Rise l L:=by
  have h:∀ k,k ≤ l.length → ∃ L,Rise (l.take k) L:=by
    intro k
    induction k with
    | zero => exact fun _ => ⟨[],rise_nil⟩
    | succ k ih =>
      intro hk
      obtain ⟨L,h⟩:=ih (by omega)
      exact ⟨_,rise_step hn hk h⟩
  obtain ⟨L,h⟩:=h l.length (Nat.le_refl _)
  rw [List.take_length] at h
  exact ⟨L,h⟩
theorem rise_ids {l L:List OpT} {ts:List Int} (h:Rise l L) (h1:ts.Perm (l.map OpT.ID)) (h2:ts.Pairwise (· ≤ ·)):ts = L.map OpT.ID:=by
  refine List.Perm.eq_of_pairwise (le:=(· ≤ ·)) (fun a b _ _ h3 h4 => Int.le_antisymm h3 h4) h2 ?_ (h1.trans (h.1.map OpT.ID).symm)
  rw [List.pairwise_map]
  exact h.2.imp fun h => Int.le_of_lt h
theorem AskR.ge {bs:List (List OpT)} {E:List (List Int)} {left:Int} {r:Bool × Int × Int} (h:AskR bs E left r):∀ {B:Int},B ≤ 0 → B ≤ left → B ≤ r.2.1:=by
  induction h with
  | nil => exact fun _ h => h
  | over => exact fun _ h => h
  | stop hU hR hX =>
    intro B h1 h2
    have:=hR.2
    simp only
    omega
  | go hU hR hX hne h ih =>
    intro B h1 h2
    have:=hR.2
    exact ih h1 (by omega)
theorem Ask.ge {ob kd left:Int} {l:List OpT} {r:Bool × Int × Int} (h:Ask ob kd l left r) {B:Int} (h1:B ≤ 0) (h2:B ≤ left):B ≤ r.2.1:=h.choose_spec.2.ge h1 h2
def marks:List Nat → Env
  | [] => []
  | D :: l => (D + 1000000,undef) :: marks l
theorem mkE_marks:∀ l:List Nat,mkE (marks l) = marks l
  | [] => rfl
  | D :: l => by rw [marks,mkE,if_neg (by omega),mkE_marks l]
theorem marksD_marks:∀ l:List Nat,marksD (marks l) = l
  | [] => rfl
  | D :: l => by rw [marks,marksD,if_neg (by omega),marksD_marks l,Nat.add_sub_cancel]
theorem lowE_marks:∀ l:List Nat,lowE (marks l) = []
  | [] => rfl
  | D :: l => by rw [marks,lowE,if_neg (by omega),lowE_marks l]
theorem lk_marks {n:Nat} (h:n < 1000000):∀ l:List Nat,lk (marks l) n = none
  | [] => rfl
  | D :: l => by rw [marks,lk_if,if_neg (by omega),lk_marks h l]
def dl (l:List Nat):List Res:=l.map fun D => .obj D (.deferred (some []))
theorem shut_marks {W0:World} {F:Nat → Prop} {I:List Inv} {K:World → Prop}:∀ (l:List Nat) {w:World} {L:List Res},St W0 w F (dl l ++ L) I → (∀ w',St W0 w' F L I → K w') → shutW l w K
  | [],w,L,h,hK => hK w h
  | D :: l,w,L,h,hK => by
    rw [shutW_cons]
    have h1:St W0 w F (.obj D (.deferred (some [])) :: (dl l ++ L)) I:=h
    refine ⟨h1.obj 0 rfl,shut_marks l ?_ hK⟩
    exact (h1.putObj 0 rfl (.deferred none)).sub (List.sublist_cons_self _ _)
theorem dl_perm (Ds:List Nat) (a b:Res) (more L:List Res):(dl Ds ++ (a :: b :: (more ++ L))).Perm (a :: b :: (more ++ (dl Ds ++ L))):=by
  refine List.perm_middle.trans (List.Perm.cons _ (List.perm_middle.trans (List.Perm.cons _ ?_)))
  rw [← List.append_assoc,← List.append_assoc]
  exact List.Perm.append_right L List.perm_append_comm
def Has (W0:World) (I:List Inv) (more:List Res) (v:Value) (l:List OpT):Prop:=∀ (w':World) (F:Nat → Prop) (L':List Res),(∀ r ∈ more,r ∈ L') → St W0 w' F L' I → RdS w' 11 OpT.enc v l
theorem Has.inv {W0:World} {I:List Inv} {v:Value} {l:List OpT} (h:Inv.rd 11 OpT.enc v l ∈ I):Has W0 I [] v l:=fun w' F L' _ s => (s.inv _ h).1
theorem Has.row {W0:World} {I:List Inv} {v:Value} {l:List OpT}:Has W0 I [.row v 38 11 l.length (l.flatMap OpT.enc)] v l:=fun w' F L' hr s => RdS.of_own (s.res _ (hr _ List.mem_cons_self)).1
structure Mid (W0:World) (I:List Inv) (ob kd:Int) (ts:List Int) (l0:List OpT) (left0 n0:Int) (v:Value) (l:List OpT) (left n:Int) (more:List Res) (k:Nat):Prop where
  has:Has W0 I more v l
  sub:l.Sublist l0
  lo:-9223372036854775808 ≤ left
  hi:left ≤ 32768
  n1:n0 ≤ n
  n2:n ≤ n0 + k
  all:∀ x,RoundR ob kd (ts.reverse.drop k) l left n x → RoundR ob kd ts.reverse l0 left0 n0 x
structure MidS where
  v:Value
  l:List OpT
  left:Int
  n:Int
  more:List Res
structure RetS where
  v:Value
  m:Int
  n:Int
  e:Int
  more:List Res
theorem ids_rest {ts:List Int} {pre r:List (Int × Int)} {x:Int × Int} (h:pre ++ x :: r = downs ts ts.length):ts.reverse.drop pre.length = x.2 :: ts.reverse.drop (pre.length + 1) ∧ pre.length < ts.length:=by
  have e:=downs_snd ts ts.length (Nat.le_refl _)
  rw [← h,← List.length_reverse,List.take_length] at e
  have hl:pre.length < ts.reverse.length:=by rw [← e]; simp
  refine ⟨?_,by simpa using hl⟩
  rw [List.drop_eq_getElem_cons hl]
  congr 1
  have:ts.reverse[pre.length]? = some x.2:=by rw [← e]; simp
  rw [List.getElem?_eq_getElem hl,Option.some.injEq] at this
  exact this
structure OutI (W0:World) (I:List Inv) (ob kd:Int) (l:List OpT) (left:Int) (before:Int) (y:MidS):Prop where
  has:Has W0 I y.more y.v y.l
  sub:y.l.Sublist l
  lo:-9223372036854775808 ≤ y.left
  hi:y.left ≤ 32768
  n1:0 ≤ y.n
  n2:y.n + 10 * (y.l.length + (if (y.l.length:Int) < before then 1 else 0)) ≤ 110
  b0:0 ≤ before
  b1:before ≤ 11
  go:(y.l.length:Int) < before → ∀ x,CoreR ob kd y.l y.left y.n x → CoreR ob kd l left 0 x
  stop:¬ (y.l.length:Int) < before → ∃ Lr,Rise y.l Lr ∧ CoreR ob kd l left 0 (Lr,y.n,0)
theorem backward_ok (a:Option Addr) (n c:Nat) (w:World):Ret Tryz.prog 38 [.slice a n c] w fun u w' => u = .func (.func 65) #[] #[.pointer (some ⟨w.heap.size,0,none⟩)] ∧ w' = w.alloc (.cells #[.slice a n c] 66):=by
  refine ent38 _ _ _ ?_
  simp (disch:=first|omega|exact okFill_t rfl|exact okSize_t rfl|exact fun h=>h|(simp only[World.size_alloc,World.size_drew,World.size_setCell,size_fill,bytesW];omega)) only [go_sem,c38]
theorem least_ok {W0 w:World} {F:Nat → Prop} {L:List Res} {I:List Inv} {j:Nat} {left ob kd:Int} {v:Value} {l:List OpT} (h:St W0 w F (.blk j #[.int .i64 left,.int .i64 0,.int .i64 0] 59 :: L) I) (hI:Inv.rd 11 OpT.enc v l ∈ I) (hl:l.length ≤ 10) (hn:(l.map OpT.ID).Nodup) (hK:∀ o ∈ l,o.Kind = kd) (hw:∀ o ∈ l,o.wf) (hleft:-9223372036854775808 ≤ left ∧ left ≤ 32768) :
    Ret Tryz.prog 22 [.pointer (some ⟨j,0,none⟩),.agg #[.int .i64 ob,.int .i64 kd,v]] w fun u w' => ∃ m n e vv more,u = .agg #[.int .i64 ob,.int .i64 kd,vv] ∧ St W0 w' F (.blk j #[.int .i64 m,.int .i64 n,.int .i64 e] 59 :: more ++ L) I ∧ ((e ≠ 0 ∧ (∃ a k c,vv = .slice a k c) ∧ CoreR ob kd l left 0 ([],0,e)) ∨ (e = 0 ∧ ∃ l' Lr,l'.Sublist l ∧ Rise l' Lr ∧ RdS w' 11 OpT.enc vv l' ∧ CoreR ob kd l left 0 (Lr,n,0))):=by
  have hr:=(h.inv _ hI).1
  obtain ⟨a,c,rfl,_⟩:=RdS.form hr
  refine ent22 _ _ _ _ ?_
  have s3:=((h.box #[.pointer (some ⟨j,0,none⟩)] 57).box #[.int .i64 ob,.int .i64 kd,.slice a l.length c] 24).box #[.int .i64 0,.int .i64 0,.slice none 0 0] 24
  rw [World.size_alloc,World.size_alloc] at s3
  simp (disch:=first|omega|exact okFill_t rfl|exact okSize_t rfl|exact fun h=>h|(simp only[World.size_alloc,World.size_drew,World.size_setCell,size_fill,bytesW];omega)) only [go_sem,c22,c22S0,c22S1,c22S2,c22A0,c22B0,c22S3,c22S4,c22L1]
  refine ⟨⟨by omega,by omega⟩,?_⟩
  have s0:=s3.perm (L':=.blk (w.heap.size + 1) #[.int .i64 ob,.int .i64 kd,.slice a l.length c] 24 :: .blk j #[.int .i64 left,.int .i64 0,.int .i64 0] 59 :: .blk w.heap.size #[.pointer (some ⟨j,0,none⟩)] 57 :: .blk (w.heap.size + 1 + 1) #[.int .i64 0,.int .i64 0,.slice none 0 0] 24 :: [] ++ L) (by
    refine List.Perm.trans (l₂:=[.blk (w.heap.size + 1) #[.int .i64 ob,.int .i64 kd,.slice a l.length c] 24,.blk j #[.int .i64 left,.int .i64 0,.int .i64 0] 59,.blk w.heap.size #[.pointer (some ⟨j,0,none⟩)] 57,.blk (w.heap.size + 1 + 1) #[.int .i64 0,.int .i64 0,.slice none 0 0] 24] ++ L) (List.Perm.refl _) ?_
    refine List.Perm.append (l₂:=[.blk (w.heap.size + 1 + 1) #[.int .i64 0,.int .i64 0,.slice none 0 0] 24,.blk (w.heap.size + 1) #[.int .i64 ob,.int .i64 kd,.slice a l.length c] 24,.blk w.heap.size #[.pointer (some ⟨j,0,none⟩)] 57,.blk j #[.int .i64 left,.int .i64 0,.int .i64 0] 59]) (t₁:=L) (t₂:=L) ?_ (List.Perm.refl _)
    generalize Res.blk (w.heap.size + 1) _ _ = x1
    generalize Res.blk j _ _ = x2
    generalize Res.blk w.heap.size _ _ = x3
    generalize Res.blk (w.heap.size + 1 + 1) _ _ = x4
    refine (List.Perm.cons x1 (List.Perm.cons x2 (List.Perm.swap _ _ _))).trans ?_
    refine (List.Perm.cons x1 (List.Perm.swap _ _ _)).trans ?_
    refine (List.Perm.swap _ _ _).trans (List.Perm.cons x4 (List.Perm.cons x1 (List.Perm.swap _ _ _))))
  clear s3
  generalize ((w.alloc (.cells #[.pointer (some ⟨j,0,none⟩)] 57)).alloc (.cells #[.int .i64 ob,.int .i64 kd,.slice a l.length c] 24)).alloc (.cells #[.int .i64 0,.int .i64 0,.slice none 0 0] 24) = w0 at s0 ⊢
  generalize w.heap.size + 1 + 1 = p4 at s0 ⊢
  generalize w.heap.size + 1 = p3 at s0 ⊢
  generalize w.heap.size = p2 at s0 ⊢
  refine W_loop (fun x:Int × MidS × List Nat => (2,.pointer (some ⟨p2,0,none⟩)) :: (3,.pointer (some ⟨p3,0,none⟩)) :: (4,.pointer (some ⟨p4,0,none⟩)) :: (5,.int .i64 x.1) :: marks x.2.2) (fun x w' => St W0 w' F (.blk p3 #[.int .i64 ob,.int .i64 kd,x.2.1.v] 24 :: .blk j #[.int .i64 x.2.1.left,.int .i64 x.2.1.n,.int .i64 0] 59 :: .blk p2 #[.pointer (some ⟨j,0,none⟩)] 57 :: .blk p4 #[.int .i64 0,.int .i64 0,.slice none 0 0] 24 :: x.2.1.more ++ (dl x.2.2 ++ L)) I ∧ OutI W0 I ob kd l left x.1 x.2.1) (fun x => x.2.1.l.length + if (x.2.1.l.length:Int) < x.1 then 1 else 0) ((l.length:Int) + 1,⟨.slice a l.length c,l,left,0,[]⟩,[]) rfl ⟨s0,⟨Has.inv hI,List.Sublist.refl _,hleft.1,hleft.2,Int.le_refl _,by simp only; rw [if_pos (by omega)]; omega,by omega,by omega,fun _ x h => h,fun h => absurd h (by simp only; omega)⟩⟩ ?_
  rintro ⟨before,⟨v1,l1,left1,n1,more1⟩,Ds⟩ w1 ⟨s1,o1⟩
  simp only at s1
  have mk1:=mkE_marks Ds
  have mk2:=marksD_marks Ds
  have mk3:=lowE_marks Ds
  have mk4:∀ {n:Nat},n < 1000000 → lk (marks Ds) n = none:=fun h => lk_marks h Ds
  obtain ⟨LD,hLD⟩:∃ LD,LD = dl Ds ++ L:=⟨_,rfl⟩
  rw [← hLD] at s1
  have hr1:RdS w1 11 OpT.enc v1 l1:=o1.has w1 F _ (fun r hr => by simp only [List.cons_append,List.mem_cons,List.mem_append]; exact .inr (.inr (.inr (.inr (.inl hr))))) s1
  obtain ⟨a1,c1,rfl,_⟩:=hr1.form
  have hl1:l1.length ≤ l.length:=o1.sub.length_le
  have q0:=s1.rules 0 rfl
  have q3:=s1.rules 3 rfl
  by_cases hlt:(l1.length:Int) < before
  · simp (disch:=first|omega|exact okFill_t rfl|exact okSize_t rfl|exact fun h=>h|(simp only[World.size_alloc,World.size_drew,World.size_setCell,size_fill,bytesW];omega)) only [go_sem,c22,c22S0,c22S1,c22S2,c22A0,c22B0,c22S4,c22L1,c22S5,c22L1,q0,hlt,mk1,mk4]
    refine Ret.mono (ids_ok hr1 (by omega)) ?_
    rintro vi w2 ⟨⟨ts,hp,hts,own2⟩,b2⟩
    have s2:=newRow s1 b2 own2
    obtain ⟨ia,ic,rfl,_⟩:=own_slice own2
    have hlen:ts.length = l1.length:=by rw [hp.length_eq,List.length_map]
    simp (disch:=first|omega|exact okFill_t rfl|exact okSize_t rfl|exact fun h=>h|(simp only[World.size_alloc,World.size_drew,World.size_setCell,size_fill,bytesW];omega)) only [go_sem,c22,c22S0,c22S1,c22S2,c22A0,c22B0,c22S4,c22L1,c22S5,mk1,mk4]
    refine Ret.mono (backward_ok _ _ _ w2) ?_
    rintro _ _ ⟨rfl,rfl⟩
    simp (disch:=first|omega|exact okFill_t rfl|exact okSize_t rfl|exact fun h=>h|(simp only[World.size_alloc,World.size_drew,World.size_setCell,size_fill,bytesW];omega)) only [go_sem,c22,c22S0,c22S1,c22S2,c22A0,c22B0,c22S3,c22S4,c22L1,c22S5,mk1,mk4]
    have s3:=s2.box #[.slice ia ts.length ic] 66
    generalize w2.heap.size = bx at s3 ⊢
    generalize w2.alloc (.cells #[.slice ia ts.length ic] 66) = w3 at s3 ⊢
    obtain ⟨LL,hLL⟩:∃ LL:MidS → List Res,LL = fun y => .blk p3 #[.int .i64 ob,.int .i64 kd,y.v] 24 :: .blk j #[.int .i64 y.left,.int .i64 y.n,.int .i64 0] 59 :: .blk p2 #[.pointer (some ⟨j,0,none⟩)] 57 :: .blk p4 #[.int .i64 0,.int .i64 0,.slice none 0 0] 24 :: .blk bx #[.slice ia ts.length ic] 66 :: .row (.slice ia ts.length ic) 3 1 ts.length (ts.flatMap intE) :: (y.more ++ LD):=⟨_,rfl⟩
    obtain ⟨y0,hy0⟩:∃ y0:MidS,y0 = ⟨.slice a1 l1.length c1,l1,left1,n1,more1⟩:=⟨_,rfl⟩
    have hm0:Mid W0 I ob kd ts l1 left1 n1 y0.v y0.l y0.left y0.n y0.more 0:=by
      rw [hy0]
      exact ⟨o1.has,List.Sublist.refl _,o1.lo,o1.hi,Int.le_refl _,by simp only; omega,fun x h => h⟩
    have s4:St W0 w3 F (ifL (Mid W0 I ob kd ts l1 left1 n1 y0.v y0.l y0.left y0.n y0.more ([]:List (Int × Int)).length) (LL y0)) I:=by
      rw [show ([]:List (Int × Int)).length = 0 from rfl,ifL_pos hm0,hLL,hy0]
      exact s3.perm (List.Perm.append_right (more1 ++ LD) (List.perm_append_comm (l₁:=[_,_,_,_]) (l₂:=[_,_])))
    have hn1:(l1.map OpT.ID).Nodup:=hn.sublist (o1.sub.map _)
    obtain ⟨L0,hL0⟩:=rise_ex hn1
    have hts0:=rise_ids hL0 hp hts
    refine RangeW_ret (fun x:Int × Int => [.int .i64 x.1,.int .i64 x.2]) (downs ts ts.length) (fun (y:MidS) pre => ifL (Mid W0 I ob kd ts l1 left1 n1 y.v y.l y.left y.n y.more pre.length) (LL y)) y0 (fun z:RetS => ifL (z.e ≠ 0 ∧ (∃ a k c,z.v = .slice a k c) ∧ CoreR ob kd l left 0 ([],0,z.e)) (.blk j #[.int .i64 z.m,.int .i64 z.n,.int .i64 z.e] 59 :: .blk p4 #[.int .i64 ob,.int .i64 kd,z.v] 24 :: z.more ++ LD)) rfl (by kernel_rfl) s4 rfl (fun _ => rfl) ?_ ?_ ?_ ?_
    · intro fv J S w1 hJ1 hJ2 hS hf h0
      refine back1_ok fv bx (.slice ia ts.length ic) ts J S w1 (by omega) (fun pre w' hJ => ?_) hf h0
      obtain ⟨lo,D,o,y,hs⟩:=hJ1 pre w' hJ
      obtain ⟨_,hs⟩:=ifL_elim (A:=[_,_]) hs
      rw [hLL] at hs
      exact ⟨(hs.rules 6 rfl).1 0,RdS.of_own (hs.row 7 rfl)⟩
    · rintro ⟨yv,yl,yleft,yn,ymore⟩ pre x w' lo D o o2 hx h
      obtain ⟨hm,h⟩:=ifL_elim (A:=[_,_]) h
      have hm:Mid W0 I ob kd ts l1 left1 n1 yv yl yleft yn ymore pre.length:=hm
      simp only [List.cons_append,List.nil_append] at h
      simp (disch:=first|omega|exact okFill_t rfl|exact okSize_t rfl|exact fun h=>h|(simp only[World.size_alloc,World.size_drew,World.size_setCell,size_fill,bytesW];omega)) only [go_sem,c22,c22S0,c22S1,c22S2,c22A0,c22B0,c22S3,c22S4,c22L1,c22S5]
      refine ⟨_,h,fun w4 h4 => ?_⟩
      obtain ⟨r,hx⟩:=hx
      obtain ⟨hrest,hplt⟩:=ids_rest hx
      rw [hLL] at h4
      simp only at h4
      have hr4:RdS w4 11 OpT.enc yv yl:=hm.has w4 F _ (fun r hr => by simp only [List.mem_cons,List.mem_append]; exact .inr (.inr (.inr (.inr (.inr (.inr (.inr (.inr (.inl hr))))))))) h4
      obtain ⟨ya,yc,rfl,_⟩:=hr4.form
      have hyl:yl.length ≤ 10:=by have:=hm.sub.length_le; omega
      have q2:=h4.rules 2 rfl
      simp (disch:=first|omega|exact okFill_t rfl|exact okSize_t rfl|exact fun h=>h|(simp only[World.size_alloc,World.size_drew,World.size_setCell,size_fill,bytesW];omega)) only [go_sem,c22,c22S0,c22S1,c22S2,c22A0,c22B0,c22S3,c22S4,c22L1,c22S5,q2]
      refine Ret.mono (wout_ok (ob:=ob) (kd:=kd) (d:=x.2) hr4 (by omega)) ?_
      rintro _ w5 ⟨⟨uv,rfl,own5⟩,b5⟩
      have s5:=newRow h4 b5 own5
      obtain ⟨ua,uc,rfl,_⟩:=own_slice own5
      simp (disch:=first|omega|exact okFill_t rfl|exact okSize_t rfl|exact fun h=>h|(simp only[World.size_alloc,World.size_drew,World.size_setCell,size_fill,bytesW];omega)) only [go_sem,c22,c22S0,c22S1,c22A0,c22B0,c22S3,c22S4,c22L1,c22S5]
      have s6:=s5.box #[.int .i64 ob,.int .i64 kd,.slice ua (wo yl x.2).length uc] 24
      generalize w5.heap.size = g8 at s6 ⊢
      generalize w5.alloc (.cells #[.int .i64 ob,.int .i64 kd,.slice ua (wo yl x.2).length uc] 24) = w6 at s6 ⊢
      have s6':=s6.perm (L':=.blk j #[.int .i64 yleft,.int .i64 yn,.int .i64 0] 59 :: ([.blk g8 #[.int .i64 ob,.int .i64 kd,.slice ua (wo yl x.2).length uc] 24,.row (.slice ua (wo yl x.2).length uc) 38 11 (wo yl x.2).length ((wo yl x.2).flatMap OpT.enc),.obj lo o2,.obj D (.deferred (some [])),.blk p3 #[.int .i64 ob,.int .i64 kd,.slice ya yl.length yc] 24] ++ .blk p2 #[.pointer (some ⟨j,0,none⟩)] 57 :: .blk p4 #[.int .i64 0,.int .i64 0,.slice none 0 0] 24 :: .blk bx #[.slice ia ts.length ic] 66 :: .row (.slice ia ts.length ic) 3 1 ts.length (ts.flatMap intE) :: (ymore ++ LD))) List.perm_middle.symm
      have qj:=s6'.rules 0 rfl
      have q2':=s6'.rules 6 rfl
      have q8':=s6'.rules 1 rfl
      have s7:=s6'.set 0 rfl 1 (.int .i64 (yn + 1))
      have qj7:=s7.rules 0 rfl
      have q27:=s7.rules 6 rfl
      have q87:=s7.rules 1 rfl
      have hyn:yn ≤ 110:=by
        have:=hm.n2
        have:=o1.n2
        simp only at this
        split at this <;> omega
      have hyn0:0 ≤ yn:=by
        have:=hm.n1
        have:=o1.n1
        simp only at this
        omega
      simp (disch:=first|omega|exact okFill_t rfl|exact okSize_t rfl|exact fun h=>h|(simp only[World.size_alloc,World.size_drew,World.size_setCell,size_fill,bytesW];omega)) only [go_sem,c22,c22S2,c22A0,c22B0,c22S3,c22S4,c22L1,c22S5,qj,q2']
      refine ⟨⟨by omega,by omega⟩,?_⟩
      generalize w6.setCell ⟨j,1,none⟩ (.int .i64 (yn + 1)) = w7 at s7 qj7 q27 q87 ⊢
      simp (disch:=first|omega|exact okFill_t rfl|exact okSize_t rfl|exact fun h=>h|(simp only[World.size_alloc,World.size_drew,World.size_setCell,size_fill,bytesW];omega)) only [go_sem,c22,c22S2,c22A0,c22B0,c22S3,c22S4,c22L1,c22S5,q27,q87]
      have hw5:(wo yl x.2).length ≤ 10:=Nat.le_trans (wo_len_le _ _) hyl
      have hrw:RdS w7 11 OpT.enc (.slice ua (wo yl x.2).length uc) (wo yl x.2):=RdS.of_own (s7.row 2 rfl)
      have hsub:∀ o ∈ wo yl x.2,o ∈ l:=fun o ho => o1.sub.subset (hm.sub.subset (List.mem_filter.1 ho).1)
      refine Ret.mono (explained_ok (ob:=ob) (kd:=kd) s7 hrw hw5 (fun o ho => hK o (hsub o ho)) (fun o ho => hw o (hsub o ho)) ⟨hm.lo,hm.hi⟩) ?_
      rintro _ w8 ⟨av,m,e,rfl,hask,s8⟩
      have q8j:=s8.rules 0 rfl
      have q82:=s8.rules 6 rfl
      have q83:=s8.rules 5 rfl
      have q88:=s8.rules 1 rfl
      have q84:=s8.rules 7 rfl
      have hlow:=hask.low
      have hge:=hask.ge (B:=-9223372036854775808) (by decide) hm.lo
      simp only at hlow hge
      have hhi:=hm.hi
      have hn1':=hm.n1
      have hn2':=hm.n2
      have hpl:(pre ++ [x]).length = pre.length + 1:=by simp
      by_cases he:e = 0
      · subst he
        simp only [if_true] at s8 q8j
        cases av with
        | true =>
          simp (disch:=first|omega|exact okFill_t rfl|exact okSize_t rfl|exact fun h=>h|(simp only[World.size_alloc,World.size_drew,World.size_setCell,size_fill,bytesW];omega)) only [go_sem,c22,c22S0,c22S1,c22S2,c22A0,c22B0,c22S3,c22S4,c22L1,c22S5,q82,q8j]
          have hmid:Mid W0 I ob kd ts l1 left1 n1 (.slice ya yl.length yc) yl m (yn + 1) ymore (pre ++ [x]).length:=by
            rw [hpl]
            exact ⟨hm.has,hm.sub,hge,by omega,by omega,by omega,fun res hres => hm.all res (by rw [hrest]; exact .keep hask hres)⟩
          refine ⟨⟨.slice ya yl.length yc,yl,m,yn + 1,ymore⟩,?_⟩
          rw [ifL_pos hmid,hLL]
          exact (s8.perm List.perm_middle).sub (.cons _ (.cons _ (List.Sublist.refl _)))
        | false =>
          simp (disch:=first|omega|exact okFill_t rfl|exact okSize_t rfl|exact fun h=>h|(simp only[World.size_alloc,World.size_drew,World.size_setCell,size_fill,bytesW];omega)) only [go_sem,c22,c22S0,c22S2,c22A0,c22B0,c22S3,c22S4,c22L1,c22S5,q88,q83]
          have s9:=s8.fill 5 rfl (cs:=#[.int .i64 ob,.int .i64 kd,.slice ua (wo yl x.2).length uc]) rfl
          have q9j:=s9.rules 0 rfl
          have q92:=s9.rules 6 rfl
          generalize w8.fill p3 #[.int .i64 ob,.int .i64 kd,.slice ua (wo yl x.2).length uc] = w9 at s9 q9j q92 ⊢
          simp (disch:=first|omega|exact okFill_t rfl|exact okSize_t rfl|exact fun h=>h|(simp only[World.size_alloc,World.size_drew,World.size_setCell,size_fill,bytesW];omega)) only [go_sem,c22,c22S0,c22S1,c22S2,c22A0,c22B0,c22S3,c22S4,c22L1,c22S5,q92,q9j]
          have hmid:Mid W0 I ob kd ts l1 left1 n1 (.slice ua (wo yl x.2).length uc) (wo yl x.2) m (yn + 1) [.row (.slice ua (wo yl x.2).length uc) 38 11 (wo yl x.2).length ((wo yl x.2).flatMap OpT.enc)] (pre ++ [x]).length:=by
            rw [hpl]
            exact ⟨Has.row,List.filter_sublist.trans hm.sub,hge,by omega,by omega,by omega,fun res hres => hm.all res (by rw [hrest]; exact .out hask hres)⟩
          refine ⟨⟨.slice ua (wo yl x.2).length uc,wo yl x.2,m,yn + 1,[.row (.slice ua (wo yl x.2).length uc) 38 11 (wo yl x.2).length ((wo yl x.2).flatMap OpT.enc)]⟩,?_⟩
          rw [ifL_pos hmid,hLL]
          have s10:=s9.sub (L':=.blk j #[.int .i64 m,.int .i64 (yn + 1),.int .i64 0] 59 :: .row (.slice ua (wo yl x.2).length uc) 38 11 (wo yl x.2).length ((wo yl x.2).flatMap OpT.enc) :: .obj lo o2 :: .obj D (.deferred (some [])) :: .blk p3 #[.int .i64 ob,.int .i64 kd,.slice ua (wo yl x.2).length uc] 24 :: .blk p2 #[.pointer (some ⟨j,0,none⟩)] 57 :: .blk p4 #[.int .i64 0,.int .i64 0,.slice none 0 0] 24 :: .blk bx #[.slice ia ts.length ic] 66 :: .row (.slice ia ts.length ic) 3 1 ts.length (ts.flatMap intE) :: LD) (.cons_cons _ (.cons _ (.cons_cons _ (.cons_cons _ (.cons_cons _ (.cons_cons _ (.cons_cons _ (.cons_cons _ (.cons_cons _ (.cons_cons _ (List.sublist_append_right _ _)))))))))))
          refine s10.perm ?_
          refine (List.perm_middle (l₁:=[_,_,_]) (l₂:=_ :: _ :: _ :: _ :: _ :: LD)).trans (List.Perm.cons _ ?_)
          exact List.perm_middle (l₁:=[_,_,_,_,_,_,_]) (l₂:=LD)
      · have ha:=hask.err
        simp only at ha
        have hav:av = true:=by
          rcases ha with h | h
          · exact absurd h he
          · exact h.2
        subst hav
        rw [if_neg he] at s8 q8j
        have s9:=s8.fill 7 rfl (cs:=#[.int .i64 ob,.int .i64 kd,.slice ya yl.length yc]) rfl
        have q8z:=s8.rules 7 rfl
        simp (disch:=first|omega|exact okFill_t rfl|exact okSize_t rfl|exact fun h=>h|(simp only[World.size_alloc,World.size_drew,World.size_setCell,size_fill,bytesW];omega)) only [go_sem,c22,c22S0,c22S1,c22S2,c22A0,c22B0,c22S3,c22S4,c22L1,c22S5,q82,q8j,he,q83,q8z]
        have hround:=hm.all (yl,m,yn + 1,e) (by rw [hrest]; exact .err hask he)
        rw [hts0] at hround
        have hz:e ≠ 0 ∧ (∃ a k c,Value.slice ya yl.length yc = .slice a k c) ∧ CoreR ob kd l left 0 ([],0,e):=⟨he,⟨_,_,_,rfl⟩,o1.go hlt _ (.err hL0 hround he)⟩
        refine ⟨⟨.slice ya yl.length yc,m,yn + 1,e,[]⟩,?_⟩
        rw [ifL_pos hz]
        have s10:=s9.sub (L':=.blk j #[.int .i64 m,.int .i64 (yn + 1),.int .i64 e] 59 :: .obj lo o2 :: .obj D (.deferred (some [])) :: .blk p4 #[.int .i64 ob,.int .i64 kd,.slice ya yl.length yc] 24 :: LD) (.cons_cons _ (.cons _ (.cons _ (.cons_cons _ (.cons_cons _ (.cons _ (.cons _ (.cons_cons _ (.cons _ (.cons _ (List.sublist_append_right _ _)))))))))))
        exact s10.perm (List.perm_middle (l₁:=[_,_]) (l₂:=_ :: LD))
    · rintro ⟨yv,yl,yleft,yn,ymore⟩ D w' h
      obtain ⟨hm,h⟩:=ifL_elim (A:=[_]) h
      have hm:Mid W0 I ob kd ts l1 left1 n1 yv yl yleft yn ymore (downs ts ts.length).length:=hm
      rw [hLL] at h
      simp only [List.cons_append,List.nil_append] at h
      simp (disch:=first|omega|exact okFill_t rfl|exact okSize_t rfl|exact fun h=>h|(simp only[World.size_alloc,World.size_drew,World.size_setCell,size_fill,bytesW];omega)) only [go_sem,c22,c22S0,c22S1,c22S2,c22A0,c22B0,c22S3,c22S4,c22L1,c22S5,mk1]
      have hdl:(downs ts ts.length).length = ts.length:=by rw [← List.length_map (f:=Prod.snd),downs_snd ts _ (Nat.le_refl _)]; simp
      have hround:RoundR ob kd (L0.map OpT.ID).reverse l1 left1 n1 (yl,yleft,yn,0):=by
        rw [← hts0]
        refine hm.all _ ?_
        rw [hdl,List.drop_eq_nil_of_le (by simp)]
        exact .nil
      have h5:=h.sub (L':=.obj D (.deferred (some [])) :: .blk p3 #[.int .i64 ob,.int .i64 kd,yv] 24 :: .blk j #[.int .i64 yleft,.int .i64 yn,.int .i64 0] 59 :: .blk p2 #[.pointer (some ⟨j,0,none⟩)] 57 :: .blk p4 #[.int .i64 0,.int .i64 0,.slice none 0 0] 24 :: (ymore ++ LD)) (.cons_cons _ (.cons_cons _ (.cons_cons _ (.cons_cons _ (.cons_cons _ (.cons _ (.cons _ (List.Sublist.refl _))))))))
      have h6:=h5.perm (L':=.blk p3 #[.int .i64 ob,.int .i64 kd,yv] 24 :: .blk j #[.int .i64 yleft,.int .i64 yn,.int .i64 0] 59 :: .blk p2 #[.pointer (some ⟨j,0,none⟩)] 57 :: .blk p4 #[.int .i64 0,.int .i64 0,.slice none 0 0] 24 :: (ymore ++ .obj D (.deferred (some [])) :: LD)) (by
        have:=List.perm_middle (a:=Res.obj D (.deferred (some []))) (l₁:=.blk p3 #[.int .i64 ob,.int .i64 kd,yv] 24 :: .blk j #[.int .i64 yleft,.int .i64 yn,.int .i64 0] 59 :: .blk p2 #[.pointer (some ⟨j,0,none⟩)] 57 :: .blk p4 #[.int .i64 0,.int .i64 0,.slice none 0 0] 24 :: ymore) (l₂:=LD)
        exact this)
      rw [hLD] at h6
      have hsl:=hm.sub.length_le
      have on2:n1 + 10 * (l1.length + (if (l1.length:Int) < before then 1 else 0)) ≤ 110:=o1.n2
      have on1:0 ≤ n1:=o1.n1
      have mn1:=hm.n1
      have mn2:=hm.n2
      rw [if_pos hlt] at on2
      have hyn0:0 ≤ yn:=by omega
      have hl11:(l1.length:Int) ≤ 11:=by omega
      have hl10:(0:Int) ≤ (l1.length:Int):=by omega
      rw [hdl,hlen] at mn2
      have hlt2:∀ {h:Decidable ((yl.length:Int) < (l1.length:Int))},yl.length + (@ite _ ((yl.length:Int) < (l1.length:Int)) h 1 0) ≤ l1.length:=by
        intro h
        split <;> omega
      have hneq:(yl.length:Int) < l1.length → yl.length ≠ l1.length:=fun h => by omega
      refine ⟨((l1.length:Int),⟨yv,yl,yleft,yn,ymore⟩,D :: Ds),rfl,⟨h6,⟨hm.has,hm.sub.trans o1.sub,hm.lo,hm.hi,hyn0,?_,hl10,hl11,fun hlt2 x hx => o1.go hlt x (.more hL0 hround (hneq hlt2) hx),fun hge => ?_⟩⟩,?_⟩
      · simp only
        have:=@hlt2 inferInstance
        split at this <;> rename_i h7 <;> simp only [h7,if_true,if_false] <;> omega
      · have hge':¬ (yl.length:Int) < l1.length:=hge
        have he:yl = l1:=hm.sub.eq_of_length (by omega)
        refine ⟨L0,by rw [he]; exact hL0,o1.go hlt _ (.done hL0 hround (by rw [he]))⟩
      · simp only
        rw [if_pos hlt]
        have:=@hlt2 inferInstance
        omega
    · rintro ⟨zv,zm,zn,ze,zmore⟩ D w' h
      have h0:St W0 w' F ([.obj D (.deferred (some []))] ++ ifL (ze ≠ 0 ∧ (∃ a k c,zv = .slice a k c) ∧ CoreR ob kd l left 0 ([],0,ze)) (.blk j #[.int .i64 zm,.int .i64 zn,.int .i64 ze] 59 :: .blk p4 #[.int .i64 ob,.int .i64 kd,zv] 24 :: zmore ++ LD)) I:=h
      have hz:=(ifL_elim h0).1
      have h5:St W0 w' F (.obj D (.deferred (some [])) :: .blk j #[.int .i64 zm,.int .i64 zn,.int .i64 ze] 59 :: .blk p4 #[.int .i64 ob,.int .i64 kd,zv] 24 :: zmore ++ LD) I:=(ifL_elim h0).2
      clear h0 h
      have hz1:=hz.1
      have hz3:=hz.2.2
      have hz2:=hz.2.1
      clear hz
      simp (disch:=first|omega|exact okFill_t rfl|exact okSize_t rfl|exact fun h=>h|(simp only[World.size_alloc,World.size_drew,World.size_setCell,size_fill,bytesW];omega)) only [go_sem,c22,c22S0,c22S1,c22S2,c22A0,c22B0,c22S3,c22S4,c22L1,c22S5,mk1,mk2]
      obtain ⟨za,hz2⟩:=hz2
      obtain ⟨zk,hz2⟩:=hz2
      obtain ⟨zc,hzv⟩:=hz2
      have h:=h5
      clear h5
      rw [hzv] at h
      have hD:=h.obj 0 rfl
      have h2:=(h.putObj 0 rfl (.deferred none)).sub (List.sublist_cons_self _ _)
      refine ⟨hD,?_⟩
      have h3:=h2.perm (L':=dl Ds ++ (.blk j #[.int .i64 zm,.int .i64 zn,.int .i64 ze] 59 :: .blk p4 #[.int .i64 ob,.int .i64 kd,.slice za zk zc] 24 :: zmore ++ L)) (by
        rw [hLD]
        exact dl_perm Ds _ _ zmore L)
      refine shut_marks Ds h3 fun w9 h9 => ?_
      have q9:=h9.rules 1 rfl
      simp (disch:=first|omega|exact okFill_t rfl|exact okSize_t rfl|exact fun h=>h|(simp only[World.size_alloc,World.size_drew,World.size_setCell,size_fill,bytesW];omega)) only [go_sem,c22,c22S0,c22S1,c22S2,c22A0,c22B0,c22S3,c22S4,c22L1,c22S5,q9]
      exact ⟨_,_,_,_,zmore,rfl,h9.sub (.cons_cons _ (.cons _ (List.Sublist.refl _))),.inl ⟨hz1,⟨_,_,_,rfl⟩,hz3⟩⟩
  · simp (disch:=first|omega|exact okFill_t rfl|exact okSize_t rfl|exact fun h=>h|(simp only[World.size_alloc,World.size_drew,World.size_setCell,size_fill,bytesW];omega)) only [go_sem,c22,c22S0,c22S1,c22S2,c22A0,c22B0,c22S3,c22S4,c22L1,c22S5,c22L1,q0,q3,hlt,mk1,mk2]
    obtain ⟨Lr,h1,h2⟩:=o1.stop hlt
    have s2:=(s1.fill 3 rfl (cs:=#[.int .i64 ob,.int .i64 kd,.slice a1 l1.length c1]) rfl).sub (L':=.blk j #[.int .i64 left1,.int .i64 n1,.int .i64 0] 59 :: .blk p4 #[.int .i64 ob,.int .i64 kd,.slice a1 l1.length c1] 24 :: (more1 ++ LD)) (.cons _ (.cons_cons _ (.cons _ (.cons_cons _ (List.Sublist.refl _)))))
    have s3:=s2.perm (L':=dl Ds ++ (.blk j #[.int .i64 left1,.int .i64 n1,.int .i64 0] 59 :: .blk p4 #[.int .i64 ob,.int .i64 kd,.slice a1 l1.length c1] 24 :: (more1 ++ L))) (by
      rw [hLD]
      exact dl_perm Ds _ _ more1 L)
    refine shut_marks Ds s3 fun w9 h9 => ?_
    have q9:=h9.rules 1 rfl
    simp (disch:=first|omega|exact okFill_t rfl|exact okSize_t rfl|exact fun h=>h|(simp only[World.size_alloc,World.size_drew,World.size_setCell,size_fill,bytesW];omega)) only [go_sem,c22,c22S0,c22S1,c22S2,c22A0,c22B0,c22S3,c22S4,c22L1,c22S5,q9]
    have h10:=h9.sub (L':=.blk j #[.int .i64 left1,.int .i64 n1,.int .i64 0] 59 :: (more1 ++ L)) (.cons_cons _ (.cons _ (List.Sublist.refl _)))
    exact ⟨_,_,_,_,more1,rfl,h10,.inr ⟨rfl,l1,Lr,o1.sub,h1,o1.has _ F _ (fun r hr => by simp only [List.mem_cons,List.mem_append]; exact .inr (.inl hr)) h10,h2⟩⟩
end Go.Proofs.YteiciplnfjnfjaaGreat

namespace Go.Proofs.YteiciplnfjnfjaaGreat
set_option linter.unusedSimpArgs false
set_option linter.unusedVariables false
set_option maxRecDepth 100000
open Go Go.Ann Go.RowKit
def ObjV (B:Nat) (w':World) (ob:Int) (r:Option (List OpT × Int) × Int) (u:Value):Prop :=
  match r with
  | (some (L,n),_) => ∃ vv,u = .tuple #[.agg #[.int .i64 ob,vv,.int .i64 n],.bool true,.int .i64 0] ∧ w'.ownsRow B 38 11 vv L.length (L.flatMap OpT.enc)
  | (none,e) => u = .tuple #[.agg #[.int .i64 0,.slice none 0 0,.int .i64 0],.bool false,.int .i64 e]
theorem startI {w:World} {v:Value} {l:List OpT} (hr:RdS w 11 OpT.enc v l):St w w (fun _ => False) [] [.rd 11 OpT.enc v l] :=
  (St.start (W0:=w)).keep _ hr fun k hk => ⟨hr.footLt (by decide) hk,fun h => h,fun r hr => by cases hr⟩
theorem object_ok {w:World} {bud ob kd:Int} {v:Value} {l:List OpT} (hr:RdS w 11 OpT.enc v l) (hl:l.length ≤ 10) (hn:(l.map OpT.ID).Nodup) (hK:∀ o ∈ l,o.Kind = kd) (hw:∀ o ∈ l,o.wf) (hb:I64 bud) :
    Ret Tryz.prog 9 [.agg #[.int .i64 ob,.int .i64 kd,v],.int .i64 bud] w fun u w' => (∃ r,ObjR ob kd l bud r ∧ ObjV w.heap.size w' ob r u) ∧ Below w.heap.size w w':=by
  obtain ⟨a,c,rfl,_⟩:=hr.form
  refine ent9 _ _ _ _ ?_
  have s2:=((startI hr).box #[.int .i64 ob,.int .i64 kd,.slice a l.length c] 24).box #[.int .i64 0,.slice none 0 0,.int .i64 0] 28
  rw [World.size_alloc] at s2
  simp (disch:=first|omega|exact okFill_t rfl|exact okSize_t rfl|exact fun h=>h|(simp only[World.size_alloc,World.size_drew,World.size_setCell,size_fill,bytesW];omega)) only [go_sem,c9,c9S0,c9S1,c9S2,c9S3,c9S4,c9S5,c9S6,c9S7]
  generalize (w.alloc (.cells #[.int .i64 ob,.int .i64 kd,.slice a l.length c] 24)).alloc (.cells #[.int .i64 0,.slice none 0 0,.int .i64 0] 28) = w2 at s2 ⊢
  generalize w.heap.size + 1 = p4 at s2 ⊢
  obtain ⟨p1,hp1⟩:∃ p1,p1 = w.heap.size:=⟨_,rfl⟩
  rw [← hp1] at s2
  have hbel:∀ {w':World} {F:Nat → Prop} {L:List Res} {I:List Inv},St w w' F L I → Below p1 w w':=fun h => by rw [hp1]; exact h.bel
  rw [← hp1]
  refine bdW_built (cells:=#[.int .i64 (min bud 32768),.int .i64 0,.int .i64 0]) (by kernel_rfl) ?_
  simp (disch:=first|omega|exact okFill_t rfl|exact okSize_t rfl|exact fun h=>h|(simp only[World.size_alloc,World.size_drew,World.size_setCell,size_fill,bytesW];omega)) only [go_sem,c9,c9S0,c9S1,c9S2,c9S3,c9S4,c9S5,c9S6,c9S7]
  have s3:=s2.box #[.int .i64 (min bud 32768),.int .i64 0,.int .i64 0] 59
  generalize w2.heap.size = pj at s3 ⊢
  generalize w2.alloc (.cells #[.int .i64 (min bud 32768),.int .i64 0,.int .i64 0] 59) = w3 at s3 ⊢
  have q1:=s3.rules 2 rfl
  have hr3:RdS w3 11 OpT.enc (.slice a l.length c) l:=s3.rd 0 rfl
  have hbm:-9223372036854775808 ≤ min bud 32768 ∧ min bud 32768 ≤ 32768:=by
    have:=hb.1
    omega
  simp (disch:=first|omega|exact okFill_t rfl|exact okSize_t rfl|exact fun h=>h|(simp only[World.size_alloc,World.size_drew,World.size_setCell,size_fill,bytesW];omega)) only [go_sem,c9,c9S0,c9S1,c9S2,c9S3,c9S4,c9S5,c9S6,c9S8,q1]
  refine Ret.mono (explained_ok (ob:=ob) (kd:=kd) s3 hr3 hl hK hw hbm) ?_
  rintro _ w4 ⟨av,m,e,rfl,hask,s4⟩
  have hlow:=hask.low
  have hge:=hask.ge (B:=-9223372036854775808) (by decide) hbm.1
  simp only at hlow hge
  have q4:=s4.rules 0 rfl
  have q41:=s4.rules 2 rfl
  have q44:=s4.rules 1 rfl
  have lj:=(s4.blk 0 rfl).lt
  have l4:=(s4.blk 1 rfl).lt
  by_cases he:e = 0
  · subst he
    simp only [if_true] at s4 q4
    cases av with
    | true =>
      simp (disch:=first|omega|exact okFill_t rfl|exact okSize_t rfl|exact fun h=>h|(simp only[World.size_alloc,World.size_drew,World.size_setCell,size_fill,bytesW];omega)) only [go_sem,c9,c9S0,c9S1,c9S2,c9S3,c9S4,c9S5,c9S6,c9S7,c9S8,q4]
      refine bdW_built (cells:=#[.int .i64 0,.slice none 0 0,.int .i64 0]) (by kernel_rfl) ?_
      simp (disch:=first|omega|exact okFill_t rfl|exact okSize_t rfl|exact fun h=>h|(simp only[World.size_alloc,World.size_drew,World.size_setCell,size_fill,bytesW];omega)) only [go_sem,c9,c9S0,c9S1,c9S2,c9S3,c9S4,c9S5,c9S6,c9S7,c9S8,q44]
      have s5:=s4.fill 1 rfl (cs:=#[.int .i64 0,.slice none 0 0,.int .i64 0]) rfl
      exact ⟨⟨(none,0),.ok hask,rfl⟩,hbel s5⟩
    | false =>
      simp (disch:=first|omega|exact okFill_t rfl|exact okSize_t rfl|exact fun h=>h|(simp only[World.size_alloc,World.size_drew,World.size_setCell,size_fill,bytesW];omega)) only [go_sem,c9,c9S0,c9S1,c9S2,c9S3,c9S5,c9S6,c9S7,c9S8,q4,q41]
      refine Ret.mono (least_ok (ob:=ob) (kd:=kd) s4 List.mem_cons_self hl hn hK hw ⟨hge,by omega⟩) ?_
      rintro _ w5 ⟨m5,n5,e5,vv,more,rfl,s5,hcase⟩
      obtain ⟨va,vk,vc,hvv⟩:∃ va vk vc,vv = .slice va vk vc:=by
        rcases hcase with ⟨_,h,_⟩ | ⟨_,l',Lr,_,_,h,_⟩
        · exact h
        · obtain ⟨x,y,h,_⟩:=h.form
          exact ⟨_,_,_,h⟩
      subst hvv
      have s5':=s5.perm (L':=.blk pj #[.int .i64 m5,.int .i64 n5,.int .i64 e5] 59 :: .blk p4 #[.int .i64 0,.slice none 0 0,.int .i64 0] 28 :: .blk p1 #[.int .i64 ob,.int .i64 kd,.slice a l.length c] 24 :: more) (List.Perm.cons _ (List.perm_append_comm (l₁:=[_,_]) (l₂:=more)))
      simp (disch:=first|omega|exact okFill_t rfl|exact okSize_t rfl|exact fun h=>h|(simp only[World.size_alloc,World.size_drew,World.size_setCell,size_fill,bytesW];omega)) only [go_sem,c9,c9S0,c9S1,c9S2,c9S3,c9S5,c9S6,c9S7,c9S8]
      have s6:=s5'.box #[.int .i64 ob,.int .i64 kd,.slice va vk vc] 24
      have hb56:Below w5.heap.size w5 (w5.alloc (.cells #[.int .i64 ob,.int .i64 kd,.slice va vk vc] 24)):=(Below.refl _ _).alloc (Nat.le_refl _) _
      generalize w5.heap.size = p9 at s6 ⊢
      generalize w5.alloc (.cells #[.int .i64 ob,.int .i64 kd,.slice va vk vc] 24) = w6 at s6 hb56 ⊢
      have q69:=s6.rules 0 rfl
      have q6j:=s6.rules 1 rfl
      have l69:=(s6.blk 0 rfl).lt
      have l6j:=(s6.blk 1 rfl).lt
      have l64:=(s6.blk 2 rfl).lt
      have l61:=(s6.blk 3 rfl).lt
      have nj4:pj ≠ p4:=fun e => s6.ne 1 2 rfl rfl (by decide) (k:=p4) (by simp [Res.own,e]) rfl
      have n94:p9 ≠ p4:=fun e => s6.ne 0 2 rfl rfl (by decide) (k:=p4) (by simp [Res.own,e]) rfl
      have n14:p1 ≠ p4:=fun e => s6.ne 3 2 rfl rfl (by decide) (k:=p4) (by simp [Res.own,e]) rfl
      have qd:=s6.drew.rules 1 rfl
      have qd9:=s6.drew.rules 0 rfl
      have qd4:=s6.drew.rules 2 rfl
      have qd1:=s6.drew.rules 3 rfl
      rcases hcase with ⟨he,_,hcore⟩ | ⟨he,l',Lr,hsub,hri,hrd,hcore⟩
      · simp (disch:=first|omega|exact okFill_t rfl|exact okSize_t rfl|exact fun h=>h|(simp only[World.size_alloc,World.size_drew,World.size_setCell,size_fill,bytesW];omega)) only [go_sem,c9,c9S0,c9S1,c9S2,c9S3,c9S4,c9S5,c9S6,c9S7,c9S8,q6j,he]
        refine c9draw1 (Chg (fun i => i = p4) _) (Chg.refl _ _) ?_
        simp (disch:=first|omega|exact okFill_t rfl|exact okSize_t rfl|exact fun h=>h|(simp only[World.size_alloc,World.size_drew,World.size_setCell,size_fill,bytesW];omega)) only [go_sem,c9,c9S0,c9S1,c9S2,c9S3,c9S4,c9S5,c9S6,c9S7,c9S8,c9D1,qd,qd4]
        refine bdW_built (cells:=#[.int .i64 0,.slice none 0 0,.int .i64 0]) (by kernel_rfl) ?_
        simp (disch:=first|omega|exact okFill_t rfl|exact okSize_t rfl|exact fun h=>h|(simp only[World.size_alloc,World.size_drew,World.size_setCell,size_fill,bytesW];omega)) only [go_sem,c9,c9S0,c9S1,c9S2,c9S3,c9S4,c9S5,c9S6,c9S7,c9S8,c9D1,qd,qd4]
        have hcf:Chg (fun i => i = p4) w6.drew (w6.drew.fill p4 #[.int .i64 0,.slice none 0 0,.int .i64 0]):=(Chg.refl _ _).fill fun _ => rfl
        exact ⟨hcf,⟨(none,e5),.fail hask hcore he,rfl⟩,hbel (s6.drew.fill 2 rfl (cs:=#[.int .i64 0,.slice none 0 0,.int .i64 0]) rfl)⟩
      · subst he
        simp (disch:=first|omega|exact okFill_t rfl|exact okSize_t rfl|exact fun h=>h|(simp only[World.size_alloc,World.size_drew,World.size_setCell,size_fill,bytesW];omega)) only [go_sem,c9,c9S0,c9S1,c9S2,c9S3,c9S4,c9S5,c9S6,c9S7,c9S8,q6j]
        refine c9draw2 (Chg (fun i => i = p4) _) (Chg.refl _ _) ?_
        simp (disch:=first|omega|exact okFill_t rfl|exact okSize_t rfl|exact fun h=>h|(simp only[World.size_alloc,World.size_drew,World.size_setCell,size_fill,bytesW];omega)) only [go_sem,c9,c9S0,c9S1,c9S2,c9S3,c9S4,c9S5,c9S6,c9S7,c9S8,c9D2,qd,qd4,qd9,qd1]
        have hnl':(l'.map OpT.ID).Nodup:=hn.sublist (hsub.map _)
        have hll':=hsub.length_le
        have hrd6:=(hrd.below hb56 (by decide)).below ((Below.refl _ w6).drew) (by decide)
        refine Ret.mono (sorted_ok' hrd6 (by omega) hnl') ?_
        rintro v7 w7 ⟨⟨L7,hL7,own7⟩,b7⟩
        have hLr:=hri.one hL7
        subst hLr
        obtain ⟨xa,xc,rfl,_⟩:=own_slice own7
        have s7:=s6.drew.call b7
        have q74:=s7.rules 2 rfl
        have hc7:Chg (fun i => i = p4) w6.drew w7:=Chg.of_below b7
        simp (disch:=first|omega|exact okFill_t rfl|exact okSize_t rfl|exact fun h=>h|(simp only[World.size_alloc,World.size_drew,World.size_setCell,size_fill,bytesW];omega)) only [go_sem,c9,c9S0,c9S1,c9S2,c9S3,c9S4,c9S5,c9S6,c9S7,c9S8,c9D2]
        refine ⟨hc7,?_⟩
        refine bdW_built (cells:=#[.int .i64 ob,.slice xa Lr.length xc,.int .i64 n5]) (by kernel_rfl) ?_
        simp (disch:=first|omega|exact okFill_t rfl|exact okSize_t rfl|exact fun h=>h|(simp only[World.size_alloc,World.size_drew,World.size_setCell,size_fill,bytesW];omega)) only [go_sem,c9,c9S0,c9S1,c9S2,c9S3,c9S4,c9S5,c9S6,c9S7,c9S8,c9D2,q74]
        have s8:=(newRow s6.drew b7 own7).fill 3 rfl (cs:=#[.int .i64 ob,.slice xa Lr.length xc,.int .i64 n5]) rfl
        exact ⟨hc7,⟨(some (Lr,n5),0),.core hask hcore,_,rfl,by rw [hp1]; exact s8.row 0 rfl⟩,hbel s8⟩
  · rw [if_neg he] at s4 q4
    simp (disch:=first|omega|exact okFill_t rfl|exact okSize_t rfl|exact fun h=>h|(simp only[World.size_alloc,World.size_drew,World.size_setCell,size_fill,bytesW];omega)) only [go_sem,c9,c9S0,c9S1,c9S2,c9S3,c9S4,c9S5,c9S6,c9S7,c9S8,q4,he]
    refine c9draw0 (Chg (fun i => i = p4) _) (Chg.refl _ _) ?_
    have nj4:pj ≠ p4:=fun e => s4.ne 0 1 rfl rfl (by decide) (k:=p4) (by simp [Res.own,e]) rfl
    have sd:=s4.drew
    have qd:=sd.rules 0 rfl
    have qd4:=sd.rules 1 rfl
    simp (disch:=first|omega|exact okFill_t rfl|exact okSize_t rfl|exact fun h=>h|(simp only[World.size_alloc,World.size_drew,World.size_setCell,size_fill,bytesW];omega)) only [go_sem,c9,c9S0,c9S1,c9S2,c9S3,c9S4,c9S5,c9S6,c9S7,c9S8,c9D0,qd,qd4]
    refine bdW_built (cells:=#[.int .i64 0,.slice none 0 0,.int .i64 0]) (by kernel_rfl) ?_
    simp (disch:=first|omega|exact okFill_t rfl|exact okSize_t rfl|exact fun h=>h|(simp only[World.size_alloc,World.size_drew,World.size_setCell,size_fill,bytesW];omega)) only [go_sem,c9,c9S0,c9S1,c9S2,c9S3,c9S4,c9S5,c9S6,c9S7,c9S8,c9D0,qd,qd4]
    have hcf:Chg (fun i => i = p4) w4.drew (w4.drew.fill p4 #[.int .i64 0,.slice none 0 0,.int .i64 0]):=(Chg.refl _ _).fill fun _ => rfl
    exact ⟨hcf,⟨(none,e),.err hask he,rfl⟩,hbel (s4.drew.fill 1 rfl (cs:=#[.int .i64 0,.slice none 0 0,.int .i64 0]) rfl)⟩
end Go.Proofs.YteiciplnfjnfjaaGreat

namespace Go.Proofs.YteiciplnfjnfjaaGreat
set_option linter.unusedSimpArgs false
set_option linter.unusedVariables false
set_option maxRecDepth 100000
open Go Go.Ann Go.RowKit Go.Shelf
theorem own_cut1 {w:World} {B e n c m:Nat} {a:Option Addr} {xs:List Value} (h:w.ownsRow B e 1 (.slice a n c) n xs) (hm:m ≤ n) (ha:0 < n):w.ownsRow B e 1 (.slice a m c) m (xs.take m):=by
  obtain ⟨hl,⟨e0,h0⟩ | ⟨g,cap,cur,e0,hg,hB,hnc,hcm,hcs,htk⟩⟩:=h
  · omega
  · simp only [Value.slice.injEq,true_and] at e0
    obtain ⟨rfl,rfl⟩:=e0
    refine ⟨by rw [List.length_take,hl]; omega,.inr ⟨g,c,cur,rfl,hg,hB,by omega,hcm,hcs,?_⟩⟩
    rw [← htk,List.take_take]
    congr 1
    omega
theorem compact_rise {zs:List Int} (h:zs.Pairwise (· ≤ ·)):(Lib.compact zs).Pairwise (· < ·) ∧ ∀ x,x ∈ Lib.compact zs ↔ x ∈ zs:=by
  have hg:∀ i,i < zs.length → zs.toArray[i]! = zs.getD i 0:=fun i hi => by simp [hi]
  have hle:∀ i j,i ≤ j → j < zs.length → zs.getD i 0 ≤ zs.getD j 0:=fun i j hij hj => by
    rcases Nat.lt_or_eq_of_le hij with h1 | rfl
    · have:=List.pairwise_iff_getElem.1 h i j (by omega) hj h1
      simp only [List.getD_eq_getElem?_getD,List.getElem?_eq_getElem hj,List.getElem?_eq_getElem (show i < zs.length by omega),Option.getD_some]
      exact this
    · exact Int.le_refl _
  unfold Lib.compact Lib.compactUpTo
  have hk:∀ j,j < zs.length → (Lib.keeps zs.toArray j = true ↔ (j = 0 ∨ zs.getD j 0 ≠ zs.getD (j - 1) 0)):=fun j hj => by
    unfold Lib.keeps
    rw [decide_eq_true_eq,hg j hj,hg (j - 1) (by omega)]
  constructor
  · rw [List.pairwise_map]
    have h1:((List.range zs.length).filter (Lib.keeps zs.toArray)).Pairwise (· < ·):=List.pairwise_lt_range.filter _
    refine h1.imp_of_mem fun {i j} hi hj hij => ?_
    obtain ⟨hi1,_⟩:=List.mem_filter.1 hi
    obtain ⟨hj1,hj2⟩:=List.mem_filter.1 hj
    rw [List.mem_range] at hi1 hj1
    rw [hg i hi1,hg j hj1]
    have h2:=((hk j hj1).1 hj2).resolve_left (by omega)
    have h3:=hle i (j - 1) (by omega) (by omega)
    have h4:=hle (j - 1) j (by omega) hj1
    omega
  · intro x
    rw [List.mem_map]
    constructor
    · rintro ⟨j,hj,rfl⟩
      have hj1:=List.mem_range.1 (List.mem_filter.1 hj).1
      rw [hg j hj1,List.getD_eq_getElem?_getD,List.getElem?_eq_getElem hj1]
      exact List.getElem_mem hj1
    · intro hx
      obtain ⟨j,hj,rfl⟩:=List.mem_iff_getElem.1 hx
      have key:∀ j,(hj:j < zs.length) → ∃ i,i ∈ (List.range zs.length).filter (Lib.keeps zs.toArray) ∧ zs.getD i 0 = zs.getD j 0:=by
        intro j
        induction j with
        | zero => exact fun hj => ⟨0,List.mem_filter.2 ⟨List.mem_range.2 hj,(hk 0 hj).2 (.inl rfl)⟩,rfl⟩
        | succ j ih =>
          intro hj
          by_cases he:zs.getD (j + 1) 0 = zs.getD j 0
          · obtain ⟨i,h1,h2⟩:=ih (by omega)
            exact ⟨i,h1,h2.trans he.symm⟩
          · exact ⟨j + 1,List.mem_filter.2 ⟨List.mem_range.2 hj,(hk _ hj).2 (.inr (by simpa using he))⟩,rfl⟩
      obtain ⟨i,h1,h2⟩:=key j hj
      refine ⟨i,h1,?_⟩
      rw [hg i (List.mem_range.1 (List.mem_filter.1 h1).1),h2,List.getD_eq_getElem?_getD,List.getElem?_eq_getElem hj]
      rfl
section
variable {W0 w:World} {F:Nat → Prop} {L:List Res} {I:List Inv}
theorem compI_ok {v:Value} {ks:List Int} (h:St W0 w F (.row v 3 1 ks.length (ks.flatMap intE) :: L) I) (hl:ks.length ≤ 100000) :
    Ret Tryz.prog 49 [v] w fun u w' => St W0 w' F (.row u 3 1 (Lib.compact ks).length ((Lib.compact ks).flatMap intE) :: L) I:=by
  have hr:=h.row 0 rfl
  obtain ⟨hlen,⟨rfl,h0⟩ | ⟨g',cap,cur,rfl,hB,hb,hc,hm,hs,hx⟩⟩:=id hr
  · have hn:ks = []:=List.eq_nil_of_length_eq_zero h0
    subst hn
    refine (Any.slices_Compact_int_empty layCmpI none 0 w).mono ?_
    rintro e w' ⟨rfl,rfl⟩
    exact ⟨_,rfl,h⟩
  · have hx':cur.toList.take ks.length = ks.map encZ:=by rw [← intE_map,← hx,Nat.mul_one]
    have hb':w.heap[g']? = some (.cells cur 3 (0,0)):=hb
    refine (Any.slices_Compact_int layCmpI g' 0 cap ks w (holds_of_block_i hb' hx') (by omega) hc).mono ?_
    rintro e w' ⟨rfl,q,rfl⟩
    refine ⟨_,rfl,?_⟩
    have hcl:(Lib.compact ks).length ≤ ks.length:=by
      unfold Lib.compact Lib.compactUpTo
      rw [List.length_map]
      exact Nat.le_trans (List.length_filter_le _ _) (by simp)
    have ho:=ownsRow_sorted_i (n:=q) (os:=#[]) (ss:=ks) (ts:=Lib.compact ks ++ List.replicate (ks.length - (Lib.compact ks).length) 0) (by rw [List.length_append,List.length_replicate]; omega) hB hb' hc hm hs
    have hgb:=grownBy_sorted_i (w:=w) (g:=g') (n:=q) (os:=#[]) (Lib.compact ks ++ List.replicate (ks.length - (Lib.compact ks).length) 0).toArray
    rw [Sort.grow_empty] at ho hgb
    by_cases h0:ks.length = 0
    · have hn:ks = []:=List.eq_nil_of_length_eq_zero h0
      subst hn
      exact h.grow 0 rfl hgb ho fun k hk => .inl hk
    · have h2:=own_cut1 ho hcl (by omega)
      rw [← intE_map,List.flatMap_append,List.take_left' (by rw [intE_map,List.length_map])] at h2
      exact h.grow 0 rfl hgb h2 fun k hk => .inl hk
end
theorem push2 {W0 w:World} {F:Nat → Prop} {L:List Res} {I:List Inv} {v:Value} {acc:List Int} {a b:Int} {K:Value → World → Prop} {cs:Array Bool} {ty:Nat} (s:St W0 w F (.row v 3 1 acc.length (acc.flatMap intE) :: L) I) (hl:acc.length ≤ 100000)
    (hK:∀ v' w',St W0 w' F (.row v' 3 1 (acc ++ [a,b]).length ((acc ++ [a,b]).flatMap intE) :: L) I → K v' w'):rawB Tryz.prog .append #[66,66] ty cs [v,.slice (some ⟨w.heap.size,0,none⟩) 2 2] (w.alloc (.cells #[.int .i64 a,.int .i64 b] 3)) K:=by
  have hrd:Rd (w.alloc (.cells #[.int .i64 a,.int .i64 b] 3)) 1 (.slice (some ⟨w.heap.size,0,none⟩) 2 2) 2 [.int .i64 a,.int .i64 b]:=rd_new (sz:=1) (n:=2) rfl
  refine (s.alloc' (.cells #[.int .i64 a,.int .i64 b] 3)).append 0 rfl ty66mkI rfl (by decide) hrd (fun u hu => by simp only [List.mem_cons,List.not_mem_nil,or_false] at hu; rcases hu with rfl | rfl <;> rfl) (by omega) (by omega) ?_
  intro v' w' s' _
  refine hK v' w' ?_
  have e1:(acc ++ [a,b]).length = acc.length + 2:=by simp
  have e2:(acc ++ [a,b]).flatMap intE = acc.flatMap intE ++ [.int .i64 a,.int .i64 b]:=by rw [List.flatMap_append]; rfl
  rw [e1,e2]
  exact s'
structure Vals (l:List OpT) (vs:List Int):Prop where
  up:vs.Pairwise (· < ·)
  mem:∀ x,x ∈ vs ↔ x ∈ 0 :: rawV l 0
theorem Vals.one {l:List OpT} {a b:List Int} (h:Vals l a) (k:Vals l b):a = b:=by
  refine List.Perm.eq_of_pairwise (le:=(· < ·)) (fun x y _ _ h1 h2 => absurd h1 (by omega)) h.up k.up ?_
  have nd:∀ {l:List Int},l.Pairwise (· < ·) → l.Nodup:=fun h => h.imp fun h => Int.ne_of_lt h
  exact (List.perm_ext_iff_of_nodup (nd h.up) (nd k.up)).2 fun x => (h.mem x).trans (k.mem x).symm
theorem values_ok {w:World} {v:Value} {l:List OpT} (h:RdS w 11 OpT.enc v l) (hl:l.length ≤ 100) :
    Ret Tryz.prog 27 [v] w fun u w' => (∃ vs,Vals l vs ∧ vs.length ≤ 401 ∧ w'.ownsRow w.heap.size 3 1 u vs.length (vs.flatMap intE)) ∧ Below w.heap.size w w':=by
  obtain ⟨a,c,rfl,_⟩:=h.form
  refine ent27 _ _ _ ?_
  simp (disch:=first|omega|exact okFill_t rfl|exact okSize_t rfl|exact fun h=>h|(simp only[World.size_alloc,World.size_drew,World.size_setCell,size_fill,bytesW];omega)) only [go_sem,c27,c27S0,c27S1,c27S2,c27L0,c27S3,c27S4]
  refine bsW_ones ty66mkI rfl rfl (by decide) (by decide) (fun u hu => by rw [List.mem_singleton] at hu; subst hu; rfl) ?_
  have s0:St w (w.alloc (.cells #[.int .i64 0] 3)) (fun _ => False) [.row (.slice (some ⟨w.heap.size,0,none⟩) 1 1) 3 1 1 [.int .i64 0]] []:=by
    have s:=(St.start (W0:=w)).box #[.int .i64 0] 3
    have ho:=(s.blk 0 rfl).own (s.low 0 rfl).1 (n:=1) (cap:=1) (size:=1) (xs:=[.int .i64 0]) (Nat.le_refl _) (by decide) rfl rfl
    exact s.upd 0 rfl (Chg.refl _ _) (.row (.slice (some ⟨w.heap.size,0,none⟩) 1 1) 3 1 1 [.int .i64 0]) ho fun k hk => .inl hk
  simp (disch:=first|omega|exact okFill_t rfl|exact okSize_t rfl|exact fun h=>h|(simp only[World.size_alloc,World.size_drew,World.size_setCell,size_fill,bytesW];omega)) only [go_sem,c27,c27S0,c27S1,c27S2,c27L0,c27S3,c27S4]
  have hbel:∀ {w':World} {L:List Res},St w w' (fun _ => False) L [] → Below w.heap.size w w':=fun h => h.bel
  generalize w.alloc (.cells #[.int .i64 0] 3) = w1 at s0 ⊢
  refine W_loopU (fun x:Value × Nat × Int × List Int => [(3,x.1),(4,.int .i64 x.2.2.1),(10,.int .i64 x.2.1)]) (fun x w' => St w w' (fun _ => False) [.row x.1 3 1 x.2.2.2.length (x.2.2.2.flatMap intE)] [] ∧ x.2.1 ≤ l.length ∧ (0 ≤ x.2.2.1 ∧ x.2.2.1 ≤ x.2.1) ∧ x.2.2.2.length ≤ 1 + 4 * x.2.1 ∧ x.2.2.2 ++ rawV (l.drop x.2.1) x.2.2.1 = 0 :: rawV l 0) (fun x => l.length - x.2.1) (.slice (some ⟨w.heap.size,0,none⟩) 1 1,0,0,[0]) rfl ⟨s0,Nat.zero_le _,by simp,by simp,rfl⟩ ?_
  rintro ⟨x,k,n,acc⟩ w2 ⟨s1,hk,hn,hal,hacc⟩
  simp only at s1 hk hn hal hacc
  by_cases hlt:k < l.length
  · obtain ⟨q,rfl⟩:=h.ptr (by omega)
    have ek:=h.eltB s1.bel OpT.len (by decide) hlt
    have ck:=cellsO_below s1.bel (h.at OpT.len hlt)
    have hlt':(k:Int) < l.length:=by omega
    have ak:=l[k].at
    rw [List.drop_eq_getElem_cons hlt,rawV] at hacc
    simp (disch:=first|omega|exact okFill_t rfl|exact okSize_t rfl|exact fun h=>h|(simp only[World.size_alloc,World.size_drew,World.size_setCell,size_fill,bytesW];omega)) only [go_sem,c27,c27S1,c27S2,c27L0,c27S3,c27S4,c27S5,c27L0,hlt',ck,ek,ak]
    refine ⟨by omega,(OpT.len _).symm,?_⟩
    have two:∀ {a b:Int},∀ u ∈ [Value.int .i64 a,.int .i64 b],u.oneCell' = true:=fun u hu => by simp only [List.mem_cons,List.not_mem_nil,or_false] at hu; rcases hu with rfl | rfl <;> rfl
    refine bsW_ones ty66mkI rfl rfl (by decide) (by decide) two ?_
    have s2:=s1.box l[k].enc.toArray 38
    have s3:=s2.perm (L':=[.row x 3 1 acc.length (acc.flatMap intE),.blk w2.heap.size l[k].enc.toArray 38]) (List.Perm.swap _ _ _)
    generalize w2.heap.size = g6 at s3 ⊢
    generalize w2.alloc (.cells l[k].enc.toArray 38) = w3 at s3 ⊢
    simp (disch:=first|omega|exact okFill_t rfl|exact okSize_t rfl|exact fun h=>h|(simp only[World.size_alloc,World.size_drew,World.size_setCell,size_fill,bytesW];omega)) only [go_sem,c27,c27S1,c27S2,c27L0,c27S3,c27S4,c27S5]
    refine push2 s3 (by omega) fun v4 w4 s4 => ?_
    have r4:=s4.rules 1 rfl
    by_cases h2:l[k].Kind = 2
    · rw [if_pos h2] at hacc
      simp (disch:=first|omega|exact okFill_t rfl|exact okSize_t rfl|exact fun h=>h|(simp only[World.size_alloc,World.size_drew,World.size_setCell,size_fill,bytesW];omega)) only [go_sem,c27,c27S0,c27S1,c27S2,c27L0,c27S3,c27S4,c27S5,r4,ak,h2]
      refine ⟨⟨by omega,by omega⟩,?_⟩
      have ew:IntKind.i64.wrap (0 - (n + 1)) = 0 - (n + 1):=by
        simp [IntKind.wrap,IntKind.bits,IntKind.signed]
        omega
      rw [ew]
      refine bsW_ones ty66mkI rfl rfl (by simp) (by simp) (@two (n + 1) (0 - (n + 1))) ?_
      simp (disch:=first|omega|exact okFill_t rfl|exact okSize_t rfl|exact fun h=>h|(simp only[World.size_alloc,World.size_drew,World.size_setCell,size_fill,bytesW];omega)) only [go_sem,c27,c27S0,c27S1,c27S2,c27L0,c27S3,c27S4,c27S5]
      refine push2 s4 (by rw [List.length_append,List.length_cons,List.length_singleton]; omega) fun v5 w5 s5 => ?_
      simp (disch:=first|omega|exact okFill_t rfl|exact okSize_t rfl|exact fun h=>h|(simp only[World.size_alloc,World.size_drew,World.size_setCell,size_fill,bytesW];omega)) only [go_sem,c27,c27S0,c27S1,c27S2,c27L0,c27S3,c27S4,c27S5]
      refine ⟨⟨by omega,by omega⟩,(v5,k + 1,n + 1,acc ++ [l[k].Arg,l[k].Second] ++ [n + 1,0 - (n + 1)]),rfl,⟨s5.sub (.cons_cons _ (List.nil_sublist _)),hlt,⟨by simp only; omega,by simp only; omega⟩,?_,?_⟩,by simp only; omega⟩
      · simp only [List.length_append,List.length_cons,List.length_nil]; omega
      · simp only [List.append_assoc,List.cons_append,List.nil_append]; exact hacc
    · rw [if_neg h2] at hacc
      simp (disch:=first|omega|exact okFill_t rfl|exact okSize_t rfl|exact fun h=>h|(simp only[World.size_alloc,World.size_drew,World.size_setCell,size_fill,bytesW];omega)) only [go_sem,c27,c27S0,c27S1,c27S2,c27L0,c27S3,c27S4,c27S5,r4,ak,h2]
      refine ⟨⟨by omega,by omega⟩,(v4,k + 1,n,acc ++ [l[k].Arg,l[k].Second]),rfl,⟨s4.sub (.cons_cons _ (List.nil_sublist _)),hlt,⟨hn.1,by simp only; omega⟩,?_,?_⟩,by simp only; omega⟩
      · simp only [List.length_append,List.length_cons,List.length_nil]; omega
      · simp only [List.append_assoc,List.cons_append,List.nil_append]; exact hacc
  · have hlt':¬ (k:Int) < l.length:=by omega
    obtain rfl:k = l.length:=by omega
    rw [List.drop_length,rawV,List.append_nil] at hacc
    simp (disch:=first|omega|exact okFill_t rfl|exact okSize_t rfl|exact fun h=>h|(simp only[World.size_alloc,World.size_drew,World.size_setCell,size_fill,bytesW];omega)) only [go_sem,c27,c27S0,c27S1,c27S2,c27L0,c27S3,c27S5,c27L0,hlt']
    refine .inl ⟨by kernel_rfl,Ret.mono (sortI_ok s1 (by omega)) ?_⟩
    rintro _ w3 ⟨rfl,ts,⟨hp,hs⟩,s3⟩
    rw [← hp.length_eq] at s3
    simp (disch:=first|omega|exact okFill_t rfl|exact okSize_t rfl|exact fun h=>h|(simp only[World.size_alloc,World.size_drew,World.size_setCell,size_fill,bytesW];omega)) only [go_sem,c27,c27S0,c27S1,c27S2,c27L0,c27S3,c27S4,c27S5]
    refine Ret.mono (compI_ok s3 (by rw [hp.length_eq]; omega)) ?_
    rintro u w4 s4
    simp (disch:=first|omega|exact okFill_t rfl|exact okSize_t rfl|exact fun h=>h|(simp only[World.size_alloc,World.size_drew,World.size_setCell,size_fill,bytesW];omega)) only [go_sem,c27,c27S0,c27S1,c27S2,c27L0,c27S3,c27S4,c27S5]
    have hcl:(Lib.compact ts).length ≤ ts.length:=by
      unfold Lib.compact Lib.compactUpTo
      rw [List.length_map]
      exact Nat.le_trans (List.length_filter_le _ _) (by simp)
    obtain ⟨c1,c2⟩:=compact_rise hs
    refine ⟨⟨Lib.compact ts,⟨c1,fun x => ?_⟩,by rw [hp.length_eq] at hcl; omega,s4.row 0 rfl⟩,s4.bel⟩
    rw [c2,hp.mem_iff,hacc]
def ansP (o:OpT) (all:List Int):List Int :=
  if o.Method = 1 then all else if o.Method = 7 ∨ o.Method = 9 then -1 :: all else if o.Method = 3 ∨ o.Method = 10 ∨ o.Method = 11 ∨ o.Method = 12 then [0,1] else [0]
def HasN (W0:World) (I:List Inv) (more:List Res) (v:Value) (l:List Int):Prop:=∀ (w':World) (F:Nat → Prop) (L':List Res),(∀ r ∈ more,r ∈ L') → St W0 w' F L' I → RdS w' 1 intE v l
theorem HasN.row {W0:World} {I:List Inv} {v:Value} {l:List Int}:HasN W0 I [.row v 3 1 l.length (l.flatMap intE)] v l:=fun w' F L' hr s => RdS.of_own (s.res _ (hr _ List.mem_cons_self)).1
theorem HasN.blk {W0:World} {I:List Inv} {g:Nat} {l:List Int}:HasN W0 I [.blk g (l.map (Value.int .i64)).toArray 3] (.slice (some ⟨g,0,none⟩) l.length l.length) l:=fun w' F L' hr s => by
  have hB:Blk w' g (l.map (Value.int .i64) ++ []).toArray 3:=by
    rw [List.append_nil]; exact (s.res _ (hr _ List.mem_cons_self)).1.1
  exact rd_of_blk hB (Nat.le_refl _) rfl
theorem HasN.mono {W0:World} {I:List Inv} {more more':List Res} {v:Value} {l:List Int} (h:HasN W0 I more v l) (hm:∀ r ∈ more,r ∈ more'):HasN W0 I more' v l:=fun w' F L' hr s => h w' F L' (fun r h => hr r (hm r h)) s
theorem answers_ok {W0 w:World} {F:Nat → Prop} {L:List Res} {I:List Inv} {v:Value} {all:List Int} (o:OpT) (s:St W0 w F (.row v 3 1 all.length (all.flatMap intE) :: L) I) (hl:all.length ≤ 1000) :
    Ret Tryz.prog 28 [.agg o.enc.toArray,v] w fun u w' => ∃ R,St W0 w' F (.row v 3 1 all.length (all.flatMap intE) :: (R ++ L)) I ∧ (HasN W0 I (.row v 3 1 all.length (all.flatMap intE) :: R) u (ansP o all)):=by
  obtain ⟨a,c,rfl,_⟩:=own_slice (s.row 0 rfl)
  refine ent28 _ _ _ _ ?_
  have ao:=o.at
  have s1:=s.box o.enc.toArray 38
  have r1:=s1.rules 0 rfl
  have hr0:HasN W0 I [.row (.slice a all.length c) 3 1 all.length (all.flatMap intE)] (.slice a all.length c) all:=HasN.row
  unfold ansP
  by_cases m1:o.Method = 1
  · rw [if_pos m1]
    simp (disch:=first|omega|exact okFill_t rfl|exact okSize_t rfl|exact fun h=>h|(simp only[World.size_alloc,World.size_drew,World.size_setCell,size_fill,bytesW];omega)) only [go_sem,c28,c28S0,c28S1,c28S2,c28S3,ao,m1]
    exact ⟨[],s.alloc' _,hr0⟩
  rw [if_neg m1]
  by_cases m7:o.Method = 7 ∨ o.Method = 9
  · rw [if_pos m7]
    rcases m7 with m7 | m7
    · simp (disch:=first|omega|exact okFill_t rfl|exact okSize_t rfl|exact fun h=>h|(simp only[World.size_alloc,World.size_drew,World.size_setCell,size_fill,bytesW];omega)) only [go_sem,c28,c28S0,c28S1,c28S2,c28S3,ao,m7]
      refine bsW_ones ty66mkI rfl rfl (by decide) (by decide) (fun u hu => by rw [List.mem_singleton] at hu; subst hu; rfl) ?_
      have s2:=(s.alloc' (.cells o.enc.toArray 38)).box #[.int .i64 (-1)] 3
      generalize (w.alloc (.cells o.enc.toArray 38)).heap.size = g2 at s2 ⊢
      generalize (w.alloc (.cells o.enc.toArray 38)).alloc (.cells #[.int .i64 (-1)] 3) = w2 at s2 ⊢
      have ho:=(s2.blk 0 rfl).own (s2.low 0 rfl).1 (n:=1) (cap:=1) (size:=1) (xs:=[.int .i64 (-1)]) (Nat.le_refl _) (by decide) rfl rfl
      have s3:=s2.upd 0 rfl (Chg.refl _ _) (.row (.slice (some ⟨g2,0,none⟩) 1 1) 3 1 1 [.int .i64 (-1)]) ho fun k hk => .inl hk
      have hrd:Rd w2 1 (.slice a all.length c) all.length (all.flatMap intE):=Rd.of_own (s3.row 1 rfl)
      simp (disch:=first|omega|exact okFill_t rfl|exact okSize_t rfl|exact fun h=>h|(simp only[World.size_alloc,World.size_drew,World.size_setCell,size_fill,bytesW];omega)) only [go_sem,c28,c28S0,c28S1,c28S2,c28S3]
      refine s3.append 0 rfl ty66mkI rfl (by decide) hrd (fun u hu => by rw [intE_map,List.mem_map] at hu; obtain ⟨x,_,rfl⟩:=hu; rfl) (by omega) (by omega) ?_
      intro v4 w4 s4 _
      simp (disch:=first|omega|exact okFill_t rfl|exact okSize_t rfl|exact fun h=>h|(simp only[World.size_alloc,World.size_drew,World.size_setCell,size_fill,bytesW];omega)) only [go_sem,c28,c28S0,c28S1,c28S2,c28S3]
      have e1:1 + all.length = ((-1:Int) :: all).length:=by rw [List.length_cons,Nat.add_comm]
      have e2:[Value.int .i64 (-1)] ++ all.flatMap intE = ((-1:Int) :: all).flatMap intE:=rfl
      simp only [List.set_cons_zero] at s4
      rw [e1,e2] at s4
      exact ⟨[.row v4 3 1 ((-1:Int) :: all).length (((-1:Int) :: all).flatMap intE)],s4.perm (List.Perm.swap _ _ _),HasN.row.mono fun r hr => List.mem_cons_of_mem _ hr⟩
    · simp (disch:=first|omega|exact okFill_t rfl|exact okSize_t rfl|exact fun h=>h|(simp only[World.size_alloc,World.size_drew,World.size_setCell,size_fill,bytesW];omega)) only [go_sem,c28,c28S0,c28S1,c28S2,c28S3,ao,m7]
      refine bsW_ones ty66mkI rfl rfl (by decide) (by decide) (fun u hu => by rw [List.mem_singleton] at hu; subst hu; rfl) ?_
      have s2:=(s.alloc' (.cells o.enc.toArray 38)).box #[.int .i64 (-1)] 3
      generalize (w.alloc (.cells o.enc.toArray 38)).heap.size = g2 at s2 ⊢
      generalize (w.alloc (.cells o.enc.toArray 38)).alloc (.cells #[.int .i64 (-1)] 3) = w2 at s2 ⊢
      have ho:=(s2.blk 0 rfl).own (s2.low 0 rfl).1 (n:=1) (cap:=1) (size:=1) (xs:=[.int .i64 (-1)]) (Nat.le_refl _) (by decide) rfl rfl
      have s3:=s2.upd 0 rfl (Chg.refl _ _) (.row (.slice (some ⟨g2,0,none⟩) 1 1) 3 1 1 [.int .i64 (-1)]) ho fun k hk => .inl hk
      have hrd:Rd w2 1 (.slice a all.length c) all.length (all.flatMap intE):=Rd.of_own (s3.row 1 rfl)
      simp (disch:=first|omega|exact okFill_t rfl|exact okSize_t rfl|exact fun h=>h|(simp only[World.size_alloc,World.size_drew,World.size_setCell,size_fill,bytesW];omega)) only [go_sem,c28,c28S0,c28S1,c28S2,c28S3]
      refine s3.append 0 rfl ty66mkI rfl (by decide) hrd (fun u hu => by rw [intE_map,List.mem_map] at hu; obtain ⟨x,_,rfl⟩:=hu; rfl) (by omega) (by omega) ?_
      intro v4 w4 s4 _
      simp (disch:=first|omega|exact okFill_t rfl|exact okSize_t rfl|exact fun h=>h|(simp only[World.size_alloc,World.size_drew,World.size_setCell,size_fill,bytesW];omega)) only [go_sem,c28,c28S0,c28S1,c28S2,c28S3]
      have e1:1 + all.length = ((-1:Int) :: all).length:=by rw [List.length_cons,Nat.add_comm]
      have e2:[Value.int .i64 (-1)] ++ all.flatMap intE = ((-1:Int) :: all).flatMap intE:=rfl
      simp only [List.set_cons_zero] at s4
      rw [e1,e2] at s4
      exact ⟨[.row v4 3 1 ((-1:Int) :: all).length (((-1:Int) :: all).flatMap intE)],s4.perm (List.Perm.swap _ _ _),HasN.row.mono fun r hr => List.mem_cons_of_mem _ hr⟩
  rw [if_neg m7]
  have m7a:¬ o.Method = 7:=fun e => m7 (.inl e)
  have m7b:¬ o.Method = 9:=fun e => m7 (.inr e)
  by_cases m3:o.Method = 3 ∨ o.Method = 10 ∨ o.Method = 11 ∨ o.Method = 12
  · rw [if_pos m3]
    rcases m3 with m3 | m3 | m3 | m3
    · simp (disch:=first|omega|exact okFill_t rfl|exact okSize_t rfl|exact fun h=>h|(simp only[World.size_alloc,World.size_drew,World.size_setCell,size_fill,bytesW];omega)) only [go_sem,c28,c28S0,c28S1,c28S2,c28S3,ao,m3]
      refine bsW_ones ty66mkI rfl rfl (by decide) (by decide) (fun u hu => by simp only [List.mem_cons,List.not_mem_nil,or_false] at hu; rcases hu with rfl | rfl <;> rfl) ?_
      have s2:=(s.alloc' (.cells o.enc.toArray 38)).box #[.int .i64 0,.int .i64 1] 3
      rw [World.size_alloc] at s2
      simp (disch:=first|omega|exact okFill_t rfl|exact okSize_t rfl|exact fun h=>h|(simp only[World.size_alloc,World.size_drew,World.size_setCell,size_fill,bytesW];omega)) only [go_sem,c28,c28S0,c28S1,c28S2,c28S3]
      exact ⟨[.blk (w.heap.size + 1) #[.int .i64 0,.int .i64 1] 3],s2.perm (List.Perm.swap _ _ _),(HasN.blk (l:=[0,1])).mono fun r hr => List.mem_cons_of_mem _ hr⟩
    · simp (disch:=first|omega|exact okFill_t rfl|exact okSize_t rfl|exact fun h=>h|(simp only[World.size_alloc,World.size_drew,World.size_setCell,size_fill,bytesW];omega)) only [go_sem,c28,c28S0,c28S1,c28S2,c28S3,ao,m3]
      refine bsW_ones ty66mkI rfl rfl (by decide) (by decide) (fun u hu => by simp only [List.mem_cons,List.not_mem_nil,or_false] at hu; rcases hu with rfl | rfl <;> rfl) ?_
      have s2:=(s.alloc' (.cells o.enc.toArray 38)).box #[.int .i64 0,.int .i64 1] 3
      rw [World.size_alloc] at s2
      simp (disch:=first|omega|exact okFill_t rfl|exact okSize_t rfl|exact fun h=>h|(simp only[World.size_alloc,World.size_drew,World.size_setCell,size_fill,bytesW];omega)) only [go_sem,c28,c28S0,c28S1,c28S2,c28S3]
      exact ⟨[.blk (w.heap.size + 1) #[.int .i64 0,.int .i64 1] 3],s2.perm (List.Perm.swap _ _ _),(HasN.blk (l:=[0,1])).mono fun r hr => List.mem_cons_of_mem _ hr⟩
    · simp (disch:=first|omega|exact okFill_t rfl|exact okSize_t rfl|exact fun h=>h|(simp only[World.size_alloc,World.size_drew,World.size_setCell,size_fill,bytesW];omega)) only [go_sem,c28,c28S0,c28S1,c28S2,c28S3,ao,m3]
      refine bsW_ones ty66mkI rfl rfl (by decide) (by decide) (fun u hu => by simp only [List.mem_cons,List.not_mem_nil,or_false] at hu; rcases hu with rfl | rfl <;> rfl) ?_
      have s2:=(s.alloc' (.cells o.enc.toArray 38)).box #[.int .i64 0,.int .i64 1] 3
      rw [World.size_alloc] at s2
      simp (disch:=first|omega|exact okFill_t rfl|exact okSize_t rfl|exact fun h=>h|(simp only[World.size_alloc,World.size_drew,World.size_setCell,size_fill,bytesW];omega)) only [go_sem,c28,c28S0,c28S1,c28S2,c28S3]
      exact ⟨[.blk (w.heap.size + 1) #[.int .i64 0,.int .i64 1] 3],s2.perm (List.Perm.swap _ _ _),(HasN.blk (l:=[0,1])).mono fun r hr => List.mem_cons_of_mem _ hr⟩
    · simp (disch:=first|omega|exact okFill_t rfl|exact okSize_t rfl|exact fun h=>h|(simp only[World.size_alloc,World.size_drew,World.size_setCell,size_fill,bytesW];omega)) only [go_sem,c28,c28S0,c28S1,c28S2,c28S3,ao,m3]
      refine bsW_ones ty66mkI rfl rfl (by decide) (by decide) (fun u hu => by simp only [List.mem_cons,List.not_mem_nil,or_false] at hu; rcases hu with rfl | rfl <;> rfl) ?_
      have s2:=(s.alloc' (.cells o.enc.toArray 38)).box #[.int .i64 0,.int .i64 1] 3
      rw [World.size_alloc] at s2
      simp (disch:=first|omega|exact okFill_t rfl|exact okSize_t rfl|exact fun h=>h|(simp only[World.size_alloc,World.size_drew,World.size_setCell,size_fill,bytesW];omega)) only [go_sem,c28,c28S0,c28S1,c28S2,c28S3]
      exact ⟨[.blk (w.heap.size + 1) #[.int .i64 0,.int .i64 1] 3],s2.perm (List.Perm.swap _ _ _),(HasN.blk (l:=[0,1])).mono fun r hr => List.mem_cons_of_mem _ hr⟩
  · rw [if_neg m3]
    have m3a:¬ o.Method = 3:=fun e => m3 (.inl e)
    have m3b:¬ o.Method = 10:=fun e => m3 (.inr (.inl e))
    have m3c:¬ o.Method = 11:=fun e => m3 (.inr (.inr (.inl e)))
    have m3d:¬ o.Method = 12:=fun e => m3 (.inr (.inr (.inr e)))
    simp (disch:=first|omega|exact okFill_t rfl|exact okSize_t rfl|exact fun h=>h|(simp only[World.size_alloc,World.size_drew,World.size_setCell,size_fill,bytesW];omega)) only [go_sem,c28,c28S0,c28S1,c28S2,c28S3,ao,m1,m7a,m7b,m3a,m3b,m3c,m3d]
    refine bsW_ones ty66mkI rfl rfl (by decide) (by decide) (fun u hu => by rw [List.mem_singleton] at hu; subst hu; rfl) ?_
    have s2:=(s.alloc' (.cells o.enc.toArray 38)).box #[.int .i64 0] 3
    rw [World.size_alloc] at s2
    simp (disch:=first|omega|exact okFill_t rfl|exact okSize_t rfl|exact fun h=>h|(simp only[World.size_alloc,World.size_drew,World.size_setCell,size_fill,bytesW];omega)) only [go_sem,c28,c28S0,c28S1,c28S2,c28S3]
    exact ⟨[.blk (w.heap.size + 1) #[.int .i64 0] 3],s2.perm (List.Perm.swap _ _ _),(HasN.blk (l:=[0])).mono fun r hr => List.mem_cons_of_mem _ hr⟩
end Go.Proofs.YteiciplnfjnfjaaGreat

namespace Go.Proofs.YteiciplnfjnfjaaGreat
set_option linter.unusedSimpArgs false
set_option linter.unusedVariables false
set_option maxRecDepth 100000
open Go Go.Ann Go.RowKit
def pairs (L:List OpT) (vs:List Int):List (OpT × Int):=(L.filter fun o => o.Done).flatMap fun o => (ansP o vs).map fun n => (o,n)
theorem pairs_cons (o:OpT) (L:List OpT) (vs:List Int):pairs (o :: L) vs = (if o.Done then (ansP o vs).map fun n => (o,n) else []) ++ pairs L vs:=by
  unfold pairs
  rw [List.filter_cons]
  cases o.Done <;> simp
inductive MendO (ob kd:Int) (l:List OpT) (bud:Int):List (Int × Int) × Int → Prop
  | err {a:Bool} {m e:Int} (h:Ask ob kd l (min bud 32768) (a,m,e)) (he:e ≠ 0):MendO ob kd l bud ([],e)
  | ok {m:Int} (h:Ask ob kd l (min bud 32768) (true,m,0)):MendO ob kd l bud ([],0)
  | mend {m:Int} {L:List OpT} {vs:List Int} {x:List (Int × Int) × Int} (h:Ask ob kd l (min bud 32768) (false,m,0)) (hL:Rise l L) (hv:Vals L vs) (k:MendR ob kd l (pairs L vs) m [] x):MendO ob kd l bud x
def pairE (p:Int × Int):List Value:=[.int .i64 p.1,.int .i64 p.2]
theorem pairE_len (p:Int × Int):(pairE p).length = 2:=rfl
def MendV (w':World) (r:List (Int × Int) × Int) (u:Value):Prop:=∃ vv,u = .tuple #[vv,.int .i64 r.2] ∧ RdS w' 2 pairE vv r.1 ∧ r.1.length ≤ 1000000
theorem rd_nil2 (w:World):RdS w 2 pairE (.slice none 0 0) []:=⟨by simp,none,0,rfl,Nat.le_refl _,fun h => absurd rfl h⟩
theorem kOk_small {x:Int} (h:-1000 ≤ x ∧ x ≤ 1000):kOk .i64 x:=by
  unfold kOk
  simp [Lit.wf,IntKind.min,IntKind.max,IntKind.signed,IntKind.bits]
  omega
theorem raw_ok:∀ {L:List OpT} {n:Int},(∀ o ∈ L,o.wf) → 0 ≤ n → n + L.length ≤ 1000 → ∀ x ∈ rawV L n,kOk .i64 x
  | [],_,_,_,_,x,h => by cases h
  | o :: L,n,hw,h0,hn,x,h => by
    obtain ⟨_,_,_,_,_,ha,hs,_⟩:=hw o List.mem_cons_self
    have hL:∀ o ∈ L,o.wf:=fun y hy => hw y (List.mem_cons_of_mem _ hy)
    rw [List.length_cons] at hn
    rw [rawV] at h
    split at h
    · rcases List.mem_cons.1 h with rfl | h
      · exact ha
      rcases List.mem_cons.1 h with rfl | h
      · exact hs
      rcases List.mem_cons.1 h with rfl | h
      · exact kOk_small (by omega)
      rcases List.mem_cons.1 h with rfl | h
      · exact kOk_small (by omega)
      · exact raw_ok hL (by omega) (by omega) x h
    · rcases List.mem_cons.1 h with rfl | h
      · exact ha
      rcases List.mem_cons.1 h with rfl | h
      · exact hs
      · exact raw_ok hL h0 (by omega) x h
theorem ans_ok {o:OpT} {vs:List Int} (h:∀ x ∈ vs,kOk .i64 x):∀ x ∈ ansP o vs,kOk .i64 x:=by
  intro x hx
  unfold ansP at hx
  split at hx
  · exact h x hx
  split at hx
  · rcases List.mem_cons.1 hx with rfl | hx
    · exact kOk_small (by decide)
    · exact h x hx
  split at hx
  · simp only [List.mem_cons,List.not_mem_nil,or_false] at hx
    rcases hx with rfl | rfl
    · exact kOk_small (by decide)
    · exact kOk_small (by decide)
  · rw [List.mem_singleton] at hx
    subst hx
    exact kOk_small (by decide)
theorem ans_len (o:OpT) (vs:List Int):(ansP o vs).length ≤ vs.length + 2:=by
  unfold ansP
  split
  · omega
  split
  · simp
  split <;> simp
theorem setR_wf {o:OpT} {n:Int} (h:o.wf) (hn:kOk .i64 n):(setR o n).wf:=by
  obtain ⟨h1,h2,h3,h4,h5,h6,h7,h8,h9,h10⟩:=h
  exact ⟨h1,h2,h3,h4,h5,h6,h7,hn,h9,h10⟩
theorem mends_ok {w:World} {bud ob kd:Int} {v:Value} {l:List OpT} (hr:RdS w 11 OpT.enc v l) (hl:l.length ≤ 9) (hn:(l.map OpT.ID).Nodup) (hK:∀ o ∈ l,o.Kind = kd) (hw:∀ o ∈ l,o.wf) (hb:I64 bud) :
    Ret Tryz.prog 15 [.agg #[.int .i64 ob,.int .i64 kd,v],.int .i64 bud] w fun u w' => (∃ r,MendO ob kd l bud r ∧ MendV w' r u) ∧ Below w.heap.size w w':=by
  obtain ⟨a,c,rfl,_⟩:=hr.form
  refine ent15 _ _ _ _ ?_
  have s2:=(startI hr).box #[.int .i64 ob,.int .i64 kd,.slice a l.length c] 24
  simp (disch:=first|omega|exact okFill_t rfl|exact okSize_t rfl|exact fun h=>h|(simp only[World.size_alloc,World.size_drew,World.size_setCell,size_fill,bytesW];omega)) only [go_sem,c15,c15S0,c15S1,c15S2,c15S3,c15S4,c15S5,c15S6,c15S7,c15S8,c15S9,c15L0,c15S10,c15S11,c15S12,c15S13,c15L1,c15S14,c15S15,c15S16,c15S17]
  obtain ⟨p2,hp2⟩:∃ p,p = w.heap.size:=⟨_,rfl⟩
  have hbel:∀ {w':World} {F:Nat → Prop} {L:List Res} {I:List Inv},St w w' F L I → Below p2 w w':=fun h => by rw [hp2]; exact h.bel
  rw [← hp2] at s2 ⊢
  generalize w.alloc (.cells #[.int .i64 ob,.int .i64 kd,.slice a l.length c] 24) = w2 at s2 ⊢
  refine bdW_built (cells:=#[.int .i64 (min bud 32768),.int .i64 0,.int .i64 0]) (by kernel_rfl) ?_
  simp (disch:=first|omega|exact okFill_t rfl|exact okSize_t rfl|exact fun h=>h|(simp only[World.size_alloc,World.size_drew,World.size_setCell,size_fill,bytesW];omega)) only [go_sem,c15,c15S0,c15S1,c15S2,c15S3,c15S4,c15S5,c15S6,c15S7,c15S8,c15S9,c15L0,c15S10,c15S11,c15S12,c15S13,c15L1,c15S14,c15S15,c15S16,c15S17]
  have s3:=s2.box #[.int .i64 (min bud 32768),.int .i64 0,.int .i64 0] 59
  generalize w2.heap.size = p6 at s3 ⊢
  generalize w2.alloc (.cells #[.int .i64 (min bud 32768),.int .i64 0,.int .i64 0] 59) = w3 at s3 ⊢
  have q1:=s3.rules 1 rfl
  have hr3:RdS w3 11 OpT.enc (.slice a l.length c) l:=s3.rd 0 rfl
  have hbm:-9223372036854775808 ≤ min bud 32768 ∧ min bud 32768 ≤ 32768:=by
    have:=hb.1
    omega
  simp (disch:=first|omega|exact okFill_t rfl|exact okSize_t rfl|exact fun h=>h|(simp only[World.size_alloc,World.size_drew,World.size_setCell,size_fill,bytesW];omega)) only [go_sem,c15,c15S0,c15S2,c15S3,c15S4,c15S5,c15S6,c15S7,c15S8,c15S9,c15L0,c15S10,c15S11,c15S12,c15S13,c15L1,c15S14,c15S15,c15S16,c15S18,q1]
  refine Ret.mono (explained_ok (ob:=ob) (kd:=kd) s3 hr3 (by omega) hK hw hbm) ?_
  rintro _ w4 ⟨av,m,e,rfl,hask,s4⟩
  have hlow:=hask.low
  have hge:=hask.ge (B:=-9223372036854775808) (by decide) hbm.1
  simp only at hlow hge
  have q4:=s4.rules 0 rfl
  have q42:=s4.rules 1 rfl
  have qd4:=s4.drew.rules 0 rfl
  by_cases he:e = 0
  · subst he
    simp only [if_true] at s4 q4 qd4
    cases av with
    | true =>
      simp (disch:=first|omega|exact okFill_t rfl|exact okSize_t rfl|exact fun h=>h|(simp only[World.size_alloc,World.size_drew,World.size_setCell,size_fill,bytesW];omega)) only [go_sem,c15,c15S0,c15S1,c15S2,c15S3,c15S4,c15S5,c15S6,c15S7,c15S8,c15S9,c15L0,c15S10,c15S11,c15S12,c15S13,c15L1,c15S14,c15S15,c15S16,c15S17,c15S18,q4]
      refine c15draw0 ?_
      simp (disch:=first|omega|exact okFill_t rfl|exact okSize_t rfl|exact fun h=>h|(simp only[World.size_alloc,World.size_drew,World.size_setCell,size_fill,bytesW];omega)) only [go_sem,c15,c15S0,c15S1,c15S2,c15S3,c15S4,c15S5,c15S6,c15S7,c15S8,c15S9,c15L0,c15S10,c15S11,c15S12,c15S13,c15L1,c15S14,c15S15,c15S16,c15S17,c15S18,c15D0,qd4]
      exact ⟨⟨([],0),.ok hask,_,rfl,rd_nil2 _,by simp⟩,hbel s4.drew⟩
    | false =>
      simp (disch:=first|omega|exact okFill_t rfl|exact okSize_t rfl|exact fun h=>h|(simp only[World.size_alloc,World.size_drew,World.size_setCell,size_fill,bytesW];omega)) only [go_sem,c15,c15S0,c15S1,c15S2,c15S3,c15S4,c15S5,c15S6,c15S7,c15S8,c15S9,c15L0,c15S10,c15S11,c15S12,c15S13,c15L1,c15S14,c15S15,c15S16,c15S18,q4]
      simp (disch:=first|omega|exact okFill_t rfl|exact okSize_t rfl|exact fun h=>h|(simp only[World.size_alloc,World.size_drew,World.size_setCell,size_fill,bytesW];omega)) only [go_sem,c15,c15S0,c15S1,c15S2,c15S3,c15S4,c15S5,c15S6,c15S7,c15S8,c15S9,c15L0,c15S10,c15S11,c15S12,c15S13,c15L1,c15S14,c15S15,c15S16,c15S17,c15S18,q42]
      have hr4:RdS w4 11 OpT.enc (.slice a l.length c) l:=s4.rd 0 rfl
      refine Ret.mono (sorted_ok' hr4 (by omega) hn) ?_
      rintro lv w5 ⟨⟨L0,hL0,own5⟩,b5⟩
      have s5:=newRow s4 b5 own5
      have hlen:L0.length = l.length:=hL0.1.length_eq
      have hrL:RdS w5 11 OpT.enc lv L0:=RdS.of_own own5
      simp (disch:=first|omega|exact okFill_t rfl|exact okSize_t rfl|exact fun h=>h|(simp only[World.size_alloc,World.size_drew,World.size_setCell,size_fill,bytesW];omega)) only [go_sem,c15,c15S0,c15S1,c15S2,c15S3,c15S4,c15S5,c15S6,c15S7,c15S8,c15S9,c15L0,c15S10,c15S11,c15S12,c15S13,c15L1,c15S14,c15S15,c15S16,c15S17,c15S18]
      refine Ret.mono (values_ok hrL (by omega)) ?_
      rintro av w6 ⟨⟨vs,hvs,hvl,own6⟩,b6⟩
      have s6:=(newRow s5 b6 own6).perm (L':=[.blk p6 #[.int .i64 m,.int .i64 0,.int .i64 0] 59,.blk p2 #[.int .i64 ob,.int .i64 kd,.slice a l.length c] 24,.row av 3 1 vs.length (vs.flatMap intE),.row lv 38 11 L0.length (L0.flatMap OpT.enc)]) (List.perm_append_comm (l₁:=[_,_]) (l₂:=[_,_]))
      have s7:=(s6.nilRow 46 2).perm (L':=[.blk p6 #[.int .i64 m,.int .i64 0,.int .i64 0] 59,.blk p2 #[.int .i64 ob,.int .i64 kd,.slice a l.length c] 24,.row (.slice none 0 0) 46 2 0 [],.row av 3 1 vs.length (vs.flatMap intE),.row lv 38 11 L0.length (L0.flatMap OpT.enc)]) (List.perm_middle (l₁:=[_,_]) (l₂:=[_,_]))
      obtain ⟨la,lc,rfl,_⟩:=own_slice own5
      simp (disch:=first|omega|exact okFill_t rfl|exact okSize_t rfl|exact fun h=>h|(simp only[World.size_alloc,World.size_drew,World.size_setCell,size_fill,bytesW];omega)) only [go_sem,c15,c15S0,c15S1,c15S2,c15S3,c15S4,c15S5,c15S6,c15S7,c15S8,c15S9,c15L0,c15S10,c15S11,c15S12,c15S13,c15L1,c15S14,c15S15,c15S16,c15S17,c15S18]
      have hvok:∀ x ∈ vs,kOk .i64 x:=fun x hx => by
        rcases List.mem_cons.1 ((hvs.mem x).1 hx) with rfl | h
        · exact kOk_small (by decide)
        · exact raw_ok (fun o ho => hw o (hL0.1.mem_iff.1 ho)) (Int.le_refl 0) (by omega) x h
      refine W_loopU (fun x:Value × Nat × Int × List (Int × Int) => [(8,x.1),(43,.int .i64 x.2.1)]) (fun x w' => St w w' (fun _ => False) [.blk p6 #[.int .i64 x.2.2.1,.int .i64 0,.int .i64 0] 59,.blk p2 #[.int .i64 ob,.int .i64 kd,.slice a l.length c] 24,.row x.1 46 2 x.2.2.2.length (x.2.2.2.flatMap pairE),.row av 3 1 vs.length (vs.flatMap intE),.row (.slice la L0.length lc) 38 11 L0.length (L0.flatMap OpT.enc)] [.rd 11 OpT.enc (.slice a l.length c) l] ∧ x.2.1 ≤ L0.length ∧ (-9223372036854775808 ≤ x.2.2.1 ∧ x.2.2.1 ≤ 32768) ∧ x.2.2.2.length ≤ 500 * x.2.1 ∧ ∀ y,MendR ob kd l (pairs (L0.drop x.2.1) vs) x.2.2.1 x.2.2.2 y → MendR ob kd l (pairs L0 vs) m [] y) (fun x => L0.length - x.2.1) (.slice none 0 0,0,m,[]) rfl ⟨s7,Nat.zero_le _,⟨hge,by simp only; omega⟩,Nat.le_refl _,fun y h => h⟩ ?_
      rintro ⟨ov,k,left,acc⟩ w7 ⟨s8,hk,hleft,hal,hall⟩
      simp only at s8 hk hleft hal hall
      obtain ⟨oa,oc,rfl,_⟩:=own_slice (s8.row 2 rfl)
      by_cases hlt:k < L0.length
      · have hlt':(k:Int) < L0.length:=by omega
        have hrL7:RdS w7 11 OpT.enc (.slice la L0.length lc) L0:=RdS.of_own (s8.row 4 rfl)
        obtain ⟨q,rfl⟩:=hrL7.ptr (by omega)
        have ek:=hrL7.eltB (Below.refl _ _) OpT.len (by decide) hlt
        have ck:=hrL7.at OpT.len hlt
        have ak:=L0[k].at
        rw [List.drop_eq_getElem_cons hlt,pairs_cons] at hall
        cases hd:L0[k].Done with
        | false =>
          rw [hd] at hall
          simp (disch:=first|omega|exact okFill_t rfl|exact okSize_t rfl|exact fun h=>h|(simp only[World.size_alloc,World.size_drew,World.size_setCell,size_fill,bytesW];omega)) only [go_sem,c15,c15S0,c15S1,c15S2,c15S3,c15S4,c15S5,c15S6,c15S7,c15S8,c15S9,c15L0,c15S10,c15S11,c15S12,c15S13,c15L1,c15S14,c15S15,c15S16,c15S17,c15S18,c15L1,hlt',ck,ek,ak,hd]
          exact ⟨by omega,(OpT.len _).symm,⟨by omega,by omega⟩,(.slice oa acc.length oc,k + 1,left,acc),rfl,⟨s8.alloc' _,hlt,hleft,by simp only; omega,hall⟩,by simp only; omega⟩
        | true =>
          rw [hd,if_pos rfl] at hall
          simp (disch:=first|omega|exact okFill_t rfl|exact okSize_t rfl|exact fun h=>h|(simp only[World.size_alloc,World.size_drew,World.size_setCell,size_fill,bytesW];omega)) only [go_sem,c15,c15S0,c15S1,c15S2,c15S3,c15S4,c15S5,c15S6,c15S7,c15S8,c15S9,c15L0,c15S10,c15S12,c15S13,c15L1,c15S14,c15S15,c15S16,c15S17,c15S18,c15L1,hlt',ck,ek,ak,hd]
          refine ⟨by omega,(OpT.len _).symm,?_⟩
          have s9:=s8.box L0[k].enc.toArray 38
          obtain ⟨o,ho⟩:∃ o,o = L0[k]:=⟨_,rfl⟩
          have hol:o ∈ l:=hL0.1.mem_iff.1 (by rw [ho]; exact List.getElem_mem hlt)
          rw [← ho] at s9 hall ⊢
          clear ek ck ak
          generalize w7.heap.size = p12 at s9 ⊢
          generalize w7.alloc (.cells o.enc.toArray 38) = w8 at s9 ⊢
          obtain ⟨va,vc,rfl,_⟩:=own_slice own6
          have s10:=s9.perm (L':=.row (.slice va vs.length vc) 3 1 vs.length (vs.flatMap intE) :: [.blk p12 o.enc.toArray 38,.blk p6 #[.int .i64 left,.int .i64 0,.int .i64 0] 59,.blk p2 #[.int .i64 ob,.int .i64 kd,.slice a l.length c] 24,.row (.slice oa acc.length oc) 46 2 acc.length (acc.flatMap pairE),.row (.slice (some q) L0.length lc) 38 11 L0.length (L0.flatMap OpT.enc)]) (List.perm_middle (l₁:=[_,_,_,_]) (l₂:=[_])).symm
          have q12:=s10.rules 1 rfl
          have eo:=OpT.len o
          simp (disch:=first|omega|exact okFill_t rfl|exact okSize_t rfl|exact fun h=>h|(simp only[World.size_alloc,World.size_drew,World.size_setCell,size_fill,bytesW];omega)) only [go_sem,c15,c15S0,c15S1,c15S2,c15S3,c15S4,c15S5,c15S6,c15S7,c15S8,c15S9,c15L0,c15S10,c15S11,c15S12,c15S13,c15L1,c15S14,c15S15,c15S16,c15S17,c15S18,q12]
          refine Ret.mono (answers_ok o s10 (by omega)) ?_
          rintro nv w9 ⟨R,s11,hns⟩
          have s12:=s11.perm (L':=[.blk p6 #[.int .i64 left,.int .i64 0,.int .i64 0] 59,.blk p2 #[.int .i64 ob,.int .i64 kd,.slice a l.length c] 24,.row (.slice oa acc.length oc) 46 2 acc.length (acc.flatMap pairE),.blk p12 o.enc.toArray 38] ++ .row (.slice va vs.length vc) 3 1 vs.length (vs.flatMap intE) :: ([.row (.slice (some q) L0.length lc) 38 11 L0.length (L0.flatMap OpT.enc)] ++ R)) (by
            refine List.perm_middle.trans (List.Perm.cons _ ?_)
            rw [← List.append_assoc]
            refine List.perm_append_comm.trans (List.Perm.append_left R ?_)
            exact List.perm_middle (l₁:=[_,_,_]) (l₂:=[_]))
          have hrn:=hns w9 _ _ (fun r hr => by
            rcases List.mem_cons.1 hr with rfl | hr
            · simp
            · simp [hr]) s12
          obtain ⟨na,nc,rfl,_⟩:=hrn.form
          have hnl:=ans_len o vs
          have hnok:=ans_ok (o:=o) hvok
          generalize ansP o vs = ns at hall hns hrn hnl hnok ⊢
          simp (disch:=first|omega|exact okFill_t rfl|exact okSize_t rfl|exact fun h=>h|(simp only[World.size_alloc,World.size_drew,World.size_setCell,size_fill,bytesW];omega)) only [go_sem,c15,c15S0,c15S1,c15S2,c15S3,c15S4,c15S5,c15S6,c15S7,c15S8,c15S9,c15L0,c15S10,c15S11,c15S12,c15S13,c15L1,c15S14,c15S15,c15S16,c15S17,c15S18]
          have s13:St w w9 (fun _ => False) (.blk p6 #[.int .i64 left,.int .i64 0,.int .i64 0] 59 :: .blk p2 #[.int .i64 ob,.int .i64 kd,.slice a l.length c] 24 :: .row (.slice oa acc.length oc) 46 2 acc.length (acc.flatMap pairE) :: .blk p12 o.enc.toArray 38 :: .row (.slice va vs.length vc) 3 1 vs.length (vs.flatMap intE) :: .row (.slice (some q) L0.length lc) 38 11 L0.length (L0.flatMap OpT.enc) :: R) [.rd 11 OpT.enc (.slice a l.length c) l]:=s12
          refine W_loopU (fun x:Value × Nat × Int × List (Int × Int) => [(8,x.1),(54,.int .i64 x.2.1)]) (fun x w' => St w w' (fun _ => False) (.blk p6 #[.int .i64 x.2.2.1,.int .i64 0,.int .i64 0] 59 :: .blk p2 #[.int .i64 ob,.int .i64 kd,.slice a l.length c] 24 :: .row x.1 46 2 x.2.2.2.length (x.2.2.2.flatMap pairE) :: .blk p12 o.enc.toArray 38 :: .row (.slice va vs.length vc) 3 1 vs.length (vs.flatMap intE) :: .row (.slice (some q) L0.length lc) 38 11 L0.length (L0.flatMap OpT.enc) :: R) [.rd 11 OpT.enc (.slice a l.length c) l] ∧ x.2.1 ≤ ns.length ∧ (-9223372036854775808 ≤ x.2.2.1 ∧ x.2.2.1 ≤ 32768) ∧ x.2.2.2.length ≤ 500 * k + x.2.1 ∧ ∀ y,MendR ob kd l ((ns.drop x.2.1).map (fun n => (o,n)) ++ pairs (L0.drop (k + 1)) vs) x.2.2.1 x.2.2.2 y → MendR ob kd l (pairs L0 vs) m [] y) (fun x => ns.length - x.2.1) (.slice oa acc.length oc,0,left,acc) rfl ⟨s13,Nat.zero_le _,hleft,by simp only; omega,fun y h => hall y h⟩ ?_
          clear s13 s12 s11 s10 s9 hall hleft hal
          rintro ⟨ov,i,left,acc⟩ w10 ⟨s14,hi,hleft,hal,hall⟩
          simp only at s14 hi hleft hal hall
          obtain ⟨oa,oc,rfl,_⟩:=own_slice (s14.row 2 rfl)
          by_cases hlt3:i < ns.length
          · have hlt3':(i:Int) < ns.length:=by omega
            have hrn:=hns w10 _ _ (fun r hr => by
              rcases List.mem_cons.1 hr with rfl | hr
              · simp
              · simp [hr]) s14
            obtain ⟨qn,rfl⟩:=hrn.ptr (by omega)
            have en:=hrn.eltB (Below.refl _ _) (fun _ => rfl) (by decide) hlt3
            have ez:(intE ns[i])[0]? = some (.int .i64 ns[i]):=rfl
            rw [Nat.mul_one] at en
            have q2:=s14.rules 1 rfl
            have q12:=s14.rules 3 rfl
            have ao:=o.at
            have hrv:RdS w10 11 OpT.enc (.slice a l.length c) l:=s14.rd 0 rfl
            rw [List.drop_eq_getElem_cons hlt3,List.map_cons,List.cons_append] at hall
            have hnk:=hnok _ (List.getElem_mem hlt3)
            simp (disch:=first|omega|exact okFill_t rfl|exact okSize_t rfl|exact fun h=>h|(simp only[World.size_alloc,World.size_drew,World.size_setCell,size_fill,bytesW];omega)) only [go_sem,c15,c15S0,c15S1,c15S2,c15S3,c15S4,c15S5,c15S6,c15S8,c15S9,c15L0,c15S10,c15S11,c15S12,c15S13,c15L1,c15S14,c15S15,c15S16,c15S17,c15S18,c15L0,hlt3',en,ez,q2,q12,ao]
            refine ⟨by omega,Ret.mono (wout_ok (ob:=ob) (kd:=kd) (d:=o.ID) hrv (by omega)) ?_⟩
            rintro _ w11 ⟨⟨uv,rfl,own11⟩,b11⟩
            have s15:=newRow s14 b11 own11
            obtain ⟨ua,uc,rfl,_⟩:=own_slice own11
            simp (disch:=first|omega|exact okFill_t rfl|exact okSize_t rfl|exact fun h=>h|(simp only[World.size_alloc,World.size_drew,World.size_setCell,size_fill,bytesW];omega)) only [go_sem,c15,c15S0,c15S1,c15S2,c15S3,c15S4,c15S5,c15S6,c15S8,c15S9,c15L0,c15S10,c15S11,c15S12,c15S13,c15L1,c15S14,c15S15,c15S16,c15S17,c15S18]
            have s16:=s15.box #[.int .i64 ob,.int .i64 kd,.slice ua (wo l o.ID).length uc] 24
            generalize w11.heap.size = p15 at s16 ⊢
            generalize w11.alloc (.cells #[.int .i64 ob,.int .i64 kd,.slice ua (wo l o.ID).length uc] 24) = w12 at s16 ⊢
            have q12':=s16.rules 5 rfl
            have eo:=OpT.len o
            simp (disch:=first|omega|exact okFill_t rfl|exact okSize_t rfl|exact fun h=>h|(simp only[World.size_alloc,World.size_drew,World.size_setCell,size_fill,bytesW];omega)) only [go_sem,c15,c15S0,c15S1,c15S2,c15S3,c15S4,c15S5,c15S7,c15S8,c15S9,c15L0,c15S10,c15S11,c15S12,c15S13,c15L1,c15S14,c15S15,c15S16,c15S17,c15S18,q12',ao]
            refine ⟨(OpT.len o).symm,?_⟩
            have es:o.enc.set 8 (.int .i64 ns[i]) = (setR o ns[i]).enc:=rfl
            rw [es]
            have s17:=s16.box (setR o ns[i]).enc.toArray 38
            generalize w12.heap.size = p16 at s17 ⊢
            generalize w12.alloc (.cells (setR o ns[i]).enc.toArray 38) = w13 at s17 ⊢
            have q15:=s17.rules 1 rfl
            have q16:=s17.rules 0 rfl
            have ey:=OpT.len (setR o ns[i])
            simp (disch:=first|omega|exact okFill_t rfl|exact okSize_t rfl|exact fun h=>h|(simp only[World.size_alloc,World.size_drew,World.size_setCell,size_fill,bytesW];omega)) only [go_sem,c15,c15S0,c15S1,c15S2,c15S3,c15S4,c15S5,c15S7,c15S8,c15S9,c15L0,c15S10,c15S11,c15S12,c15S13,c15L1,c15S14,c15S15,c15S16,c15S17,c15S18,q15,q16]
            refine bsW_agg ty22mkI rfl (by decide) (by decide) ?_
            have hrd:Rd (w13.alloc (.cells (setR o ns[i]).enc.toArray 38)) 11 (.slice (some ⟨w13.heap.size,0,none⟩) 1 1) 1 (setR o ns[i]).enc:=rd_new (t:=38) (sz:=11) (n:=1) (cs:=(setR o ns[i]).enc.toArray) rfl
            have s18:=s17.alloc' (.cells (setR o ns[i]).enc.toArray 38)
            generalize w13.alloc (.cells (setR o ns[i]).enc.toArray 38) = w14 at s18 hrd ⊢
            simp (disch:=first|omega|exact okFill_t rfl|exact okSize_t rfl|exact fun h=>h|(simp only[World.size_alloc,World.size_drew,World.size_setCell,size_fill,bytesW];omega)) only [go_sem,c15,c15S0,c15S1,c15S2,c15S3,c15S4,c15S5,c15S7,c15S8,c15S9,c15L0,c15S10,c15S11,c15S12,c15S13,c15L1,c15S14,c15S15,c15S16,c15S17,c15S18]
            have hwl:=wo_len_le l o.ID
            refine s18.append 2 rfl ty22mkI rfl (by decide) hrd (setR o ns[i]).one (by omega) (by omega) ?_
            intro v15 w15 s19 _
            obtain ⟨e1,e2⟩:=len_flat_snoc (wo l o.ID) (setR o ns[i])
            simp only [List.set_cons_succ,List.set_cons_zero] at s19
            rw [← e1,← e2] at s19
            obtain ⟨xa,xc,rfl,_⟩:=own_slice (s19.row 2 rfl)
            have q15:=s19.rules 1 rfl
            simp (disch:=first|omega|exact okFill_t rfl|exact okSize_t rfl|exact fun h=>h|(simp only[World.size_alloc,World.size_drew,World.size_setCell,size_fill,bytesW];omega)) only [go_sem,c15,c15S0,c15S1,c15S2,c15S3,c15S4,c15S5,c15S7,c15S8,c15S9,c15L0,c15S10,c15S11,c15S12,c15S13,c15L1,c15S14,c15S15,c15S16,c15S17,c15S18,q15]
            have s20:=s19.set 1 rfl 2 (.slice xa (wo l o.ID ++ [setR o ns[i]]).length xc)
            generalize w15.setCell ⟨p15,2,none⟩ (.slice xa (wo l o.ID ++ [setR o ns[i]]).length xc) = w16 at s20 ⊢
            have q12b:=s20.rules 6 rfl
            have q15b:=s20.rules 1 rfl
            by_cases hsame:ns[i] = o.Result
            · simp (disch:=first|omega|exact okFill_t rfl|exact okSize_t rfl|exact fun h=>h|(simp only[World.size_alloc,World.size_drew,World.size_setCell,size_fill,bytesW];omega)) only [go_sem,c15,c15S0,c15S1,c15S2,c15S3,c15S4,c15S5,c15S6,c15S7,c15S8,c15S9,c15L0,c15S10,c15S11,c15S12,c15S13,c15L1,c15S14,c15S15,c15S16,c15S17,c15S18,q12b,ao,hsame]
              exact ⟨⟨by omega,by omega⟩,(.slice oa acc.length oc,i + 1,left,acc),rfl,⟨s20.sub (.cons _ (.cons _ (.cons _ (List.Sublist.refl _)))),hlt3,hleft,by simp only; omega,fun y h => hall y (.same hsame h)⟩,by simp only; omega⟩
            · simp (disch:=first|omega|exact okFill_t rfl|exact okSize_t rfl|exact fun h=>h|(simp only[World.size_alloc,World.size_drew,World.size_setCell,size_fill,bytesW];omega)) only [go_sem,c15,c15S0,c15S1,c15S2,c15S3,c15S4,c15S6,c15S7,c15S8,c15S9,c15L0,c15S10,c15S11,c15S12,c15S13,c15L1,c15S14,c15S15,c15S16,c15S17,c15S18,q12b,ao,hsame,q15b]
              have s21:=s20.perm (List.perm_middle (l₁:=[_,_,_])).symm
              have hrx:RdS w16 11 OpT.enc (.slice xa (wo l o.ID ++ [setR o ns[i]]).length xc) (wo l o.ID ++ [setR o ns[i]]):=RdS.of_own (s20.row 2 rfl)
              have hmx:∀ x ∈ wo l o.ID ++ [setR o ns[i]],x.Kind = kd ∧ x.wf:=fun x hx => by
                rcases List.mem_append.1 hx with hx | hx
                · have:=(List.mem_filter.1 hx).1
                  exact ⟨hK x this,hw x this⟩
                · rw [List.mem_singleton] at hx
                  subst hx
                  exact ⟨hK o hol,setR_wf (hw o hol) hnk⟩
              have hlx:(wo l o.ID ++ [setR o ns[i]]).length ≤ 10:=by rw [List.length_append,List.length_singleton]; omega
              refine Ret.mono (explained_ok (ob:=ob) (kd:=kd) s21 hrx hlx (fun x hx => (hmx x hx).1) (fun x hx => (hmx x hx).2) hleft) ?_
              rintro _ w17 ⟨av,m2,e,rfl,hask2,s22⟩
              have hl2:=hask2.low
              have hg2:=hask2.ge (B:=-9223372036854775808) (by decide) hleft.1
              simp only at hl2 hg2
              have s23:=s22.sub (L':=.blk p6 #[.int .i64 m2,.int .i64 0,.int .i64 (if e = 0 then 0 else e)] 59 :: .blk p2 #[.int .i64 ob,.int .i64 kd,.slice a l.length c] 24 :: .row (.slice oa acc.length oc) 46 2 acc.length (acc.flatMap pairE) :: .blk p12 o.enc.toArray 38 :: .row (.slice va vs.length vc) 3 1 vs.length (vs.flatMap intE) :: .row (.slice (some q) L0.length lc) 38 11 L0.length (L0.flatMap OpT.enc) :: R) (.cons_cons _ (.cons _ (.cons _ (.cons _ (List.Sublist.refl _)))))
              have q6:=s23.rules 0 rfl
              have q12c:=s23.rules 3 rfl
              have qd6:=s23.drew.rules 0 rfl
              by_cases he:e = 0
              · subst he
                simp only [if_true] at s23 q6 qd6
                cases av with
                | false =>
                  simp (disch:=first|omega|exact okFill_t rfl|exact okSize_t rfl|exact fun h=>h|(simp only[World.size_alloc,World.size_drew,World.size_setCell,size_fill,bytesW];omega)) only [go_sem,c15,c15S0,c15S1,c15S2,c15S3,c15S4,c15S5,c15S6,c15S7,c15S8,c15S9,c15L0,c15S10,c15S11,c15S12,c15S13,c15L1,c15S14,c15S15,c15S16,c15S17,c15S18]
                  exact ⟨⟨by omega,by omega⟩,(.slice oa acc.length oc,i + 1,m2,acc),rfl,⟨s23,hlt3,⟨hg2,by simp only; omega⟩,by simp only; omega,fun y h => hall y (.no hsame hask2 h)⟩,by simp only; omega⟩
                | true =>
                  simp (disch:=first|omega|exact okFill_t rfl|exact okSize_t rfl|exact fun h=>h|(simp only[World.size_alloc,World.size_drew,World.size_setCell,size_fill,bytesW];omega)) only [go_sem,c15,c15S0,c15S1,c15S2,c15S3,c15S4,c15S5,c15S6,c15S7,c15S8,c15S9,c15L0,c15S10,c15S11,c15S12,c15S13,c15L1,c15S14,c15S15,c15S16,c15S17,c15S18,q6,q12c,ao]
                  refine bdW_built (cells:=#[.int .i64 o.ID,.int .i64 ns[i]]) (by kernel_rfl) ?_
                  simp (disch:=first|omega|exact okFill_t rfl|exact okSize_t rfl|exact fun h=>h|(simp only[World.size_alloc,World.size_drew,World.size_setCell,size_fill,bytesW];omega)) only [go_sem,c15,c15S0,c15S1,c15S2,c15S3,c15S4,c15S5,c15S6,c15S7,c15S8,c15S9,c15L0,c15S10,c15S11,c15S12,c15S13,c15L1,c15S14,c15S15,c15S16,c15S17,c15S18]
                  refine bsW_agg ty42mkI rfl (by decide) (by decide) ?_
                  have hrd2:Rd (w17.alloc (.cells #[.int .i64 o.ID,.int .i64 ns[i]] 46)) 2 (.slice (some ⟨w17.heap.size,0,none⟩) 1 1) 1 (pairE (o.ID,ns[i])):=rd_new (t:=46) (sz:=2) (n:=1) (cs:=#[.int .i64 o.ID,.int .i64 ns[i]]) rfl
                  have s24:=s23.alloc' (.cells #[.int .i64 o.ID,.int .i64 ns[i]] 46)
                  generalize w17.alloc (.cells #[.int .i64 o.ID,.int .i64 ns[i]] 46) = w18 at s24 hrd2 ⊢
                  simp (disch:=first|omega|exact okFill_t rfl|exact okSize_t rfl|exact fun h=>h|(simp only[World.size_alloc,World.size_drew,World.size_setCell,size_fill,bytesW];omega)) only [go_sem,c15,c15S0,c15S1,c15S2,c15S3,c15S4,c15S5,c15S6,c15S7,c15S8,c15S9,c15L0,c15S10,c15S11,c15S12,c15S13,c15L1,c15S14,c15S15,c15S16,c15S17,c15S18]
                  refine s24.append 2 rfl ty42mkI rfl (by decide) hrd2 (fun u hu => by simp only [pairE,List.mem_cons,List.not_mem_nil,or_false] at hu; rcases hu with rfl | rfl <;> rfl) (by omega) (by omega) ?_
                  intro v19 w19 s25 _
                  have f1:(acc ++ [(o.ID,ns[i])]).length = acc.length + 1:=by simp
                  have f2:(acc ++ [(o.ID,ns[i])]).flatMap pairE = acc.flatMap pairE ++ pairE (o.ID,ns[i]):=by rw [List.flatMap_append]; simp
                  simp only [List.set_cons_succ,List.set_cons_zero] at s25
                  rw [← f1,← f2] at s25
                  simp (disch:=first|omega|exact okFill_t rfl|exact okSize_t rfl|exact fun h=>h|(simp only[World.size_alloc,World.size_drew,World.size_setCell,size_fill,bytesW];omega)) only [go_sem,c15,c15S0,c15S1,c15S2,c15S3,c15S4,c15S5,c15S6,c15S7,c15S8,c15S9,c15L0,c15S10,c15S11,c15S12,c15S13,c15L1,c15S14,c15S15,c15S16,c15S17,c15S18]
                  exact ⟨⟨by omega,by omega⟩,(v19,i + 1,m2,acc ++ [(o.ID,ns[i])]),rfl,⟨s25,hlt3,⟨hg2,by simp only; omega⟩,by simp only; rw [f1]; omega,fun y h => hall y (.yes hsame hask2 h)⟩,by simp only; omega⟩
              · have hav:av = true:=by
                  rcases hask2.err with h | h
                  · exact absurd h he
                  · exact h.2
                subst hav
                rw [if_neg he] at s23 q6 qd6
                simp (disch:=first|omega|exact okFill_t rfl|exact okSize_t rfl|exact fun h=>h|(simp only[World.size_alloc,World.size_drew,World.size_setCell,size_fill,bytesW];omega)) only [go_sem,c15,c15S0,c15S1,c15S2,c15S3,c15S4,c15S5,c15S6,c15S7,c15S8,c15S9,c15L0,c15S10,c15S11,c15S12,c15S13,c15L1,c15S14,c15S15,c15S16,c15S17,c15S18,q6,he]
                refine c15draw1 ?_
                simp (disch:=first|omega|exact okFill_t rfl|exact okSize_t rfl|exact fun h=>h|(simp only[World.size_alloc,World.size_drew,World.size_setCell,size_fill,bytesW];omega)) only [go_sem,c15,c15S0,c15S1,c15S2,c15S3,c15S4,c15S5,c15S6,c15S7,c15S8,c15S9,c15L0,c15S10,c15S11,c15S12,c15S13,c15L1,c15S14,c15S15,c15S16,c15S17,c15S18,c15D1,qd6]
                exact ⟨⟨([],e),.mend hask hL0 hvs (hall _ (.err hsame hask2 he)),_,rfl,rd_nil2 _,by simp⟩,hbel s23.drew⟩
          · have hlt3':¬ (i:Int) < ns.length:=by omega
            obtain rfl:i = ns.length:=by omega
            simp (disch:=first|omega|exact okFill_t rfl|exact okSize_t rfl|exact fun h=>h|(simp only[World.size_alloc,World.size_drew,World.size_setCell,size_fill,bytesW];omega)) only [go_sem,c15,c15S0,c15S1,c15S2,c15S3,c15S4,c15S5,c15S6,c15S7,c15S8,c15S9,c15L0,c15S10,c15S11,c15S12,c15S13,c15L1,c15S14,c15S15,c15S16,c15S17,c15S18,c15L0,hlt3']
            rw [List.drop_length,List.map_nil,List.nil_append] at hall
            have s15:=s14.sub (L':=[.blk p6 #[.int .i64 left,.int .i64 0,.int .i64 0] 59,.blk p2 #[.int .i64 ob,.int .i64 kd,.slice a l.length c] 24,.row (.slice oa acc.length oc) 46 2 acc.length (acc.flatMap pairE),.row (.slice va vs.length vc) 3 1 vs.length (vs.flatMap intE),.row (.slice (some q) L0.length lc) 38 11 L0.length (L0.flatMap OpT.enc)]) (.cons_cons _ (.cons_cons _ (.cons_cons _ (.cons _ (.cons_cons _ (.cons_cons _ (List.nil_sublist _)))))))
            exact ⟨⟨by omega,by omega⟩,(.slice oa acc.length oc,k + 1,left,acc),rfl,⟨s15,hlt,hleft,by simp only; omega,hall⟩,by simp only; omega⟩
      · have hlt':¬ (k:Int) < L0.length:=by omega
        obtain rfl:k = L0.length:=by omega
        simp (disch:=first|omega|exact okFill_t rfl|exact okSize_t rfl|exact fun h=>h|(simp only[World.size_alloc,World.size_drew,World.size_setCell,size_fill,bytesW];omega)) only [go_sem,c15,c15S0,c15S1,c15S2,c15S3,c15S4,c15S5,c15S6,c15S7,c15S8,c15S9,c15L0,c15S10,c15S11,c15S12,c15S13,c15L1,c15S14,c15S15,c15S16,c15S17,c15S18,c15L1,hlt']
        rw [List.drop_length] at hall
        exact ⟨⟨(acc,0),.mend hask hL0 hvs (hall _ .nil),_,rfl,RdS.of_own' (s8.row 2 rfl) acc rfl rfl,by simp only; omega⟩,hbel s8⟩
  · rw [if_neg he] at s4 q4 qd4
    have hav:av = true:=by
      rcases hask.err with h | h
      · exact absurd h he
      · exact h.2
    subst hav
    simp (disch:=first|omega|exact okFill_t rfl|exact okSize_t rfl|exact fun h=>h|(simp only[World.size_alloc,World.size_drew,World.size_setCell,size_fill,bytesW];omega)) only [go_sem,c15,c15S0,c15S1,c15S2,c15S3,c15S4,c15S5,c15S6,c15S7,c15S8,c15S9,c15L0,c15S10,c15S11,c15S12,c15S13,c15L1,c15S14,c15S15,c15S16,c15S17,c15S18,q4]
    refine c15draw0 ?_
    simp (disch:=first|omega|exact okFill_t rfl|exact okSize_t rfl|exact fun h=>h|(simp only[World.size_alloc,World.size_drew,World.size_setCell,size_fill,bytesW];omega)) only [go_sem,c15,c15S0,c15S1,c15S2,c15S3,c15S4,c15S5,c15S6,c15S7,c15S8,c15S9,c15L0,c15S10,c15S11,c15S12,c15S13,c15L1,c15S14,c15S15,c15S16,c15S17,c15S18,c15D0,qd4]
    exact ⟨⟨([],e),.err hask he,_,rfl,rd_nil2 _,by simp⟩,hbel s4.drew⟩
end Go.Proofs.YteiciplnfjnfjaaGreat

namespace Go.Proofs.YteiciplnfjnfjaaGreat
set_option linter.unusedSimpArgs false
set_option linter.unusedVariables false
set_option maxRecDepth 100000
open Go Go.Ann Go.RowKit
theorem Uniq.single (s:List Int):Uniq [s] [s]:=⟨by simp,fun _ => Iff.rfl⟩
theorem stepA {o:OpT} {s s':List Int} {bs:List (List OpT)} {left:Int} {r:Bool × Int × Int} (hb:bfsN [o] (startP 1 [s]) 2 = [([false],s),([true],s')]) (hd:o.Done = true) (h:2 ≤ left) (k:AskR bs [s'] (left - 2) r):AskR ([o] :: bs) [s] left r:=by
  refine .go (Uniq.single s) (T:=[([false],s),([true],s')]) ⟨⟨2,hb,by simp⟩,by simp; omega⟩ (X:=[s']) ?_ (by simp) (by simpa using k)
  have e:outs [o] [([false],s),([true],s')] = [s']:=by
    simp [outs,fullP,hd]
  rw [e]
  exact Uniq.single s'
theorem stopA {o:OpT} {s:List Int} {bs:List (List OpT)} {left:Int} (hb:bfsN [o] (startP 1 [s]) 2 = [([false],s)]) (hd:o.Done = true) (h:2 ≤ left):AskR ([o] :: bs) [s] left (false,left - 1,0):=by
  have e:outs [o] [([false],s)] = []:=by
    simp [outs,fullP,hd]
  have:=AskR.stop (bs:=bs) (Uniq.single s) (left:=left) (T:=[([false],s)]) (b:=[o]) ⟨⟨2,hb,by simp⟩,by simp; omega⟩ (by
    have h2:=e
    unfold outs at h2
    show Uniq (outs [o] [([false],s)]) []
    rw [e]
    exact ⟨List.Pairwise.nil,fun _ => Iff.rfl⟩)
  simpa using this
def e1:OpT:=⟨1,0,0,1,2,1,0,true,0,0,1⟩
def e2:OpT:=⟨2,0,0,1,2,2,0,true,0,2,3⟩
def e3 (r:Int):OpT:=⟨3,0,0,1,1,0,0,true,r,4,5⟩
theorem ask_of {l:List OpT} {left:Int} {r:Bool × Int × Int} (bs:List (List OpT)) (hs:l.Pairwise fun a b => ¬ Cut.earI b a < 0) (hb:segsO 0 1 l = bs) (k:AskR bs [[0]] left r):Ask 0 1 l left r:=⟨l,⟨List.Perm.refl _,hs⟩,by rw [hb]; exact k⟩
theorem ax123:Ask 0 1 [e1,e2,e3 1] 999 (false,994,0) :=
  ask_of [[e1],[e2],[e3 1]] (by decide) (by kernel_rfl) (stepA (s':=[1]) (by kernel_rfl) rfl (by decide) (stepA (s':=[2]) (by kernel_rfl) rfl (by decide) (stopA (by kernel_rfl) rfl (by decide))))
theorem ax12:Ask 0 1 [e1,e2] 994 (true,990,0) :=
  ask_of [[e1],[e2]] (by decide) (by kernel_rfl) (stepA (s':=[1]) (by kernel_rfl) rfl (by decide) (stepA (s':=[2]) (by kernel_rfl) rfl (by decide) .nil))
theorem ax13:Ask 0 1 [e1,e3 1] 990 (true,986,0) :=
  ask_of [[e1],[e3 1]] (by decide) (by kernel_rfl) (stepA (s':=[1]) (by kernel_rfl) rfl (by decide) (stepA (s':=[1]) (by kernel_rfl) rfl (by decide) .nil))
theorem ax23:Ask 0 1 [e2,e3 1] 986 (false,983,0) :=
  ask_of [[e2],[e3 1]] (by decide) (by kernel_rfl) (stepA (s':=[2]) (by kernel_rfl) rfl (by decide) (stopA (by kernel_rfl) rfl (by decide)))
theorem ax2:Ask 0 1 [e2] 983 (true,981,0) :=
  ask_of [[e2]] (by decide) (by kernel_rfl) (stepA (s':=[2]) (by kernel_rfl) rfl (by decide) .nil)
theorem ax3:Ask 0 1 [e3 1] 981 (false,980,0) :=
  ask_of [[e3 1]] (by decide) (by kernel_rfl) (stopA (by kernel_rfl) rfl (by decide))
theorem ax0:Ask 0 1 [] 980 (true,980,0):=ask_of [] (by decide) (by kernel_rfl) .nil
theorem rise_self {l:List OpT} (h:l.Pairwise fun a b => a.ID < b.ID):Rise l l:=⟨List.Perm.refl _,h⟩
theorem aw_core:CoreR 0 1 [e1,e2,e3 1] 994 0 ([e3 1],6,0) :=
  .more (L:=[e1,e2,e3 1]) (l':=[e2,e3 1]) (m:=983) (n':=3) (rise_self (by decide)) (.keep (i:=3) ax12 (.keep (i:=2) ax13 (.out (i:=1) ax23 .nil))) (by decide)
    (.more (L:=[e2,e3 1]) (l':=[e3 1]) (m:=980) (n':=5) (rise_self (by decide)) (.keep (i:=3) ax2 (.out (i:=2) ax3 .nil)) (by decide)
      (.done (L:=[e3 1]) (l':=[e3 1]) (m:=980) (n':=6) (rise_self (by decide)) (.keep (i:=3) ax0 .nil) rfl))
theorem aw_obj:ObjR 0 1 [e1,e2,e3 1] 999 (some ([e3 1],6),0):=.core ax123 aw_core
theorem aw_m0:Ask 0 1 [e1,e2,e3 0] 994 (false,989,0) :=
  ask_of [[e1],[e2],[e3 0]] (by decide) (by kernel_rfl) (stepA (s':=[1]) (by kernel_rfl) rfl (by decide) (stepA (s':=[2]) (by kernel_rfl) rfl (by decide) (stopA (by kernel_rfl) rfl (by decide))))
theorem aw_m2:Ask 0 1 [e1,e2,e3 2] 989 (true,983,0) :=
  ask_of [[e1],[e2],[e3 2]] (by decide) (by kernel_rfl) (stepA (s':=[1]) (by kernel_rfl) rfl (by decide) (stepA (s':=[2]) (by kernel_rfl) rfl (by decide) (stepA (s':=[2]) (by kernel_rfl) rfl (by decide) .nil)))
theorem aw_vals:Vals [e1,e2,e3 1] [0,1,2]:=⟨by decide,fun x => by
  have e:rawV [e1,e2,e3 1] 0 = [1,0,2,0,0,0]:=rfl
  rw [e]
  simp only [List.mem_cons,List.not_mem_nil,or_false]
  omega⟩
theorem aw_mends:MendO 0 1 [e1,e2,e3 1] 999 ([(3,2)],0) :=
  .mend ax123 (rise_self (by decide)) aw_vals (show MendR 0 1 [e1,e2,e3 1] [(e1,0),(e2,0),(e3 1,0),(e3 1,1),(e3 1,2)] 994 [] ([(3,2)],0) from
    .same rfl (.same rfl (.no (by decide) aw_m0 (.same rfl (.yes (by decide) aw_m2 .nil)))))
theorem aw_pure:Cut.Pure [e1,e2,e3 1]:=by
  intro a ha b hb h
  simp only [List.mem_cons,List.not_mem_nil,or_false] at ha hb
  rcases ha with rfl | rfl | rfl <;> rcases hb with rfl | rfl | rfl <;> first | rfl | exact absurd h (by decide)
end Go.Proofs.YteiciplnfjnfjaaGreat

namespace Go.Proofs.YteiciplnfjnfjaaGreat
set_option linter.unusedSimpArgs false
set_option linter.unusedVariables false
set_option maxRecDepth 100000
open Go Go.Ann Go.RowKit
theorem pure_nodup {l:List OpT} (h:(l.map OpT.ID).Nodup):Cut.Pure l:=by
  induction l with
  | nil => exact fun a ha => by cases ha
  | cons x r ih =>
    rw [List.map_cons,List.nodup_cons] at h
    intro a ha b hb e
    rcases List.mem_cons.1 ha with e1 | ha1
    · rcases List.mem_cons.1 hb with e2 | hb1
      · rw [e1,e2]
      · exact absurd (by rw [← e1,e]; exact List.mem_map_of_mem hb1) h.1
    · rcases List.mem_cons.1 hb with e2 | hb1
      · exact absurd (by rw [← e2,← e]; exact List.mem_map_of_mem ha1) h.1
      · exact ih h.2 a ha1 b hb1 e
theorem pure_set {l:List OpT} (hp:Cut.Pure l) (o:OpT) (n:Int):Cut.Pure (wo l o.ID ++ [setR o n]):=by
  have hne:∀ x ∈ wo l o.ID,x.ID ≠ o.ID:=fun x hx => by
    have:=(List.mem_filter.1 hx).2
    simpa using this
  intro a ha b hb e
  rcases List.mem_append.1 ha with ha | ha
  · rcases List.mem_append.1 hb with hb | hb
    · exact Pure.wo hp _ a ha b hb e
    · rw [List.mem_singleton] at hb
      subst hb
      exact absurd e (hne a ha)
  · rw [List.mem_singleton] at ha
    subst ha
    rcases List.mem_append.1 hb with hb | hb
    · exact absurd e.symm (hne b hb)
    · rw [List.mem_singleton] at hb
      exact hb.symm
theorem MendR.one {ob kd left:Int} {l:List OpT} {r:List (OpT × Int)} {acc:List (Int × Int)} {x y:List (Int × Int) × Int} (hp:Cut.Pure l) (h:MendR ob kd l r left acc x) (k:MendR ob kd l r left acc y):x = y:=by
  induction h with
  | nil => cases k; rfl
  | same h _ ih =>
    cases k with
    | same _ k => exact ih k
    | no h' => exact absurd h h'
    | yes h' => exact absurd h h'
    | err h' => exact absurd h h'
  | no h ha _ ih =>
    cases k with
    | same h' => exact absurd h' h
    | no _ ha' k => cases ha.one (pure_set hp _ _) ha'; exact ih k
    | yes _ ha' => cases ha.one (pure_set hp _ _) ha'
    | err _ ha' he => cases ha.one (pure_set hp _ _) ha'; exact absurd rfl he
  | yes h ha _ ih =>
    cases k with
    | same h' => exact absurd h' h
    | no _ ha' => cases ha.one (pure_set hp _ _) ha'
    | yes _ ha' k => cases ha.one (pure_set hp _ _) ha'; exact ih k
    | err _ ha' he => cases ha.one (pure_set hp _ _) ha'; exact absurd rfl he
  | err h ha he =>
    cases k with
    | same h' => exact absurd h' h
    | no _ ha' => cases ha.one (pure_set hp _ _) ha'; exact absurd rfl he
    | yes _ ha' => cases ha.one (pure_set hp _ _) ha'; exact absurd rfl he
    | err _ ha' => cases ha.one (pure_set hp _ _) ha'; rfl
theorem MendO.one {ob kd bud:Int} {l:List OpT} {x y:List (Int × Int) × Int} (hp:Cut.Pure l) (h:MendO ob kd l bud x) (k:MendO ob kd l bud y):x = y:=by
  cases h with
  | err h he =>
    cases k with
    | err h' => cases h.one hp h'; rfl
    | ok h' => cases h.one hp h'; exact absurd rfl he
    | mend h' => cases h.one hp h'; exact absurd rfl he
  | ok h =>
    cases k with
    | err h' he' => cases h.one hp h'; exact absurd rfl he'
    | ok h' => rfl
    | mend h' => cases h.one hp h'
  | mend h hL hv k1 =>
    cases k with
    | err h' he' => cases h.one hp h'; exact absurd rfl he'
    | ok h' => cases h.one hp h'
    | mend h' hL' hv' k' => cases h.one hp h'; cases hL.one hL'; cases hv.one hv'; exact k1.one hp k'
end Go.Proofs.YteiciplnfjnfjaaGreat

namespace Go.Proofs.YteiciplnfjnfjaaGreat
set_option linter.unusedSimpArgs false
set_option linter.unusedVariables false
set_option maxRecDepth 100000
open Go Go.Ann Go.RowKit
theorem rfind_ok {w:World} {lv:Value} {l:List OpT} (id:Int) (h:RdS w 11 OpT.enc lv l) (hl:(l.length:Int) ≤ 9223372036854775806) :
    Ret Tryz.prog 34 [lv,.int .i64 id] w fun u w' => u = .int .i64 (Cut.firstI (fun o => decide (o.ID = id)) l) ∧ w' = w:=by
  obtain ⟨la,lc,rfl,_⟩:=h.form
  refine ent34 _ _ _ _ ?_
  simp (disch:=first|omega|exact okFill_t rfl|exact okSize_t rfl|exact fun h=>h|(simp only[World.size_alloc,World.size_drew,World.size_setCell,size_fill,bytesW];omega)) only [go_sem,c34,c34S0,c34S1,c34L0,c34S2]
  refine W_loopU (fun k:Nat => [(5,.int .i64 k)]) (fun k w' => w' = w ∧ k ≤ l.length ∧ ∀ j,(h:j < l.length) → j < k → ¬ l[j].ID = id) (fun k => l.length - k) 0 rfl ⟨rfl,Nat.zero_le _,fun j _ h => by omega⟩ ?_
  rintro k w2 ⟨e2,hk,hinv⟩
  subst w2
  by_cases hlt:k < l.length
  · have hlt':(k:Int) < l.length:=by omega
    obtain ⟨p,rfl⟩:=h.ptr (by omega)
    have eo:=h.eltB (Below.refl _ _) OpT.len (by decide) hlt
    have ao:=l[k].at
    simp (disch:=first|omega|exact okFill_t rfl|exact okSize_t rfl|exact fun h=>h|(simp only[World.size_alloc,World.size_drew,World.size_setCell,size_fill,bytesW];omega)) only [go_sem,c34,c34S0,c34S1,c34L0,c34S2,c34L0,hlt',eo,ao]
    refine ⟨by omega,fun he => ?_,fun he => ⟨⟨by omega,by omega⟩,k + 1,rfl,⟨by omega,fun j hj hjk => ?_⟩,by omega⟩⟩
    · exact (Cut.firstI_at hlt (by simpa using he) fun j hj hjk => by simpa using hinv j hj hjk).symm
    · rcases Nat.lt_or_ge j k with h' | h'
      · exact hinv j hj h'
      · obtain rfl:j = k:=by omega
        exact he
  · have hlt':¬ (k:Int) < l.length:=by omega
    simp (disch:=first|omega|exact okFill_t rfl|exact okSize_t rfl|exact fun h=>h|(simp only[World.size_alloc,World.size_drew,World.size_setCell,size_fill,bytesW];omega)) only [go_sem,c34,c34S0,c34S1,c34L0,c34S2,c34L0,hlt']
    exact (Cut.firstI_none fun j hj => by simpa using hinv j hj (by omega)).symm
theorem rapart_ok {w:World} {lv:Value} {l:List OpT} (h:RdS w 11 OpT.enc lv l) (hl:(l.length:Int) ≤ 9223372036854775806) :
    Ret Tryz.prog 20 [lv] w fun u w' => Tells u ((l.map OpT.ID).Nodup) ∧ Below w.heap.size w w':=by
  obtain ⟨la,lc,rfl,_⟩:=h.form
  refine ent20 _ _ _ ?_
  simp (disch:=first|omega|exact okFill_t rfl|exact okSize_t rfl|exact fun h=>h|(simp only[World.size_alloc,World.size_drew,World.size_setCell,size_fill,bytesW];omega)) only [go_sem,c20,c20S0,c20S1,c20S2,c20L0,c20S3]
  refine W_loopU (fun k:Nat => [(3,.int .i64 k)]) (fun k w' => Below w.heap.size w w' ∧ k ≤ l.length ∧ ((l.take k).map OpT.ID).Nodup) (fun k => l.length - k) 0 rfl ⟨Below.refl _ _,Nat.zero_le _,by simp⟩ ?_
  rintro k w2 ⟨b2,hk,hinv⟩
  by_cases hlt:k < l.length
  · have hlt':(k:Int) < l.length:=by omega
    obtain ⟨p,rfl⟩:=h.ptr (by omega)
    have h2:=h.below b2 (by decide)
    have eo:=h2.eltB (Below.refl _ _) OpT.len (by decide) hlt
    have ao:=l[k].at
    simp (disch:=first|omega|exact okFill_t rfl|exact okSize_t rfl|exact fun h=>h|(simp only[World.size_alloc,World.size_drew,World.size_setCell,size_fill,bytesW];omega)) only [go_sem,c20,c20S0,c20S1,c20S2,c20L0,c20S3,c20L0,hlt']
    refine c20draw0 ?_
    simp (disch:=first|omega|exact okFill_t rfl|exact okSize_t rfl|exact fun h=>h|(simp only[World.size_alloc,World.size_drew,World.size_setCell,size_fill,bytesW];omega)) only [go_sem,c20,c20S0,c20S1,c20S2,c20L0,c20S3,c20D0,hlt',eo,ao]
    have bd:Below w2.heap.size w2 w2.drew:=(Below.refl _ _).drew
    have hle:lc = lc:=rfl
    obtain ⟨_,_,ecap,hcap⟩:=h.form
    simp only [Value.slice.injEq,true_and] at ecap
    obtain ⟨_,rfl⟩:=ecap
    have hpre:RdS w2.drew 11 OpT.enc (.slice (offA (some p) lc 0 11) k lc) (l.take k):=by
      have h3:=Cut.rd_take (h2.below bd (by decide)) (show k ≤ l.length by omega)
      rw [Cut.take_flat] at h3
      have e:(l.take k).length = k:=by rw [List.length_take]; omega
      unfold RdS
      rw [e]
      exact h3
    refine ⟨⟨by omega,by omega⟩,by omega,Ret.mono (rfind_ok l[k].ID hpre (by rw [List.length_take]; omega)) ?_⟩
    rintro _ w3 ⟨rfl,e3⟩
    subst w3
    have any:=Cut.firstI_any (p:=fun o:OpT => decide (o.ID = l[k].ID)) (l:=l.take k)
    simp (disch:=first|omega|exact okFill_t rfl|exact okSize_t rfl|exact fun h=>h|(simp only[World.size_alloc,World.size_drew,World.size_setCell,size_fill,bytesW];omega)) only [go_sem,c20,c20S0,c20S1,c20S2,c20L0,c20S3,c20D0]
    refine ⟨fun _ => ⟨tells_f,b2.drew⟩,fun hlt0 => ⟨⟨by omega,by omega⟩,k + 1,rfl,⟨b2.drew,by omega,?_⟩,by omega⟩⟩
    rw [decide_eq_false (by omega)] at any
    rw [List.take_succ_eq_append_getElem hlt,List.map_append]
    refine List.nodup_append.2 ⟨hinv,by simp,fun a ha b hb e => ?_⟩
    simp only [List.map_cons,List.map_nil,List.mem_singleton] at hb
    subst hb e
    obtain ⟨o,ho,e⟩:=List.mem_map.1 ha
    have:=(List.any_eq_true (p:=fun o:OpT => decide (o.ID = l[k].ID))).2 ⟨o,ho,by simpa using e⟩
    rw [← any] at this
    cases this
  · have hlt':¬ (k:Int) < l.length:=by omega
    simp (disch:=first|omega|exact okFill_t rfl|exact okSize_t rfl|exact fun h=>h|(simp only[World.size_alloc,World.size_drew,World.size_setCell,size_fill,bytesW];omega)) only [go_sem,c20,c20S0,c20S1,c20S2,c20L0,c20S3,c20L0,hlt']
    rw [List.take_of_length_le (by omega)] at hinv
    exact ⟨tells_t hinv,b2⟩
theorem small_ok' {w:World} {ob kd most:Int} {v:Value} {l:List OpT} (h:RdS w 11 OpT.enc v l) (hl:(l.length:Int) ≤ 9223372036854775807) (hm:most ≤ 1000) :
    Ret Tryz.prog 7 [.agg #[.int .i64 ob,.int .i64 kd,v],.int .i64 most] w fun u w' => Tells u ((l.length:Int) ≤ most ∧ (∀ o ∈ l,o.Kind = kd) ∧ (l.map OpT.ID).Nodup) ∧ Below w.heap.size w w':=by
  obtain ⟨a,c,rfl,_⟩:=h.form
  refine ent7 _ _ _ _ ?_
  have s1:=(St.start (W0:=w)).box #[.int .i64 ob,.int .i64 kd,.slice a l.length c] 24
  have h1:=h.below s1.bel (by decide)
  by_cases hle:(l.length:Int) ≤ most
  · simp (disch:=first|omega|exact okFill_t rfl|exact okSize_t rfl|exact fun h=>h|(simp only[World.size_alloc,World.size_drew,World.size_setCell,size_fill,bytesW];omega)) only [go_sem,c7,c7S0,hle]
    generalize w.alloc (.cells #[.int .i64 ob,.int .i64 kd,.slice a l.length c] 24) = w1 at s1 h1 ⊢
    refine Ret.mono (alike_ok (ob:=ob) (kd:=kd) h1 (by omega)) ?_
    rintro _ w2 ⟨⟨b,rfl,hb⟩,b2⟩
    have s2:=s1.call b2
    have q2:=s2.rules 0 rfl
    cases b with
    | false =>
      simp (disch:=first|omega|exact okFill_t rfl|exact okSize_t rfl|exact fun h=>h|(simp only[World.size_alloc,World.size_drew,World.size_setCell,size_fill,bytesW];omega)) only [go_sem,c7,c7S0,q2]
      exact ⟨tells_f,s2.bel⟩
    | true =>
      simp (disch:=first|omega|exact okFill_t rfl|exact okSize_t rfl|exact fun h=>h|(simp only[World.size_alloc,World.size_drew,World.size_setCell,size_fill,bytesW];omega)) only [go_sem,c7,c7S0,q2]
      refine Ret.mono (rapart_ok (h1.below b2 (by decide)) (by omega)) ?_
      rintro _ w3 ⟨⟨b',rfl,hb'⟩,b3⟩
      have s3:=s2.call b3
      simp (disch:=first|omega|exact okFill_t rfl|exact okSize_t rfl|exact fun h=>h|(simp only[World.size_alloc,World.size_drew,World.size_setCell,size_fill,bytesW];omega)) only [go_sem,c7,c7S0]
      exact ⟨⟨b',rfl,fun h => ⟨hb rfl,hb' h⟩⟩,s3.bel⟩
  · simp (disch:=first|omega|exact okFill_t rfl|exact okSize_t rfl|exact fun h=>h|(simp only[World.size_alloc,World.size_drew,World.size_setCell,size_fill,bytesW];omega)) only [go_sem,c7,c7S0,hle]
    exact ⟨tells_f,s1.bel⟩
theorem shawake_ok (w:World):Ret Tryz.prog 8 [] w fun u w' => u = .bool true ∧ Below w.heap.size w w':=by
  refine ent8 _ _ ?_
  simp (disch:=first|omega|exact okFill_t rfl|exact okSize_t rfl|exact fun h=>h|(simp only[World.size_alloc,World.size_drew,World.size_setCell,size_fill,bytesW];omega)) only [go_sem,c8,c8S0,c8S1]
  refine bdW_built (cells:=e1.enc.toArray) (by kernel_rfl) ?_
  simp (disch:=first|omega|exact okFill_t rfl|exact okSize_t rfl|exact fun h=>h|(simp only[World.size_alloc,World.size_drew,World.size_setCell,size_fill,bytesW];omega)) only [go_sem,c8,c8S0,c8S1]
  refine bdW_built (cells:=e2.enc.toArray) (by kernel_rfl) ?_
  simp (disch:=first|omega|exact okFill_t rfl|exact okSize_t rfl|exact fun h=>h|(simp only[World.size_alloc,World.size_drew,World.size_setCell,size_fill,bytesW];omega)) only [go_sem,c8,c8S0,c8S1]
  refine bdW_built (cells:=(e3 1).enc.toArray) (by kernel_rfl) ?_
  simp (disch:=first|omega|exact okFill_t rfl|exact okSize_t rfl|exact fun h=>h|(simp only[World.size_alloc,World.size_drew,World.size_setCell,size_fill,bytesW];omega)) only [go_sem,c8,c8S0,c8S1]
  refine bsW_cells (cells:=([e1,e2,e3 1].flatMap OpT.enc).toArray) ty22mkI (by decide) (by decide) (by kernel_rfl) ?_
  have hr:RdS (w.alloc (.cells ([e1,e2,e3 1].flatMap OpT.enc).toArray 38)) 11 OpT.enc (.slice (some ⟨w.heap.size,0,none⟩) 3 3) [e1,e2,e3 1]:=rd_new (sz:=11) (n:=3) rfl
  have b1:Below w.heap.size w (w.alloc (.cells ([e1,e2,e3 1].flatMap OpT.enc).toArray 38)):=(Below.refl _ _).alloc (Nat.le_refl _) _
  have hK:∀ o ∈ [e1,e2,e3 1],o.Kind = 1:=by
    intro o ho
    simp only [List.mem_cons,List.not_mem_nil,or_false] at ho
    rcases ho with rfl | rfl | rfl <;> rfl
  have hw:∀ o ∈ [e1,e2,e3 1],o.wf:=by
    intro o ho
    simp only [List.mem_cons,List.not_mem_nil,or_false] at ho
    rcases ho with rfl | rfl | rfl <;> (refine ⟨?_,?_,?_,?_,?_,?_,?_,?_,?_,?_⟩ <;> exact kOk_small (by decide))
  have hn:([e1,e2,e3 1].map OpT.ID).Nodup:=by decide
  generalize w.alloc (.cells ([e1,e2,e3 1].flatMap OpT.enc).toArray 38) = w1 at hr b1 ⊢
  simp (disch:=first|omega|exact okFill_t rfl|exact okSize_t rfl|exact fun h=>h|(simp only[World.size_alloc,World.size_drew,World.size_setCell,size_fill,bytesW];omega)) only [go_sem,c8,c8S0]
  refine bdW_built (cells:=#[.int .i64 0,.int .i64 1,.slice (some ⟨w.heap.size,0,none⟩) 3 3]) (by kernel_rfl) ?_
  simp (disch:=first|omega|exact okFill_t rfl|exact okSize_t rfl|exact fun h=>h|(simp only[World.size_alloc,World.size_drew,World.size_setCell,size_fill,bytesW];omega)) only [go_sem,c8,c8S0]
  have s2:=(St.start (W0:=w1)).box #[.int .i64 0,.int .i64 1,.slice (some ⟨w.heap.size,0,none⟩) 3 3] 24
  have r2:=s2.rules 0 rfl
  have h2:=hr.below s2.bel (by decide)
  generalize w1.alloc (.cells #[.int .i64 0,.int .i64 1,.slice (some ⟨w.heap.size,0,none⟩) 3 3] 24) = w2 at s2 r2 h2 ⊢
  refine Ret.mono (object_ok (ob:=0) (kd:=1) h2 (by decide) hn hK hw ⟨by decide,by decide⟩) ?_
  rintro u w3 ⟨⟨r,hr3,hv⟩,b3⟩
  have e:=hr3.one aw_pure aw_obj
  subst e
  obtain ⟨vv,rfl,g3⟩:=hv
  have g3:=RdS.of_own g3
  obtain ⟨xa,xc,rfl,_⟩:=g3.form
  have s3:=s2.call b3
  have h3:=h2.below b3 (by decide)
  simp (disch:=first|omega|exact okFill_t rfl|exact okSize_t rfl|exact fun h=>h|(simp only[World.size_alloc,World.size_drew,World.size_setCell,size_fill,bytesW];omega)) only [go_sem,c8,c8S0]
  have s4:=s3.box #[.int .i64 0,.slice xa 1 xc,.int .i64 6] 28
  have b4:Below w3.heap.size w3 (w3.alloc (.cells #[.int .i64 0,.slice xa 1 xc,.int .i64 6] 28)):=(Below.refl _ _).alloc (Nat.le_refl _) _
  have g4:=g3.below b4 (by decide)
  have h4:=h3.below b4 (by decide)
  generalize w3.alloc (.cells #[.int .i64 0,.slice xa 1 xc,.int .i64 6] 28) = w4 at s4 b4 g4 h4 ⊢
  have r4:=s4.rules 1 rfl
  simp (disch:=first|omega|exact okFill_t rfl|exact okSize_t rfl|exact fun h=>h|(simp only[World.size_alloc,World.size_drew,World.size_setCell,size_fill,bytesW];omega)) only [go_sem,c8,c8S1,r4]
  refine Ret.mono (mends_ok (ob:=0) (kd:=1) h4 (by decide) hn hK hw ⟨by decide,by decide⟩) ?_
  rintro u w5 ⟨⟨r,hr5,hv⟩,b5⟩
  have e:=hr5.one aw_pure aw_mends
  subst e
  obtain ⟨vv,rfl,g5,_⟩:=hv
  obtain ⟨ya,yc,rfl,_⟩:=g5.form
  obtain ⟨yp,rfl⟩:=g5.ptr (show 0 < 1 by decide)
  have s5:=s4.call b5
  have f5:=g4.below b5 (by decide)
  obtain ⟨xp,rfl⟩:=f5.ptr (show 0 < 1 by decide)
  have r5:=s5.rules 0 rfl
  have k1:=f5.eltB (Below.refl _ _) OpT.len (by decide) (show 0 < [e3 1].length by decide)
  have k2:=g5.eltB (Below.refl _ _) pairE_len (by decide) (show 0 < [((3:Int),(2:Int))].length by decide)
  have a1:=(e3 1).at
  have z:∀ a:Addr,a.add 0 = a:=fun a => by unfold Addr.add; rw [if_pos rfl]
  rw [Nat.zero_mul,z] at k1 k2
  have k1':w5.cell? xp = some (.int .i64 3):=k1.1
  have k2':w5.cell? yp = some (.int .i64 3):=k2.1
  have k3':w5.cell? ⟨yp.block,yp.off + 1,none⟩ = some (.int .i64 2):=k2.2 1 (by decide) (by decide)
  have c2:=g5.at pairE_len (show 0 < [((3:Int),(2:Int))].length by decide)
  rw [Nat.zero_mul,z] at c2
  simp (disch:=first|omega|exact okFill_t rfl|exact okSize_t rfl|exact fun h=>h|(simp only[World.size_alloc,World.size_drew,World.size_setCell,size_fill,bytesW];omega)) only [go_sem,c8,c8S0,c8S1,r5,k1',c2]
  refine bdW_built (cells:=#[.int .i64 3,.int .i64 2]) (by kernel_rfl) ?_
  have ee:aggEq [FK.int,FK.int] (pairE (3,2)) [Value.int IntKind.i64 3,Value.int IntKind.i64 2] = some true:=by kernel_rfl
  simp (disch:=first|omega|exact okFill_t rfl|exact okSize_t rfl|exact fun h=>h|(simp only[World.size_alloc,World.size_drew,World.size_setCell,size_fill,bytesW];omega)) only [go_sem,c8,c8S0,c8S1,r5,k1',ee]
  exact Below.next b1 s5.bel
end Go.Proofs.YteiciplnfjnfjaaGreat

namespace Go.Proofs.YteiciplnfjnfjaaGreat
set_option linter.unusedSimpArgs false
set_option linter.unusedVariables false
set_option maxRecDepth 100000
open Go Go.Ann Go.RowKit
theorem ObjR.zero {ob kd bud:Int} {l:List OpT} {r:Option (List OpT × Int) × Int} (h:ObjR ob kd l bud r):r.1.isSome = true → r.2 = 0:=by
  cases h with
  | err => intro h; cases h
  | ok => intro h; cases h
  | fail => intro h; cases h
  | core _ k => exact fun _ => rfl
end Go.Proofs.YteiciplnfjnfjaaGreat

namespace Go.Proofs.YteiciplnfjnfjaaGreat
set_option linter.unusedSimpArgs false
set_option linter.unusedVariables false
set_option maxRecDepth 100000
open Go Go.Ann Go.RowKit
theorem lawExp_ok {w:World} {ob kd:Int} {b:Bool} {v:Value} {l:List OpT} (hr:RdS w 11 OpT.enc v l) (hl:l.length ≤ 10) (hK:∀ o ∈ l,o.Kind = kd) (hw:∀ o ∈ l,o.wf) (hp:Cut.Pure l) (ha:∃ m,Ask ob kd l 32768 (b,m,0)) :
    Ret Tryz.prog 12 [.agg #[.int .i64 ob,.int .i64 kd,v]] w fun u w' => u = .bool b ∧ Below w.heap.size w w':=by
  obtain ⟨a,c,rfl,_⟩:=hr.form
  refine ent12 _ _ _ ?_
  have s1:=(St.start (W0:=w)).box #[.int .i64 ob,.int .i64 kd,.slice a l.length c] 24
  have h1:=hr.below s1.bel (by decide)
  simp (disch:=first|omega|exact okFill_t rfl|exact okSize_t rfl|exact fun h=>h|(simp only[World.size_alloc,World.size_drew,World.size_setCell,size_fill,bytesW];omega)) only [go_sem,c12,c12S0]
  generalize w.alloc (.cells #[.int .i64 ob,.int .i64 kd,.slice a l.length c] 24) = w1 at s1 h1 ⊢
  refine Ret.mono (rask_ok (ob:=ob) h1 hl hK hw (by decide)) ?_
  rintro u w2 ⟨⟨r,hr2,rfl⟩,b2⟩
  obtain ⟨m,ha⟩:=ha
  have e:=hr2.one hp ha
  subst e
  unfold askV
  simp (disch:=first|omega|exact okFill_t rfl|exact okSize_t rfl|exact fun h=>h|(simp only[World.size_alloc,World.size_drew,World.size_setCell,size_fill,bytesW];omega)) only [go_sem,c12,c12S0]
  exact (s1.call b2).bel
theorem ObjR.err35 {ob kd bud:Int} {l:List OpT} {r:Option (List OpT × Int) × Int} (h:ObjR ob kd l bud r):r.2 = 0 ∨ r.2 = 35:=by
  cases h with
  | err h he => exact h.err.imp id fun h => h.1
  | ok => exact .inl rfl
  | fail _ k => exact k.err35
  | core _ k => exact .inl rfl
theorem find_pure {l:List OpT} {o:OpT} (hp:Cut.Pure l) (h:o ∈ l):l.find? (fun x => decide (x.ID = o.ID)) = some o:=by
  cases e:l.find? (fun x => decide (x.ID = o.ID)) with
  | none => exact absurd (List.find?_eq_none.1 e o h) (by simp)
  | some x =>
    have h1:=List.mem_of_find?_eq_some e
    have h2:=List.find?_some e
    rw [hp x h1 o h (by simpa using h2)]
end Go.Proofs.YteiciplnfjnfjaaGreat

namespace Go.Proofs.YteiciplnfjnfjaaGreat
set_option linter.unusedSimpArgs false
set_option linter.unusedVariables false
set_option maxRecDepth 100000
open Go Go.Ann Go.RowKit
theorem MendO.err35 {ob kd bud:Int} {l:List OpT} {r:List (Int × Int) × Int} (h:MendO ob kd l bud r):r.2 = 0 ∨ r.2 = 35 ∧ r.1 = []:=by
  cases h with
  | err h he => exact h.err.imp id fun h => ⟨h.1,rfl⟩
  | ok => exact .inl rfl
  | mend _ _ _ k => exact k.err35
theorem MendO.good {ob kd:Int} {l:List OpT} {r:List (Int × Int) × Int} (h:MendO ob kd l 32768 r) (hw:∀ o ∈ l,o.wf) (hl:l.length ≤ 10) (h0:r.2 = 0) :
    (∃ m,Ask ob kd l 32768 (true,m,0)) ∧ r.1 = [] ∨ (∃ m,Ask ob kd l 32768 (false,m,0)) ∧ ∀ p ∈ r.1,∃ o,o ∈ l ∧ o.Done = true ∧ o.ID = p.1 ∧ p.2 ≠ o.Result ∧ kOk .i64 p.2 ∧ ∃ m,Ask ob kd (wo l o.ID ++ [setR o p.2]) 32768 (true,m,0):=by
  have e:min (32768:Int) 32768 = 32768:=rfl
  cases h with
  | err h he => exact absurd h0 he
  | ok h => rw [e] at h; exact .inl ⟨⟨_,h⟩,rfl⟩
  | mend h hL hv k =>
    rename_i m L vs
    rw [e] at h
    refine .inr ⟨⟨_,h⟩,fun p hp => ?_⟩
    rcases k.heals h.low p hp with h1 | ⟨o,n,h1,rfl,h2,h3⟩
    · cases h1
    · obtain ⟨o',ho',h1⟩:=List.mem_flatMap.1 h1
      obtain ⟨n',hn',h1⟩:=List.mem_map.1 h1
      cases h1
      obtain ⟨ho1,ho2⟩:=List.mem_filter.1 ho'
      have hol:=hL.1.mem_iff.1 ho1
      have hLw:∀ o ∈ L,o.wf:=fun o ho => hw o (hL.1.mem_iff.1 ho)
      refine ⟨o,hol,ho2,rfl,h2,ans_ok (fun x hx => ?_) n hn',h3.full⟩
      rcases List.mem_cons.1 ((hv.mem x).1 hx) with rfl | hx
      · exact kOk_small (by decide)
      · exact raw_ok hLw (Int.le_refl _) (by have:=hL.1.length_eq; omega) x hx
theorem own_base {w:World} {B e sz n:Nat} {v:Value} {xs:List Value} (h:w.ownsRow B e sz v n xs):∀ k,v.ownBlock = some k → B ≤ k:=by
  obtain ⟨hl,⟨rfl,h0⟩ | ⟨g,cap,cur,rfl,hB,_⟩⟩:=h
  · intro k hk; cases hk
  · intro k hk; cases hk; exact hB
theorem heals_end {W8 w:World} {F:Nat → Prop} {L:List Res} {p1 p8 k:Nat} {ob kd:Int} {v v3:Value} {l:List OpT} {Q:Post}
    (s:St W8 w F (.row v 38 11 l.length (l.flatMap OpT.enc) :: .blk p8 #[.int .i64 ob,.int .i64 kd,v] 24 :: L) []) (hl:l.length ≤ 10) (hK:∀ x ∈ l,x.Kind = kd) (hw:∀ x ∈ l,x.wf) (hp:Cut.Pure l) (ha:∃ m,Ask ob kd l 32768 (true,m,0))
    (hQ:∀ w',Below W8.heap.size W8 w' → Q .normal [(1,.pointer (some ⟨p1,0,none⟩)),(3,v3),(5,.int .i64 k)] w') :
    W Tryz.prog (c5S7 ()) [(1,.pointer (some ⟨p1,0,none⟩)),(3,v3),(5,.int .i64 k),(8,.pointer (some ⟨p8,0,none⟩))] w Q:=by
  have hr:=RdS.of_own (s.row 0 rfl)
  have r8:=s.rules 1 rfl
  obtain ⟨a,c,rfl,_⟩:=own_slice (s.row 0 rfl)
  simp (disch:=first|omega|exact okFill_t rfl|exact okSize_t rfl|exact fun h=>h|(simp only[World.size_alloc,World.size_drew,World.size_setCell,size_fill,bytesW];omega)) only [go_sem,c5,c5S0,c5S1,c5S2,c5S3,c5S4,c5S5,c5S6,c5S7,c5S8,c5S9,c5S10,c5S11,c5L0,c5S12,c5S13,c5S14,c5S15,c5S16,c5S17,r8]
  refine Ret.mono (lawExp_ok hr hl hK hw hp ha) ?_
  rintro _ w2 ⟨rfl,b2⟩
  simp (disch:=first|omega|exact okFill_t rfl|exact okSize_t rfl|exact fun h=>h|(simp only[World.size_alloc,World.size_drew,World.size_setCell,size_fill,bytesW];omega)) only [go_sem,c5,c5S0,c5S1,c5S2,c5S3,c5S4,c5S5,c5S6,c5S7,c5S8,c5S9,c5S10,c5S11,c5L0,c5S12,c5S13,c5S14,c5S15,c5S16,c5S17]
  exact hQ _ (s.call b2).bel
theorem heals_tail {W8 wN:World} {F:Nat → Prop} {p1 g lc mc:Nat} {la:Option Addr} {mp:Addr} {k:Nat} {ob kd:Int} {l:List OpT} {r:List (Int × Int)} {o:OpT} {Q:Post} (hlt:k < r.length)
    (s:St W8 wN F [.blk g o.enc.toArray 38] []) (B1:Blk W8 p1 #[.int .i64 ob,.int .i64 kd,.slice la l.length lc] 24)
    (hr:RdS W8 11 OpT.enc (.slice la l.length lc) l) (hm:RdS W8 2 pairE (.slice (some mp) r.length mc) r) (hl:l.length ≤ 5) (hrl:r.length ≤ 1000000) (hK:∀ x ∈ l,x.Kind = kd) (hw:∀ x ∈ l,x.wf) (hp:Cut.Pure l) (ho:o ∈ l) (hd:o.Done = true) (hne:r[k].2 ≠ o.Result) (hok:kOk .i64 r[k].2)
    (ha:∃ m,Ask ob kd (wo l o.ID ++ [setR o r[k].2]) 32768 (true,m,0))
    (hQ:∀ w',Below W8.heap.size W8 w' → Q .normal [(1,.pointer (some ⟨p1,0,none⟩)),(3,.slice (some mp) r.length mc),(5,.int .i64 k)] w') :
    W Tryz.prog (c5S9 ()) [(1,.pointer (some ⟨p1,0,none⟩)),(3,.slice (some mp) r.length mc),(5,.int .i64 k),(6,.pointer (some ⟨g,0,none⟩)),(7,.bool true)] wN Q:=by
  have hlt':(k:Int) < r.length:=by omega
  have r6:=s.rules 0 rfl
  have hmN:=hm.below s.bel (by decide)
  have ek:=hmN.eltB (Below.refl _ _) pairE_len (by decide) hlt
  have a0:(pairE r[k])[0]? = some (.int .i64 r[k].1):=rfl
  have a1:(pairE r[k])[1]? = some (.int .i64 r[k].2):=rfl
  have ao:=o.at
  have hne':¬ o.Result = r[k].2:=fun h => hne h.symm
  simp (disch:=first|omega|exact okFill_t rfl|exact okSize_t rfl|exact fun h=>h|(simp only[World.size_alloc,World.size_drew,World.size_setCell,size_fill,bytesW];omega)) only [go_sem,c5,c5S0,c5S1,c5S2,c5S3,c5S4,c5S5,c5S6,c5S7,c5S8,c5S9,c5S10,c5S11,c5L0,c5S12,c5S13,c5S14,c5S15,c5S16,c5S17]
  refine c5draw1 ?_
  simp (disch:=first|omega|exact okFill_t rfl|exact okSize_t rfl|exact fun h=>h|(simp only[World.size_alloc,World.size_drew,World.size_setCell,size_fill,bytesW];omega)) only [go_sem,c5,c5S0,c5S1,c5S2,c5S3,c5S4,c5S5,c5S6,c5S7,c5S9,c5S10,c5S11,c5L0,c5S12,c5S13,c5S14,c5S15,c5S16,c5S17,c5D1,hlt',r6,ek,a0,a1,ao,hd,hne']
  refine ⟨by omega,?_⟩
  have s0:=s.drew
  generalize wN.drew = w0 at s0 ⊢
  have hm0:=hm.below s0.bel (by decide)
  have ek0:=hm0.eltB (Below.refl _ _) pairE_len (by decide) hlt
  have q6:=s0.rules 0 rfl
  simp (disch:=first|omega|exact okFill_t rfl|exact okSize_t rfl|exact fun h=>h|(simp only[World.size_alloc,World.size_drew,World.size_setCell,size_fill,bytesW];omega)) only [go_sem,c5,c5S0,c5S1,c5S2,c5S3,c5S4,c5S5,c5S6,c5S8,c5S9,c5S10,c5S11,c5L0,c5S12,c5S13,c5S14,c5S15,c5S16,c5S17,hlt',q6,ek0,a0,a1]
  refine ⟨by omega,?_⟩
  have s1:=s0.set 0 rfl 8 (.int .i64 r[k].2)
  have es:(o.enc.toArray).setIfInBounds 8 (.int .i64 r[k].2) = (setR o r[k].2).enc.toArray:=rfl
  simp only [List.set_cons_zero] at s1
  rw [es] at s1
  generalize w0.setCell ⟨g,8,none⟩ (.int .i64 r[k].2) = w1 at s1 ⊢
  refine ⟨⟨.int .i64 o.Result,rfl⟩,?_⟩
  have r1:=(B1.below s1.bel B1.lt).rules
  simp (disch:=first|omega|exact okFill_t rfl|exact okSize_t rfl|exact fun h=>h|(simp only[World.size_alloc,World.size_drew,World.size_setCell,size_fill,bytesW];omega)) only [go_sem,c5,c5S0,c5S1,c5S2,c5S3,c5S4,c5S5,c5S6,c5S8,c5S9,c5S10,c5S11,c5L0,c5S12,c5S13,c5S14,c5S15,c5S16,c5S17,r1]
  have s2:=s1.box #[.int .i64 ob,.int .i64 kd,.slice la l.length lc] 24
  obtain ⟨p8,hp8⟩:∃ x,x = w1.heap.size:=⟨_,rfl⟩
  rw [← hp8] at s2 ⊢
  generalize w1.alloc (.cells #[.int .i64 ob,.int .i64 kd,.slice la l.length lc] 24) = w2 at s2 ⊢
  have B2:=B1.below s2.bel B1.lt
  have r2:=B2.rules
  have l2:=B2.lt
  have g2:=s2.rules 1 rfl
  have lg:=(s2.low 1 rfl).2
  have l8:=(s2.low 0 rfl).2
  have hd2:w2.drew.heap.size = w2.heap.size:=rfl
  have hr2:=hr.below s2.drew.bel (by decide)
  have ae:=(setR o r[k].2).at
  have eid:(setR o r[k].2).ID = o.ID:=rfl
  have eone:=(setR o r[k].2).one
  have hwl:=wo_len_le l o.ID
  have n1:p1 ≠ p8:=by
    have:=B1.lt
    have:=s1.bel.size
    omega
  have n2:g ≠ p8:=by
    have:=(s1.low 0 rfl).2
    omega
  refine c5draw2 (Chg (fun i => i = p8) _) (Chg.refl _ _) ?_
  simp (disch:=first|omega|exact okFill_t rfl|exact okSize_t rfl|exact fun h=>h|(simp only[World.size_alloc,World.size_drew,World.size_setCell,size_fill,bytesW];omega)) only [go_sem,c5,c5S0,c5S1,c5S2,c5S3,c5S4,c5S5,c5S6,c5S8,c5S9,c5S10,c5S11,c5L0,c5S12,c5S13,c5S14,c5S15,c5S16,c5S17,c5D2,r2,g2,ae,eid]
  obtain ⟨e1,e2⟩:=len_flat_snoc (wo l o.ID) (setR o r[k].2)
  have hmx:∀ x ∈ wo l o.ID ++ [setR o r[k].2],x.Kind = kd ∧ x.wf:=fun x hx => by
    rcases List.mem_append.1 hx with hx | hx
    · have:=(List.mem_filter.1 hx).1
      exact ⟨hK x this,hw x this⟩
    · rw [List.mem_singleton] at hx
      subst hx
      exact ⟨hK o ho,setR_wf (hw o ho) hok⟩
  refine ⟨Ret.mono (without_ref o.ID hr2 (by omega)) ?_,?_⟩
  · rintro u w3 ⟨own,b3⟩
    have s3:=newRow s2.drew b3 own
    have cb:=Chg.of_below (S:=fun i => i = p8) b3
    simp (disch:=first|omega|exact okFill_t rfl|exact okSize_t rfl|exact fun h=>h|(simp only[World.size_alloc,World.size_drew,World.size_setCell,size_fill,bytesW];omega)) only [go_sem,c5,c5S0,c5S1,c5S2,c5S3,c5S4,c5S5,c5S6,c5S8,c5S9,c5S10,c5S11,c5L0,c5S12,c5S13,c5S14,c5S15,c5S16,c5S17,c5D2]
    refine ⟨cb,bsW_agg ty22mkI rfl (by decide) (by decide) ?_⟩
    have hrd:Rd (w3.alloc (.cells (setR o r[k].2).enc.toArray 38)) 11 (.slice (some ⟨w3.heap.size,0,none⟩) 1 1) 1 (setR o r[k].2).enc:=rd_new (t:=38) (sz:=11) (n:=1) (cs:=(setR o r[k].2).enc.toArray) rfl
    have s4:=s3.alloc' (.cells (setR o r[k].2).enc.toArray 38)
    have ca:=cb.alloc (.cells (setR o r[k].2).enc.toArray 38)
    generalize w3.alloc (.cells (setR o r[k].2).enc.toArray 38) = w4 at s4 hrd ca ⊢
    simp (disch:=first|omega|exact okFill_t rfl|exact okSize_t rfl|exact fun h=>h|(simp only[World.size_alloc,World.size_drew,World.size_setCell,size_fill,bytesW];omega)) only [go_sem,c5,c5S0,c5S1,c5S2,c5S3,c5S4,c5S5,c5S6,c5S8,c5S9,c5S10,c5S11,c5L0,c5S12,c5S13,c5S14,c5S15,c5S16,c5S17,c5D2]
    refine ⟨ca,s4.append 0 rfl ty22mkI rfl (by decide) hrd (setR o r[k].2).one (by omega) (by omega) ?_⟩
    intro v5 w5 s5 c5
    simp only [List.set_cons_zero] at s5
    rw [← e1,← e2] at s5
    have c25:=ca.next c5 fun i hi h => by have:=own_base own i h; omega
    obtain ⟨xa,xc,rfl,_⟩:=own_slice (s5.row 0 rfl)
    have q5:=s5.rules 1 rfl
    simp (disch:=first|omega|exact okFill_t rfl|exact okSize_t rfl|exact fun h=>h|(simp only[World.size_alloc,World.size_drew,World.size_setCell,size_fill,bytesW];omega)) only [go_sem,c5,c5S0,c5S1,c5S2,c5S3,c5S4,c5S5,c5S6,c5S8,c5S9,c5S10,c5S11,c5L0,c5S12,c5S13,c5S14,c5S15,c5S16,c5S17,c5D2,q5]
    have s6:=s5.set 1 rfl 2 (.slice xa (wo l o.ID ++ [setR o r[k].2]).length xc)
    refine ⟨c25,c25.setCell _ _ fun _ => rfl,?_⟩
    refine heals_end s6 (by rw [e1]; omega) (fun x hx => (hmx x hx).1) (fun x hx => (hmx x hx).2) (pure_set hp o _) ha hQ
  · refine bsW_agg ty22mkI rfl (by decide) (by decide) ?_
    have hrd:Rd (w2.drew.alloc (.cells (setR o r[k].2).enc.toArray 38)) 11 (.slice (some ⟨w2.drew.heap.size,0,none⟩) 1 1) 1 (setR o r[k].2).enc:=rd_new (t:=38) (sz:=11) (n:=1) (cs:=(setR o r[k].2).enc.toArray) rfl
    have s4:=s2.drew.alloc' (.cells (setR o r[k].2).enc.toArray 38)
    have ca:Chg (fun i => i = p8) w2.drew (w2.drew.alloc (.cells (setR o r[k].2).enc.toArray 38)):=(Chg.refl _ _).alloc _
    have hr4:=hr.below s4.bel (by decide)
    generalize w2.drew.alloc (.cells (setR o r[k].2).enc.toArray 38) = w4 at s4 hrd ca hr4 ⊢
    simp (disch:=first|omega|exact okFill_t rfl|exact okSize_t rfl|exact fun h=>h|(simp only[World.size_alloc,World.size_drew,World.size_setCell,size_fill,bytesW];omega)) only [go_sem,c5,c5S0,c5S1,c5S2,c5S3,c5S4,c5S5,c5S6,c5S8,c5S9,c5S10,c5S11,c5L0,c5S12,c5S13,c5S14,c5S15,c5S16,c5S17,c5D2]
    refine ⟨ca,Ret.mono (without_ref o.ID hr4 (by omega)) ?_⟩
    rintro u w3 ⟨own,b3⟩
    have s3:=newRow s4 b3 own
    have hrd3:=hrd.below b3 (by decide)
    have cb:=ca.trans (Chg.of_below b3)
    simp (disch:=first|omega|exact okFill_t rfl|exact okSize_t rfl|exact fun h=>h|(simp only[World.size_alloc,World.size_drew,World.size_setCell,size_fill,bytesW];omega)) only [go_sem,c5,c5S0,c5S1,c5S2,c5S3,c5S4,c5S5,c5S6,c5S8,c5S9,c5S10,c5S11,c5L0,c5S12,c5S13,c5S14,c5S15,c5S16,c5S17,c5D2]
    refine ⟨cb,s3.append 0 rfl ty22mkI rfl (by decide) hrd3 (setR o r[k].2).one (by omega) (by omega) ?_⟩
    intro v5 w5 s5 c5
    simp only [List.set_cons_zero] at s5
    rw [← e1,← e2] at s5
    have hs4:=ca.size
    have c25:=cb.next c5 fun i hi h => by have:=own_base own i h; omega
    obtain ⟨xa,xc,rfl,_⟩:=own_slice (s5.row 0 rfl)
    have q5:=s5.rules 1 rfl
    simp (disch:=first|omega|exact okFill_t rfl|exact okSize_t rfl|exact fun h=>h|(simp only[World.size_alloc,World.size_drew,World.size_setCell,size_fill,bytesW];omega)) only [go_sem,c5,c5S0,c5S1,c5S2,c5S3,c5S4,c5S5,c5S6,c5S8,c5S9,c5S10,c5S11,c5L0,c5S12,c5S13,c5S14,c5S15,c5S16,c5S17,c5D2,q5]
    have s6:=s5.set 1 rfl 2 (.slice xa (wo l o.ID ++ [setR o r[k].2]).length xc)
    refine ⟨c25,c25.setCell _ _ fun _ => rfl,?_⟩
    refine heals_end s6 (by rw [e1]; omega) (fun x hx => (hmx x hx).1) (fun x hx => (hmx x hx).2) (pure_set hp o _) ha hQ
theorem shrinkHeals_ok {w:World} {ob kd:Int} {v:Value} {l:List OpT} (h:RdS w 11 OpT.enc v l) (hl:(l.length:Int) ≤ 9223372036854775807) (hw:∀ o ∈ l,o.wf) :
    Ret Tryz.prog 5 [.agg #[.int .i64 ob,.int .i64 kd,v]] w fun u w' => u = .bool true ∧ Below w.heap.size w w':=by
  obtain ⟨a,c,rfl,_⟩:=h.form
  refine ent5 _ _ _ ?_
  have s1:=(St.start (W0:=w)).box #[.int .i64 ob,.int .i64 kd,.slice a l.length c] 24
  have h1:=h.below s1.bel (by decide)
  simp (disch:=first|omega|exact okFill_t rfl|exact okSize_t rfl|exact fun h=>h|(simp only[World.size_alloc,World.size_drew,World.size_setCell,size_fill,bytesW];omega)) only [go_sem,c5,c5S0,c5S1,c5S2,c5S3,c5S4,c5S5,c5S6,c5S7,c5S8,c5S9,c5S10,c5S11,c5L0,c5S12,c5S13,c5S14,c5S15,c5S16]
  generalize w.alloc (.cells #[.int .i64 ob,.int .i64 kd,.slice a l.length c] 24) = w1 at s1 h1 ⊢
  refine Ret.mono (small_ok' h1 hl (by decide)) ?_
  rintro _ w2 ⟨⟨b,rfl,hb'⟩,b2⟩
  have s2:=s1.call b2
  cases b with
  | false =>
    simp (disch:=first|omega|exact okFill_t rfl|exact okSize_t rfl|exact fun h=>h|(simp only[World.size_alloc,World.size_drew,World.size_setCell,size_fill,bytesW];omega)) only [go_sem,c5,c5S0,c5S1,c5S2,c5S3,c5S4,c5S5,c5S6,c5S7,c5S8,c5S9,c5S10,c5S11,c5L0,c5S12,c5S13,c5S14,c5S15,c5S16,c5S17]
    refine Ret.mono (shawake_ok _) ?_
    rintro _ w3 ⟨rfl,b3⟩
    simp (disch:=first|omega|exact okFill_t rfl|exact okSize_t rfl|exact fun h=>h|(simp only[World.size_alloc,World.size_drew,World.size_setCell,size_fill,bytesW];omega)) only [go_sem,c5,c5S0,c5S1,c5S2,c5S3,c5S4,c5S5,c5S6,c5S7,c5S8,c5S9,c5S10,c5S11,c5L0,c5S12,c5S13,c5S14,c5S15,c5S16,c5S17]
    exact (s2.call b3).bel
  | true =>
    obtain ⟨hle,hK,hn⟩:=hb' rfl
    have hp:=pure_nodup hn
    have h2:=h1.below b2 (by decide)
    have r2:=s2.rules 0 rfl
    simp (disch:=first|omega|exact okFill_t rfl|exact okSize_t rfl|exact fun h=>h|(simp only[World.size_alloc,World.size_drew,World.size_setCell,size_fill,bytesW];omega)) only [go_sem,c5,c5S0,c5S1,c5S2,c5S3,c5S4,c5S5,c5S6,c5S7,c5S8,c5S9,c5S10,c5S11,c5L0,c5S12,c5S13,c5S14,c5S15,c5S17,r2]
    refine Ret.mono (mends_ok h2 (by omega) hn hK hw ⟨by decide,by decide⟩) ?_
    rintro u w3 ⟨⟨⟨ms,e⟩,hr,vv,rfl,g3,hml⟩,b3⟩
    have s3:=s2.call b3
    have h3:=h2.below b3 (by decide)
    obtain ⟨xa,xc,rfl,_⟩:=g3.form
    simp only at g3
    simp (disch:=first|omega|exact okFill_t rfl|exact okSize_t rfl|exact fun h=>h|(simp only[World.size_alloc,World.size_drew,World.size_setCell,size_fill,bytesW];omega)) only [go_sem,c5,c5S0,c5S1,c5S2,c5S3,c5S4,c5S5,c5S6,c5S7,c5S8,c5S9,c5S10,c5S11,c5L0,c5S12,c5S13,c5S14,c5S15,c5S17]
    by_cases he:e = 0
    · subst he
      have r3:=s3.rules 0 rfl
      rcases hr.good hw (by omega) rfl with ⟨ha,hn0⟩ | ⟨ha,hall⟩
      · simp only at hn0
        subst hn0
        simp (disch:=first|omega|exact okFill_t rfl|exact okSize_t rfl|exact fun h=>h|(simp only[World.size_alloc,World.size_drew,World.size_setCell,size_fill,bytesW];omega)) only [go_sem,c5,c5S0,c5S1,c5S2,c5S3,c5S5,c5S6,c5S7,c5S8,c5S9,c5S10,c5S11,c5L0,c5S12,c5S13,c5S14,c5S15,c5S16,c5S17,r3]
        refine Ret.mono (lawExp_ok h3 (by omega) hK hw hp ha) ?_
        rintro _ w4 ⟨rfl,b4⟩
        have s4:=s3.call b4
        simp (disch:=first|omega|exact okFill_t rfl|exact okSize_t rfl|exact fun h=>h|(simp only[World.size_alloc,World.size_drew,World.size_setCell,size_fill,bytesW];omega)) only [go_sem,c5,c5S0,c5S1,c5S2,c5S3,c5S4,c5S5,c5S6,c5S7,c5S8,c5S9,c5S10,c5S11,c5L0,c5S12,c5S13,c5S14,c5S15,c5S16,c5S17]
        refine Ret.mono (shawake_ok _) ?_
        rintro _ w6 ⟨rfl,b6⟩
        simp (disch:=first|omega|exact okFill_t rfl|exact okSize_t rfl|exact fun h=>h|(simp only[World.size_alloc,World.size_drew,World.size_setCell,size_fill,bytesW];omega)) only [go_sem,c5,c5S0,c5S1,c5S2,c5S3,c5S4,c5S5,c5S6,c5S7,c5S8,c5S9,c5S10,c5S11,c5L0,c5S12,c5S13,c5S14,c5S15,c5S16,c5S17]
        exact (s4.call b6).bel
      · simp only at hall
        simp (disch:=first|omega|exact okFill_t rfl|exact okSize_t rfl|exact fun h=>h|(simp only[World.size_alloc,World.size_drew,World.size_setCell,size_fill,bytesW];omega)) only [go_sem,c5,c5S0,c5S1,c5S2,c5S3,c5S4,c5S5,c5S6,c5S7,c5S8,c5S9,c5S10,c5S11,c5L0,c5S12,c5S13,c5S15,c5S16,c5S17,r3]
        refine Ret.mono (lawExp_ok h3 (by omega) hK hw hp ha) ?_
        rintro _ w4 ⟨rfl,b4⟩
        have s4:=s3.call b4
        have h4:=h3.below b4 (by decide)
        have g4:=g3.below b4 (by decide)
        simp (disch:=first|omega|exact okFill_t rfl|exact okSize_t rfl|exact fun h=>h|(simp only[World.size_alloc,World.size_drew,World.size_setCell,size_fill,bytesW];omega)) only [go_sem,c5,c5S0,c5S1,c5S2,c5S3,c5S4,c5S5,c5S6,c5S7,c5S8,c5S9,c5S10,c5S11,c5L0,c5S12,c5S14,c5S15,c5S16,c5S17]
        simp only at hml
        refine W_loopU (fun k:Nat => [(5,.int .i64 k)]) (fun k w' => Below w4.heap.size w4 w' ∧ k ≤ ms.length) (fun k => ms.length - k) 0 rfl ⟨Below.refl _ _,Nat.zero_le _⟩ ?_
        rintro k w8 ⟨b8,hk⟩
        have s8:=s4.call b8
        have p8:=s8.rules 0 rfl
        have g8:=g4.below b8 (by decide)
        have h8:=h4.below b8 (by decide)
        have B8:=s8.blk 0 rfl
        clear s1 s2 s3 s4 h1 h2 h3 h4 g3 b2 b3 b4
        by_cases hlt:k < ms.length
        · have hlt':(k:Int) < ms.length:=by omega
          obtain ⟨xp,rfl⟩:=g8.ptr (by omega)
          have ek:=g8.eltB (Below.refl _ _) pairE_len (by decide) hlt
          have a0:(pairE ms[k])[0]? = some (.int .i64 ms[k].1):=rfl
          have lp:=s8.low 0 rfl
          have hd8:w8.drew.heap.size = w8.heap.size:=rfl
          have hp8:=g8.blt pairE_len (by decide) (by omega)
          obtain ⟨o,hol,hod,hid,hne,hok,hask⟩:=hall _ (List.getElem_mem hlt)
          simp (disch:=first|omega|exact okFill_t rfl|exact okSize_t rfl|exact fun h=>h|(simp only[World.size_alloc,World.size_drew,World.size_setCell,size_fill,bytesW];omega)) only [go_sem,c5,c5S0,c5S1,c5S2,c5S3,c5S4,c5S5,c5S6,c5S7,c5S8,c5S9,c5S10,c5S11,c5L0,c5S12,c5S13,c5S14,c5S15,c5S16,c5S17,c5L0,hlt']
          refine c5draw0 (Chg (fun _ => False) _) (Chg.refl _ _) ?_
          simp (disch:=first|omega|exact okFill_t rfl|exact okSize_t rfl|exact fun h=>h|(simp only[World.size_alloc,World.size_drew,World.size_setCell,size_fill,bytesW];omega)) only [go_sem,c5,c5S0,c5S1,c5S2,c5S3,c5S4,c5S5,c5S6,c5S7,c5S8,c5S9,c5S10,c5S11,c5L0,c5S12,c5S13,c5S14,c5S15,c5S16,c5S17,c5D0,hlt',p8,ek,a0]
          rw [← hid]
          have hfind:=find_pure hp hol
          have bd:Below w8.heap.size w8 w8.drew:=(Below.refl _ _).drew
          have one:∀ {u:Value},((∃ o',l.find? (fun x => decide (x.ID = o.ID)) = some o' ∧ u = .tuple #[.agg o'.enc.toArray,.bool true]) ∨ (l.find? (fun x => decide (x.ID = o.ID)) = none ∧ ∃ o:OpT,u = .tuple #[.agg o.enc.toArray,.bool false])) → u = .tuple #[.agg o.enc.toArray,.bool true]:=by
            rintro u (⟨o',h1,h2⟩ | ⟨h1,_⟩)
            · rw [hfind] at h1
              cases h1
              exact h2
            · rw [hfind] at h1
              cases h1
          have ta:=((St.start (W0:=w8)).box #[.int .i64 0,.int .i64 0,.int .i64 0,.int .i64 0,.int .i64 0,.int .i64 0,.int .i64 0,.bool false,.int .i64 0,.int .i64 0,.int .i64 0] 38).drew
          have ca:Chg (fun _ => False) w8.drew (w8.alloc (.cells #[.int .i64 0,.int .i64 0,.int .i64 0,.int .i64 0,.int .i64 0,.int .i64 0,.int .i64 0,.bool false,.int .i64 0,.int .i64 0,.int .i64 0] 38)).drew:=(Chg.refl (fun _ => False) w8.drew).alloc (.cells #[.int .i64 0,.int .i64 0,.int .i64 0,.int .i64 0,.int .i64 0,.int .i64 0,.int .i64 0,.bool false,.int .i64 0,.int .i64 0,.int .i64 0] 38)
          refine ⟨by omega,Ret.mono (get_ok _ l o.ID w8.drew (h8.below bd (by decide)) (by omega)) ?_,ca,Ret.mono (get_ok _ l o.ID _ (h8.below ta.bel (by decide)) (by omega)) ?_⟩
          · rintro u w9 ⟨hu,b9⟩
            obtain rfl:=one hu
            have t9:=((St.start (W0:=w8)).drew.call b9).box o.enc.toArray 38
            simp (disch:=first|omega|exact okFill_t rfl|exact okSize_t rfl|exact fun h=>h|(simp only[World.size_alloc,World.size_drew,World.size_setCell,size_fill,bytesW];omega)) only [go_sem,c5,c5S0,c5S1,c5S2,c5S3,c5S4,c5S5,c5S6,c5S7,c5S8,c5S10,c5S11,c5L0,c5S12,c5S13,c5S14,c5S15,c5S16,c5S17,c5D0]
            refine ⟨Chg.of_below b9,(Chg.of_below b9).alloc _,(OpT.len _).symm,(Chg.of_below b9).alloc _,?_⟩
            refine heals_tail hlt t9 B8 h8 g8 (by omega) (by omega) hK hw hp hol hod hne hok hask fun w' b' => ?_
            simp (disch:=first|omega|exact okFill_t rfl|exact okSize_t rfl|exact fun h=>h|(simp only[World.size_alloc,World.size_drew,World.size_setCell,size_fill,bytesW];omega)) only [go_sem,c5,c5S0,c5S1,c5S2,c5S3,c5S4,c5S5,c5S6,c5S7,c5S8,c5S9,c5S10,c5S11,c5L0,c5S12,c5S13,c5S14,c5S15,c5S16,c5S17]
            exact ⟨⟨by omega,by omega⟩,k + 1,rfl,⟨Below.next b8 b',by omega⟩,by omega⟩
          · rintro u w9 ⟨hu,b9⟩
            obtain rfl:=one hu
            have t9:=ta.call b9
            have y9:=t9.fill 0 rfl (cs:=o.enc.toArray) rfl
            simp (disch:=first|omega|exact okFill_t rfl|exact okSize_t rfl|exact fun h=>h|(simp only[World.size_alloc,World.size_drew,World.size_setCell,size_fill,bytesW];omega)) only [go_sem,c5,c5S0,c5S1,c5S2,c5S3,c5S4,c5S5,c5S6,c5S7,c5S8,c5S10,c5S11,c5L0,c5S12,c5S13,c5S14,c5S15,c5S16,c5S17,c5D0]
            refine ⟨ca.trans (Chg.of_below b9),(OpT.len _).symm,blk_okSt (t9.blk 0 rfl) o.one (Nat.le_refl _),?_,?_⟩
            · exact (ca.trans (Chg.of_below b9)).fill fun h => by omega
            refine heals_tail hlt y9 B8 h8 g8 (by omega) (by omega) hK hw hp hol hod hne hok hask fun w' b' => ?_
            simp (disch:=first|omega|exact okFill_t rfl|exact okSize_t rfl|exact fun h=>h|(simp only[World.size_alloc,World.size_drew,World.size_setCell,size_fill,bytesW];omega)) only [go_sem,c5,c5S0,c5S1,c5S2,c5S3,c5S4,c5S5,c5S6,c5S7,c5S8,c5S9,c5S10,c5S11,c5L0,c5S12,c5S13,c5S14,c5S15,c5S16,c5S17]
            exact ⟨⟨by omega,by omega⟩,k + 1,rfl,⟨Below.next b8 b',by omega⟩,by omega⟩
        · have hlt':¬ (k:Int) < ms.length:=by omega
          simp (disch:=first|omega|exact okFill_t rfl|exact okSize_t rfl|exact fun h=>h|(simp only[World.size_alloc,World.size_drew,World.size_setCell,size_fill,bytesW];omega)) only [go_sem,c5,c5S0,c5S1,c5S2,c5S3,c5S4,c5S5,c5S6,c5S7,c5S8,c5S9,c5S10,c5S11,c5L0,c5S12,c5S13,c5S14,c5S15,c5S16,c5S17,c5L0,hlt']
          refine Ret.mono (shawake_ok _) ?_
          rintro _ w9 ⟨rfl,b9⟩
          simp (disch:=first|omega|exact okFill_t rfl|exact okSize_t rfl|exact fun h=>h|(simp only[World.size_alloc,World.size_drew,World.size_setCell,size_fill,bytesW];omega)) only [go_sem,c5,c5S0,c5S1,c5S2,c5S3,c5S4,c5S5,c5S6,c5S7,c5S8,c5S9,c5S10,c5S11,c5L0,c5S12,c5S13,c5S14,c5S15,c5S16,c5S17]
          exact (s8.call b9).bel
    · obtain ⟨e35,hn0⟩:=hr.err35.resolve_left he
      simp only at e35 hn0
      subst e35 hn0
      simp (disch:=first|omega|exact okFill_t rfl|exact okSize_t rfl|exact fun h=>h|(simp only[World.size_alloc,World.size_drew,World.size_setCell,size_fill,bytesW];omega)) only [go_sem,c5,c5S0,c5S1,c5S2,c5S3,c5S4,c5S5,c5S6,c5S7,c5S8,c5S9,c5S10,c5S11,c5L0,c5S12,c5S13,c5S14,c5S15,c5S16,c5S17]
      refine Ret.mono (shawake_ok _) ?_
      rintro _ w6 ⟨rfl,b6⟩
      simp (disch:=first|omega|exact okFill_t rfl|exact okSize_t rfl|exact fun h=>h|(simp only[World.size_alloc,World.size_drew,World.size_setCell,size_fill,bytesW];omega)) only [go_sem,c5,c5S0,c5S1,c5S2,c5S3,c5S4,c5S5,c5S6,c5S7,c5S8,c5S9,c5S10,c5S11,c5L0,c5S12,c5S13,c5S14,c5S15,c5S16,c5S17]
      exact (s3.call b6).bel
set_option maxRecDepth 100000 in
theorem shrinkHeals_law {H:Type} {enc:TypeId × Value → H} {w:World} {r:Reach} {b base:Nat} {sp:Nat → Bool} {hd:Bool} {v:Value} {d:DataW H} {p:List MemPlace}
    (h:Value.okWide Tryz.prog w r b 24 v) (k:DataW.Trod enc Tryz.prog w base sp hd 24 v d p) :
    Ret Tryz.prog 5 [v] w fun u w' => u = .bool true ∧ Below w.heap.size w w':=by
  obtain ⟨a,cs,rfl,lv,rfl,q1,q2,q3⟩:=Opens.struct_arg opens_Seg Tryz.underlying24 h k
  exact shrinkHeals_ok q1 q3 q2
end Go.Proofs.YteiciplnfjnfjaaGreat
