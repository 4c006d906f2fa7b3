/- Texts put together by program. -/
import Derived.Test.YteiciplnfjnfjaaGreatQD6
set_option linter.unusedSimpArgs false
set_option linter.unusedVariables false
set_option maxRecDepth 100000
noncomputable section

namespace Go.Proofs.YteiciplnfjnfjaaGreat.Cut
open Go Go.Ann Go.RowKit
theorem object1_ok(a b:OpT)(w:World):Ret Tryz.prog 54 [.agg a.enc.toArray,.agg b.enc.toArray] w fun u w'=>u=.int .i64 (objI a b)∧Gr w w':=by
 refine ent54 _ _ _ _ ?_
 have ha:=a.at; have hb:=b.at
 simp (disch:=first|omega|exact zF rfl|exact zG rfl|exact id|(simp only[zA,zB,zC,zD,bytesW];omega)) only[go_sem,ha,hb]
 refine c54draw0 (Chg (fun _=>False) _) (Chg.refl _ _) ?_
 simp (disch:=first|omega|exact zF rfl|exact zG rfl|exact id|(simp only[zA,zB,zC,zD,bytesW];omega)) only[go_sem,c54D0,ha,hb]
 refine Ret.mono (compare_ok _ _ _) ?_
 rintro _ _ ⟨rfl,rfl⟩
 simp (disch:=first|omega|exact zF rfl|exact zG rfl|exact id|(simp only[zA,zB,zC,zD,bytesW];omega)) only[go_sem,c54D0,ha,hb]
 refine Ret.mono (earlier_ok _ _ _) ?_
 rintro _ w2 ⟨rfl,hg⟩
 simp (disch:=first|omega|exact zF rfl|exact zG rfl|exact id|(simp only[zA,zB,zC,zD,bytesW];omega)) only[go_sem,c54D0,ha,hb]
 refine ⟨Chg.of_below hg.below,bsW_ones ty66mkI rfl rfl (by decide) (by decide) (by intro v hv; simp only [List.mem_cons,List.not_mem_nil,or_false] at hv; rcases hv with rfl | rfl <;> rfl) ?_⟩
 simp (disch:=first|omega|exact zF rfl|exact zG rfl|exact id|(simp only[zA,zB,zC,zD,bytesW];omega)) only[go_sem,c54D0,ha,hb]
 refine ⟨(Chg.of_below hg.below).alloc _,Ret.mono (or_ok _ [cmpI a.Object b.Object,earI a b] _ (ints2_new _ _ (by simp)) (by simp)) ?_⟩
 rintro _ _ ⟨rfl,rfl⟩
 simp (disch:=first|omega|exact zF rfl|exact zG rfl|exact id|(simp only[zA,zB,zC,zD,bytesW];omega)) only[go_sem,c54D0,ha,hb]
 exact ⟨(Chg.of_below hg.below).alloc _,rfl,((((Gr.refl w).alloc _).alloc _).drew.trans hg).alloc _⟩
theorem swo_obj:Go.Sort.SWO (ltOf objI) where
 irrefl x:=by rw [lt_obj]; exact decide_eq_false (by omega)
 trans x y z h1 h2:=by rw [lt_obj,decide_eq_true_eq] at *; omega
 ntrans x y z h1 h2:=by rw [lt_obj,decide_eq_false_iff_not] at *; omega
theorem push18{W0 w:World}{more:List Res}{I0:List Inv}{vo:Value}{ini:List Seg}{s:Seg}{Q:Post}(o:OpT)(b:Nat)(v11 v12 v13:Value)(h:Cuts W0 w (.blk b o.enc.toArray 38::more) I0 vo (ini++[s]))(hn:ini.length≤100)(hs:s.ops.length≤100)
  (hQ:∀ w',Cuts W0 w' more I0 vo (ini++[⟨s.obj,s.kind,s.ops++[o]⟩])→Q .normal [(3,vo),(11,v11),(12,v12),(13,v13)] w') :
  W Tryz.prog (c32S2 ()) [(3,vo),(5,.pointer (some ⟨b,0,none⟩)),(6,.int .i64 ini.length),(11,v11),(12,v12),(13,v13)] w Q:=by
 rcases h with ⟨h,_⟩ | ⟨ini',s',vs,vl,he,hl,hft,h⟩
 ·simp at h
 obtain ⟨rfl,rfl⟩:ini=ini'∧s=s':=by
  have:=List.append_inj' he rfl
  exact ⟨this.1,by simpa using this.2⟩
 obtain ⟨a,c,rfl,_⟩:=own_slice (h.row 1 rfl)
 obtain ⟨g,rfl⟩:∃ g,a=some ⟨g,0,none⟩:=by
  obtain ⟨_,⟨_,h0⟩ | ⟨g,cap,cur,e,_⟩⟩:=h.row 1 rfl
  ·omega
  ·cases e; exact ⟨g,rfl⟩
 have hrow:=(h.row 1 rfl)
 have hlen:=segCells_length ini vs hl
 have hc0:w.cell? ⟨g,ini.length * 3+2,none⟩=some vl:=by
  have:=hrow.cells rfl (ini.length * 3+2) vl (by rw [List.getElem?_append_right (by omega),hlen,show ini.length * 3+2 - ini.length * 3=2 by omega]; rfl)
  simpa [Addr.add] using this
 have hgl:=hrow.lt g rfl
 have hne:vl.ownBlock≠some g:=h.ne 1 0 rfl rfl (by decide) rfl
 obtain ⟨av,cv,rfl,_⟩:=own_slice (h.row 0 rfl)
 have ho:=h.blk 2 rfl
 have hbl:=ho.lt
 have hor:=ho.rules
 simp (disch:=first|omega|exact zF rfl|exact zG rfl|exact id|(simp only[zA,zB,zC,zD,bytesW];omega)) only[go_sem,c32S1,c32S2]
 refine c32draw1 (Chg (fun k=>(Value.slice av s.ops.length cv).ownBlock=some k) _) (Chg.refl _ _) ?_
 simp (disch:=first|omega|exact zF rfl|exact zG rfl|exact id|(simp only[zA,zB,zC,zD,bytesW];omega)) only[go_sem,c32S1,c32S2,c32D1,hc0,hor]
 refine ⟨⟨by omega,by omega⟩,bsW_agg ty22mkI rfl (by decide) (by decide) ?_⟩
 have h2:St W0 (w.alloc (.cells o.enc.toArray 38)).drew _ _ _:=(h.alloc' (.cells o.enc.toArray 38)).drew
 have hrd:Rd (w.alloc (.cells o.enc.toArray 38)).drew 11 (.slice (some ⟨w.heap.size,0,none⟩) 1 1) 1 o.enc:=rd_new (w:=w.drew) (t:=38) (sz:=11) (n:=1) (cs:=o.enc.toArray) rfl
 simp (disch:=first|omega|exact zF rfl|exact zG rfl|exact id|(simp only[zA,zB,zC,zD,bytesW];omega)) only[go_sem,c32S1,c32S2,c32D1,hc0,hor]
 refine ⟨chg_da,h2.append 0 rfl ty22mkI rfl (by decide) hrd o.one (by omega) (by omega) ?_⟩
 intro v3 w3 s3 c3
 simp only [List.set_cons_zero] at s3
 obtain ⟨a3,c3',rfl,_⟩:=own_slice (s3.row 0 rfl)
 have s3':=s3.row 1 rfl
 simp (disch:=first|omega|exact zF rfl|exact zG rfl|exact id|(simp only[zA,zB,zC,zD,bytesW];omega)) only[go_sem,c32S1,c32S2,c32D1,hc0,hor]
 have hc3:w3.cell? ⟨g,ini.length * 3+2,none⟩=some (.slice av s.ops.length cv):=by
  have:=s3'.cells rfl (ini.length * 3+2) (.slice av s.ops.length cv) (by rw [List.getElem?_append_right (by omega),hlen,show ini.length * 3+2 - ini.length * 3=2 by omega]; rfl)
  simpa [Addr.add] using this
 have hf3:w3.frozen? ⟨g,ini.length * 3+2,none⟩=false:=by
  obtain ⟨_,⟨h0,_⟩ | ⟨g',cap,cur,e,_,hb,_⟩⟩:=s3'
  ·cases h0
  ·cases e; exact Blk.frozen (show Blk w3 g cur _ from hb) _
 refine ⟨⟨by omega,by omega⟩,⟨_,hc3⟩,hf3,hQ _ (.inr ⟨ini,_,vs,.slice a3 (s.ops.length+1) c3',rfl,hl,hft,?_⟩)⟩
 have s4:=(s3.put 1 rfl (ini.length * 3+2) (.slice a3 (s.ops.length+1) c3')).sub (((List.sublist_cons_self _ _).cons_cons _).cons_cons _)
 rw [List.set_append_right _ _ (by omega),hlen,show ini.length * 3+2 - ini.length * 3=2 by omega] at s4
 have e1:(s.ops++[o]).flatMap OpT.enc=s.ops.flatMap OpT.enc++o.enc:=by rw [List.flatMap_append]; simp
 have e2:(s.ops++[o]).length=s.ops.length+1:=by simp
 show St W0 _ _ (.row _ _ 11 (s.ops++[o]).length ((s.ops++[o]).flatMap OpT.enc)::_) _
 rw [e1,e2]
 exact s4
theorem objects_ok(v:Value)(l:List OpT)(w:World)(h:RdS w 11 OpT.enc v l)(hl:l.length≤100) :
  Ret Tryz.prog 32 [v] w fun u w'=>(∃ l',Sorts objI l l'∧RdR w' 3 segR u (l'.foldl (cutStep (fun s o=>!decide (s.obj=o.Object)) fun o=>(o.Object,o.Kind)) []))∧Below w.heap.size w w':=by
 refine ent32 _ _ _ ?_
 simp (disch:=first|omega|exact zF rfl|exact zG rfl|exact id|(simp only[zA,zB,zC,zD,bytesW];omega)) only[go_sem,c32S1,c32S2]
 refine Ret.mono (clone_ok _ _ _ h hl) ?_
 rintro vl w2 ⟨o2,b2⟩
 have s2:=(St.start (W0:=w)).add b2 (.row vl 38 11 l.length (l.flatMap OpT.enc)) o2 fun k hk=>(o2.lt k hk).1
 simp (disch:=first|omega|exact zF rfl|exact zG rfl|exact id|(simp only[zA,zB,zC,zD,bytesW];omega)) only[go_sem,c32S1,c32S2]
 refine Ret.mono (sort_ok objI _ (enters_of Tryz.func54 (by kernel_rfl) rfl) swo_obj object1_ok vl l w2 _ (s2.row 0 rfl) hl) ?_
 rintro _ w3 ⟨l',hs,o3,c3⟩
 have s3:=s2.upd 0 rfl c3 (.row vl 38 11 l.length (l'.flatMap OpT.enc)) o3 fun k hk=>.inl hk
 have hll:l'.length=l.length:=hs.1.length_eq
 simp only [List.set_cons_zero] at s3
 have s4:=s3.seal (.rd 11 OpT.enc vl l') (RdS.of_own' (s3.row 0 rfl) l' hll.symm rfl) fun k hk=>slFoot_own hk
 obtain ⟨al,cl,rfl,_⟩:=own_slice o3
 simp (disch:=first|omega|exact zF rfl|exact zG rfl|exact id|(simp only[zA,zB,zC,zD,bytesW];omega)) only[go_sem,c32S1,c32S2]
 generalize hq0:(fun (s:Seg) (o:OpT)=>!decide (s.obj=o.Object))=q
 generalize hm0:(fun (o:OpT)=>(o.Object,o.Kind))=mk
 refine W_loopU (fun x:Nat × Value=>[(3,x.2),(13,.int .i64 x.1)]) (fun x w'=>x.1≤l'.length∧Cuts w w' [] [.rd 11 OpT.enc (.slice al l.length cl) l'] x.2 ((l'.take x.1).foldl (cutStep q mk) [])) (fun x=>l'.length - x.1) (0,.slice none 0 0) rfl ⟨Nat.zero_le _,.inl ⟨rfl,rfl,s4⟩⟩ ?_
 rintro ⟨k,vo⟩ w4 ⟨hk,hc⟩
 simp only at hk hc
 generalize ha:(l'.take k).foldl (cutStep q mk) []=acc at hc
 obtain ⟨ao,co,rfl⟩:=hc.form
 by_cases hlt:k<l'.length
 ·have hlt':(k:Int)<l.length:=by omega
  have hstep:(l'.take (k+1)).foldl (cutStep q mk) []=cutStep q mk acc l'[k]:=by
   rw [List.take_succ_eq_append_getElem hlt,List.foldl_append,ha]; rfl
  have s5:St w w4 (fun _=>False) [] [.rd 11 OpT.enc (.slice al l.length cl) l']:=hc.base
  have g5:=s5.get 0 rfl
  have g5':RdS w4 11 OpT.enc (.slice al l.length cl) l':=g5
  obtain ⟨pl,rfl⟩:=RdS.ptr (by rw [← hll] at g5'; exact g5') (by omega)
  have el:=g5'.at OpT.len hlt
  simp (disch:=first|omega|exact zF rfl|exact zG rfl|exact id|(simp only[zA,zB,zC,zD,bytesW];omega)) only[go_sem,hlt',el]
  have hflat:=cut_flat q mk (l'.take k) []
  have hne:=cut_ne q mk (l'.take k) [] (fun s h=>by cases h)
  rw [ha] at hflat hne
  simp only [List.flatMap_nil,List.nil_append] at hflat
  have hlen:=segs_len acc hne
  have hfl:(acc.flatMap Seg.ops).length=k:=by rw [hflat,List.length_take]; omega
  refine ⟨by omega,rfl,⟨by omega,by omega⟩,?_⟩
  have hc6:=hc.box l'[k].enc.toArray 38
  have ho:=hc6.base.blk 0 rfl
  generalize w4.heap.size=bo at hc6 ho ⊢
  generalize w4.alloc (.cells l'[k].enc.toArray 38)=w6 at hc6 ho ⊢
  have ro:=ho.rules
  have hat:=l'[k].at
  have hw7:=ho.lt
  rcases List.eq_nil_or_concat acc with rfl | ⟨ini,s,hacc⟩
  ·refine c32draw0 ?_
   simp (disch:=first|omega|exact zF rfl|exact zG rfl|exact id|(simp only[zA,zB,zC,zD,bytesW];omega)) only[go_sem,c32S1,c32D0,ro,hat]
   obtain ⟨sc,hsc⟩:∃ sc,sc=segC ⟨l'[k].Object,l'[k].Kind,[]⟩ (.slice none 0 0):=⟨_,rfl⟩
   refine bdW_built (cells:=(segC ⟨l'[k].Object,l'[k].Kind,[]⟩ (.slice none 0 0)).toArray) (by kernel_rfl) ?_
   simp (disch:=first|omega|exact zF rfl|exact zG rfl|exact id|(simp only[zA,zB,zC,zD,bytesW];omega)) only[go_sem,c32S1]
   refine bsW_agg ty47mkI rfl (by decide) (by decide) ?_
   simp (disch:=first|omega|exact zF rfl|exact zG rfl|exact id|(simp only[zA,zB,zC,zD,bytesW];omega)) only[go_sem,c32S1]
   rw [← hsc]
   have hrd:Rd (w6.alloc (.cells sc.toArray 24)).drew 3 (.slice (some ⟨w6.heap.size,0,none⟩) 1 1) 1 (segC ⟨l'[k].Object,l'[k].Kind,[]⟩ (.slice none 0 0)):=by rw [hsc]; exact rd_new (w:=w6.drew) (t:=24) (sz:=3) (n:=1) (cs:=(segC ⟨l'[k].Object,l'[k].Kind,[]⟩ (.slice none 0 0)).toArray) rfl
   refine (hc6.call (w':=(w6.alloc (.cells sc.toArray 24)).drew) (((Below.refl _ w6).alloc (Nat.le_refl _) _).drew)).grow l'[k].Object l'[k].Kind (by simp; try omega) hrd ?_
   intro v9 w9 c9
   simp (disch:=first|omega|exact zF rfl|exact zG rfl|exact id|(simp only[zA,zB,zC,zD,bytesW];omega)) only[go_sem,c32S1]
   refine ⟨⟨by omega,by omega⟩,?_⟩
   refine push18 (ini:=[]) l'[k] bo _ _ _ c9 (by simp) (by simp) ?_
   intro w10 c10
   simp (disch:=first|omega|exact zF rfl|exact zG rfl|exact id|(simp only[zA,zB,zC,zD,bytesW];omega)) only[go_sem,c32S1,c32S2]
   refine ⟨⟨by omega,by omega⟩,(k+1,_),rfl,⟨by simp only; omega,?_⟩,by simp only; omega⟩
   simp only
   rw [hstep,cutStep_nil,← hm0]
   exact c10
  ·rw [List.concat_eq_append] at hacc
   subst hacc
   rcases id hc6 with ⟨h0,_⟩ | ⟨ini',s',vs,vl,he,hvl,hft,s6⟩
   ·simp at h0
   obtain ⟨rfl,rfl⟩:ini=ini'∧s=s':=by
    have:=List.append_inj' he rfl
    exact ⟨this.1,by simpa using this.2⟩
   have hnz:((ini++[s]).length:Int) - 1=ini.length:=by simp
   rw [hnz]
   rw [List.length_append,List.length_singleton] at hc6 s6 ⊢
   obtain ⟨g,rfl⟩:∃ g,ao=some ⟨g,0,none⟩:=by
    obtain ⟨_,⟨_,h0⟩ | ⟨g,cap,cur,e,_⟩⟩:=s6.row 1 rfl
    ·omega
    ·cases e; exact ⟨g,rfl⟩
   have hrow:=s6.row 1 rfl
   have hsl:=segCells_length ini vs hvl
   have hc0:w6.cell? ⟨g,ini.length * 3,none⟩=some (.int .i64 s.obj):=by
    have:=hrow.cells rfl (ini.length * 3) (.int .i64 s.obj) (by rw [List.getElem?_append_right (by omega),hsl,show ini.length * 3 - ini.length * 3=0 by omega]; rfl)
    rw [show Addr.add ⟨g,0,none⟩ (ini.length * 3)=⟨g,ini.length * 3,none⟩ by unfold Addr.add; split <;> simp_all] at this
    exact this
   have hgl:=hrow.lt g rfl
   have hsl':=seg_len (ini++[s]) s (by simp)
   refine c32draw0 ?_
   simp (disch:=first|omega|exact zF rfl|exact zG rfl|exact id|(simp only[zA,zB,zC,zD,bytesW];omega)) only[go_sem,c32S1,c32D0,ro,hat,hc0]
   refine ⟨fun _=>⟨⟨by omega,by omega⟩,fun hq=>?_,fun hq=>?_⟩,fun h=>by omega⟩
   ·have hq':q s l'[k]=true:=by rw [← hq0]; simp [hq]
    obtain ⟨sc,hsc⟩:∃ sc,sc=segC ⟨l'[k].Object,l'[k].Kind,[]⟩ (.slice none 0 0):=⟨_,rfl⟩
    refine bdW_built (cells:=(segC ⟨l'[k].Object,l'[k].Kind,[]⟩ (.slice none 0 0)).toArray) (by kernel_rfl) ?_
    simp (disch:=first|omega|exact zF rfl|exact zG rfl|exact id|(simp only[zA,zB,zC,zD,bytesW];omega)) only[go_sem,c32S1]
    refine bsW_agg ty47mkI rfl (by decide) (by decide) ?_
    simp (disch:=first|omega|exact zF rfl|exact zG rfl|exact id|(simp only[zA,zB,zC,zD,bytesW];omega)) only[go_sem,c32S1]
    rw [← hsc]
    have hrd:Rd (w6.alloc (.cells sc.toArray 24)).drew 3 (.slice (some ⟨w6.heap.size,0,none⟩) 1 1) 1 (segC ⟨l'[k].Object,l'[k].Kind,[]⟩ (.slice none 0 0)):=by rw [hsc]; exact rd_new (w:=w6.drew) (t:=24) (sz:=3) (n:=1) (cs:=(segC ⟨l'[k].Object,l'[k].Kind,[]⟩ (.slice none 0 0)).toArray) rfl
    refine (hc6.call (w':=(w6.alloc (.cells sc.toArray 24)).drew) (((Below.refl _ w6).alloc (Nat.le_refl _) _).drew)).grow l'[k].Object l'[k].Kind (by simp; try omega) hrd ?_
    intro v9 w9 c9
    simp (disch:=first|omega|exact zF rfl|exact zG rfl|exact id|(simp only[zA,zB,zC,zD,bytesW];omega)) only[go_sem,c32S1]
    refine ⟨⟨by omega,by omega⟩,?_⟩
    rw [show (ini.length:Int)+1=((ini++[s]).length:Nat) by simp]
    refine push18 (ini:=ini++[s]) l'[k] bo _ _ _ c9 (by simp; omega) (by simp) ?_
    intro w10 c10
    simp (disch:=first|omega|exact zF rfl|exact zG rfl|exact id|(simp only[zA,zB,zC,zD,bytesW];omega)) only[go_sem,c32S1,c32S2]
    refine ⟨⟨by omega,by omega⟩,(k+1,_),rfl,⟨by simp only; omega,?_⟩,by simp only; omega⟩
    simp only
    rw [hstep,cutStep_new _ _ hq',← hm0]
    exact c10
   ·have hq':q s l'[k]=false:=by rw [← hq0]; simp [hq]
    refine push18 l'[k] bo _ _ _ (hc6.call (Below.refl _ w6).drew) (by omega) (by omega) ?_
    intro w10 c10
    simp (disch:=first|omega|exact zF rfl|exact zG rfl|exact id|(simp only[zA,zB,zC,zD,bytesW];omega)) only[go_sem,c32S1,c32S2]
    refine ⟨⟨by omega,by omega⟩,(k+1,_),rfl,⟨by simp only; omega,?_⟩,by simp only; omega⟩
    simp only
    rw [hstep,cutStep_old _ _ hq']
    exact c10
 ·have hlt':¬ (k:Int)<l.length:=by omega
  simp (disch:=first|omega|exact zF rfl|exact zG rfl|exact id|(simp only[zA,zB,zC,zD,bytesW];omega)) only[go_sem,c32S1,c32S2,hlt']
  have hkl:k=l'.length:=by omega
  subst hkl
  rw [List.take_length] at ha
  subst ha
  have hflat:=cut_flat q mk l' []
  subst hq0; subst hm0
  refine ⟨⟨l',hs,hc.out (fun s hs=>?_) _ fun _ _ _=>rfl⟩,hc.bel⟩
  have h1:=seg_len _ s hs
  rw [hflat] at h1
  simp only [List.flatMap_nil,List.nil_append] at h1
  omega
def objQ(s:Seg)(o:OpT):Bool:=!decide (s.obj=o.Object)
def objMk(o:OpT):Int × Int:=(o.Object,o.Kind)
structure Seen(r:List OpT)(acc:List Seg):Prop where
 up:acc.Pairwise fun a b=>a.obj<b.obj
 ops:∀ s∈acc,s.ops=ofObj s.obj r
 kind:∀ s∈acc,∃ o r,s.ops=o::r∧s.kind=o.Kind
 all:∀ o∈r,∃ s∈acc,s.obj=o.Object
 top:∀ s∈acc,∃ o∈r,s.obj=o.Object
theorem ofObj_append(x:Int)(a b:List OpT):ofObj x (a++b)=ofObj x a++ofObj x b:=List.filter_append ..
theorem ofObj_one(x:Int)(o:OpT):ofObj x [o]=if o.Object=x then [o] else []:=by unfold ofObj; by_cases h:o.Object=x <;> simp [h]
theorem Seen.step{r:List OpT}{acc:List Seg}(h:Seen r acc)(o:OpT)(hle:∀ x∈r,x.Object≤o.Object):Seen (r++[o]) (cutStep objQ objMk acc o):=by
 have low:∀ s∈acc,s.obj≤o.Object:=fun s hs=>by obtain ⟨x,hx,e⟩:=h.top s hs; rw [e]; exact hle x hx
 have fresh:(∀ s∈acc,s.obj<o.Object)→Seen (r++[o]) (acc++[⟨o.Object,o.Kind,[o]⟩]):=by
  intro hlt
  have hno:ofObj o.Object r=[]:=by
   unfold ofObj
   rw [List.filter_eq_nil_iff]
   intro x hx
   obtain ⟨s,hs,e⟩:=h.all x hx
   have:=hlt s hs
   simp; omega
  refine ⟨?_,fun s hs=>?_,fun s hs=>?_,fun x hx=>?_,fun s hs=>?_⟩
  ·rw [List.pairwise_append]
   refine ⟨h.up,List.pairwise_singleton _ _,fun a ha b hb=>?_⟩
   simp only [List.mem_singleton] at hb; subst hb
   exact hlt a ha
  ·rcases List.mem_append.1 hs with hs | hs
   ·rw [ofObj_append,← h.ops s hs,ofObj_one,if_neg (by have:=hlt s hs; omega),List.append_nil]
   ·simp only [List.mem_singleton] at hs; subst hs
    rw [ofObj_append,hno,ofObj_one,if_pos rfl]; rfl
  ·rcases List.mem_append.1 hs with hs | hs
   ·exact h.kind s hs
   ·simp only [List.mem_singleton] at hs; subst hs; exact ⟨o,[],rfl,rfl⟩
  ·rcases List.mem_append.1 hx with hx | hx
   ·obtain ⟨s,hs,e⟩:=h.all x hx
    exact ⟨s,List.mem_append_left _ hs,e⟩
   ·simp only [List.mem_singleton] at hx; subst hx
    exact ⟨_,List.mem_append_right _ (List.mem_singleton_self _),rfl⟩
  ·rcases List.mem_append.1 hs with hs | hs
   ·obtain ⟨x,hx,e⟩:=h.top s hs
    exact ⟨x,List.mem_append_left _ hx,e⟩
   ·simp only [List.mem_singleton] at hs; subst hs
    exact ⟨o,List.mem_append_right _ (List.mem_singleton_self _),rfl⟩
 rcases List.eq_nil_or_concat acc with rfl | ⟨ini,s,he⟩
 ·exact fresh fun s hs=>by cases hs
 ·rw [List.concat_eq_append] at he
  subst he
  have hup:=List.pairwise_append.1 h.up
  have hslow:=low s (by simp)
  by_cases hso:s.obj=o.Object
  ·rw [cutStep_old _ _ (by unfold objQ; simp [hso])]
   have hini:∀ t∈ini,t.obj<s.obj:=fun t ht=>hup.2.2 t ht s (by simp)
   refine ⟨?_,fun t ht=>?_,fun t ht=>?_,fun x hx=>?_,fun t ht=>?_⟩
   ·rw [List.pairwise_append]
    refine ⟨hup.1,List.pairwise_singleton _ _,fun a ha b hb=>?_⟩
    simp only [List.mem_singleton] at hb; subst hb
    exact hini a ha
   ·rcases List.mem_append.1 ht with ht | ht
    ·rw [ofObj_append,← h.ops t (List.mem_append_left _ ht),ofObj_one,if_neg (by have:=hini t ht; omega),List.append_nil]
    ·simp only [List.mem_singleton] at ht; subst ht
     simp only
     rw [ofObj_append,← h.ops s (by simp),ofObj_one,if_pos hso.symm]
   ·rcases List.mem_append.1 ht with ht | ht
    ·exact h.kind t (List.mem_append_left _ ht)
    ·simp only [List.mem_singleton] at ht; subst ht
     obtain ⟨x,y,e,hk⟩:=h.kind s (by simp)
     exact ⟨x,y++[o],by simp only; rw [e]; rfl,hk⟩
   ·rcases List.mem_append.1 hx with hx | hx
    ·obtain ⟨t,ht,e⟩:=h.all x hx
     rcases List.mem_append.1 ht with ht | ht
     ·exact ⟨t,List.mem_append_left _ ht,e⟩
     ·simp only [List.mem_singleton] at ht; subst ht
      exact ⟨_,List.mem_append_right _ (List.mem_singleton_self _),e⟩
    ·simp only [List.mem_singleton] at hx; subst hx
     exact ⟨_,List.mem_append_right _ (List.mem_singleton_self _),hso⟩
   ·rcases List.mem_append.1 ht with ht | ht
    ·obtain ⟨x,hx,e⟩:=h.top t (List.mem_append_left _ ht)
     exact ⟨x,List.mem_append_left _ hx,e⟩
    ·simp only [List.mem_singleton] at ht; subst ht
     exact ⟨o,List.mem_append_right _ (List.mem_singleton_self _),hso⟩
  ·rw [cutStep_new _ _ (by unfold objQ; simp [hso])]
   refine fresh fun t ht=>?_
   rcases List.mem_append.1 ht with ht | ht
   ·have:=hup.2.2 t ht s (by simp); omega
   ·simp only [List.mem_singleton] at ht; subst ht; omega
theorem seen_fold:∀ (b a:List OpT) (acc:List Seg),Seen a acc→(a++b).Pairwise (fun x y=>x.Object≤y.Object)→Seen (a++b) (b.foldl (cutStep objQ objMk) acc)
 | [],a,acc,h,_=>by rw [List.append_nil]; exact h
 | o::b,a,acc,h,hp=>by
  have:=seen_fold b (a++[o]) _ (h.step o fun x hx=>(List.pairwise_append.1 hp).2.2 x hx o List.mem_cons_self) (by rw [List.append_assoc]; exact hp)
  rw [List.append_assoc] at this
  exact this
theorem objects_by{l r:List OpT}(h:Sorts objI l r):ByObj l (r.foldl (cutStep objQ objMk) []):=by
 have hp:r.Pairwise fun x y=>x.Object≤y.Object:=h.2.imp fun {a b} e=>by rw [obj_neg] at e; omega
 have s:=seen_fold r [] [] ⟨List.Pairwise.nil,(fun s h=>by cases h),(fun s h=>by cases h),(fun s h=>by cases h),(fun s h=>by cases h)⟩ hp
 rw [List.nil_append] at s
 refine ⟨s.up,fun t ht=>⟨?_,?_⟩,s.kind,fun o ho=>s.all o (h.1.mem_iff.2 ho)⟩
 ·rw [s.ops t ht]; exact h.1.filter _
 ·rw [s.ops t ht]
  have h2:(ofObj t.obj r).Pairwise fun a b=>¬ objI b a<0:=h.2.sublist List.filter_sublist
  refine List.Pairwise.imp_of_mem ?_ h2
  intro a b ha hb e
  have ea:=(List.mem_filter.1 ha).2
  have eb:=(List.mem_filter.1 hb).2
  rw [decide_eq_true_eq] at ea eb
  rw [obj_neg] at e
  rw [ear_neg]
  omega
end Go.Proofs.YteiciplnfjnfjaaGreat.Cut

namespace Go.Proofs.YteiciplnfjnfjaaGreat
open Go Go.Ann Go.RowKit
structure CoreT where
 obj:Int
 ops:List OpT
 n:Int
inductive HistR(bud:Int):List Seg→List CoreT→List CoreT × Int→Prop
 | nil {acc:List CoreT}:HistR bud [] acc (acc,0)
 | err {s:Seg} {r:List Seg} {acc:List CoreT} {e:Int} (h:ObjR s.obj s.kind s.ops bud (none,e)) (he:e≠0):HistR bud (s::r) acc ([],e)
 | none {s:Seg} {r:List Seg} {acc:List CoreT} {x:List CoreT × Int} (h:ObjR s.obj s.kind s.ops bud (none,0)) (k:HistR bud r acc x):HistR bud (s::r) acc x
 | core {s:Seg} {r:List Seg} {acc:List CoreT} {x:List CoreT × Int} {L:List OpT} {n:Int} (h:ObjR s.obj s.kind s.ops bud (some (L,n),0)) (k:HistR bud r (acc++[⟨s.obj,L,n⟩]) x):HistR bud (s::r) acc x
theorem HistR.one{bud:Int}{segs:List Seg}{acc:List CoreT}{x y:List CoreT × Int}(h:HistR bud segs acc x):(∀ s∈segs,Cut.Pure s.ops)→HistR bud segs acc y→x=y:=by
 induction h with
 | nil=>intro _ k; cases k; rfl
 | err h he =>
  intro hp k
  have hp1:=hp _ List.mem_cons_self
  cases k with
  | err h'=>cases h.one hp1 h'; rfl
  | none h'=>cases h.one hp1 h'; exact absurd rfl he
  | core h'=>cases h.one hp1 h'
 | none h _ ih =>
  intro hp k
  have hp1:=hp _ List.mem_cons_self
  cases k with
  | err h' he=>cases h.one hp1 h'; exact absurd rfl he
  | none _ k'=>exact ih (fun s hs=>hp s (List.mem_cons_of_mem _ hs)) k'
  | core h'=>cases h.one hp1 h'
 | core h _ ih =>
  intro hp k
  have hp1:=hp _ List.mem_cons_self
  cases k with
  | err h' he=>cases h.one hp1 h'
  | none h'=>cases h.one hp1 h'
  | core h' k'=>cases h.one hp1 h'; exact ih (fun s hs=>hp s (List.mem_cons_of_mem _ hs)) k'
theorem HistR.small{bud:Int}{segs:List Seg}{acc:List CoreT}{x:List CoreT × Int}(h:HistR bud segs acc x):(∀ s∈segs,s.ops.length≤10)→(∀ c∈acc,c.ops.length≤10)→(∀ c∈x.1,c.ops.length≤10)∧x.1.length≤acc.length+segs.length:=by
 induction h with
 | nil=>exact fun _ h=>⟨h,by simp⟩
 | err=>exact fun _ _=>⟨fun c hc=>(by cases hc),by simp⟩
 | none h _ ih =>
  intro h1 h2
  obtain ⟨a,b⟩:=ih (fun s hs=>h1 s (List.mem_cons_of_mem _ hs)) h2
  exact ⟨a,by rw [List.length_cons]; omega⟩
 | core h _ ih =>
  intro h1 h2
  obtain ⟨a,b⟩:=ih (fun s hs=>h1 s (List.mem_cons_of_mem _ hs)) (fun c hc=>by
   rcases List.mem_append.1 hc with hc | hc
   ·exact h2 c hc
   ·rw [List.mem_singleton] at hc
    subst hc
    have:=h.len
    simp only [coreL] at this
    have:=h1 _ List.mem_cons_self
    simp only
    omega)
  rw [List.length_append,List.length_singleton] at b
  exact ⟨a,by rw [List.length_cons]; omega⟩
theorem nz_zero{l:List Int}(h:nz l=0):∀ x∈l,x=0:=by
 induction l with
 | nil=>intro x hx; cases hx
 | cons y r ih =>
  rw [nz_cons] at h
  by_cases e:y=0
  ·rw [if_pos e] at h
   intro x hx
   rcases List.mem_cons.1 hx with rfl | hx
   ·exact e
   ·exact ih h x hx
  ·rw [if_neg e] at h
   exact absurd h e
theorem hist_good{l:List OpT}(h:histP l=0):l.length≤64∧l.Pairwise (fun a b=>a.ID<b.ID)∧∀ a∈l,∀ b∈l,a.Object=b.Object→a.Kind=b.Kind:=by
 unfold histP at h
 by_cases h64:64<l.length
 ·rw [if_pos h64] at h; cases h
 rw [if_neg h64] at h
 have hz:=nz_zero h
 refine ⟨by omega,Cut.rising_pairwise fun j hj=>?_,fun a ha b hb e=>?_⟩
 ·have h1:=hz (fAt l (j+1)) (List.mem_append_left _ (by unfold fsAll; exact List.mem_map_of_mem (List.mem_range.2 hj)))
  by_cases e0:chkP l[j+1]=0
  ·rw [fAt_id hj (by omega) e0] at h1
   have e2:l[j+1 - 1]'(by omega)=l[j]:=by congr 1
   rw [e2] at h1
   by_cases e1:l[j+1].ID≤l[j].ID
   ·rw [if_pos e1] at h1; cases h1
   ·omega
  ·rw [fAt_chk hj e0] at h1
   exact absurd h1 e0
 ·have h1:=hz (bes l b) (List.mem_append_right _ (List.mem_map_of_mem hb))
  unfold bes at h1
  by_cases hk:a.Kind=b.Kind
  ·exact hk
  ·by_cases hi:a.ID=b.ID
   ·have hp:l.Pairwise fun a b=>a.ID<b.ID:=Cut.rising_pairwise fun j hj=>by
     have h1:=hz (fAt l (j+1)) (List.mem_append_left _ (by unfold fsAll; exact List.mem_map_of_mem (List.mem_range.2 hj)))
     by_cases e0:chkP l[j+1]=0
     ·rw [fAt_id hj (by omega) e0] at h1
      have e2:l[j+1 - 1]'(by omega)=l[j]:=by congr 1
      rw [e2] at h1
      by_cases e1:l[j+1].ID≤l[j].ID
      ·rw [if_pos e1] at h1; cases h1
      ·omega
     ·rw [fAt_chk hj e0] at h1
      exact absurd h1 e0
    rw [Cut.pair_id hp a ha b hb hi]
   ·rw [if_pos (List.any_eq_true.2 ⟨a,ha,by simp [badK,hi,e,hk]⟩)] at h1
    cases h1
def HistO(l:List OpT)(bud:Int)(x:List CoreT × Int):Prop:=if histP l=0 then ∃ segs,Cut.ByObj l segs∧HistR bud segs [] x else x=([],histP l)
theorem seg_good{l:List OpT}(hg:histP l=0){segs:List Seg}(h:Cut.ByObj l segs)(hw:∀ o∈l,o.wf){s:Seg}(hs:s∈segs):(s.ops.map OpT.ID).Nodup∧(∀ o∈s.ops,o.Kind=s.kind)∧(∀ o∈s.ops,o.wf)∧Cut.Pure s.ops:=by
 obtain ⟨_,hup,hk⟩:=hist_good hg
 have hso:=h.sorts s hs
 have hmem:∀ o∈s.ops,o∈l∧o.Object=s.obj:=fun o ho=>by
  have:=hso.1.mem_iff.1 ho
  unfold Cut.ofObj at this
  obtain ⟨a,b⟩:=List.mem_filter.1 this
  exact ⟨a,by simpa using b⟩
 have hnd:(s.ops.map OpT.ID).Nodup:=by
  refine ((hso.1.map OpT.ID).nodup_iff).2 ?_
  have:((Cut.ofObj s.obj l).map OpT.ID).Nodup:=by
   unfold Cut.ofObj List.Nodup
   rw [List.pairwise_map]
   exact (hup.filter _).imp fun h=>Int.ne_of_lt h
  exact this
 refine ⟨hnd,fun o ho=>?_,fun o ho=>hw o (hmem o ho).1,pure_nodup hnd⟩
 obtain ⟨o1,r,e,hk1⟩:=h.kind s hs
 have h1:o1∈s.ops:=by rw [e]; exact List.mem_cons_self
 rw [hk1]
 exact hk o (hmem o ho).1 o1 (hmem o1 h1).1 ((hmem o ho).2.trans (hmem o1 h1).2.symm)
theorem HistO.one{l:List OpT}{bud:Int}{x y:List CoreT × Int}(hw:∀ o∈l,o.wf)(h:HistO l bud x)(k:HistO l bud y):x=y:=by
 unfold HistO at h k
 by_cases h0:histP l=0
 ·rw [if_pos h0] at h k
  obtain ⟨a,ha,h⟩:=h
  obtain ⟨b,hb,k⟩:=k
  have hp:=Cut.pair_id (hist_good h0).2.1
  cases Cut.byObj_unique hp ha hb
  exact h.one (fun s hs=>(seg_good h0 ha hw hs).2.2.2) k
 ·rw [if_neg h0] at h k
  rw [h,k]
theorem nodup_sub_len:∀ {a b:List Int},a.Nodup→(∀ x∈a,x∈b)→a.length≤b.length
 | [],_,_,_=>Nat.zero_le _
 | x::r,b,h,hs=>by
  rw [List.nodup_cons] at h
  have hx:=hs x List.mem_cons_self
  have:=nodup_sub_len (a:=r) (b:=b.erase x) h.2 fun y hy=>(List.mem_erase_of_ne (fun e=>h.1 (by rw [← e]; exact hy))).2 (hs y (List.mem_cons_of_mem _ hy))
  rw [List.length_erase_of_mem hx] at this
  have:=List.length_pos_of_mem hx
  rw [List.length_cons]
  omega
theorem byObj_len{l:List OpT}{segs:List Seg}(h:Cut.ByObj l segs):segs.length≤l.length:=by
 have:=nodup_sub_len (a:=segs.map Seg.obj) (b:=l.map OpT.Object) (by
  unfold List.Nodup
  rw [List.pairwise_map]
  exact h.up.imp fun h=>Int.ne_of_lt h) (fun x hx=>by
  obtain ⟨s,hs,rfl⟩:=List.mem_map.1 hx
  obtain ⟨o,r,e,_⟩:=h.kind s hs
  have ho:o∈s.ops:=by rw [e]; exact List.mem_cons_self
  have:=(h.sorts s hs).1.mem_iff.1 ho
  unfold Cut.ofObj at this
  obtain ⟨a,b⟩:=List.mem_filter.1 this
  exact List.mem_map.2 ⟨o,a,by simpa using b⟩)
 simpa using this
def coreC(c:CoreT)(v:Value):List Value:=[.int .i64 c.obj,v,.int .i64 c.n]
def coreR(w:World)(c:CoreT)(cs:List Value):Prop:=∃ v,cs=coreC c v∧RdS w 11 OpT.enc v c.ops
theorem coreR.below{w w':World}(hb:Below w.heap.size w w')(s:CoreT)(c:List Value)(h:coreR w s c):coreR w' s c:=by
 obtain ⟨v,rfl,h1⟩:=h
 exact ⟨v,rfl,h1.below hb (by decide)⟩
def coreCells:List CoreT→List Value→List Value
 | s::l,v::vs=>coreC s v++coreCells l vs
 | _,_=>[]
def coreInvs:List CoreT→List Value→List Inv
 | s::l,v::vs=>.rd 11 OpT.enc v s.ops::coreInvs l vs
 | _,_=>[]
theorem coreCells_snoc:∀ (l:List CoreT) (vs:List Value) (s:CoreT) (v:Value),vs.length=l.length→coreCells (l++[s]) (vs++[v])=coreCells l vs++coreC s v
 | [],[],s,v,_=>by simp [coreCells]
 | a::l,b::vs,s,v,h=>by simp only [List.cons_append,coreCells,List.append_assoc]; rw [coreCells_snoc l vs s v (by simpa using h)]
theorem coreInvs_mem:∀ (l:List CoreT) (vs:List Value) (i:Nat) (s:CoreT) (v:Value),l[i]?=some s→vs[i]?=some v→Inv.rd 11 OpT.enc v s.ops∈coreInvs l vs
 | a::l,b::vs,0,s,v,h1,h2=>by
  simp only [List.getElem?_cons_zero,Option.some.injEq] at h1 h2; subst h1; subst h2
  exact List.mem_cons_self
 | a::l,b::vs,i+1,s,v,h1,h2=>List.mem_cons_of_mem _ (coreInvs_mem l vs i s v (by simpa using h1) (by simpa using h2))
theorem coreInvs_snoc:∀ (l:List CoreT) (vs:List Value) (s:CoreT) (v:Value),vs.length=l.length→∀ a,a∈coreInvs (l++[s]) (vs++[v])↔a=Inv.rd 11 OpT.enc v s.ops∨a∈coreInvs l vs
 | [],[],s,v,_,a=>by simp [coreInvs]
 | x::l,b::vs,s,v,h,a=>by simp only [List.cons_append,coreInvs,List.mem_cons,coreInvs_snoc l vs s v (by simpa using h)]; exact ⟨fun h=>h.elim (fun h=>.inr (.inl h)) fun h=>h.elim .inl fun h=>.inr (.inr h),fun h=>h.elim (fun h=>.inr (.inl h)) fun h=>h.elim .inl fun h=>.inr (.inr h)⟩
theorem coreCells_flat:∀ (l:List CoreT) (vs:List Value),(List.zipWith coreC l vs).flatten=coreCells l vs
 | [],vs=>by cases vs <;> rfl
 | a::l,[]=>rfl
 | a::l,b::vs=>by rw [List.zipWith_cons_cons,List.flatten_cons,coreCells_flat l vs]; rfl
theorem cores_rd{W0 w:World}{F:Nat→Prop}{L:List Res}{I:List Inv}{vo:Value}{t:TypeId}{acc:List CoreT}{vs:List Value}(hvs:vs.length=acc.length)(h:St W0 w F (.row vo t 3 acc.length (coreCells acc vs)::L) I)
  (hr:∀ (j:Nat) (s:CoreT) (v:Value),acc[j]?=some s→vs[j]?=some v→RdS w 11 OpT.enc v s.ops):RdR w 3 coreR vo acc:=by
 refine ⟨List.zipWith coreC acc vs,by simp [hvs],?_,?_⟩
 ·intro j c x hc hx
  rw [List.getElem?_zipWith,hx] at hc
  cases hv:vs[j]? with
  | none=>rw [hv] at hc; cases hc
  | some v =>
   rw [hv] at hc
   simp only [Option.some.injEq] at hc
   subst hc
   exact ⟨rfl,v,rfl,hr j x v hx hv⟩
 ·rw [coreCells_flat]
  exact Rd.of_own (h.row 0 rfl)
open Go Go.Ann Go.RowKit
def HistV(w':World)(x:List CoreT × Int)(u:Value):Prop:=∃ vv,u=.tuple #[vv,.int .i64 x.2]∧RdR w' 3 coreR vv x.1
theorem coreC_one(c:CoreT){a:Option Addr}{n k:Nat}:∀ u∈coreC c (.slice a n k),u.oneCell'=true:=by
 intro u hu
 simp only [coreC,List.mem_cons,List.not_mem_nil,or_false] at hu
 rcases hu with rfl | rfl | rfl <;> rfl
theorem push_core{W0 w:World}{F:Nat→Prop}{L:List Res}{vo:Value}{acc:List CoreT}{vs:List Value}{c:CoreT}{va:Option Addr}{vc:Nat}{t tt bytes:Nat}{z:Value}{K:Value→World→Prop}{cs:Array Bool}{ty:Nat}
  (s:St W0 w F (.row (.slice va c.ops.length vc) 38 11 c.ops.length (c.ops.flatMap OpT.enc)::.row vo t 3 acc.length (coreCells acc vs)::L) (coreInvs acc vs)) (hvs:vs.length=acc.length) (hl:acc.length≤100000) (hm:mkI Tryz.prog tt=some (t,3,bytes,z)) (hz:z.cells.size=3) (hby:bytes≤1000)
  (hK:∀ v' w',St W0 w' F (.row v' t 3 (acc++[c]).length (coreCells (acc++[c]) (vs++[.slice va c.ops.length vc]))::L) (coreInvs (acc++[c]) (vs++[.slice va c.ops.length vc]))→K v' w') :
  rawB Tryz.prog .append #[tt,tt] ty cs [vo,.slice (some ⟨w.heap.size,0,none⟩) 1 1] (w.alloc (.cells (coreC c (.slice va c.ops.length vc)).toArray t)) K:=by
 have hro:RdS w 11 OpT.enc (.slice va c.ops.length vc) c.ops:=RdS.of_own (s.row 0 rfl)
 have s4:=(s.seal (.rd 11 OpT.enc (.slice va c.ops.length vc) c.ops) hro fun k hk=>slFoot_own hk).alloc' (.cells (coreC c (.slice va c.ops.length vc)).toArray t)
 have hrd:Rd (w.alloc (.cells (coreC c (.slice va c.ops.length vc)).toArray t)) 3 (.slice (some ⟨w.heap.size,0,none⟩) 1 1) 1 (coreC c (.slice va c.ops.length vc)):=rd_new (t:=t) (sz:=3) (n:=1) (cs:=(coreC c (.slice va c.ops.length vc)).toArray) rfl
 have hbb:(acc.length+1) * bytes≤100001 * 1000:=Nat.mul_le_mul (by omega) hby
 refine s4.append 0 rfl hm hz (by decide) hrd (coreC_one c) (by omega) (by omega) ?_
 intro v' w' s5 _
 refine hK v' w' ?_
 simp only [List.set_cons_zero] at s5
 rw [List.length_append,List.length_singleton,coreCells_snoc _ _ _ _ hvs]
 refine St.inv_sub s5 fun a ha=>?_
 rcases (coreInvs_snoc acc vs _ _ hvs a).1 ha with rfl | ha
 ·exact List.mem_cons_self
 ·exact List.mem_cons_of_mem _ ha
theorem cores_nil(w:World):RdR w 3 coreR (.slice none 0 0) ([]:List CoreT):=RdR.nil
theorem history_ok{w:World}{bud:Int}{v:Value}{l:List OpT}(hr:RdS w 11 OpT.enc v l)(hw:∀ o∈l,o.wf)(hl:l.length≤30)(hb:I64 bud)(hsm:∀ segs,Cut.Pure l→Cut.ByObj l segs→∀ s∈segs,s.ops.length≤6) :
  Ret Tryz.prog 17 [v,.int .i64 bud] w fun u w'=>(∃ x,HistO l bud x∧HistV w' x u)∧Below w.heap.size w w':=by
 obtain ⟨a,c,rfl,_⟩:=hr.form
 refine ent17 _ _ _ _ ?_
 simp (disch:=first|omega|exact zF rfl|exact zG rfl|exact id|(simp only[zA,zB,zC,zD,bytesW];omega)) only[go_sem,c17S1,c17S2,c17S5,c17S6]
 refine Ret.mono (hcheck_ok _ l w hr hw (by omega)) ?_
 rintro _ w1 ⟨rfl,b1⟩
 unfold HistO
 by_cases h0:histP l=0
 ·rw [h0]
  simp only [if_true]
  simp (disch:=first|omega|exact zF rfl|exact zG rfl|exact id|(simp only[zA,zB,zC,zD,bytesW];omega)) only[go_sem,c17S0,c17S1,c17S2,c17S6]
  refine Ret.mono (Cut.objects_ok _ l w1 (hr.below b1 (by decide)) (by omega)) ?_
  rintro u w4 ⟨⟨l',hs,hseg⟩,b4⟩
  have hby:=Cut.objects_by hs
  have hseg':RdR w4 3 Cut.segR u (l'.foldl (Cut.cutStep Cut.objQ Cut.objMk) []):=hseg
  clear hseg
  generalize l'.foldl (Cut.cutStep Cut.objQ Cut.objMk) []=segs at hby hseg'
  have hsl:=byObj_len hby
  have hgood:=fun s hs=>seg_good h0 hby hw (s:=s) hs
  have hsix:=hsm segs (Cut.pair_id (hist_good h0).2.1) hby
  obtain ⟨ps,cs,rfl,_⟩:=hseg'.form
  have b14:=Below.next b1 b4
  simp (disch:=first|omega|exact zF rfl|exact zG rfl|exact id|(simp only[zA,zB,zC,zD,bytesW];omega)) only[go_sem,c17S0,c17S1,c17S2,c17S5]
  refine W_loopU (fun x:Nat × Value × List CoreT × List Value=>[(7,x.2.1),(21,.int .i64 x.1)]) (fun x w'=>x.1≤segs.length∧x.2.2.1.length≤x.1∧x.2.2.2.length=x.2.2.1.length∧St w4 w' (fun _=>False) [.row x.2.1 28 3 x.2.2.1.length (coreCells x.2.2.1 x.2.2.2)] (coreInvs x.2.2.1 x.2.2.2)∧∀ y,HistR bud (segs.drop x.1) x.2.2.1 y→HistR bud segs [] y) (fun x=>segs.length - x.1) (0,.slice none 0 0,[],[]) rfl ⟨Nat.zero_le _,Nat.zero_le _,rfl,(St.start (W0:=w4)).nilRow 28 3,fun y h=>h⟩ ?_
  rintro ⟨k,vo,acc,vs⟩ w5 ⟨hk,hak,hvs,s5,hall⟩
  simp only at hk hak hvs s5 hall
  have hsg:=hseg'.below s5.bel (by decide) fun x c=>Cut.segR.below s5.bel x c
  by_cases hlt:k<segs.length
  ·have hlt':(k:Int)<segs.length:=by omega
   obtain ⟨q,rfl⟩:=hsg.ptr (by omega)
   obtain ⟨cc,hcl,⟨va,rfl,hva,hla⟩,hld,ea⟩:=hsg.elt (by decide) hlt
   obtain ⟨oa,oc,rfl,_⟩:=hva.form
   obtain ⟨g1,g2,g3,g4⟩:=hgood _ (List.getElem_mem hlt)
   have g6:=hsix _ (List.getElem_mem hlt)
   rw [List.drop_eq_getElem_cons hlt] at hall
   generalize segs[k]=s at *
   simp (disch:=first|omega|exact zF rfl|exact zG rfl|exact id|(simp only[zA,zB,zC,zD,bytesW];omega)) only[go_sem,c17S0,c17S1,c17S5,c17S6,hlt',hld,ea]
   refine ⟨by omega,?_⟩
   have s6:=s5.box #[.int .i64 s.obj,.int .i64 s.kind,.slice oa s.ops.length oc] 24
   have hva6:=hva.below ((Below.refl _ _).alloc (Nat.le_refl _) (.cells #[.int .i64 s.obj,.int .i64 s.kind,.slice oa s.ops.length oc] 24)) (by decide)
   generalize w5.alloc (.cells #[.int .i64 s.obj,.int .i64 s.kind,.slice oa s.ops.length oc] 24)=w6 at s6 hva6 ⊢
   generalize w5.heap.size=p9 at s6 ⊢
   refine Ret.mono (object_ok hva6 (by omega) g1 g2 g3 hb) ?_
   rintro u7 w7 ⟨⟨⟨x,e⟩,hr7,hv7⟩,b7⟩
   cases x with
   | none =>
    have hu7:u7=.tuple #[.agg #[.int .i64 0,.slice none 0 0,.int .i64 0],.bool false,.int .i64 e]:=hv7
    subst hu7
    have s7:=(s6.call b7).sub (List.sublist_cons_self _ _)
    by_cases he:e=0
    ·subst he
     simp (disch:=first|omega|exact zF rfl|exact zG rfl|exact id|(simp only[zA,zB,zC,zD,bytesW];omega)) only[go_sem,c17S0,c17S1,c17S2,c17S5,c17S6]
     exact ⟨⟨by omega,by omega⟩,(k+1,vo,acc,vs),rfl,⟨hlt,by simp only; omega,hvs,s7.alloc' _,fun y h=>hall y (.none hr7 h)⟩,by simp only; omega⟩
    ·simp (disch:=first|omega|exact zF rfl|exact zG rfl|exact id|(simp only[zA,zB,zC,zD,bytesW];omega)) only[go_sem,c17S0,c17S1,c17S2,c17S5,c17S6,he]
     exact ⟨⟨([],e),⟨segs,hby,hall _ (.err hr7 he)⟩,_,rfl,cores_nil _⟩,Below.next b14 (s7.alloc' _).bel⟩
   | some x =>
    obtain ⟨L,n⟩:=x
    have he:e=0:=hr7.zero rfl
    subst he
    obtain ⟨vv,rfl,own7⟩:=hv7
    obtain ⟨xa,xc,rfl,_⟩:=own_slice own7
    have hLl:=hr7.len
    simp only [coreL] at hLl
    have s7:=(newRow s6 b7 own7).sub (List.Sublist.cons_cons _ (List.sublist_cons_self _ _))
    simp (disch:=first|omega|exact zF rfl|exact zG rfl|exact id|(simp only[zA,zB,zC,zD,bytesW];omega)) only[go_sem,c17S0,c17S2,c17S5,c17S6]
    have s8:=s7.box (coreC ⟨s.obj,L,n⟩ (.slice xa L.length xc)).toArray 28
    have ec:#[.int .i64 s.obj,.slice xa L.length xc,.int .i64 n]=(coreC ⟨s.obj,L,n⟩ (.slice xa L.length xc)).toArray:=rfl
    rw [ec]
    generalize w7.alloc (.cells (coreC ⟨s.obj,L,n⟩ (.slice xa L.length xc)).toArray 28)=w8 at s8 ⊢
    generalize w7.heap.size=p10 at s8 ⊢
    have q8:=s8.rules 0 rfl
    have s9:=s8.sub (List.sublist_cons_self _ _)
    have ac:(coreC ⟨s.obj,L,n⟩ (.slice xa L.length xc)).toArray=#[.int .i64 s.obj,.slice xa L.length xc,.int .i64 n]:=rfl
    rw [ac] at q8
    simp (disch:=first|omega|exact zF rfl|exact zG rfl|exact id|(simp only[zA,zB,zC,zD,bytesW];omega)) only[go_sem,c17S0,c17S1,c17S2,c17S5,c17S6,q8]
    refine bsW_agg ty49mkI rfl (by decide) (by decide) ?_
    simp (disch:=first|omega|exact zF rfl|exact zG rfl|exact id|(simp only[zA,zB,zC,zD,bytesW];omega)) only[go_sem,c17S0,c17S1,c17S2,c17S5,c17S6]
    refine push_core (c:=⟨s.obj,L,n⟩) s9 hvs (by omega) ty49mkI rfl (by decide) fun v' w' s10=>?_
    simp (disch:=first|omega|exact zF rfl|exact zG rfl|exact id|(simp only[zA,zB,zC,zD,bytesW];omega)) only[go_sem,c17S0,c17S1,c17S2,c17S5,c17S6]
    exact ⟨⟨by omega,by omega⟩,(k+1,v',acc++[⟨s.obj,L,n⟩],vs++[.slice xa L.length xc]),rfl,⟨hlt,by simp only; rw [List.length_append,List.length_singleton]; omega,by simp [hvs],s10,fun y h=>hall y (.core hr7 h)⟩,by simp only; omega⟩
  ·have hlt':¬ (k:Int)<segs.length:=by omega
   obtain rfl:k=segs.length:=by omega
   simp (disch:=first|omega|exact zF rfl|exact zG rfl|exact id|(simp only[zA,zB,zC,zD,bytesW];omega)) only[go_sem,c17S0,c17S1,c17S2,c17S5,c17S6,hlt']
   rw [List.drop_length] at hall
   exact ⟨⟨(acc,0),⟨segs,hby,hall _ .nil⟩,_,rfl,cores_rd hvs s5 fun j s v hs hv=>(s5.inv _ (coreInvs_mem acc vs j s v hs hv)).1⟩,Below.next b14 s5.bel⟩
 ·simp (disch:=first|omega|exact zF rfl|exact zG rfl|exact id|(simp only[zA,zB,zC,zD,bytesW];omega)) only[go_sem,c17S0,c17S1,c17S2,c17S5,c17S6,h0]
  exact ⟨⟨([],histP l),rfl,_,rfl,cores_nil _⟩,b1⟩
theorem rhistory_ok{w:World}{bud:Int}{v:Value}{l:List OpT}(hr:RdS w 11 OpT.enc v l)(hw:∀ o∈l,o.wf)(hl:l.length≤30)(hb:I64 bud)(hsm:∀ segs,Cut.Pure l→Cut.ByObj l segs→∀ s∈segs,s.ops.length≤6) :
  Ret Tryz.prog 18 [v,.int .i64 bud] w fun u w'=>(∃ x,HistO l bud x∧HistV w' x u)∧Below w.heap.size w w':=by
 obtain ⟨a,c,rfl,_⟩:=hr.form
 refine ent18 _ _ _ _ ?_
 simp (disch:=first|omega|exact zF rfl|exact zG rfl|exact id|(simp only[zA,zB,zC,zD,bytesW];omega)) only[go_sem,c18S2,c18S3,c18S6,c18S7]
 refine Ret.mono (rcheck_ok _ l w hr (by omega)) ?_
 rintro _ w1 ⟨rfl,b1⟩
 unfold HistO
 by_cases h0:histP l=0
 ·rw [h0]
  simp only [if_true]
  simp (disch:=first|omega|exact zF rfl|exact zG rfl|exact id|(simp only[zA,zB,zC,zD,bytesW];omega)) only[go_sem,c18S1,c18S2,c18S3,c18S6]
  refine Ret.mono (Cut.robjects_ok _ l w1 (hr.below b1 (by decide)) (by omega)) ?_
  rintro u w4 ⟨⟨segs,hby,hseg'⟩,b4⟩
  have hsl:=byObj_len hby
  have hgood:=fun s hs=>seg_good h0 hby hw (s:=s) hs
  have hsix:=hsm segs (Cut.pair_id (hist_good h0).2.1) hby
  obtain ⟨ps,cs,rfl,_⟩:=hseg'.form
  have b14:=Below.next b1 b4
  simp (disch:=first|omega|exact zF rfl|exact zG rfl|exact id|(simp only[zA,zB,zC,zD,bytesW];omega)) only[go_sem,c18S1,c18S2,c18S3,c18S7]
  refine W_loopU (fun x:Nat × Value × List CoreT × List Value=>[(6,x.2.1),(8,.int .i64 x.1)]) (fun x w'=>x.1≤segs.length∧x.2.2.1.length≤x.1∧x.2.2.2.length=x.2.2.1.length∧St w4 w' (fun _=>False) [.row x.2.1 32 3 x.2.2.1.length (coreCells x.2.2.1 x.2.2.2)] (coreInvs x.2.2.1 x.2.2.2)∧∀ y,HistR bud (segs.drop x.1) x.2.2.1 y→HistR bud segs [] y) (fun x=>segs.length - x.1) (0,.slice none 0 0,[],[]) rfl ⟨Nat.zero_le _,Nat.zero_le _,rfl,(St.start (W0:=w4)).nilRow 32 3,fun y h=>h⟩ ?_
  rintro ⟨k,vo,acc,vs⟩ w5 ⟨hk,hak,hvs,s5,hall⟩
  simp only at hk hak hvs s5 hall
  have hsg:=hseg'.below s5.bel (by decide) fun x c=>Cut.segR.below s5.bel x c
  by_cases hlt:k<segs.length
  ·have hlt':(k:Int)<segs.length:=by omega
   obtain ⟨q,rfl⟩:=hsg.ptr (by omega)
   obtain ⟨cc,hcl,⟨va,rfl,hva,hla⟩,hld,ea⟩:=hsg.elt (by decide) hlt
   obtain ⟨oa,oc,rfl,_⟩:=hva.form
   obtain ⟨g1,g2,g3,g4⟩:=hgood _ (List.getElem_mem hlt)
   have g6:=hsix _ (List.getElem_mem hlt)
   rw [List.drop_eq_getElem_cons hlt] at hall
   generalize segs[k]=s at *
   simp (disch:=first|omega|exact zF rfl|exact zG rfl|exact id|(simp only[zA,zB,zC,zD,bytesW];omega)) only[go_sem,c18S1,c18S2,c18S6,c18S7,hlt',hld,ea]
   refine ⟨by omega,?_⟩
   refine Ret.mono (robject_ok hva (by omega) g1 g2 g3 hb) ?_
   rintro u7 w7 ⟨⟨⟨x,e⟩,hr7,hv7⟩,b7⟩
   cases x with
   | none =>
    have hu7:u7=.tuple #[.agg #[.int .i64 0,.slice none 0 0,.int .i64 0],.bool false,.int .i64 e]:=hv7
    subst hu7
    have s7:=s5.call b7
    by_cases he:e=0
    ·subst he
     simp (disch:=first|omega|exact zF rfl|exact zG rfl|exact id|(simp only[zA,zB,zC,zD,bytesW];omega)) only[go_sem,c18S1,c18S2,c18S3,c18S6,c18S7]
     exact ⟨⟨by omega,by omega⟩,(k+1,vo,acc,vs),rfl,⟨hlt,by simp only; omega,hvs,s7.alloc' _,fun y h=>hall y (.none hr7 h)⟩,by simp only; omega⟩
    ·simp (disch:=first|omega|exact zF rfl|exact zG rfl|exact id|(simp only[zA,zB,zC,zD,bytesW];omega)) only[go_sem,c18S1,c18S2,c18S3,c18S6,c18S7,he]
     exact ⟨⟨([],e),⟨segs,hby,hall _ (.err hr7 he)⟩,_,rfl,cores_nil _⟩,Below.next b14 (s7.alloc' _).bel⟩
   | some x =>
    obtain ⟨L,n⟩:=x
    have he:e=0:=hr7.zero rfl
    subst he
    obtain ⟨vv,rfl,own7⟩:=hv7
    obtain ⟨xa,xc,rfl,_⟩:=own_slice own7
    have hLl:=hr7.len
    simp only [coreL] at hLl
    have s7:=newRow s5 b7 own7
    simp (disch:=first|omega|exact zF rfl|exact zG rfl|exact id|(simp only[zA,zB,zC,zD,bytesW];omega)) only[go_sem,c18S1,c18S3,c18S6,c18S7]
    have s8:=s7.box (coreC ⟨s.obj,L,n⟩ (.slice xa L.length xc)).toArray 32
    have ec:#[.int .i64 s.obj,.slice xa L.length xc,.int .i64 n]=(coreC ⟨s.obj,L,n⟩ (.slice xa L.length xc)).toArray:=rfl
    rw [ec]
    generalize w7.alloc (.cells (coreC ⟨s.obj,L,n⟩ (.slice xa L.length xc)).toArray 32)=w8 at s8 ⊢
    generalize w7.heap.size=p10 at s8 ⊢
    have q8:=s8.rules 0 rfl
    have s9:=s8.sub (List.sublist_cons_self _ _)
    have ac:(coreC ⟨s.obj,L,n⟩ (.slice xa L.length xc)).toArray=#[.int .i64 s.obj,.slice xa L.length xc,.int .i64 n]:=rfl
    rw [ac] at q8
    simp (disch:=first|omega|exact zF rfl|exact zG rfl|exact id|(simp only[zA,zB,zC,zD,bytesW];omega)) only[go_sem,c18S1,c18S2,c18S3,c18S6,c18S7,q8]
    refine bsW_agg ty52mkI rfl (by decide) (by decide) ?_
    simp (disch:=first|omega|exact zF rfl|exact zG rfl|exact id|(simp only[zA,zB,zC,zD,bytesW];omega)) only[go_sem,c18S1,c18S2,c18S3,c18S6,c18S7]
    refine push_core (c:=⟨s.obj,L,n⟩) s9 hvs (by omega) ty52mkI rfl (by decide) fun v' w' s10=>?_
    simp (disch:=first|omega|exact zF rfl|exact zG rfl|exact id|(simp only[zA,zB,zC,zD,bytesW];omega)) only[go_sem,c18S1,c18S2,c18S3,c18S6,c18S7]
    exact ⟨⟨by omega,by omega⟩,(k+1,v',acc++[⟨s.obj,L,n⟩],vs++[.slice xa L.length xc]),rfl,⟨hlt,by simp only; rw [List.length_append,List.length_singleton]; omega,by simp [hvs],s10,fun y h=>hall y (.core hr7 h)⟩,by simp only; omega⟩
  ·have hlt':¬ (k:Int)<segs.length:=by omega
   obtain rfl:k=segs.length:=by omega
   simp (disch:=first|omega|exact zF rfl|exact zG rfl|exact id|(simp only[zA,zB,zC,zD,bytesW];omega)) only[go_sem,c18S1,c18S2,c18S3,c18S6,c18S7,hlt']
   rw [List.drop_length] at hall
   exact ⟨⟨(acc,0),⟨segs,hby,hall _ .nil⟩,_,rfl,cores_rd hvs s5 fun j s v hs hv=>(s5.inv _ (coreInvs_mem acc vs j s v hs hv)).1⟩,Below.next b14 s5.bel⟩
 ·simp (disch:=first|omega|exact zF rfl|exact zG rfl|exact id|(simp only[zA,zB,zC,zD,bytesW];omega)) only[go_sem,c18S1,c18S2,c18S3,c18S6,c18S7,h0]
  refine Ret.mono (rcheck_ok _ l w1 (hr.below b1 (by decide)) (by omega)) ?_
  rintro _ w2 ⟨rfl,b2⟩
  simp (disch:=first|omega|exact zF rfl|exact zG rfl|exact id|(simp only[zA,zB,zC,zD,bytesW];omega)) only[go_sem,c18S1,c18S2,c18S3,c18S6,c18S7]
  exact ⟨⟨([],histP l),rfl,_,rfl,cores_nil _⟩,Below.next b1 b2⟩
open Go Go.Ann Go.RowKit Go.WideShapes
theorem shrinkHistories_ok{w:World}{bud:Int}{v:Value}{l:List OpT}(h:RdS w 11 OpT.enc v l)(hl:l.length≤1048576)(hw:∀ o∈l,o.wf)(hb:I64 bud) :
  Ret Tryz.prog 6 [v,.int .i64 bud] w fun u w'=>u=.bool true∧Below w.heap.size w w':=by
 obtain ⟨a,c,rfl,_⟩:=h.form
 refine ent6 _ _ _ _ ?_
 simp (disch:=first|omega|exact zF rfl|exact zG rfl|exact id|(simp only[zA,zB,zC,zD,bytesW];omega)) only[go_sem,c6S8,c6S9,c6S10,c6S11,c6S13]
 refine Ret.mono (Cut.robjects_ok _ l w h hl) ?_
 rintro u w1 ⟨⟨acc,hby,hseg⟩,b1⟩
 obtain ⟨ps,cs,rfl,_⟩:=hseg.form
 have hal:=byObj_len hby
 simp (disch:=first|omega|exact zF rfl|exact zG rfl|exact id|(simp only[zA,zB,zC,zD,bytesW];omega)) only[go_sem,c6S8,c6S9,c6S10,c6S11,c6S14]
 refine W_loopU (fun k:Nat=>[(6,.int .i64 k)]) (fun k w'=>Below w1.heap.size w1 w'∧k≤acc.length∧∀ j,(h:j<acc.length)→j<k→acc[j].ops.length≤6) (fun k=>acc.length - k) 0 rfl ⟨Below.refl _ _,Nat.zero_le _,fun j _ h=>by omega⟩ ?_
 rintro k w2 ⟨b2,hk,hsix⟩
 have hsg:=hseg.below b2 (by decide) fun x c=>Cut.segR.below b2 x c
 by_cases hlt:k<acc.length
 ·have hlt':(k:Int)<acc.length:=by omega
  obtain ⟨q,rfl⟩:=hsg.ptr (by omega)
  obtain ⟨cc,hcl,⟨va,rfl,hva,hla⟩,hld,ea⟩:=hsg.elt (by decide) hlt
  obtain ⟨oa,oc,rfl,_⟩:=hva.form
  by_cases h6:acc[k].ops.length≤6
  ·have h6':¬ 6<(acc[k].ops.length:Int):=by omega
   simp (disch:=first|omega|exact zF rfl|exact zG rfl|exact id|(simp only[zA,zB,zC,zD,bytesW];omega)) only[go_sem,c6S8,c6S9,c6S10,c6S11,c6S13,c6S14,hlt',ea,h6']
   refine ⟨by omega,⟨by omega,by omega⟩,k+1,rfl,⟨b2,hlt,fun j hj hjk=>?_⟩,by omega⟩
   rcases Nat.lt_or_ge j k with h' | h'
   ·exact hsix j hj h'
   ·obtain rfl:j=k:=by omega
    exact h6
  ·have h6':6<(acc[k].ops.length:Int):=by omega
   simp (disch:=first|omega|exact zF rfl|exact zG rfl|exact id|(simp only[zA,zB,zC,zD,bytesW];omega)) only[go_sem,c6S8,c6S9,c6S10,c6S11,c6S13,c6S14,hlt',ea,h6']
   refine ⟨by omega,Ret.mono (shawake_ok _) ?_⟩
   rintro _ w3 ⟨rfl,b3⟩
   simp (disch:=first|omega|exact zF rfl|exact zG rfl|exact id|(simp only[zA,zB,zC,zD,bytesW];omega)) only[go_sem,c6S8,c6S9,c6S10,c6S11,c6S13,c6S14]
   exact Below.next (Below.next b1 b2) b3
 ·have hlt':¬ (k:Int)<acc.length:=by omega
  have hsm:∀ segs,Cut.Pure l→Cut.ByObj l segs→∀ s∈segs,s.ops.length≤6:=fun segs hp hs s hm=>by
   cases Cut.byObj_unique hp hs hby
   obtain ⟨j,hj,rfl⟩:=List.mem_iff_getElem.1 hm
   exact hsix j hj (by omega)
  have b02:=Below.next b1 b2
  by_cases h30:l.length≤30
  ·have h30':¬ 30<(l.length:Int):=by omega
   simp (disch:=first|omega|exact zF rfl|exact zG rfl|exact id|(simp only[zA,zB,zC,zD,bytesW];omega)) only[go_sem,c6S8,c6S9,c6S10,c6S13,c6S14,hlt',h30']
   refine Ret.mono (history_ok (h.below b02 (by decide)) hw h30 hb hsm) ?_
   rintro u w3 ⟨⟨x,hx,vv,rfl,g3⟩,b3⟩
   obtain ⟨xa,xc,rfl,_⟩:=g3.form
   simp (disch:=first|omega|exact zF rfl|exact zG rfl|exact id|(simp only[zA,zB,zC,zD,bytesW];omega)) only[go_sem,c6S8,c6S9,c6S11,c6S13,c6S14]
   have b03:=Below.next b02 b3
   refine Ret.mono (rhistory_ok (h.below b03 (by decide)) hw h30 hb hsm) ?_
   rintro u w4 ⟨⟨y,hy,vy,rfl,g4⟩,b4⟩
   have e:=hx.one hw hy
   subst e
   obtain ⟨ya,yc,rfl,_⟩:=g4.form
   have b04:=Below.next b03 b4
   have g3':=g3.below b4 (by decide) fun x c=>coreR.below b4 x c
   have hlen:x.1.length≤1000000∧∀ c∈x.1,c.ops.length≤10:=by
    unfold HistO at hx
    by_cases h0:histP l=0
    ·rw [if_pos h0] at hx
     obtain ⟨segs,hs,hx⟩:=hx
     have hp:=Cut.pair_id (hist_good h0).2.1
     have:=byObj_len hs
     obtain ⟨p1,p2⟩:=hx.small (fun s hm=>Nat.le_trans (hsm segs hp hs s hm) (by decide)) (fun c hc=>by cases hc)
     simp only [List.length_nil] at p2
     exact ⟨by omega,p1⟩
    ·rw [if_neg h0] at hx
     subst hx
     exact ⟨by simp,fun c hc=>by cases hc⟩
   obtain ⟨x,e⟩:=x
   simp only at g3' g4 hlen
   simp (disch:=first|omega|exact zF rfl|exact zG rfl|exact id|(simp only[zA,zB,zC,zD,bytesW];omega)) only[go_sem,c6S8,c6S10,c6S11,c6S13,c6S14]
   simp (disch:=first|omega|exact zF rfl|exact zG rfl|exact id|(simp only[zA,zB,zC,zD,bytesW];omega)) only[go_sem,c6S9,c6S10,c6S11,c6S13,c6S14]
   refine W_loopU (fun k:Nat=>[(11,.int .i64 k)]) (fun k w'=>Below w4.heap.size w4 w'∧k≤x.length) (fun k=>x.length - k) 0 rfl ⟨Below.refl _ _,Nat.zero_le _⟩ ?_
   rintro i w5 ⟨b5,hi⟩
   have p5:=g3'.below b5 (by decide) fun x c=>coreR.below b5 x c
   have q5:=g4.below b5 (by decide) fun x c=>coreR.below b5 x c
   by_cases hilt:i<x.length
   ·have hilt':(i:Int)<x.length:=by omega
    obtain ⟨pa,rfl⟩:=p5.ptr (by omega)
    obtain ⟨qa,rfl⟩:=q5.ptr (by omega)
    obtain ⟨ca,hca,⟨va,rfl,hva⟩,hlda,eaa⟩:=p5.elt (by decide) hilt
    obtain ⟨cb,hcb,⟨vb,rfl,hvb⟩,hldb,eab⟩:=q5.elt (by decide) hilt
    have t1:=p5.blt (by decide) (by omega)
    have t2:=q5.blt (by decide) (by omega)
    have hd5:w5.drew.heap.size=w5.heap.size:=rfl
    have bd:Below w5.heap.size w5 w5.drew:=(Below.refl _ _).drew
    have hsmall:=hlen.2 _ (List.getElem_mem hilt)
    simp (disch:=first|omega|exact zF rfl|exact zG rfl|exact id|(simp only[zA,zB,zC,zD,bytesW];omega)) only[go_sem,c6S8,c6S9,c6S10,c6S11,c6S13,c6S14,hilt']
    refine c6draw0 (Chg (fun _=>False) _) (Chg.refl _ _) ?_
    simp (disch:=first|omega|exact zF rfl|exact zG rfl|exact id|(simp only[zA,zB,zC,zD,bytesW];omega)) only[go_sem,c6S8,c6S9,c6S10,c6S11,c6S13,c6S14,c6D0,hilt',hlda,hldb]
    refine ⟨by omega,by omega,Ret.mono (core_ok (ob:=x[i].obj) (n:=x[i].n) (hva.below bd (by decide)) (hvb.below bd (by decide)) (by omega)) ?_⟩
    rintro _ w6 ⟨rfl,b6⟩
    simp (disch:=first|omega|exact zF rfl|exact zG rfl|exact id|(simp only[zA,zB,zC,zD,bytesW];omega)) only[go_sem,c6S8,c6S9,c6S10,c6S11,c6S13,c6S14,c6D0]
    exact ⟨⟨by omega,by omega⟩,i+1,rfl,⟨Below.next b5 (Below.next bd b6),by omega⟩,by omega⟩
   ·have hilt':¬ (i:Int)<x.length:=by omega
    simp (disch:=first|omega|exact zF rfl|exact zG rfl|exact id|(simp only[zA,zB,zC,zD,bytesW];omega)) only[go_sem,c6S8,c6S9,c6S10,c6S11,c6S13,c6S14,hilt']
    refine Ret.mono (shawake_ok _) ?_
    rintro _ w6 ⟨rfl,b6⟩
    simp (disch:=first|omega|exact zF rfl|exact zG rfl|exact id|(simp only[zA,zB,zC,zD,bytesW];omega)) only[go_sem,c6S8,c6S9,c6S10,c6S11,c6S13,c6S14]
    exact Below.next b04 (Below.next b5 b6)
  ·have h30':30<(l.length:Int):=by omega
   simp (disch:=first|omega|exact zF rfl|exact zG rfl|exact id|(simp only[zA,zB,zC,zD,bytesW];omega)) only[go_sem,c6S8,c6S9,c6S10,c6S11,c6S13,c6S14,hlt',h30']
   refine Ret.mono (shawake_ok _) ?_
   rintro _ w3 ⟨rfl,b3⟩
   simp (disch:=first|omega|exact zF rfl|exact zG rfl|exact id|(simp only[zA,zB,zC,zD,bytesW];omega)) only[go_sem,c6S8,c6S9,c6S10,c6S11,c6S13,c6S14]
   exact Below.next b02 b3
theorem ops_arg{H:Type}{enc:TypeId × Value→H}{w:World}{r:Reach}{b base:Nat}{sp:Nat→Bool}{hd:Bool}{v:Value}{d:DataW H}{p:List MemPlace}
  (h:Value.okWide Tryz.prog w r b 22 v) (k:DataW.Trod enc Tryz.prog w base sp hd 22 v d p):∃ l:List OpT,RdS w 11 OpT.enc v l∧(∀ o∈l,o.wf)∧l.length+1≤Rows.uptoBulk d:=by
 obtain ⟨fuel,hk⟩:=k
 obtain ⟨l,v',h1,h2,h3,h4⟩:=opens_Ops enc w base sp hd fuel _ _ hk
 obtain ⟨a,n,c,rfl⟩:=okWide_slice Tryz.underlying22 h
 simp only [Value.cells,List.cons.injEq,and_true] at h1
 subst h1
 refine ⟨l,h2,h3,?_⟩
 obtain ⟨a',c',e',_⟩:=h2.form
 cases e'
 rcases Go.Deep.open_slice Tryz.underlying22 hk with ⟨e,ex⟩ | ⟨a',len,cap,m,n,D,Pl,e,_,_,_,_,ex,_⟩
 ·simp only [Value.cells,List.cons.injEq,Value.slice.injEq,and_true] at e
  have ex':=congrArg Prod.fst ex
  simp only at ex'
  rw [ex',e.2.1]
  exact bulk_one _
 ·simp only [Value.cells,List.cons.injEq,Value.slice.injEq,and_true] at e
  have ex':=congrArg Prod.fst ex
  simp only at ex'
  rw [ex',e.2.1]
  have:=bulk_len ((List.range len).map D)
  simp only [List.length_map,List.length_range] at this
  simp only [Rows.uptoBulk]
  omega
theorem shrinkHistories_law{H:Type}{enc:TypeId × Value→H}{w:World}{r:Reach}{b base:Nat}{sp:Nat→Bool}{hd:Bool}{v:Value}{d:DataW H}{p:List MemPlace}{budget:Int}
  (h:Value.okWide Tryz.prog w r b 22 v) (k:DataW.Trod enc Tryz.prog w base sp hd 22 v d p) (hk:Rows.uptoBulk d≤1048576) (hb:I64 budget) :
  Ret Tryz.prog 6 [v,.int .i64 budget] w fun u w'=>u=.bool true∧Below w.heap.size w w':=by
 obtain ⟨l,g1,g2,g3⟩:=ops_arg h k
 exact shrinkHistories_ok g1 (by omega) g2 hb
end Go.Proofs.YteiciplnfjnfjaaGreat

end
