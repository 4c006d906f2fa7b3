/- Texts put together by program. -/
import Derived.Test.YtoadmihnihfjkaaGreatQD5
set_option linter.unusedSimpArgs false
set_option linter.unusedVariables false
set_option maxRecDepth 100000
noncomputable section

namespace Go.Proofs.YtoadmihnihfjkaaGreat
open Go Go.Ann Go.RowKit Go.WideShapes
def smallP(l:List OpT):Bool:=decide (l.length≤10) && decide (histP l=0)
theorem small_ok(v:Value)(l:List OpT)(w:World)(h:RdS w 11 OpT.enc v l) :
  Ret Tryz.prog 19 [v] w fun u w'=>u=.bool (smallP l)∧Below w.heap.size w w':=by
 obtain ⟨a,c,rfl,_⟩:=h.form
 refine ent19 _ _ _ ?_
 by_cases hl:l.length≤10
 ·have hl':(l.length:Int)≤10:=by omega
  simp (disch:=first|omega|exact zF rfl|exact zG rfl|exact fun h=>h|(simp only[zA,zB,zC,zD,bytesW];omega)) only[go_sem,hl']
  refine Ret.mono (rcheck_ok _ l w h (by omega)) ?_
  rintro _ w1 ⟨rfl,b1⟩
  simp (disch:=first|omega|exact zF rfl|exact zG rfl|exact fun h=>h|(simp only[zA,zB,zC,zD,bytesW];omega)) only[go_sem]
  by_cases he:histP l=0
  ·exact ⟨by simp [smallP,hl,he],b1⟩
  ·exact ⟨by simp [smallP,hl,he],b1⟩
 ·have hl':¬ (l.length:Int)≤10:=by omega
  simp (disch:=first|omega|exact zF rfl|exact zG rfl|exact fun h=>h|(simp only[zA,zB,zC,zD,bytesW];omega)) only[go_sem,hl']
  exact ⟨by simp [smallP,hl],Below.refl _ _⟩
theorem byProc_perm{l l':List OpT}{acc:List Seg}(hp:l.Perm l')(h:Cut.ByProc l acc):Cut.ByProc l' acc:=by
 refine ⟨h.up,fun s hs=>⟨(h.sorts s hs).1.trans (hp.filter _),(h.sorts s hs).2⟩,h.kind,fun o ho=>h.all o (hp.mem_iff.2 ho)⟩
theorem byObj_perm{l l':List OpT}{acc:List Seg}(hp:l.Perm l')(h:Cut.ByObj l acc):Cut.ByObj l' acc:=by
 refine ⟨h.up,fun s hs=>⟨(h.sorts s hs).1.trans (hp.filter _),(h.sorts s hs).2⟩,h.kind,fun o ho=>h.all o (hp.mem_iff.2 ho)⟩
theorem ofProc_snoc(x:Int){l:List OpT}{k:Nat}(h:k<l.length):Cut.ofProc x (l.take (k+1))=Cut.ofProc x (l.take k)++(if l[k].Proc=x then [l[k]] else []):=by
 rw [List.take_succ_eq_append_getElem h]
 unfold Cut.ofProc
 rw [List.filter_append]
 congr 1
 by_cases e:l[k].Proc=x <;> simp [e]
theorem mine_one{l:List OpT}{x:Int}{acc:List Seg}(h:Cut.ByProc (Cut.ofProc x l) acc)(hne:Cut.ofProc x l≠[]):∃ s,acc=[s]∧s.ops.Perm (Cut.ofProc x l):=by
 have hx:∀ o∈Cut.ofProc x l,o.Proc=x:=fun o ho=>of_decide_eq_true (List.mem_filter.1 ho).2
 have hobj:∀ s∈acc,s.obj=x:=fun s hs=>by
  obtain ⟨o,r,e,_⟩:=h.kind s hs
  obtain ⟨a,b⟩:=(byProc_mem h hs o).1 (by rw [e]; exact List.mem_cons_self)
  rw [← b,hx o a]
 match acc,h,hobj with
 | [],h,_ =>
  obtain ⟨o,ho⟩:=List.exists_mem_of_ne_nil _ hne
  obtain ⟨s,hs,_⟩:=h.all o ho
  cases hs
 | [s],h,hobj =>
  refine ⟨s,rfl,?_⟩
  have h1:=(h.sorts s (by simp)).1
  have e:Cut.ofProc s.obj (Cut.ofProc x l)=Cut.ofProc x l:=by
   rw [hobj s (by simp)]
   unfold Cut.ofProc
   rw [List.filter_filter]
   simp
  rw [e] at h1
  exact h1
 | s::t::r,h,hobj =>
  have h1:=(List.pairwise_cons.1 h.up).1 t (by simp)
  rw [hobj s (by simp),hobj t (by simp)] at h1
  omega
theorem one_plain{l:List OpT}{x:Int}{accP accO:List Seg}{e n:Int}{r:Option (List Int)}(hg:histP l=0)(hl:l.length≤10)(hP:Cut.ByProc (Cut.ofProc x l) accP)(hO:Cut.ByObj (Cut.ofProc x l) accO)(hs:SeqR (progsW accP) (objsW accO) (startW accP accO) 32768 e n r):e=0∧(Cut.ofProc x l≠[]→r.isSome=decide ((aloneD accP).length=1)):=by
 obtain ⟨_,hup,_⟩:=hist_good hg
 have hnd:(l.map OpT.ID).Nodup:=nodup_ids hup
 have hsub:(Cut.ofProc x l).Sublist l:=List.filter_sublist
 have hm:((Cut.ofProc x l).map OpT.ID).Nodup:=hnd.sublist (hsub.map _)
 have hmn:(Cut.ofProc x l).Nodup:=by
  unfold List.Nodup at hm ⊢
  rw [List.pairwise_map] at hm
  exact hm.imp fun h e=>h (by rw [e])
 have hlen:=Cut.ofProc_len x l
 have hrem:=rem_start (accO:=accO) hP hm
 have hP1:(progsW accP).length≤1:=by
  by_cases hne:Cut.ofProc x l=[]
  ·have:=byProc_len hP
   rw [hne] at this
   simp only [List.length_nil] at this
   simp only [progsW,List.length_map]
   omega
  ·obtain ⟨s,rfl,_⟩:=mine_one hP hne
   simp [progsW]
 have hb:∀ {q:List Sp},BfsR (progsW accP) (objsW accO) 32768 [startW accP accO] 0 q→q.length≤11:=fun h=>by
  have:=h.bound1 hP1
  simp only [List.drop_zero,List.map_cons,List.map_nil,List.sum_cons,List.sum_nil,List.length_singleton] at this
  omega
 cases hs with
 | over h hr=>have:=hb h; omega
 | all h hr =>
  refine ⟨rfl,fun hne=>?_⟩
  obtain ⟨s,rfl,hp⟩:=mine_one hP hne
  have hin:∀ o∈Cut.ofProc x l,o∈l:=fun o ho=>hsub.subset ho
  have hdn:=proc_done hg hin hmn hP (s:=s) (by simp)
  have hpure:=pure_nodup hm
  have h1:validD s.ops (doneIds s.ops)=validP (progsW [s]) (objsW accO) (startW [s] accO) (doneIds s.ops):=by
   refine validD_eq (pure_nodup ?_) (byProc_perm hp.symm hP) (byObj_perm hp.symm hO)
   exact ((hp.map OpT.ID).nodup_iff).2 hm
  have h2:=one_best (obs:=objsW accO) hdn (progs_one hP hpure) (st:=(startW [s] accO).st)
  have h3:(bestS (progsW [s]) (objsW accO) (startW [s] accO)).isSome=validP (progsW [s]) (objsW accO) (startW [s] accO) (doneIds s.ops):=h2
  rw [h3,← h1]
  cases e:aloneQ s with
  | true =>
   have e':validD s.ops (doneIds s.ops)=true:=e
   rw [e']
   simp [aloneD,e]
  | false =>
   have e':validD s.ops (doneIds s.ops)=false:=e
   rw [e']
   simp [aloneD,e]
theorem weakOne_ok(v:Value)(l:List OpT)(x:Int)(w:World)(h:RdS w 11 OpT.enc v l)(hw:∀ o∈l,o.wf) :
  Ret Tryz.prog 8 [v,.int .i64 x] w fun u w'=>u=.bool true∧Below w.heap.size w w':=by
 have h0:=h
 obtain ⟨a,c,rfl,_⟩:=h.form
 refine ent8 _ _ _ _ ?_
 have out:∀ {w':World},Below w.heap.size w w'→Ret Tryz.prog 10 [] w' fun u w''=>u=.bool true∧Below w.heap.size w w'':=fun b=>by
  refine Ret.mono (awake_ok _) ?_
  rintro _ w2 ⟨rfl,b2⟩
  exact ⟨rfl,Below.next b b2⟩
 simp (disch:=first|omega|exact zF rfl|exact zG rfl|exact fun h=>h|(simp only[zA,zB,zC,zD,bytesW];omega)) only[go_sem,c8L0,c8S5,c8S6,c8S7]
 refine Ret.mono (small_ok _ l w h) ?_
 rintro _ w1 ⟨rfl,b1⟩
 cases hs:smallP l with
 | false =>
  simp (disch:=first|omega|exact zF rfl|exact zG rfl|exact fun h=>h|(simp only[zA,zB,zC,zD,bytesW];omega)) only[go_sem,c8S1,c8L0,c8S5,c8S6,c8S7,c8S8,hs]
  refine Ret.mono (out b1) ?_
  rintro _ w2 ⟨rfl,b2⟩
  simp (disch:=first|omega|exact zF rfl|exact zG rfl|exact fun h=>h|(simp only[zA,zB,zC,zD,bytesW];omega)) only[go_sem,c8S1,c8L0,c8S5,c8S6,c8S7,c8S8]
  exact b2
 | true =>
  by_cases hx0:x<0
  ·simp (disch:=first|omega|exact zF rfl|exact zG rfl|exact fun h=>h|(simp only[zA,zB,zC,zD,bytesW];omega)) only[go_sem,c8S1,c8L0,c8S5,c8S6,c8S7,c8S8,hs,hx0]
   refine Ret.mono (out b1) ?_
   rintro _ w2 ⟨rfl,b2⟩
   simp (disch:=first|omega|exact zF rfl|exact zG rfl|exact fun h=>h|(simp only[zA,zB,zC,zD,bytesW];omega)) only[go_sem,c8S1,c8L0,c8S5,c8S6,c8S7,c8S8]
   exact b2
  ·by_cases hx1:x > 1023
   ·simp (disch:=first|omega|exact zF rfl|exact zG rfl|exact fun h=>h|(simp only[zA,zB,zC,zD,bytesW];omega)) only[go_sem,c8S1,c8L0,c8S5,c8S6,c8S7,c8S8,hs,hx0,hx1]
    refine Ret.mono (out b1) ?_
    rintro _ w2 ⟨rfl,b2⟩
    simp (disch:=first|omega|exact zF rfl|exact zG rfl|exact fun h=>h|(simp only[zA,zB,zC,zD,bytesW];omega)) only[go_sem,c8S1,c8L0,c8S5,c8S6,c8S7,c8S8]
    exact b2
   ·simp (disch:=first|omega|exact zF rfl|exact zG rfl|exact fun h=>h|(simp only[zA,zB,zC,zD,bytesW];omega)) only[go_sem,c8S1,c8S5,c8S6,c8S8,hs,hx0,hx1]
    obtain ⟨hl,hg⟩:l.length≤10∧histP l=0:=by simpa [smallP] using hs
    have h1:=h.below b1 (by decide)
    obtain ⟨hchk,_⟩:=hist_more hg
    obtain ⟨_,hup,hkd⟩:=hist_good hg
    have hnd:(l.map OpT.ID).Nodup:=nodup_ids hup
    have hsub:(Cut.ofProc x l).Sublist l:=List.filter_sublist
    have hin:∀ o∈Cut.ofProc x l,o∈l:=fun o ho=>hsub.subset ho
    have hlen:=Cut.ofProc_len x l
    refine W_loopU (fun y:Value × Nat=>[(5,y.1),(6,.int .i64 y.2)]) (fun y w'=>y.2≤l.length∧St w1 w' (fun _=>False) [.row y.1 52 11 (Cut.ofProc x (l.take y.2)).length ((Cut.ofProc x (l.take y.2)).flatMap OpT.enc)] []) (fun y=>l.length - y.2) (.slice none 0 0,0) rfl ⟨Nat.zero_le _,(St.start (W0:=w1)).nilRow 52 11⟩ ?_
    rintro ⟨v2,k⟩ w2 ⟨hk2,s2⟩
    simp only at hk2 s2
    by_cases hkl:k<l.length
    ·have hkl':(k:Int)<l.length:=by omega
     obtain ⟨q,rfl⟩:=h.ptr (by omega)
     have ek:=h1.eltB s2.bel OpT.len (by decide) hkl
     have ck:=cellsO_below s2.bel (h1.at OpT.len hkl)
     have ak:=l[k].at
     have hsn:=ofProc_snoc x hkl
     have hf1:=Cut.ofProc_len x (l.take k)
     rw [List.length_take] at hf1
     by_cases he:l[k].Proc=x
     ·rw [if_pos he] at hsn
      simp (disch:=first|omega|exact zF rfl|exact zG rfl|exact fun h=>h|(simp only[zA,zB,zC,zD,bytesW];omega)) only[go_sem,c8S1,c8L0,c8S5,c8S6,c8S8,c8L0,hkl',ek,ak,ck,he]
      refine ⟨by omega,by omega,bsW_agg ty22mkI rfl (by decide) (by decide) ?_⟩
      have hrd:Rd (w2.alloc (.cells l[k].enc.toArray 52)) 11 (.slice (some ⟨w2.heap.size,0,none⟩) 1 1) 1 l[k].enc:=rd_new (t:=52) (sz:=11) (n:=1) (cs:=l[k].enc.toArray) rfl
      have s3:=s2.alloc' (.cells l[k].enc.toArray 52)
      generalize w2.alloc (.cells l[k].enc.toArray 52)=w3 at s3 hrd ⊢
      simp (disch:=first|omega|exact zF rfl|exact zG rfl|exact fun h=>h|(simp only[zA,zB,zC,zD,bytesW];omega)) only[go_sem,c8S1,c8L0,c8S5,c8S6,c8S8]
      refine s3.append 0 rfl ty22mkI rfl (by decide) hrd l[k].one (by omega) (by omega) ?_
      intro v4 w4 s4 _
      simp only [List.set_cons_zero] at s4
      simp (disch:=first|omega|exact zF rfl|exact zG rfl|exact fun h=>h|(simp only[zA,zB,zC,zD,bytesW];omega)) only[go_sem,c8S1,c8L0,c8S5,c8S6,c8S8]
      refine ⟨⟨by omega,by omega⟩,(v4,k+1),rfl,⟨hkl,?_⟩,by simp only; omega⟩
      simp only
      have e1:(Cut.ofProc x (l.take k)++[l[k]]).length=(Cut.ofProc x (l.take k)).length+1:=by simp
      have e2:(Cut.ofProc x (l.take k)++[l[k]]).flatMap OpT.enc=(Cut.ofProc x (l.take k)).flatMap OpT.enc++l[k].enc:=by rw [List.flatMap_append]; simp
      rw [hsn,e1,e2]
      exact s4
     ·rw [if_neg he,List.append_nil] at hsn
      simp (disch:=first|omega|exact zF rfl|exact zG rfl|exact fun h=>h|(simp only[zA,zB,zC,zD,bytesW];omega)) only[go_sem,c8S1,c8L0,c8S5,c8S6,c8S8,c8L0,hkl',ek,ak,ck,he]
      refine ⟨by omega,⟨by omega,by omega⟩,(v2,k+1),rfl,⟨hkl,?_⟩,by simp only; omega⟩
      simp only
      rw [hsn]
      exact s2
    ·have hkl':¬ (k:Int)<l.length:=by omega
     obtain rfl:k=l.length:=by omega
     rw [List.take_length] at s2
     have hr2:RdS w2 11 OpT.enc v2 (Cut.ofProc x l):=RdS.of_own (s2.row 0 rfl)
     have b2:Below w.heap.size w w2:=Below.next b1 s2.bel
     obtain ⟨accO,hO⟩:=byObj_some (Cut.ofProc x l)
     have hmn:((Cut.ofProc x l).map OpT.ID).Nodup:=hnd.sublist (hsub.map _)
     obtain ⟨a2,c2,rfl,_⟩:=hr2.form
     simp (disch:=first|omega|exact zF rfl|exact zG rfl|exact fun h=>h|(simp only[zA,zB,zC,zD,bytesW];omega)) only[go_sem,c8S1,c8L0,c8S5,c8S7,c8S8,c8L0,hkl']
     refine Ret.mono (seq_ok _ _ 32768 w2 hr2 (fun o ho=>hw o (hin o ho)) hmn (fun a ha b hb=>hkd a (hin a ha) b (hin b hb)) hO) ?_
     rintro _ w3 ⟨iv,ok,n,e,rfl,b3,sv⟩
     obtain ⟨r,accP,hP,hr,rfl,hiv⟩:=sv.good (by omega) (firstChk_all fun o ho=>hchk o (hin o ho))
     obtain ⟨ia,ic,rfl,_⟩:=hiv.form
     obtain ⟨rfl,hall⟩:=one_plain hg hl hP hO hr
     simp (disch:=first|omega|exact zF rfl|exact zG rfl|exact fun h=>h|(simp only[zA,zB,zC,zD,bytesW];omega)) only[go_sem,c8S1,c8L0,c8S6,c8S7,c8S8]
     refine Ret.mono (alone_ok _ _ w3 (hr2.below b3 (by decide)) (by omega) hmn (fun a ha b hb=>hkd a (hin a ha) b (hin b hb)) fun o ho=>hw o (hin o ho)) ?_
     rintro xv w4 ⟨aP,hA,hx,b4⟩
     obtain rfl:=Cut.byProc_unique (pure_nodup hmn) hA hP
     obtain ⟨xa,xc,rfl,_⟩:=hx.form
     have b5:Below w.heap.size w w4:=Below.next (Below.next b2 b3) b4
     by_cases hne:Cut.ofProc x l=[]
     ·have hz:(((Cut.ofProc x l).length:Nat):Int)=0:=by rw [hne]; rfl
      simp (disch:=first|omega|exact zF rfl|exact zG rfl|exact fun h=>h|(simp only[zA,zB,zC,zD,bytesW];omega)) only[go_sem,c8S1,c8L0,c8S5,c8S6,c8S7,c8S8,hz]
      refine Ret.mono (out b5) ?_
      rintro _ w6 ⟨rfl,b6⟩
      simp (disch:=first|omega|exact zF rfl|exact zG rfl|exact fun h=>h|(simp only[zA,zB,zC,zD,bytesW];omega)) only[go_sem,c8S1,c8L0,c8S5,c8S6,c8S7,c8S8]
      exact b6
     ·have hz:¬ (((Cut.ofProc x l).length:Nat):Int)=0:=by
       have:=List.length_pos_iff.2 hne
       omega
      have hal:=hall hne
      by_cases h11:(aloneD aP).length=1
      ·have h12:(((aloneD aP).length:Nat):Int)=1:=by omega
       rw [decide_eq_true h11] at hal
       simp (disch:=first|omega|exact zF rfl|exact zG rfl|exact fun h=>h|(simp only[zA,zB,zC,zD,bytesW];omega)) only[go_sem,c8S1,c8L0,c8S5,c8S6,c8S7,c8S8,hz,h12,hal]
       refine Ret.mono (out b5) ?_
       rintro _ w6 ⟨rfl,b6⟩
       simp (disch:=first|omega|exact zF rfl|exact zG rfl|exact fun h=>h|(simp only[zA,zB,zC,zD,bytesW];omega)) only[go_sem,c8S1,c8L0,c8S5,c8S6,c8S7,c8S8]
       exact b6
      ·have h12:¬ (((aloneD aP).length:Nat):Int)=1:=by omega
       rw [decide_eq_false h11] at hal
       simp (disch:=first|omega|exact zF rfl|exact zG rfl|exact fun h=>h|(simp only[zA,zB,zC,zD,bytesW];omega)) only[go_sem,c8S1,c8L0,c8S5,c8S6,c8S7,c8S8,hz,h12,hal]
       refine Ret.mono (out b5) ?_
       rintro _ w6 ⟨rfl,b6⟩
       simp (disch:=first|omega|exact zF rfl|exact zG rfl|exact fun h=>h|(simp only[zA,zB,zC,zD,bytesW];omega)) only[go_sem,c8S1,c8L0,c8S5,c8S6,c8S7,c8S8]
       exact b6
open Go Go.Ann Go.RowKit Go.WideShapes
theorem weakOne_law{H:Type}{enc:TypeId × Value→H}{w:World}{r:Reach}{b base:Nat}{sp:Nat→Bool}{hd:Bool}{v:Value}{d:DataW H}{p:List MemPlace}{x:Int}
  (h:Value.okWide Tryz.prog w r b 22 v) (k:DataW.Trod enc Tryz.prog w base sp hd 22 v d p) :
  Ret Tryz.prog 8 [v,.int .i64 x] w fun u w'=>u=.bool true∧Below w.heap.size w w':=by
 obtain ⟨xs,q1,q2,q3⟩:=Opens.slice_arg opens_Ops Tryz.underlying22 h k
 exact weakOne_ok _ xs x w q1 q2
end Go.Proofs.YtoadmihnihfjkaaGreat

end
