/- Texts put together by program. -/
import Derived.Test.YtoadmihnihfjkaaGreatQC6
set_option linter.unusedSimpArgs false
set_option linter.unusedVariables false
set_option maxRecDepth 100000
noncomputable section

namespace Go.Proofs.YtoadmihnihfjkaaGreat
open Go Go.Ann Go.RowKit
theorem opAt_eq{accP:List Seg}{d:List Nat}{k:Nat}(hd:d.length=accP.length)(hk:k<accP.length):opAt (progsW accP) d k=accP[k].ops[d.getD k 0]?:=by
 unfold opAt progsW
 rw [List.getElem?_map,List.getElem?_eq_getElem hk,List.getElem?_eq_getElem (by omega)]
 simp [List.getD_eq_getElem?_getD,List.getElem?_eq_getElem (show k<d.length by omega)]
theorem seg_same{acc:List Seg}(hu:acc.Pairwise fun a b=>a.obj<b.obj){i j:Nat}(hi:i<acc.length)(hj:j<acc.length)(h:acc[i].obj=acc[j].obj):i=j:=by
 rcases Nat.lt_trichotomy i j with h1 | h1 | h1
 ·have:=List.pairwise_iff_getElem.1 hu i j hi hj h1; omega
 ·exact h1
 ·have:=List.pairwise_iff_getElem.1 hu j i hj hi h1; omega
theorem kOf_none{P:List (List OpT)}{d:List Nat}{id:Int}(h:∀ k o,opAt P d k=some o→o.ID≠id):kOf P d id=none:=by
 unfold kOf
 refine List.find?_eq_none.2 fun k _=>?_
 unfold isOp
 cases e:opAt P d k with
 | none=>simp
 | some o=>simpa using h k o e
theorem kOf_l{l:List OpT}{accP:List Seg}(hP:Cut.ByProc l accP){d:List Nat}{id:Int}(h:∀ o∈l,o.ID≠id):kOf (progsW accP) d id=none :=
 kOf_none fun k o ho=>by
  obtain ⟨hk,hm⟩:=mem_opAt ho
  have hk2:k<accP.length:=by simpa [progsW] using hk
  rw [progs_getD hk2] at hm
  exact h o ((byProc_mem hP (List.getElem_mem hk2) o).1 hm).1
theorem kOf_not{l:List OpT}{accP:List Seg}(hP:Cut.ByProc l accP)(hl:Cut.Pure l){d:List Nat}(hd:d.length=accP.length){o:OpT}(ho:o∈l){i:Nat}(hi:i<accP.length)(hio:accP[i].obj=o.Proc)(h:accP[i].ops[d.getD i 0]?≠some o):kOf (progsW accP) d o.ID=none :=
 kOf_none fun k o' ho' e=>by
  obtain ⟨hk,hm⟩:=mem_opAt ho'
  have hk2:k<accP.length:=by simpa [progsW] using hk
  rw [progs_getD hk2] at hm
  obtain ⟨m1,m2⟩:=(byProc_mem hP (List.getElem_mem hk2) o').1 hm
  have:o'=o:=hl o' m1 o ho e
  subst this
  have:k=i:=seg_same hP.up hk2 hi (by rw [hio,m2])
  subst this
  rw [opAt_eq hd hi] at ho'
  exact h ho'
theorem kOf_yes{l:List OpT}{accP:List Seg}(hP:Cut.ByProc l accP)(hl:Cut.Pure l){d:List Nat}(hd:d.length=accP.length){o:OpT}{i:Nat}(hi:i<accP.length)(h:accP[i].ops[d.getD i 0]?=some o):kOf (progsW accP) d o.ID=some i :=
 kOf_of (fun k k' o o' h1 h2 e=>progs_one hP hl d k k' o o' h1 h2 e) (by rw [opAt_eq hd hi]; exact h)
structure VaS(accP accO:List Seg)(s:Sp)(SL:List (Int × VS × Nat))(dm:List (Int × Nat × Nat)):Prop where
 st:∀ x,(h:x<accO.length)→s.st.getD x []=match getM accO[x].obj SL with | some p=>p.2 | none=>firstP accO[x].kind
 dn:∀ k,(h:k<accP.length)→s.done.getD k 0=(getM accP[k].obj dm).getD 0
theorem VaS.start{accP accO:List Seg}:VaS accP accO (startW accP accO) [] []:=by
 refine ⟨fun x h=>?_,fun k h=>?_⟩
 ·unfold startW
  simp only [getM]
  rw [List.getD_eq_getElem?_getD,List.getElem?_map,List.getElem?_eq_getElem h]
  rfl
 ·unfold startW
  simp only [getM]
  rw [List.getD_eq_getElem?_getD,List.getElem?_replicate]
  split <;> rfl
theorem VaS.move{accP accO:List Seg}{s:Sp}{SL:List (Int × VS × Nat)}{dm:List (Int × Nat × Nat)}(h:VaS accP accO s SL dm)(huP:accP.Pairwise fun a b=>a.obj<b.obj)(huO:accO.Pairwise fun a b=>a.obj<b.obj)(hdl:s.done.length=accP.length)(hsl:s.st.length=accO.length){i x:Nat}(hi:i<accP.length)(hx:x<accO.length)(p:VS)(c c':Nat) :
  VaS accP accO ⟨s.done.set i (s.done.getD i 0+1),s.st.set x p.2⟩ (setM accO[x].obj p c SL) (setM accP[i].obj (s.done.getD i 0+1) c' dm):=by
 refine ⟨fun y hy=>?_,fun k hk=>?_⟩
 ·simp only
  rw [getM_set]
  by_cases e:x=y
  ·subst e
   rw [if_pos rfl,getD_set_eq (by omega)]
  ·rw [if_neg fun h=>e (seg_same huO hx hy h.symm),getD_set_ne e]
   exact h.st y hy
 ·simp only
  rw [getM_set]
  by_cases e:i=k
  ·subst e
   rw [if_pos rfl,getD_set_eq (by omega)]
   rfl
  ·rw [if_neg fun h=>e (seg_same huP hi hk h.symm),getD_set_ne e]
   exact h.dn k hk
theorem setM_mem{κ ν:Type}[DecidableEq κ]{p:κ}{v:ν}{c:Nat}:∀ {d:List (κ × ν × Nat)} {x:κ × ν × Nat},x∈setM p v c d→x.2.1=v∨∃ y∈d,y.2.1=x.2.1
 | [],x,h=>by
  have h:x∈[(p,v,c)]:=h
  rw [List.mem_singleton] at h
  exact .inl (by rw [h])
 | y::d,x,h=>by
  by_cases e:p=y.1
  ·rw [show setM p v c (y::d)=(y.1,v,y.2.2)::d from if_pos e] at h
   rcases List.mem_cons.1 h with rfl | h
   ·exact .inl rfl
   ·exact .inr ⟨x,List.mem_cons_of_mem _ h,rfl⟩
  ·rw [show setM p v c (y::d)=y::setM p v c d from if_neg e] at h
   rcases List.mem_cons.1 h with rfl | h
   ·exact .inr ⟨x,List.mem_cons_self,rfl⟩
   ·rcases setM_mem h with h | ⟨z,hz,e⟩
    ·exact .inl h
    ·exact .inr ⟨z,List.mem_cons_of_mem _ hz,e⟩
theorem getM_in{κ ν:Type}[DecidableEq κ]{p:κ}{v:ν}:∀ {d:List (κ × ν × Nat)},getM p d=some v→v∈d.map fun x=>x.2.1
 | [],h=>by cases h
 | y::d,h=>by
  rw [getM] at h
  by_cases e:p=y.1
  ·rw [if_pos e] at h
   cases h
   exact List.mem_cons_self
  ·rw [if_neg e] at h
   exact List.mem_cons_of_mem _ (getM_in h)
theorem vs_set{W0 w:World}{F:Nat→Prop}{L:List Res}{I:List Inv}{SL:List (Int × VS × Nat)}{ob:Int}{p:VS}{c:Nat}(h:St W0 w F L (Inv.rd 1 intE p.1 p.2::Inv.vs (SL.map fun x=>x.2.1)::I)):St W0 w F L (Inv.vs ((setM ob p c SL).map fun x=>x.2.1)::I):=by
 have h1:=h.get 0 rfl
 have h2:=h.get 1 rfl
 have hm:∀ q∈(setM ob p c SL).map (fun x=>x.2.1),q=p∨q∈SL.map fun x=>x.2.1:=fun q hq=>by
  obtain ⟨x,hx,rfl⟩:=List.mem_map.1 hq
  rcases setM_mem hx with h | ⟨y,hy,e⟩
  ·exact .inl h
  ·exact .inr (by rw [← e]; exact List.mem_map_of_mem hy)
 refine (St.keepU h (Inv.vs ((setM ob p c SL).map fun x=>x.2.1)) (fun q hq=>?_) fun k hk=>?_).inv_sub fun a ha=>?_
 ·rcases hm q hq with rfl | hq
  ·exact h1
  ·exact h2 q hq
 ·obtain ⟨q,hq,hk⟩:=hk
  rcases hm q hq with rfl | hq
  ·exact ⟨_,List.mem_cons_self,hk⟩
  ·exact ⟨_,List.mem_cons_of_mem _ List.mem_cons_self,q,hq,hk⟩
 ·rcases List.mem_cons.1 ha with rfl | ha
  ·exact List.mem_cons_self
  ·simp [ha]
theorem valid1_ok(o:OpT)(b:Nat)(id:Int)(w:World)(h:Blk w b #[.int .i64 id] 3) :
  Ret Tryz.prog 39 [.agg o.enc.toArray,.pointer (some ⟨b,0,none⟩)] w fun u w'=>u=.bool (decide (o.ID=id))∧Below w.heap.size w w':=by
 refine ent39 _ _ _ _ ?_
 have r:=(h.alloc (.cells o.enc.toArray 52)).rules
 have ao:=o.at
 have lb:=h.lt
 simp (disch:=first|omega|exact zF rfl|exact zG rfl|exact(·)|(simp only[zA,zB,zC,zD,bytesW];omega)) only[go_sem,r,ao]
 (repeat' (first | with_reducible exact Below.refl _ _ | with_reducible assumption | (with_reducible refine Below.drew ?_) | (with_reducible refine Below.alloc ?_ ?_ _) | (with_reducible refine Below.setCell ?_ ?_ _) | (with_reducible refine Below.fill ?_ ?_) | (with_reducible refine Below.via (by assumption) ?_ ?_) | omega | (simp only [World.size_alloc,World.size_drew,World.size_setCell,size_fill,bytesW]; omega)))
theorem valid2_ok(o:OpT)(w:World):Ret Tryz.prog 43 [.agg o.enc.toArray] w fun u w'=>u=.bool o.Done∧Below w.heap.size w w':=by
 refine ent43 _ _ _ ?_
 have ao:=o.at
 simp (disch:=first|omega|exact zF rfl|exact zG rfl|exact(·)|(simp only[zA,zB,zC,zD,bytesW];omega)) only[go_sem,ao]
 (repeat' (first | with_reducible exact Below.refl _ _ | with_reducible assumption | (with_reducible refine Below.drew ?_) | (with_reducible refine Below.alloc ?_ ?_ _) | (with_reducible refine Below.setCell ?_ ?_ _) | (with_reducible refine Below.fill ?_ ?_) | (with_reducible refine Below.via (by assumption) ?_ ?_) | omega | (simp only [World.size_alloc,World.size_drew,World.size_setCell,size_fill,bytesW]; omega)))
abbrev atM(accP:List Seg):List (Int × Nat × Nat):=plM (accP.map Seg.obj) 0
def ValidV(l:List OpT)(accO:List Seg)(ids:List Int)(w:World)(u:Value)(w':World):Prop :=
 ∃ accP,Cut.ByProc l accP∧u=.bool (validP (progsW accP) (objsW accO) (startW accP accO) ids)∧Below w.heap.size w w'
theorem valid_last{w w1:World}{F:Nat→Prop}{L:List Res}{I:List Inv}{accP accO:List Seg}{vs:List Value}{s:Sp}{SL:List (Int × VS × Nat)}{dm:List (Int × Nat × Nat)}{c6 dc pc M:Nat}{pa:Option Addr}{K:Value→World→Prop}
  (hk:∀ q∈accP,∃ o r,q.ops=o::r∧o.Proc=q.obj) (hs:St w w1 F (.obj c6 (mapG Cut.intK natK dm dc)::L) (Inv.pg (.slice pa (progsW accP).length pc) (progsW accP) vs::I)) (hv:VaS accP accO s SL dm) (hok:SpOk (progsW accP) accO M s) (hP:accP.length≤200) (hp:∀ k,((progsW accP).getD k []).length≤200)
  (hK:∀ w',St w w' F (.obj c6 (mapG Cut.intK natK dm dc)::L) (Inv.pg (.slice pa (progsW accP).length pc) (progsW accP) vs::I)→K (.bool (endsP (progsW accP) s.done)) w') :
  W Tryz.prog (c17S14 ()) [(6,.map (some c6)),(7,.slice pa (progsW accP).length pc)] w1 (finQ Tryz.prog [.tmp 4] K):=by
 have hPl:(progsW accP).length=accP.length:=by simp [progsW]
 have hdl:s.done.length=accP.length:=by rw [hok.dl,hPl]
 simp (disch:=first|omega|exact zF rfl|exact zG rfl|exact(·)|(simp only[zA,zB,zC,zD,bytesW];omega)) only[go_sem,c17L0,c17S1,c17S2,c17S3,c17S4,c17S5,c17S7,c17L1,c17S10,c17S14,c17S15,c17S16]
 refine W_loopU (fun k:Nat=>[(111,.int .i64 k)]) (fun k w'=>St w w' F (.obj c6 (mapG Cut.intK natK dm dc)::L) (Inv.pg (.slice pa (progsW accP).length pc) (progsW accP) vs::I)∧k≤accP.length∧∀ j,j<k→endK (progsW accP) s.done j=true) (fun k=>accP.length - k) 0 rfl ⟨hs,Nat.zero_le _,fun j hj=>by omega⟩ ?_
 rintro k w2 ⟨s2,hkl,he⟩
 have hPr:PgR w2 (.slice pa (progsW accP).length pc) (progsW accP) vs:=s2.get 0 rfl
 by_cases hlt:k<accP.length
 ·have hlt':(k:Int)<(progsW accP).length:=by omega
  obtain ⟨pp,rfl⟩:=hPr.ptr (by omega)
  obtain ⟨ra,rc,e1,r1⟩:=hPr.at (k:=k) (by omega)
  have hPk:(progsW accP)[k]'(by omega)=accP[k].ops:=by simp [progsW]
  rw [hPk] at e1 r1
  obtain ⟨o,r,ho,hop⟩:=hk _ (List.getElem_mem hlt)
  have hpos:0<accP[k].ops.length:=by rw [ho]; simp
  obtain ⟨rp,rfl⟩:=r1.ptr hpos
  have e2:=(r1.elt OpT.len (by decide) hpos)
  have e0:accP[k].ops[0]'hpos=o:=by simp [ho]
  rw [e0] at e2
  have ao:=o.at
  have hpos':(0:Int)<accP[k].ops.length:=by omega
  have e3:w2.cell? ⟨rp.block,rp.off+1,none⟩=some (.int .i64 o.Proc):=by
   have:=e2.2 1 (by decide) (by decide)
   rw [ao.2.1] at this
   simpa using this
  simp (disch:=first|omega|exact zF rfl|exact zG rfl|exact(·)|(simp only[zA,zB,zC,zD,bytesW];omega)) only[go_sem,c17L0,c17S1,c17S2,c17S3,c17S4,c17S5,c17S7,c17L1,c17L2,c17S14,c17S15,c17S16,c17L2,hlt',e1,e3,hpos']
  refine ⟨by omega,luG_map (ek:=Cut.intK) (ev:=natK) Cut.keyT_i Tryz.underlying56 (s2.obj 0 rfl) o.Proc (by rfl) ?_⟩
  have hlu:luG natK (.int .i64 0) (getM o.Proc dm) false=.int .i64 (s.done.getD k 0:Nat):=by
   rw [hv.dn k hlt,hop]
   cases getM accP[k].obj dm <;> rfl
  rw [hlu]
  have hle:=hok.le k
  rw [progs_getD hlt] at hle
  have hpk:=hp k
  rw [progs_getD hlt] at hpk
  have e4:=RdS.dropO r1 OpT.len hle
  have hkk:endK (progsW accP) s.done k=!((accP[k].ops.drop (s.done.getD k 0)).any fun o=>o.Done):=by
   unfold endK
   rw [progs_getD hlt,List.not_any_eq_all_not]
  simp (disch:=first|omega|exact zF rfl|exact zG rfl|exact(·)|(simp only[zA,zB,zC,zD,bytesW];omega)) only[go_sem,c17L0,c17S1,c17S2,c17S3,c17S4,c17S5,c17S7,c17L1,c17L2,c17S14,c17S15,c17S16]
  generalize hQ:accP[k].ops.drop (s.done.getD k 0)=Q at e4 hkk
  have hQl:accP[k].ops.length - s.done.getD k 0=Q.length:=by rw [← hQ,List.length_drop]
  refine ⟨⟨by omega,by omega⟩,Ret.mono (Cut.containsFunc_ok _ (fun o=>o.Done) _ Q w2 e4 (fun x w' hb=>callW_go ⟨by kernel_rfl,valid2_ok x w'⟩) (by omega)) ?_⟩
  rintro _ w3 ⟨rfl,b3⟩
  have s3:=s2.call b3
  cases hA:Q.any (fun o=>o.Done) with
  | true =>
   simp (disch:=first|omega|exact zF rfl|exact zG rfl|exact(·)|(simp only[zA,zB,zC,zD,bytesW];omega)) only[go_sem,c17L0,c17S1,c17S2,c17S3,c17S4,c17S5,c17S7,c17L1,c17S10,c17L2,c17S14,c17S15,c17S16]
   have:endsP (progsW accP) s.done=false:=endsP_no (k:=k) (by omega) (by rw [hkk,hA]; rfl)
   rw [this] at hK
   exact hK _ s3
  | false =>
   simp (disch:=first|omega|exact zF rfl|exact zG rfl|exact(·)|(simp only[zA,zB,zC,zD,bytesW];omega)) only[go_sem,c17L0,c17S1,c17S2,c17S3,c17S4,c17S5,c17S7,c17L1,c17S10,c17L2,c17S14,c17S15,c17S16]
   refine ⟨⟨by omega,by omega⟩,k+1,rfl,⟨s3,by omega,fun j hj=>?_⟩,by omega⟩
   rcases Nat.lt_or_ge j k with h | h
   ·exact he j h
   ·obtain rfl:j=k:=by omega
    rw [hkk,hA]; rfl
 ·have hlt':¬ (k:Int)<(progsW accP).length:=by omega
  simp (disch:=first|omega|exact zF rfl|exact zG rfl|exact(·)|(simp only[zA,zB,zC,zD,bytesW];omega)) only[go_sem,c17L0,c17S1,c17S2,c17S3,c17S4,c17S5,c17S7,c17L1,c17S10,c17L2,c17S14,c17S15,c17S16,c17L2,hlt']
  have:endsP (progsW accP) s.done=true:=by
   unfold endsP
   exact List.all_eq_true.2 fun j hj=>he j (by have:=List.mem_range.1 hj; omega)
  rw [this] at hK
  exact hK _ s2
theorem valid_s4{w w1:World}{F:Nat→Prop}{I:List Inv}{o:OpT}{b14 b12 c5 c6 c8 dc sc n:Nat}{m8:Obj}{x12 sv v0 v7 v8 v39 v40 v41:Value}{st:List Int}{SL:List (Int × VS × Nat)}{dm:List (Int × Nat × Nat)}{Q:Post}
  (hs:St w w1 F [.blk b14 o.enc.toArray 52,.blk b12 #[x12] 3,.obj c8 m8,.obj c6 (mapG Cut.intK natK dm dc),.obj c5 (mapG Cut.intK (fun p:VS=>p.1) SL sc)] (Inv.vs (SL.map fun x=>x.2.1)::I)) (hst:RdS w1 1 intE sv st) (hsl:st.length≤1000) (hk5:o.Kind=5→st.Pairwise (· < ·)) (hn:(getM o.Proc dm).getD 0=n) (hn2:n≤1000)
  (hQn:stepP st o=none→∀ w',Below w.heap.size w w'→Q .ret [(4,.bool false)] w')
  (hQy:∀ w' tv s',stepP st o=some s'→St w w' F [.obj c8 m8,.obj c6 (mapG Cut.intK natK (setM o.Proc (n+1) dc dm) (if (getM o.Proc dm).isSome then dc else dc+1)),.obj c5 (mapG Cut.intK (fun p:VS=>p.1) (setM o.Object (tv,s') sc SL) (if (getM o.Object SL).isSome then sc else sc+1))] (Inv.vs ((setM o.Object (tv,s') sc SL).map fun x=>x.2.1)::I)→Q .normal [(0,v0),(5,.map (some c5)),(6,.map (some c6)),(7,v7),(8,v8),(39,v39),(40,v40),(41,v41)] w') :
  W Tryz.prog (c17S4 ()) [(0,v0),(5,.map (some c5)),(6,.map (some c6)),(7,v7),(8,v8),(14,.pointer (some ⟨b14,0,none⟩)),(16,sv),(39,v39),(40,v40),(41,v41)] w1 Q:=by
 have ao:=o.at
 have s2:=hs.drew
 have r1:=hs.rules 0 rfl
 have r2:=s2.rules 0 rfl
 have l1:=hs.low 0 rfl
 simp (disch:=first|omega|exact zF rfl|exact zG rfl|exact(·)|(simp only[zA,zB,zC,zD,bytesW];omega)) only[go_sem,c17L0,c17S1,c17S4,c17S5,c17S7,c17L1,c17S10,c17L2,c17S14,c17S15,c17S16]
 refine c17draw1 (Chg (fun _=>False) _) (Chg.refl _ _) ?_
 simp (disch:=first|omega|exact zF rfl|exact zG rfl|exact(·)|(simp only[zA,zB,zC,zD,bytesW];omega)) only[go_sem,c17L0,c17S1,c17S4,c17S5,c17S7,c17L1,c17S10,c17L2,c17S14,c17S15,c17S16,c17D1,r1,r2,ao]
 refine Ret.mono (step_ok sv st o _ (hst.below ((Below.refl _ _).drew) (by decide)) (by omega) hk5) ?_
 rintro _ w3 ⟨⟨t,ok,rfl,hm⟩,b3⟩
 have chg:∀ {wa wb:World},Below wa.heap.size wa wb→Chg (fun _=>False) wa wb:=fun hb=>Chg.of_below hb
 cases hst2:stepP st o with
 | none =>
  rw [hst2] at hm
  have hm:ok=false:=hm
  subst hm
  have s3:=s2.call b3
  simp (disch:=first|omega|exact zF rfl|exact zG rfl|exact(·)|(simp only[zA,zB,zC,zD,bytesW];omega)) only[go_sem,c17L0,c17S1,c17S4,c17S5,c17S7,c17L1,c17S10,c17L2,c17S14,c17S15,c17S16,c17D1]
  refine ⟨chg b3,muG_map (ek:=Cut.intK) (ev:=fun p:VS=>p.1) Cut.keyT_i Tryz.underlying78 (fun a=>by simp [Instr.sameBits,Cut.intK]) (s3.obj 4 rfl) o.Object (t,[]) ?_⟩
  have s4:=s3.putObj 4 rfl (mapG Cut.intK (fun p:VS=>p.1) (setM o.Object (t,[]) sc SL) (if (getM o.Object SL).isSome then sc else sc+1))
  generalize w3.putObj c5 (mapG Cut.intK (fun p:VS=>p.1) (setM o.Object (t,[]) sc SL) (if (getM o.Object SL).isSome then sc else sc+1))=w4 at s4 ⊢
  simp (disch:=first|omega|exact zF rfl|exact zG rfl|exact(·)|(simp only[zA,zB,zC,zD,bytesW];omega)) only[go_sem,c17L0,c17S1,c17S2,c17S3,c17S4,c17S5,c17S7,c17L1,c17S10,c17L2,c17S14,c17S15,c17S16]
  exact hQn hst2 _ s4.bel
 | some s' =>
  rw [hst2] at hm
  obtain ⟨rfl,h4,f4⟩:=hm
  have s3:=s2.made b3 (Inv.rd 1 intE t s') h4 fun k hk=>⟨f4 k hk,h4.footLt (by decide) hk⟩
  simp (disch:=first|omega|exact zF rfl|exact zG rfl|exact(·)|(simp only[zA,zB,zC,zD,bytesW];omega)) only[go_sem,c17L0,c17S1,c17S4,c17S5,c17S7,c17L1,c17S10,c17L2,c17S14,c17S15,c17S16,c17D1]
  refine ⟨chg b3,muG_map (ek:=Cut.intK) (ev:=fun p:VS=>p.1) Cut.keyT_i Tryz.underlying78 (fun a=>by simp [Instr.sameBits,Cut.intK]) (s3.obj 4 rfl) o.Object (t,s') ?_⟩
  have s4:=vs_set (ob:=o.Object) (p:=(t,s')) (c:=sc) (s3.putObj 4 rfl (mapG Cut.intK (fun p:VS=>p.1) (setM o.Object (t,s') sc SL) (if (getM o.Object SL).isSome then sc else sc+1)))
  generalize w3.putObj c5 (mapG Cut.intK (fun p:VS=>p.1) (setM o.Object (t,s') sc SL) (if (getM o.Object SL).isSome then sc else sc+1))=w4 at s4 ⊢
  have r4:=s4.rules 0 rfl
  simp (disch:=first|omega|exact zF rfl|exact zG rfl|exact(·)|(simp only[zA,zB,zC,zD,bytesW];omega)) only[go_sem,c17L0,c17S1,c17S2,c17S3,c17S4,c17S5,c17S7,c17L1,c17S10,c17L2,c17S14,c17S15,c17S16,r4,ao]
  have hlu:luG natK (.int .i64 0) (getM o.Proc dm) false=.int .i64 (n:Nat):=by
   rw [← hn]
   cases getM o.Proc dm <;> rfl
  refine luG_map (ek:=Cut.intK) (ev:=natK) Cut.keyT_i Tryz.underlying56 (s4.obj 3 rfl) o.Proc (by rfl) ?_
  rw [hlu]
  simp (disch:=first|omega|exact zF rfl|exact zG rfl|exact(·)|(simp only[zA,zB,zC,zD,bytesW];omega)) only[go_sem,c17L0,c17S1,c17S2,c17S3,c17S4,c17S5,c17S7,c17L1,c17S10,c17L2,c17S14,c17S15,c17S16,r4,ao]
  refine ⟨⟨by omega,by omega⟩,muG_map (ek:=Cut.intK) (ev:=natK) Cut.keyT_i Tryz.underlying56 (fun a=>by simp [Instr.sameBits,Cut.intK]) (s4.obj 3 rfl) o.Proc (n+1) ?_⟩
  have s5:=s4.putObj 3 rfl (mapG Cut.intK natK (setM o.Proc (n+1) dc dm) (if (getM o.Proc dm).isSome then dc else dc+1))
  generalize w4.putObj c6 (mapG Cut.intK natK (setM o.Proc (n+1) dc dm) (if (getM o.Proc dm).isSome then dc else dc+1))=w5 at s5 ⊢
  simp (disch:=first|omega|exact zF rfl|exact zG rfl|exact(·)|(simp only[zA,zB,zC,zD,bytesW];omega)) only[go_sem,c17L0,c17S1,c17S2,c17S3,c17S4,c17S5,c17S7,c17L1,c17S10,c17L2,c17S14,c17S15,c17S16]
  exact hQy _ t s' hst2 (s5.sub ((List.sublist_cons_self _ _).trans (List.sublist_cons_self _ _)))
theorem valid_s5{w w1:World}{F:Nat→Prop}{I:List Inv}{o:OpT}{b14 b12 c5 c6 c8 dc sc n:Nat}{m8:Obj}{x12 v0 v7 v8 v39 v40 v41:Value}{st:List Int}{SL:List (Int × VS × Nat)}{dm:List (Int × Nat × Nat)}{Q:Post}
  (hs:St w w1 F [.blk b14 o.enc.toArray 52,.blk b12 #[x12] 3,.obj c8 m8,.obj c6 (mapG Cut.intK natK dm dc),.obj c5 (mapG Cut.intK (fun p:VS=>p.1) SL sc)] (Inv.vs (SL.map fun x=>x.2.1)::I)) (hst:st=match getM o.Object SL with | some p=>p.2 | none=>firstP o.Kind) (hsl:st.length≤1000) (hk5:o.Kind=5→st.Pairwise (· < ·)) (hn:(getM o.Proc dm).getD 0=n) (hn2:n≤1000)
  (hQn:stepP st o=none→∀ w',Below w.heap.size w w'→Q .ret [(4,.bool false)] w')
  (hQy:∀ w' tv s',stepP st o=some s'→St w w' F [.obj c8 m8,.obj c6 (mapG Cut.intK natK (setM o.Proc (n+1) dc dm) (if (getM o.Proc dm).isSome then dc else dc+1)),.obj c5 (mapG Cut.intK (fun p:VS=>p.1) (setM o.Object (tv,s') sc SL) (if (getM o.Object SL).isSome then sc else sc+1))] (Inv.vs ((setM o.Object (tv,s') sc SL).map fun x=>x.2.1)::I)→Q .normal [(0,v0),(5,.map (some c5)),(6,.map (some c6)),(7,v7),(8,v8),(39,v39),(40,v40),(41,v41)] w') :
  W Tryz.prog (c17S5 ()) [(0,v0),(5,.map (some c5)),(6,.map (some c6)),(7,v7),(8,v8),(14,.pointer (some ⟨b14,0,none⟩)),(39,v39),(40,v40),(41,v41)] w1 Q:=by
 have ao:=o.at
 have r1:=hs.rules 0 rfl
 simp (disch:=first|omega|exact zF rfl|exact zG rfl|exact(·)|(simp only[zA,zB,zC,zD,bytesW];omega)) only[go_sem,c17L0,c17S1,c17S2,c17S3,c17S5,c17S7,c17L1,c17S10,c17L2,c17S14,c17S15,c17S16,r1,ao]
 refine luG_map (ek:=Cut.intK) (ev:=fun p:VS=>p.1) Cut.keyT_i Tryz.underlying78 (hs.obj 4 rfl) o.Object (by rfl) ?_
 cases e:getM o.Object SL with
 | some p =>
  rw [e] at hst
  have hst:st=p.2:=hst
  simp (disch:=first|omega|exact zF rfl|exact zG rfl|exact(·)|(simp only[zA,zB,zC,zD,bytesW];omega)) only[go_sem,c17L0,c17S1,c17S2,c17S3,c17S5,c17S7,c17L1,c17S10,c17L2,c17S14,c17S15,c17S16,luG]
  have hp:=(hs.get 0 rfl) p (getM_in e)
  rw [← hst] at hp
  exact valid_s4 hs hp hsl hk5 hn hn2 hQn hQy
 | none =>
  rw [e] at hst
  have hst:st=firstP o.Kind:=hst
  simp (disch:=first|omega|exact zF rfl|exact zG rfl|exact(·)|(simp only[zA,zB,zC,zD,bytesW];omega)) only[go_sem,c17L0,c17S1,c17S2,c17S3,c17S5,c17S7,c17L1,c17S10,c17L2,c17S14,c17S15,c17S16,luG,r1,ao]
  refine Ret.mono (mfirst_ok o.Kind w1) ?_
  rintro t w2 ⟨⟨ht,hf⟩,b2⟩
  rw [← hst] at ht
  simp (disch:=first|omega|exact zF rfl|exact zG rfl|exact(·)|(simp only[zA,zB,zC,zD,bytesW];omega)) only[go_sem,c17L0,c17S1,c17S2,c17S3,c17S5,c17S7,c17L1,c17S10,c17L2,c17S14,c17S15,c17S16]
  exact valid_s4 (hs.call b2) ht hsl hk5 hn hn2 hQn hQy
theorem valid_mid{w w1:World}{a ia pa:Option Addr}{c ic pc c5 c6 c8:Nat}{l:List OpT}{ids:List Int}{accP accO:List Seg}{vs:List Value}{sp:Sp}{SL:List (Int × VS × Nat)}{dm:List (Int × Nat × Nat)}{ans:Bool}
  (h:RdS w 11 OpT.enc (.slice a l.length c) l) (hi:RdS w 1 intE (.slice ia ids.length ic) ids) (hl:l.length≤100) (hil:ids.length≤1000) (hn:(l.map OpT.ID).Nodup) (hw:∀ o∈l,o.wf) (hP:Cut.ByProc l accP) (hO:Cut.ByObj l accO) (cx:Ctx (progsW accP) accO 65) (hkP:∀ q∈accP,∃ o r,q.ops=o::r∧o.Proc=q.obj)
  (hs:St w w1 (fun _=>False) [.obj c8 (mapG Cut.intK natK (atM accP) accP.length),.obj c6 (mapG Cut.intK natK dm 0),.obj c5 (mapG Cut.intK (fun p:VS=>p.1) SL 0)] [Inv.pg (.slice pa (progsW accP).length pc) (progsW accP) vs]) (hv:VaS accP accO sp SL dm) (hSL:SL=[]) (hok:SpOk (progsW accP) accO 102 sp) (hans:ans=validP (progsW accP) (objsW accO) sp ids) {K:Value→World→Prop} (hK:∀ w',Below w.heap.size w w'→K (.bool ans) w') :
  W Tryz.prog (c17S15 ()) [(0,.slice a l.length c),(1,.slice ia ids.length ic),(5,.map (some c5)),(6,.map (some c6)),(7,.slice pa (progsW accP).length pc),(8,.map (some c8))] w1 (finQ Tryz.prog [.tmp 4] K):=by
 have hs0:=St.keepU hs (Inv.vs ([]:List VS)) (fun p hp=>by cases hp) (fun k hk=>by obtain ⟨p,hp,_⟩:=hk; cases hp)
 subst hSL
 simp (disch:=first|omega|exact zF rfl|exact zG rfl|exact(·)|(simp only[zA,zB,zC,zD,bytesW];omega)) only[go_sem,c17L0,c17S1,c17S2,c17S3,c17S4,c17S5,c17S7,c17S10,c17L2,c17S15,c17S16]
 refine W_loopU (fun z:Nat × Sp × List (Int × VS × Nat) × List (Int × Nat × Nat) × Nat × Nat=>[(41,.int .i64 z.1)]) (fun z w'=>St w w' (fun _=>False) [.obj c8 (mapG Cut.intK natK (atM accP) accP.length),.obj c6 (mapG Cut.intK natK z.2.2.2.1 z.2.2.2.2.1),.obj c5 (mapG Cut.intK (fun p:VS=>p.1) z.2.2.1 z.2.2.2.2.2)] [Inv.vs (z.2.2.1.map fun x=>x.2.1),Inv.pg (.slice pa (progsW accP).length pc) (progsW accP) vs]∧z.1≤ids.length∧VaS accP accO z.2.1 z.2.2.1 z.2.2.2.1∧SpOk (progsW accP) accO 102 z.2.1∧ans=validP (progsW accP) (objsW accO) z.2.1 (ids.drop z.1)) (fun z=>ids.length - z.1) (0,sp,[],dm,0,0) rfl ⟨hs0,Nat.zero_le _,hv,hok,hans⟩ ?_
 rintro ⟨k,s,SL,dm,dc,sc⟩ w2 ⟨s2,hkl,hv2,hok2,hans2⟩
 simp only at s2 hkl hv2 hok2 hans2
 have hpl2:=cx.pl
 have hPl:(progsW accP).length=accP.length:=by simp [progsW]
 by_cases hlt:k<ids.length
 ·have hlt':(k:Int)<ids.length:=by omega
  obtain ⟨q,rfl⟩:=hi.ptr (by omega)
  have ek:=RdS.int (hi.below s2.bel (by decide)) hlt
  have hdr:ids.drop k=ids[k]::ids.drop (k+1):=List.drop_eq_getElem_cons hlt
  rw [hdr] at hans2
  generalize ids[k]=id at ek hans2
  simp (disch:=first|omega|exact zF rfl|exact zG rfl|exact(·)|(simp only[zA,zB,zC,zD,bytesW];omega)) only[go_sem,c17L0,c17S1,c17S2,c17S3,c17S4,c17S5,c17L1,c17S10,c17L2,c17S15,c17S16,c17L1,hlt',ek]
  have s3:=s2.box #[.int .i64 id] 3
  generalize w2.alloc (.cells #[.int .i64 id] 3)=w3 at s3 ⊢
  generalize w2.heap.size=b12 at s3 ⊢
  refine ⟨by omega,Ret.mono (Cut.indexFunc_ok _ (fun o=>decide (o.ID=id)) _ l w3 (h.below s3.bel (by decide)) (fun x w' hb=>callW_go ⟨by kernel_rfl,valid1_ok x b12 id w' ((s3.call hb).blk 0 rfl)⟩) (by omega)) ?_⟩
  rintro _ w4 ⟨rfl,b4⟩
  have s4:=s3.call b4
  clear s3 s2
  cases e:l.findIdx? (fun o=>decide (o.ID=id)) with
  | none =>
   have ef:Cut.firstI (fun o=>decide (o.ID=id)) l = -1:=by unfold Cut.firstI; rw [e]
   have hno:∀ o∈l,o.ID≠id:=fun o ho=>by
    have:=List.findIdx?_eq_none_iff.1 e o ho
    simpa using this
   rw [validP,kOf_l hP hno] at hans2
   rw [ef]
   have hans2:ans=false:=hans2
   simp (disch:=first|omega|exact zF rfl|exact zG rfl|exact(·)|(simp only[zA,zB,zC,zD,bytesW];omega)) only[go_sem,c17L0,c17S1,c17S2,c17S3,c17S4,c17S5,c17S7,c17L1,c17S10,c17L2,c17S14,c17S15,c17S16]
   rw [← hans2]
   exact hK _ s4.bel
  | some j =>
   have ef:Cut.firstI (fun o=>decide (o.ID=id)) l=j:=by unfold Cut.firstI; rw [e]
   obtain ⟨hj,hpj,_⟩:=List.findIdx?_eq_some_iff_getElem.1 e
   have hpj:l[j].ID=id:=by simpa using hpj
   have hom:l[j]∈l:=List.getElem_mem hj
   have hj':(j:Int)<l.length:=by omega
   have hj0:¬ (j:Int)<0:=by omega
   obtain ⟨lp,rfl⟩:=h.ptr (by omega)
   have ej:=(h.below s4.bel (by decide)).eltB (Below.refl _ _) OpT.len (by decide) hj
   have cj:=(h.below s4.bel (by decide)).at OpT.len hj
   rw [ef]
   clear ef e
   obtain ⟨i,hi2,hio⟩:∃ i,∃ hi:i<accP.length,accP[i].obj=l[j].Proc:=by
    obtain ⟨sg,hsg,e⟩:=hP.all _ hom
    obtain ⟨i,hi,rfl⟩:=List.mem_iff_getElem.1 hsg
    exact ⟨i,hi,e⟩
   generalize l[j]=o at *
   subst hpj
   have ao:=o.at
   have hat:getM o.Proc (atM accP)=some i:=by
    rw [plM_get,if_pos (by rw [← hio]; exact List.mem_map_of_mem (f:=Seg.obj) (List.getElem_mem hi2))]
    have hlt2:(accP.map Seg.obj).idxOf o.Proc<(accP.map Seg.obj).length:=List.idxOf_lt_length_iff.2 (by rw [← hio]; exact List.mem_map_of_mem (List.getElem_mem hi2))
    have e1:=List.getElem_idxOf hlt2
    rw [List.getElem_map] at e1
    have:=seg_same hP.up (by simpa using hlt2) hi2 (by rw [e1,hio])
    simp [this]
   simp (disch:=first|omega|exact zF rfl|exact zG rfl|exact(·)|(simp only[zA,zB,zC,zD,bytesW];omega)) only[go_sem,c17L0,c17S2,c17S3,c17S4,c17S7,c17L1,c17S10,c17L2,c17S15,c17S16,hj',hj0,ej,cj]
   have s5:=s4.box o.enc.toArray 52
   generalize w4.alloc (.cells o.enc.toArray 52)=w5 at s5 ⊢
   generalize w4.heap.size=b14 at s5 ⊢
   have r5:=s5.rules 0 rfl
   simp (disch:=first|omega|exact zF rfl|exact zG rfl|exact(·)|(simp only[zA,zB,zC,zD,bytesW];omega)) only[go_sem,c17L0,c17S2,c17S3,c17S4,c17S7,c17L1,c17S10,c17L2,c17S15,c17S16,r5,ao]
   refine ⟨by omega,by simp [OpT.len],luG_map (ek:=Cut.intK) (ev:=natK) Cut.keyT_i Tryz.underlying56 (s5.obj 2 rfl) o.Proc (by rfl) ?_⟩
   rw [hat]
   have hPr:PgR w5 (.slice pa (progsW accP).length pc) (progsW accP) vs:=s5.get 1 rfl
   obtain ⟨pp,rfl⟩:=hPr.ptr (by omega)
   obtain ⟨ra,rc,e1,r1⟩:=hPr.at (k:=i) (by omega)
   have hPi:(progsW accP)[i]'(by omega)=accP[i].ops:=by simp [progsW]
   rw [hPi] at e1 r1
   have hi2':(i:Int)<(progsW accP).length:=by omega
   simp (disch:=first|omega|exact zF rfl|exact zG rfl|exact(·)|(simp only[zA,zB,zC,zD,bytesW];omega)) only[go_sem,c17L0,c17S2,c17S3,c17S4,c17S7,c17L1,c17S10,c17L2,c17S15,c17S16,luG,natK,e1,hi2']
   have s6:=s5.drew
   have r6:=s6.rules 0 rfl
   have q6:=s6.rules 1 rfl
   have l5:=s5.low 0 rfl
   have l5b:=s5.low 1 rfl
   have r5b:=s5.rules 1 rfl
   have hdl:s.done.length=accP.length:=by rw [hok2.dl,hPl]
   have hlu:luG natK (.int .i64 0) (getM o.Proc dm) false=.int .i64 (s.done.getD i 0:Nat):=by
    rw [hv2.dn i hi2,hio]
    cases getM o.Proc dm <;> rfl
   have hle:=hok2.le i
   rw [progs_getD hi2] at hle
   refine ⟨by omega,?_⟩
   refine c17draw0 (Chg (fun _=>False) _) (Chg.refl _ _) ?_
   simp (disch:=first|omega|exact zF rfl|exact zG rfl|exact(·)|(simp only[zA,zB,zC,zD,bytesW];omega)) only[go_sem,c17L0,c17S2,c17S3,c17S4,c17S7,c17L1,c17S10,c17L2,c17S15,c17S16,c17D0,r5,r5b,r6,q6,ao]
   refine luG_map (ek:=Cut.intK) (ev:=natK) Cut.keyT_i Tryz.underlying56 (s6.obj 3 rfl) o.Proc (by rfl) ?_
   rw [hlu]
   have hfalse:accP[i].ops[s.done.getD i 0]?≠some o→ans=false:=fun hne=>by
    rw [validP,kOf_not hP (pure_nodup hn) hdl hom hi2 hio hne] at hans2
    exact hans2
   by_cases hd:s.done.getD i 0<accP[i].ops.length
   ·have hd':¬ ((s.done.getD i 0:Nat):Int) ≥ accP[i].ops.length:=by omega
    have hd2:((s.done.getD i 0:Nat):Int)<accP[i].ops.length:=by omega
    obtain ⟨rp,rfl⟩:=r1.ptr (by omega)
    have r16:RdS w5.drew 11 OpT.enc (.slice (some rp) accP[i].ops.length rc) accP[i].ops:=r1.below ((Below.refl _ _).drew) (by decide)
    have e6:=(r16.elt OpT.len (by decide) hd).1
    have hget:accP[i].ops[s.done.getD i 0]?=some accP[i].ops[s.done.getD i 0]:=List.getElem?_eq_getElem hd
    have hom2:accP[i].ops[s.done.getD i 0]∈l:=((byProc_mem hP (List.getElem_mem hi2) _).1 (List.getElem_mem hd)).1
    generalize accP[i].ops[s.done.getD i 0]=o2 at e6 hget hom2
    have e6':w5.drew.cell? (rp.add (s.done.getD i 0 * 11))=some (.int .i64 o2.ID):=by rw [e6]; exact o2.at.1
    simp (disch:=first|omega|exact zF rfl|exact zG rfl|exact(·)|(simp only[zA,zB,zC,zD,bytesW];omega)) only[go_sem,c17L0,c17S2,c17S3,c17S4,c17S7,c17L1,c17S10,c17L2,c17S15,c17S16,c17D0,hd',hd2,r5,r5b,r6,q6,ao]
    refine luG_map (ek:=Cut.intK) (ev:=natK) Cut.keyT_i Tryz.underlying56 (s6.obj 3 rfl) o.Proc (by rfl) ?_
    rw [hlu]
    simp (disch:=first|omega|exact zF rfl|exact zG rfl|exact(·)|(simp only[zA,zB,zC,zD,bytesW];omega)) only[go_sem,c17L0,c17S2,c17S3,c17S4,c17S7,c17L1,c17S10,c17L2,c17S15,c17S16,c17D0,hd',hd2,r5,r5b,r6,q6,ao,e6']
    refine ⟨by omega,?_⟩
    by_cases hid:o2.ID=o.ID
    ·have:=pure_nodup hn o2 hom2 o hom hid
     subst this
     clear hid hfalse e6 e6' hd' hd2 r16 hom2
     have hkOf:=kOf_yes hP (pure_nodup hn) hdl hi2 hget
     have hop:opAt (progsW accP) s.done i=some o2:=by rw [opAt_eq hdl hi2]; exact hget
     obtain ⟨hx,hxk⟩:=cx.pr.ob i o2 (by rw [progs_getD hi2]; exact List.mem_of_getElem? hget)
     have hxo:accO[(objsW accO).idxOf o2.Object].obj=o2.Object:=by
      have h1:(objsW accO).idxOf o2.Object<(objsW accO).length:=by simpa [objsW] using hx
      have e1:=List.getElem_idxOf h1
      have e2:(objsW accO)[(objsW accO).idxOf o2.Object]'h1=(accO[(objsW accO).idxOf o2.Object]'hx).obj:=by simp only [objsW,List.getElem_map]
      exact e2.symm.trans e1
     rw [validP,hkOf] at hans2
     simp only [mvP,hop] at hans2
     generalize hxd:(objsW accO).idxOf o2.Object=x at hx hxk hxo hans2
     have hst:=hv2.st x hx
     rw [hxo] at hst
     obtain ⟨q1,q2,q3⟩:=hok2.ok x hx
     simp (disch:=first|omega|exact zF rfl|exact zG rfl|exact(·)|(simp only[zA,zB,zC,zD,bytesW];omega)) only[go_sem,c17L0,c17S1,c17S2,c17S3,c17S4,c17S7,c17L1,c17S10,c17L2,c17S15,c17S16]
     refine valid_s5 s6 (by (rw [hst,hxk]) <;> (cases getM o2.Object SL <;> rfl)) (by omega) (fun e=>q3 (hxk.trans e)) (n:=s.done.getD i 0) (by rw [hv2.dn i hi2,hio]) (by have:=cx.pp i; rw [progs_getD hi2] at this; omega) (fun hno w' hb=>?_) (fun w' tv s' hs' s7=>?_)
     ·rw [hno] at hans2
      have hans2:ans=false:=hans2
      simp (disch:=first|omega|exact zF rfl|exact zG rfl|exact(·)|(simp only[zA,zB,zC,zD,bytesW];omega)) only[go_sem,c17L0,c17S1,c17S2,c17S3,c17S4,c17S5,c17S7,c17L1,c17S10,c17L2,c17S14,c17S15,c17S16]
      rw [← hans2]
      exact hK _ hb
     ·rw [hs'] at hans2
      simp (disch:=first|omega|exact zF rfl|exact zG rfl|exact(·)|(simp only[zA,zB,zC,zD,bytesW];omega)) only[go_sem,c17L0,c17S1,c17S2,c17S3,c17S4,c17S5,c17S7,c17L1,c17S10,c17L2,c17S15,c17S16]
      have hmv:mvP (progsW accP) (objsW accO) s i=some (o2.ID,⟨s.done.set i (s.done.getD i 0+1),s.st.set x s'⟩):=by
       unfold mvP
       simp only [hop,hxd,hs']
      have hv3:=hv2.move hP.up hO.up hdl hok2.sl hi2 hx (tv,s') sc dc
      rw [hxo,hio] at hv3
      exact ⟨⟨by omega,by omega⟩,(k+1,⟨s.done.set i (s.done.getD i 0+1),s.st.set x s'⟩,setM o2.Object (tv,s') sc SL,setM o2.Proc (s.done.getD i 0+1) dc dm,_,_),rfl,⟨s7,by simp only; omega,hv3,mv_ok cx.pr hok2 hmv,hans2⟩,by simp only; omega⟩
    ·have hid':o2.ID≠o.ID:=hid
     simp (disch:=first|omega|exact zF rfl|exact zG rfl|exact(·)|(simp only[zA,zB,zC,zD,bytesW];omega)) only[go_sem,c17L0,c17S1,c17S2,c17S3,c17S4,c17S5,c17S7,c17L1,c17S10,c17L2,c17S14,c17S15,c17S16,hid]
     rw [← hfalse (by rw [hget]; intro h; exact hid (by rw [Option.some.inj h]))]
     exact hK _ s6.bel
   ·have hd':((s.done.getD i 0:Nat):Int) ≥ accP[i].ops.length:=by omega
    simp (disch:=first|omega|exact zF rfl|exact zG rfl|exact(·)|(simp only[zA,zB,zC,zD,bytesW];omega)) only[go_sem,c17L0,c17S1,c17S2,c17S3,c17S4,c17S5,c17S7,c17L1,c17S10,c17L2,c17S14,c17S15,c17S16,c17D0,hd']
    rw [← hfalse (by rw [List.getElem?_eq_none (by omega)]; exact fun h=>by cases h)]
    exact hK _ s6.bel
 ·have hlt':¬ (k:Int)<ids.length:=by omega
  rw [List.drop_of_length_le (by omega)] at hans2
  have hans2:ans=endsP (progsW accP) s.done:=hans2
  simp (disch:=first|omega|exact zF rfl|exact zG rfl|exact(·)|(simp only[zA,zB,zC,zD,bytesW];omega)) only[go_sem,c17L0,c17S1,c17S2,c17S3,c17S4,c17S5,c17S7,c17L1,c17S10,c17L2,c17S15,c17S16,c17L1,hlt']
  have s3:=(s2.sub (List.sublist_cons_self _ _)).inv_sub (I':=Inv.pg (.slice pa (progsW accP).length pc) (progsW accP) vs::[]) (fun a ha=>List.mem_cons_of_mem _ ha)
  refine valid_last hkP s3 hv2 hok2 (by omega) cx.pp fun w' s'=>?_
  rw [← hans2]
  exact hK _ s'.bel
theorem valid_ok(v iv:Value)(l:List OpT)(ids:List Int)(w:World)(h:RdS w 11 OpT.enc v l)(hi:RdS w 1 intE iv ids)(hl:l.length≤100)(hil:ids.length≤1000)(hn:(l.map OpT.ID).Nodup)(hk:∀ a∈l,∀ b∈l,a.Object=b.Object→a.Kind=b.Kind)(hw:∀ o∈l,o.wf){accO:List Seg}(hO:Cut.ByObj l accO) :
  Ret Tryz.prog 17 [v,iv] w fun u w'=>ValidV l accO ids w u w':=by
 obtain ⟨a,c,rfl,_⟩:=h.form
 obtain ⟨ia,ic,rfl,_⟩:=hi.form
 refine ent17 _ _ _ _ ?_
 simp (disch:=first|omega|exact zF rfl|exact zG rfl|exact(·)|(simp only[zA,zB,zC,zD,bytesW];omega)) only[go_sem,c17L0,c17S1,c17S2,c17S3,c17S4,c17S5,c17S7,c17L1,c17S10,c17L2,c17S14,c17S15]
 refine mmG (ek:=Cut.intK) (ev:=fun p:VS=>p.1) ?_
 have s1:=(St.start (W0:=w)).lay (mapG Cut.intK (fun p:VS=>p.1) [] 0)
 generalize w.alloc (mapG Cut.intK (fun p:VS=>p.1) [] 0)=w1 at s1 ⊢
 generalize w.heap.size=c5 at s1 ⊢
 simp (disch:=first|omega|exact zF rfl|exact zG rfl|exact(·)|(simp only[zA,zB,zC,zD,bytesW];omega)) only[go_sem,c17L0,c17S1,c17S2,c17S3,c17S4,c17S5,c17S7,c17L1,c17S10,c17L2,c17S14,c17S15]
 refine mmG (ek:=Cut.intK) (ev:=natK) ?_
 have s2:=s1.lay (mapG Cut.intK natK [] 0)
 generalize w1.alloc (mapG Cut.intK natK [] 0)=w2 at s2 ⊢
 generalize w1.heap.size=c6 at s2 ⊢
 simp (disch:=first|omega|exact zF rfl|exact zG rfl|exact(·)|(simp only[zA,zB,zC,zD,bytesW];omega)) only[go_sem,c17L0,c17S1,c17S2,c17S3,c17S4,c17S5,c17S7,c17L1,c17S10,c17L2,c17S14,c17S15]
 refine Ret.mono (Cut.programs_ok _ l w2 (h.below s2.bel (by decide)) hl) ?_
 rintro pv w3 ⟨⟨accP,vs,hP,hpr⟩,b3⟩
 have cx:=ctx_of hP hO hw hk (by omega)
 have hpg:=PgR.of hpr
 have s3:=s2.made b3 (Inv.pg pv (progsW accP) vs) hpg fun k hk=>⟨by
  rcases hk with hk | ⟨v,hv,hk⟩
  ·exact hpr.newT k hk
  ·exact hpr.newE v hv k hk,hpg.footLt hk⟩
 obtain ⟨pa,pc,rfl⟩:=hpg.form
 simp (disch:=first|omega|exact zF rfl|exact zG rfl|exact(·)|(simp only[zA,zB,zC,zD,bytesW];omega)) only[go_sem,c17L0,c17S1,c17S2,c17S3,c17S4,c17S5,c17S7,c17L1,c17S10,c17L2,c17S14,c17S15]
 refine mmG (ek:=Cut.intK) (ev:=natK) ?_
 have s4:=s3.lay (mapG Cut.intK natK [] 0)
 generalize w3.alloc (mapG Cut.intK natK [] 0)=w4 at s4 ⊢
 generalize w3.heap.size=c8 at s4 ⊢
 have hPl:(progsW accP).length=accP.length:=by simp [progsW]
 have hpl2:=cx.pl
 have hkP:∀ q∈accP,∃ o r,q.ops=o::r∧o.Proc=q.obj:=fun q hq=>by
  obtain ⟨o,r,e,_⟩:=hP.kind q hq
  exact ⟨o,r,e,((byProc_mem hP hq o).1 (by rw [e]; exact List.mem_cons_self)).2⟩
 clear s1 s2 s3
 simp (disch:=first|omega|exact zF rfl|exact zG rfl|exact(·)|(simp only[zA,zB,zC,zD,bytesW];omega)) only[go_sem,c17S1,c17S2,c17S3,c17S4,c17S5,c17S7,c17L1,c17S10,c17L2,c17S14,c17S16]
 refine W_loopU (fun k:Nat=>[(27,.int .i64 k)]) (fun k w'=>St w w' (fun _=>False) [.obj c8 (mapG Cut.intK natK (plM ((accP.map Seg.obj).take k) 0) k),.obj c6 (mapG Cut.intK natK [] 0),.obj c5 (mapG Cut.intK (fun p:VS=>p.1) [] 0)] [Inv.pg (.slice pa (progsW accP).length pc) (progsW accP) vs]∧k≤accP.length) (fun k=>accP.length - k) 0 rfl ⟨s4,Nat.zero_le _⟩ ?_
 rintro k w5 ⟨s5,hkl⟩
 by_cases hlt:k<accP.length
 ·have hPr:PgR w5 (.slice pa (progsW accP).length pc) (progsW accP) vs:=s5.get 0 rfl
  have hlt':(k:Int)<(progsW accP).length:=by omega
  obtain ⟨pp,rfl⟩:=hPr.ptr (by omega)
  obtain ⟨ra,rc,e1,r1⟩:=hPr.at (k:=k) (by omega)
  have hPk:(progsW accP)[k]'(by omega)=accP[k].ops:=by simp [progsW]
  rw [hPk] at e1 r1
  obtain ⟨o,r,ho,hop⟩:=hkP _ (List.getElem_mem hlt)
  have hpos:0<accP[k].ops.length:=by rw [ho]; simp
  obtain ⟨rp,rfl⟩:=r1.ptr hpos
  have e2:=(r1.elt OpT.len (by decide) hpos)
  have e0:accP[k].ops[0]'hpos=o:=by simp [ho]
  rw [e0] at e2
  have ao:=o.at
  have hpos':(0:Int)<accP[k].ops.length:=by omega
  have e3:w5.cell? ⟨rp.block,rp.off+1,none⟩=some (.int .i64 o.Proc):=by
   have:=e2.2 1 (by decide) (by decide)
   rw [ao.2.1] at this
   simpa using this
  have hkm:k<(accP.map Seg.obj).length:=by simpa using hlt
  have hpn:getM o.Proc (plM ((accP.map Seg.obj).take k) 0)=none:=by
   rw [plM_get,if_neg]
   intro hm
   obtain ⟨j,hj,e⟩:=List.mem_iff_getElem.1 hm
   rw [List.length_take] at hj
   rw [List.getElem_take,List.getElem_map,hop] at e
   have:=seg_same hP.up (by omega) hlt e
   omega
  have hps:plM ((accP.map Seg.obj).take (k+1)) 0=plM ((accP.map Seg.obj).take k) 0++[(o.Proc,k,k)]:=by
   rw [List.take_succ_eq_append_getElem hkm,plM_snoc,List.length_take,Nat.zero_add,Nat.min_eq_left (by omega),List.getElem_map,hop]
  simp (disch:=first|omega|exact zF rfl|exact zG rfl|exact(·)|(simp only[zA,zB,zC,zD,bytesW];omega)) only[go_sem,c17L0,c17S1,c17S2,c17S3,c17S4,c17S5,c17S7,c17L1,c17S10,c17L2,c17S14,c17S16,c17L0,hlt',e1,e3,hpos']
  refine ⟨by omega,?_⟩
  refine muG_map (ek:=Cut.intK) (ev:=natK) Cut.keyT_i Tryz.underlying56 (fun a=>by simp [Instr.sameBits,Cut.intK]) (s5.obj 0 rfl) o.Proc k ?_
  rw [hpn,setM_snoc hpn,← hps]
  have s6:=s5.putObj 0 rfl (mapG Cut.intK natK (plM ((accP.map Seg.obj).take (k+1)) 0) (k+1))
  simp (disch:=first|omega|exact zF rfl|exact zG rfl|exact(·)|(simp only[zA,zB,zC,zD,bytesW];omega)) only[go_sem,c17L0,c17S1,c17S2,c17S3,c17S4,c17S5,c17S7,c17L1,c17S10,c17L2,c17S14,c17S16]
  exact ⟨⟨by omega,by omega⟩,k+1,rfl,⟨s6,by omega⟩,by omega⟩
 ·have hlt':¬ (k:Int)<(progsW accP).length:=by omega
  obtain rfl:k=accP.length:=by omega
  rw [List.take_of_length_le (by simp)] at s5
  simp (disch:=first|omega|exact zF rfl|exact zG rfl|exact(·)|(simp only[zA,zB,zC,zD,bytesW];omega)) only[go_sem,c17L0,c17S1,c17S2,c17S3,c17S4,c17S5,c17S7,c17L1,c17S10,c17L2,c17S14,c17S16,c17L0,hlt']
  have hsok:=start_ok (accP:=accP) (accO:=accO) (M:=102) (by have:=rem_start (accO:=accO) hP hn; omega)
  refine valid_mid (SL:=[]) (dm:=[]) (sp:=startW accP accO) h hi hl hil hn hw hP hO cx hkP s5 VaS.start rfl hsok rfl fun w' hb=>⟨accP,hP,rfl,hb⟩
def validD (l:List OpT) (ids:List Int):Bool:=@decide (∃ accP accO,Cut.ByProc l accP∧Cut.ByObj l accO∧validP (progsW accP) (objsW accO) (startW accP accO) ids=true) (Classical.propDecidable _)
theorem validD_eq{l:List OpT}{ids:List Int}{accP accO:List Seg}(hl:Cut.Pure l)(hP:Cut.ByProc l accP)(hO:Cut.ByObj l accO):validD l ids=validP (progsW accP) (objsW accO) (startW accP accO) ids:=by
 cases e:validP (progsW accP) (objsW accO) (startW accP accO) ids with
 | true=>exact @decide_eq_true _ (Classical.propDecidable _) ⟨accP,accO,hP,hO,e⟩
 | false =>
  refine @decide_eq_false _ (Classical.propDecidable _) ?_
  rintro ⟨aP,aO,h1,h2,h3⟩
  rw [Cut.byProc_unique hl h1 hP,Cut.byObj_unique hl h2 hO] at h3
  rw [e] at h3
  cases h3
theorem validD_ok(v iv:Value)(l:List OpT)(ids:List Int)(w:World)(h:RdS w 11 OpT.enc v l)(hi:RdS w 1 intE iv ids)(hl:l.length≤100)(hil:ids.length≤1000)(hn:(l.map OpT.ID).Nodup)(hk:∀ a∈l,∀ b∈l,a.Object=b.Object→a.Kind=b.Kind)(hw:∀ o∈l,o.wf) :
  Ret Tryz.prog 17 [v,iv] w fun u w'=>u=.bool (validD l ids)∧Below w.heap.size w w':=by
 obtain ⟨accO,hO⟩:=byObj_some l
 refine Ret.mono (valid_ok v iv l ids w h hi hl hil hn hk hw hO) ?_
 rintro _ w' ⟨accP,hP,rfl,hb⟩
 exact ⟨by rw [validD_eq (pure_nodup hn) hP hO],hb⟩
theorem PgR.atE{w:World}{p:Addr}{n c:Nat}{P:List (List OpT)}{vs:List Value}(h:PgR w (.slice (some p) n c) P vs){k:Nat}(hk:k<P.length):∃ a cc,w.cell? (p.add k)=some (.slice a P[k].length cc)∧∀ w' pv,PgR w' pv P vs→RdS w' 11 OpT.enc (.slice a P[k].length cc) P[k]:=by
 have hv:k<vs.length:=by have:=h.len; omega
 have r:=h.elt k P[k] vs[k] (List.getElem?_eq_getElem hk) (List.getElem?_eq_getElem hv)
 obtain ⟨a,cc,e,_⟩:=r.form
 have hc:=RdS.at1 (e1:=fun v=>v) (show RdS w 1 (fun v=>[v]) (.slice (some p) n c) vs from h.top) hv
 rw [e] at hc
 refine ⟨a,cc,hc,fun w' pv h'=>?_⟩
 rw [← e]
 exact h'.elt k P[k] vs[k] (List.getElem?_eq_getElem hk) (List.getElem?_eq_getElem hv)
abbrev OVS:=Int × VS
def osE(p:OVS):List Value:=[.int .i64 p.1,p.2.1]
theorem osE_len(p:OVS):(osE p).length=2:=rfl
structure StL(w:World)(v:Value)(S:List OVS):Prop where
 top:RdS w 2 osE v S
 el:∀ p∈S,RdS w 1 intE p.2.1 p.2.2
theorem StL.below{w w':World}{v:Value}{S:List OVS}(h:StL w v S)(hb:Below w.heap.size w w'):StL w' v S:=⟨h.top.below hb (by decide),fun p hp=>(h.el p hp).below hb (by decide)⟩
def StL.foot(v:Value)(S:List OVS)(k:Nat):Prop:=slFoot v k∨∃ p∈S,slFoot p.2.1 k
theorem StL.nil{w:World}:StL w (.slice none 0 0) []:=⟨RdS.nil,fun p hp=>by cases hp⟩
def osP(S:List OVS):List ObS:=S.map fun p=>(p.1,p.2.2)
theorem osP_len(S:List OVS):(osP S).length=S.length:=by simp [osP]
theorem osE_one{S:List OVS}{w:World}(h:∀ p∈S,RdS w 1 intE p.2.1 p.2.2):∀ u∈S.flatMap osE,u.oneCell'=true:=by
 intro u hu
 obtain ⟨p,hp,hu⟩:=List.mem_flatMap.1 hu
 obtain ⟨a,c,e,_⟩:=(h p hp).form
 unfold osE at hu
 rw [e] at hu
 simp only [List.mem_cons,List.not_mem_nil,or_false] at hu
 rcases hu with rfl | rfl <;> rfl
theorem rstepN_ok(v:Value)(s:List Int)(o:OpT)(w:World)(h:RdS w 1 intE v s)(hl:s.length≤1000000)(hs:o.Kind=5→s.Pairwise (· < ·)) :
  Ret Tryz.prog 72 [v,.agg o.enc.toArray] w fun u w'=>(∃ t ok,u=.tuple #[t,.bool ok]∧match stepP s o with
   | none=>ok=false∧t=.slice none 0 0
   | some s'=>ok=true∧RdS w' 1 intE t s'∧∀ k,slFoot t k→slFoot v k∨w.heap.size≤k)∧Below w.heap.size w w':=by
 refine ent72 _ _ _ _ ?_
 have ho:=o.at
 have hw1:Below w.heap.size w (w.alloc (.cells o.enc.toArray 52)):=(Below.refl _ w).alloc (Nat.le_refl _) _
 simp (disch:=first|omega|exact zF rfl|exact zG rfl|exact(·)|(simp only[zA,zB,zC,zD,bytesW];omega)) only[go_sem]
 refine Ret.mono (rdo_ok v s o _ (h.below hw1 (by decide)) hl hs) ?_
 rintro _ w2 ⟨⟨t,a,ok,rfl,⟨ta,tn,tc,rfl⟩,hm⟩,b2⟩
 have hB2:Blk w2 w.heap.size o.enc.toArray 52:=Blk.new.below b2 Blk.new.lt
 have s2:=((((St.start (W0:=w)).box o.enc.toArray 52).call b2)).box #[.slice ta tn tc,.int .i64 a,.bool ok] 150
 have r2:=s2.rules 1 rfl
 have q2:=s2.rules 0 rfl
 have lt2:w.heap.size<w2.heap.size:=hB2.lt
 simp (disch:=first|omega|exact zF rfl|exact zG rfl|exact(·)|(simp only[zA,zB,zC,zD,bytesW];omega)) only[go_sem,q2]
 cases hd:doP s o with
 | none =>
  rw [hd] at hm
  have hm:ok=false:=hm
  subst hm
  have e:stepP s o=none:=by unfold stepP; rw [hd]
  simp (disch:=first|omega|exact zF rfl|exact zG rfl|exact(·)|(simp only[zA,zB,zC,zD,bytesW];omega)) only[go_sem,c72S1,r2,q2,ho]
  exact ⟨⟨_,_,rfl,by rw [e]; exact ⟨rfl,rfl⟩⟩,s2.bel⟩
 | some p =>
  obtain ⟨s',n⟩:=p
  rw [hd] at hm
  obtain ⟨rfl,rfl,h3,f3⟩:=hm
  have f3':∀ k,slFoot (.slice ta tn tc) k→slFoot v k∨w.heap.size≤k:=fun k hk=>(f3 k hk).imp id fun h=>Nat.le_trans (by simp) h
  have h4:=h3.below ((Below.refl _ w2).alloc (Nat.le_refl _) (.cells #[.slice ta tn tc,.int .i64 a,.bool true] 150)) (by decide)
  cases hdn:o.Done with
  | false =>
   have e:stepP s o=some s':=by unfold stepP; rw [hd]; simp [hdn]
   simp (disch:=first|omega|exact zF rfl|exact zG rfl|exact(·)|(simp only[zA,zB,zC,zD,bytesW];omega)) only[go_sem,c72S1,r2,q2,ho,hdn]
   exact ⟨⟨_,_,rfl,by rw [e]; exact ⟨rfl,h4,f3'⟩⟩,s2.bel⟩
  | true =>
   simp (disch:=first|omega|exact zF rfl|exact zG rfl|exact(·)|(simp only[zA,zB,zC,zD,bytesW];omega)) only[go_sem,c72S1,r2,q2,ho,hdn]
   refine ⟨fun hne=>⟨⟨_,_,rfl,?_⟩,s2.bel⟩,fun heq=>⟨⟨_,_,rfl,?_⟩,s2.bel⟩⟩
   ·rw [show stepP s o=none by unfold stepP; rw [hd]; simp [hdn,hne]]
    exact ⟨rfl,rfl⟩
   ·rw [show stepP s o=some s' by unfold stepP; rw [hd]; simp [hdn,heq]]
    exact ⟨rfl,h4,f3'⟩
def posI(S:List OVS)(x:Int):Int:=match posD (osP S) x with
 | some i=>i
 | none => -1
theorem posD_at{S:List OVS}{x:Int}{k:Nat}(hk:k<S.length)(h:S[k].1=x)(hb:∀ j,(hj:j<S.length)→j<k→S[j].1≠x):posD (osP S) x=some k:=by
 unfold posD
 rw [List.findIdx?_eq_some_iff_getElem]
 refine ⟨by rw [osP_len]; exact hk,by simpa [osP] using h,fun j hj=>?_⟩
 have:=hb j (by omega) hj
 simpa [osP] using this
theorem posD_not{S:List OVS}{x:Int}(hb:∀ j,(hj:j<S.length)→S[j].1≠x):posD (osP S) x=none:=by
 unfold posD
 rw [List.findIdx?_eq_none_iff]
 intro p hp
 obtain ⟨j,hj,rfl⟩:=List.mem_iff_getElem.1 hp
 have:=hb j (by rw [osP_len] at hj; exact hj)
 simpa [osP] using this
def DFindV(W:World)(S:List OVS)(o:OpT)(w':World)(u:Value):Prop:=∃ sv,u=.tuple #[sv,.int .i64 (posI S o.Object)]∧RdS w' 1 intE sv (findD (osP S) o.Object o.Kind)∧∀ k,slFoot sv k→(∃ p∈S,slFoot p.2.1 k)∨W.heap.size≤k
theorem dfind_ok(v:Value)(S:List OVS)(o:OpT)(w:World)(h:StL w v S)(hl:S.length≤1000) :
  Ret Tryz.prog 70 [v,.agg o.enc.toArray] w fun u w'=>DFindV w S o w' u∧Below w.heap.size w w':=by
 obtain ⟨a,c,rfl,_⟩:=h.top.form
 refine ent70 _ _ _ _ ?_
 have ao:=o.at
 simp (disch:=first|omega|exact zF rfl|exact zG rfl|exact(·)|(simp only[zA,zB,zC,zD,bytesW];omega)) only[go_sem]
 have s1:=(St.start (W0:=w)).box o.enc.toArray 52
 generalize w.alloc (.cells o.enc.toArray 52)=w1 at s1 ⊢
 refine W_loopU (fun k:Nat=>[(6,.int .i64 k)]) (fun k w'=>St w w' (fun _=>False) [.blk w.heap.size o.enc.toArray 52] []∧k≤S.length∧∀ j,(hj:j<S.length)→j<k→S[j].1≠o.Object) (fun k=>S.length - k) 0 rfl ⟨s1,Nat.zero_le _,fun j _ h=>by omega⟩ ?_
 rintro k w2 ⟨s2,hk,hb⟩
 by_cases hlt:k<S.length
 ·have hlt':(k:Int)<S.length:=by omega
  obtain ⟨p,rfl⟩:=h.top.ptr (by omega)
  have s3:=s2.drew
  have hS:=h.below s3.bel
  have e3:=hS.top.elt osE_len (by decide) hlt
  have e30:w2.drew.cell? (p.add (k * 2))=some (.int .i64 S[k].1):=e3.1
  have e31:w2.drew.cell? ⟨p.block,p.off+k * 2+1,none⟩=some S[k].2.1:=e3.2 1 (by decide) (by decide)
  have hel:=hS.el _ (List.getElem_mem hlt)
  obtain ⟨ta,tc,et,_⟩:=hel.form
  have r3:=s3.rules 0 rfl
  by_cases hx:S[k].1=o.Object
  ·have hpos:=posD_at hlt hx fun j hj h=>hb j hj h
   rw [et] at e31 hel
   simp (disch:=first|omega|exact zF rfl|exact zG rfl|exact(·)|(simp only[zA,zB,zC,zD,bytesW];omega)) only[go_sem,c70L0,c70L0,hlt']
   refine c70draw0 ?_
   simp (disch:=first|omega|exact zF rfl|exact zG rfl|exact(·)|(simp only[zA,zB,zC,zD,bytesW];omega)) only[go_sem,c70L0,c70S4,c70D0,hlt',e30,e31,r3,ao,hx]
   refine ⟨by omega,by omega,⟨.slice ta S[k].2.2.length tc,?_,?_,fun j hj=>.inl ⟨_,List.getElem_mem hlt,by rw [et]; exact hj⟩⟩,s3.bel⟩
   ·unfold posI
    rw [hpos]
   ·have:findD (osP S) o.Object o.Kind=S[k].2.2:=by
     unfold findD
     rw [hpos]
     simp [osP,List.getD_eq_getElem?_getD,List.getElem?_eq_getElem hlt]
    rw [this]
    exact hel
  ·simp (disch:=first|omega|exact zF rfl|exact zG rfl|exact(·)|(simp only[zA,zB,zC,zD,bytesW];omega)) only[go_sem,c70L0,c70L0,hlt']
   refine c70draw0 ?_
   simp (disch:=first|omega|exact zF rfl|exact zG rfl|exact(·)|(simp only[zA,zB,zC,zD,bytesW];omega)) only[go_sem,c70L0,c70D0,hlt',e30,r3,ao,hx]
   refine ⟨by omega,⟨by omega,by omega⟩,k+1,rfl,⟨s3,by omega,fun j hj h=>?_⟩,by omega⟩
   rcases Nat.lt_or_ge j k with h1 | h1
   ·exact hb j hj h1
   ·obtain rfl:j=k:=by omega
    exact hx
 ·have hlt':¬ (k:Int)<S.length:=by omega
  have r2:=s2.rules 0 rfl
  have hpos:=posD_not (S:=S) (x:=o.Object) fun j hj=>hb j hj (by omega)
  simp (disch:=first|omega|exact zF rfl|exact zG rfl|exact(·)|(simp only[zA,zB,zC,zD,bytesW];omega)) only[go_sem,c70L0,c70S4,c70L0,hlt',r2,ao]
  refine Ret.mono (rfirst_ok o.Kind w2) ?_
  rintro t w3 ⟨⟨ht,hft⟩,b3⟩
  simp (disch:=first|omega|exact zF rfl|exact zG rfl|exact(·)|(simp only[zA,zB,zC,zD,bytesW];omega)) only[go_sem,c70L0,c70S4]
  refine ⟨⟨t,?_,?_,fun j hj=>.inr (Nat.le_trans s2.size (hft j hj))⟩,(s2.call b3).bel⟩
  ·unfold posI
   rw [hpos]
  ·unfold findD
   rw [hpos]
   exact ht
theorem posD_lt{S:List OVS}{x:Int}{i:Nat}(h:posD (osP S) x=some i):i<S.length:=by
 obtain ⟨hi,_⟩:=posD_some h
 rw [osP_len] at hi
 exact hi
theorem osP_set{S:List OVS}{i:Nat}(hi:i<S.length)(x:Int)(t:VS)(hx:posD (osP S) x=some i):osP (S.set i (S[i].1,t))=putD (osP S) x t.2:=by
 unfold putD
 rw [hx]
 simp [osP,List.map_set,List.getD_eq_getElem?_getD,List.getElem?_eq_getElem hi]
theorem osP_snoc{S:List OVS}(x:Int)(t:VS)(hx:posD (osP S) x=none):osP (S++[(x,t)])=putD (osP S) x t.2:=by
 unfold putD
 rw [hx]
 simp [osP]
theorem flat_set2{S:List OVS}{i:Nat}(hi:i<S.length)(t:VS):(S.flatMap osE).set (i * 2+1) t.1=(S.set i (S[i].1,t)).flatMap osE:=by
 induction S generalizing i with
 | nil=>simp at hi
 | cons p S ih =>
  cases i with
  | zero=>simp [osE]
  | succ i =>
   have:=ih (i:=i) (by simpa using hi)
   rw [List.flatMap_cons,List.set_append_right _ _ (by rw [osE_len]; omega),osE_len,List.set_cons_succ,List.flatMap_cons]
   have e:(i+1) * 2+1 - 2=i * 2+1:=by omega
   rw [e]
   congr 1
def DStepV(W:World)(v:Value)(S:List OVS)(o:OpT)(w':World)(u:Value):Prop:=∃ lv ok,u=.tuple #[lv,.bool ok]∧match stepP (findD (osP S) o.Object o.Kind) o with
 | none=>ok=false
 | some t=>ok=true∧∃ S',StL w' lv S'∧osP S'=putD (osP S) o.Object t∧S'.length≤S.length+1∧∀ k,StL.foot lv S' k→StL.foot v S k∨W.heap.size≤k
theorem dstep_ok(v:Value)(S:List OVS)(o:OpT)(w:World)(h:StL w v S)(hl:S.length≤1000)(hsl:(findD (osP S) o.Object o.Kind).length≤1000)(hk5:o.Kind=5→(findD (osP S) o.Object o.Kind).Pairwise (· < ·)) :
  Ret Tryz.prog 35 [v,.agg o.enc.toArray] w fun u w'=>DStepV w v S o w' u∧Below w.heap.size w w':=by
 obtain ⟨a,c,rfl,_⟩:=h.top.form
 refine ent35 _ _ _ _ ?_
 have ao:=o.at
 simp (disch:=first|omega|exact zF rfl|exact zG rfl|exact(·)|(simp only[zA,zB,zC,zD,bytesW];omega)) only[go_sem,c35S2,c35S3]
 have s1:=(St.start (W0:=w)).box o.enc.toArray 52
 generalize w.alloc (.cells o.enc.toArray 52)=w1 at s1 ⊢
 refine Ret.mono (dfind_ok _ S o w1 (h.below s1.bel) hl) ?_
 rintro _ w2 ⟨⟨sv,rfl,hsv,fsv⟩,b2⟩
 have s2:=s1.call b2
 have r2:=s2.rules 0 rfl
 simp (disch:=first|omega|exact zF rfl|exact zG rfl|exact(·)|(simp only[zA,zB,zC,zD,bytesW];omega)) only[go_sem,c35S2,c35S4,r2]
 refine Ret.mono (rstepN_ok sv _ o w2 hsv (by omega) hk5) ?_
 rintro _ w3 ⟨⟨t,ok,rfl,hm⟩,b3⟩
 have s3:=s2.call b3
 have ft1:∀ {t'},stepP (findD (osP S) o.Object o.Kind) o=some t'→∀ k,slFoot t k→StL.foot (.slice a S.length c) S k∨w.heap.size≤k:=fun {t'} e k hk=>by
  rw [e] at hm
  rcases hm.2.2 k hk with h | h
  ·rcases fsv k h with h | h
   ·exact .inl (.inr h)
   ·exact .inr (Nat.le_trans s1.size h)
  ·exact .inr (Nat.le_trans s2.size h)
 have ht:∃ t',RdS w3 1 intE t t'∧(match stepP (findD (osP S) o.Object o.Kind) o with | none=>ok=false | some s'=>ok=true∧t'=s'):=by
  cases e:stepP (findD (osP S) o.Object o.Kind) o with
  | none=>rw [e] at hm; exact ⟨[],by rw [hm.2]; exact RdS.nil,hm.1⟩
  | some s'=>rw [e] at hm; exact ⟨s',hm.2.1,hm.1,rfl⟩
 clear hm
 obtain ⟨t',ht,hm⟩:=ht
 obtain ⟨ta,tc,rfl,_⟩:=ht.form
 simp (disch:=first|omega|exact zF rfl|exact zG rfl|exact(·)|(simp only[zA,zB,zC,zD,bytesW];omega)) only[go_sem,c35S3,c35S4]
 refine bsW_none ty68mkI ?_
 simp (disch:=first|omega|exact zF rfl|exact zG rfl|exact(·)|(simp only[zA,zB,zC,zD,bytesW];omega)) only[go_sem,c35S3,c35S4]
 have s4:=(St.start (W0:=w3)).emptyRow 125 2
 have h4:=h.below (s3.bel.trans (s4.bel.mono s3.size))
 refine s4.append 0 rfl ty68mkI rfl (by decide) h4.top (osE_one h4.el) (by omega) (by omega) ?_
 intro v5 w5 s5 _
 simp only [List.set_cons_zero,List.nil_append,Nat.zero_add] at s5
 have bw5:Below w.heap.size w w5:=s3.bel.trans (s5.bel.mono s3.size)
 have h5:=h.below bw5
 have ht5:RdS w5 1 intE (.slice ta t'.length tc) t':=ht.below s5.bel (by decide)
 have r5:=((s3.blk 0 rfl).below s5.bel (s3.low 0 rfl).2).rules
 have l3:=s3.low 0 rfl
 obtain ⟨va,vc,rfl,_⟩:=own_slice (s5.row 0 rfl)
 cases hp:posD (osP S) o.Object with
 | none =>
  have hi:posI S o.Object = -1:=by unfold posI; rw [hp]
  simp (disch:=first|omega|exact zF rfl|exact zG rfl|exact(·)|(simp only[zA,zB,zC,zD,bytesW];omega)) only[go_sem,c35S2,c35S3,c35S4,hi,r5,ao]
  refine bdW_built (cells:=#[.int .i64 o.Object,.slice ta t'.length tc]) (by kernel_rfl) ?_
  simp (disch:=first|omega|exact zF rfl|exact zG rfl|exact(·)|(simp only[zA,zB,zC,zD,bytesW];omega)) only[go_sem,c35S2,c35S3,c35S4]
  refine bsW_agg ty68mkI rfl (by decide) (by decide) ?_
  simp (disch:=first|omega|exact zF rfl|exact zG rfl|exact(·)|(simp only[zA,zB,zC,zD,bytesW];omega)) only[go_sem,c35S2,c35S3,c35S4]
  have hx1:Rd (w5.alloc (.cells #[.int .i64 o.Object,.slice ta t'.length tc] 125)) 2 (.slice (some ⟨w5.heap.size,0,none⟩) 1 1) 1 [.int .i64 o.Object,.slice ta t'.length tc]:=rd_new (n:=1) (cs:=#[.int .i64 o.Object,.slice ta t'.length tc]) rfl
  refine (s5.alloc' (.cells #[.int .i64 o.Object,.slice ta t'.length tc] 125)).append 0 rfl ty68mkI rfl (by decide) hx1 (by intro u hu; simp only [List.mem_cons,List.not_mem_nil,or_false] at hu; rcases hu with rfl | rfl <;> rfl) (by omega) (by omega) ?_
  intro v7 w7 s7 _
  simp only [List.set_cons_zero] at s7
  simp (disch:=first|omega|exact zF rfl|exact zG rfl|exact(·)|(simp only[zA,zB,zC,zD,bytesW];omega)) only[go_sem,c35S2,c35S3,c35S4]
  refine ⟨⟨v7,ok,rfl,?_⟩,s3.bel.trans (s7.bel.mono s3.size)⟩
  have hS7:StL w7 v7 (S++[(o.Object,(.slice ta t'.length tc,t'))]):=by
   refine ⟨RdS.of_own' (s7.row 0 rfl) _ (by simp) (by rw [List.flatMap_append]; rfl),fun p hp=>?_⟩
   rcases List.mem_append.1 hp with hp | hp
   ·exact (h.below (s3.bel.trans (s7.bel.mono s3.size))).el p hp
   ·rw [List.mem_singleton] at hp
    subst hp
    exact ht.below s7.bel (by decide)
  cases e:stepP (findD (osP S) o.Object o.Kind) o with
  | none=>rw [e] at hm; exact hm
  | some s' =>
   rw [e] at hm
   obtain ⟨rfl,rfl⟩:=hm
   refine ⟨rfl,_,hS7,osP_snoc _ _ hp,by simp,fun k hk=>?_⟩
   rcases hk with hk | ⟨p,hpm,hk⟩
   ·have:=(World.ownsRow.lt (s7.row 0 rfl) k (slFoot_own hk)).1
    exact .inr (Nat.le_trans s3.size this)
   ·rcases List.mem_append.1 hpm with hpm | hpm
    ·exact .inl (.inr ⟨p,hpm,hk⟩)
    ·rw [List.mem_singleton] at hpm
     subst hpm
     exact ft1 e k hk
 | some i =>
  have hi:posI S o.Object=i:=by unfold posI; rw [hp]
  have hil:=posD_lt hp
  have hi0:¬ (i:Int)<0:=by omega
  have hil':(i:Int)<S.length:=by omega
  obtain ⟨g,rfl⟩:=own_ptr (s5.row 0 rfl) (by omega)
  simp (disch:=first|omega|exact zF rfl|exact zG rfl|exact(·)|(simp only[zA,zB,zC,zD,bytesW];omega)) only[go_sem,c35S2,c35S3,c35S4,hi,hi0,hil']
  have hfl:=flat_all osE_len S
  have s6:=s5.put 0 rfl (i * 2+1) (.slice ta t'.length tc)
  simp only [List.set_cons_zero] at s6
  rw [flat_set2 hil (.slice ta t'.length tc,t')] at s6
  generalize hw6:w5.setCell ⟨g,i * 2+1,none⟩ (.slice ta t'.length tc)=w6 at s6 ⊢
  refine ⟨by omega,⟨_,(own_cell (s5.row 0 rfl)).1 (i * 2+1) _ (List.getElem?_eq_getElem (by omega))⟩,(own_cell (s5.row 0 rfl)).2 _,⟨_,ok,rfl,?_⟩,s3.bel.trans (s6.bel.mono s3.size)⟩
  have hS6:StL w6 (.slice (some ⟨g,0,none⟩) S.length vc) (S.set i (S[i].1,(.slice ta t'.length tc,t'))):=by
   refine ⟨RdS.of_own' (s6.row 0 rfl) _ (by simp) rfl,fun p hp=>?_⟩
   rcases List.mem_or_eq_of_mem_set hp with hp | rfl
   ·exact (h.below (s3.bel.trans (s6.bel.mono s3.size))).el p hp
   ·exact ht.below s6.bel (by decide)
  cases e:stepP (findD (osP S) o.Object o.Kind) o with
  | none=>rw [e] at hm; exact hm
  | some s' =>
   rw [e] at hm
   obtain ⟨rfl,rfl⟩:=hm
   refine ⟨rfl,_,hS6,osP_set hil _ _ hp,by simp,fun k hk=>?_⟩
   rcases hk with hk | ⟨p,hpm,hk⟩
   ·have:=(World.ownsRow.lt (s6.row 0 rfl) k (slFoot_own hk)).1
    exact .inr (Nat.le_trans s3.size this)
   ·rcases List.mem_or_eq_of_mem_set hpm with hpm | rfl
    ·exact .inl (.inr ⟨p,hpm,hk⟩)
    ·exact ft1 e k hk
theorem dover_ok{w:World}{dv pv:Value}{P:List (List OpT)}{vs:List Value}{d:List Nat}(hP:PgR w pv P vs)(hd:RdS w 1 intE dv (zN d))(hl:d.length=P.length)(hn:P.length≤1000)(hp:∀ k,(P.getD k []).length≤1000)(hle:∀ k,d.getD k 0≤(P.getD k []).length) :
  Ret Tryz.prog 37 [pv,dv] w fun u w'=>u=.bool (endsP P d)∧Below w.heap.size w w':=by
 obtain ⟨a,c,rfl,_⟩:=hd.form
 obtain ⟨pa,pc,rfl⟩:=hP.form
 rw [zN_len] at hd ⊢
 refine ent37 _ _ _ _ ?_
 simp (disch:=first|omega|exact zF rfl|exact zG rfl|exact(·)|(simp only[zA,zB,zC,zD,bytesW];omega)) only[go_sem]
 refine W_loopU (fun k:Nat=>[(5,.int .i64 k)]) (fun k w'=>w'=w∧k≤P.length∧∀ j,j<k→endK P d j=true) (fun k=>P.length - k) 0 rfl ⟨rfl,Nat.zero_le _,fun j h=>by omega⟩ ?_
 rintro k w1 ⟨rfl,hk,hall⟩
 by_cases hlt:k<P.length
 ·have hlt':(k:Int)<P.length:=by omega
  obtain ⟨p,rfl⟩:=hP.ptr (by omega)
  obtain ⟨q,rfl⟩:=hd.ptr (by rw [zN_len]; omega)
  obtain ⟨ra,rc,e1,e2⟩:=hP.at hlt
  have e3:=zN_cell hd (k:=k) (by omega)
  have hk2:(k:Int)<d.length:=by omega
  have hpk:P.getD k []=P[k]:=by simp [List.getD_eq_getElem?_getD,List.getElem?_eq_getElem hlt]
  have hle2:=hle k
  have hp2:=hp k
  rw [hpk] at hle2 hp2
  simp (disch:=first|omega|exact zF rfl|exact zG rfl|exact(·)|(simp only[zA,zB,zC,zD,bytesW];omega)) only[go_sem,c37L1,c37L1,hlt',e3,hk2]
  refine ⟨by omega,?_⟩
  refine W_loopU (fun j:Nat=>[(6,.int .i64 j)]) (fun j w'=>w'=w1∧d.getD k 0≤j∧j≤P[k].length∧∀ i,(h:i<P[k].length)→d.getD k 0≤i→i<j→P[k][i].Done=false) (fun j=>P[k].length - j) (d.getD k 0) rfl ⟨rfl,Nat.le_refl _,hle2,fun i _ h1 h2=>by omega⟩ ?_
  rintro j w2 ⟨rfl,hj0,hj,ha⟩
  by_cases hjl:j<P[k].length
  ·have hjl':(j:Int)<P[k].length:=by omega
   obtain ⟨s,rfl⟩:=e2.ptr (by omega)
   have ej:=e2.elt OpT.len (by decide) hjl
   have aj:=P[k][j].at
   have e7:w2.cell? ⟨s.block,s.off+j * 11+7,none⟩=some (.bool P[k][j].Done):=by
    rw [ej.2 7 (by decide) (by decide)]; exact aj.2.2.2.2.2.2.2.1
   simp (disch:=first|omega|exact zF rfl|exact zG rfl|exact(·)|(simp only[zA,zB,zC,zD,bytesW];omega)) only[go_sem,c37L0,c37L1,c37L0,hlt',e1,hjl',e7]
   refine ⟨by omega,by omega,by omega,fun hdn=>⟨(endsP_no hlt ?_).symm,Below.refl _ _⟩,fun hdn=>⟨⟨by omega,by omega⟩,j+1,rfl,⟨by omega,by omega,fun i h h1 h2=>?_⟩,by omega⟩⟩
   ·unfold endK
    rw [hpk]
    cases e:(P[k].drop (d.getD k 0)).all fun o=>!o.Done with
    | false=>rfl
    | true =>
     have hm:P[k][j]∈P[k].drop (d.getD k 0):=List.mem_iff_getElem.2 ⟨j - d.getD k 0,by rw [List.length_drop]; omega,by rw [List.getElem_drop]; congr 1; omega⟩
     have:=List.all_eq_true.1 e _ hm
     rw [hdn] at this
     cases this
   ·rcases Nat.lt_or_ge i j with h3 | h3
    ·exact ha i h h1 h3
    ·obtain rfl:i=j:=by omega
     exact hdn
  ·have hjl':¬ (j:Int)<P[k].length:=by omega
   simp (disch:=first|omega|exact zF rfl|exact zG rfl|exact(·)|(simp only[zA,zB,zC,zD,bytesW];omega)) only[go_sem,c37L0,c37L1,c37L0,hlt',e1,hjl']
   refine ⟨by omega,⟨by omega,by omega⟩,k+1,rfl,⟨by omega,fun i hi=>?_⟩,by omega⟩
   rcases Nat.lt_or_ge i k with h3 | h3
   ·exact hall i h3
   ·obtain rfl:i=k:=by omega
    unfold endK
    rw [hpk]
    refine List.all_eq_true.2 fun o ho=>?_
    obtain ⟨q1,q2,rfl⟩:=List.mem_iff_getElem.1 ho
    rw [List.length_drop] at q2
    rw [List.getElem_drop,ha _ (by omega) (by omega) (by omega)]
    rfl
 ·have hlt':¬ (k:Int)<P.length:=by omega
  simp (disch:=first|omega|exact zF rfl|exact zG rfl|exact(·)|(simp only[zA,zB,zC,zD,bytesW];omega)) only[go_sem,c37L0,c37L1,c37L1,hlt']
  refine ⟨?_,Below.refl _ _⟩
  unfold endsP
  exact (List.all_eq_true.2 fun j hj=>hall j (by have:=List.mem_range.1 hj; omega)).symm
end Go.Proofs.YtoadmihnihfjkaaGreat

namespace Go.Proofs.YtoadmihnihfjkaaGreat.Cut
open Go Go.Ann Go.RowKit
theorem rprogramsN_ok(v:Value)(l:List OpT)(w:World)(h:RdS w 11 OpT.enc v l)(hl:l.length≤100) :
  Ret Tryz.prog 14 [v] w fun u w'=>(∃ acc vs,ByProc l acc∧Progs w' w.heap.size u acc vs)∧Below w.heap.size w w':=by
 obtain ⟨a,c,rfl,_⟩:=h.form
 refine ent14 _ _ _ ?_
 simp (disch:=first|omega|exact zF rfl|exact zG rfl|exact(·)|(simp only[zA,zB,zC,zD,bytesW];omega)) only[go_sem,c14S5,c14S6,c14S7]
 refine W_loopU (fun x:Value × Int × Bool=>[(3,x.1),(4,.int .i64 x.2.1),(5,.bool x.2.2)]) (fun x w'=>∃ acc vs,vs.length=acc.length∧acc.length+(leftP l x.2.2 x.2.1).length≤l.length∧St w w' (fun _=>False) [.row x.1 22 1 acc.length vs] (segInvs acc vs)∧PartP l acc x.2.2 x.2.1∧∀ v∈vs,∀ k,slFoot v k→w.heap.size≤k) (fun x=>(leftP l x.2.2 x.2.1).length) (.slice none 0 0,0,false) rfl ⟨[],[],rfl,by rw [List.length_nil,Nat.zero_add]; exact List.length_filter_le _ _,(St.start (W0:=w)).nilRow 22 1,PartP.nil l 0,fun v hv=>(by cases hv)⟩ ?_
 rintro ⟨vo,last,any⟩ w1 ⟨acc,vs,hvs,hlen,s1,hp,hnew⟩
 simp only at hlen s1 hp
 simp (disch:=first|omega|exact zF rfl|exact zG rfl|exact(·)|(simp only[zA,zB,zC,zD,bytesW];omega)) only[go_sem,c14S5,c14S6]
 refine W_loopU (fun x:Int × Bool × Nat=>[(6,.int .i64 x.1),(7,.bool x.2.1),(8,.int .i64 x.2.2)]) (fun x w'=>w'=w1∧x.2.2≤l.length∧NextP l any last x.2.2 x.2.1 x.1) (fun x=>l.length - x.2.2) (0,false,0) rfl ⟨rfl,Nat.zero_le _,.inl ⟨rfl,fun o h=>by simp at h⟩⟩ ?_
 rintro ⟨next,found,k⟩ _ ⟨rfl,hk,hn⟩
 simp only at hk hn
 by_cases hkl:k<l.length
 ·have hkl':(k:Int)<l.length:=by omega
  obtain ⟨q,rfl⟩:=h.ptr (by omega)
  have ek:=h.eltB s1.bel OpT.len (by decide) hkl
  have ak:=l[k].at
  simp (disch:=first|omega|exact zF rfl|exact zG rfl|exact(·)|(simp only[zA,zB,zC,zD,bytesW];omega)) only[go_sem,c14S5,c14S6,hkl',ek,ak]
  have tk:(any=true→last<l[k].Proc)→(found=true→l[k].Proc<next)→k+1≤l.length∧NextP l any last (k+1) true l[k].Proc:=fun a b=>⟨hkl,hn.take hkl a b⟩
  have sk:((any=true∧l[k].Proc≤last)∨(found=true∧next≤l[k].Proc))→k+1≤l.length∧NextP l any last (k+1) found next:=fun a=>⟨hkl,hn.skip hkl a⟩
  refine ⟨fun ha=>⟨by omega,fun h1=>⟨fun hf=>⟨by omega,fun h2=>⟨by omega,⟨by omega,by omega⟩,(_,_,k+1),rfl,tk (fun _=>h1) (fun _=>h2),by simp only; omega⟩,fun h2=>⟨⟨by omega,by omega⟩,(_,_,k+1),rfl,sk (.inr ⟨hf,h2⟩),by simp only; omega⟩⟩,fun hf=>⟨by omega,⟨by omega,by omega⟩,(_,_,k+1),rfl,tk (fun _=>h1) (fun h=>by rw [hf] at h; cases h),by simp only; omega⟩⟩,fun h1=>⟨⟨by omega,by omega⟩,(_,_,k+1),rfl,sk (.inl ⟨ha,h1⟩),by simp only; omega⟩⟩,fun ha=>⟨fun hf=>⟨by omega,fun h2=>⟨by omega,⟨by omega,by omega⟩,(_,_,k+1),rfl,tk (fun h=>by rw [ha] at h; cases h) (fun _=>h2),by simp only; omega⟩,fun h2=>⟨⟨by omega,by omega⟩,(_,_,k+1),rfl,sk (.inr ⟨hf,h2⟩),by simp only; omega⟩⟩,fun hf=>⟨by omega,⟨by omega,by omega⟩,(_,_,k+1),rfl,tk (fun h=>by rw [ha] at h; cases h) (fun h=>by rw [hf] at h; cases h),by simp only; omega⟩⟩⟩
 ·have hkl':¬ (k:Int)<l.length:=by omega
  simp (disch:=first|omega|exact zF rfl|exact zG rfl|exact(·)|(simp only[zA,zB,zC,zD,bytesW];omega)) only[go_sem,c14S5,c14S7,hkl']
  have hkk:k=l.length:=by omega
  subst hkk
  unfold NextP at hn
  rw [List.take_length] at hn
  refine ⟨fun hf=>⟨⟨acc,vs,⟨hp.up,hp.sorts,hp.kind,fun o ho=>?_⟩,⟨hvs,RdS.of_own' (s1.row 0 rfl) vs hvs.symm (flatMap_one vs).symm,(fun j s v hs hv=>⟨?_,?_⟩),fun k hk=>(World.ownsRow.lt (s1.row 0 rfl) k (slFoot_own hk)).1,hnew⟩⟩,s1.bel⟩,fun hf=>?_⟩
  ·rcases hn with ⟨_,hn⟩ | ⟨hn,_⟩
   ·rcases hp.all o ho with h' | h'
    ·unfold leftP at h'
     rw [List.mem_filter] at h'
     obtain ⟨a1,a2⟩:=hn o ho
     rw [a1] at h'
     have:=h'.2
     simp at this
     omega
    ·exact h'
   ·rw [hf] at hn; cases hn
  ·exact (s1.inv _ (segInvs_mem acc vs j s v hs hv)).1
  ·have e1:=(hp.sorts s (List.mem_of_getElem? hs)).1.length_eq
   have e2:=ofProc_len s.obj l
   omega
  ·rcases hn with ⟨hn,_⟩ | ⟨_,⟨x,hx,hxe⟩,hlo,hmin⟩
   ·rw [hf] at hn; cases hn
   simp (disch:=first|omega|exact zF rfl|exact zG rfl|exact(·)|(simp only[zA,zB,zC,zD,bytesW];omega)) only[go_sem,c14S6,c14S7]
   refine W_loopU (fun y:Value × Nat=>[(9,y.1),(10,.int .i64 y.2)]) (fun y w'=>y.2≤l.length∧St w w' (fun _=>False) [.row y.1 52 11 (ofProc next (l.take y.2)).length ((ofProc next (l.take y.2)).flatMap OpT.enc),.row vo 22 1 acc.length vs] (segInvs acc vs)) (fun y=>l.length - y.2) (.slice none 0 0,0) rfl ⟨Nat.zero_le _,s1.nilRow 52 11⟩ ?_
   rintro ⟨v2,k⟩ w2 ⟨hk2,s2⟩
   simp only at hk2 s2
   by_cases hkl2:k<l.length
   ·have hkl2':(k:Int)<l.length:=by omega
    obtain ⟨q,rfl⟩:=h.ptr (by omega)
    have ek:=h.eltB s2.bel OpT.len (by decide) hkl2
    have ck:=cellsO_below s2.bel (h.at OpT.len hkl2)
    have ak:=l[k].at
    have hf1:=ofProc_len next (l.take k)
    rw [List.length_take] at hf1
    have hsn:=ofProc_snoc next hkl2
    simp (disch:=first|omega|exact zF rfl|exact zG rfl|exact(·)|(simp only[zA,zB,zC,zD,bytesW];omega)) only[go_sem,c14S6,c14S7,hkl2',ek,ak,ck]
    refine ⟨by omega,fun he=>⟨by omega,bsW_agg ty22mkI rfl (by decide) (by decide) ?_⟩,fun he=>⟨⟨by omega,by omega⟩,(v2,k+1),rfl,⟨hkl2,?_⟩,by simp only; omega⟩⟩
    ·have hrd:Rd (w2.alloc (.cells l[k].enc.toArray 52)) 11 (.slice (some ⟨w2.heap.size,0,none⟩) 1 1) 1 l[k].enc:=rd_new (t:=52) (sz:=11) (n:=1) (cs:=l[k].enc.toArray) rfl
     have s3:=s2.alloc' (.cells l[k].enc.toArray 52)
     generalize w2.alloc (.cells l[k].enc.toArray 52)=w3 at s3 hrd ⊢
     simp (disch:=first|omega|exact zF rfl|exact zG rfl|exact(·)|(simp only[zA,zB,zC,zD,bytesW];omega)) only[go_sem,c14S6,c14S7]
     refine s3.append 0 rfl ty22mkI rfl (by decide) hrd l[k].one (by omega) (by omega) ?_
     intro v4 w4 s4 _
     simp only [List.set_cons_zero] at s4
     simp (disch:=first|omega|exact zF rfl|exact zG rfl|exact(·)|(simp only[zA,zB,zC,zD,bytesW];omega)) only[go_sem,c14S6,c14S7]
     refine ⟨⟨by omega,by omega⟩,(v4,k+1),rfl,⟨hkl2,?_⟩,by simp only; omega⟩
     simp only
     have e2:(ofProc next (l.take k)++[l[k]]).length=(ofProc next (l.take k)).length+1:=by simp
     have e3:(ofProc next (l.take k)++[l[k]]).flatMap OpT.enc=(ofProc next (l.take k)).flatMap OpT.enc++l[k].enc:=by rw [List.flatMap_append]; simp
     rw [hsn,if_pos he,e2,e3]
     exact s4
    ·simp only
     rw [hsn,if_neg he,List.append_nil]
     exact s2
   ·have hkl2':¬ (k:Int)<l.length:=by omega
    simp (disch:=first|omega|exact zF rfl|exact zG rfl|exact(·)|(simp only[zA,zB,zC,zD,bytesW];omega)) only[go_sem,c14S6,c14S7,hkl2']
    have hkk:k=l.length:=by omega
    subst hkk
    rw [List.take_length] at s2
    simp (disch:=first|omega|exact zF rfl|exact zG rfl|exact(·)|(simp only[zA,zB,zC,zD,bytesW];omega)) only[go_sem,c14S5,c14S6,c14S7]
    refine Ret.mono (sorted_ok _ _ _ (RdS.of_own (s2.row 0 rfl)) (by have:=ofProc_len next l; omega)) ?_
    rintro v3 w3 ⟨⟨r,hs,o3⟩,b3⟩
    have s3:=(s2.sub (List.sublist_cons_self _ _)).add b3 (.row v3 52 11 r.length (r.flatMap OpT.enc)) (own_mono o3 s2.size) fun k hk=>(o3.lt k hk).1
    have hrx:r≠[]:=fun e=>by
     have hm:x∈ofProc next l:=by unfold ofProc; rw [List.mem_filter]; exact ⟨hx,by simpa using hxe⟩
     have:=hs.1.length_eq
     rw [e] at this
     rw [List.eq_nil_of_length_eq_zero this.symm] at hm
     cases hm
    obtain ⟨o,r',rfl⟩:=List.exists_cons_of_ne_nil hrx
    have hro:RdS w3 11 OpT.enc v3 (o::r'):=RdS.of_own o3
    obtain ⟨p,cp,rfl,_⟩:=hro.form
    obtain ⟨p,rfl⟩:=hro.ptr (by simp)
    simp (disch:=first|omega|exact zF rfl|exact zG rfl|exact(·)|(simp only[zA,zB,zC,zD,bytesW];omega)) only[go_sem,c14S5,c14S6,c14S7]
    have s4:=s3.seal (.rd 11 OpT.enc (.slice (some p) (r'.length+1) cp) (o::r')) hro fun k hk=>slFoot_own hk
    refine bsW_ones ty31mkI rfl rfl (by decide) (by decide) (by intro u hu; rw [List.mem_singleton] at hu; subst hu; rfl) ?_
    have s5:=s4.alloc' (.cells #[.slice (some p) (r'.length+1) cp] 22)
    have hrd:Rd (w3.alloc (.cells #[.slice (some p) (r'.length+1) cp] 22)) 1 (.slice (some ⟨w3.heap.size,0,none⟩) 1 1) 1 [.slice (some p) (r'.length+1) cp]:=rd_new (t:=22) (sz:=1) (n:=1) (cs:=#[.slice (some p) (r'.length+1) cp]) rfl
    simp (disch:=first|omega|exact zF rfl|exact zG rfl|exact(·)|(simp only[zA,zB,zC,zD,bytesW];omega)) only[go_sem,c14S5,c14S6,c14S7]
    generalize w3.alloc (.cells #[.slice (some p) (r'.length+1) cp] 22)=w4 at s5 hrd ⊢
    refine s5.append 0 rfl ty31mkI rfl (by decide) hrd (by intro u hu; rw [List.mem_singleton] at hu; subst hu; rfl) (by omega) (by omega) ?_
    intro v5 w5 s6 _
    simp only [List.set_cons_zero] at s6
    simp (disch:=first|omega|exact zF rfl|exact zG rfl|exact(·)|(simp only[zA,zB,zC,zD,bytesW];omega)) only[go_sem,c14S5,c14S6,c14S7]
    obtain ⟨p1,p2⟩:=hp.step hx hxe hlo hmin hs
    refine ⟨(v5,next,true),rfl,⟨acc++[⟨next,o.Kind,o::r'⟩],vs++[.slice (some p) (r'.length+1) cp],by simp [hvs],by simp only; rw [List.length_append,List.length_singleton]; omega,?_,p1,fun v hv k hk=>?_⟩,p2⟩
    rotate_left
    ·rcases List.mem_append.1 hv with hv | hv
     ·exact hnew v hv k hk
     ·rw [List.mem_singleton] at hv
      subst hv
      exact Nat.le_trans s2.size (o3.lt k (slFoot_own hk)).1
    rw [List.length_append,List.length_singleton]
    refine St.inv_sub s6 fun a ha=>?_
    rcases (segInvs_snoc acc vs _ _ hvs a).1 ha with rfl | ha
    ·exact List.mem_cons_self
    ·exact List.mem_cons_of_mem _ ha
end Go.Proofs.YtoadmihnihfjkaaGreat.Cut

namespace Go.Proofs.YtoadmihnihfjkaaGreat
open Go Go.Ann Go.RowKit
theorem StL.loc{w w':World}{v:Value}{S:List OVS}(h:StL w v S)(hk:∀ k,StL.foot v S k→w'.heap[k]?=w.heap[k]?):StL w' v S :=
 ⟨h.top.loc fun k hf=>hk k (.inl hf),fun p hp=>(h.el p hp).loc fun k hf=>hk k (.inr ⟨p,hp,hf⟩)⟩
theorem StL.footLt{w:World}{v:Value}{S:List OVS}(h:StL w v S){k:Nat}(hk:StL.foot v S k):k<w.heap.size:=by
 rcases hk with hk | ⟨p,hp,hk⟩
 ·exact h.top.footLt (by decide) hk
 ·exact (h.el p hp).footLt (by decide) hk
def Inv.os(v:Value)(S:List OVS):Inv:=⟨fun w=>StL w v S,StL.foot v S,fun _ _ h hk=>h.loc hk⟩
theorem St.addI{W0 w w':World}{F:Nat→Prop}{L:List Res}{I:List Inv}(h:St W0 w F L I)(hb:Below w.heap.size w w')(a:Inv)(ha:a.holds w')(hlt:∀ k,a.foot k→k<w'.heap.size)(hf:∀ k,a.foot k→(∃ b∈I,b.foot k)∨w.heap.size≤k):St W0 w' F L (a::I):=by
 have h':=h.call hb
 refine h'.keep a ha fun k hk=>⟨hlt k hk,?_⟩
 rcases hf k hk with ⟨b,hb,hbk⟩ | hn
 ·exact ((h'.inv b hb).2 k hbk).2
 ·refine ⟨fun hF=>?_,fun r hr e=>?_⟩
  ·have:=(h.foot k hF).2
   omega
  ·have:=((h.res r hr).1.lt k e).2
   omega
theorem St.osNext{W0 w w':World}{F:Nat→Prop}{L:List Res}{I:List Inv}{v v':Value}{S S':List OVS}(h:St W0 w F L (Inv.os v S::I))(hb:Below w.heap.size w w')(hS:StL w' v' S')(hf:∀ k,StL.foot v' S' k→StL.foot v S k∨w.heap.size≤k):St W0 w' F L (Inv.os v' S'::I) :=
 (St.addI h hb (Inv.os v' S') hS (fun k hk=>hS.footLt hk) fun k hk=>(hf k hk).imp (fun h=>⟨Inv.os v S,List.mem_cons_self,h⟩) id).inv_sub fun a ha=>by
  rcases List.mem_cons.1 ha with rfl | ha
  ·exact List.mem_cons_self
  ·exact List.mem_cons_of_mem _ (List.mem_cons_of_mem _ ha)
theorem kOf_at{P:List (List OpT)}{d:List Nat}{id:Int}{k:Nat}(hk:k<P.length)(h:isOp P d id k=true)(hb:∀ j,j<k→isOp P d id j=false):kOf P d id=some k:=by
 unfold kOf
 have:=Cut.find_at (l:=List.range P.length) (p:=isOp P d id) (k:=k) (by simpa using hk) (by simpa using h) fun j hj h2=>by simpa using hb j h2
 rw [this]
 simp
theorem kOf_no{P:List (List OpT)}{d:List Nat}{id:Int}(hb:∀ j,j<P.length→isOp P d id j=false):kOf P d id=none:=by
 unfold kOf
 refine List.find?_eq_none.2 fun j hj=>?_
 rw [hb j (List.mem_range.1 hj)]
 decide
theorem std_find{accO:List Seg}{SL:List ObS}{st:List (List Int)}(h:StD accO SL st){o:OpT}(ho:(objsW accO).idxOf o.Object<accO.length)(hk:accO[(objsW accO).idxOf o.Object].kind=o.Kind):findD SL o.Object o.Kind=st.getD ((objsW accO).idxOf o.Object) []:=by
 have h1:(objsW accO).idxOf o.Object<(objsW accO).length:=by simpa [objsW] using ho
 have e1:=List.getElem_idxOf h1
 have e2:(objsW accO)[(objsW accO).idxOf o.Object]'h1=(accO[(objsW accO).idxOf o.Object]'ho).obj:=by simp only [objsW,List.getElem_map]
 have:=h _ ho
 rw [hk,← e2,e1] at this
 exact this
theorem zN_flat{d:List Nat}{k:Nat}(hk:k<d.length):((zN d).flatMap intE)[k]?=some (.int .i64 (d.getD k 0:Nat)):=by
 have:(zN d).flatMap intE=(zN d).map fun n=>.int .i64 n:=by
  induction zN d with
  | nil=>rfl
  | cons a l ih=>rw [List.flatMap_cons,ih]; rfl
 rw [this,List.getElem?_map,List.getElem?_eq_getElem (by rw [zN_len]; omega),zN_get]; rfl
theorem zN_flat_set(d:List Nat)(k n:Nat):((zN d).flatMap intE).set k (.int .i64 ((n:Nat)+1))=(zN (d.set k (n+1))).flatMap intE:=by
 have:∀ l:List Int,l.flatMap intE=l.map fun n=>.int .i64 n:=fun l=>by
  induction l with
  | nil=>rfl
  | cons a l ih=>rw [List.flatMap_cons,ih]; rfl
 rw [this,this,zN_set,List.map_set]
 simp
theorem dvalid_ok(v iv:Value)(l:List OpT)(ids:List Int)(w:World)(h:RdS w 11 OpT.enc v l)(hi:RdS w 1 intE iv ids)(hl:l.length≤100)(hil:ids.length≤500)(hn:(l.map OpT.ID).Nodup)(hk:∀ a∈l,∀ b∈l,a.Object=b.Object→a.Kind=b.Kind)(hw:∀ o∈l,o.wf) :
  Ret Tryz.prog 18 [v,iv] w fun u w'=>u=.bool (validD l ids)∧Below w.heap.size w w':=by
 obtain ⟨a,c,rfl,_⟩:=h.form
 obtain ⟨ia,ic,rfl,_⟩:=hi.form
 obtain ⟨accO,hO⟩:=byObj_some l
 refine ent18 _ _ _ _ ?_
 simp (disch:=first|omega|exact zF rfl|exact zG rfl|exact(·)|(simp only[zA,zB,zC,zD,bytesW];omega)) only[go_sem,c18S1,c18S2,c18L0,c18S5,c18L1,c18S9]
 refine Ret.mono (Cut.rprogramsN_ok _ l w h hl) ?_
 rintro pv w1 ⟨⟨accP,vs,hP,hpr⟩,b1⟩
 have cx:=ctx_of hP hO hw hk (by omega)
 have hpg:=PgR.of hpr
 have s1:=(St.start (W0:=w)).made b1 (Inv.pg pv (progsW accP) vs) hpg fun k hk=>⟨by
  rcases hk with hk | ⟨v,hv,hk⟩
  ·exact hpr.newT k hk
  ·exact hpr.newE v hv k hk,hpg.footLt hk⟩
 obtain ⟨pa,pc,rfl⟩:=hpg.form
 have hPl:(progsW accP).length=accP.length:=by simp [progsW]
 have hpl2:=cx.pl
 rw [validD_eq (pure_nodup hn) hP hO]
 simp (disch:=first|omega|exact zF rfl|exact zG rfl|exact(·)|(simp only[zA,zB,zC,zD,bytesW];omega)) only[go_sem,c18S1,c18S2,c18L0,c18S5,c18S10]
 refine msW_one ty25mkI rfl (by omega) (by omega) (by omega) (by omega) ?_
 rw [Int.toNat_natCast]
 have hz:Blk (w1.alloc (.cells (zerosA (.int .i64 0) (progsW accP).length) 3)) w1.heap.size (zerosA (.int .i64 0) (progsW accP).length) 3:=Blk.new
 have ez:(zerosA (.int .i64 0) (progsW accP).length).toList=(zN (List.replicate (progsW accP).length 0)).flatMap intE:=by
  unfold zerosA zN
  rw [List.map_replicate]
  generalize (progsW accP).length=q
  induction q with
  | zero=>rfl
  | succ q ih=>simp only [List.replicate_succ,List.flatMap_cons,← ih]; rfl
 have ho:=hz.own (n:=(progsW accP).length) (cap:=(progsW accP).length) (size:=1) (xs:=(zN (List.replicate (progsW accP).length 0)).flatMap intE) (base:=w1.heap.size) (Nat.le_refl _) (Nat.le_refl _) (by have:maxLen=9223372036854775807:=(by decide); omega) (by simp [zerosA]) (by rw [ez,List.take_of_length_le]; rw [flat_all (sz:=1) (fun _=>rfl),zN_len,List.length_replicate]; exact Nat.le_refl _)
 have s2:=St.keepU (s1.add ((Below.refl _ w1).alloc (Nat.le_refl _) (.cells (zerosA (.int .i64 0) (progsW accP).length) 3)) (.row (.slice (some ⟨w1.heap.size,0,none⟩) (progsW accP).length (progsW accP).length) 3 1 (progsW accP).length ((zN (List.replicate (progsW accP).length 0)).flatMap intE)) (own_mono ho s1.size) fun k hk=>(ho.lt k hk).1) (Inv.os (.slice none 0 0) []) StL.nil (fun k hk=>by
  rcases hk with hk | ⟨p,hp,_⟩
  ·exact absurd hk slFoot_none
  ·cases hp)
 have hst:(startW accP accO).done=List.replicate (progsW accP).length 0:=by simp [startW,progsW]
 rw [← hst] at s2
 generalize w1.alloc (.cells (zerosA (.int .i64 0) (progsW accP).length) 3)=w2 at s2 ⊢
 generalize w1.heap.size=g at s2 ⊢
 have hsok:=start_ok (accP:=accP) (accO:=accO) (M:=102) (by have:=rem_start (accO:=accO) hP hn; omega)
 have hstd:StD accO (osP []) (startW accP accO).st:=StD.start
 clear ho ez hz s1
 simp (disch:=first|omega|exact zF rfl|exact zG rfl|exact(·)|(simp only[zA,zB,zC,zD,bytesW];omega)) only[go_sem,c18S1,c18S2,c18L0,c18S5,c18S10]
 generalize hans:validP (progsW accP) (objsW accO) (startW accP accO) ids=ans
 generalize hn0:(progsW accP).length=n at *
 have hRow:∀ {w':World} {sp:Sp} {vv:Value} {S:List OVS},St w w' (fun _=>False) [.row (.slice (some ⟨g,0,none⟩) n n) 3 1 n ((zN sp.done).flatMap intE)] [Inv.os vv S,Inv.pg (.slice pa n pc) (progsW accP) vs]→sp.done.length=n→RdS w' 1 intE (.slice (some ⟨g,0,none⟩) n n) (zN sp.done):=fun s hd=>RdS.of_own' (s.row 0 rfl) _ (by rw [zN_len,hd]) rfl
 refine W_loopU (fun z:Nat × Sp × Value × List OVS=>[(7,z.2.2.1),(8,.int .i64 z.1)]) (fun z w'=>St w w' (fun _=>False) [.row (.slice (some ⟨g,0,none⟩) n n) 3 1 n ((zN z.2.1.done).flatMap intE)] [Inv.os z.2.2.1 z.2.2.2,Inv.pg (.slice pa n pc) (progsW accP) vs]∧z.1≤ids.length∧StD accO (osP z.2.2.2) z.2.1.st∧SpOk (progsW accP) accO 102 z.2.1∧validP (progsW accP) (objsW accO) z.2.1 (ids.drop z.1)=ans∧z.2.2.2.length≤z.1) (fun z=>ids.length - z.1) (0,startW accP accO,.slice none 0 0,[]) rfl ⟨s2,Nat.zero_le _,hstd,hsok,hans,Nat.zero_le _⟩ ?_
 rintro ⟨i,sp,sv,S⟩ w3 ⟨s3,hil3,hstd3,hok3,hans3,hSl⟩
 simp only at s3 hil3 hstd3 hok3 hans3 hSl
 have hdl:sp.done.length=n:=by rw [hok3.dl,hn0]
 by_cases hlt:i<ids.length
 ·have hlt':(i:Int)<ids.length:=by omega
  obtain ⟨iq,rfl⟩:=hi.ptr (by omega)
  have hdr:ids.drop i=ids[i]::ids.drop (i+1):=List.drop_eq_getElem_cons hlt
  rw [hdr] at hans3
  have hid:∀ w',Below w.heap.size w w'→w'.cell? (iq.add i)=some (.int .i64 ids[i]):=fun w' hb=>RdS.int (hi.below hb (by decide)) hlt
  generalize ids[i]=id at hid hans3
  simp (disch:=first|omega|exact zF rfl|exact zG rfl|exact(·)|(simp only[zA,zB,zC,zD,bytesW];omega)) only[go_sem,c18S1,c18S2,c18L1,c18S10,c18L1,hlt']
  refine W_loopU (fun y:Nat × Bool × Sp × Value × List OVS=>[(7,y.2.2.2.1),(9,.bool y.2.1),(10,.int .i64 y.1)]) (fun y w'=>St w w' (fun _=>False) [.row (.slice (some ⟨g,0,none⟩) n n) 3 1 n ((zN y.2.2.1.done).flatMap intE)] [Inv.os y.2.2.2.1 y.2.2.2.2,Inv.pg (.slice pa n pc) (progsW accP) vs]∧y.1≤n∧(y.2.1=false→y.2.2=(sp,sv,S)∧∀ j,j<y.1→isOp (progsW accP) sp.done id j=false)∧(y.2.1=true→StD accO (osP y.2.2.2.2) y.2.2.1.st∧SpOk (progsW accP) accO 102 y.2.2.1∧validP (progsW accP) (objsW accO) y.2.2.1 (ids.drop (i+1))=ans∧y.2.2.2.2.length≤i+1)) (fun y=>(n - y.1)+(if y.2.1 then 0 else 1)) (0,false,sp,sv,S) rfl ⟨s3,Nat.zero_le _,fun _=>⟨rfl,fun j hj=>by simp only at hj; omega⟩,fun h=>by cases h⟩ ?_
  rintro ⟨k,found,sp4,sv4,S4⟩ w4 ⟨s4,hk4,hf4,ht4⟩
  simp only at s4 hk4 hf4 ht4
  cases found with
  | true =>
   obtain ⟨t1,t2,t3,t4⟩:=ht4 rfl
   by_cases hkn:k<n
   ·have hkn':(k:Int)<n:=by omega
    simp (disch:=first|omega|exact zF rfl|exact zG rfl|exact(·)|(simp only[zA,zB,zC,zD,bytesW];omega)) only[go_sem,c18S1,c18S2,c18L0,c18S5,c18L1,c18S10,c18L0,hkn']
    exact ⟨⟨by omega,by omega⟩,(i+1,sp4,sv4,S4),rfl,⟨s4,by simp only; omega,t1,t2,t3,t4⟩,by simp only; omega⟩
   ·have hkn':¬ (k:Int)<n:=by omega
    simp (disch:=first|omega|exact zF rfl|exact zG rfl|exact(·)|(simp only[zA,zB,zC,zD,bytesW];omega)) only[go_sem,c18S1,c18S2,c18L0,c18S5,c18L1,c18S10,c18L0,hkn']
    exact ⟨⟨by omega,by omega⟩,(i+1,sp4,sv4,S4),rfl,⟨s4,by simp only; omega,t1,t2,t3,t4⟩,by simp only; omega⟩
  | false =>
   obtain ⟨e4,hb4⟩:=hf4 rfl
   cases e4
   by_cases hkn:k<n
   ·have hkn':(k:Int)<n:=by omega
    simp (disch:=first|omega|exact zF rfl|exact zG rfl|exact(·)|(simp only[zA,zB,zC,zD,bytesW];omega)) only[go_sem,c18S1,c18L0,c18L1,c18S10,c18L0,hkn']
    refine c18draw0 ?_
    have s5:=s4.drew
    have hPr:PgR w4.drew (.slice pa n pc) (progsW accP) vs:=s5.get 1 rfl
    obtain ⟨pp,rfl⟩:=hPr.ptr (by omega)
    obtain ⟨ra,rc,e1,rr⟩:=PgR.atE hPr (k:=k) (by omega)
    have hka:k<accP.length:=by omega
    have hPk:(progsW accP)[k]'(by omega)=accP[k].ops:=by simp [progsW]
    rw [hPk] at e1 rr
    have r1:=rr _ _ hPr
    have cd:=(own_cell (s5.row 0 rfl)).1 k _ (zN_flat (d:=sp.done) (k:=k) (by omega))
    have ei:=hid _ s5.bel
    have hle:=hok3.le k
    rw [progs_getD hka] at hle
    have hop:=opAt_eq (accP:=accP) (d:=sp.done) (k:=k) (by omega) hka
    have hpk:=cx.pp k
    rw [progs_getD hka] at hpk
    have nxb:isOp (progsW accP) sp.done id k=false→∀ j,j<k+1→isOp (progsW accP) sp.done id j=false:=fun h j hj=>by
     rcases Nat.lt_or_ge j k with h1 | h1
     ·exact hb4 j h1
     ·obtain rfl:j=k:=by omega
      exact h
    by_cases hd:sp.done.getD k 0<accP[k].ops.length
    ·have hd':((sp.done.getD k 0:Nat):Int)<accP[k].ops.length:=by omega
     obtain ⟨rp,rfl⟩:=r1.ptr (by omega)
     have eo:=r1.elt OpT.len (by decide) hd
     have hget:accP[k].ops[sp.done.getD k 0]?=some accP[k].ops[sp.done.getD k 0]:=List.getElem?_eq_getElem hd
     have hmem:=(byProc_mem hP (List.getElem_mem hka) _).1 (List.getElem_mem hd)
     have cod:=fun (w':World) (hw':PgR w' (.slice (some pp) n pc) (progsW accP) vs)=>(rr _ _ hw').at OpT.len hd
     generalize accP[k].ops[sp.done.getD k 0]=o at eo hget hmem cod
     have eo0:w4.drew.cell? (rp.add (sp.done.getD k 0 * 11))=some (.int .i64 o.ID):=by rw [eo.1]; exact o.at.1
     rw [hget] at hop
     have hisk:isOp (progsW accP) sp.done id k=decide (o.ID=id):=by unfold isOp; rw [hop]
     by_cases hoid:o.ID=id
     ·have hisk:isOp (progsW accP) sp.done id k=true:=by rw [hisk]; exact decide_eq_true hoid
      simp (disch:=first|omega|exact zF rfl|exact zG rfl|exact(·)|(simp only[zA,zB,zC,zD,bytesW];omega)) only[go_sem,c18S2,c18L0,c18L1,c18S10,c18D0,hkn',cd,e1,hd',eo0,ei,hlt',hoid]
      refine ⟨by omega,by omega,by omega,by omega,by omega,by omega,?_⟩
      refine c18draw1 (Chg (fun _=>False) _) (Chg.refl _ _) ?_
      have s6:=s5.drew
      have cd6:=(own_cell (s6.row 0 rfl)).1 k _ (zN_flat (d:=sp.done) (k:=k) (by omega))
      have f6:=(own_cell (s6.row 0 rfl)).2 k
      have co6:=cod _ (s6.get 1 rfl)
      have e16:w4.drew.drew.cell? (pp.add k)=some (.slice (some rp) accP[k].ops.length rc):=e1
      have lpp:pp.block<w4.heap.size:=Rd.footLt (show PgR w4 (.slice (some pp) n pc) (progsW accP) vs from s4.get 1 rfl).top (by decide) ⟨_,_,_,rfl,by omega,rfl⟩
      simp (disch:=first|omega|exact zF rfl|exact zG rfl|exact(·)|(simp only[zA,zB,zC,zD,bytesW];omega)) only[go_sem,c18S2,c18L0,c18L1,c18S10,c18D1,hkn',cd6,e1,e16,hd',co6,cd]
      obtain ⟨hx,hxk⟩:=cx.pr.ob k o (by rw [progs_getD hka]; exact List.mem_of_getElem? hget)
      have hfd:=std_find hstd3 hx hxk
      obtain ⟨q1,q2,q3⟩:=hok3.ok _ hx
      have chg:∀ {wa wb:World},Below wa.heap.size wa wb→Chg (fun _=>False) wa wb:=fun hb=>Chg.of_below hb
      refine ⟨by omega,by omega,by omega,Ret.mono (dstep_ok sv S o _ (s6.get 0 rfl) (by omega) (by rw [hfd]; omega) (fun e=>by rw [hfd]; exact q3 (hxk.trans e))) ?_⟩
      rintro _ w7 ⟨⟨lv,ok,rfl,hm⟩,b7⟩
      rw [hfd] at hm
      have hmv:mvP (progsW accP) (objsW accO) sp k=match stepP (sp.st.getD ((objsW accO).idxOf o.Object) []) o with
        | none=>none
        | some t=>some (o.ID,⟨sp.done.set k (sp.done.getD k 0+1),sp.st.set ((objsW accO).idxOf o.Object) t⟩):=by
       unfold mvP
       rw [hop]
       rfl
      rw [validP,kOf_at (by omega) hisk hb4] at hans3
      simp only at hans3
      cases hst2:stepP (sp.st.getD ((objsW accO).idxOf o.Object) []) o with
      | none =>
       rw [hst2] at hm hmv
       have hm:ok=false:=hm
       subst hm
       rw [hmv] at hans3
       have s7:=s6.call b7
       simp (disch:=first|omega|exact zF rfl|exact zG rfl|exact(·)|(simp only[zA,zB,zC,zD,bytesW];omega)) only[go_sem,c18S1,c18S2,c18L0,c18S5,c18L1,c18S9,c18S10,c18D1]
       exact ⟨chg b7,hans3,s7.bel⟩
      | some t =>
       rw [hst2] at hm hmv
       obtain ⟨rfl,S',hS',eS',lS',fS'⟩:=hm
       rw [hmv] at hans3
       have s7:=St.osNext s6 b7 hS' fS'
       have cd7:=(own_cell (s7.row 0 rfl)).1 k _ (zN_flat (d:=sp.done) (k:=k) (by omega))
       have f7:=(own_cell (s7.row 0 rfl)).2 k
       have s8:=s7.put 0 rfl k (.int .i64 ((sp.done.getD k 0:Nat)+1))
       simp only [List.set_cons_zero] at s8
       rw [zN_flat_set] at s8
       have hok8:=mv_ok cx.pr hok3 hmv
       have hstd8:=hstd3.put hok3.sl hO.up hx t
       rw [← eS'] at hstd8
       simp (disch:=first|omega|exact zF rfl|exact zG rfl|exact(·)|(simp only[zA,zB,zC,zD,bytesW];omega)) only[go_sem,c18S1,c18S2,c18L0,c18L1,c18S10,c18D1,cd7,f7,hkn']
       exact ⟨chg b7,by omega,⟨by omega,by omega⟩,by omega,⟨by omega,by omega⟩,(k+1,true,⟨sp.done.set k (sp.done.getD k 0+1),sp.st.set ((objsW accO).idxOf o.Object) t⟩,lv,S'),rfl,⟨s8,by simp only; omega,fun h=>(by cases h),fun _=>⟨hstd8,hok8,hans3,by simp only; omega⟩⟩,by simp; omega⟩
     ·have hisk:isOp (progsW accP) sp.done id k=false:=by rw [hisk]; exact decide_eq_false hoid
      simp (disch:=first|omega|exact zF rfl|exact zG rfl|exact(·)|(simp only[zA,zB,zC,zD,bytesW];omega)) only[go_sem,c18S1,c18S2,c18L0,c18L1,c18S10,c18D0,hkn',cd,e1,hd',eo0,ei,hlt',hoid]
      exact ⟨by omega,by omega,by omega,by omega,by omega,by omega,⟨⟨by omega,by omega⟩,(k+1,false,sp,sv,S),rfl,⟨s5,by simp only; omega,fun _=>⟨rfl,nxb hisk⟩,fun h=>by cases h⟩,by simp; omega⟩⟩
    ·have hd':¬ ((sp.done.getD k 0:Nat):Int)<accP[k].ops.length:=by omega
     have hisk:isOp (progsW accP) sp.done id k=false:=by
      unfold isOp
      rw [hop,List.getElem?_eq_none (by omega)]
     simp (disch:=first|omega|exact zF rfl|exact zG rfl|exact(·)|(simp only[zA,zB,zC,zD,bytesW];omega)) only[go_sem,c18S1,c18S2,c18L0,c18L1,c18S10,c18D0,hkn',cd,e1,hd']
     exact ⟨by omega,by omega,⟨⟨by omega,by omega⟩,(k+1,false,sp,sv,S),rfl,⟨s5,by simp only; omega,fun _=>⟨rfl,nxb hisk⟩,fun h=>by cases h⟩,by simp; omega⟩⟩
   ·have hkn':¬ (k:Int)<n:=by omega
    simp (disch:=first|omega|exact zF rfl|exact zG rfl|exact(·)|(simp only[zA,zB,zC,zD,bytesW];omega)) only[go_sem,c18S1,c18S2,c18L0,c18S5,c18L1,c18S10,c18L0,hkn']
    rw [validP,kOf_no fun j hj=>hb4 j (by omega)] at hans3
    exact ⟨hans3,s4.bel⟩
 ·have hlt':¬ (i:Int)<ids.length:=by omega
  rw [List.drop_of_length_le (by omega)] at hans3
  simp (disch:=first|omega|exact zF rfl|exact zG rfl|exact(·)|(simp only[zA,zB,zC,zD,bytesW];omega)) only[go_sem,c18S1,c18S2,c18L0,c18S5,c18L1,c18S9,c18S10,c18L1,hlt']
  have hPr:PgR w3 (.slice pa n pc) (progsW accP) vs:=s3.get 1 rfl
  refine Ret.mono (dover_ok hPr (hRow s3 hdl) (by omega) (by omega) (fun k=>Nat.le_trans (cx.pp k) (by decide)) hok3.le) ?_
  rintro _ w4 ⟨rfl,b4⟩
  simp (disch:=first|omega|exact zF rfl|exact zG rfl|exact(·)|(simp only[zA,zB,zC,zD,bytesW];omega)) only[go_sem,c18S1,c18S2,c18L0,c18S5,c18L1,c18S9,c18S10]
  exact ⟨by rw [← hans3]; rfl,(s3.call b4).bel⟩
def f1:OpT:=⟨1,1,0,1,2,1,0,true,0,1,2⟩
def f2:OpT:=⟨2,2,0,1,1,0,0,true,0,3,4⟩
def awL:List OpT:=[f1,f2]
def awP:List Seg:=[⟨1,1,[f1]⟩,⟨2,1,[f2]⟩]
def awO:List Seg:=[⟨0,1,[f1,f2]⟩]
def bfsX(P:List (List OpT))(obs:List Int)(most:Int):Nat→List Sp→Nat→Option (List Sp)
 | 0,_,_=>none
 | f+1,L,i=>if most<L.length then some L else if h:i<L.length then bfsX P obs most f (roundW P obs L L[i]) (i+1) else some L
theorem bfsX_ok{P:List (List OpT)}{obs:List Int}{most:Int}:∀ {f:Nat} {L:List Sp} {i:Nat} {r:List Sp},bfsX P obs most f L i=some r→BfsR P obs most L i r
 | 0,_,_,_,h=>by cases h
 | f+1,L,i,r,h=>by
  rw [bfsX] at h
  by_cases h1:most<L.length
  ·rw [if_pos h1] at h
   cases h
   exact .full h1
  ·rw [if_neg h1] at h
   by_cases h2:i<L.length
   ·rw [dif_pos h2] at h
    exact .go h2 h1 (bfsX_ok h)
   ·rw [dif_neg h2] at h
    cases h
    exact .last (by omega)
theorem aw_ids:(awL.map OpT.ID).Nodup:=by decide
theorem aw_kind:∀ a∈awL,∀ b∈awL,a.Object=b.Object→a.Kind=b.Kind:=by
 intro a ha b hb _
 simp only [awL,List.mem_cons,List.not_mem_nil,or_false] at ha hb
 rcases ha with rfl | rfl <;> rcases hb with rfl | rfl <;> rfl
theorem aw_wf:∀ o∈awL,o.wf:=by
 intro o ho
 simp only [awL,List.mem_cons,List.not_mem_nil,or_false] at ho
 rcases ho with rfl | rfl <;> exact ⟨rfl,rfl,rfl,rfl,rfl,rfl,rfl,rfl,rfl,rfl⟩
theorem aw_P:Cut.ByProc awL awP:=by
 refine ⟨by simp [awP],fun s hs=>?_,fun s hs=>?_,fun o ho=>?_⟩
 ·simp only [awP,List.mem_cons,List.not_mem_nil,or_false] at hs
  rcases hs with rfl | rfl
  ·exact ⟨by rw [show Cut.ofProc 1 awL=[f1] from by kernel_rfl],by simp⟩
  ·exact ⟨by rw [show Cut.ofProc 2 awL=[f2] from by kernel_rfl],by simp⟩
 ·simp only [awP,List.mem_cons,List.not_mem_nil,or_false] at hs
  rcases hs with rfl | rfl
  ·exact ⟨f1,[],rfl,rfl⟩
  ·exact ⟨f2,[],rfl,rfl⟩
 ·simp only [awL,List.mem_cons,List.not_mem_nil,or_false] at ho
  rcases ho with rfl | rfl
  ·exact ⟨_,List.mem_cons_self,rfl⟩
  ·exact ⟨_,List.mem_cons_of_mem _ List.mem_cons_self,rfl⟩
theorem aw_O:Cut.ByObj awL awO:=by
 refine ⟨by simp [awO],fun s hs=>?_,fun s hs=>?_,fun o ho=>?_⟩
 ·simp only [awO,List.mem_cons,List.not_mem_nil,or_false] at hs
  subst hs
  exact ⟨by rw [show Cut.ofObj 0 awL=[f1,f2] from by kernel_rfl],by decide⟩
 ·simp only [awO,List.mem_cons,List.not_mem_nil,or_false] at hs
  subst hs
  exact ⟨f1,[f2],rfl,rfl⟩
 ·simp only [awL,List.mem_cons,List.not_mem_nil,or_false] at ho
  rcases ho with rfl | rfl
  ·exact ⟨_,List.mem_cons_self,rfl⟩
  ·exact ⟨_,List.mem_cons_self,rfl⟩
theorem aw_bfs:∃ r,BfsR (progsW awP) (objsW awO) 99 [startW awP awO] 0 r∧r.length=4 :=
 ⟨[⟨[0,0],[[0]]⟩,⟨[1,0],[[1]]⟩,⟨[0,1],[[0]]⟩,⟨[1,1],[[1]]⟩],bfsX_ok (f:=10) (by kernel_rfl),rfl⟩
theorem aw_best:bestS (progsW awP) (objsW awO) (startW awP awO)=some [2,1]:=by kernel_rfl
theorem aw_valid:validD awL [2,1]=true:=by
 rw [validD_eq (pure_nodup aw_ids) aw_P aw_O]
 kernel_rfl
theorem aw_chk:firstChk awL=0:=by kernel_rfl
theorem awake_ok(w:World):Ret Tryz.prog 10 [] w fun u w'=>u=.bool true∧Below w.heap.size w w':=by
 refine ent10 _ _ ?_
 simp (disch:=first|omega|exact zF rfl|exact zG rfl|exact(·)|(simp only[zA,zB,zC,zD,bytesW];omega)) only[go_sem]
 refine bdW_built (cells:=f1.enc.toArray) (by kernel_rfl) ?_
 simp (disch:=first|omega|exact zF rfl|exact zG rfl|exact(·)|(simp only[zA,zB,zC,zD,bytesW];omega)) only[go_sem]
 refine bdW_built (cells:=f2.enc.toArray) (by kernel_rfl) ?_
 simp (disch:=first|omega|exact zF rfl|exact zG rfl|exact(·)|(simp only[zA,zB,zC,zD,bytesW];omega)) only[go_sem]
 refine bsW_cells (cells:=(awL.flatMap OpT.enc).toArray) ty22mkI (by decide) (by decide) (by kernel_rfl) ?_
 have hA:RdS (w.alloc (.cells (awL.flatMap OpT.enc).toArray 52)) 11 OpT.enc (.slice (some ⟨w.heap.size,0,none⟩) 2 2) awL:=rd_new (n:=2) (cs:=(awL.flatMap OpT.enc).toArray) rfl
 have s1:=(St.start (W0:=w)).alloc' (.cells (awL.flatMap OpT.enc).toArray 52)
 generalize w.alloc (.cells (awL.flatMap OpT.enc).toArray 52)=w1 at hA s1 ⊢
 simp (disch:=first|omega|exact zF rfl|exact zG rfl|exact(·)|(simp only[zA,zB,zC,zD,bytesW];omega)) only[go_sem]
 refine Ret.mono (seq_ok _ awL 99 w1 hA aw_wf aw_ids aw_kind aw_O) ?_
 rintro _ w2 ⟨iv,ok,n,e,rfl,b2,hV⟩
 obtain ⟨x,accP,hP,hS,rfl,hr⟩:=hV.good (by decide) aw_chk
 obtain rfl:=Cut.byProc_unique (pure_nodup aw_ids) hP aw_P
 obtain ⟨r,hb,hbl⟩:=aw_bfs
 have hS2:=SeqR.all (most:=min 99 32768) hb (by rw [hbl]; decide)
 rw [hbl,aw_best] at hS2
 obtain ⟨rfl,rfl,rfl⟩:=hS.one hS2
 have hr:RdS w2 1 intE iv [2,1]:=hr
 rw [show (some [2,1]:Option (List Int)).isSome=true from rfl]
 obtain ⟨ia,ic,rfl,_⟩:=hr.form
 simp (disch:=first|omega|exact zF rfl|exact zG rfl|exact(·)|(simp only[zA,zB,zC,zD,bytesW];omega)) only[go_sem,c10S1]
 refine bsW_ones ty25mkI rfl rfl (by decide) (by decide) (by intro u hu; simp only [List.mem_cons,List.not_mem_nil,or_false] at hu; rcases hu with rfl | rfl <;> rfl) ?_
 have s2:=s1.call b2
 have s3:=s2.alloc' (.cells #[.int .i64 2,.int .i64 1] 3)
 have hB:RdS (w2.alloc (.cells #[.int .i64 2,.int .i64 1] 3)) 1 intE (.slice (some ⟨w2.heap.size,0,none⟩) 2 2) [2,1]:=rd_new (n:=2) (cs:=#[.int .i64 2,.int .i64 1]) rfl
 have b3:Below w2.heap.size w2 (w2.alloc (.cells #[.int .i64 2,.int .i64 1] 3)):=(Below.refl _ _).alloc (Nat.le_refl _) _
 simp (disch:=first|omega|exact zF rfl|exact zG rfl|exact(·)|(simp only[zA,zB,zC,zD,bytesW];omega)) only[go_sem,c10S1]
 generalize w2.alloc (.cells #[.int .i64 2,.int .i64 1] 3)=w3 at s3 hB b3 ⊢
 refine Ret.mono (ints_ok _ _ [2,1] [2,1] w3 (hr.below b3 (by decide)) hB (by decide)) ?_
 rintro _ w4 ⟨rfl,b4⟩
 have s4:=s3.call b4
 rw [decide_eq_true rfl]
 simp (disch:=first|omega|exact zF rfl|exact zG rfl|exact(·)|(simp only[zA,zB,zC,zD,bytesW];omega)) only[go_sem,c10S1]
 refine Ret.mono (validD_ok _ _ awL [2,1] w4 (((hA.below b2 (by decide)).below b3 (by decide)).below b4 (by decide)) ((hr.below b3 (by decide)).below b4 (by decide)) (by decide) (by decide) aw_ids aw_kind aw_wf) ?_
 rintro _ w5 ⟨rfl,b5⟩
 rw [aw_valid]
 simp (disch:=first|omega|exact zF rfl|exact zG rfl|exact(·)|(simp only[zA,zB,zC,zD,bytesW];omega)) only[go_sem,c10S1]
 exact (s4.call b5).bel
open Go Go.Ann Go.RowKit Go.WideShapes
def smallP(l:List OpT):Bool:=decide (l.length≤10) && decide (histP l=0)
theorem small_ok(v:Value)(l:List OpT)(w:World)(h:RdS w 11 OpT.enc v l) :
  Ret Tryz.prog 19 [v] w fun u w'=>u=.bool (smallP l)∧Below w.heap.size w w':=by
 obtain ⟨a,c,rfl,_⟩:=h.form
 refine ent19 _ _ _ ?_
 by_cases hl:l.length≤10
 ·have hl':(l.length:Int)≤10:=by omega
  simp (disch:=first|omega|exact zF rfl|exact zG rfl|exact(·)|(simp only[zA,zB,zC,zD,bytesW];omega)) only[go_sem,hl']
  refine Ret.mono (rcheck_ok _ l w h (by omega)) ?_
  rintro _ w1 ⟨rfl,b1⟩
  simp (disch:=first|omega|exact zF rfl|exact zG rfl|exact(·)|(simp only[zA,zB,zC,zD,bytesW];omega)) only[go_sem]
  by_cases he:histP l=0
  ·exact ⟨by simp [smallP,hl,he],b1⟩
  ·exact ⟨by simp [smallP,hl,he],b1⟩
 ·have hl':¬ (l.length:Int)≤10:=by omega
  simp (disch:=first|omega|exact zF rfl|exact zG rfl|exact(·)|(simp only[zA,zB,zC,zD,bytesW];omega)) only[go_sem,hl']
  exact ⟨by simp [smallP,hl],Below.refl _ _⟩
theorem ofProc_snoc(x:Int){l:List OpT}{k:Nat}(h:k<l.length):Cut.ofProc x (l.take (k+1))=Cut.ofProc x (l.take k)++(if l[k].Proc=x then [l[k]] else []):=by
 rw [List.take_succ_eq_append_getElem h]
 unfold Cut.ofProc
 rw [List.filter_append]
 congr 1
 by_cases e:l[k].Proc=x <;> simp [e]
open Go Go.Ann Go.RowKit Go.WideShapes
theorem good0(K:Int)(n:Nat):Good K 1 n (List.replicate n false,firstP K):=by
 refine ⟨by simp,?_,?_,?_⟩
 ·show Ok64 (firstP K)
  unfold firstP
  split
  ·intro x hx; rw [List.mem_singleton] at hx; subst hx; constructor <;> decide
  ·intro x hx; cases hx
 ·show (firstP K).length≤_
  unfold firstP
  split <;> simp
 ·show K=5→(firstP K).Pairwise _
  unfold firstP
  split <;> simp
def Ends(s:Seg):Prop:=∃ d t,Rch s.ops (List.replicate s.ops.length false,firstP s.kind) (d,t)∧fullP s.ops d=true
theorem ends_of{s:Seg}{U0:List (List Int)}{T:List Spot}{b:Int}{X:List VS}(hU:Uniq [firstP s.kind] U0)(hR:SearchR s.ops (startP s.ops.length U0) b (some T))(hX:Uniq ((T.filter fun p=>fullP s.ops p.1).map Prod.snd) (X.map Prod.snd))(h0:X.length≠0):Ends s:=by
 match X,h0 with
 | x::X,_ =>
  obtain ⟨d,h1,h2⟩:=(exits_mem hX x.2).1 (by simp)
  obtain ⟨p,hp,hr⟩:=(closed_mem hR.1 _).1 h1
  refine ⟨d,x.2,?_,h2⟩
  unfold startP at hp
  obtain ⟨u,hu,rfl⟩:=List.mem_map.1 hp
  have:=(hU.2 u).1 hu
  rw [List.mem_singleton] at this
  subst this
  exact hr
theorem weakFollows_ok(v:Value)(l:List OpT)(w:World)(h:RdS w 11 OpT.enc v l)(hw:∀ o∈l,o.wf) :
  Ret Tryz.prog 5 [v] w fun u w'=>u=.bool true∧Below w.heap.size w w':=by
 obtain ⟨a,c,rfl,_⟩:=h.form
 refine ent5 _ _ _ ?_
 have out:∀ {w':World},Below w.heap.size w w'→Ret Tryz.prog 10 [] w' fun u w''=>u=.bool true∧Below w.heap.size w w'':=fun b=>by
  refine Ret.mono (awake_ok _) ?_
  rintro _ w2 ⟨rfl,b2⟩
  exact ⟨rfl,Below.next b b2⟩
 simp (disch:=first|omega|exact zF rfl|exact zG rfl|exact(·)|(simp only[zA,zB,zC,zD,bytesW];omega)) only[go_sem,c5S3,c5S7,c5S8,c5S9]
 refine Ret.mono (small_ok _ l w h) ?_
 rintro _ w1 ⟨rfl,b1⟩
 cases hs:smallP l with
 | false =>
  simp (disch:=first|omega|exact zF rfl|exact zG rfl|exact(·)|(simp only[zA,zB,zC,zD,bytesW];omega)) only[go_sem,c5S1,c5S3,c5S7,c5S8,c5S9,c5S10,hs]
  refine Ret.mono (out b1) ?_
  rintro _ w2 ⟨rfl,b2⟩
  simp (disch:=first|omega|exact zF rfl|exact zG rfl|exact(·)|(simp only[zA,zB,zC,zD,bytesW];omega)) only[go_sem,c5S1,c5S3,c5S7,c5S8,c5S9,c5S10]
  exact b2
 | true =>
  obtain ⟨hl,hg⟩:l.length≤10∧histP l=0:=by simpa [smallP] using hs
  obtain ⟨hchk,_⟩:=hist_more hg
  obtain ⟨_,hup,hkd⟩:=hist_good hg
  have hnd:(l.map OpT.ID).Nodup:=nodup_ids hup
  have hfc:=firstChk_all hchk
  have hpure:=pure_nodup hnd
  have h1:=h.below b1 (by decide)
  simp (disch:=first|omega|exact zF rfl|exact zG rfl|exact(·)|(simp only[zA,zB,zC,zD,bytesW];omega)) only[go_sem,c5S1,c5S3,c5S7,c5S8,c5S10,hs]
  refine Ret.mono (Cut.robjects_ok _ l w1 h1 (by omega)) ?_
  rintro ov w4 ⟨⟨acc,hO,hr4⟩,b4⟩
  have h4:=h1.below b4 (by decide)
  have b14:=Below.next b1 b4
  obtain ⟨oa,oc,rfl,_⟩:=hr4.form
  have hal:=byObj_len hO
  simp (disch:=first|omega|exact zF rfl|exact zG rfl|exact(·)|(simp only[zA,zB,zC,zD,bytesW];omega)) only[go_sem,c5S1,c5S3,c5S7,c5S9,c5S10]
  refine W_loopU (fun k:Nat=>[(4,.int .i64 k)]) (fun k w'=>Below w4.heap.size w4 w'∧k≤acc.length∧∀ s∈acc.take k,Ends s) (fun k=>acc.length - k) 0 rfl ⟨Below.refl _ _,Nat.zero_le _,fun s hs=>by simp at hs⟩ ?_
  rintro i w8 ⟨b8,hkl,hex⟩
  have b18:=Below.next b14 b8
  have h8:=h4.below b8 (by decide)
  by_cases hlt:i<acc.length
  ·have hlt':(i:Int)<acc.length:=by omega
   obtain ⟨p,rfl⟩:=hr4.ptr (by omega)
   have hr8:=hr4.below b8 (by decide) fun x c=>Cut.segR.below b8 x c
   obtain ⟨cc8,hcl8,⟨va8,rfl,hva8,hla8⟩,hld8,ea8⟩:=hr8.elt (by decide) hlt
   have hXm:acc[i]∈acc:=List.getElem_mem hlt
   have htk:acc.take (i+1)=acc.take i++[acc[i]]:=List.take_succ_eq_append_getElem hlt
   generalize acc[i]=X at hva8 hla8 hld8 ea8 hXm htk
   have hin:∀ o∈X.ops,o∈l:=fun o ho=>((byObj_mem hO hXm o).1 ho).1
   have hXl:X.ops.length≤10:=by
    have e1:=(hO.sorts _ hXm).1.length_eq
    have e2:=Cut.ofObj_len X.obj l
    omega
   have hkind:∀ o∈X.ops,o.Kind=X.kind:=by
    obtain ⟨o1,r,e1,e2⟩:=hO.kind X hXm
    intro o ho
    obtain ⟨a1,a2⟩:=(byObj_mem hO hXm o).1 ho
    obtain ⟨c1,c2⟩:=(byObj_mem hO hXm o1).1 (by rw [e1]; exact List.mem_cons_self)
    rw [e2]
    exact hkd o a1 o1 c1 (by rw [a2,c2])
   obtain ⟨oa8,oc8,rfl,_⟩:=hva8.form
   have lp:p.block<w8.heap.size:=by
    have:=World.block_lt_of_cell? w8 _ ea8.1
    rwa [add_block] at this
   simp (disch:=first|omega|exact zF rfl|exact zG rfl|exact(·)|(simp only[zA,zB,zC,zD,bytesW];omega)) only[go_sem,c5S1,c5S7,c5S8,c5S9,c5S10,hlt']
   refine c5draw0 (Chg (fun _=>False) _) (Chg.refl _ _) ?_
   simp (disch:=first|omega|exact zF rfl|exact zG rfl|exact(·)|(simp only[zA,zB,zC,zD,bytesW];omega)) only[go_sem,c5S1,c5S7,c5S8,c5S9,c5S10,c5D0,hlt',hld8,ea8]
   have t0:=St.start (W0:=w8.drew)
   have search3:∀ {wS:World} {vS fv:Value},Below w8.drew.heap.size w8.drew wS→RowS wS vS [(fv,firstP X.kind)] →
     Ret Tryz.prog 21 [.agg #[.int .i64 X.obj,.int .i64 X.kind,.slice oa8 X.ops.length oc8],vS,.int .i64 32768] wS fun u w'=>(∃ ya yn yc xa xn xc nn ue,u=.tuple #[.agg #[.slice ya yn yc,.slice xa xn xc,.int .i64 nn],.int .i64 ue]∧(ue=0→xn≠0→Ends X))∧Below wS.heap.size wS w':=fun {wS vS fv} hb hr=>by
    have g0:=good0 X.kind 0
    refine Ret.mono (rsearch_ok (K:=X.kind) (M:=100) (hva8.below (Below.next (Below.refl _ _).drew hb) (by decide)) (by omega) hkind (fun o ho=>hw o (hin o ho)) hr (by simp) (by decide) (fun p hp=>?_) (by constructor <;> decide)) ?_
    ·rw [List.mem_singleton] at hp
     subst hp
     have:=g0.sz
     simp only [List.replicate_zero,List.count_nil] at this
     exact ⟨g0.ok,by simp only; omega,g0.ris⟩
    ·rintro u w' ⟨⟨U0,r,hU,hR,hV⟩,hb'⟩
     have hR:SearchR X.ops (startP X.ops.length U0) 32768 r:=hR
     obtain ⟨ya,yn,yc,xa,xn,xc,nn,ue,rfl,hue⟩:=hV.form
     refine ⟨⟨ya,yn,yc,xa,xn,xc,nn,ue,rfl,fun h0 hx=>?_⟩,hb'⟩
     cases r with
     | some T =>
      obtain ⟨rfl,rfl,V,Y,hV3,eV,hY3,eY⟩:=SearchV.some hV
      obtain ⟨_,_,ey,_⟩:=hY3.form
      cases ey
      exact ends_of hU hR eY hx
     | none =>
      rw [hue] at h0
      simp at h0
   refine ⟨by omega,by omega,?_,?_,?_⟩
   ·refine Ret.mono (rfirst_ok X.kind _) ?_
    rintro fv wa ⟨⟨hfv,_⟩,ba⟩
    obtain ⟨fa,fc,rfl,_⟩:=hfv.form
    have ta:=t0.call ba
    have onesF:∀ u∈[Value.slice fa (firstP X.kind).length fc],u.oneCell'=true:=fun u hu=>by rw [List.mem_singleton] at hu; subst hu; rfl
    simp (disch:=first|omega|exact zF rfl|exact zG rfl|exact(·)|(simp only[zA,zB,zC,zD,bytesW];omega)) only[go_sem,c5S1,c5S7,c5S8,c5S9,c5S10]
    have bz:=Below.refl wa.heap.size wa
    refine ⟨Chg.of_below ta.bel,?_,?_,?_⟩
    ·refine bsW_ones ty41mkI rfl rfl (by decide) (by decide) onesF ?_
     have hfr:=row1 (t:=25) (hfv.below bz (by decide))
     have tb:=ta.alloc' (.cells #[.slice fa (firstP X.kind).length fc] 25)
     simp (disch:=first|omega|exact zF rfl|exact zG rfl|exact(·)|(simp only[zA,zB,zC,zD,bytesW];omega)) only[go_sem,c5S1,c5S7,c5S8,c5S9,c5S10]
     refine ⟨Chg.of_below tb.bel,?_,?_,?_⟩
     ·refine Ret.mono (search3 tb.bel hfr) ?_
      rintro u9 w9 ⟨⟨ya,yn,yc,xa,xn,xc,nn,ue,rfl,hend⟩,b9⟩
      have t8:=tb.call b9
      have t9:=t8.box #[.slice ya yn yc,.slice xa xn xc,.int .i64 nn] 43
      simp (disch:=first|omega|exact zF rfl|exact zG rfl|exact(·)|(simp only[zA,zB,zC,zD,bytesW];omega)) only[go_sem,c5S1,c5S7,c5S8,c5S9,c5S10]
      refine ⟨Chg.of_below t8.bel,Chg.of_below (t8.alloc' _).bel,Chg.of_below t9.bel,?_⟩
      have r9:=t9.rules 0 rfl
      have bq:Below w.heap.size w _:=Below.next b18 (Below.next ((Below.refl _ w8).drew) t9.bel)
      by_cases hue:ue=0
      ·subst hue
       by_cases hxn:xn=0
       ·subst hxn
        simp (disch:=first|omega|exact zF rfl|exact zG rfl|exact(·)|(simp only[zA,zB,zC,zD,bytesW];omega)) only[go_sem,c5S1,c5S3,c5S7,c5S8,c5S9,c5S10,r9]
        refine Ret.mono (out bq) ?_
        rintro _ w2 ⟨rfl,b2⟩
        simp (disch:=first|omega|exact zF rfl|exact zG rfl|exact(·)|(simp only[zA,zB,zC,zD,bytesW];omega)) only[go_sem,c5S1,c5S3,c5S7,c5S8,c5S9,c5S10]
        exact b2
       ·have hxn':¬ (xn:Int)=0:=by omega
        simp (disch:=first|omega|exact zF rfl|exact zG rfl|exact(·)|(simp only[zA,zB,zC,zD,bytesW];omega)) only[go_sem,c5S1,c5S3,c5S7,c5S8,c5S9,c5S10,r9,hxn']
        refine ⟨⟨by omega,by omega⟩,i+1,rfl,⟨Below.next b8 (Below.next ((Below.refl _ w8).drew) t9.bel),by omega,fun s hs=>?_⟩,by omega⟩
        rw [htk] at hs
        rcases List.mem_append.1 hs with hs | hs
        ·exact hex s hs
        ·rw [List.mem_singleton] at hs
         subst hs
         exact hend rfl hxn
      ·simp (disch:=first|omega|exact zF rfl|exact zG rfl|exact(·)|(simp only[zA,zB,zC,zD,bytesW];omega)) only[go_sem,c5S1,c5S3,c5S7,c5S8,c5S9,c5S10,r9,hue]
       refine Ret.mono (out bq) ?_
       rintro _ w2 ⟨rfl,b2⟩
       simp (disch:=first|omega|exact zF rfl|exact zG rfl|exact(·)|(simp only[zA,zB,zC,zD,bytesW];omega)) only[go_sem,c5S1,c5S3,c5S7,c5S8,c5S9,c5S10]
       exact b2
     ·have tz:=tb.box #[.slice none 0 0,.slice none 0 0,.int .i64 0] 43
      exact Chg.of_below tz.bel
     ·have tz:=tb.box #[.slice none 0 0,.slice none 0 0,.int .i64 0] 43
      rw [World.size_alloc] at tz
      refine Ret.mono (search3 tz.bel (hfr.below ((Below.refl _ _).alloc (Nat.le_refl _) _))) ?_
      rintro u9 w9 ⟨⟨ya,yn,yc,xa,xn,xc,nn,ue,rfl,hend⟩,b9⟩
      have t8:=tz.call b9
      have r8:=t8.rules 0 rfl
      have lz:=(tz.low 0 rfl).2
      simp (disch:=first|omega|exact zF rfl|exact zG rfl|exact(·)|(simp only[zA,zB,zC,zD,bytesW];omega)) only[go_sem,c5S1,c5S7,c5S8,c5S9,c5S10,r8]
      have t9:=t8.fill 0 rfl (cs:=#[.slice ya yn yc,.slice xa xn xc,.int .i64 nn]) rfl
      simp only [List.set_cons_zero] at t9
      refine ⟨Chg.of_below t8.bel,Chg.of_below t9.bel,?_⟩
      have r9:=t9.rules 0 rfl
      have bq:Below w.heap.size w _:=Below.next b18 (Below.next ((Below.refl _ w8).drew) t9.bel)
      by_cases hue:ue=0
      ·subst hue
       by_cases hxn:xn=0
       ·subst hxn
        simp (disch:=first|omega|exact zF rfl|exact zG rfl|exact(·)|(simp only[zA,zB,zC,zD,bytesW];omega)) only[go_sem,c5S1,c5S3,c5S7,c5S8,c5S9,c5S10,r9]
        refine Ret.mono (out bq) ?_
        rintro _ w2 ⟨rfl,b2⟩
        simp (disch:=first|omega|exact zF rfl|exact zG rfl|exact(·)|(simp only[zA,zB,zC,zD,bytesW];omega)) only[go_sem,c5S1,c5S3,c5S7,c5S8,c5S9,c5S10]
        exact b2
       ·have hxn':¬ (xn:Int)=0:=by omega
        simp (disch:=first|omega|exact zF rfl|exact zG rfl|exact(·)|(simp only[zA,zB,zC,zD,bytesW];omega)) only[go_sem,c5S1,c5S3,c5S7,c5S8,c5S9,c5S10,r9,hxn']
        refine ⟨⟨by omega,by omega⟩,i+1,rfl,⟨Below.next b8 (Below.next ((Below.refl _ w8).drew) t9.bel),by omega,fun s hs=>?_⟩,by omega⟩
        rw [htk] at hs
        rcases List.mem_append.1 hs with hs | hs
        ·exact hex s hs
        ·rw [List.mem_singleton] at hs
         subst hs
         exact hend rfl hxn
      ·simp (disch:=first|omega|exact zF rfl|exact zG rfl|exact(·)|(simp only[zA,zB,zC,zD,bytesW];omega)) only[go_sem,c5S1,c5S3,c5S7,c5S8,c5S9,c5S10,r9,hue]
       refine Ret.mono (out bq) ?_
       rintro _ w2 ⟨rfl,b2⟩
       simp (disch:=first|omega|exact zF rfl|exact zG rfl|exact(·)|(simp only[zA,zB,zC,zD,bytesW];omega)) only[go_sem,c5S1,c5S3,c5S7,c5S8,c5S9,c5S10]
       exact b2
    ·have tz:=ta.box #[.slice none 0 0,.slice none 0 0,.int .i64 0] 43
     exact Chg.of_below tz.bel
    ·have tz:=ta.box #[.slice none 0 0,.slice none 0 0,.int .i64 0] 43
     clear bz
     have bz:Below wa.heap.size wa (wa.alloc (.cells #[.slice none 0 0,.slice none 0 0,.int .i64 0] 43)):=(Below.refl _ _).alloc (Nat.le_refl _) _
     refine bsW_ones ty41mkI rfl rfl (by decide) (by decide) onesF ?_
     have hfr:=row1 (t:=25) (hfv.below bz (by decide))
     have tb:=tz.alloc' (.cells #[.slice fa (firstP X.kind).length fc] 25)
     simp (disch:=first|omega|exact zF rfl|exact zG rfl|exact(·)|(simp only[zA,zB,zC,zD,bytesW];omega)) only[go_sem,c5S1,c5S7,c5S8,c5S9,c5S10]
     rw [World.size_alloc] at hfr
     refine ⟨Chg.of_below tb.bel,?_⟩
     refine Ret.mono (search3 tb.bel hfr) ?_
     rintro u9 w9 ⟨⟨ya,yn,yc,xa,xn,xc,nn,ue,rfl,hend⟩,b9⟩
     have t8:=tb.call b9
     have r8:=t8.rules 0 rfl
     have lz:=(tb.low 0 rfl).2
     simp (disch:=first|omega|exact zF rfl|exact zG rfl|exact(·)|(simp only[zA,zB,zC,zD,bytesW];omega)) only[go_sem,c5S1,c5S7,c5S8,c5S9,c5S10,r8]
     have t9:=t8.fill 0 rfl (cs:=#[.slice ya yn yc,.slice xa xn xc,.int .i64 nn]) rfl
     simp only [List.set_cons_zero] at t9
     refine ⟨Chg.of_below t8.bel,Chg.of_below t9.bel,?_⟩
     have r9:=t9.rules 0 rfl
     have bq:Below w.heap.size w _:=Below.next b18 (Below.next ((Below.refl _ w8).drew) t9.bel)
     by_cases hue:ue=0
     ·subst hue
      by_cases hxn:xn=0
      ·subst hxn
       simp (disch:=first|omega|exact zF rfl|exact zG rfl|exact(·)|(simp only[zA,zB,zC,zD,bytesW];omega)) only[go_sem,c5S1,c5S3,c5S7,c5S8,c5S9,c5S10,r9]
       refine Ret.mono (out bq) ?_
       rintro _ w2 ⟨rfl,b2⟩
       simp (disch:=first|omega|exact zF rfl|exact zG rfl|exact(·)|(simp only[zA,zB,zC,zD,bytesW];omega)) only[go_sem,c5S1,c5S3,c5S7,c5S8,c5S9,c5S10]
       exact b2
      ·have hxn':¬ (xn:Int)=0:=by omega
       simp (disch:=first|omega|exact zF rfl|exact zG rfl|exact(·)|(simp only[zA,zB,zC,zD,bytesW];omega)) only[go_sem,c5S1,c5S3,c5S7,c5S8,c5S9,c5S10,r9,hxn']
       refine ⟨⟨by omega,by omega⟩,i+1,rfl,⟨Below.next b8 (Below.next ((Below.refl _ w8).drew) t9.bel),by omega,fun s hs=>?_⟩,by omega⟩
       rw [htk] at hs
       rcases List.mem_append.1 hs with hs | hs
       ·exact hex s hs
       ·rw [List.mem_singleton] at hs
        subst hs
        exact hend rfl hxn
     ·simp (disch:=first|omega|exact zF rfl|exact zG rfl|exact(·)|(simp only[zA,zB,zC,zD,bytesW];omega)) only[go_sem,c5S1,c5S3,c5S7,c5S8,c5S9,c5S10,r9,hue]
      refine Ret.mono (out bq) ?_
      rintro _ w2 ⟨rfl,b2⟩
      simp (disch:=first|omega|exact zF rfl|exact zG rfl|exact(·)|(simp only[zA,zB,zC,zD,bytesW];omega)) only[go_sem,c5S1,c5S3,c5S7,c5S8,c5S9,c5S10]
      exact b2
   ·have tz:=t0.box #[.slice none 0 0,.slice none 0 0,.int .i64 0] 43
    exact Chg.of_below tz.bel
   ·have tz:=t0.box #[.slice none 0 0,.slice none 0 0,.int .i64 0] 43
    rw [World.size_drew] at tz
    refine Ret.mono (rfirst_ok X.kind _) ?_
    rintro fv wa ⟨⟨hfv,_⟩,ba⟩
    obtain ⟨fa,fc,rfl,_⟩:=hfv.form
    have ta:=tz.call ba
    have onesF:∀ u∈[Value.slice fa (firstP X.kind).length fc],u.oneCell'=true:=fun u hu=>by rw [List.mem_singleton] at hu; subst hu; rfl
    simp (disch:=first|omega|exact zF rfl|exact zG rfl|exact(·)|(simp only[zA,zB,zC,zD,bytesW];omega)) only[go_sem,c5S1,c5S7,c5S8,c5S9,c5S10]
    have bz:=Below.refl wa.heap.size wa
    refine ⟨Chg.of_below ta.bel,?_⟩
    refine bsW_ones ty41mkI rfl rfl (by decide) (by decide) onesF ?_
    have hfr:=row1 (t:=25) (hfv.below bz (by decide))
    have tb:=ta.alloc' (.cells #[.slice fa (firstP X.kind).length fc] 25)
    simp (disch:=first|omega|exact zF rfl|exact zG rfl|exact(·)|(simp only[zA,zB,zC,zD,bytesW];omega)) only[go_sem,c5S1,c5S7,c5S8,c5S9,c5S10]
    refine ⟨Chg.of_below tb.bel,?_⟩
    refine Ret.mono (search3 tb.bel hfr) ?_
    rintro u9 w9 ⟨⟨ya,yn,yc,xa,xn,xc,nn,ue,rfl,hend⟩,b9⟩
    have t8:=tb.call b9
    have r8:=t8.rules 0 rfl
    have lz:=(tb.low 0 rfl).2
    simp (disch:=first|omega|exact zF rfl|exact zG rfl|exact(·)|(simp only[zA,zB,zC,zD,bytesW];omega)) only[go_sem,c5S1,c5S7,c5S8,c5S9,c5S10,r8]
    have t9:=t8.fill 0 rfl (cs:=#[.slice ya yn yc,.slice xa xn xc,.int .i64 nn]) rfl
    simp only [List.set_cons_zero] at t9
    refine ⟨Chg.of_below t8.bel,Chg.of_below t9.bel,?_⟩
    have r9:=t9.rules 0 rfl
    have bq:Below w.heap.size w _:=Below.next b18 (Below.next ((Below.refl _ w8).drew) t9.bel)
    by_cases hue:ue=0
    ·subst hue
     by_cases hxn:xn=0
     ·subst hxn
      simp (disch:=first|omega|exact zF rfl|exact zG rfl|exact(·)|(simp only[zA,zB,zC,zD,bytesW];omega)) only[go_sem,c5S1,c5S3,c5S7,c5S8,c5S9,c5S10,r9]
      refine Ret.mono (out bq) ?_
      rintro _ w2 ⟨rfl,b2⟩
      simp (disch:=first|omega|exact zF rfl|exact zG rfl|exact(·)|(simp only[zA,zB,zC,zD,bytesW];omega)) only[go_sem,c5S1,c5S3,c5S7,c5S8,c5S9,c5S10]
      exact b2
     ·have hxn':¬ (xn:Int)=0:=by omega
      simp (disch:=first|omega|exact zF rfl|exact zG rfl|exact(·)|(simp only[zA,zB,zC,zD,bytesW];omega)) only[go_sem,c5S1,c5S3,c5S7,c5S8,c5S9,c5S10,r9,hxn']
      refine ⟨⟨by omega,by omega⟩,i+1,rfl,⟨Below.next b8 (Below.next ((Below.refl _ w8).drew) t9.bel),by omega,fun s hs=>?_⟩,by omega⟩
      rw [htk] at hs
      rcases List.mem_append.1 hs with hs | hs
      ·exact hex s hs
      ·rw [List.mem_singleton] at hs
       subst hs
       exact hend rfl hxn
    ·simp (disch:=first|omega|exact zF rfl|exact zG rfl|exact(·)|(simp only[zA,zB,zC,zD,bytesW];omega)) only[go_sem,c5S1,c5S3,c5S7,c5S8,c5S9,c5S10,r9,hue]
     refine Ret.mono (out bq) ?_
     rintro _ w2 ⟨rfl,b2⟩
     simp (disch:=first|omega|exact zF rfl|exact zG rfl|exact(·)|(simp only[zA,zB,zC,zD,bytesW];omega)) only[go_sem,c5S1,c5S3,c5S7,c5S8,c5S9,c5S10]
     exact b2
  ·have hlt':¬ (i:Int)<acc.length:=by omega
   obtain rfl:i=acc.length:=by omega
   rw [List.take_length] at hex
   simp (disch:=first|omega|exact zF rfl|exact zG rfl|exact(·)|(simp only[zA,zB,zC,zD,bytesW];omega)) only[go_sem,c5S1,c5S3,c5S8,c5S9,c5S10,hlt']
   refine Ret.mono (seq_ok _ _ 32768 w8 h8 hw hnd hkd hO) ?_
   rintro _ w2 ⟨bv,ok,n,e,rfl,b2,sv⟩
   obtain ⟨r,accP,hP,hr,rfl,hbv⟩:=sv.good (by omega) hfc
   obtain ⟨ba,bc,rfl,_⟩:=hbv.form
   have b28:=Below.next b18 b2
   have hr:SeqR (progsW accP) (objsW acc) (startW accP acc) 32768 e n r:=hr
   obtain ⟨y,hy⟩:=follows_plain hg hO hP hex
   generalize hee:e=e' at hr
   cases hr with
   | over =>
    subst hee
    simp (disch:=first|omega|exact zF rfl|exact zG rfl|exact(·)|(simp only[zA,zB,zC,zD,bytesW];omega)) only[go_sem,c5S1,c5S3,c5S7,c5S8,c5S9,c5S10]
    refine Ret.mono (out b28) ?_
    rintro _ w3 ⟨rfl,b3⟩
    simp (disch:=first|omega|exact zF rfl|exact zG rfl|exact(·)|(simp only[zA,zB,zC,zD,bytesW];omega)) only[go_sem,c5S1,c5S3,c5S7,c5S8,c5S9,c5S10]
    exact b3
   | all =>
    subst hee
    have hd:=progs_one hP hpure
    obtain ⟨hv1,hv2⟩:=bestS_valid (obs:=objsW acc) hd (s:=startW accP acc)
    cases hbs:bestS (progsW accP) (objsW acc) (startW accP acc) with
    | none=>exact absurd ((validP_path hd).2 hy) (by rw [hv2 hbs y]; simp)
    | some x =>
     rw [hbs] at hbv
     have hvx:=(hv1 x hbs).1
     have hxl:=path_len ((validP_path hd).1 hvx)
     have hrem:=rem_start (accO:=acc) hP hnd
     have hvd:validD l x=true:=by rw [validD_eq hpure hP hO]; exact hvx
     simp (disch:=first|omega|exact zF rfl|exact zG rfl|exact(·)|(simp only[zA,zB,zC,zD,bytesW];omega)) only[go_sem,c5S1,c5S3,c5S7,c5S8,c5S9,c5S10,Option.isSome_some]
     refine Ret.mono (dvalid_ok _ _ l x w2 (h8.below b2 (by decide)) hbv (by omega) (by omega) hnd hkd hw) ?_
     rintro _ w3 ⟨rfl,b3⟩
     simp (disch:=first|omega|exact zF rfl|exact zG rfl|exact(·)|(simp only[zA,zB,zC,zD,bytesW];omega)) only[go_sem,c5S1,c5S3,c5S7,c5S8,c5S9,c5S10,hvd]
     refine Ret.mono (out (Below.next b28 b3)) ?_
     rintro _ w4 ⟨rfl,b5⟩
     simp (disch:=first|omega|exact zF rfl|exact zG rfl|exact(·)|(simp only[zA,zB,zC,zD,bytesW];omega)) only[go_sem,c5S1,c5S3,c5S7,c5S8,c5S9,c5S10]
     exact b5
theorem weakFollows_law{H:Type}{enc:TypeId × Value→H}{w:World}{r:Reach}{b base:Nat}{sp:Nat→Bool}{hd:Bool}{v:Value}{d:DataW H}{p:List MemPlace}
  (h:Value.okWide Tryz.prog w r b 22 v) (k:DataW.Trod enc Tryz.prog w base sp hd 22 v d p) :
  Ret Tryz.prog 5 [v] w fun u w'=>u=.bool true∧Below w.heap.size w w':=by
 obtain ⟨xs,q1,q2,q3⟩:=Opens.slice_arg opens_Ops Tryz.underlying22 h k
 exact weakFollows_ok _ xs w q1 q2
end Go.Proofs.YtoadmihnihfjkaaGreat

end
