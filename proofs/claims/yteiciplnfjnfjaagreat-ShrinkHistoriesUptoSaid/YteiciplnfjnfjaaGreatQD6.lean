/- Texts put together by program. -/
import Derived.Test.YteiciplnfjnfjaaGreatQD5
set_option linter.unusedSimpArgs false
set_option linter.unusedVariables false
set_option maxRecDepth 100000
noncomputable section

namespace Go.Proofs.YteiciplnfjnfjaaGreat
open Go Go.Ann Go.RowKit
def setL:List Value→Nat→List Value→List Value
 | xs,_,[]=>xs
 | xs,o,v::vs=>setL (xs.set o v) (o+1) vs
theorem setL_mid:∀ (vs A B C:List Value),B.length=vs.length→setL (A++B++C) A.length vs=A++vs++C
 | [],A,B,C,h=>by
  obtain rfl:=List.length_eq_zero_iff.1 h
  rfl
 | v::vs,A,b::B,C,h=>by
  rw [setL]
  have e:(A++b::B++C).set A.length v=(A++[v])++B++C:=by
   rw [List.append_assoc,List.set_append_right _ _ (Nat.le_refl _),Nat.sub_self]
   simp
  rw [e]
  have:=setL_mid vs (A++[v]) B C (by simpa using h)
  rw [List.length_append,List.length_singleton] at this
  rw [this]
  simp
 | v::vs,A,[],C,h=>by simp at h
theorem ops_len(m:List OpT):(m.flatMap OpT.enc).length=m.length * 11:=by
 induction m with
 | nil=>rfl
 | cons o m ih=>rw [List.flatMap_cons,List.length_append,ih,OpT.len,List.length_cons]; omega
theorem setL_flat{m:List OpT}{i:Nat}(o:OpT)(h:i<m.length):setL (m.flatMap OpT.enc) (i * 11) (OpT.enc o)=(m.set i o).flatMap OpT.enc:=by
 have e1:m=m.take i++[m[i]]++m.drop (i+1):=by rw [← List.take_succ_eq_append_getElem h,List.take_append_drop]
 have e2:m.set i o=m.take i++[o]++m.drop (i+1):=by rw [List.set_eq_take_append_cons_drop,if_pos h]; simp
 have e3:i * 11=((m.take i).flatMap OpT.enc).length:=by rw [ops_len,List.length_take]; congr 1; omega
 rw [e2]
 conv=>lhs; arg 1; rw [e1]
 rw [e3,List.flatMap_append,List.flatMap_append,List.flatMap_append,List.flatMap_append,List.flatMap_singleton,List.flatMap_singleton]
 exact setL_mid _ _ _ _ (by rw [OpT.len,OpT.len])
theorem row_store{W0:World}{F:Nat→Prop}{I:List Inv}{i g cap n e sz:Nat}:∀ (vs:List Value) {w:World} {L:List Res} {xs:List Value} (o k:Nat),St W0 w F L I→L[i]?=some (.row (.slice (some ⟨g,0,none⟩) n cap) e sz n xs)→St W0 (setCellsW w ⟨g,o,none⟩ k vs) F (L.set i (.row (.slice (some ⟨g,0,none⟩) n cap) e sz n (setL xs (o+k) vs))) I
 | [],w,L,xs,o,k,h,hi=>by
  rw [setL,setCellsW]
  have:L.set i (.row (.slice (some ⟨g,0,none⟩) n cap) e sz n xs)=L:=by
   obtain ⟨hl,e⟩:=List.getElem?_eq_some_iff.1 hi
   rw [← e,List.set_getElem_self]
  rw [this]
  exact h
 | v::vs,w,L,xs,o,k,h,hi=>by
  rw [setL,setCellsW]
  have h1:=h.put i hi (o+k) v
  obtain ⟨hl,_⟩:=List.getElem?_eq_some_iff.1 hi
  have h2:=row_store vs o (k+1) h1 (List.getElem?_set_self hl)
  rw [List.set_set] at h2
  have e1:(⟨g,o,none⟩:Addr).add k=⟨g,o+k,none⟩:=by simp [Addr.add]
  rw [e1,Nat.add_assoc]
  exact h2
theorem own_cell11{w:World}{B0 e n m c g:Nat}{xs:List Value}(h:w.ownsRow B0 e 11 (.slice (some ⟨g,0,none⟩) n c) m xs):(∀ j u,xs[j]?=some u→w.cell? ⟨g,j,none⟩=some u)∧∀ j,w.frozen? ⟨g,j,none⟩=false:=by
 rcases h.2 with ⟨e0,_⟩ | ⟨g',cap,cur,e0,_,hB,hnc,hcm,hcs,htk⟩
 ·cases e0
 ·cases e0
  have r:Blk w g cur e:=hB
  refine ⟨fun j u hu=>?_,fun j=>r.rules.2.1 j⟩
  rw [r.rules.1 j]
  rw [← htk,List.getElem?_take] at hu
  split at hu
  ·rw [← Array.getElem?_toList]; exact hu
  ·cases hu
theorem store_elt{W0 w:World}{F:Nat→Prop}{L:List Res}{I:List Inv}{i g c n e k:Nat}{m:List OpT}{K:Value→World→Prop}(o:OpT)(s:St W0 w F L I)(hi:L[i]?=some (.row (.slice (some ⟨g,0,none⟩) n c) e 11 m.length (m.flatMap OpT.enc)))(hn:n=m.length)(hk:k<m.length)
  (hK:∀ w',St W0 w' F (L.set i (.row (.slice (some ⟨g,0,none⟩) n c) e 11 m.length ((m.set k o).flatMap OpT.enc))) I→K undef w'):storeW Tryz.prog 38 ((⟨g,0,none⟩:Addr).add (k * 11)) (.agg o.enc.toArray) w K:=by
 subst hn
 have e0:(⟨g,0,none⟩:Addr).add (k * 11)=⟨g,k * 11,none⟩:=by rw [Addr.add_lit,Nat.zero_add]
 obtain ⟨h1,h2⟩:=own_cell11 (s.row i hi)
 have hl:=ops_len m
 have hkl:k * 11+11≤m.length * 11:=by omega
 have ez:(Value.agg o.enc.toArray).cells.toList=o.enc:=rfl
 have es:(Value.agg o.enc.toArray).cells.size=11:=by show o.enc.toArray.size=11; rw [List.size_toArray,OpT.len]
 rw [e0]
 refine ⟨by rw [es]; simp only [go_sem],?_,fun j hj=>?_,hK _ ?_⟩
 ·rw [ez]; exact OpT.one o
 ·rw [es] at hj
  have e1:(⟨g,k * 11,none⟩:Addr).add j=⟨g,k * 11+j,none⟩:=by simp [Addr.add]
  rw [e1]
  exact ⟨⟨_,h1 _ _ (List.getElem?_eq_getElem (by rw [hl]; omega))⟩,h2 _⟩
 ·rw [ez,← setL_flat o hk]
  exact row_store _ (k * 11) 0 s hi
theorem without1_ok(o:OpT)(b:Nat)(i:Int)(w:World)(hb:w.cell? ⟨b,0,none⟩=some (.int .i64 i))(hlt:b<w.heap.size):Ret Tryz.prog 51 [.agg o.enc.toArray,.pointer (some ⟨b,0,none⟩)] w fun u w'=>u=.bool (decide (o.ID=i))∧Below w.heap.size w w':=by
 refine ent51 _ _ _ _ ?_
 have ao:=o.at
 have s1:=(St.start (W0:=w)).box o.enc.toArray 38
 have h1:=(s1.bel.cell hlt).trans hb
 have r1:=s1.rules 0 rfl
 simp (disch:=first|omega|exact zF rfl|exact zG rfl|exact id|(simp only[zA,zB,zC,zD,bytesW];omega)) only[go_sem,h1,r1,ao]
 exact s1.bel
theorem wo_snoc(l:List OpT)(o:OpT)(i:Int):wo (l++[o]) i=wo l i++(if o.ID=i then [] else [o]):=by
 unfold wo
 rw [List.filter_append]
 by_cases h:o.ID=i <;> simp [h]
theorem wo_none{l:List OpT}{i:Int}(h:∀ o∈l,o.ID≠i):wo l i=l:=by
 unfold wo
 exact List.filter_eq_self.2 fun o ho=>by simpa using h o ho
structure Half(l:List OpT)(d:Int)(i j:Nat)(m:List OpT):Prop where
 len:m.length=l.length
 lt:i<j
 le:j≤l.length
 cnt:i=(wo (l.take j) d).length
 pre:m.take i=wo (l.take j) d
 post:m.drop j=l.drop j
theorem Half.at{l m:List OpT}{d:Int}{i j:Nat}(h:Half l d i j m)(hj:j<l.length):m[j]'(by rw [h.len]; exact hj)=l[j]:=by
 have h1:(m.drop j)[0]?=(l.drop j)[0]?:=by rw [h.post]
 rw [List.getElem?_drop,List.getElem?_drop,Nat.add_zero,List.getElem?_eq_getElem hj,List.getElem?_eq_getElem (by rw [h.len]; exact hj),Option.some.injEq] at h1
 exact h1
theorem Half.skip{l m:List OpT}{d:Int}{i j:Nat}(h:Half l d i j m)(hj:j<l.length)(he:l[j].ID=d):Half l d i (j+1) m:=by
 have e:wo (l.take (j+1)) d=wo (l.take j) d:=by rw [List.take_succ_eq_append_getElem hj,wo_snoc,if_pos he,List.append_nil]
 refine ⟨h.len,by have:=h.lt; omega,hj,by rw [e]; exact h.cnt,by rw [e]; exact h.pre,?_⟩
 have:=congrArg (List.drop 1) h.post
 rwa [List.drop_drop,List.drop_drop] at this
theorem Half.keep{l m:List OpT}{d:Int}{i j:Nat}(h:Half l d i j m)(hj:j<l.length)(he:¬ l[j].ID=d):Half l d (i+1) (j+1) (m.set i l[j]):=by
 have e:wo (l.take (j+1)) d=wo (l.take j) d++[l[j]]:=by rw [List.take_succ_eq_append_getElem hj,wo_snoc,if_neg he]
 have hlt:=h.lt
 have hlen:=h.len
 have hi:i<m.length:=by omega
 refine ⟨by rw [List.length_set]; exact h.len,by omega,hj,by rw [e,List.length_append,← h.cnt]; rfl,?_,?_⟩
 ·rw [e,List.take_succ_eq_append_getElem (by rw [List.length_set]; exact hi),List.getElem_set_self,List.take_set_of_le (Nat.le_refl _),h.pre]
 ·rw [List.drop_set_of_lt (by omega)]
  have:=congrArg (List.drop 1) h.post
  rwa [List.drop_drop,List.drop_drop] at this
theorem Half.start{l:List OpT}{d:Int}{k:Nat}(hk:k<l.length)(he:l[k].ID=d)(hb:∀ j,(h:j<l.length)→j<k→¬ l[j].ID=d):Half l d k (k+1) l:=by
 have e:wo (l.take (k+1)) d=l.take k:=by
  rw [List.take_succ_eq_append_getElem hk,wo_snoc,if_pos he,List.append_nil]
  refine wo_none fun o ho=>?_
  obtain ⟨j,hj,rfl⟩:=List.mem_iff_getElem.1 ho
  rw [List.length_take] at hj
  rw [List.getElem_take]
  exact hb j (by omega) (by omega)
 exact ⟨rfl,by omega,hk,by rw [e,List.length_take]; omega,e.symm,rfl⟩
theorem delOps_ok{W0 w:World}{F:Nat→Prop}{L:List Res}{I:List Inv}{v:Value}{b:Nat}{d:Int}{l:List OpT}(h:St W0 w F (.row v 38 11 l.length (l.flatMap OpT.enc)::.blk b #[.int .i64 d] 3::L) I)(hl:l.length≤100) :
  Ret Tryz.prog 50 [v,.func (.func 51) #[] #[.pointer (some ⟨b,0,none⟩)]] w fun u w'=>St W0 w' F (.row u 38 11 (wo l d).length ((wo l d).flatMap OpT.enc)::.blk b #[.int .i64 d] 3::L) I:=by
 obtain ⟨a,c,rfl,hc⟩:=own_slice (h.row 0 rfl)
 refine ent50 _ _ _ _ ?_
 have hb:=(h.rules 1 rfl).1 0
 have hlb:b<w.heap.size:=(h.blk 1 rfl).lt
 have hr:RdS w 11 OpT.enc (.slice a l.length c) l:=RdS.of_own (h.row 0 rfl)
 have tells:∀ (o:OpT) (w':World),w'.cell? ⟨b,0,none⟩=some (.int .i64 d)→b<w'.heap.size→callW Tryz.prog (.func (.func 51) #[] #[.pointer (some ⟨b,0,none⟩)]) [.agg o.enc.toArray] w' fun u w''=>u=.bool (decide (o.ID=d))∧Below w'.heap.size w' w'':=fun o w' h1 h2=>by
  exact callW_go ⟨by kernel_rfl,without1_ok o b d w' h1 h2⟩
 simp (disch:=first|omega|exact zF rfl|exact zG rfl|exact id|(simp only[zA,zB,zC,zD,bytesW];omega)) only[go_sem,c50S3,c50S4]
 refine Ret.mono (Cut.indexFunc_ok _ (fun o=>decide (o.ID=d)) _ l w hr (fun o w' hb'=>tells o w' ((hb'.cell hlb).trans hb) (Nat.lt_of_lt_of_le hlb hb'.size)) (by omega)) ?_
 rintro _ w2 ⟨rfl,b2⟩
 have s2:=h.call b2
 cases e:l.findIdx? fun o=>decide (o.ID=d) with
 | none =>
  have e1:Cut.firstI (fun o=>decide (o.ID=d)) l = -1:=by unfold Cut.firstI; rw [e]
  have e2:wo l d=l:=wo_none fun o ho=>by simpa using List.findIdx?_eq_none_iff.1 e o ho
  rw [e1]
  simp (disch:=first|omega|exact zF rfl|exact zG rfl|exact id|(simp only[zA,zB,zC,zD,bytesW];omega)) only[go_sem,c50S3,c50S4]
  rw [e2]
  exact s2
 | some k =>
  have e1:Cut.firstI (fun o=>decide (o.ID=d)) l=k:=by unfold Cut.firstI; rw [e]
  obtain ⟨hk,hkp,hkb⟩:=List.findIdx?_eq_some_iff_getElem.1 e
  rw [e1]
  have hs:Half l d k (k+1) l:=Half.start hk (by simpa using hkp) fun j hj hjk=>by simpa using hkb j hjk
  obtain ⟨q,rfl,hq⟩:∃ q,a=some q∧∃ g,q=⟨g,0,none⟩:=by
   rcases (h.row 0 rfl).2 with ⟨h1,h2⟩ | ⟨g,c',cur,h1,_⟩
   ·omega
   ·cases h1; exact ⟨_,rfl,g,rfl⟩
  have hk1:¬ (k:Int) = -1:=by omega
  simp (disch:=first|omega|exact zF rfl|exact zG rfl|exact id|(simp only[zA,zB,zC,zD,bytesW];omega)) only[go_sem,c50S3,hk1]
  refine ⟨⟨by omega,by omega⟩,?_⟩
  refine W_loopU (fun x:Nat × Nat × List OpT=>[(5,.int .i64 x.1),(6,.int .i64 x.2.1)]) (fun x w'=>St W0 w' F (.row (.slice (some q) l.length c) 38 11 l.length (x.2.2.flatMap OpT.enc)::.blk b #[.int .i64 d] 3::L) I∧Half l d x.1 x.2.1 x.2.2) (fun x=>l.length - x.2.1) (k,k+1,l) rfl ⟨s2,hs⟩ ?_
  rintro ⟨i,j,m⟩ w3 ⟨s3,hm⟩
  simp only at s3 hm
  have hlt:=hm.lt
  have hle:=hm.le
  by_cases hj:j<l.length
  ·have hj':(j:Int)<l.length:=by omega
   have hr3:RdS w3 11 OpT.enc (.slice (some q) l.length c) m :=
    RdS.of_own' (s3.row 0 rfl) m hm.len.symm rfl
   have hjm:j<m.length:=by rw [hm.len]; exact hj
   have eo:=hr3.eltB (Below.refl _ _) OpT.len (by decide) hjm
   have ao:=m[j].at
   have ck:=hr3.at OpT.len hjm
   have em:=hm.at hj
   simp (disch:=first|omega|exact zF rfl|exact zG rfl|exact id|(simp only[zA,zB,zC,zD,bytesW];omega)) only[go_sem,c50S3,c50S4,hj',ck,eo,ao]
   refine ⟨by omega,?_⟩
   have s4:=s3.box m[j].enc.toArray 38
   rw [em] at s4 ⊢
   generalize w3.alloc (.cells l[j].enc.toArray 38)=w4 at s4 ⊢
   refine ⟨(OpT.len _).symm,callW_mono (tells l[j] w4 ((s4.rules 2 rfl).1 0) (s4.blk 2 rfl).lt) ?_⟩
   rintro _ w5 ⟨rfl,b5⟩
   have s5:=s4.call b5
   have r5:=s5.rules 0 rfl
   have aj:=l[j].at
   by_cases hd:l[j].ID=d
   ·simp (disch:=first|omega|exact zF rfl|exact zG rfl|exact id|(simp only[zA,zB,zC,zD,bytesW];omega)) only[go_sem,c50S3,c50S4,hd]
    exact ⟨⟨by omega,by omega⟩,(i,j+1,m),rfl,⟨s5.sub (List.sublist_cons_self _ _),hm.skip hj hd⟩,by simp only; omega⟩
   ·simp (disch:=first|omega|exact zF rfl|exact zG rfl|exact id|(simp only[zA,zB,zC,zD,bytesW];omega)) only[go_sem,c50S3,c50S4,hd,r5,aj]
    refine ⟨⟨by omega,by omega⟩,?_⟩
    obtain ⟨g,rfl⟩:=hq
    have s6:=s5.sub (List.sublist_cons_self _ _)
    rw [← hm.len] at s6
    refine store_elt (n:=m.length) _ s6 (i:=0) rfl rfl (by rw [hm.len]; omega) ?_
    intro w7 s7
    simp (disch:=first|omega|exact zF rfl|exact zG rfl|exact id|(simp only[zA,zB,zC,zD,bytesW];omega)) only[go_sem,c50S3,c50S4]
    rw [hm.len] at s7
    exact ⟨⟨by omega,by omega⟩,⟨by omega,by omega⟩,(i+1,j+1,m.set i l[j]),rfl,⟨s7,hm.keep hj hd⟩,by simp only; omega⟩
  ·have hj':¬ (j:Int)<l.length:=by omega
   simp (disch:=first|omega|exact zF rfl|exact zG rfl|exact id|(simp only[zA,zB,zC,zD,bytesW];omega)) only[go_sem,c50S4,hj']
   obtain ⟨g,rfl⟩:=hq
   refine ⟨⟨by omega,by omega⟩,?_⟩
   obtain rfl:j=l.length:=by omega
   have hown:=s3.row 0 rfl
   rcases hown.2 with ⟨e0,_⟩ | ⟨g',c',cur,e0,hg,hB,hnc,hcm,hcs,htk⟩
   ·cases e0
   cases e0
   have eoff:offA (some ⟨g,0,none⟩) c i 11=some ⟨g,i * 11,none⟩:=by
    unfold offA
    rw [if_neg (by omega),Option.map_some,Addr.add_lit,Nat.zero_add]
   rw [eoff]
   refine clearB ty22mkI rfl (by decide) hB (o:=i * 11) (by rw [hcs]; have:l.length * 11≤c * 11:=Nat.mul_le_mul_right _ hnc; omega) ?_
   intro w8 ys hys hB8 hC
   simp (disch:=first|omega|exact zF rfl|exact zG rfl|exact id|(simp only[zA,zB,zC,zD,bytesW];omega)) only[go_sem,c50S3,c50S4]
   have hpre:=hm.pre
   rw [List.take_length] at hpre
   have hcnt:i=(wo l d).length:=by have:=hm.cnt; rwa [List.take_length] at this
   have hcc:i * 11+(l.length - i) * 11=l.length * 11:=by rw [← Nat.add_mul]; congr 1; omega
   have hcs':l.length * 11≤cur.toList.length:=by
    have e:cur.toList.length=cur.size:=rfl
    rw [e,hcs]; exact Nat.mul_le_mul_right _ hnc
   refine ⟨⟨by omega,by omega⟩,?_⟩
   have e00:offA (some (⟨g,0,none⟩:Addr)) c 0 11=some ⟨g,0,none⟩:=Cut.offA_zero
   rw [e00]
   have hown8:w8.ownsRow W0.heap.size 38 11 (.slice (some ⟨g,0,none⟩) i c) (wo l d).length ((wo l d).flatMap OpT.enc):=by
    refine ⟨ops_len _,.inr ⟨g,c,_,by rw [hcnt],hg,hB8,by omega,hcm,by rw [List.size_toArray,overL_length (by rw [hys,hcc]; exact hcs'),Array.length_toList,hcs],?_⟩⟩
    have e9:(overL cur.toList (i * 11) ys).take (i * 11)=cur.toList.take (i * 11):=by
     unfold overL
     rw [List.append_assoc,List.take_append_of_le_length (by rw [List.length_take]; omega),List.take_take,Nat.min_self]
    rw [← hcnt,e9]
    have e10:=congrArg (List.take (i * 11)) htk
    rw [List.take_take,Nat.min_eq_left (by omega)] at e10
    rw [e10,← hpre]
    conv=>lhs; arg 2; rw [← List.take_append_drop i m]
    rw [List.flatMap_append,List.take_left' (by rw [ops_len,List.length_take,hm.len]; congr 1; omega)]
   have hC':Chg (fun j=>(Res.row (.slice (some ⟨g,0,none⟩) l.length c) 38 11 l.length (m.flatMap OpT.enc)).own=some j) w3 w8:=hC.mono fun j _ hj=>by subst hj; rfl
   exact s3.upd 0 rfl hC' (.row (.slice (some ⟨g,0,none⟩) i c) 38 11 (wo l d).length ((wo l d).flatMap OpT.enc)) hown8 fun k hk=>.inl hk
theorem own_ge{w:World}{B e sz n:Nat}{v:Value}{xs:List Value}(h:w.ownsRow B e sz v n xs)(k:Nat)(hk:v.ownBlock=some k):B≤k:=by
 rcases h.2 with ⟨rfl,_⟩ | ⟨g,c,cur,rfl,hg,_⟩
 ·simp [Value.ownBlock] at hk
 ·simp only [Value.ownBlock,Option.some.injEq] at hk
  omega
theorem own_lower{w:World}{B B' e sz n:Nat}{v:Value}{xs:List Value}(h:w.ownsRow B e sz v n xs)(hb:B'≤B):w.ownsRow B' e sz v n xs:=by
 refine ⟨h.1,h.2.imp id ?_⟩
 rintro ⟨g,c,cur,h1,h2,h3⟩
 exact ⟨g,c,cur,h1,Nat.le_trans hb h2,h3⟩
theorem newRow{W0 w w':World}{F:Nat→Prop}{L:List Res}{I:List Inv}{e sz n:Nat}{v:Value}{xs:List Value}(h:St W0 w F L I)(hb:Below w.heap.size w w')(ho:w'.ownsRow w.heap.size e sz v n xs):St W0 w' F (.row v e sz n xs::L) I :=
 h.add hb (.row v e sz n xs) (own_lower ho h.bel.size) fun k hk=>own_ge ho k hk
theorem wo_len_le(l:List OpT)(d:Int):(wo l d).length≤l.length:=List.length_filter_le _ _
theorem wout_ok{w:World}{v:Value}{ob kd d:Int}{l:List OpT}(h:RdS w 11 OpT.enc v l)(hl:l.length≤100) :
  Ret Tryz.prog 29 [.agg #[.int .i64 ob,.int .i64 kd,v],.int .i64 d] w fun u w'=>(∃ uv,u=.agg #[.int .i64 ob,.int .i64 kd,uv]∧w'.ownsRow w.heap.size 38 11 uv (wo l d).length ((wo l d).flatMap OpT.enc))∧Below w.heap.size w w':=by
 obtain ⟨a,c,rfl,_⟩:=h.form
 refine ent29 _ _ _ _ ?_
 have s3:=(((St.start (W0:=w)).box #[.int .i64 ob,.int .i64 kd,.slice a l.length c] 24).box #[.int .i64 d] 3).box #[.int .i64 0,.int .i64 0,.slice none 0 0] 24
 rw [World.size_alloc,World.size_alloc] at s3
 obtain ⟨g,hg⟩:∃ g,g=w.heap.size:=⟨_,rfl⟩
 have h3:=h.below s3.bel (by decide)
 have hgs:(((w.alloc (.cells #[.int .i64 ob,.int .i64 kd,.slice a l.length c] 24)).alloc (.cells #[.int .i64 d] 3)).alloc (.cells #[.int .i64 0,.int .i64 0,.slice none 0 0] 24)).heap.size=w.heap.size+3:=by rw [World.size_alloc,World.size_alloc,World.size_alloc]
 simp (disch:=first|omega|exact zF rfl|exact zG rfl|exact id|(simp only[zA,zB,zC,zD,bytesW];omega)) only[go_sem]
 generalize ((w.alloc (.cells #[.int .i64 ob,.int .i64 kd,.slice a l.length c] 24)).alloc (.cells #[.int .i64 d] 3)).alloc (.cells #[.int .i64 0,.int .i64 0,.slice none 0 0] 24)=w3 at s3 h3 hgs ⊢
 refine Ret.mono (Cut.clone_ok _ l w3 h3 hl) ?_
 rintro v4 w4 ⟨own4,b4⟩
 have s4:=(newRow s3 b4 own4).perm (L':=[.row v4 38 11 l.length (l.flatMap OpT.enc),.blk (w.heap.size+1) #[.int .i64 d] 3,.blk w.heap.size #[.int .i64 ob,.int .i64 kd,.slice a l.length c] 24,.blk (w.heap.size+1+1) #[.int .i64 0,.int .i64 0,.slice none 0 0] 24]) (by
  refine List.Perm.cons _ ?_
  exact (List.perm_append_comm (l₁:=[_,_]) (l₂:=[_])).trans (List.Perm.refl _))
 simp (disch:=first|omega|exact zF rfl|exact zG rfl|exact id|(simp only[zA,zB,zC,zD,bytesW];omega)) only[go_sem]
 refine Ret.mono (delOps_ok s4 hl) ?_
 rintro v5 w5 s5
 obtain ⟨va,vc,rfl,_⟩:=own_slice (s5.row 0 rfl)
 have r5:=s5.rules 2 rfl
 have r6:=s5.rules 3 rfl
 simp (disch:=first|omega|exact zF rfl|exact zG rfl|exact id|(simp only[zA,zB,zC,zD,bytesW];omega)) only[go_sem,c29S0,r5,r6]
 have s6:=(s5.set 2 rfl 2 (.slice va (wo l d).length vc)).fill 3 rfl (cs:=#[.int .i64 ob,.int .i64 kd,.slice va (wo l d).length vc]) rfl
 exact ⟨⟨_,rfl,s6.row 0 rfl⟩,s6.bel⟩
open Go Go.Ann Go.RowKit Go.Shelf
section
variable {W0 w:World} {F:Nat→Prop} {L:List Res} {I:List Inv}
theorem sortI_ok{v:Value}{ks:List Int}(h:St W0 w F (.row v 3 1 ks.length (ks.flatMap intE)::L) I)(hl:ks.length≤100000) :
  Ret Tryz.prog 48 [v] w fun u w'=>u=.tuple #[]∧∃ ts:List Int,(ts.Perm ks∧ts.Pairwise (·≤·))∧St W0 w' F (.row v 3 1 ks.length (ts.flatMap intE)::L) I:=by
 have hr:=h.row 0 rfl
 obtain ⟨hlen,⟨rfl,h0⟩ | ⟨g',cap,cur,rfl,hB,hb,hc,hm,hs,hx⟩⟩:=id hr
 ·have hn:ks.length=0:=h0
  refine (Any.slices_Sort_int_none laySortI none 0 w).mono ?_
  rintro e w' ⟨rfl,rfl⟩
  exact ⟨_,rfl,rfl,ks,⟨List.Perm.refl _,by rw [List.eq_nil_of_length_eq_zero hn]; exact List.Pairwise.nil⟩,h⟩
 ·have hx':cur.toList.take ks.length=ks.map encZ:=by rw [← intE_map,← hx,Nat.mul_one]
  have hb':w.heap[g']?=some (.cells cur 3 (0,0)):=hb
  refine (Any.slices_Sort_int laySortI g' 0 cap ks w (holds_of_block_i hb' hx') (Array.getElem?_eq_some_iff.1 hb).1 (by omega)).mono ?_
  rintro e w' ⟨rfl,n,os,rfl⟩
  have hml:(ks.mergeSort fun x y=>decide (x≤y)).length=ks.length:=List.length_mergeSort _
  refine ⟨_,rfl,rfl,ks.mergeSort fun x y=>decide (x≤y),⟨List.mergeSort_perm _ _,(List.pairwise_mergeSort (le:=fun x y:Int=>decide (x≤y)) (fun a b c h1 h2=>by simp at h1 h2 ⊢; omega) (fun a b=>by simp; omega) ks).imp fun h=>by simpa using h⟩,?_⟩
  have ho:=ownsRow_sorted_i (n:=n) (os:=os) hml hB hb' hc hm hs
  rw [← intE_map] at ho
  exact h.grow 0 rfl (grownBy_sorted_i _) ho fun k hk=>.inl hk
end
theorem ids_snoc{l:List OpT}{k:Nat}(hk:k<l.length):((l.take (k+1)).map OpT.ID).flatMap intE=((l.take k).map OpT.ID).flatMap intE++[.int .i64 l[k].ID]:=by
 rw [List.take_succ_eq_append_getElem hk,List.map_append,List.flatMap_append]
 rfl
theorem ids_ok{w:World}{v:Value}{l:List OpT}(h:RdS w 11 OpT.enc v l)(hl:l.length≤100) :
  Ret Tryz.prog 39 [v] w fun u w'=>(∃ ts:List Int,ts.Perm (l.map OpT.ID)∧ts.Pairwise (·≤·)∧w'.ownsRow w.heap.size 3 1 u ts.length (ts.flatMap intE))∧Below w.heap.size w w':=by
 obtain ⟨a,c,rfl,_⟩:=h.form
 refine ent39 _ _ _ ?_
 simp (disch:=first|omega|exact zF rfl|exact zG rfl|exact id|(simp only[zA,zB,zC,zD,bytesW];omega)) only[go_sem,c39S2]
 have s0:=(St.start (W0:=w)).nilRow 3 1
 refine W_loopU (fun x:Value × Nat=>[(3,x.1),(8,.int .i64 x.2)]) (fun x w'=>St w w' (fun _=>False) [.row x.1 3 1 x.2 (((l.take x.2).map OpT.ID).flatMap intE)] []∧x.2≤l.length) (fun x=>l.length - x.2) (.slice none 0 0,0) rfl ⟨s0,Nat.zero_le _⟩ ?_
 rintro ⟨x,k⟩ w1 ⟨s1,hk⟩
 simp only at s1 hk
 by_cases hlt:k<l.length
 ·obtain ⟨q,rfl⟩:=h.ptr (by omega)
  have ek:=h.eltB s1.bel OpT.len (by decide) hlt
  have ck:=cellsO_below s1.bel (h.at OpT.len hlt)
  have hlt':(k:Int)<l.length:=by omega
  have ak:=l[k].at
  simp (disch:=first|omega|exact zF rfl|exact zG rfl|exact id|(simp only[zA,zB,zC,zD,bytesW];omega)) only[go_sem,c39S2,c39S3,hlt',ck,ek,ak]
  refine ⟨by omega,(OpT.len _).symm,?_⟩
  refine bsW_ones ty66mkI rfl rfl (by decide) (by decide) (fun u hu=>by rw [List.mem_singleton] at hu; subst hu; rfl) ?_
  have s3:=(s1.alloc' (.cells l[k].enc.toArray 38)).alloc' (.cells #[.int .i64 l[k].ID] 3)
  have hrd:Rd ((w1.alloc (.cells l[k].enc.toArray 38)).alloc (.cells #[.int .i64 l[k].ID] 3)) 1 (.slice (some ⟨(w1.alloc (.cells l[k].enc.toArray 38)).heap.size,0,none⟩) 1 1) 1 [.int .i64 l[k].ID]:=rd_new (sz:=1) (n:=1) rfl
  rw [World.size_alloc] at hrd
  simp (disch:=first|omega|exact zF rfl|exact zG rfl|exact id|(simp only[zA,zB,zC,zD,bytesW];omega)) only[go_sem,c39S2,c39S3]
  refine s3.append 0 rfl ty66mkI rfl (by decide) hrd (fun u hu=>by rw [List.mem_singleton] at hu; subst hu; rfl) (by omega) (by omega) ?_
  intro v4 w4 s4 _
  simp only [List.set_cons_zero] at s4
  simp (disch:=first|omega|exact zF rfl|exact zG rfl|exact id|(simp only[zA,zB,zC,zD,bytesW];omega)) only[go_sem,c39S2,c39S3]
  refine ⟨⟨by omega,by omega⟩,(v4,k+1),rfl,⟨?_,hlt⟩,by simp only; omega⟩
  simp only
  rw [ids_snoc hlt]
  exact s4
 ·have hlt':¬ (k:Int)<l.length:=by omega
  obtain rfl:k=l.length:=by omega
  simp (disch:=first|omega|exact zF rfl|exact zG rfl|exact id|(simp only[zA,zB,zC,zD,bytesW];omega)) only[go_sem,c39S3,hlt']
  rw [List.take_length] at s1
  have e:l.length=(l.map OpT.ID).length:=by rw [List.length_map]
  rw [e] at s1
  refine .inl ⟨by kernel_rfl,Ret.mono (sortI_ok s1 (by rw [List.length_map]; omega)) ?_⟩
  rintro _ w2 ⟨rfl,ts,⟨hp,hs⟩,s2⟩
  simp (disch:=first|omega|exact zF rfl|exact zG rfl|exact id|(simp only[zA,zB,zC,zD,bytesW];omega)) only[go_sem,c39S2,c39S3]
  have:=s2.row 0 rfl
  rw [← hp.length_eq] at this
  exact ⟨⟨ts,hp,hs,this⟩,s2.bel⟩
namespace Cut
def idI(a b:OpT):Int:=cmpI a.ID b.ID
theorem sorted1_ok(a b:OpT)(w:World):Ret Tryz.prog 42 [.agg a.enc.toArray,.agg b.enc.toArray] w fun u w'=>u=.int .i64 (idI a b)∧Gr w w':=by
 refine ent42 _ _ _ _ ?_
 have ha:=a.at; have hb:=b.at
 simp (disch:=first|omega|exact zF rfl|exact zG rfl|exact id|(simp only[zA,zB,zC,zD,bytesW];omega)) only[go_sem,ha,hb]
 refine Ret.mono (compare_ok _ _ _) ?_
 rintro _ w2 ⟨rfl,e2⟩
 subst w2
 simp (disch:=first|omega|exact zF rfl|exact zG rfl|exact id|(simp only[zA,zB,zC,zD,bytesW];omega)) only[go_sem]
 exact ⟨rfl,((Gr.refl w).alloc _).alloc _⟩
theorem id_neg(a b:OpT):(idI a b<0)=(a.ID<b.ID):=cmpI_neg _ _
theorem lt_id(a b:OpT):ltOf idI a b=decide (a.ID<b.ID):=by
 unfold ltOf
 rw [decide_eq_decide,id_neg]
theorem idsort_ok(v:Value)(l:List OpT)(w:World)(B:Nat)(h:w.ownsRow B 38 11 v l.length (l.flatMap OpT.enc))(hl:l.length≤100) :
  Ret Tryz.prog 41 [v,.func (.func 42) #[] #[]] w fun _ w'=>∃ l',Sorts idI l l'∧w'.ownsRow B 38 11 v l.length (l'.flatMap OpT.enc)∧Chg (fun k=>v.ownBlock=some k) w w' :=
 sort_ok idI _ (enters_of Tryz.func42 (by kernel_rfl) rfl) (by
  constructor
  all_goals intros
  all_goals simp only [lt_id,decide_eq_true_eq,decide_eq_false_iff_not] at *
  all_goals omega) sorted1_ok v l w B h hl
end Cut
theorem rise_sorts{l L:List OpT}(hn:(l.map OpT.ID).Nodup)(h:Cut.Sorts Cut.idI l L):Rise l L:=by
 refine ⟨h.1,?_⟩
 have h1:(L.map OpT.ID).Nodup:=(h.1.map OpT.ID).nodup_iff.2 hn
 unfold List.Nodup at h1
 rw [List.pairwise_map] at h1
 refine (h.2.and h1).imp fun {a b} h=>?_
 have:=h.1
 rw [Cut.id_neg] at this
 have:=h.2
 omega
theorem sorted_ok'{w:World}{v:Value}{l:List OpT}(h:RdS w 11 OpT.enc v l)(hl:l.length≤100)(hn:(l.map OpT.ID).Nodup) :
  Ret Tryz.prog 23 [v] w fun u w'=>(∃ L,Rise l L∧w'.ownsRow w.heap.size 38 11 u L.length (L.flatMap OpT.enc))∧Below w.heap.size w w':=by
 obtain ⟨a,c,rfl,_⟩:=h.form
 refine ent23 _ _ _ ?_
 simp (disch:=first|omega|exact zF rfl|exact zG rfl|exact id|(simp only[zA,zB,zC,zD,bytesW];omega)) only[go_sem,c23S0]
 refine Ret.mono (Cut.clone_ok _ l w h hl) ?_
 rintro v2 w2 ⟨own2,b2⟩
 simp (disch:=first|omega|exact zF rfl|exact zG rfl|exact id|(simp only[zA,zB,zC,zD,bytesW];omega)) only[go_sem,c23S1]
 have s2:=newRow (St.start (W0:=w)) b2 own2
 refine Ret.mono (Cut.idsort_ok v2 l w2 _ own2 hl) ?_
 rintro _ w3 ⟨L,hs,own3,c3⟩
 simp (disch:=first|omega|exact zF rfl|exact zG rfl|exact id|(simp only[zA,zB,zC,zD,bytesW];omega)) only[go_sem,c23S0,c23S1]
 have s3:=s2.upd 0 rfl c3 (.row v2 38 11 l.length (L.flatMap OpT.enc)) own3 fun k hk=>.inl hk
 rw [← hs.1.length_eq] at own3
 exact ⟨⟨L,rise_sorts hn hs,own3⟩,s3.bel⟩
open Go Go.Ann Go.RowKit
def plusP(o:OpT):List OpT→Bool→List OpT
 | [],b=>if b then [] else [o]
 | x::r,b=>(if b=false∧o.ID≤x.ID then [o] else [])++(if x.ID=o.ID then [] else [x])++plusP o r (b || decide (o.ID≤x.ID))
theorem plusP_done(o:OpT):∀ (l:List OpT),(∀ x∈l,x.ID≠o.ID)→plusP o l true=l
 | [],_=>rfl
 | x::r,h=>by
  rw [plusP,Bool.true_or,plusP_done o r fun y hy=>h y (List.mem_cons_of_mem _ hy),if_neg (by simp),if_neg (h x List.mem_cons_self)]
  rfl
theorem plusP_rise{o:OpT}:∀ {l:List OpT},(∀ x∈l,x.ID≠o.ID)→l.Pairwise (fun a b=>a.ID<b.ID)→(plusP o l false).Perm (o::l)∧(plusP o l false).Pairwise fun a b=>a.ID<b.ID
 | [],_,_=>⟨List.Perm.refl _,by simp [plusP]⟩
 | x::r,h,hp=>by
  have hx:=h x List.mem_cons_self
  obtain ⟨hp1,hp2⟩:=List.pairwise_cons.1 hp
  by_cases hle:o.ID≤x.ID
  ·have e:plusP o (x::r) false=o::x::r:=by
    rw [plusP,if_pos ⟨rfl,hle⟩,if_neg hx,decide_eq_true hle,Bool.or_true,plusP_done o r fun y hy=>h y (List.mem_cons_of_mem _ hy)]
    rfl
   rw [e]
   refine ⟨List.Perm.refl _,List.pairwise_cons.2 ⟨fun y hy=>?_,hp⟩⟩
   rcases List.mem_cons.1 hy with rfl | hy
   ·omega
   ·have:=hp1 y hy; omega
  ·have e:plusP o (x::r) false=x::plusP o r false:=by
    rw [plusP,if_neg (fun h=>hle h.2),if_neg hx,decide_eq_false hle,Bool.or_false]
    rfl
   obtain ⟨ih1,ih2⟩:=plusP_rise (fun y hy=>h y (List.mem_cons_of_mem _ hy)) hp2
   rw [e]
   refine ⟨(ih1.cons x).trans (List.Perm.swap _ _ _),List.pairwise_cons.2 ⟨fun y hy=>?_,ih2⟩⟩
   rcases List.mem_cons.1 (ih1.mem_iff.1 hy) with rfl | hy
   ·omega
   ·exact hp1 y hy
theorem len_flat_snoc(acc:List OpT)(o:OpT):(acc++[o]).length=acc.length+1∧(acc++[o]).flatMap OpT.enc=acc.flatMap OpT.enc++o.enc:=by
 rw [List.flatMap_append]; simp
theorem without_ref{w:World}{v:Value}{l:List OpT}(d:Int)(h:RdS w 11 OpT.enc v l)(hl:l.length≤100) :
  Ret Tryz.prog 14 [v,.int .i64 d] w fun u w'=>w'.ownsRow w.heap.size 38 11 u (wo l d).length ((wo l d).flatMap OpT.enc)∧Below w.heap.size w w':=by
 obtain ⟨a,c,rfl,_⟩:=h.form
 refine ent14 _ _ _ _ ?_
 simp (disch:=first|omega|exact zF rfl|exact zG rfl|exact id|(simp only[zA,zB,zC,zD,bytesW];omega)) only[go_sem]
 have s0:=(St.start (W0:=w)).nilRow 38 11
 refine W_loopU (fun x:Value × Nat=>[(5,x.1),(6,.int .i64 x.2)]) (fun x w'=>St w w' (fun _=>False) [.row x.1 38 11 (wo (l.take x.2) d).length ((wo (l.take x.2) d).flatMap OpT.enc)] []∧x.2≤l.length) (fun x=>l.length - x.2) (.slice none 0 0,0) rfl ⟨s0,Nat.zero_le _⟩ ?_
 rintro ⟨x,k⟩ w1 ⟨s1,hk⟩
 simp only at s1 hk
 have hlw:(wo (l.take k) d).length≤l.length:=Nat.le_trans (wo_len_le _ _) (by rw [List.length_take]; omega)
 by_cases hlt:k<l.length
 ·obtain ⟨q,rfl⟩:=h.ptr (by omega)
  have ek:=h.eltB s1.bel OpT.len (by decide) hlt
  have ck:=cellsO_below s1.bel (h.at OpT.len hlt)
  have hlt':(k:Int)<l.length:=by omega
  have ak:=l[k].at
  have esn:wo (l.take (k+1)) d=wo (l.take k) d++(if l[k].ID=d then [] else [l[k]]):=by rw [List.take_succ_eq_append_getElem hlt,wo_snoc]
  by_cases hd:l[k].ID=d
  ·rw [if_pos hd,List.append_nil] at esn
   simp (disch:=first|omega|exact zF rfl|exact zG rfl|exact id|(simp only[zA,zB,zC,zD,bytesW];omega)) only[go_sem,c14S2,hlt',ck,ek,ak,hd]
   exact ⟨by omega,⟨by omega,by omega⟩,(x,k+1),rfl,⟨by rw [esn]; exact s1,hlt⟩,by simp only; omega⟩
  ·rw [if_neg hd] at esn
   simp (disch:=first|omega|exact zF rfl|exact zG rfl|exact id|(simp only[zA,zB,zC,zD,bytesW];omega)) only[go_sem,c14S2,hlt',ck,ek,ak,hd]
   refine ⟨by omega,by omega,bsW_agg ty22mkI rfl (by decide) (by decide) ?_⟩
   have hrd:Rd (w1.alloc (.cells l[k].enc.toArray 38)) 11 (.slice (some ⟨w1.heap.size,0,none⟩) 1 1) 1 l[k].enc:=rd_new (t:=38) (sz:=11) (n:=1) (cs:=l[k].enc.toArray) rfl
   have s3:=s1.alloc' (.cells l[k].enc.toArray 38)
   generalize w1.alloc (.cells l[k].enc.toArray 38)=w3 at s3 hrd ⊢
   simp (disch:=first|omega|exact zF rfl|exact zG rfl|exact id|(simp only[zA,zB,zC,zD,bytesW];omega)) only[go_sem,c14S2]
   refine s3.append 0 rfl ty22mkI rfl (by decide) hrd l[k].one (by omega) (by omega) ?_
   intro v4 w4 s4 _
   simp only [List.set_cons_zero] at s4
   simp (disch:=first|omega|exact zF rfl|exact zG rfl|exact id|(simp only[zA,zB,zC,zD,bytesW];omega)) only[go_sem,c14S2]
   refine ⟨⟨by omega,by omega⟩,(v4,k+1),rfl,⟨?_,hlt⟩,by simp only; omega⟩
   simp only
   obtain ⟨e1,e2⟩:=len_flat_snoc (wo (l.take k) d) l[k]
   rw [esn,e1,e2]
   exact s4
 ·have hlt':¬ (k:Int)<l.length:=by omega
  obtain rfl:k=l.length:=by omega
  rw [List.take_length] at s1
  simp (disch:=first|omega|exact zF rfl|exact zG rfl|exact id|(simp only[zA,zB,zC,zD,bytesW];omega)) only[go_sem,c14S2,hlt']
  exact ⟨s1.row 0 rfl,s1.bel⟩
theorem with_ok'{w:World}{v:Value}{l:List OpT}(o:OpT)(h:RdS w 11 OpT.enc v l)(hl:l.length≤100) :
  Ret Tryz.prog 47 [v,.agg o.enc.toArray] w fun u w'=>w'.ownsRow w.heap.size 38 11 u (plusP o l false).length ((plusP o l false).flatMap OpT.enc)∧Below w.heap.size w w':=by
 obtain ⟨a,c,rfl,_⟩:=h.form
 refine ent47 _ _ _ _ ?_
 simp (disch:=first|omega|exact zF rfl|exact zG rfl|exact id|(simp only[zA,zB,zC,zD,bytesW];omega)) only[go_sem,c47S3]
 have s0:=((St.start (W0:=w)).box o.enc.toArray 38).nilRow 38 11
 obtain ⟨g,hg⟩:∃ g,g=w.heap.size:=⟨_,rfl⟩
 have hown:∀ {w':World} {v:Value} {n:Nat} {xs:List Value},w'.ownsRow w.heap.size 38 11 v n xs→w'.ownsRow g 38 11 v n xs:=by rw [hg]; exact fun h=>h
 have hbel:∀ {w':World},Below w.heap.size w w'→Below g w w':=by rw [hg]; exact fun h=>h
 rw [← hg] at s0 ⊢
 generalize w.alloc (.cells o.enc.toArray 38)=w0 at s0 ⊢
 have ao:=o.at
 refine W_loopU (fun x:Value × Bool × Nat × List OpT=>[(5,x.1),(6,.bool x.2.1),(7,.int .i64 x.2.2.1)]) (fun x w'=>St w w' (fun _=>False) [.row x.1 38 11 x.2.2.2.length (x.2.2.2.flatMap OpT.enc),.blk g o.enc.toArray 38] []∧x.2.2.1≤l.length∧x.2.2.2.length≤2 * x.2.2.1∧x.2.2.2++plusP o (l.drop x.2.2.1) x.2.1=plusP o l false) (fun x=>l.length - x.2.2.1) (.slice none 0 0,false,0,[]) rfl ⟨s0,Nat.zero_le _,Nat.le_refl _,rfl⟩ ?_
 rintro ⟨x,dn,k,acc⟩ w1 ⟨s1,hk,hal,hacc⟩
 simp only at s1 hk hal hacc
 have r1:=s1.rules 1 rfl
 have pushS:∀ {w2:World} {x:Value} {acc:List OpT} (y:OpT) {K:Value→World→Prop} {cs:Array Bool},St w w2 (fun _=>False) [.row x 38 11 acc.length (acc.flatMap OpT.enc),.blk g o.enc.toArray 38] []→acc.length≤300→(∀ v' w',St w w' (fun _=>False) [.row v' 38 11 (acc++[y]).length ((acc++[y]).flatMap OpT.enc),.blk g o.enc.toArray 38] []→K v' w')→rawB Tryz.prog .append #[22,22] 22 cs [x,.slice (some ⟨w2.heap.size,0,none⟩) 1 1] (w2.alloc (.cells y.enc.toArray 38)) K:=fun {w2 x acc} y {K cs} s hl' hK=>by
  have hrd:Rd (w2.alloc (.cells y.enc.toArray 38)) 11 (.slice (some ⟨w2.heap.size,0,none⟩) 1 1) 1 y.enc:=rd_new (t:=38) (sz:=11) (n:=1) (cs:=y.enc.toArray) rfl
  refine (s.alloc' (.cells y.enc.toArray 38)).append 0 rfl ty22mkI rfl (by decide) hrd y.one (by omega) (by omega) ?_
  intro v' w' s' _
  refine hK v' w' ?_
  obtain ⟨e1,e2⟩:=len_flat_snoc acc y
  rw [e1,e2]
  exact s'
 by_cases hlt:k<l.length
 ·obtain ⟨q,rfl⟩:=h.ptr (by omega)
  have ek:=h.eltB s1.bel OpT.len (by decide) hlt
  have ck:=cellsO_below s1.bel (h.at OpT.len hlt)
  have hlt':(k:Int)<l.length:=by omega
  have ak:=l[k].at
  rw [List.drop_eq_getElem_cons hlt,plusP] at hacc
  have fin:∀ {w2:World} {x:Value} {acc:List OpT} {dn:Bool} {Q:Post},St w w2 (fun _=>False) [.row x 38 11 acc.length (acc.flatMap OpT.enc),.blk g o.enc.toArray 38] []→acc.length≤300→(∀ v' w',St w w' (fun _=>False) [.row v' 38 11 (acc++(if l[k].ID=o.ID then [] else [l[k]])).length ((acc++(if l[k].ID=o.ID then [] else [l[k]])).flatMap OpT.enc),.blk g o.enc.toArray 38] []→Q .normal [(0,.slice (some q) l.length c),(3,.pointer (some ⟨g,0,none⟩)),(5,v'),(6,.bool dn),(7,.int .i64 k)] w') →
    W Tryz.prog (sg c47S3) [(0,.slice (some q) l.length c),(3,.pointer (some ⟨g,0,none⟩)),(5,x),(6,.bool dn),(7,.int .i64 k)] w2 Q:=by
   intro w2 x acc dn Q s2 hl2 hQ
   have e2:=h.eltB s2.bel OpT.len (by decide) hlt
   have e2d:=h.eltB s2.drew.bel OpT.len (by decide) hlt
   have c2:=cellsO_below s2.drew.bel (h.at OpT.len hlt)
   have r2:=s2.rules 1 rfl
   by_cases he:l[k].ID=o.ID
   ·rw [if_pos he,List.append_nil] at hQ
    simp (disch:=first|omega|exact zF rfl|exact zG rfl|exact id|(simp only[zA,zB,zC,zD,bytesW];omega)) only[go_sem,c47S3,c47S7]
    refine c47draw1 ?_
    simp (disch:=first|omega|exact zF rfl|exact zG rfl|exact id|(simp only[zA,zB,zC,zD,bytesW];omega)) only[go_sem,c47S3,c47S7,c47D1,e2,e2d,r2,ak,ao,he]
    exact ⟨⟨by omega,by omega⟩,hQ _ _ s2.drew⟩
   ·rw [if_neg he] at hQ
    simp (disch:=first|omega|exact zF rfl|exact zG rfl|exact id|(simp only[zA,zB,zC,zD,bytesW];omega)) only[go_sem,c47S3,c47S7]
    refine c47draw1 ?_
    simp (disch:=first|omega|exact zF rfl|exact zG rfl|exact id|(simp only[zA,zB,zC,zD,bytesW];omega)) only[go_sem,c47S3,c47S7,c47D1,e2,e2d,c2,r2,ak,ao,he]
    refine ⟨⟨by omega,by omega⟩,⟨by omega,by omega⟩,bsW_agg ty22mkI rfl (by decide) (by decide) ?_⟩
    simp (disch:=first|omega|exact zF rfl|exact zG rfl|exact id|(simp only[zA,zB,zC,zD,bytesW];omega)) only[go_sem,c47S3,c47S7]
    refine pushS l[k] s2.drew hl2 fun v4 w4 s4=>?_
    simp (disch:=first|omega|exact zF rfl|exact zG rfl|exact id|(simp only[zA,zB,zC,zD,bytesW];omega)) only[go_sem,c47S3,c47S7]
    exact hQ _ _ s4
  simp (disch:=first|omega|exact zF rfl|exact zG rfl|exact id|(simp only[zA,zB,zC,zD,bytesW];omega)) only[go_sem,c47S3,c47S7,hlt']
  refine c47draw0 ?_
  by_cases hi:dn=false∧o.ID≤l[k].ID
  ·obtain ⟨rfl,hle⟩:=hi
   rw [if_pos ⟨rfl,hle⟩,decide_eq_true hle,Bool.or_true] at hacc
   simp (disch:=first|omega|exact zF rfl|exact zG rfl|exact id|(simp only[zA,zB,zC,zD,bytesW];omega)) only[go_sem,c47S7,c47D0,hlt',ek,ak,r1,ao,hle]
   refine ⟨by omega,bsW_agg ty22mkI rfl (by decide) (by decide) ?_⟩
   simp (disch:=first|omega|exact zF rfl|exact zG rfl|exact id|(simp only[zA,zB,zC,zD,bytesW];omega)) only[go_sem,c47S7]
   refine pushS o s1.drew (by omega) fun v4 w4 s4=>?_
   simp (disch:=first|omega|exact zF rfl|exact zG rfl|exact id|(simp only[zA,zB,zC,zD,bytesW];omega)) only[go_sem,c47S7]
   refine fin s4 (by first | omega | (rw [List.length_append,List.length_singleton]; omega)) fun v5 w5 s5=>?_
   simp (disch:=first|omega|exact zF rfl|exact zG rfl|exact id|(simp only[zA,zB,zC,zD,bytesW];omega)) only[go_sem,c47S3,c47S7]
   refine ⟨⟨by omega,by omega⟩,(v5,true,k+1,(acc++[o])++(if l[k].ID=o.ID then [] else [l[k]])),rfl,⟨s5,hlt,?_,?_⟩,by simp only; omega⟩
   ·simp only [List.length_append]
    split <;> simp only [List.length_nil,List.length_singleton] <;> omega
   ·rw [← hacc]
    simp only [List.append_assoc]
  ·rw [if_neg hi,List.nil_append] at hacc
   cases dn with
   | true =>
    simp (disch:=first|omega|exact zF rfl|exact zG rfl|exact id|(simp only[zA,zB,zC,zD,bytesW];omega)) only[go_sem,c47S7,c47D0,hlt',ek,ak,r1,ao]
    rw [Bool.true_or] at hacc
    refine fin s1.drew (by first | omega | (rw [List.length_append,List.length_singleton]; omega)) fun v5 w5 s5=>?_
    simp (disch:=first|omega|exact zF rfl|exact zG rfl|exact id|(simp only[zA,zB,zC,zD,bytesW];omega)) only[go_sem,c47S3,c47S7]
    refine ⟨⟨by omega,by omega⟩,(v5,true,k+1,acc++(if l[k].ID=o.ID then [] else [l[k]])),rfl,⟨s5,hlt,?_,?_⟩,by simp only; omega⟩
    ·simp only [List.length_append]
     split <;> simp only [List.length_nil,List.length_singleton] <;> omega
    ·rw [← hacc]
     simp only [List.append_assoc]
   | false =>
    have hle:¬ o.ID≤l[k].ID:=fun h=>hi ⟨rfl,h⟩
    simp (disch:=first|omega|exact zF rfl|exact zG rfl|exact id|(simp only[zA,zB,zC,zD,bytesW];omega)) only[go_sem,c47S7,c47D0,hlt',ek,ak,r1,ao,hle]
    rw [decide_eq_false hle,Bool.or_false] at hacc
    refine ⟨by omega,?_⟩
    refine fin s1.drew (by first | omega | (rw [List.length_append,List.length_singleton]; omega)) fun v5 w5 s5=>?_
    simp (disch:=first|omega|exact zF rfl|exact zG rfl|exact id|(simp only[zA,zB,zC,zD,bytesW];omega)) only[go_sem,c47S3,c47S7]
    refine ⟨⟨by omega,by omega⟩,(v5,false,k+1,acc++(if l[k].ID=o.ID then [] else [l[k]])),rfl,⟨s5,hlt,?_,?_⟩,by simp only; omega⟩
    ·simp only [List.length_append]
     split <;> simp only [List.length_nil,List.length_singleton] <;> omega
    ·rw [← hacc]
     simp only [List.append_assoc]
 ·have hlt':¬ (k:Int)<l.length:=by omega
  obtain rfl:k=l.length:=by omega
  rw [List.drop_length] at hacc
  cases dn with
  | true =>
   simp only [plusP,if_true,List.append_nil] at hacc
   simp (disch:=first|omega|exact zF rfl|exact zG rfl|exact id|(simp only[zA,zB,zC,zD,bytesW];omega)) only[go_sem,c47S3,c47S7,hlt']
   rw [← hacc]
   exact ⟨hown (s1.row 0 rfl),hbel s1.bel⟩
  | false =>
   simp only [plusP,Bool.false_eq_true,if_false] at hacc
   simp (disch:=first|omega|exact zF rfl|exact zG rfl|exact id|(simp only[zA,zB,zC,zD,bytesW];omega)) only[go_sem,c47S3,c47S7,hlt',r1,ao]
   refine bsW_agg ty22mkI rfl (by decide) (by decide) ?_
   simp (disch:=first|omega|exact zF rfl|exact zG rfl|exact id|(simp only[zA,zB,zC,zD,bytesW];omega)) only[go_sem,c47S3,c47S7]
   refine pushS o s1 (by omega) fun v4 w4 s4=>?_
   simp (disch:=first|omega|exact zF rfl|exact zG rfl|exact id|(simp only[zA,zB,zC,zD,bytesW];omega)) only[go_sem,c47S3,c47S7]
   rw [← hacc]
   exact ⟨hown (s4.row 0 rfl),hbel s4.bel⟩
theorem rise_nil:Rise [] []:=⟨List.Perm.refl _,List.Pairwise.nil⟩
theorem rise_step{l acc:List OpT}{k:Nat}(hn:(l.map OpT.ID).Nodup)(hk:k<l.length)(h:Rise (l.take k) acc):Rise (l.take (k+1)) (plusP l[k] acc false):=by
 have h1:∀ x∈acc,x.ID≠l[k].ID:=fun x hx e=>by
  obtain ⟨j,hj,rfl⟩:=List.mem_iff_getElem.1 (h.1.mem_iff.1 hx)
  rw [List.length_take] at hj
  rw [List.getElem_take] at e
  have:=List.pairwise_iff_getElem.1 hn j k (by rw [List.length_map]; omega) (by rw [List.length_map]; omega) (by omega)
  rw [List.getElem_map,List.getElem_map] at this
  exact this e
 obtain ⟨h2,h3⟩:=plusP_rise h1 h.2
 refine ⟨?_,h3⟩
 rw [List.take_succ_eq_append_getElem hk]
 exact h2.trans ((h.1.cons _).trans (List.perm_append_singleton _ _).symm)
theorem byid_ok{w:World}{v:Value}{l:List OpT}(h:RdS w 11 OpT.enc v l)(hl:l.length≤100)(hn:(l.map OpT.ID).Nodup) :
  Ret Tryz.prog 25 [v] w fun u w'=>(∃ L,Rise l L∧w'.ownsRow w.heap.size 38 11 u L.length (L.flatMap OpT.enc))∧Below w.heap.size w w':=by
 obtain ⟨a,c,rfl,_⟩:=h.form
 refine ent25 _ _ _ ?_
 simp (disch:=first|omega|exact zF rfl|exact zG rfl|exact id|(simp only[zA,zB,zC,zD,bytesW];omega)) only[go_sem]
 refine W_loopU (fun x:Value × Nat × List OpT=>[(3,x.1),(4,.int .i64 x.2.1)]) (fun x w'=>Below w.heap.size w w'∧x.2.1≤l.length∧Rise (l.take x.2.1) x.2.2∧w'.ownsRow w.heap.size 38 11 x.1 x.2.2.length (x.2.2.flatMap OpT.enc)) (fun x=>l.length - x.2.1) (.slice none 0 0,0,[]) rfl ⟨Below.refl _ _,Nat.zero_le _,rise_nil,World.ownsRow_nil _ _ _ _⟩ ?_
 rintro ⟨x,k,acc⟩ w1 ⟨b1,hk,hri,hx⟩
 simp only at b1 hk hri hx
 by_cases hlt:k<l.length
 ·obtain ⟨q,rfl⟩:=h.ptr (by omega)
  have ek:=h.eltB b1 OpT.len (by decide) hlt
  have ck:=cellsO_below b1 (h.at OpT.len hlt)
  have hlt':(k:Int)<l.length:=by omega
  have hal:acc.length≤100:=by rw [hri.1.length_eq,List.length_take]; omega
  simp (disch:=first|omega|exact zF rfl|exact zG rfl|exact id|(simp only[zA,zB,zC,zD,bytesW];omega)) only[go_sem,c25S2,hlt',ck,ek]
  refine ⟨by omega,Ret.mono (with_ok' l[k] (RdS.of_own hx) hal) ?_⟩
  rintro v2 w2 ⟨own2,b2⟩
  simp (disch:=first|omega|exact zF rfl|exact zG rfl|exact id|(simp only[zA,zB,zC,zD,bytesW];omega)) only[go_sem,c25S2]
  exact ⟨⟨by omega,by omega⟩,(v2,k+1,plusP l[k] acc false),rfl,⟨Below.next b1 b2,hlt,rise_step hn hlt hri,own_lower own2 b1.size⟩,by simp only; omega⟩
 ·have hlt':¬ (k:Int)<l.length:=by omega
  obtain rfl:k=l.length:=by omega
  rw [List.take_length] at hri
  simp (disch:=first|omega|exact zF rfl|exact zG rfl|exact id|(simp only[zA,zB,zC,zD,bytesW];omega)) only[go_sem,c25S2,hlt']
  exact ⟨⟨acc,hri,hx⟩,b1⟩
theorem find_at{p:OpT→Bool}{l:List OpT}{k:Nat}(h:k<l.length)(hp:p l[k]=true)(hb:∀ j,(h:j<l.length)→j<k→p l[j]=false):l.find? p=some l[k]:=by
 rw [List.find?_eq_some_iff_append]
 refine ⟨hp,l.take k,l.drop (k+1),?_,fun a ha=>?_⟩
 ·rw [← List.drop_eq_getElem_cons h,List.take_append_drop]
 ·obtain ⟨j,hj,rfl⟩:=List.mem_iff_getElem.1 ha
  rw [List.length_take] at hj
  rw [List.getElem_take,hb j (by omega) (by omega)]
  rfl
theorem blk_okSt{w:World}{b:Nat}{cs:Array Value}{t:TypeId}(h:Blk w b cs t){vs:List Value}(h1:∀ u∈vs,u.oneCell'=true)(h2:vs.length≤cs.size):okSt w b 0 vs:=by
 rw [okSt_iff]
 refine ⟨h1,fun j hj=>⟨⟨cs[j]'(by omega),?_⟩,?_⟩⟩
 ·rw [h.rules.1,Nat.zero_add]; exact Array.getElem?_eq_getElem (by omega)
 ·exact h.rules.2.1 _
open Go Go.Ann Go.RowKit
def StsK(K:Int)(M:Nat)(E:List (List Int)):Prop:=∀ s∈E,Ok64 s∧s.length≤M∧(K=5→s.Pairwise (· < ·))
theorem StsK.first(K:Int):StsK K 1 [firstP K]:=by
 intro s hs
 rw [List.mem_singleton] at hs
 subst hs
 refine ⟨?_,?_,?_⟩
 ·unfold firstP
  split
  ·intro x hx; rw [List.mem_singleton] at hx; subst hx; constructor <;> decide
  ·intro x hx; cases hx
 ·unfold firstP
  split <;> simp
 ·unfold firstP
  split <;> simp
theorem StsK.next{K:Int}{M:Nat}{E U0 X:List (List Int)}{b:List OpT}{bud:Int}{T:List Spot}(h:StsK K M E)(hK:∀ o∈b,o.Kind=K)(hw:∀ o∈b,o.wf)(hU:Uniq E U0)(hR:SearchR b (startP b.length U0) bud (some T))(hX:Uniq (outs b T) X):StsK K (M+b.length) X:=by
 obtain ⟨⟨N,rfl,_⟩,_⟩:=hR
 have h0:∀ q∈startP b.length U0,Good K M b.length q:=by
  intro q hq
  unfold startP at hq
  obtain ⟨s,hs,rfl⟩:=List.mem_map.1 hq
  obtain ⟨h1,h2,h3⟩:=h s ((hU.2 s).1 hs)
  exact ⟨by simp,h1,by simp only; omega,h3⟩
 intro s hs
 obtain ⟨q,hq,rfl⟩:=List.mem_map.1 ((hX.2 s).1 hs)
 have g:=bfsN_good hK hw h0 N q (List.mem_filter.1 hq).1
 refine ⟨g.ok,?_,g.ris⟩
 have h1:=g.sz
 have h2:=List.count_le_length (a:=true) (l:=q.1)
 have h3:=g.len
 omega
theorem mfirst_ok(k:Int)(w:World):Ret Tryz.prog 35 [.int .i64 k] w fun u w'=>(RdS w' 1 intE u (firstP k)∧∀ j,slFoot u j→w.heap.size≤j)∧Below w.heap.size w w':=by
 refine ent35 _ _ _ ?_
 by_cases h:k=1∨k=2
 ·have e:firstP k=[0]:=if_pos h
  rw [e]
  have fin:∀ {K:Value→World→Prop},K (.slice (some ⟨w.heap.size,0,none⟩) 1 1) (w.alloc (.cells #[.int .i64 0] 3))→bsW Tryz.prog 66 1 [0] [.int .i64 0] w K:=fun hK=>bsW_ones ty66mkI rfl rfl (by decide) (by decide) (fun u hu=>by rw [List.mem_singleton] at hu; subst hu; rfl) hK
  have res:(RdS (w.alloc (.cells #[.int .i64 0] 3)) 1 intE (.slice (some ⟨w.heap.size,0,none⟩) 1 1) [0]∧∀ j,slFoot (.slice (some ⟨w.heap.size,0,none⟩) 1 1) j→w.heap.size≤j)∧Below w.heap.size w (w.alloc (.cells #[.int .i64 0] 3)):=by
   refine ⟨⟨rd_new (sz:=1) (n:=1) rfl,fun j hj=>?_⟩,(Below.refl _ _).alloc (Nat.le_refl _) _⟩
   have:=slFoot_own hj
   simp only [Value.ownBlock,Option.some.injEq] at this
   omega
  rcases h with rfl | rfl
  ·simp (disch:=first|omega|exact zF rfl|exact zG rfl|exact id|(simp only[zA,zB,zC,zD,bytesW];omega)) only[go_sem]
   refine fin ?_
   simp (disch:=first|omega|exact zF rfl|exact zG rfl|exact id|(simp only[zA,zB,zC,zD,bytesW];omega)) only[go_sem]
   exact res
  ·simp (disch:=first|omega|exact zF rfl|exact zG rfl|exact id|(simp only[zA,zB,zC,zD,bytesW];omega)) only[go_sem]
   refine fin ?_
   simp (disch:=first|omega|exact zF rfl|exact zG rfl|exact id|(simp only[zA,zB,zC,zD,bytesW];omega)) only[go_sem]
   exact res
 ·have e:firstP k=[]:=if_neg h
  rw [e]
  have h1:¬ k=1:=fun e=>h (.inl e)
  have h2:¬ k=2:=fun e=>h (.inr e)
  simp (disch:=first|omega|exact zF rfl|exact zG rfl|exact id|(simp only[zA,zB,zC,zD,bytesW];omega)) only[go_sem,h1,h2]
  refine ⟨⟨⟨by simp,none,0,rfl,Nat.le_refl _,fun h=>absurd rfl h⟩,fun j hj=>?_⟩,Below.refl _ _⟩
  have:=slFoot_own hj
  simp [Value.ownBlock] at this
theorem rfirst_ok(k:Int)(w:World):Ret Tryz.prog 44 [.int .i64 k] w fun u w'=>(RdS w' 1 intE u (firstP k)∧∀ j,slFoot u j→w.heap.size≤j)∧Below w.heap.size w w':=by
 refine ent44 _ _ _ ?_
 by_cases h:k=1∨k=2
 ·have e:firstP k=[0]:=if_pos h
  rw [e]
  have fin:∀ {K:Value→World→Prop},K (.slice (some ⟨w.heap.size,0,none⟩) 1 1) (w.alloc (.cells #[.int .i64 0] 3))→bsW Tryz.prog 66 1 [0] [.int .i64 0] w K:=fun hK=>bsW_ones ty66mkI rfl rfl (by decide) (by decide) (intE_one 0) hK
  have res:(RdS (w.alloc (.cells #[.int .i64 0] 3)) 1 intE (.slice (some ⟨w.heap.size,0,none⟩) 1 1) [0]∧∀ j,slFoot (.slice (some ⟨w.heap.size,0,none⟩) 1 1) j→w.heap.size≤j)∧Below w.heap.size w (w.alloc (.cells #[.int .i64 0] 3)):=by
   refine ⟨⟨rd_new (sz:=1) (n:=1) rfl,fun j hj=>?_⟩,(Below.refl _ _).alloc (Nat.le_refl _) _⟩
   have:=slFoot_own hj
   simp only [Value.ownBlock,Option.some.injEq] at this
   omega
  rcases h with rfl | rfl
  ·simp (disch:=first|omega|exact zF rfl|exact zG rfl|exact id|(simp only[zA,zB,zC,zD,bytesW];omega)) only[go_sem]
   refine fin ?_
   simp (disch:=first|omega|exact zF rfl|exact zG rfl|exact id|(simp only[zA,zB,zC,zD,bytesW];omega)) only[go_sem]
   exact res
  ·simp (disch:=first|omega|exact zF rfl|exact zG rfl|exact id|(simp only[zA,zB,zC,zD,bytesW];omega)) only[go_sem]
   refine fin ?_
   simp (disch:=first|omega|exact zF rfl|exact zG rfl|exact id|(simp only[zA,zB,zC,zD,bytesW];omega)) only[go_sem]
   exact res
 ·have e:firstP k=[]:=if_neg h
  rw [e]
  have h1:¬ k=1:=fun e=>h (.inl e)
  have h2:¬ k=2:=fun e=>h (.inr e)
  simp (disch:=first|omega|exact zF rfl|exact zG rfl|exact id|(simp only[zA,zB,zC,zD,bytesW];omega)) only[go_sem,h1,h2]
  refine ⟨⟨⟨by simp,none,0,rfl,Nat.le_refl _,fun h=>absurd rfl h⟩,fun j hj=>?_⟩,Below.refl _ _⟩
  have:=slFoot_own hj
  simp [Value.ownBlock] at this
theorem segs_map{acc:List Seg}{k:Nat}(hk:k<acc.length):(acc.drop k).map Seg.ops=acc[k].ops::(acc.drop (k+1)).map Seg.ops:=by
 rw [List.drop_eq_getElem_cons hk,List.map_cons]
theorem seg_in{l:List OpT}{acc:List Seg}(hfl:acc.flatMap Seg.ops=l){k:Nat}(hk:k<acc.length):∀ o∈acc[k].ops,o∈l:=fun o ho=>by
 rw [← hfl]
 exact List.mem_flatMap.2 ⟨_,List.getElem_mem hk,ho⟩
theorem seg_short{l:List OpT}{acc:List Seg}(hfl:acc.flatMap Seg.ops=l){k:Nat}(hk:k<acc.length):acc[k].ops.length≤l.length:=by
 rw [← hfl]
 exact Cut.seg_len _ _ (List.getElem_mem hk)
theorem setCell_other{w:World}{j o:Nat}{u:Value}{k:Nat}(hk:k≠j):(w.setCell ⟨j,o,none⟩ u).heap[k]?=w.heap[k]?:=by
 by_cases h:k<w.heap.size
 ·exact ((Chg.refl (fun i=>i=j) w).setCell ⟨j,o,none⟩ u fun _=>rfl).block k h (fun e=>hk e)
 ·have h2:¬ k<(w.setCell ⟨j,o,none⟩ u).heap.size:=by rw [World.size_setCell]; exact h
  rw [Array.getElem?_eq_none (Nat.le_of_not_lt h),Array.getElem?_eq_none (Nat.le_of_not_lt h2)]
theorem SearchF.shape{b:Nat}{w':World}{l:List OpT}{E U0:List (List Int)}{r:Option (List Spot)}{u:Value}(h:SearchF b w' l E U0 r u):∃ (ya xa:Option Addr) (yn yc xn xc:Nat) (cnt e:Int),u=.tuple #[.agg #[.slice ya yn yc,.slice xa xn xc,.int .i64 cnt],.int .i64 e]:=by
 cases r with
 | none=>exact ⟨none,none,0,0,0,0,0,35,h⟩
 | some T =>
  obtain ⟨uv,xv,U,X,rfl,hU',eU,hX,hUX,f1,f2⟩:=h
  obtain ⟨x1,x2,rfl,_⟩:=hX.form
  obtain ⟨y1,y2,rfl,_⟩:=hU'.form
  exact ⟨_,_,_,_,_,_,_,_,rfl⟩
theorem ex_tail{W0 w9:World}{F:Nat→Prop}{L:List Res}{I:List Inv}{j g8:Nat}{m asked e0 cnt e:Int}{ya xa:Option Addr}{yn yc xn xc:Nat}{v15 v16 v17:Value}{Q:Post}
  (s:St W0 w9 F (.blk g8 #[.slice ya yn yc,.slice xa xn xc,.int .i64 cnt] 77::.blk j #[.int .i64 m,.int .i64 asked,.int .i64 e0] 59::L) I) (hm:I64 (m - cnt))
  (h1:e≠0→∀ w',St W0 w' F (.blk j #[.int .i64 m,.int .i64 asked,.int .i64 e] 59::L) I→Q .ret [(4,.bool true)] w')
  (h2:e=0→xn=0→∀ w',St W0 w' F (.blk j #[.int .i64 (m - cnt),.int .i64 asked,.int .i64 e0] 59::L) I→Q .ret [(4,.bool false)] w')
  (h3:e=0→xn≠0→∀ w',St W0 w' F (.blk j #[.int .i64 (m - cnt),.int .i64 asked,.int .i64 e0] 59::L) I→(∀ k,k≠j→w'.heap[k]?=w9.heap[k]?)→Chg (fun i=>i=j) w9 w'→Q .normal [(0,.pointer (some ⟨j,0,none⟩)),(5,.slice xa xn xc),(15,v15),(16,v16),(17,v17)] w') :
  W Tryz.prog (sg c21S2) [(0,.pointer (some ⟨j,0,none⟩)),(8,.pointer (some ⟨g8,0,none⟩)),(9,.int .i64 e),(15,v15),(16,v16),(17,v17)] w9 Q:=by
 have r0:=s.rules 0 rfl
 have r1:=s.rules 1 rfl
 by_cases he:e=0
 ·subst he
  simp (disch:=first|omega|exact zF rfl|exact zG rfl|exact id|(simp only[zA,zB,zC,zD,bytesW];omega)) only[go_sem,c21S2,c21S6,c21S7]
  refine c21draw1 (Chg (fun _=>False) _) (Chg.refl _ _) ?_
  have nj:g8≠j:=fun e=>by
   have:=s.ne 0 1 rfl rfl (by decide) (k:=j) (by simp [Res.own,e])
   exact this rfl
  have bd:Below w9.heap.size w9 w9.drew:=(Below.refl _ w9).drew
  have sd:=s.call bd
  have rd0:=sd.rules 0 rfl
  have rd1:=sd.rules 1 rfl
  have hl0:=(s.blk 0 rfl).lt
  have hl1:=(s.blk 1 rfl).lt
  have s10:=((s.set 1 rfl 0 (.int .i64 (m - cnt))).sub (List.sublist_cons_self _ _)).drew
  have hoth:∀ k,k≠j→(w9.setCell ⟨j,0,none⟩ (.int .i64 (m - cnt))).drew.heap[k]?=w9.heap[k]?:=fun k hk=>setCell_other hk
  have hch:Chg (fun i=>i=j) w9 (w9.setCell ⟨j,0,none⟩ (.int .i64 (m - cnt))).drew:=((Chg.refl (fun i=>i=j) w9).setCell _ _ fun _=>rfl).drew
  by_cases hx:xn=0
  ·have hx':(xn:Int)=0:=by omega
   simp (disch:=first|omega|exact zF rfl|exact zG rfl|exact id|(simp only[zA,zB,zC,zD,bytesW];omega)) only[go_sem,c21S2,c21S6,c21S7,c21D1,rd0,rd1,r0,hx']
   exact ⟨hm,h2 rfl hx _ s10⟩
  ·have hx':¬ (xn:Int)=0:=by omega
   simp (disch:=first|omega|exact zF rfl|exact zG rfl|exact id|(simp only[zA,zB,zC,zD,bytesW];omega)) only[go_sem,c21S2,c21S6,c21S7,c21D1,rd0,rd1,r0,hx']
   exact ⟨hm,h3 rfl hx _ s10 hoth hch⟩
 ·simp (disch:=first|omega|exact zF rfl|exact zG rfl|exact id|(simp only[zA,zB,zC,zD,bytesW];omega)) only[go_sem,c21S2,c21S6,c21S7,he,r1]
  have s2:=(s.set 1 rfl 2 (.int .i64 e)).sub (List.sublist_cons_self _ _)
  exact h1 he _ s2
theorem explained_ok{W0 w:World}{F:Nat→Prop}{L:List Res}{I:List Inv}{j:Nat}{left asked e0 ob kd:Int}{v:Value}{l:List OpT}(h:St W0 w F (.blk j #[.int .i64 left,.int .i64 asked,.int .i64 e0] 59::L) I)(hr:RdS w 11 OpT.enc v l)(hl:l.length≤10)(hK:∀ o∈l,o.Kind=kd)(hw:∀ o∈l,o.wf)(hleft:-9223372036854775808≤left∧left≤32768) :
  Ret Tryz.prog 21 [.pointer (some ⟨j,0,none⟩),.agg #[.int .i64 ob,.int .i64 kd,v]] w fun u w'=>∃ a m e,u=.bool a∧Ask ob kd l left (a,m,e)∧St W0 w' F (.blk j #[.int .i64 m,.int .i64 asked,.int .i64 (if e=0 then e0 else e)] 59::L) I:=by
 obtain ⟨a,c,rfl,_⟩:=hr.form
 refine ent21 _ _ _ _ ?_
 have hj:=(h.blk 0 rfl).lt
 have b1:Below w.heap.size w (w.alloc (.cells #[.int .i64 ob,.int .i64 kd,.slice a l.length c] 24)):=(Below.refl _ w).alloc (Nat.le_refl _) _
 have hB:Blk (w.alloc (.cells #[.int .i64 ob,.int .i64 kd,.slice a l.length c] 24)) w.heap.size #[.int .i64 ob,.int .i64 kd,.slice a l.length c] 24:=Blk.new
 simp (disch:=first|omega|exact zF rfl|exact zG rfl|exact id|(simp only[zA,zB,zC,zD,bytesW];omega)) only[go_sem,c21S2,c21S6]
 generalize w.alloc (.cells #[.int .i64 ob,.int .i64 kd,.slice a l.length c] 24)=w1 at b1 hB ⊢
 refine Ret.mono (mfirst_ok kd w1) ?_
 rintro sv w2 ⟨⟨hsv,hsf⟩,b2⟩
 obtain ⟨sa,sc,rfl,_⟩:=hsv.form
 simp (disch:=first|omega|exact zF rfl|exact zG rfl|exact id|(simp only[zA,zB,zC,zD,bytesW];omega)) only[go_sem,c21S2,c21S6]
 have ones:∀ u∈[Value.slice sa (firstP kd).length sc],u.oneCell'=true:=fun u hu=>by rw [List.mem_singleton] at hu; subst hu; rfl
 refine bsW_ones ty74mkI rfl rfl (by decide) (by decide) ones ?_
 have hr3:=row1 (t:=66) hsv
 have b3:Below w2.heap.size w2 (w2.alloc (.cells #[.slice sa (firstP kd).length sc] 66)):=(Below.refl _ _).alloc (Nat.le_refl _) _
 generalize hw3:w2.alloc (.cells #[.slice sa (firstP kd).length sc] 66)=w3 at hr3 b3 ⊢
 have b13:=Below.next b2 b3
 have b03:=Below.next b1 b13
 have hB3:=hB.below b13 hB.lt
 have r3:=hB3.rules
 have hrd3:=hr.below b03 (by decide)
 simp (disch:=first|omega|exact zF rfl|exact zG rfl|exact id|(simp only[zA,zB,zC,zD,bytesW];omega)) only[go_sem,c21S2,c21S6,c21S7,r3]
 refine Ret.mono (Cut.segments_ok ob kd _ l w3 hrd3 (by omega)) ?_
 rintro v7 w4 ⟨⟨l',hs,hseg⟩,b4⟩
 have hask:∀ {r:Bool × Int × Int},AskR ((l'.foldl (Cut.cutStep Cut.segQ fun _=>(ob,kd)) []).map Seg.ops) [firstP kd] left r→Ask ob kd l left r:=fun h=>⟨l',hs,h⟩
 have hfl:(l'.foldl (Cut.cutStep Cut.segQ fun _=>(ob,kd)) []).flatMap Seg.ops=l':=by rw [Cut.cut_flat]; rfl
 have hne7:=Cut.cut_ne Cut.segQ (fun _=>(ob,kd)) l' [] fun s hs=>by cases hs
 have hseg':∀ w2:World,(∀ k,w3.heap.size≤k→k<w4.heap.size→w2.heap[k]?=w4.heap[k]?)→RdR w2 3 Cut.segR v7 (l'.foldl (Cut.cutStep Cut.segQ fun _=>(ob,kd)) []):=hseg
 clear hseg
 generalize l'.foldl (Cut.cutStep Cut.segQ fun _=>(ob,kd)) []=segs at hask hfl hne7 hseg'
 have hsl:=Cut.segs_len segs hne7
 rw [hfl,hs.1.length_eq] at hsl
 obtain ⟨ps,cs,rfl,_⟩:=(hseg' w4 fun _ _ _=>rfl).form
 have b34:=Below.next b03 b4
 have s4:=h.call b34
 have hrow4:=hr3.below b4
 simp (disch:=first|omega|exact zF rfl|exact zG rfl|exact id|(simp only[zA,zB,zC,zD,bytesW];omega)) only[go_sem,c21S2,c21S7]
 have hf4:∀ i,RowS.foot (.slice (some ⟨w2.heap.size,0,none⟩) 1 1) [(Value.slice sa (firstP kd).length sc,firstP kd)] i→i≠j:=by
  have z1:=b1.size
  have z2:=b2.size
  rintro i (hi | ⟨p,hp,hi⟩)
  ·have:=slFoot_own hi
   simp only [Value.ownBlock,Option.some.injEq] at this
   omega
  ·rw [List.mem_singleton] at hp
   subst hp
   have:=hsf i hi
   omega
 have hjw3:j<w3.heap.size:=Nat.lt_of_lt_of_le hj b03.size
 refine W_loopU (fun x:Nat × Value × List VS × Int=>[(5,x.2.1),(17,.int .i64 x.1)]) (fun x w'=>St W0 w' F (.blk j #[.int .i64 x.2.2.2,.int .i64 asked,.int .i64 e0] 59::L) I∧Chg (fun i=>i=j) w4 w'∧x.1≤segs.length∧RowS w' x.2.1 x.2.2.1∧(∀ i,RowS.foot x.2.1 x.2.2.1 i→i≠j)∧x.2.2.1.length≤32768∧StsK kd (1+10 * x.1) (x.2.2.1.map Prod.snd)∧(-9223372036854775808≤x.2.2.2∧x.2.2.2≤32768)∧∀ r,AskR ((segs.drop x.1).map Seg.ops) (x.2.2.1.map Prod.snd) x.2.2.2 r→Ask ob kd l left r) (fun x=>segs.length - x.1) (0,.slice (some ⟨w2.heap.size,0,none⟩) 1 1,[(.slice sa (firstP kd).length sc,firstP kd)],left) rfl ⟨s4,Chg.refl _ _,Nat.zero_le _,hrow4,hf4,by simp,StsK.first kd,hleft,fun r hr=>hask hr⟩ ?_
 rintro ⟨k,ev,E,m⟩ w5 ⟨s5,hC,hk,hE,hEf,hEl,hSt,hm,hall⟩
 simp only at s5 hC hk hE hEf hEl hSt hm hall
 obtain ⟨ea',ec',rfl,_⟩:=hE.form
 have hsg:=hseg' w5 fun i h1 h2=>hC.block i h2 (by omega)
 by_cases hlt:k<segs.length
 ·have hlt':(k:Int)<segs.length:=by omega
  obtain ⟨q,rfl⟩:=hsg.ptr (by omega)
  obtain ⟨cc,hcl,⟨va,rfl,hva,hla⟩,hld,ea⟩:=hsg.elt (by decide) hlt
  obtain ⟨oa,oc,rfl,_⟩:=hva.form
  have hin:=seg_in hfl hlt
  have hsh:=seg_short hfl hlt
  rw [hs.1.length_eq] at hsh
  have hin':∀ o∈segs[k].ops,o∈l:=fun o ho=>hs.1.mem_iff.1 (hin o ho)
  rw [segs_map hlt] at hall
  have r5:=s5.rules 0 rfl
  simp (disch:=first|omega|exact zF rfl|exact zG rfl|exact id|(simp only[zA,zB,zC,zD,bytesW];omega)) only[go_sem,c21S2,c21S6,c21S7,hlt',hld,ea]
  refine ⟨by omega,?_⟩
  have hB6:Blk (w5.alloc (.cells #[.int .i64 segs[k].obj,.int .i64 segs[k].kind,.slice oa segs[k].ops.length oc] 24)) w5.heap.size #[.int .i64 segs[k].obj,.int .i64 segs[k].kind,.slice oa segs[k].ops.length oc] 24:=Blk.new
  have b56:Below w5.heap.size w5 (w5.alloc (.cells #[.int .i64 segs[k].obj,.int .i64 segs[k].kind,.slice oa segs[k].ops.length oc] 24)):=(Below.refl _ _).alloc (Nat.le_refl _) _
  have s6:=s5.call b56
  have hj5:=(s5.blk 0 rfl).lt
  generalize w5.alloc (.cells #[.int .i64 segs[k].obj,.int .i64 segs[k].kind,.slice oa segs[k].ops.length oc] 24)=w6 at hB6 b56 s6 ⊢
  have hbl6:=hB6.lt
  have hj6:=(s6.blk 0 rfl).lt
  have rs6:=hB6.rules
  have rj6:=s6.rules 0 rfl
  refine c21draw0 (Chg (fun _=>False) _) (Chg.refl _ _) ?_
  have hE6:=(hE.below b56).below ((Below.refl _ w6).drew)
  have hva6:=(hva.below b56 (by decide)).below ((Below.refl _ w6).drew) (by decide)
  have hK':∀ o∈segs[k].ops,o.Kind=kd:=fun o ho=>hK o (hin' o ho)
  have hw':∀ o∈segs[k].ops,o.wf:=fun o ho=>hw o (hin' o ho)
  have hEo:∀ p∈E,Ok64 p.2∧p.2.length≤1+10 * k∧(kd=5→p.2.Pairwise (· < ·)):=fun p hp=>hSt _ (List.mem_map_of_mem hp)
  simp (disch:=first|omega|exact zF rfl|exact zG rfl|exact id|(simp only[zA,zB,zC,zD,bytesW];omega)) only[go_sem,c21S6,c21S7,c21D0,rs6,rj6]
  have fin:∀ {w8 w9:World} {g8 B:Nat} {U0:List (List Int)} {r:Option (List Spot)} {sm:Value} {e:Int} {ya xa:Option Addr} {yn yc xn xc:Nat} {cnt:Int} {Q:Post},Uniq (E.map Prod.snd) U0→SearchR segs[k].ops (startP segs[k].ops.length U0) (min m 32768) r→SearchF B w8 segs[k].ops (E.map Prod.snd) U0 r (.tuple #[.agg #[.slice ya yn yc,.slice xa xn xc,.int .i64 cnt],.int .i64 e])→w6.heap.size≤B→(∀ v X,RowS w8 v X→(∀ i,RowS.foot v X i→B≤i)→RowS w9 v X)→Below w6.heap.size w6 w9→Blk w9 g8 #[.slice ya yn yc,.slice xa xn xc,.int .i64 cnt] 77→w6.heap.size≤g8→(∀ a m e w',Ask ob kd l left (a,m,e)→St W0 w' F (.blk j #[.int .i64 m,.int .i64 asked,.int .i64 (if e=0 then e0 else e)] 59::L) I→Q .ret [(4,.bool a)] w') → 
   (∀ (xa:Option Addr) (xn xc:Nat) (X:List VS) (m':Int) w',xn=X.length→St W0 w' F (.blk j #[.int .i64 m',.int .i64 asked,.int .i64 e0] 59::L) I→Chg (fun i=>i=j) w4 w'→RowS w' (.slice xa xn xc) X→(∀ i,RowS.foot (.slice xa xn xc) X i→i≠j)→X.length≤32768→StsK kd (1+10 * (k+1)) (X.map Prod.snd)→(-9223372036854775808≤m'∧m'≤32768)→(∀ r,AskR ((segs.drop (k+1)).map Seg.ops) (X.map Prod.snd) m' r→Ask ob kd l left r)→Q .normal [(0,.pointer (some ⟨j,0,none⟩)),(5,.slice xa xn xc),(15,.slice (some q) segs.length cs),(16,.int .i64 segs.length),(17,.int .i64 k)] w') →
   W Tryz.prog (sg c21S2) [(0,.pointer (some ⟨j,0,none⟩)),(8,.pointer (some ⟨g8,0,none⟩)),(9,.int .i64 e),(15,.slice (some q) segs.length cs),(16,.int .i64 segs.length),(17,.int .i64 k)] w9 Q:=by
   intro w8 w9 g8 B U0 r sm e ya xa yn yc xn xc cnt Q hU hR hF hB6' hrow b69 hB9 hg8 hret hnorm
   have s9:=s6.add b69 (.blk g8 #[.slice ya yn yc,.slice xa xn xc,.int .i64 cnt] 77) ⟨hB9,Nat.le_trans s6.bel.size hg8⟩ fun i hi=>by
    simp only [Res.own,Option.some.injEq] at hi
    omega
   cases r with
   | none =>
    have e35:e=35:=by
     unfold SearchF at hF
     simp only [Value.tuple.injEq,Array.mk.injEq,List.cons.injEq,Value.agg.injEq,Value.int.injEq,Value.slice.injEq,and_true,true_and] at hF
     exact hF.2
    have c0:cnt=0:=by
     unfold SearchF at hF
     simp only [Value.tuple.injEq,Array.mk.injEq,List.cons.injEq,Value.agg.injEq,Value.int.injEq,Value.slice.injEq,and_true,true_and] at hF
     exact hF.1.2.2
    subst e35 c0
    exact ex_tail s9 ⟨by omega,by omega⟩ (fun _ w' s'=>hret true m 35 w' (hall _ (.over hU hR)) s') (fun h=>absurd h (by decide)) (fun h=>absurd h (by decide))
   | some T =>
    obtain ⟨uv,xv,U,X,heq,hU',eU,hX,hUX,f1,f2⟩:=hF
    obtain ⟨x1,x2,rfl,_⟩:=hX.form
    simp only [Value.tuple.injEq,Array.mk.injEq,List.cons.injEq,Value.agg.injEq,Value.int.injEq,Value.slice.injEq,and_true,true_and] at heq
    obtain ⟨⟨_,⟨rfl,rfl,rfl⟩,rfl⟩,rfl⟩:=heq
    have hTl:=hR.2
    have hXl:=Uniq.len hUX
    refine ex_tail s9 ⟨by omega,by omega⟩ (fun h=>absurd rfl h) (fun _ hx w' s'=>?_) (fun _ hx w' s' hoth hch=>?_)
    ·have hXn:X.map Prod.snd=[]:=by rw [List.eq_nil_of_length_eq_zero hx]; rfl
     rw [hXn] at hUX
     exact hret false _ 0 w' (hall _ (.stop hU hR hUX)) s'
    ·refine hnorm _ _ _ X _ w' rfl s' (((hC.trans (Chg.of_below b56)).trans (Chg.of_below b69)).trans hch) ((hrow _ _ hX f2).loc fun i hi=>hoth i ?_) (fun i hi=>?_) (by omega) ?_ ⟨by omega,by omega⟩ (fun r hr=>hall _ (.go hU hR hUX ?_ hr))
     ·have:=f2 i hi; omega
     ·have:=f2 i hi; omega
     ·have:=StsK.next (E:=E.map Prod.snd) hSt hK' hw' hU hR hUX
      intro s hs
      obtain ⟨a1,a2,a3⟩:=this s hs
      exact ⟨a1,by omega,a3⟩
     ·intro hn
      exact hx (by rw [← List.length_map (f:=Prod.snd),hn]; rfl)
  have hsz:w6.drew.heap.size=w6.heap.size:=rfl
  refine ⟨?_,?_,?_⟩
  ·refine Ret.mono (search_okF (ob:=segs[k].obj) (kd:=segs[k].kind) (K:=kd) (M:=1+10 * k) hva6 (by omega) hK' hw' hE6 (by omega) (by omega) hEo ⟨by omega,by omega⟩) ?_
   rintro u w8 ⟨⟨U0,r,hU,hR,hF⟩,b8⟩
   obtain ⟨ya,xa,yn,yc,xn,xc,cnt,e,rfl⟩:=SearchF.shape hF
   simp (disch:=first|omega|exact zF rfl|exact zG rfl|exact id|(simp only[zA,zB,zC,zD,bytesW];omega)) only[go_sem,c21S6,c21S7,c21D0]
   have b68:Below w6.heap.size w6 w8:=Below.next ((Below.refl _ w6).drew) b8
   have hch:Chg (fun _=>False) w6.drew w8:=Chg.of_below b8
   refine ⟨hch,hch.alloc _,hch.alloc _,?_⟩
   have b9:Below w8.heap.size w8 (w8.alloc (.cells #[.slice ya yn yc,.slice xa xn xc,.int .i64 cnt] 77)):=(Below.refl _ _).alloc (Nat.le_refl _) _
   refine fin (B:=w6.heap.size) (sm:=.nilFunc) hU hR hF (Nat.le_refl _) (fun v X h _=>h.below b9) (Below.next b68 b9) Blk.new b68.size (fun a m e w' h1 h2=>?_) (fun xa xn xc X m' w' h1 h2 h3 h4 h5 h6 h7 h8 h9=>?_)
   ·simp (disch:=first|omega|exact zF rfl|exact zG rfl|exact id|(simp only[zA,zB,zC,zD,bytesW];omega)) only[go_sem,c21S2,c21S6,c21S7]
    exact ⟨a,m,e,rfl,h1,h2⟩
   ·simp (disch:=first|omega|exact zF rfl|exact zG rfl|exact id|(simp only[zA,zB,zC,zD,bytesW];omega)) only[go_sem,c21S2,c21S6,c21S7]
    exact ⟨⟨by omega,by omega⟩,(k+1,.slice xa xn xc,X,m'),rfl,⟨h2,h3,hlt,h4,h5,h6,h7,h8,h9⟩,by simp only; omega⟩
  ·exact ((Chg.refl (fun _=>False) w6.drew).alloc _)
  ·have hwb:Below w6.heap.size w6 (w6.alloc (.cells #[.slice none 0 0,.slice none 0 0,.int .i64 0] 77)).drew:=((Below.refl _ w6).alloc (Nat.le_refl _) _).drew
   have hBb:Blk (w6.alloc (.cells #[.slice none 0 0,.slice none 0 0,.int .i64 0] 77)).drew w6.heap.size #[.slice none 0 0,.slice none 0 0,.int .i64 0] 77:=(Blk.new (w:=w6))
   have hcb:Chg (fun _=>False) w6.drew (w6.alloc (.cells #[.slice none 0 0,.slice none 0 0,.int .i64 0] 77)).drew:=(Chg.refl (fun _=>False) w6.drew).alloc _
   have hsb:(w6.alloc (.cells #[.slice none 0 0,.slice none 0 0,.int .i64 0] 77)).drew.heap.size=w6.heap.size+1:=World.size_alloc _ _
   have hvb:=(hva.below b56 (by decide)).below hwb (by decide)
   have hEb:=(hE.below b56).below hwb
   generalize (w6.alloc (.cells #[.slice none 0 0,.slice none 0 0,.int .i64 0] 77)).drew=wb at hwb hBb hcb hsb hvb hEb ⊢
   refine Ret.mono (search_okF (ob:=segs[k].obj) (kd:=segs[k].kind) (K:=kd) (M:=1+10 * k) hvb (by omega) hK' hw' hEb (by omega) (by omega) hEo ⟨by omega,by omega⟩) ?_
   rintro u w8 ⟨⟨U0,r,hU,hR,hF⟩,b8⟩
   obtain ⟨ya,xa,yn,yc,xn,xc,cnt,e,rfl⟩:=SearchF.shape hF
   have hB8:=hBb.below b8 hBb.lt
   have r8:=hB8.rules
   simp (disch:=first|omega|exact zF rfl|exact zG rfl|exact id|(simp only[zA,zB,zC,zD,bytesW];omega)) only[go_sem,c21S6,c21S7,c21D0,r8]
   have b68:Below w6.heap.size w6 w8:=Below.next hwb b8
   have hch:Chg (fun _=>False) w6.drew w8:=hcb.trans (Chg.of_below b8)
   have h89:Chg (fun i=>i=w6.heap.size) w8 (w8.fill w6.heap.size #[.slice ya yn yc,.slice xa xn xc,.int .i64 cnt]):=(Chg.refl _ w8).fill fun _=>rfl
   have h69:Chg (fun _=>False) w6.drew (w8.fill w6.heap.size #[.slice ya yn yc,.slice xa xn xc,.int .i64 cnt]):=hch.next h89 fun i hi e=>by
    have:w6.drew.heap.size=w6.heap.size:=rfl
    omega
   refine ⟨hch,h69,?_⟩
   refine fin (B:=wb.heap.size) (sm:=.nilFunc) hU hR hF hwb.size (fun v X h hf=>h.loc fun i hi=>?_) ?_ (hB8.fill rfl) (Nat.le_refl _) (fun a m e w' h1 h2=>?_) (fun xa xn xc X m' w' h1 h2 h3 h4 h5 h6 h7 h8 h9=>?_)
   ·have e8:(w8.fill w6.heap.size #[.slice ya yn yc,.slice xa xn xc,.int .i64 cnt]).heap.size=w8.heap.size:=size_fill
    by_cases hi8:i<w8.heap.size
    ·exact h89.block i hi8 (by have:=hf i hi; omega)
    ·rw [Array.getElem?_eq_none (by omega),Array.getElem?_eq_none (by omega)]
   ·exact Below.next ((Below.refl _ w6).drew) (h69.below (Nat.le_refl _) fun _ _ h=>h)
   ·simp (disch:=first|omega|exact zF rfl|exact zG rfl|exact id|(simp only[zA,zB,zC,zD,bytesW];omega)) only[go_sem,c21S2,c21S6,c21S7]
    exact ⟨a,m,e,rfl,h1,h2⟩
   ·simp (disch:=first|omega|exact zF rfl|exact zG rfl|exact id|(simp only[zA,zB,zC,zD,bytesW];omega)) only[go_sem,c21S2,c21S6,c21S7]
    exact ⟨⟨by omega,by omega⟩,(k+1,.slice xa xn xc,X,m'),rfl,⟨h2,h3,hlt,h4,h5,h6,h7,h8,h9⟩,by simp only; omega⟩
 ·have hlt':¬ (k:Int)<segs.length:=by omega
  obtain rfl:k=segs.length:=by omega
  simp (disch:=first|omega|exact zF rfl|exact zG rfl|exact id|(simp only[zA,zB,zC,zD,bytesW];omega)) only[go_sem,c21S2,c21S6,c21S7,hlt']
  rw [List.drop_length] at hall
  exact ⟨true,m,0,rfl,hall _ .nil,s5⟩
open Go Go.Ann Go.RowKit
theorem SearchV.shape{w':World}{l:List OpT}{E U0:List (List Int)}{r:Option (List Spot)}{u:Value}(h:SearchV w' l E U0 r u):∃ (ya xa:Option Addr) (yn yc xn xc:Nat) (cnt e:Int),u=.tuple #[.agg #[.slice ya yn yc,.slice xa xn xc,.int .i64 cnt],.int .i64 e]:=by
 cases r with
 | none=>exact ⟨none,none,0,0,0,0,0,35,h⟩
 | some T =>
  obtain ⟨uv,xv,U,X,rfl,hU',eU,hX,hUX⟩:=h
  obtain ⟨x1,x2,rfl,_⟩:=hX.form
  obtain ⟨y1,y2,rfl,_⟩:=hU'.form
  exact ⟨_,_,_,_,_,_,_,_,rfl⟩
def askV(r:Bool × Int × Int):Value:=.agg #[.bool (if r.2.2=0 then r.1 else false),.int .i64 (if r.2.2=0 then r.2.1 else 0),.int .i64 r.2.2]
theorem rask_ok{w:World}{left ob kd:Int}{v:Value}{l:List OpT}(hr:RdS w 11 OpT.enc v l)(hl:l.length≤10)(hK:∀ o∈l,o.Kind=kd)(hw:∀ o∈l,o.wf)(hleft:-9223372036854775808≤left∧left≤32768) :
  Ret Tryz.prog 24 [.agg #[.int .i64 ob,.int .i64 kd,v],.int .i64 left] w fun u w'=>(∃ r,Ask ob kd l left r∧u=askV r)∧Below w.heap.size w w':=by
 obtain ⟨a,c,rfl,_⟩:=hr.form
 refine ent24 _ _ _ _ ?_
 have s1:=((St.start (W0:=w)).box #[.int .i64 ob,.int .i64 kd,.slice a l.length c] 24).box #[.bool false,.int .i64 0,.int .i64 0] 63
 rw [World.size_alloc] at s1
 have hr1:=hr.below (w':=(w.alloc (.cells #[.int .i64 ob,.int .i64 kd,.slice a l.length c] 24)).alloc (.cells #[.bool false,.int .i64 0,.int .i64 0] 63)) (((Below.refl _ w).alloc (Nat.le_refl _) _).alloc (by rw [World.size_alloc]; omega) _) (by decide)
 simp (disch:=first|omega|exact zF rfl|exact zG rfl|exact id|(simp only[zA,zB,zC,zD,bytesW];omega)) only[go_sem,c24S1,c24S4,c24S5]
 generalize (w.alloc (.cells #[.int .i64 ob,.int .i64 kd,.slice a l.length c] 24)).alloc (.cells #[.bool false,.int .i64 0,.int .i64 0] 63)=w1 at s1 hr1 ⊢
 refine Ret.mono (rfirst_ok kd w1) ?_
 rintro sv w2 ⟨⟨hsv,hsf⟩,b2⟩
 obtain ⟨sa,sc,rfl,_⟩:=hsv.form
 simp (disch:=first|omega|exact zF rfl|exact zG rfl|exact id|(simp only[zA,zB,zC,zD,bytesW];omega)) only[go_sem,c24S1,c24S4,c24S5]
 have ones:∀ u∈[Value.slice sa (firstP kd).length sc],u.oneCell'=true:=fun u hu=>by rw [List.mem_singleton] at hu; subst hu; rfl
 refine bsW_ones ty74mkI rfl rfl (by decide) (by decide) ones ?_
 have hr3:=row1 (t:=66) hsv
 have b3:Below w2.heap.size w2 (w2.alloc (.cells #[.slice sa (firstP kd).length sc] 66)):=(Below.refl _ _).alloc (Nat.le_refl _) _
 generalize hw3:w2.alloc (.cells #[.slice sa (firstP kd).length sc] 66)=w3 at hr3 b3 ⊢
 have b13:=Below.next b2 b3
 have s3:=s1.call b13
 have r3:=s3.rules 1 rfl
 have hrd3:=hr1.below b13 (by decide)
 simp (disch:=first|omega|exact zF rfl|exact zG rfl|exact id|(simp only[zA,zB,zC,zD,bytesW];omega)) only[go_sem,c24S1,c24S4,c24S6,r3]
 refine Ret.mono (Cut.rsegments_ok ob kd _ l w3 hrd3 (by omega)) ?_
 rintro v7 w4 ⟨⟨l',hs,hseg⟩,b4⟩
 have hask:∀ {r:Bool × Int × Int},AskR ((l'.foldl (Cut.cutStep Cut.segQ fun _=>(ob,kd)) []).map Seg.ops) [firstP kd] left r→Ask ob kd l left r:=fun h=>⟨l',hs,h⟩
 have hfl:(l'.foldl (Cut.cutStep Cut.segQ fun _=>(ob,kd)) []).flatMap Seg.ops=l':=by rw [Cut.cut_flat]; rfl
 have hne7:=Cut.cut_ne Cut.segQ (fun _=>(ob,kd)) l' [] fun s hs=>by cases hs
 generalize l'.foldl (Cut.cutStep Cut.segQ fun _=>(ob,kd)) []=segs at hask hfl hne7 hseg
 have hsl:=Cut.segs_len segs hne7
 rw [hfl,hs.1.length_eq] at hsl
 obtain ⟨ps,cs,rfl,_⟩:=hseg.form
 have s4:=s3.call b4
 have hrow4:=hr3.below b4
 simp (disch:=first|omega|exact zF rfl|exact zG rfl|exact id|(simp only[zA,zB,zC,zD,bytesW];omega)) only[go_sem,c24S1,c24S5,c24S6]
 refine W_loopU (fun x:Nat × Value × List VS × Int=>[(1,.int .i64 x.2.2.2),(5,x.2.1),(7,.int .i64 x.1)]) (fun x w'=>Below w4.heap.size w4 w'∧x.1≤segs.length∧RowS w' x.2.1 x.2.2.1∧x.2.2.1.length≤32768∧StsK kd (1+10 * x.1) (x.2.2.1.map Prod.snd)∧(-9223372036854775808≤x.2.2.2∧x.2.2.2≤32768)∧∀ r,AskR ((segs.drop x.1).map Seg.ops) (x.2.2.1.map Prod.snd) x.2.2.2 r→Ask ob kd l left r) (fun x=>segs.length - x.1) (0,.slice (some ⟨w2.heap.size,0,none⟩) 1 1,[(.slice sa (firstP kd).length sc,firstP kd)],left) rfl ⟨Below.refl _ _,Nat.zero_le _,hrow4,by simp,StsK.first kd,hleft,fun r hr=>hask hr⟩ ?_
 rintro ⟨k,ev,E,m⟩ w5 ⟨b5,hk,hE,hEl,hSt,hm,hall⟩
 simp only at b5 hk hE hEl hSt hm hall
 obtain ⟨ea',ec',rfl,_⟩:=hE.form
 have s5:=s4.call b5
 have hsg:=hseg.below b5 (by decide) fun x c=>Cut.segR.below b5 x c
 by_cases hlt:k<segs.length
 ·have hlt':(k:Int)<segs.length:=by omega
  obtain ⟨q,rfl⟩:=hsg.ptr (by omega)
  obtain ⟨cc,hcl,⟨va,rfl,hva,hla⟩,hld,ea⟩:=hsg.elt (by decide) hlt
  obtain ⟨oa,oc,rfl,_⟩:=hva.form
  have hin:=seg_in hfl hlt
  have hsh:=seg_short hfl hlt
  rw [hs.1.length_eq] at hsh
  have hin':∀ o∈segs[k].ops,o∈l:=fun o ho=>hs.1.mem_iff.1 (hin o ho)
  have hK':∀ o∈segs[k].ops,o.Kind=kd:=fun o ho=>hK o (hin' o ho)
  have hw':∀ o∈segs[k].ops,o.wf:=fun o ho=>hw o (hin' o ho)
  have hEo:∀ p∈E,Ok64 p.2∧p.2.length≤1+10 * k∧(kd=5→p.2.Pairwise (· < ·)):=fun p hp=>hSt _ (List.mem_map_of_mem hp)
  rw [segs_map hlt] at hall
  simp (disch:=first|omega|exact zF rfl|exact zG rfl|exact id|(simp only[zA,zB,zC,zD,bytesW];omega)) only[go_sem,c24S1,c24S4,c24S5,c24S6,hlt',hld,ea]
  refine ⟨by omega,?_⟩
  refine Ret.mono (rsearch_ok (ob:=segs[k].obj) (kd:=segs[k].kind) (K:=kd) (M:=1+10 * k) hva (by omega) hK' hw' hE (by omega) (by omega) hEo ⟨by omega,by omega⟩) ?_
  rintro u w6 ⟨⟨U0,r,hU,hR,hF⟩,b6⟩
  obtain ⟨ya,xa,yn,yc,xn,xc,cnt,e,rfl⟩:=SearchV.shape hF
  have s6:=(s5.call b6).box #[.slice ya yn yc,.slice xa xn xc,.int .i64 cnt] 77
  simp (disch:=first|omega|exact zF rfl|exact zG rfl|exact id|(simp only[zA,zB,zC,zD,bytesW];omega)) only[go_sem,c24S4,c24S5,c24S6]
  have hb7:Below w6.heap.size w6 (w6.alloc (.cells #[.slice ya yn yc,.slice xa xn xc,.int .i64 cnt] 77)):=(Below.refl _ _).alloc (Nat.le_refl _) _
  have b47:Below w4.heap.size w4 (w6.alloc (.cells #[.slice ya yn yc,.slice xa xn xc,.int .i64 cnt] 77)):=Below.next b5 (Below.next b6 hb7)
  cases r with
  | none =>
   unfold SearchV at hF
   simp only [Value.tuple.injEq,Array.mk.injEq,List.cons.injEq,Value.agg.injEq,Value.int.injEq,Value.slice.injEq,and_true,true_and] at hF
   obtain ⟨⟨⟨rfl,rfl,rfl⟩,⟨rfl,rfl,rfl⟩,rfl⟩,rfl⟩:=hF
   have rz:=s6.rules 1 rfl
   generalize w6.alloc (.cells #[.slice none 0 0,.slice none 0 0,.int .i64 0] 77)=w7 at s6 hb7 b47 rz ⊢
   simp (disch:=first|omega|exact zF rfl|exact zG rfl|exact id|(simp only[zA,zB,zC,zD,bytesW];omega)) only[go_sem,c24S1,c24S4,c24S5,c24S6,rz]
   refine bdW_built (cells:=#[.bool false,.int .i64 0,.int .i64 35]) (by kernel_rfl) ?_
   simp (disch:=first|omega|exact zF rfl|exact zG rfl|exact id|(simp only[zA,zB,zC,zD,bytesW];omega)) only[go_sem,c24S1,c24S4,c24S5,c24S6,rz]
   exact ⟨⟨_,hall _ (.over hU hR),rfl⟩,(s6.fill 1 rfl (cs:=#[.bool false,.int .i64 0,.int .i64 35]) rfl).bel⟩
  | some T =>
   obtain ⟨rfl,rfl,U,X,hU',eU,hX,hUX⟩:=SearchV.some hF
   have hX7:=hX.below hb7
   have hTl:=hR.2
   have hXl:=Uniq.len hUX
   have rz:=s6.rules 1 rfl
   have rs:=s6.rules 0 rfl
   obtain ⟨x1,x2,e1,_⟩:=hX.form
   cases e1
   generalize w6.alloc (.cells #[.slice ya yn yc,.slice xa X.length xc,.int .i64 T.length] 77)=w7 at s6 hb7 b47 rz hX7 rs ⊢
   by_cases hx:X.length=0
   ·have hx':(X.length:Int)=0:=by omega
    simp (disch:=first|omega|exact zF rfl|exact zG rfl|exact id|(simp only[zA,zB,zC,zD,bytesW];omega)) only[go_sem,c24S1,c24S4,c24S5,c24S6,rz,rs,hx']
    refine ⟨⟨by omega,by omega⟩,bdW_built (cells:=#[.bool false,.int .i64 (m - T.length),.int .i64 0]) (by kernel_rfl) ?_⟩
    simp (disch:=first|omega|exact zF rfl|exact zG rfl|exact id|(simp only[zA,zB,zC,zD,bytesW];omega)) only[go_sem,c24S1,c24S4,c24S5,c24S6,rz]
    have hXn:X.map Prod.snd=[]:=by rw [List.eq_nil_of_length_eq_zero hx]; rfl
    rw [hXn] at hUX
    exact ⟨⟨_,hall _ (.stop hU hR hUX),rfl⟩,(s6.fill 1 rfl (cs:=#[.bool false,.int .i64 (m - T.length),.int .i64 0]) rfl).bel⟩
   ·have hx':¬ (X.length:Int)=0:=by omega
    simp (disch:=first|omega|exact zF rfl|exact zG rfl|exact id|(simp only[zA,zB,zC,zD,bytesW];omega)) only[go_sem,c24S1,c24S4,c24S5,c24S6,rz,rs,hx']
    refine ⟨⟨by omega,by omega⟩,⟨by omega,by omega⟩,(k+1,.slice xa X.length xc,X,m - T.length),rfl,⟨b47,hlt,hX7,by simp only; omega,?_,⟨by simp only; omega,by simp only; omega⟩,fun r hr=>hall _ (.go hU hR hUX ?_ hr)⟩,by simp only; omega⟩
    ·have:=StsK.next (E:=E.map Prod.snd) hSt hK' hw' hU hR hUX
     intro s hs
     obtain ⟨a1,a2,a3⟩:=this s hs
     exact ⟨a1,by simp only; omega,a3⟩
    ·intro hn
     exact hx (by rw [← List.length_map (f:=Prod.snd),hn]; rfl)
 ·have hlt':¬ (k:Int)<segs.length:=by omega
  obtain rfl:k=segs.length:=by omega
  rw [List.drop_length] at hall
  have rz:=s5.rules 0 rfl
  simp (disch:=first|omega|exact zF rfl|exact zG rfl|exact id|(simp only[zA,zB,zC,zD,bytesW];omega)) only[go_sem,c24S1,c24S4,c24S5,c24S6,hlt',rz]
  refine bdW_built (cells:=#[.bool true,.int .i64 m,.int .i64 0]) (by kernel_rfl) ?_
  simp (disch:=first|omega|exact zF rfl|exact zG rfl|exact id|(simp only[zA,zB,zC,zD,bytesW];omega)) only[go_sem,c24S1,c24S4,c24S5,c24S6,rz]
  exact ⟨⟨_,hall _ .nil,rfl⟩,(s5.fill 0 rfl (cs:=#[.bool true,.int .i64 m,.int .i64 0]) rfl).bel⟩
end Go.Proofs.YteiciplnfjnfjaaGreat

namespace Go.Ann
open Go Go.RowKit
section
variable {P:Program} {N:Nat}
theorem RangeW_ret{g:Operand}{ps:List Nat}{A B:Cmd}{ρ:Env}{w W0:World}{Q:Post}{F:Nat→Prop}{L0:List Res}{I:List Inv}{α β γ:Type}{gf:Nat}{lb:Array Value}
  (encs:α→List Value) (xs:List α) (L:β→List α→List Res) (y0:β) (T:γ→List Res)
  (hg:ev ρ g=some (.func (.func gf) #[] lb)) (hgo:goFunc P gf=true) (s:St W0 w F L0 I) (hL:L y0 []=L0) (hlen:∀ x,(encs x).length=ps.length)
  (hit:∀ (fv:Value) (J:List α→World→Prop) (S:World→Prop) (w1:World),(∀ pre w',J pre w'→∃ l D o y,St W0 w' F (.obj l o::.obj D (.deferred (some []))::L y pre) I)→(∀ pre w' w'',J pre w'→Below w'.heap.size w' w''→J pre w'')→(∀ w' w'',S w'→Below w'.heap.size w' w''→S w'') →
   (∀ pre x w',J pre w'→(∃ r,pre++x::r=xs)→callW P fv (encs x) w' fun v w''=>(v=.bool true∧J (pre++[x]) w'')∨(v=.bool false∧S w''))→J [] w1→Ret P gf (fv::lb.toList) w1 fun _ w'=>J xs w'∨S w')
  (hbody:∀ y pre x w' l D o o2,(∃ r,pre++x::r=xs)→St W0 w' F (.obj l o::.obj D (.deferred (some []))::L y pre) I→W P A (zipE ps (encs x) (lowE ρ)) w' fun e ρ1 w1=>match e with
   | .normal=>∃ M,St W0 w1 F (.obj l o::.obj D (.deferred (some []))::M) I∧∀ w2,St W0 w2 F (.obj l o2::.obj D (.deferred (some []))::M) I→W P B ρ1 w2 fun e2 _ w3=>match e2 with
    | .normal=>∃ y',St W0 w3 F (.obj l o2::.obj D (.deferred (some []))::L y' (pre++[x])) I
    | .ret=>∃ z,St W0 w3 F (.obj l o2::.obj D (.deferred (some []))::T z) I
    | _=>False
   | _=>False)
  (hdone:∀ y D w',St W0 w' F (.obj D (.deferred (some []))::L y xs) I→Q .normal ((D+1000000,undef)::ρ) w')
  (hret:∀ z D w',St W0 w' F (.obj D (.deferred (some []))::T z) I→Q .ret ((D+1000000,undef)::ρ) w'):RangeW P g ps A B ρ w Q:=by
 intro N a ca cb hca hcb hra hrb hps hs
 refine wpIn_rangeFunc fun fn _=>?_
 obtain ⟨rec,hrec⟩:∃ rec:LoopState→Option Code→Loop,rec=fun st pe=>{ state:=st,pending:=pe,fn,tmps:=a.tmps,params:=ps.toArray,assign:=ca,body:=cb,defers:=w.heap.size }:=⟨_,rfl⟩
 have hs1:St W0 ((w.alloc (.deferred (some []))).alloc (.loop (rec .ready none))) F (.obj (w.heap.size+1) (.loop (rec .ready none))::.obj w.heap.size (.deferred (some []))::L y0 []) I:=by
  rw [hL]
  have:=(s.lay (.deferred (some []))).lay (.loop (rec .ready none))
  rw [World.size_alloc] at this
  exact this
 generalize hw1:(w.alloc (.deferred (some []))).alloc (.loop (rec .ready none))=w1 at hs1
 refine ⟨w.heap.size+1,[{ target:=.collected w.heap.size,args:=#[] }],w1,{ target:=.fn (.func gf) lb,args:=#[.func (.yield (w.heap.size+1)) #[] #[]] },w1,gf,
  #[.func (.yield (w.heap.size+1)) #[] #[]]++lb,w1,?_,?_,?_,?_,fun _=>by decide,?_⟩
 ·rw [← hw1,hrec]; exact run_enterLoop_outer _ _ _ _ _
 ·simp only [resolve,hs.eval _ _ hg]
  simp [go_sem]
 ·intro f' _; exact trivial
 ·simp [invoke,go_sem,callFunc_run hgo]
 ·generalize w.heap.size+1=l at hs1 ⊢
  generalize w.heap.size=D at hrec hs1 ⊢
  have key:=hit (.func (.yield l) #[] #[]) (fun pre w'=>∃ y,St W0 w' F (.obj l (.loop (rec .ready none))::.obj D (.deferred (some []))::L y pre) I) (fun w'=>∃ z,St W0 w' F (.obj l (.loop (rec .done (some .ret)))::.obj D (.deferred (some []))::T z) I) w1 (fun pre w' ⟨y,h⟩=>⟨_,_,_,y,h⟩) (fun pre w' w'' ⟨y,h⟩ hb=>⟨y,h.call hb⟩) (fun w' w'' ⟨z,h⟩ hb=>⟨z,h.call hb⟩) ?_ ⟨y0,hs1⟩
  ·have e:#[Value.func (.yield l) #[] #[]]++lb=(Value.func (.yield l) #[] #[]::lb.toList).toArray:=by simp
   rw [e]
   refine CallsIn.mono (callsIn_wide.2 key) fun e w2 ⟨v,he,h2⟩=>?_
   subst he
   rcases h2 with ⟨y,h2⟩ | ⟨z,h2⟩
   ·have hl:=h2.obj 0 rfl
    refine ⟨none,w2.putObj l (.loop { rec .ready none with state:=.exhausted }),?_,?_⟩
    ·have:=run_endLoop (P:=P) hl (by rw [hrec]; simp)
     rw [hrec] at this ⊢
     exact this
    ·have h3:=(h2.putObj 0 rfl (.loop { rec .ready none with state:=.exhausted })).sub (L':=.obj D (.deferred (some []))::L y xs) (by simp)
     exact ⟨_,hs.mark D,hdone y D _ h3⟩
   ·have hl:=h2.obj 0 rfl
    refine ⟨some .ret,w2.putObj l (.loop { rec .done (some .ret) with state:=.exhausted }),?_,?_⟩
    ·have:=run_endLoop (P:=P) hl (by rw [hrec]; simp)
     rw [hrec] at this ⊢
     exact this
    ·have h3:=(h2.putObj 0 rfl (.loop { rec .done (some .ret) with state:=.exhausted })).sub (L':=.obj D (.deferred (some []))::T z) (by simp)
     exact wpIn_ret ⟨_,hs.mark D,hret z D _ h3⟩
  ·rintro pre x w' ⟨y,h⟩ hx
   have hl:=h.obj 0 rfl
   have hsz:(encs x).toArray.size=(rec .ready none).params.size:=by rw [hrec]; simp [hlen]
   have hy:=run_yield (P:=P) hl hsz
   rw [hrec] at hy
   refine ⟨rfl,rfl,fn,_,ca,cb,hy,?_⟩
   refine roundIn_of_wpIn trivial ?_
   have hsim:Sim N { tmps:=((ps.toArray.zip (encs x).toArray).foldl (fun t (p,v)=>t.setIfInBounds p v) a.tmps),defers:=[] } (zipE ps (encs x) (lowE ρ)):=by
    have:=Sim.zipE (a:={ tmps:=a.tmps,defers:=[] }) ps (encs x) (lowE ρ) a.tmps hps hs.lowE
    rw [← Array.foldl_toList,Array.toList_zip]
    exact this
   have hA:=W_sound (r:=some l) (n:=0) ca A hca (.inl hra) _ w' _ _ hsim (hbody y pre x w' l D _ (.loop { rec .ready none with state:=.busy }) hx h)
   refine wpIn_mono hA fun e a1 w1 hh=>?_
   obtain ⟨ρ1,hs1,hq⟩:=hh
   cases e with
   | normal =>
    obtain ⟨M,hM,hB⟩:=hq
    have hl1:=hM.obj 0 rfl
    refine ⟨_,run_beginRound hl1 (by rw [hrec]),?_⟩
    have hB':=W_sound (r:=some l) (n:=0) cb B hcb (.inl hrb) _ _ _ a1 hs1 (hB _ (hM.putObj 0 rfl _))
    refine wpIn_mono hB' fun e2 a2 w2 hh=>?_
    obtain ⟨ρ2,hs2,hq2⟩:=hh
    cases e2 with
    | normal =>
     obtain ⟨y',hq2⟩:=hq2
     have hl2:=St.obj hq2 0 rfl
     have he:=run_endRound (P:=P) none hl2
     refine ⟨.bool true,w2.putObj l (.loop (rec .ready none)),?_,.bool true,rfl,.inl ⟨rfl,?_⟩⟩
     ·rw [hrec] at he ⊢; exact he
     ·exact ⟨y',St.putObj hq2 0 rfl _⟩
    | ret =>
     obtain ⟨z,hq2⟩:=hq2
     have hl2:=St.obj hq2 0 rfl
     have he:=run_endRound (P:=P) (some .ret) hl2
     refine ⟨.bool false,w2.putObj l (.loop (rec .done (some .ret))),?_,.bool false,rfl,.inr ⟨rfl,?_⟩⟩
     ·rw [hrec] at he ⊢; exact he
     ·exact ⟨z,St.putObj hq2 0 rfl _⟩
    | _=>exact hq2.elim
   | _=>exact hq.elim
end
end Go.Ann

namespace Go.Proofs.YteiciplnfjnfjaaGreat
open Go Go.Ann Go.RowKit
def badL:List Res:=[.blk 0 #[] 0,.blk 0 #[] 0]
theorem bad_no{W0 w:World}{F:Nat→Prop}{I:List Inv}{A:List Res}(h:St W0 w F (A++badL) I):False:=by
 have:=h.nd
 rw [List.filterMap_append] at this
 have h2:=(List.nodup_append.1 this).2.1
 simp [badL,Res.own] at h2
noncomputable def ifL (c:Prop) (L:List Res):List Res:=@ite _ c (Classical.propDecidable c) L badL
theorem ifL_pos{c:Prop}{L:List Res}(h:c):ifL c L=L:=by unfold ifL; exact if_pos h
theorem ifL_elim{c:Prop}{W0 w:World}{F:Nat→Prop}{I:List Inv}{A L:List Res}(h:St W0 w F (A++ifL c L) I):c∧St W0 w F (A++L) I:=by
 by_cases hc:c
 ·rw [ifL_pos hc] at h
  exact ⟨hc,h⟩
 ·unfold ifL at h
  rw [if_neg hc] at h
  exact absurd h fun h=>bad_no h
def downs(ts:List Int):Nat→List (Int × Int)
 | 0=>[]
 | k+1=>downs ts k++[((ts.length:Int) - 1 - k,ts.getD (ts.length - 1 - k) 0)]
theorem downs_pre(ts:List Int){k n:Nat}(h:k≤n):∃ r,downs ts n=downs ts k++r:=by
 induction h with
 | refl=>exact ⟨[],by simp⟩
 | step h ih =>
  obtain ⟨r,e⟩:=ih
  exact ⟨_,by rw [downs,e,List.append_assoc]⟩
theorem downs_snd(ts:List Int):∀ k,k≤ts.length→(downs ts k).map Prod.snd=ts.reverse.take k
 | 0,_=>by simp [downs]
 | k+1,h=>by
  rw [downs,List.map_append,downs_snd ts k (by omega),List.take_succ_eq_append_getElem (by simp; omega)]
  congr 1
  simp only [List.map_cons,List.map_nil,List.getElem_reverse]
  rw [List.getD_eq_getElem?_getD,List.getElem?_eq_getElem (by omega)]
  rfl
theorem back1_ok(fv:Value)(bx:Nat)(v:Value)(ts:List Int)(J:List (Int × Int)→World→Prop)(S:World→Prop)(w:World)(hl:ts.length≤1000)
  (hb:∀ pre w',J pre w'→w'.cell? ⟨bx,0,none⟩=some v∧RdS w' 1 intE v ts)
  (hf:∀ pre x w',J pre w'→(∃ r,pre++x::r=downs ts ts.length)→callW Tryz.prog fv [.int .i64 x.1,.int .i64 x.2] w' fun v w''=>(v=.bool true∧J (pre++[x]) w'')∨(v=.bool false∧S w'')) (h0:J [] w) :
  Ret Tryz.prog 65 [fv,.pointer (some ⟨bx,0,none⟩)] w fun _ w'=>J (downs ts ts.length) w'∨S w':=by
 obtain ⟨hb0,hr0⟩:=hb _ _ h0
 obtain ⟨a,c,rfl,_⟩:=hr0.form
 refine ent65 _ _ _ _ ?_
 simp (disch:=first|omega|exact zF rfl|exact zG rfl|exact id|(simp only[zA,zB,zC,zD,bytesW];omega)) only[go_sem,hb0]
 refine ⟨⟨by omega,by omega⟩,?_⟩
 refine W_loopU (fun x:Int × Nat=>[(3,.int .i64 x.1)]) (fun x w'=>J (downs ts x.2) w'∧x.2≤ts.length∧x.1=(ts.length:Int) - 1 - x.2) (fun x=>ts.length - x.2) ((ts.length:Int) - 1,0) rfl ⟨h0,Nat.zero_le _,by simp⟩ ?_
 rintro ⟨i,k⟩ w3 ⟨j3,hk,hi⟩
 simp only at j3 hk hi
 obtain ⟨hb3,hr3⟩:=hb _ _ j3
 by_cases hlt:k<ts.length
 ·have h1:i ≥ 0:=by omega
  obtain ⟨n,rfl⟩:∃ n:Nat,i=n:=⟨i.toNat,by omega⟩
  have hn:n=ts.length - 1 - k:=by omega
  have hnl:n<ts.length:=by omega
  have hnl':(n:Int)<ts.length:=by omega
  obtain ⟨q,rfl⟩:=hr3.ptr (by omega)
  have ek:=hr3.eltB (Below.refl _ _) (fun _=>rfl) (by decide) hnl
  have ez:(intE ts[n])[0]?=some (.int .i64 ts[n]):=rfl
  rw [Nat.mul_one] at ek
  simp (disch:=first|omega|exact zF rfl|exact zG rfl|exact id|(simp only[zA,zB,zC,zD,bytesW];omega)) only[go_sem,h1,hb3,ek,ez,hnl']
  refine callW_mono (hf _ ((n:Int),ts[n]) _ j3 ?_) ?_
  ·obtain ⟨r,e⟩:=downs_pre ts (k:=k+1) (n:=ts.length) (by omega)
   refine ⟨r,?_⟩
   rw [e,downs,List.append_assoc]
   congr 2
   rw [← hn,List.getD_eq_getElem?_getD,List.getElem?_eq_getElem hnl]
   simp only [Option.getD_some,Prod.mk.injEq,and_true]
   omega
  ·rintro _ w5 (⟨rfl,j5⟩ | ⟨rfl,s5⟩)
   ·simp (disch:=first|omega|exact zF rfl|exact zG rfl|exact id|(simp only[zA,zB,zC,zD,bytesW];omega)) only[go_sem]
    refine ⟨⟨by omega,by omega⟩,((n:Int) - 1,k+1),rfl,⟨?_,hlt,by simp only; omega⟩,by simp only; omega⟩
    simp only
    rw [downs,← hn,List.getD_eq_getElem?_getD,List.getElem?_eq_getElem hnl]
    have:(ts.length:Int) - 1 - k=n:=by omega
    rw [this]
    exact j5
   ·simp (disch:=first|omega|exact zF rfl|exact zG rfl|exact id|(simp only[zA,zB,zC,zD,bytesW];omega)) only[go_sem]
    exact .inr s5
 ·have h1:¬ i ≥ 0:=by omega
  obtain rfl:k=ts.length:=by omega
  simp (disch:=first|omega|exact zF rfl|exact zG rfl|exact id|(simp only[zA,zB,zC,zD,bytesW];omega)) only[go_sem,h1]
  exact .inl j3
open Go Go.Ann Go.RowKit
theorem rise_ex{l:List OpT}(hn:(l.map OpT.ID).Nodup):∃ L,Rise l L:=by
 have h:∀ k,k≤l.length→∃ L,Rise (l.take k) L:=by
  intro k
  induction k with
  | zero=>exact fun _=>⟨[],rise_nil⟩
  | succ k ih =>
   intro hk
   obtain ⟨L,h⟩:=ih (by omega)
   exact ⟨_,rise_step hn hk h⟩
 obtain ⟨L,h⟩:=h l.length (Nat.le_refl _)
 rw [List.take_length] at h
 exact ⟨L,h⟩
theorem rise_ids{l L:List OpT}{ts:List Int}(h:Rise l L)(h1:ts.Perm (l.map OpT.ID))(h2:ts.Pairwise (·≤·)):ts=L.map OpT.ID:=by
 refine List.Perm.eq_of_pairwise (le:=(·≤·)) (fun a b _ _ h3 h4=>Int.le_antisymm h3 h4) h2 ?_ (h1.trans (h.1.map OpT.ID).symm)
 rw [List.pairwise_map]
 exact h.2.imp fun h=>Int.le_of_lt h
theorem AskR.ge{bs:List (List OpT)}{E:List (List Int)}{left:Int}{r:Bool × Int × Int}(h:AskR bs E left r):∀ {B:Int},B≤0→B≤left→B≤r.2.1:=by
 induction h with
 | nil=>exact fun _ h=>h
 | over=>exact fun _ h=>h
 | stop hU hR hX =>
  intro B h1 h2
  have:=hR.2
  simp only
  omega
 | go hU hR hX hne h ih =>
  intro B h1 h2
  have:=hR.2
  exact ih h1 (by omega)
theorem Ask.ge{ob kd left:Int}{l:List OpT}{r:Bool × Int × Int}(h:Ask ob kd l left r){B:Int}(h1:B≤0)(h2:B≤left):B≤r.2.1:=h.choose_spec.2.ge h1 h2
def marks:List Nat→Env
 | []=>[]
 | D::l=>(D+1000000,undef)::marks l
theorem mkE_marks:∀ l:List Nat,mkE (marks l)=marks l
 | []=>rfl
 | D::l=>by rw [marks,mkE,if_neg (by omega),mkE_marks l]
theorem marksD_marks:∀ l:List Nat,marksD (marks l)=l
 | []=>rfl
 | D::l=>by rw [marks,marksD,if_neg (by omega),marksD_marks l,Nat.add_sub_cancel]
theorem lowE_marks:∀ l:List Nat,lowE (marks l)=[]
 | []=>rfl
 | D::l=>by rw [marks,lowE,if_neg (by omega),lowE_marks l]
theorem lk_marks{n:Nat}(h:n<1000000):∀ l:List Nat,lk (marks l) n=none
 | []=>rfl
 | D::l=>by rw [marks,lk_if,if_neg (by omega),lk_marks h l]
def dl(l:List Nat):List Res:=l.map fun D=>.obj D (.deferred (some []))
theorem shut_marks{W0:World}{F:Nat→Prop}{I:List Inv}{K:World→Prop}:∀ (l:List Nat) {w:World} {L:List Res},St W0 w F (dl l++L) I→(∀ w',St W0 w' F L I→K w')→shutW l w K
 | [],w,L,h,hK=>hK w h
 | D::l,w,L,h,hK=>by
  rw [shutW_cons]
  have h1:St W0 w F (.obj D (.deferred (some []))::(dl l++L)) I:=h
  refine ⟨h1.obj 0 rfl,shut_marks l ?_ hK⟩
  exact (h1.putObj 0 rfl (.deferred none)).sub (List.sublist_cons_self _ _)
theorem dl_perm(Ds:List Nat)(a b:Res)(more L:List Res):(dl Ds++(a::b::(more++L))).Perm (a::b::(more++(dl Ds++L))):=by
 refine List.perm_middle.trans (List.Perm.cons _ (List.perm_middle.trans (List.Perm.cons _ ?_)))
 rw [← List.append_assoc,← List.append_assoc]
 exact List.Perm.append_right L List.perm_append_comm
def Has(W0:World)(I:List Inv)(more:List Res)(v:Value)(l:List OpT):Prop:=∀ (w':World) (F:Nat→Prop) (L':List Res),(∀ r∈more,r∈L')→St W0 w' F L' I→RdS w' 11 OpT.enc v l
theorem Has.inv{W0:World}{I:List Inv}{v:Value}{l:List OpT}(h:Inv.rd 11 OpT.enc v l∈I):Has W0 I [] v l:=fun w' F L' _ s=>(s.inv _ h).1
theorem Has.row{W0:World}{I:List Inv}{v:Value}{l:List OpT}:Has W0 I [.row v 38 11 l.length (l.flatMap OpT.enc)] v l:=fun w' F L' hr s=>RdS.of_own (s.res _ (hr _ List.mem_cons_self)).1
structure Mid(W0:World)(I:List Inv)(ob kd:Int)(ts:List Int)(l0:List OpT)(left0 n0:Int)(v:Value)(l:List OpT)(left n:Int)(more:List Res)(k:Nat):Prop where
 has:Has W0 I more v l
 sub:l.Sublist l0
 lo:-9223372036854775808≤left
 hi:left≤32768
 n1:n0≤n
 n2:n≤n0+k
 all:∀ x,RoundR ob kd (ts.reverse.drop k) l left n x→RoundR ob kd ts.reverse l0 left0 n0 x
structure MidS where
 v:Value
 l:List OpT
 left:Int
 n:Int
 more:List Res
structure RetS where
 v:Value
 m:Int
 n:Int
 e:Int
 more:List Res
theorem ids_rest{ts:List Int}{pre r:List (Int × Int)}{x:Int × Int}(h:pre++x::r=downs ts ts.length):ts.reverse.drop pre.length=x.2::ts.reverse.drop (pre.length+1)∧pre.length<ts.length:=by
 have e:=downs_snd ts ts.length (Nat.le_refl _)
 rw [← h,← List.length_reverse,List.take_length] at e
 have hl:pre.length<ts.reverse.length:=by rw [← e]; simp
 refine ⟨?_,by simpa using hl⟩
 rw [List.drop_eq_getElem_cons hl]
 congr 1
 have:ts.reverse[pre.length]?=some x.2:=by rw [← e]; simp
 rw [List.getElem?_eq_getElem hl,Option.some.injEq] at this
 exact this
structure OutI(W0:World)(I:List Inv)(ob kd:Int)(l:List OpT)(left:Int)(before:Int)(y:MidS):Prop where
 has:Has W0 I y.more y.v y.l
 sub:y.l.Sublist l
 lo:-9223372036854775808≤y.left
 hi:y.left≤32768
 n1:0≤y.n
 n2:y.n+10 * (y.l.length+(if (y.l.length:Int)<before then 1 else 0))≤110
 b0:0≤before
 b1:before≤11
 go:(y.l.length:Int)<before→∀ x,CoreR ob kd y.l y.left y.n x→CoreR ob kd l left 0 x
 stop:¬ (y.l.length:Int)<before→∃ Lr,Rise y.l Lr∧CoreR ob kd l left 0 (Lr,y.n,0)
theorem backward_ok(a:Option Addr)(n c:Nat)(w:World):Ret Tryz.prog 38 [.slice a n c] w fun u w'=>u=.func (.func 65) #[] #[.pointer (some ⟨w.heap.size,0,none⟩)]∧w'=w.alloc (.cells #[.slice a n c] 66):=by
 refine ent38 _ _ _ ?_
 simp (disch:=first|omega|exact zF rfl|exact zG rfl|exact id|(simp only[zA,zB,zC,zD,bytesW];omega)) only[go_sem]
theorem least_ok{W0 w:World}{F:Nat→Prop}{L:List Res}{I:List Inv}{j:Nat}{left ob kd:Int}{v:Value}{l:List OpT}(h:St W0 w F (.blk j #[.int .i64 left,.int .i64 0,.int .i64 0] 59::L) I)(hI:Inv.rd 11 OpT.enc v l∈I)(hl:l.length≤10)(hn:(l.map OpT.ID).Nodup)(hK:∀ o∈l,o.Kind=kd)(hw:∀ o∈l,o.wf)(hleft:-9223372036854775808≤left∧left≤32768) :
  Ret Tryz.prog 22 [.pointer (some ⟨j,0,none⟩),.agg #[.int .i64 ob,.int .i64 kd,v]] w fun u w'=>∃ m n e vv more,u=.agg #[.int .i64 ob,.int .i64 kd,vv]∧St W0 w' F (.blk j #[.int .i64 m,.int .i64 n,.int .i64 e] 59::more++L) I∧((e≠0∧(∃ a k c,vv=.slice a k c)∧CoreR ob kd l left 0 ([],0,e))∨(e=0∧∃ l' Lr,l'.Sublist l∧Rise l' Lr∧RdS w' 11 OpT.enc vv l'∧CoreR ob kd l left 0 (Lr,n,0))):=by
 have hr:=(h.inv _ hI).1
 obtain ⟨a,c,rfl,_⟩:=RdS.form hr
 refine ent22 _ _ _ _ ?_
 have s3:=((h.box #[.pointer (some ⟨j,0,none⟩)] 57).box #[.int .i64 ob,.int .i64 kd,.slice a l.length c] 24).box #[.int .i64 0,.int .i64 0,.slice none 0 0] 24
 rw [World.size_alloc,World.size_alloc] at s3
 simp (disch:=first|omega|exact zF rfl|exact zG rfl|exact id|(simp only[zA,zB,zC,zD,bytesW];omega)) only[go_sem,c22S0,c22S1,c22S2,c22S3]
 refine ⟨⟨by omega,by omega⟩,?_⟩
 have s0:=s3.perm (L':=.blk (w.heap.size+1) #[.int .i64 ob,.int .i64 kd,.slice a l.length c] 24::.blk j #[.int .i64 left,.int .i64 0,.int .i64 0] 59::.blk w.heap.size #[.pointer (some ⟨j,0,none⟩)] 57::.blk (w.heap.size+1+1) #[.int .i64 0,.int .i64 0,.slice none 0 0] 24::[]++L) (by
  refine List.Perm.trans (l₂:=[.blk (w.heap.size+1) #[.int .i64 ob,.int .i64 kd,.slice a l.length c] 24,.blk j #[.int .i64 left,.int .i64 0,.int .i64 0] 59,.blk w.heap.size #[.pointer (some ⟨j,0,none⟩)] 57,.blk (w.heap.size+1+1) #[.int .i64 0,.int .i64 0,.slice none 0 0] 24]++L) (List.Perm.refl _) ?_
  refine List.Perm.append (l₂:=[.blk (w.heap.size+1+1) #[.int .i64 0,.int .i64 0,.slice none 0 0] 24,.blk (w.heap.size+1) #[.int .i64 ob,.int .i64 kd,.slice a l.length c] 24,.blk w.heap.size #[.pointer (some ⟨j,0,none⟩)] 57,.blk j #[.int .i64 left,.int .i64 0,.int .i64 0] 59]) (t₁:=L) (t₂:=L) ?_ (List.Perm.refl _)
  generalize Res.blk (w.heap.size+1) _ _=x1
  generalize Res.blk j _ _=x2
  generalize Res.blk w.heap.size _ _=x3
  generalize Res.blk (w.heap.size+1+1) _ _=x4
  refine (List.Perm.cons x1 (List.Perm.cons x2 (List.Perm.swap _ _ _))).trans ?_
  refine (List.Perm.cons x1 (List.Perm.swap _ _ _)).trans ?_
  refine (List.Perm.swap _ _ _).trans (List.Perm.cons x4 (List.Perm.cons x1 (List.Perm.swap _ _ _))))
 clear s3
 generalize ((w.alloc (.cells #[.pointer (some ⟨j,0,none⟩)] 57)).alloc (.cells #[.int .i64 ob,.int .i64 kd,.slice a l.length c] 24)).alloc (.cells #[.int .i64 0,.int .i64 0,.slice none 0 0] 24)=w0 at s0 ⊢
 generalize w.heap.size+1+1=p4 at s0 ⊢
 generalize w.heap.size+1=p3 at s0 ⊢
 generalize w.heap.size=p2 at s0 ⊢
 refine W_loop (fun x:Int × MidS × List Nat=>(2,.pointer (some ⟨p2,0,none⟩))::(3,.pointer (some ⟨p3,0,none⟩))::(4,.pointer (some ⟨p4,0,none⟩))::(5,.int .i64 x.1)::marks x.2.2) (fun x w'=>St W0 w' F (.blk p3 #[.int .i64 ob,.int .i64 kd,x.2.1.v] 24::.blk j #[.int .i64 x.2.1.left,.int .i64 x.2.1.n,.int .i64 0] 59::.blk p2 #[.pointer (some ⟨j,0,none⟩)] 57::.blk p4 #[.int .i64 0,.int .i64 0,.slice none 0 0] 24::x.2.1.more++(dl x.2.2++L)) I∧OutI W0 I ob kd l left x.1 x.2.1) (fun x=>x.2.1.l.length+if (x.2.1.l.length:Int)<x.1 then 1 else 0) ((l.length:Int)+1,⟨.slice a l.length c,l,left,0,[]⟩,[]) rfl ⟨s0,⟨Has.inv hI,List.Sublist.refl _,hleft.1,hleft.2,Int.le_refl _,by simp only; rw [if_pos (by omega)]; omega,by omega,by omega,fun _ x h=>h,fun h=>absurd h (by simp only; omega)⟩⟩ ?_
 rintro ⟨before,⟨v1,l1,left1,n1,more1⟩,Ds⟩ w1 ⟨s1,o1⟩
 simp only at s1
 have mk1:=mkE_marks Ds
 have mk2:=marksD_marks Ds
 have mk3:=lowE_marks Ds
 have mk4:∀ {n:Nat},n<1000000→lk (marks Ds) n=none:=fun h=>lk_marks h Ds
 obtain ⟨LD,hLD⟩:∃ LD,LD=dl Ds++L:=⟨_,rfl⟩
 rw [← hLD] at s1
 have hr1:RdS w1 11 OpT.enc v1 l1:=o1.has w1 F _ (fun r hr=>by simp only [List.cons_append,List.mem_cons,List.mem_append]; exact .inr (.inr (.inr (.inr (.inl hr))))) s1
 obtain ⟨a1,c1,rfl,_⟩:=hr1.form
 have hl1:l1.length≤l.length:=o1.sub.length_le
 have q0:=s1.rules 0 rfl
 have q3:=s1.rules 3 rfl
 by_cases hlt:(l1.length:Int)<before
 ·simp (disch:=first|omega|exact zF rfl|exact zG rfl|exact id|(simp only[zA,zB,zC,zD,bytesW];omega)) only[go_sem,c22S0,c22S1,c22S2,c22S5,q0,hlt,mk1,mk4]
  refine Ret.mono (ids_ok hr1 (by omega)) ?_
  rintro vi w2 ⟨⟨ts,hp,hts,own2⟩,b2⟩
  have s2:=newRow s1 b2 own2
  obtain ⟨ia,ic,rfl,_⟩:=own_slice own2
  have hlen:ts.length=l1.length:=by rw [hp.length_eq,List.length_map]
  simp (disch:=first|omega|exact zF rfl|exact zG rfl|exact id|(simp only[zA,zB,zC,zD,bytesW];omega)) only[go_sem,c22S0,c22S1,c22S2,c22S5,mk1,mk4]
  refine Ret.mono (backward_ok _ _ _ w2) ?_
  rintro _ _ ⟨rfl,rfl⟩
  simp (disch:=first|omega|exact zF rfl|exact zG rfl|exact id|(simp only[zA,zB,zC,zD,bytesW];omega)) only[go_sem,c22S0,c22S1,c22S2,c22S3,c22S5,mk1,mk4]
  have s3:=s2.box #[.slice ia ts.length ic] 66
  generalize w2.heap.size=bx at s3 ⊢
  generalize w2.alloc (.cells #[.slice ia ts.length ic] 66)=w3 at s3 ⊢
  obtain ⟨LL,hLL⟩:∃ LL:MidS→List Res,LL=fun y=>.blk p3 #[.int .i64 ob,.int .i64 kd,y.v] 24::.blk j #[.int .i64 y.left,.int .i64 y.n,.int .i64 0] 59::.blk p2 #[.pointer (some ⟨j,0,none⟩)] 57::.blk p4 #[.int .i64 0,.int .i64 0,.slice none 0 0] 24::.blk bx #[.slice ia ts.length ic] 66::.row (.slice ia ts.length ic) 3 1 ts.length (ts.flatMap intE)::(y.more++LD):=⟨_,rfl⟩
  obtain ⟨y0,hy0⟩:∃ y0:MidS,y0=⟨.slice a1 l1.length c1,l1,left1,n1,more1⟩:=⟨_,rfl⟩
  have hm0:Mid W0 I ob kd ts l1 left1 n1 y0.v y0.l y0.left y0.n y0.more 0:=by
   rw [hy0]
   exact ⟨o1.has,List.Sublist.refl _,o1.lo,o1.hi,Int.le_refl _,by simp only; omega,fun x h=>h⟩
  have s4:St W0 w3 F (ifL (Mid W0 I ob kd ts l1 left1 n1 y0.v y0.l y0.left y0.n y0.more ([]:List (Int × Int)).length) (LL y0)) I:=by
   rw [show ([]:List (Int × Int)).length=0 from rfl,ifL_pos hm0,hLL,hy0]
   exact s3.perm (List.Perm.append_right (more1++LD) (List.perm_append_comm (l₁:=[_,_,_,_]) (l₂:=[_,_])))
  have hn1:(l1.map OpT.ID).Nodup:=hn.sublist (o1.sub.map _)
  obtain ⟨L0,hL0⟩:=rise_ex hn1
  have hts0:=rise_ids hL0 hp hts
  refine RangeW_ret (fun x:Int × Int=>[.int .i64 x.1,.int .i64 x.2]) (downs ts ts.length) (fun (y:MidS) pre=>ifL (Mid W0 I ob kd ts l1 left1 n1 y.v y.l y.left y.n y.more pre.length) (LL y)) y0 (fun z:RetS=>ifL (z.e≠0∧(∃ a k c,z.v=.slice a k c)∧CoreR ob kd l left 0 ([],0,z.e)) (.blk j #[.int .i64 z.m,.int .i64 z.n,.int .i64 z.e] 59::.blk p4 #[.int .i64 ob,.int .i64 kd,z.v] 24::z.more++LD)) rfl (by kernel_rfl) s4 rfl (fun _=>rfl) ?_ ?_ ?_ ?_
  ·intro fv J S w1 hJ1 hJ2 hS hf h0
   refine back1_ok fv bx (.slice ia ts.length ic) ts J S w1 (by omega) (fun pre w' hJ=>?_) hf h0
   obtain ⟨lo,D,o,y,hs⟩:=hJ1 pre w' hJ
   obtain ⟨_,hs⟩:=ifL_elim (A:=[_,_]) hs
   rw [hLL] at hs
   exact ⟨(hs.rules 6 rfl).1 0,RdS.of_own (hs.row 7 rfl)⟩
  ·rintro ⟨yv,yl,yleft,yn,ymore⟩ pre x w' lo D o o2 hx h
   obtain ⟨hm,h⟩:=ifL_elim (A:=[_,_]) h
   have hm:Mid W0 I ob kd ts l1 left1 n1 yv yl yleft yn ymore pre.length:=hm
   simp only [List.cons_append,List.nil_append] at h
   simp (disch:=first|omega|exact zF rfl|exact zG rfl|exact id|(simp only[zA,zB,zC,zD,bytesW];omega)) only[go_sem,c22S0,c22S1,c22S2,c22S3,c22S5]
   refine ⟨_,h,fun w4 h4=>?_⟩
   obtain ⟨r,hx⟩:=hx
   obtain ⟨hrest,hplt⟩:=ids_rest hx
   rw [hLL] at h4
   simp only at h4
   have hr4:RdS w4 11 OpT.enc yv yl:=hm.has w4 F _ (fun r hr=>by simp only [List.mem_cons,List.mem_append]; exact .inr (.inr (.inr (.inr (.inr (.inr (.inr (.inr (.inl hr))))))))) h4
   obtain ⟨ya,yc,rfl,_⟩:=hr4.form
   have hyl:yl.length≤10:=by have:=hm.sub.length_le; omega
   have q2:=h4.rules 2 rfl
   simp (disch:=first|omega|exact zF rfl|exact zG rfl|exact id|(simp only[zA,zB,zC,zD,bytesW];omega)) only[go_sem,c22S0,c22S1,c22S2,c22S3,c22S5,q2]
   refine Ret.mono (wout_ok (ob:=ob) (kd:=kd) (d:=x.2) hr4 (by omega)) ?_
   rintro _ w5 ⟨⟨uv,rfl,own5⟩,b5⟩
   have s5:=newRow h4 b5 own5
   obtain ⟨ua,uc,rfl,_⟩:=own_slice own5
   simp (disch:=first|omega|exact zF rfl|exact zG rfl|exact id|(simp only[zA,zB,zC,zD,bytesW];omega)) only[go_sem,c22S0,c22S1,c22S3,c22S5]
   have s6:=s5.box #[.int .i64 ob,.int .i64 kd,.slice ua (wo yl x.2).length uc] 24
   generalize w5.heap.size=g8 at s6 ⊢
   generalize w5.alloc (.cells #[.int .i64 ob,.int .i64 kd,.slice ua (wo yl x.2).length uc] 24)=w6 at s6 ⊢
   have s6':=s6.perm (L':=.blk j #[.int .i64 yleft,.int .i64 yn,.int .i64 0] 59::([.blk g8 #[.int .i64 ob,.int .i64 kd,.slice ua (wo yl x.2).length uc] 24,.row (.slice ua (wo yl x.2).length uc) 38 11 (wo yl x.2).length ((wo yl x.2).flatMap OpT.enc),.obj lo o2,.obj D (.deferred (some [])),.blk p3 #[.int .i64 ob,.int .i64 kd,.slice ya yl.length yc] 24]++.blk p2 #[.pointer (some ⟨j,0,none⟩)] 57::.blk p4 #[.int .i64 0,.int .i64 0,.slice none 0 0] 24::.blk bx #[.slice ia ts.length ic] 66::.row (.slice ia ts.length ic) 3 1 ts.length (ts.flatMap intE)::(ymore++LD))) List.perm_middle.symm
   have qj:=s6'.rules 0 rfl
   have q2':=s6'.rules 6 rfl
   have q8':=s6'.rules 1 rfl
   have s7:=s6'.set 0 rfl 1 (.int .i64 (yn+1))
   have qj7:=s7.rules 0 rfl
   have q27:=s7.rules 6 rfl
   have q87:=s7.rules 1 rfl
   have hyn:yn≤110:=by
    have:=hm.n2
    have:=o1.n2
    simp only at this
    split at this <;> omega
   have hyn0:0≤yn:=by
    have:=hm.n1
    have:=o1.n1
    simp only at this
    omega
   simp (disch:=first|omega|exact zF rfl|exact zG rfl|exact id|(simp only[zA,zB,zC,zD,bytesW];omega)) only[go_sem,c22S2,c22S3,c22S5,qj,q2']
   refine ⟨⟨by omega,by omega⟩,?_⟩
   generalize w6.setCell ⟨j,1,none⟩ (.int .i64 (yn+1))=w7 at s7 qj7 q27 q87 ⊢
   simp (disch:=first|omega|exact zF rfl|exact zG rfl|exact id|(simp only[zA,zB,zC,zD,bytesW];omega)) only[go_sem,c22S2,c22S3,c22S5,q27,q87]
   have hw5:(wo yl x.2).length≤10:=Nat.le_trans (wo_len_le _ _) hyl
   have hrw:RdS w7 11 OpT.enc (.slice ua (wo yl x.2).length uc) (wo yl x.2):=RdS.of_own (s7.row 2 rfl)
   have hsub:∀ o∈wo yl x.2,o∈l:=fun o ho=>o1.sub.subset (hm.sub.subset (List.mem_filter.1 ho).1)
   refine Ret.mono (explained_ok (ob:=ob) (kd:=kd) s7 hrw hw5 (fun o ho=>hK o (hsub o ho)) (fun o ho=>hw o (hsub o ho)) ⟨hm.lo,hm.hi⟩) ?_
   rintro _ w8 ⟨av,m,e,rfl,hask,s8⟩
   have q8j:=s8.rules 0 rfl
   have q82:=s8.rules 6 rfl
   have q83:=s8.rules 5 rfl
   have q88:=s8.rules 1 rfl
   have q84:=s8.rules 7 rfl
   have hlow:=hask.low
   have hge:=hask.ge (B:=-9223372036854775808) (by decide) hm.lo
   simp only at hlow hge
   have hhi:=hm.hi
   have hn1':=hm.n1
   have hn2':=hm.n2
   have hpl:(pre++[x]).length=pre.length+1:=by simp
   by_cases he:e=0
   ·subst he
    simp only [if_true] at s8 q8j
    cases av with
    | true =>
     simp (disch:=first|omega|exact zF rfl|exact zG rfl|exact id|(simp only[zA,zB,zC,zD,bytesW];omega)) only[go_sem,c22S0,c22S1,c22S2,c22S3,c22S5,q82,q8j]
     have hmid:Mid W0 I ob kd ts l1 left1 n1 (.slice ya yl.length yc) yl m (yn+1) ymore (pre++[x]).length:=by
      rw [hpl]
      exact ⟨hm.has,hm.sub,hge,by omega,by omega,by omega,fun res hres=>hm.all res (by rw [hrest]; exact .keep hask hres)⟩
     refine ⟨⟨.slice ya yl.length yc,yl,m,yn+1,ymore⟩,?_⟩
     rw [ifL_pos hmid,hLL]
     exact (s8.perm List.perm_middle).sub (.cons _ (.cons _ (List.Sublist.refl _)))
    | false =>
     simp (disch:=first|omega|exact zF rfl|exact zG rfl|exact id|(simp only[zA,zB,zC,zD,bytesW];omega)) only[go_sem,c22S0,c22S2,c22S3,c22S5,q88,q83]
     have s9:=s8.fill 5 rfl (cs:=#[.int .i64 ob,.int .i64 kd,.slice ua (wo yl x.2).length uc]) rfl
     have q9j:=s9.rules 0 rfl
     have q92:=s9.rules 6 rfl
     generalize w8.fill p3 #[.int .i64 ob,.int .i64 kd,.slice ua (wo yl x.2).length uc]=w9 at s9 q9j q92 ⊢
     simp (disch:=first|omega|exact zF rfl|exact zG rfl|exact id|(simp only[zA,zB,zC,zD,bytesW];omega)) only[go_sem,c22S0,c22S1,c22S2,c22S3,c22S5,q92,q9j]
     have hmid:Mid W0 I ob kd ts l1 left1 n1 (.slice ua (wo yl x.2).length uc) (wo yl x.2) m (yn+1) [.row (.slice ua (wo yl x.2).length uc) 38 11 (wo yl x.2).length ((wo yl x.2).flatMap OpT.enc)] (pre++[x]).length:=by
      rw [hpl]
      exact ⟨Has.row,List.filter_sublist.trans hm.sub,hge,by omega,by omega,by omega,fun res hres=>hm.all res (by rw [hrest]; exact .out hask hres)⟩
     refine ⟨⟨.slice ua (wo yl x.2).length uc,wo yl x.2,m,yn+1,[.row (.slice ua (wo yl x.2).length uc) 38 11 (wo yl x.2).length ((wo yl x.2).flatMap OpT.enc)]⟩,?_⟩
     rw [ifL_pos hmid,hLL]
     have s10:=s9.sub (L':=.blk j #[.int .i64 m,.int .i64 (yn+1),.int .i64 0] 59::.row (.slice ua (wo yl x.2).length uc) 38 11 (wo yl x.2).length ((wo yl x.2).flatMap OpT.enc)::.obj lo o2::.obj D (.deferred (some []))::.blk p3 #[.int .i64 ob,.int .i64 kd,.slice ua (wo yl x.2).length uc] 24::.blk p2 #[.pointer (some ⟨j,0,none⟩)] 57::.blk p4 #[.int .i64 0,.int .i64 0,.slice none 0 0] 24::.blk bx #[.slice ia ts.length ic] 66::.row (.slice ia ts.length ic) 3 1 ts.length (ts.flatMap intE)::LD) (.cons_cons _ (.cons _ (.cons_cons _ (.cons_cons _ (.cons_cons _ (.cons_cons _ (.cons_cons _ (.cons_cons _ (.cons_cons _ (.cons_cons _ (List.sublist_append_right _ _)))))))))))
     refine s10.perm ?_
     refine (List.perm_middle (l₁:=[_,_,_]) (l₂:=_::_::_::_::_::LD)).trans (List.Perm.cons _ ?_)
     exact List.perm_middle (l₁:=[_,_,_,_,_,_,_]) (l₂:=LD)
   ·have ha:=hask.err
    simp only at ha
    have hav:av=true:=by
     rcases ha with h | h
     ·exact absurd h he
     ·exact h.2
    subst hav
    rw [if_neg he] at s8 q8j
    have s9:=s8.fill 7 rfl (cs:=#[.int .i64 ob,.int .i64 kd,.slice ya yl.length yc]) rfl
    have q8z:=s8.rules 7 rfl
    simp (disch:=first|omega|exact zF rfl|exact zG rfl|exact id|(simp only[zA,zB,zC,zD,bytesW];omega)) only[go_sem,c22S0,c22S1,c22S2,c22S3,c22S5,q82,q8j,he,q83,q8z]
    have hround:=hm.all (yl,m,yn+1,e) (by rw [hrest]; exact .err hask he)
    rw [hts0] at hround
    have hz:e≠0∧(∃ a k c,Value.slice ya yl.length yc=.slice a k c)∧CoreR ob kd l left 0 ([],0,e):=⟨he,⟨_,_,_,rfl⟩,o1.go hlt _ (.err hL0 hround he)⟩
    refine ⟨⟨.slice ya yl.length yc,m,yn+1,e,[]⟩,?_⟩
    rw [ifL_pos hz]
    have s10:=s9.sub (L':=.blk j #[.int .i64 m,.int .i64 (yn+1),.int .i64 e] 59::.obj lo o2::.obj D (.deferred (some []))::.blk p4 #[.int .i64 ob,.int .i64 kd,.slice ya yl.length yc] 24::LD) (.cons_cons _ (.cons _ (.cons _ (.cons_cons _ (.cons_cons _ (.cons _ (.cons _ (.cons_cons _ (.cons _ (.cons _ (List.sublist_append_right _ _)))))))))))
    exact s10.perm (List.perm_middle (l₁:=[_,_]) (l₂:=_::LD))
  ·rintro ⟨yv,yl,yleft,yn,ymore⟩ D w' h
   obtain ⟨hm,h⟩:=ifL_elim (A:=[_]) h
   have hm:Mid W0 I ob kd ts l1 left1 n1 yv yl yleft yn ymore (downs ts ts.length).length:=hm
   rw [hLL] at h
   simp only [List.cons_append,List.nil_append] at h
   simp (disch:=first|omega|exact zF rfl|exact zG rfl|exact id|(simp only[zA,zB,zC,zD,bytesW];omega)) only[go_sem,c22S0,c22S1,c22S2,c22S3,c22S5,mk1]
   have hdl:(downs ts ts.length).length=ts.length:=by rw [← List.length_map (f:=Prod.snd),downs_snd ts _ (Nat.le_refl _)]; simp
   have hround:RoundR ob kd (L0.map OpT.ID).reverse l1 left1 n1 (yl,yleft,yn,0):=by
    rw [← hts0]
    refine hm.all _ ?_
    rw [hdl,List.drop_eq_nil_of_le (by simp)]
    exact .nil
   have h5:=h.sub (L':=.obj D (.deferred (some []))::.blk p3 #[.int .i64 ob,.int .i64 kd,yv] 24::.blk j #[.int .i64 yleft,.int .i64 yn,.int .i64 0] 59::.blk p2 #[.pointer (some ⟨j,0,none⟩)] 57::.blk p4 #[.int .i64 0,.int .i64 0,.slice none 0 0] 24::(ymore++LD)) (.cons_cons _ (.cons_cons _ (.cons_cons _ (.cons_cons _ (.cons_cons _ (.cons _ (.cons _ (List.Sublist.refl _))))))))
   have h6:=h5.perm (L':=.blk p3 #[.int .i64 ob,.int .i64 kd,yv] 24::.blk j #[.int .i64 yleft,.int .i64 yn,.int .i64 0] 59::.blk p2 #[.pointer (some ⟨j,0,none⟩)] 57::.blk p4 #[.int .i64 0,.int .i64 0,.slice none 0 0] 24::(ymore++.obj D (.deferred (some []))::LD)) (by
    have:=List.perm_middle (a:=Res.obj D (.deferred (some []))) (l₁:=.blk p3 #[.int .i64 ob,.int .i64 kd,yv] 24::.blk j #[.int .i64 yleft,.int .i64 yn,.int .i64 0] 59::.blk p2 #[.pointer (some ⟨j,0,none⟩)] 57::.blk p4 #[.int .i64 0,.int .i64 0,.slice none 0 0] 24::ymore) (l₂:=LD)
    exact this)
   rw [hLD] at h6
   have hsl:=hm.sub.length_le
   have on2:n1+10 * (l1.length+(if (l1.length:Int)<before then 1 else 0))≤110:=o1.n2
   have on1:0≤n1:=o1.n1
   have mn1:=hm.n1
   have mn2:=hm.n2
   rw [if_pos hlt] at on2
   have hyn0:0≤yn:=by omega
   have hl11:(l1.length:Int)≤11:=by omega
   have hl10:(0:Int)≤(l1.length:Int):=by omega
   rw [hdl,hlen] at mn2
   have hlt2:∀ {h:Decidable ((yl.length:Int)<(l1.length:Int))},yl.length+(@ite _ ((yl.length:Int)<(l1.length:Int)) h 1 0)≤l1.length:=by
    intro h
    split <;> omega
   have hneq:(yl.length:Int)<l1.length→yl.length≠l1.length:=fun h=>by omega
   refine ⟨((l1.length:Int),⟨yv,yl,yleft,yn,ymore⟩,D::Ds),rfl,⟨h6,⟨hm.has,hm.sub.trans o1.sub,hm.lo,hm.hi,hyn0,?_,hl10,hl11,fun hlt2 x hx=>o1.go hlt x (.more hL0 hround (hneq hlt2) hx),fun hge=>?_⟩⟩,?_⟩
   ·simp only
    have:=@hlt2 inferInstance
    split at this <;> rename_i h7 <;> simp only [h7,if_true,if_false] <;> omega
   ·have hge':¬ (yl.length:Int)<l1.length:=hge
    have he:yl=l1:=hm.sub.eq_of_length (by omega)
    refine ⟨L0,by rw [he]; exact hL0,o1.go hlt _ (.done hL0 hround (by rw [he]))⟩
   ·simp only
    rw [if_pos hlt]
    have:=@hlt2 inferInstance
    omega
  ·rintro ⟨zv,zm,zn,ze,zmore⟩ D w' h
   have h0:St W0 w' F ([.obj D (.deferred (some []))]++ifL (ze≠0∧(∃ a k c,zv=.slice a k c)∧CoreR ob kd l left 0 ([],0,ze)) (.blk j #[.int .i64 zm,.int .i64 zn,.int .i64 ze] 59::.blk p4 #[.int .i64 ob,.int .i64 kd,zv] 24::zmore++LD)) I:=h
   have hz:=(ifL_elim h0).1
   have h5:St W0 w' F (.obj D (.deferred (some []))::.blk j #[.int .i64 zm,.int .i64 zn,.int .i64 ze] 59::.blk p4 #[.int .i64 ob,.int .i64 kd,zv] 24::zmore++LD) I:=(ifL_elim h0).2
   clear h0 h
   have hz1:=hz.1
   have hz3:=hz.2.2
   have hz2:=hz.2.1
   clear hz
   simp (disch:=first|omega|exact zF rfl|exact zG rfl|exact id|(simp only[zA,zB,zC,zD,bytesW];omega)) only[go_sem,c22S0,c22S1,c22S2,c22S3,c22S5,mk1,mk2]
   obtain ⟨za,hz2⟩:=hz2
   obtain ⟨zk,hz2⟩:=hz2
   obtain ⟨zc,hzv⟩:=hz2
   have h:=h5
   clear h5
   rw [hzv] at h
   have hD:=h.obj 0 rfl
   have h2:=(h.putObj 0 rfl (.deferred none)).sub (List.sublist_cons_self _ _)
   refine ⟨hD,?_⟩
   have h3:=h2.perm (L':=dl Ds++(.blk j #[.int .i64 zm,.int .i64 zn,.int .i64 ze] 59::.blk p4 #[.int .i64 ob,.int .i64 kd,.slice za zk zc] 24::zmore++L)) (by
    rw [hLD]
    exact dl_perm Ds _ _ zmore L)
   refine shut_marks Ds h3 fun w9 h9=>?_
   have q9:=h9.rules 1 rfl
   simp (disch:=first|omega|exact zF rfl|exact zG rfl|exact id|(simp only[zA,zB,zC,zD,bytesW];omega)) only[go_sem,c22S0,c22S1,c22S2,c22S3,c22S5,q9]
   exact ⟨_,_,_,_,zmore,rfl,h9.sub (.cons_cons _ (.cons _ (List.Sublist.refl _))),.inl ⟨hz1,⟨_,_,_,rfl⟩,hz3⟩⟩
 ·simp (disch:=first|omega|exact zF rfl|exact zG rfl|exact id|(simp only[zA,zB,zC,zD,bytesW];omega)) only[go_sem,c22S0,c22S1,c22S2,c22S3,c22S5,q0,q3,hlt,mk1,mk2]
  obtain ⟨Lr,h1,h2⟩:=o1.stop hlt
  have s2:=(s1.fill 3 rfl (cs:=#[.int .i64 ob,.int .i64 kd,.slice a1 l1.length c1]) rfl).sub (L':=.blk j #[.int .i64 left1,.int .i64 n1,.int .i64 0] 59::.blk p4 #[.int .i64 ob,.int .i64 kd,.slice a1 l1.length c1] 24::(more1++LD)) (.cons _ (.cons_cons _ (.cons _ (.cons_cons _ (List.Sublist.refl _)))))
  have s3:=s2.perm (L':=dl Ds++(.blk j #[.int .i64 left1,.int .i64 n1,.int .i64 0] 59::.blk p4 #[.int .i64 ob,.int .i64 kd,.slice a1 l1.length c1] 24::(more1++L))) (by
   rw [hLD]
   exact dl_perm Ds _ _ more1 L)
  refine shut_marks Ds s3 fun w9 h9=>?_
  have q9:=h9.rules 1 rfl
  simp (disch:=first|omega|exact zF rfl|exact zG rfl|exact id|(simp only[zA,zB,zC,zD,bytesW];omega)) only[go_sem,c22S0,c22S1,c22S2,c22S3,c22S5,q9]
  have h10:=h9.sub (L':=.blk j #[.int .i64 left1,.int .i64 n1,.int .i64 0] 59::(more1++L)) (.cons_cons _ (.cons _ (List.Sublist.refl _)))
  exact ⟨_,_,_,_,more1,rfl,h10,.inr ⟨rfl,l1,Lr,o1.sub,h1,o1.has _ F _ (fun r hr=>by simp only [List.mem_cons,List.mem_append]; exact .inr (.inl hr)) h10,h2⟩⟩
open Go Go.Ann Go.RowKit
def ObjV(B:Nat)(w':World)(ob:Int)(r:Option (List OpT × Int) × Int)(u:Value):Prop :=
 match r with
 | (some (L,n),_)=>∃ vv,u=.tuple #[.agg #[.int .i64 ob,vv,.int .i64 n],.bool true,.int .i64 0]∧w'.ownsRow B 38 11 vv L.length (L.flatMap OpT.enc)
 | (none,e)=>u=.tuple #[.agg #[.int .i64 0,.slice none 0 0,.int .i64 0],.bool false,.int .i64 e]
theorem startI{w:World}{v:Value}{l:List OpT}(hr:RdS w 11 OpT.enc v l):St w w (fun _=>False) [] [.rd 11 OpT.enc v l] :=
 (St.start (W0:=w)).keep _ hr fun k hk=>⟨hr.footLt (by decide) hk,fun h=>h,fun r hr=>by cases hr⟩
theorem object_ok{w:World}{bud ob kd:Int}{v:Value}{l:List OpT}(hr:RdS w 11 OpT.enc v l)(hl:l.length≤10)(hn:(l.map OpT.ID).Nodup)(hK:∀ o∈l,o.Kind=kd)(hw:∀ o∈l,o.wf)(hb:I64 bud) :
  Ret Tryz.prog 9 [.agg #[.int .i64 ob,.int .i64 kd,v],.int .i64 bud] w fun u w'=>(∃ r,ObjR ob kd l bud r∧ObjV w.heap.size w' ob r u)∧Below w.heap.size w w':=by
 obtain ⟨a,c,rfl,_⟩:=hr.form
 refine ent9 _ _ _ _ ?_
 have s2:=((startI hr).box #[.int .i64 ob,.int .i64 kd,.slice a l.length c] 24).box #[.int .i64 0,.slice none 0 0,.int .i64 0] 28
 rw [World.size_alloc] at s2
 simp (disch:=first|omega|exact zF rfl|exact zG rfl|exact id|(simp only[zA,zB,zC,zD,bytesW];omega)) only[go_sem,c9S4,c9S7]
 generalize (w.alloc (.cells #[.int .i64 ob,.int .i64 kd,.slice a l.length c] 24)).alloc (.cells #[.int .i64 0,.slice none 0 0,.int .i64 0] 28)=w2 at s2 ⊢
 generalize w.heap.size+1=p4 at s2 ⊢
 obtain ⟨p1,hp1⟩:∃ p1,p1=w.heap.size:=⟨_,rfl⟩
 rw [← hp1] at s2
 have hbel:∀ {w':World} {F:Nat→Prop} {L:List Res} {I:List Inv},St w w' F L I→Below p1 w w':=fun h=>by rw [hp1]; exact h.bel
 rw [← hp1]
 refine bdW_built (cells:=#[.int .i64 (min bud 32768),.int .i64 0,.int .i64 0]) (by kernel_rfl) ?_
 simp (disch:=first|omega|exact zF rfl|exact zG rfl|exact id|(simp only[zA,zB,zC,zD,bytesW];omega)) only[go_sem,c9S4,c9S7]
 have s3:=s2.box #[.int .i64 (min bud 32768),.int .i64 0,.int .i64 0] 59
 generalize w2.heap.size=pj at s3 ⊢
 generalize w2.alloc (.cells #[.int .i64 (min bud 32768),.int .i64 0,.int .i64 0] 59)=w3 at s3 ⊢
 have q1:=s3.rules 2 rfl
 have hr3:RdS w3 11 OpT.enc (.slice a l.length c) l:=s3.rd 0 rfl
 have hbm:-9223372036854775808≤min bud 32768∧min bud 32768≤32768:=by
  have:=hb.1
  omega
 simp (disch:=first|omega|exact zF rfl|exact zG rfl|exact id|(simp only[zA,zB,zC,zD,bytesW];omega)) only[go_sem,c9S4,c9S8,q1]
 refine Ret.mono (explained_ok (ob:=ob) (kd:=kd) s3 hr3 hl hK hw hbm) ?_
 rintro _ w4 ⟨av,m,e,rfl,hask,s4⟩
 have hlow:=hask.low
 have hge:=hask.ge (B:=-9223372036854775808) (by decide) hbm.1
 simp only at hlow hge
 have q4:=s4.rules 0 rfl
 have q41:=s4.rules 2 rfl
 have q44:=s4.rules 1 rfl
 have lj:=(s4.blk 0 rfl).lt
 have l4:=(s4.blk 1 rfl).lt
 by_cases he:e=0
 ·subst he
  simp only [if_true] at s4 q4
  cases av with
  | true =>
   simp (disch:=first|omega|exact zF rfl|exact zG rfl|exact id|(simp only[zA,zB,zC,zD,bytesW];omega)) only[go_sem,c9S4,c9S7,c9S8,q4]
   refine bdW_built (cells:=#[.int .i64 0,.slice none 0 0,.int .i64 0]) (by kernel_rfl) ?_
   simp (disch:=first|omega|exact zF rfl|exact zG rfl|exact id|(simp only[zA,zB,zC,zD,bytesW];omega)) only[go_sem,c9S4,c9S7,c9S8,q44]
   have s5:=s4.fill 1 rfl (cs:=#[.int .i64 0,.slice none 0 0,.int .i64 0]) rfl
   exact ⟨⟨(none,0),.ok hask,rfl⟩,hbel s5⟩
  | false =>
   simp (disch:=first|omega|exact zF rfl|exact zG rfl|exact id|(simp only[zA,zB,zC,zD,bytesW];omega)) only[go_sem,c9S7,c9S8,q4,q41]
   refine Ret.mono (least_ok (ob:=ob) (kd:=kd) s4 List.mem_cons_self hl hn hK hw ⟨hge,by omega⟩) ?_
   rintro _ w5 ⟨m5,n5,e5,vv,more,rfl,s5,hcase⟩
   obtain ⟨va,vk,vc,hvv⟩:∃ va vk vc,vv=.slice va vk vc:=by
    rcases hcase with ⟨_,h,_⟩ | ⟨_,l',Lr,_,_,h,_⟩
    ·exact h
    ·obtain ⟨x,y,h,_⟩:=h.form
     exact ⟨_,_,_,h⟩
   subst hvv
   have s5':=s5.perm (L':=.blk pj #[.int .i64 m5,.int .i64 n5,.int .i64 e5] 59::.blk p4 #[.int .i64 0,.slice none 0 0,.int .i64 0] 28::.blk p1 #[.int .i64 ob,.int .i64 kd,.slice a l.length c] 24::more) (List.Perm.cons _ (List.perm_append_comm (l₁:=[_,_]) (l₂:=more)))
   simp (disch:=first|omega|exact zF rfl|exact zG rfl|exact id|(simp only[zA,zB,zC,zD,bytesW];omega)) only[go_sem,c9S7,c9S8]
   have s6:=s5'.box #[.int .i64 ob,.int .i64 kd,.slice va vk vc] 24
   have hb56:Below w5.heap.size w5 (w5.alloc (.cells #[.int .i64 ob,.int .i64 kd,.slice va vk vc] 24)):=(Below.refl _ _).alloc (Nat.le_refl _) _
   generalize w5.heap.size=p9 at s6 ⊢
   generalize w5.alloc (.cells #[.int .i64 ob,.int .i64 kd,.slice va vk vc] 24)=w6 at s6 hb56 ⊢
   have q69:=s6.rules 0 rfl
   have q6j:=s6.rules 1 rfl
   have l69:=(s6.blk 0 rfl).lt
   have l6j:=(s6.blk 1 rfl).lt
   have l64:=(s6.blk 2 rfl).lt
   have l61:=(s6.blk 3 rfl).lt
   have nj4:pj≠p4:=fun e=>s6.ne 1 2 rfl rfl (by decide) (k:=p4) (by simp [Res.own,e]) rfl
   have n94:p9≠p4:=fun e=>s6.ne 0 2 rfl rfl (by decide) (k:=p4) (by simp [Res.own,e]) rfl
   have n14:p1≠p4:=fun e=>s6.ne 3 2 rfl rfl (by decide) (k:=p4) (by simp [Res.own,e]) rfl
   have qd:=s6.drew.rules 1 rfl
   have qd9:=s6.drew.rules 0 rfl
   have qd4:=s6.drew.rules 2 rfl
   have qd1:=s6.drew.rules 3 rfl
   rcases hcase with ⟨he,_,hcore⟩ | ⟨he,l',Lr,hsub,hri,hrd,hcore⟩
   ·simp (disch:=first|omega|exact zF rfl|exact zG rfl|exact id|(simp only[zA,zB,zC,zD,bytesW];omega)) only[go_sem,c9S4,c9S7,c9S8,q6j,he]
    refine c9draw1 (Chg (fun i=>i=p4) _) (Chg.refl _ _) ?_
    simp (disch:=first|omega|exact zF rfl|exact zG rfl|exact id|(simp only[zA,zB,zC,zD,bytesW];omega)) only[go_sem,c9S4,c9S7,c9S8,c9D1,qd,qd4]
    refine bdW_built (cells:=#[.int .i64 0,.slice none 0 0,.int .i64 0]) (by kernel_rfl) ?_
    simp (disch:=first|omega|exact zF rfl|exact zG rfl|exact id|(simp only[zA,zB,zC,zD,bytesW];omega)) only[go_sem,c9S4,c9S7,c9S8,c9D1,qd,qd4]
    have hcf:Chg (fun i=>i=p4) w6.drew (w6.drew.fill p4 #[.int .i64 0,.slice none 0 0,.int .i64 0]):=(Chg.refl _ _).fill fun _=>rfl
    exact ⟨hcf,⟨(none,e5),.fail hask hcore he,rfl⟩,hbel (s6.drew.fill 2 rfl (cs:=#[.int .i64 0,.slice none 0 0,.int .i64 0]) rfl)⟩
   ·subst he
    simp (disch:=first|omega|exact zF rfl|exact zG rfl|exact id|(simp only[zA,zB,zC,zD,bytesW];omega)) only[go_sem,c9S4,c9S7,c9S8,q6j]
    refine c9draw2 (Chg (fun i=>i=p4) _) (Chg.refl _ _) ?_
    simp (disch:=first|omega|exact zF rfl|exact zG rfl|exact id|(simp only[zA,zB,zC,zD,bytesW];omega)) only[go_sem,c9S4,c9S7,c9S8,c9D2,qd,qd4,qd9,qd1]
    have hnl':(l'.map OpT.ID).Nodup:=hn.sublist (hsub.map _)
    have hll':=hsub.length_le
    have hrd6:=(hrd.below hb56 (by decide)).below ((Below.refl _ w6).drew) (by decide)
    refine Ret.mono (sorted_ok' hrd6 (by omega) hnl') ?_
    rintro v7 w7 ⟨⟨L7,hL7,own7⟩,b7⟩
    have hLr:=hri.one hL7
    subst hLr
    obtain ⟨xa,xc,rfl,_⟩:=own_slice own7
    have s7:=s6.drew.call b7
    have q74:=s7.rules 2 rfl
    have hc7:Chg (fun i=>i=p4) w6.drew w7:=Chg.of_below b7
    simp (disch:=first|omega|exact zF rfl|exact zG rfl|exact id|(simp only[zA,zB,zC,zD,bytesW];omega)) only[go_sem,c9S4,c9S7,c9S8,c9D2]
    refine ⟨hc7,?_⟩
    refine bdW_built (cells:=#[.int .i64 ob,.slice xa Lr.length xc,.int .i64 n5]) (by kernel_rfl) ?_
    simp (disch:=first|omega|exact zF rfl|exact zG rfl|exact id|(simp only[zA,zB,zC,zD,bytesW];omega)) only[go_sem,c9S4,c9S7,c9S8,c9D2,q74]
    have s8:=(newRow s6.drew b7 own7).fill 3 rfl (cs:=#[.int .i64 ob,.slice xa Lr.length xc,.int .i64 n5]) rfl
    exact ⟨hc7,⟨(some (Lr,n5),0),.core hask hcore,_,rfl,by rw [hp1]; exact s8.row 0 rfl⟩,hbel s8⟩
 ·rw [if_neg he] at s4 q4
  simp (disch:=first|omega|exact zF rfl|exact zG rfl|exact id|(simp only[zA,zB,zC,zD,bytesW];omega)) only[go_sem,c9S4,c9S7,c9S8,q4,he]
  refine c9draw0 (Chg (fun i=>i=p4) _) (Chg.refl _ _) ?_
  have nj4:pj≠p4:=fun e=>s4.ne 0 1 rfl rfl (by decide) (k:=p4) (by simp [Res.own,e]) rfl
  have sd:=s4.drew
  have qd:=sd.rules 0 rfl
  have qd4:=sd.rules 1 rfl
  simp (disch:=first|omega|exact zF rfl|exact zG rfl|exact id|(simp only[zA,zB,zC,zD,bytesW];omega)) only[go_sem,c9S4,c9S7,c9S8,c9D0,qd,qd4]
  refine bdW_built (cells:=#[.int .i64 0,.slice none 0 0,.int .i64 0]) (by kernel_rfl) ?_
  simp (disch:=first|omega|exact zF rfl|exact zG rfl|exact id|(simp only[zA,zB,zC,zD,bytesW];omega)) only[go_sem,c9S4,c9S7,c9S8,c9D0,qd,qd4]
  have hcf:Chg (fun i=>i=p4) w4.drew (w4.drew.fill p4 #[.int .i64 0,.slice none 0 0,.int .i64 0]):=(Chg.refl _ _).fill fun _=>rfl
  exact ⟨hcf,⟨(none,e),.err hask he,rfl⟩,hbel (s4.drew.fill 1 rfl (cs:=#[.int .i64 0,.slice none 0 0,.int .i64 0]) rfl)⟩
open Go Go.Ann Go.RowKit
theorem rob_tail{W0 w9:World}{F:Nat→Prop}{L:List Res}{I:List Inv}{p7 p2 p4 g11 un uc vn vc:Nat}{b:Bool}{left n ob kd:Int}{ua va:Option Addr}{v9 v10:Value}{l:List OpT}{Q:Post}
  (s:St W0 w9 F (.blk g11 #[.int .i64 ob,.int .i64 kd,.slice ua un uc] 24::.blk p7 #[.bool b,.int .i64 left,.int .i64 0] 63::.blk p2 #[.int .i64 ob,.int .i64 kd,.slice va vn vc] 24::.blk p4 #[.int .i64 0,.slice none 0 0,.int .i64 0] 32::L) I)
  (hr:RdS w9 11 OpT.enc (.slice ua un uc) l) (hl:l.length≤10) (hK:∀ o∈l,o.Kind=kd) (hw:∀ o∈l,o.wf) (hleft:-9223372036854775808≤left∧left≤32768) (hn:I64 (n+1))
  (hErr:∀ a m e w',e≠0→Ask ob kd l left (a,m,e)→St W0 w' F (.blk p4 #[.int .i64 0,.slice none 0 0,.int .i64 0] 32::L) I→Q .ret [(4,.pointer (some ⟨p4,0,none⟩)),(5,.bool false),(6,.int .i64 e)] w')
  (hKeep:∀ m w',Ask ob kd l left (true,m,0)→St W0 w' F (.blk p7 #[.bool true,.int .i64 m,.int .i64 0] 63::.blk p2 #[.int .i64 ob,.int .i64 kd,.slice va vn vc] 24::.blk p4 #[.int .i64 0,.slice none 0 0,.int .i64 0] 32::L) I→Q .normal [(2,.pointer (some ⟨p2,0,none⟩)),(4,.pointer (some ⟨p4,0,none⟩)),(7,.pointer (some ⟨p7,0,none⟩)),(8,.int .i64 (n+1)),(9,v9),(10,v10)] w')
  (hOut:∀ m w',Ask ob kd l left (false,m,0)→St W0 w' F (.blk p7 #[.bool false,.int .i64 m,.int .i64 0] 63::.blk p2 #[.int .i64 ob,.int .i64 kd,.slice ua un uc] 24::.blk p4 #[.int .i64 0,.slice none 0 0,.int .i64 0] 32::L) I→Q .normal [(2,.pointer (some ⟨p2,0,none⟩)),(4,.pointer (some ⟨p4,0,none⟩)),(7,.pointer (some ⟨p7,0,none⟩)),(8,.int .i64 (n+1)),(9,v9),(10,v10)] w') :
  W Tryz.prog (sg c10S4) [(2,.pointer (some ⟨p2,0,none⟩)),(4,.pointer (some ⟨p4,0,none⟩)),(7,.pointer (some ⟨p7,0,none⟩)),(8,.int .i64 n),(9,v9),(10,v10),(11,.pointer (some ⟨g11,0,none⟩))] w9 Q:=by
 have q0:=s.rules 0 rfl
 have q1:=s.rules 1 rfl
 simp (disch:=first|omega|exact zF rfl|exact zG rfl|exact id|(simp only[zA,zB,zC,zD,bytesW];omega)) only[go_sem,c10S4,c10S7,c10S8,c10S10,c10S11,q0,q1]
 refine Ret.mono (rask_ok (ob:=ob) (kd:=kd) hr hl hK hw hleft) ?_
 rintro _ w2 ⟨⟨⟨av,m,e⟩,hask,rfl⟩,b2⟩
 have s2:=s.call b2
 have r0:=s2.rules 0 rfl
 have r1:=s2.rules 1 rfl
 have r2:=s2.rules 2 rfl
 have r3:=s2.rules 3 rfl
 by_cases he:e=0
 ·subst he
  have s3:=s2.fill 1 rfl (cs:=#[.bool av,.int .i64 m,.int .i64 0]) rfl
  have ea:askV (av,m,0)=.agg #[.bool av,.int .i64 m,.int .i64 0]:=rfl
  rw [ea]
  simp (disch:=first|omega|exact zF rfl|exact zG rfl|exact id|(simp only[zA,zB,zC,zD,bytesW];omega)) only[go_sem,c10S4,c10S7,c10S8,c10S10,c10S11,r1]
  generalize w2.fill p7 #[.bool av,.int .i64 m,.int .i64 0]=w3 at s3 ⊢
  have t0:=s3.rules 0 rfl
  have t1:=s3.rules 1 rfl
  have t2:=s3.rules 2 rfl
  cases av with
  | true =>
   simp (disch:=first|omega|exact zF rfl|exact zG rfl|exact id|(simp only[zA,zB,zC,zD,bytesW];omega)) only[go_sem,c10S3,c10S4,c10S7,c10S8,c10S10,c10S11,t1]
   exact ⟨hn,hKeep m _ hask (s3.sub (List.sublist_cons_self _ _))⟩
  | false =>
   simp (disch:=first|omega|exact zF rfl|exact zG rfl|exact id|(simp only[zA,zB,zC,zD,bytesW];omega)) only[go_sem,c10S3,c10S4,c10S7,c10S8,c10S10,c10S11,t0,t1,t2]
   exact ⟨hn,hOut m _ hask ((s3.fill 2 rfl (cs:=#[.int .i64 ob,.int .i64 kd,.slice ua un uc]) rfl).sub (List.sublist_cons_self _ _))⟩
 ·have s3:=s2.fill 1 rfl (cs:=#[.bool false,.int .i64 0,.int .i64 e]) rfl
  have ea:askV (av,m,e)=.agg #[.bool false,.int .i64 0,.int .i64 e]:=by unfold askV; simp only [if_neg he]
  rw [ea]
  simp (disch:=first|omega|exact zF rfl|exact zG rfl|exact id|(simp only[zA,zB,zC,zD,bytesW];omega)) only[go_sem,c10S4,c10S7,c10S8,c10S10,c10S11,r1]
  generalize w2.fill p7 #[.bool false,.int .i64 0,.int .i64 e]=w3 at s3 ⊢
  have t1:=s3.rules 1 rfl
  have l1:=(s3.blk 1 rfl).lt
  have l3:=(s3.blk 3 rfl).lt
  have n74:p7≠p4:=fun e=>s3.ne 1 3 rfl rfl (by decide) (k:=p4) (by simp [Res.own,e]) rfl
  have qd:=s3.drew.rules 1 rfl
  have qd4:=s3.drew.rules 3 rfl
  simp (disch:=first|omega|exact zF rfl|exact zG rfl|exact id|(simp only[zA,zB,zC,zD,bytesW];omega)) only[go_sem,c10S3,c10S4,c10S7,c10S8,c10S10,c10S11,t1,he]
  refine ⟨hn,?_⟩
  refine c10draw2 (Chg (fun i=>i=p4) _) (Chg.refl _ _) ?_
  simp (disch:=first|omega|exact zF rfl|exact zG rfl|exact id|(simp only[zA,zB,zC,zD,bytesW];omega)) only[go_sem,c10S3,c10S4,c10S7,c10S8,c10S10,c10S11,c10D2,qd,qd4]
  refine bdW_built (cells:=#[.int .i64 0,.slice none 0 0,.int .i64 0]) (by kernel_rfl) ?_
  have hcf:Chg (fun i=>i=p4) w3.drew (w3.drew.fill p4 #[.int .i64 0,.slice none 0 0,.int .i64 0]):=(Chg.refl _ _).fill fun _=>rfl
  simp (disch:=first|omega|exact zF rfl|exact zG rfl|exact id|(simp only[zA,zB,zC,zD,bytesW];omega)) only[go_sem,c10S3,c10S4,c10S7,c10S8,c10S10,c10S11,c10D2,qd,qd4]
  exact ⟨hcf,hErr av m e _ he hask ((s3.drew.fill 3 rfl (cs:=#[.int .i64 0,.slice none 0 0,.int .i64 0]) rfl).sub (.cons _ (.cons _ (.cons _ (List.Sublist.refl _)))))⟩
structure OutR(W0:World)(I:List Inv)(ob kd:Int)(l:List OpT)(left:Int)(y:MidS):Prop where
 has:Has W0 I y.more y.v y.l
 sub:y.l.Sublist l
 lo:-9223372036854775808≤y.left
 hi:y.left≤32768
 n1:0≤y.n
 n2:y.n+10 * (y.l.length+1)≤110
 go:∀ x,CoreR ob kd y.l y.left y.n x→CoreR ob kd l left 0 x
theorem robject_ok{w:World}{bud ob kd:Int}{v:Value}{l:List OpT}(hr:RdS w 11 OpT.enc v l)(hl:l.length≤10)(hn:(l.map OpT.ID).Nodup)(hK:∀ o∈l,o.Kind=kd)(hw:∀ o∈l,o.wf)(hb:I64 bud) :
  Ret Tryz.prog 10 [.agg #[.int .i64 ob,.int .i64 kd,v],.int .i64 bud] w fun u w'=>(∃ r,ObjR ob kd l bud r∧ObjV w.heap.size w' ob r u)∧Below w.heap.size w w':=by
 obtain ⟨a,c,rfl,_⟩:=hr.form
 refine ent10 _ _ _ _ ?_
 have s2:=((startI hr).box #[.int .i64 ob,.int .i64 kd,.slice a l.length c] 24).box #[.int .i64 0,.slice none 0 0,.int .i64 0] 32
 rw [World.size_alloc] at s2
 have hbm:-9223372036854775808≤min bud 32768∧min bud 32768≤32768:=by
  have:=hb.1
  omega
 have step:W Tryz.prog (sg c10S11) [(1,.int .i64 (min bud 32768)),(2,.pointer (some ⟨w.heap.size,0,none⟩)),(4,.pointer (some ⟨w.heap.size+1,0,none⟩))] ((w.alloc (.cells #[.int .i64 ob,.int .i64 kd,.slice a l.length c] 24)).alloc (.cells #[.int .i64 0,.slice none 0 0,.int .i64 0] 32)) (finQ Tryz.prog [.cell 4 32,.tmp 5,.tmp 6] fun u w'=>(∃ r,ObjR ob kd l bud r∧ObjV w.heap.size w' ob r u)∧Below w.heap.size w w'):=by
  have hbel:∀ {w':World} {F:Nat→Prop} {L:List Res} {I:List Inv},St w w' F L I→Below w.heap.size w w':=fun h=>h.bel
  generalize (w.alloc (.cells #[.int .i64 ob,.int .i64 kd,.slice a l.length c] 24)).alloc (.cells #[.int .i64 0,.slice none 0 0,.int .i64 0] 32)=w2 at s2 ⊢
  generalize w.heap.size+1=p4 at s2 ⊢
  obtain ⟨p2,hp2⟩:∃ p,p=w.heap.size:=⟨_,rfl⟩
  rw [← hp2] at hbel ⊢
  rw [← hp2] at s2
  have q1:=s2.rules 1 rfl
  have hr2:RdS w2 11 OpT.enc (.slice a l.length c) l:=s2.rd 0 rfl
  simp (disch:=first|omega|exact zF rfl|exact zG rfl|exact id|(simp only[zA,zB,zC,zD,bytesW];omega)) only[go_sem,c10S3,c10S4,c10S7,c10S8,c10S11,q1]
  refine Ret.mono (rask_ok (ob:=ob) (kd:=kd) hr2 hl hK hw hbm) ?_
  rintro _ w3 ⟨⟨⟨av,m,e⟩,hask,rfl⟩,b3⟩
  have hlow:=hask.low
  have hge:=hask.ge (B:=-9223372036854775808) (by decide) hbm.1
  simp only at hlow hge
  have fin0:∀ (av:Bool) (m:Int),(e≠0∨av=true)→ObjR ob kd l bud (none,e)→St w (w3.alloc (.cells #[.bool av,.int .i64 m,.int .i64 e] 63)) (fun _=>False) (.blk w3.heap.size #[.bool av,.int .i64 m,.int .i64 e] 63::.blk p4 #[.int .i64 0,.slice none 0 0,.int .i64 0] 32::[.blk p2 #[.int .i64 ob,.int .i64 kd,.slice a l.length c] 24]) [.rd 11 OpT.enc (.slice a l.length c) l]→W Tryz.prog (sg c10S10) [(2,.pointer (some ⟨p2,0,none⟩)),(4,.pointer (some ⟨p4,0,none⟩)),(7,.pointer (some ⟨w3.heap.size,0,none⟩))] (w3.alloc (.cells #[.bool av,.int .i64 m,.int .i64 e] 63)) (finQ Tryz.prog [.cell 4 32,.tmp 5,.tmp 6] fun u w'=>(∃ r,ObjR ob kd l bud r∧ObjV p2 w' ob r u)∧Below p2 w w'):=by
   intro av m hc hobj s4
   generalize w3.alloc (.cells #[.bool av,.int .i64 m,.int .i64 e] 63)=w4 at s4 ⊢
   generalize w3.heap.size=p7 at s4 ⊢
   have t0:=s4.rules 0 rfl
   have l1:=(s4.blk 0 rfl).lt
   have l3:=(s4.blk 1 rfl).lt
   have n74:p7≠p4:=fun e=>s4.ne 0 1 rfl rfl (by decide) (k:=p4) (by simp [Res.own,e]) rfl
   have qd:=s4.drew.rules 0 rfl
   have qd4:=s4.drew.rules 1 rfl
   by_cases he:e=0
   ·subst he
    have hav:av=true:=hc.resolve_left fun h=>h rfl
    subst hav
    simp (disch:=first|omega|exact zF rfl|exact zG rfl|exact id|(simp only[zA,zB,zC,zD,bytesW];omega)) only[go_sem,c10S3,c10S4,c10S7,c10S8,c10S10,c10S11,t0]
    refine c10draw0 (Chg (fun i=>i=p4) _) (Chg.refl _ _) ?_
    have hcf:Chg (fun i=>i=p4) w4.drew (w4.drew.fill p4 #[.int .i64 0,.slice none 0 0,.int .i64 0]):=(Chg.refl _ _).fill fun _=>rfl
    simp (disch:=first|omega|exact zF rfl|exact zG rfl|exact id|(simp only[zA,zB,zC,zD,bytesW];omega)) only[go_sem,c10S3,c10S4,c10S7,c10S8,c10S10,c10S11,c10D0,qd,qd4]
    refine bdW_built (cells:=#[.int .i64 0,.slice none 0 0,.int .i64 0]) (by kernel_rfl) ?_
    simp (disch:=first|omega|exact zF rfl|exact zG rfl|exact id|(simp only[zA,zB,zC,zD,bytesW];omega)) only[go_sem,c10S3,c10S4,c10S7,c10S8,c10S10,c10S11,c10D0,qd,qd4]
    exact ⟨hcf,⟨(none,_),hobj,rfl⟩,hbel (s4.drew.fill 1 rfl (cs:=#[.int .i64 0,.slice none 0 0,.int .i64 0]) rfl)⟩
   ·simp (disch:=first|omega|exact zF rfl|exact zG rfl|exact id|(simp only[zA,zB,zC,zD,bytesW];omega)) only[go_sem,c10S3,c10S4,c10S7,c10S8,c10S10,c10S11,t0,he]
    refine c10draw0 (Chg (fun i=>i=p4) _) (Chg.refl _ _) ?_
    have hcf:Chg (fun i=>i=p4) w4.drew (w4.drew.fill p4 #[.int .i64 0,.slice none 0 0,.int .i64 0]):=(Chg.refl _ _).fill fun _=>rfl
    simp (disch:=first|omega|exact zF rfl|exact zG rfl|exact id|(simp only[zA,zB,zC,zD,bytesW];omega)) only[go_sem,c10S3,c10S4,c10S7,c10S8,c10S10,c10S11,c10D0,qd,qd4]
    refine bdW_built (cells:=#[.int .i64 0,.slice none 0 0,.int .i64 0]) (by kernel_rfl) ?_
    simp (disch:=first|omega|exact zF rfl|exact zG rfl|exact id|(simp only[zA,zB,zC,zD,bytesW];omega)) only[go_sem,c10S3,c10S4,c10S7,c10S8,c10S10,c10S11,c10D0,qd,qd4]
    exact ⟨hcf,⟨(none,_),hobj,rfl⟩,hbel (s4.drew.fill 1 rfl (cs:=#[.int .i64 0,.slice none 0 0,.int .i64 0]) rfl)⟩
  by_cases he:e=0
  ·subst he
   have ea:askV (av,m,0)=.agg #[.bool av,.int .i64 m,.int .i64 0]:=rfl
   rw [ea]
   simp (disch:=first|omega|exact zF rfl|exact zG rfl|exact id|(simp only[zA,zB,zC,zD,bytesW];omega)) only[go_sem,c10S3,c10S4,c10S7,c10S8,c10S11]
   have s4:=(s2.call b3).box #[.bool av,.int .i64 m,.int .i64 0] 63
   cases av with
   | true=>exact fin0 _ _ (.inr rfl) (.ok hask) s4
   | false =>
    generalize w3.alloc (.cells #[.bool false,.int .i64 m,.int .i64 0] 63)=w4 at s4 ⊢
    generalize w3.heap.size=p7 at s4 ⊢
    have t0:=s4.rules 0 rfl
    simp (disch:=first|omega|exact zF rfl|exact zG rfl|exact id|(simp only[zA,zB,zC,zD,bytesW];omega)) only[go_sem,c10S3,c10S4,c10S7,c10S8,c10S10,c10S11,t0]
    have s5:=s4.perm (L':=.blk p7 #[.bool false,.int .i64 m,.int .i64 0] 63::.blk p2 #[.int .i64 ob,.int .i64 kd,.slice a l.length c] 24::.blk p4 #[.int .i64 0,.slice none 0 0,.int .i64 0] 32::[]) (List.Perm.cons _ (List.Perm.swap _ _ _))
    refine W_loopU (fun x:Bool × MidS=>[(8,.int .i64 x.2.n)]) (fun x w'=>St w w' (fun _=>False) (.blk p7 #[.bool x.1,.int .i64 x.2.left,.int .i64 0] 63::.blk p2 #[.int .i64 ob,.int .i64 kd,x.2.v] 24::.blk p4 #[.int .i64 0,.slice none 0 0,.int .i64 0] 32::x.2.more) [.rd 11 OpT.enc (.slice a l.length c) l]∧OutR w [.rd 11 OpT.enc (.slice a l.length c) l] ob kd l m x.2) (fun x=>x.2.l.length) (false,⟨.slice a l.length c,l,m,0,[]⟩) rfl ⟨s5,⟨Has.inv List.mem_cons_self,List.Sublist.refl _,hge,by simp only; omega,Int.le_refl _,by simp only; omega,fun x h=>h⟩⟩ ?_
    rintro ⟨b,⟨v1,l1,left1,n1,more1⟩⟩ w5 ⟨s6,o1⟩
    simp only at s6
    have hr5:RdS w5 11 OpT.enc v1 l1:=o1.has w5 _ _ (fun r hr=>by simp only [List.mem_cons]; exact .inr (.inr (.inr hr))) s6
    obtain ⟨a1,c1,rfl,_⟩:=hr5.form
    have hl1:l1.length≤l.length:=o1.sub.length_le
    have hn1:(l1.map OpT.ID).Nodup:=hn.sublist (o1.sub.map _)
    have q2:=s6.rules 1 rfl
    simp (disch:=first|omega|exact zF rfl|exact zG rfl|exact id|(simp only[zA,zB,zC,zD,bytesW];omega)) only[go_sem,c10S3,c10S4,c10S7,c10S10,c10S11,q2]
    refine Ret.mono (byid_ok hr5 (by omega) hn1) ?_
    rintro lv w6 ⟨⟨L0,hL0,own6⟩,b6⟩
    have s7:=newRow s6 b6 own6
    obtain ⟨la,lc,rfl,_⟩:=own_slice own6
    have hlen:L0.length=l1.length:=hL0.1.length_eq
    simp (disch:=first|omega|exact zF rfl|exact zG rfl|exact id|(simp only[zA,zB,zC,zD,bytesW];omega)) only[go_sem,c10S3,c10S4,c10S8,c10S10,c10S11]
    refine ⟨⟨by omega,by omega⟩,?_⟩
    have s8:=s7.perm (L':=.blk p7 #[.bool b,.int .i64 left1,.int .i64 0] 63::.blk p2 #[.int .i64 ob,.int .i64 kd,.slice a1 l1.length c1] 24::.blk p4 #[.int .i64 0,.slice none 0 0,.int .i64 0] 32::.row (.slice la L0.length lc) 38 11 L0.length (L0.flatMap OpT.enc)::more1) (List.Perm.append_right more1 (List.perm_append_comm (l₁:=[_,_,_]) (l₂:=[_])))
    refine W_loopU (fun x:Int × Nat × Bool × MidS=>[(8,.int .i64 x.2.2.2.n),(10,.int .i64 x.1)]) (fun x w'=>St w w' (fun _=>False) (.blk p7 #[.bool x.2.2.1,.int .i64 x.2.2.2.left,.int .i64 0] 63::.blk p2 #[.int .i64 ob,.int .i64 kd,x.2.2.2.v] 24::.blk p4 #[.int .i64 0,.slice none 0 0,.int .i64 0] 32::.row (.slice la L0.length lc) 38 11 L0.length (L0.flatMap OpT.enc)::x.2.2.2.more) [.rd 11 OpT.enc (.slice a l.length c) l]∧x.1=(L0.length:Int) - 1 - x.2.1∧x.2.1≤L0.length∧Mid w [.rd 11 OpT.enc (.slice a l.length c) l] ob kd (L0.map OpT.ID) l1 left1 n1 x.2.2.2.v x.2.2.2.l x.2.2.2.left x.2.2.2.n x.2.2.2.more x.2.1) (fun x=>L0.length - x.2.1) ((L0.length:Int) - 1,0,b,⟨.slice a1 l1.length c1,l1,left1,n1,more1⟩) rfl ⟨s8,by simp,Nat.zero_le _,⟨o1.has,List.Sublist.refl _,o1.lo,o1.hi,Int.le_refl _,by simp only; omega,fun x h=>h⟩⟩ ?_
    rintro ⟨i,k,b2,⟨yv,yl,yleft,yn,ymore⟩⟩ w8 ⟨s9,hi,hk,hm⟩
    simp only at s9 hi hk
    have hm:Mid w [.rd 11 OpT.enc (.slice a l.length c) l] ob kd (L0.map OpT.ID) l1 left1 n1 yv yl yleft yn ymore k:=hm
    have hr8:RdS w8 11 OpT.enc yv yl:=hm.has w8 _ _ (fun r hr=>by simp only [List.mem_cons]; exact .inr (.inr (.inr (.inr hr)))) s9
    obtain ⟨ya,yc,rfl,_⟩:=hr8.form
    have hyl:yl.length≤10:=by have:=hm.sub.length_le; omega
    have on2:n1+10 * (l1.length+1)≤110:=o1.n2
    have on1:0≤n1:=o1.n1
    have mn1:=hm.n1
    have mn2:=hm.n2
    by_cases hlt:k<L0.length
    ·have h1:i ≥ 0:=by omega
     obtain ⟨nn,rfl⟩:∃ nn:Nat,i=nn:=⟨i.toNat,by omega⟩
     have hnn:nn=L0.length - 1 - k:=by omega
     have hnl:nn<L0.length:=by omega
     have hnl':(nn:Int)<L0.length:=by omega
     have hrL:RdS w8 11 OpT.enc (.slice la L0.length lc) L0:=RdS.of_own (s9.row 3 rfl)
     obtain ⟨q,rfl⟩:=hrL.ptr (by omega)
     have ekd:=hrL.eltB ((Below.refl _ w8).drew) OpT.len (by decide) hnl
     have qd2:=s9.drew.rules 1 rfl
     have l2:=(s9.blk 1 rfl).lt
     have aL:=L0[nn].at
     have hrest:(L0.map OpT.ID).reverse.drop k=L0[nn].ID::(L0.map OpT.ID).reverse.drop (k+1):=by
      rw [List.drop_eq_getElem_cons (by simp; exact hlt),List.getElem_reverse,List.getElem_map]
      congr 2
      simp only [List.length_map]
      congr 1
      omega
     have hhi:yleft≤32768:=hm.hi
     have lq:q.block<w8.heap.size:=by
      have:=World.block_lt_of_cell? w8.drew _ (ekd.1.trans aL.1)
      rwa [add_block] at this
     have fin:∀ {w9:World} {g11 uc:Nat} {ua:Option Addr} {Q:Post},St w w9 (fun _=>False) (.blk g11 #[.int .i64 ob,.int .i64 kd,.slice ua (wo yl L0[nn].ID).length uc] 24::.blk p7 #[.bool b2,.int .i64 yleft,.int .i64 0] 63::.blk p2 #[.int .i64 ob,.int .i64 kd,.slice ya yl.length yc] 24::.blk p4 #[.int .i64 0,.slice none 0 0,.int .i64 0] 32::.row (.slice ua (wo yl L0[nn].ID).length uc) 38 11 (wo yl L0[nn].ID).length ((wo yl L0[nn].ID).flatMap OpT.enc)::.row (.slice (some q) L0.length lc) 38 11 L0.length (L0.flatMap OpT.enc)::ymore) [.rd 11 OpT.enc (.slice a l.length c) l] →
       (∀ e w',ObjR ob kd l bud (none,e)→St w w' (fun _=>False) (.blk p4 #[.int .i64 0,.slice none 0 0,.int .i64 0] 32::.row (.slice ua (wo yl L0[nn].ID).length uc) 38 11 (wo yl L0[nn].ID).length ((wo yl L0[nn].ID).flatMap OpT.enc)::.row (.slice (some q) L0.length lc) 38 11 L0.length (L0.flatMap OpT.enc)::ymore) [.rd 11 OpT.enc (.slice a l.length c) l]→Q .ret [(4,.pointer (some ⟨p4,0,none⟩)),(5,.bool false),(6,.int .i64 e)] w') →
       (∀ (b:Bool) (y:MidS) w',y.n=yn+1→St w w' (fun _=>False) (.blk p7 #[.bool b,.int .i64 y.left,.int .i64 0] 63::.blk p2 #[.int .i64 ob,.int .i64 kd,y.v] 24::.blk p4 #[.int .i64 0,.slice none 0 0,.int .i64 0] 32::.row (.slice (some q) L0.length lc) 38 11 L0.length (L0.flatMap OpT.enc)::y.more) [.rd 11 OpT.enc (.slice a l.length c) l]→Mid w [.rd 11 OpT.enc (.slice a l.length c) l] ob kd (L0.map OpT.ID) l1 left1 n1 y.v y.l y.left y.n y.more (k+1)→Q .normal [(2,.pointer (some ⟨p2,0,none⟩)),(4,.pointer (some ⟨p4,0,none⟩)),(7,.pointer (some ⟨p7,0,none⟩)),(8,.int .i64 y.n),(9,.slice (some q) L0.length lc),(10,.int .i64 nn)] w') →
       W Tryz.prog (sg c10S4) [(2,.pointer (some ⟨p2,0,none⟩)),(4,.pointer (some ⟨p4,0,none⟩)),(7,.pointer (some ⟨p7,0,none⟩)),(8,.int .i64 yn),(9,.slice (some q) L0.length lc),(10,.int .i64 nn),(11,.pointer (some ⟨g11,0,none⟩))] w9 Q:=by
      intro w9 g11 uc ua Q s10 hret hnorm
      have hsub:∀ o∈wo yl L0[nn].ID,o∈l:=fun o ho=>o1.sub.subset (hm.sub.subset (List.mem_filter.1 ho).1)
      refine rob_tail s10 (RdS.of_own (s10.row 4 rfl)) (Nat.le_trans (wo_len_le _ _) hyl) (fun o ho=>hK o (hsub o ho)) (fun o ho=>hw o (hsub o ho)) ⟨hm.lo,hm.hi⟩ ⟨by omega,by omega⟩ (fun a2 m2 e2 w' he2 hask2 s'=>?_) (fun m2 w' hask2 s'=>?_) (fun m2 w' hask2 s'=>?_)
      ·refine hret e2 w' (.fail hask (o1.go _ (.err hL0 (hm.all (yl,m2,yn+1,e2) ?_) he2)) he2) s'
       rw [hrest]
       exact .err hask2 he2
      ·have hl2:=hask2.low
       have hg2:=hask2.ge (B:=-9223372036854775808) (by decide) hm.lo
       simp only at hl2 hg2
       refine hnorm true ⟨.slice ya yl.length yc,yl,m2,yn+1,ymore⟩ w' rfl (s'.sub (.cons_cons _ (.cons_cons _ (.cons_cons _ (.cons _ (List.Sublist.refl _)))))) ⟨hm.has,hm.sub,hg2,by simp only; omega,by simp only; omega,by simp only; omega,fun x hx=>hm.all x ?_⟩
       rw [hrest]
       exact .keep hask2 hx
      ·have hl2:=hask2.low
       have hg2:=hask2.ge (B:=-9223372036854775808) (by decide) hm.lo
       simp only at hl2 hg2
       refine hnorm false ⟨.slice ua (wo yl L0[nn].ID).length uc,wo yl L0[nn].ID,m2,yn+1,[.row (.slice ua (wo yl L0[nn].ID).length uc) 38 11 (wo yl L0[nn].ID).length ((wo yl L0[nn].ID).flatMap OpT.enc)]⟩ w' rfl ?_ ⟨Has.row,List.filter_sublist.trans hm.sub,hg2,by simp only; omega,by simp only; omega,by simp only; omega,fun x hx=>hm.all x ?_⟩
       ·refine (s'.sub (L':=_::_::_::_::_::[]) (.cons_cons _ (.cons_cons _ (.cons_cons _ (.cons_cons _ (.cons_cons _ (List.nil_sublist _))))))).perm ?_
        exact List.Perm.cons _ (List.Perm.cons _ (List.Perm.cons _ (List.Perm.swap _ _ _)))
       ·rw [hrest]
        exact .out hask2 hx
     simp (disch:=first|omega|exact zF rfl|exact zG rfl|exact id|(simp only[zA,zB,zC,zD,bytesW];omega)) only[go_sem,c10S3,c10S4,c10S7,c10S8,c10S10,c10S11,h1]
     refine c10draw1 (Chg (fun _=>False) _) (Chg.refl _ _) ?_
     have hrd:RdS w8.drew 11 OpT.enc (.slice ya yl.length yc) yl:=hr8.below ((Below.refl _ w8).drew) (by decide)
     simp (disch:=first|omega|exact zF rfl|exact zG rfl|exact id|(simp only[zA,zB,zC,zD,bytesW];omega)) only[go_sem,c10S3,c10S7,c10S8,c10S10,c10S11,c10D1,qd2,ekd,aL,hnl']
     refine ⟨by omega,?_,?_,?_⟩
     ·refine Ret.mono (without_ref L0[nn].ID hrd (by omega)) ?_
      rintro uv w9 ⟨own9,b9⟩
      obtain ⟨ua,uc,rfl,_⟩:=own_slice own9
      have hc9:Chg (fun _=>False) w8.drew w9:=Chg.of_below b9
      have s10:=newRow s9.drew b9 own9
      simp (disch:=first|omega|exact zF rfl|exact zG rfl|exact id|(simp only[zA,zB,zC,zD,bytesW];omega)) only[go_sem,c10S3,c10S7,c10S8,c10S10,c10S11,c10D1]
      refine ⟨hc9,bdW_built (cells:=#[.int .i64 ob,.int .i64 kd,.slice ua (wo yl L0[nn].ID).length uc]) (by kernel_rfl) ?_,hc9.alloc _,bdW_built (cells:=#[.int .i64 ob,.int .i64 kd,.slice ua (wo yl L0[nn].ID).length uc]) (by kernel_rfl) ?_⟩
      ·simp (disch:=first|omega|exact zF rfl|exact zG rfl|exact id|(simp only[zA,zB,zC,zD,bytesW];omega)) only[go_sem,c10S3,c10S7,c10S8,c10S10,c10S11,c10D1]
       have s11:=(s10.box #[.int .i64 ob,.int .i64 kd,.slice ua (wo yl L0[nn].ID).length uc] 24).perm (L':=.blk w9.heap.size #[.int .i64 ob,.int .i64 kd,.slice ua (wo yl L0[nn].ID).length uc] 24::.blk p7 #[.bool b2,.int .i64 yleft,.int .i64 0] 63::.blk p2 #[.int .i64 ob,.int .i64 kd,.slice ya yl.length yc] 24::.blk p4 #[.int .i64 0,.slice none 0 0,.int .i64 0] 32::.row (.slice ua (wo yl L0[nn].ID).length uc) 38 11 (wo yl L0[nn].ID).length ((wo yl L0[nn].ID).flatMap OpT.enc)::.row (.slice (some q) L0.length lc) 38 11 L0.length (L0.flatMap OpT.enc)::ymore) (List.Perm.cons _ (List.perm_middle (l₁:=[_,_,_]) (l₂:=_::ymore)))
       refine ⟨hc9,hc9.alloc _,hc9.alloc _,?_⟩
       refine fin s11 (fun e w' h1 h2=>?_) (fun b3 y w' h1 h2 h3=>?_)
       ·have h4:=h2.rules 0 rfl
        simp (disch:=first|omega|exact zF rfl|exact zG rfl|exact id|(simp only[zA,zB,zC,zD,bytesW];omega)) only[go_sem,c10S3,c10S4,c10S7,c10S8,c10S10,c10S11,h4]
        exact ⟨⟨(none,e),‹_›,rfl⟩,hbel h2⟩
       ·obtain ⟨zv,zl,zleft,zn,zmore⟩:=y
        simp only at h1 h2
        subst h1
        simp (disch:=first|omega|exact zF rfl|exact zG rfl|exact id|(simp only[zA,zB,zC,zD,bytesW];omega)) only[go_sem,c10S3,c10S4,c10S7,c10S8,c10S10,c10S11]
        exact ⟨⟨by omega,by omega⟩,((nn:Int) - 1,k+1,b3,⟨zv,zl,zleft,yn+1,zmore⟩),rfl,⟨h2,by simp only; omega,hlt,h3⟩,by simp only; omega⟩
      ·simp (disch:=first|omega|exact zF rfl|exact zG rfl|exact id|(simp only[zA,zB,zC,zD,bytesW];omega)) only[go_sem,c10S3,c10S7,c10S8,c10S10,c10S11,c10D1]
       have s11:=(s10.box #[.int .i64 ob,.int .i64 kd,.slice ua (wo yl L0[nn].ID).length uc] 24).perm (L':=.blk w9.heap.size #[.int .i64 ob,.int .i64 kd,.slice ua (wo yl L0[nn].ID).length uc] 24::.blk p7 #[.bool b2,.int .i64 yleft,.int .i64 0] 63::.blk p2 #[.int .i64 ob,.int .i64 kd,.slice ya yl.length yc] 24::.blk p4 #[.int .i64 0,.slice none 0 0,.int .i64 0] 32::.row (.slice ua (wo yl L0[nn].ID).length uc) 38 11 (wo yl L0[nn].ID).length ((wo yl L0[nn].ID).flatMap OpT.enc)::.row (.slice (some q) L0.length lc) 38 11 L0.length (L0.flatMap OpT.enc)::ymore) (List.Perm.cons _ (List.perm_middle (l₁:=[_,_,_]) (l₂:=_::ymore)))
       refine ⟨hc9.alloc _,hc9.alloc _,?_⟩
       refine fin s11 (fun e w' h1 h2=>?_) (fun b3 y w' h1 h2 h3=>?_)
       ·have h4:=h2.rules 0 rfl
        simp (disch:=first|omega|exact zF rfl|exact zG rfl|exact id|(simp only[zA,zB,zC,zD,bytesW];omega)) only[go_sem,c10S3,c10S4,c10S7,c10S8,c10S10,c10S11,h4]
        exact ⟨⟨(none,e),‹_›,rfl⟩,hbel h2⟩
       ·obtain ⟨zv,zl,zleft,zn,zmore⟩:=y
        simp only at h1 h2
        subst h1
        simp (disch:=first|omega|exact zF rfl|exact zG rfl|exact id|(simp only[zA,zB,zC,zD,bytesW];omega)) only[go_sem,c10S3,c10S4,c10S7,c10S8,c10S10,c10S11]
        exact ⟨⟨by omega,by omega⟩,((nn:Int) - 1,k+1,b3,⟨zv,zl,zleft,yn+1,zmore⟩),rfl,⟨h2,by simp only; omega,hlt,h3⟩,by simp only; omega⟩
     ·exact (Chg.refl (fun _=>False) w8.drew).alloc _
     ·have s9b:=(s9.box #[.int .i64 0,.int .i64 0,.slice none 0 0] 24).drew
      have hrb:RdS (w8.alloc (.cells #[.int .i64 0,.int .i64 0,.slice none 0 0] 24)).drew 11 OpT.enc (.slice ya yl.length yc) yl:=hr8.below (((Below.refl _ w8).alloc (Nat.le_refl _) _).drew) (by decide)
      have hcb:Chg (fun _=>False) w8.drew (w8.alloc (.cells #[.int .i64 0,.int .i64 0,.slice none 0 0] 24)).drew:=(Chg.refl (fun _=>False) w8.drew).alloc _
      have hzb:w8.drew.heap.size=w8.heap.size:=rfl
      generalize hg11:w8.heap.size=g11 at s9b ⊢
      generalize (w8.alloc (.cells #[.int .i64 0,.int .i64 0,.slice none 0 0] 24)).drew=wb at s9b hrb hcb ⊢
      refine Ret.mono (without_ref L0[nn].ID hrb (by omega)) ?_
      rintro uv w9 ⟨own9,b9⟩
      obtain ⟨ua,uc,rfl,_⟩:=own_slice own9
      have hc9:Chg (fun _=>False) w8.drew w9:=hcb.trans (Chg.of_below b9)
      have s10:=newRow s9b b9 own9
      have t11:=s10.rules 1 rfl
      simp (disch:=first|omega|exact zF rfl|exact zG rfl|exact id|(simp only[zA,zB,zC,zD,bytesW];omega)) only[go_sem,c10S3,c10S7,c10S8,c10S10,c10S11,c10D1]
      refine ⟨hc9,?_⟩
      refine bdW_built (cells:=#[.int .i64 ob,.int .i64 kd,.slice ua (wo yl L0[nn].ID).length uc]) (by kernel_rfl) ?_
      simp (disch:=first|omega|exact zF rfl|exact zG rfl|exact id|(simp only[zA,zB,zC,zD,bytesW];omega)) only[go_sem,c10S3,c10S7,c10S8,c10S10,c10S11,c10D1,t11]
      have s11:=(s10.fill 1 rfl (cs:=#[.int .i64 ob,.int .i64 kd,.slice ua (wo yl L0[nn].ID).length uc]) rfl).perm (L':=.blk g11 #[.int .i64 ob,.int .i64 kd,.slice ua (wo yl L0[nn].ID).length uc] 24::.blk p7 #[.bool b2,.int .i64 yleft,.int .i64 0] 63::.blk p2 #[.int .i64 ob,.int .i64 kd,.slice ya yl.length yc] 24::.blk p4 #[.int .i64 0,.slice none 0 0,.int .i64 0] 32::.row (.slice ua (wo yl L0[nn].ID).length uc) 38 11 (wo yl L0[nn].ID).length ((wo yl L0[nn].ID).flatMap OpT.enc)::.row (.slice (some q) L0.length lc) 38 11 L0.length (L0.flatMap OpT.enc)::ymore) (List.perm_middle (l₁:=[_,_,_,_]) (l₂:=_::ymore))
      have h69:Chg (fun _=>False) w8.drew (w9.fill g11 #[.int .i64 ob,.int .i64 kd,.slice ua (wo yl L0[nn].ID).length uc]):=hc9.next ((Chg.refl (fun i=>i=g11) w9).fill fun _=>rfl) fun i hi e=>by omega
      refine ⟨hc9,h69,?_⟩
      refine fin s11 (fun e w' h1 h2=>?_) (fun b3 y w' h1 h2 h3=>?_)
      ·have h4:=h2.rules 0 rfl
       simp (disch:=first|omega|exact zF rfl|exact zG rfl|exact id|(simp only[zA,zB,zC,zD,bytesW];omega)) only[go_sem,c10S3,c10S4,c10S7,c10S8,c10S10,c10S11,h4]
       exact ⟨⟨(none,e),‹_›,rfl⟩,hbel h2⟩
      ·obtain ⟨zv,zl,zleft,zn,zmore⟩:=y
       simp only at h1 h2
       subst h1
       simp (disch:=first|omega|exact zF rfl|exact zG rfl|exact id|(simp only[zA,zB,zC,zD,bytesW];omega)) only[go_sem,c10S3,c10S4,c10S7,c10S8,c10S10,c10S11]
       exact ⟨⟨by omega,by omega⟩,((nn:Int) - 1,k+1,b3,⟨zv,zl,zleft,yn+1,zmore⟩),rfl,⟨h2,by simp only; omega,hlt,h3⟩,by simp only; omega⟩
    ·have h1:¬ i ≥ 0:=by omega
     obtain rfl:k=L0.length:=by omega
     have t2:=s9.rules 1 rfl
     have t4:=s9.rules 2 rfl
     by_cases he:yl.length=L0.length
     ·have he':(yl.length:Int)=L0.length:=by omega
      simp (disch:=first|omega|exact zF rfl|exact zG rfl|exact id|(simp only[zA,zB,zC,zD,bytesW];omega)) only[go_sem,c10S3,c10S4,c10S7,c10S8,c10S10,c10S11,h1,t2,he']
      refine bdW_built (cells:=#[.int .i64 ob,.slice la L0.length lc,.int .i64 yn]) (by kernel_rfl) ?_
      simp (disch:=first|omega|exact zF rfl|exact zG rfl|exact id|(simp only[zA,zB,zC,zD,bytesW];omega)) only[go_sem,c10S3,c10S4,c10S7,c10S8,c10S10,c10S11,t4]
      have hround:RoundR ob kd (L0.map OpT.ID).reverse l1 left1 n1 (yl,yleft,yn,0):=by
       refine hm.all _ ?_
       rw [List.drop_eq_nil_of_le (by simp)]
       exact .nil
      have s10:=s9.fill 2 rfl (cs:=#[.int .i64 ob,.slice la L0.length lc,.int .i64 yn]) rfl
      exact ⟨⟨(some (L0,yn),0),.core hask (o1.go _ (.done hL0 hround (by rw [he,hlen]))),_,rfl,by rw [hp2]; exact s10.row 3 rfl⟩,hbel s10⟩
     ·have he':¬ (yl.length:Int)=L0.length:=by omega
      simp (disch:=first|omega|exact zF rfl|exact zG rfl|exact id|(simp only[zA,zB,zC,zD,bytesW];omega)) only[go_sem,c10S3,c10S4,c10S7,c10S8,c10S10,c10S11,h1,t2,he']
      have hround:RoundR ob kd (L0.map OpT.ID).reverse l1 left1 n1 (yl,yleft,yn,0):=by
       refine hm.all _ ?_
       rw [List.drop_eq_nil_of_le (by simp)]
       exact .nil
      have hsl:=hm.sub.length_le
      have hlt2:yl.length<l1.length:=by omega
      refine ⟨(b2,⟨.slice ya yl.length yc,yl,yleft,yn,ymore⟩),rfl,⟨s9.sub (.cons_cons _ (.cons_cons _ (.cons_cons _ (.cons _ (List.Sublist.refl _))))),⟨hm.has,hm.sub.trans o1.sub,hm.lo,hm.hi,?_,?_,fun x hx=>o1.go x (.more hL0 hround (Nat.ne_of_lt hlt2) hx)⟩⟩,hlt2⟩
      ·simp only; omega
      ·simp only; omega
  ·have ea:askV (av,m,e)=.agg #[.bool false,.int .i64 0,.int .i64 e]:=by unfold askV; simp only [if_neg he]
   rw [ea]
   simp (disch:=first|omega|exact zF rfl|exact zG rfl|exact id|(simp only[zA,zB,zC,zD,bytesW];omega)) only[go_sem,c10S3,c10S4,c10S7,c10S8,c10S11]
   have s4:=(s2.call b3).box #[.bool false,.int .i64 0,.int .i64 e] 63
   exact fin0 _ _ (.inl he) (.err hask he) s4
 by_cases hb2:bud > 32768
 ·have e:min bud 32768=32768:=by omega
  rw [e] at step
  simp (disch:=first|omega|exact zF rfl|exact zG rfl|exact id|(simp only[zA,zB,zC,zD,bytesW];omega)) only[go_sem,c10S3,c10S4,c10S7,c10S8,c10S10,hb2]
  exact step
 ·have e:min bud 32768=bud:=by omega
  rw [e] at step
  simp (disch:=first|omega|exact zF rfl|exact zG rfl|exact id|(simp only[zA,zB,zC,zD,bytesW];omega)) only[go_sem,c10S3,c10S4,c10S7,c10S8,c10S10,hb2]
  exact step
open Go Go.Ann Go.RowKit Go.Shelf
theorem own_cut1{w:World}{B e n c m:Nat}{a:Option Addr}{xs:List Value}(h:w.ownsRow B e 1 (.slice a n c) n xs)(hm:m≤n)(ha:0<n):w.ownsRow B e 1 (.slice a m c) m (xs.take m):=by
 obtain ⟨hl,⟨e0,h0⟩ | ⟨g,cap,cur,e0,hg,hB,hnc,hcm,hcs,htk⟩⟩:=h
 ·omega
 ·simp only [Value.slice.injEq,true_and] at e0
  obtain ⟨rfl,rfl⟩:=e0
  refine ⟨by rw [List.length_take,hl]; omega,.inr ⟨g,c,cur,rfl,hg,hB,by omega,hcm,hcs,?_⟩⟩
  rw [← htk,List.take_take]
  congr 1
  omega
theorem compact_rise{zs:List Int}(h:zs.Pairwise (·≤·)):(Lib.compact zs).Pairwise (· < ·)∧∀ x,x∈Lib.compact zs↔x∈zs:=by
 have hg:∀ i,i<zs.length→zs.toArray[i]! = zs.getD i 0:=fun i hi=>by simp [hi]
 have hle:∀ i j,i≤j→j<zs.length→zs.getD i 0≤zs.getD j 0:=fun i j hij hj=>by
  rcases Nat.lt_or_eq_of_le hij with h1 | rfl
  ·have:=List.pairwise_iff_getElem.1 h i j (by omega) hj h1
   simp only [List.getD_eq_getElem?_getD,List.getElem?_eq_getElem hj,List.getElem?_eq_getElem (show i<zs.length by omega),Option.getD_some]
   exact this
  ·exact Int.le_refl _
 unfold Lib.compact Lib.compactUpTo
 have hk:∀ j,j<zs.length→(Lib.keeps zs.toArray j=true↔(j=0∨zs.getD j 0≠zs.getD (j - 1) 0)):=fun j hj=>by
  unfold Lib.keeps
  rw [decide_eq_true_eq,hg j hj,hg (j - 1) (by omega)]
 constructor
 ·rw [List.pairwise_map]
  have h1:((List.range zs.length).filter (Lib.keeps zs.toArray)).Pairwise (· < ·):=List.pairwise_lt_range.filter _
  refine h1.imp_of_mem fun {i j} hi hj hij=>?_
  obtain ⟨hi1,_⟩:=List.mem_filter.1 hi
  obtain ⟨hj1,hj2⟩:=List.mem_filter.1 hj
  rw [List.mem_range] at hi1 hj1
  rw [hg i hi1,hg j hj1]
  have h2:=((hk j hj1).1 hj2).resolve_left (by omega)
  have h3:=hle i (j - 1) (by omega) (by omega)
  have h4:=hle (j - 1) j (by omega) hj1
  omega
 ·intro x
  rw [List.mem_map]
  constructor
  ·rintro ⟨j,hj,rfl⟩
   have hj1:=List.mem_range.1 (List.mem_filter.1 hj).1
   rw [hg j hj1,List.getD_eq_getElem?_getD,List.getElem?_eq_getElem hj1]
   exact List.getElem_mem hj1
  ·intro hx
   obtain ⟨j,hj,rfl⟩:=List.mem_iff_getElem.1 hx
   have key:∀ j,(hj:j<zs.length)→∃ i,i∈(List.range zs.length).filter (Lib.keeps zs.toArray)∧zs.getD i 0=zs.getD j 0:=by
    intro j
    induction j with
    | zero=>exact fun hj=>⟨0,List.mem_filter.2 ⟨List.mem_range.2 hj,(hk 0 hj).2 (.inl rfl)⟩,rfl⟩
    | succ j ih =>
     intro hj
     by_cases he:zs.getD (j+1) 0=zs.getD j 0
     ·obtain ⟨i,h1,h2⟩:=ih (by omega)
      exact ⟨i,h1,h2.trans he.symm⟩
     ·exact ⟨j+1,List.mem_filter.2 ⟨List.mem_range.2 hj,(hk _ hj).2 (.inr (by simpa using he))⟩,rfl⟩
   obtain ⟨i,h1,h2⟩:=key j hj
   refine ⟨i,h1,?_⟩
   rw [hg i (List.mem_range.1 (List.mem_filter.1 h1).1),h2,List.getD_eq_getElem?_getD,List.getElem?_eq_getElem hj]
   rfl
section
variable {W0 w:World} {F:Nat→Prop} {L:List Res} {I:List Inv}
theorem compI_ok{v:Value}{ks:List Int}(h:St W0 w F (.row v 3 1 ks.length (ks.flatMap intE)::L) I)(hl:ks.length≤100000) :
  Ret Tryz.prog 49 [v] w fun u w'=>St W0 w' F (.row u 3 1 (Lib.compact ks).length ((Lib.compact ks).flatMap intE)::L) I:=by
 have hr:=h.row 0 rfl
 obtain ⟨hlen,⟨rfl,h0⟩ | ⟨g',cap,cur,rfl,hB,hb,hc,hm,hs,hx⟩⟩:=id hr
 ·have hn:ks=[]:=List.eq_nil_of_length_eq_zero h0
  subst hn
  refine (Any.slices_Compact_int_empty layCmpI none 0 w).mono ?_
  rintro e w' ⟨rfl,rfl⟩
  exact ⟨_,rfl,h⟩
 ·have hx':cur.toList.take ks.length=ks.map encZ:=by rw [← intE_map,← hx,Nat.mul_one]
  have hb':w.heap[g']?=some (.cells cur 3 (0,0)):=hb
  refine (Any.slices_Compact_int layCmpI g' 0 cap ks w (holds_of_block_i hb' hx') (by omega) hc).mono ?_
  rintro e w' ⟨rfl,q,rfl⟩
  refine ⟨_,rfl,?_⟩
  have hcl:(Lib.compact ks).length≤ks.length:=by
   unfold Lib.compact Lib.compactUpTo
   rw [List.length_map]
   exact Nat.le_trans (List.length_filter_le _ _) (by simp)
  have ho:=ownsRow_sorted_i (n:=q) (os:=#[]) (ss:=ks) (ts:=Lib.compact ks++List.replicate (ks.length - (Lib.compact ks).length) 0) (by rw [List.length_append,List.length_replicate]; omega) hB hb' hc hm hs
  have hgb:=grownBy_sorted_i (w:=w) (g:=g') (n:=q) (os:=#[]) (Lib.compact ks++List.replicate (ks.length - (Lib.compact ks).length) 0).toArray
  rw [Sort.grow_empty] at ho hgb
  by_cases h0:ks.length=0
  ·have hn:ks=[]:=List.eq_nil_of_length_eq_zero h0
   subst hn
   exact h.grow 0 rfl hgb ho fun k hk=>.inl hk
  ·have h2:=own_cut1 ho hcl (by omega)
   rw [← intE_map,List.flatMap_append,List.take_left' (by rw [intE_map,List.length_map])] at h2
   exact h.grow 0 rfl hgb h2 fun k hk=>.inl hk
end
theorem push2{W0 w:World}{F:Nat→Prop}{L:List Res}{I:List Inv}{v:Value}{acc:List Int}{a b:Int}{K:Value→World→Prop}{cs:Array Bool}{ty:Nat}(s:St W0 w F (.row v 3 1 acc.length (acc.flatMap intE)::L) I)(hl:acc.length≤100000)
  (hK:∀ v' w',St W0 w' F (.row v' 3 1 (acc++[a,b]).length ((acc++[a,b]).flatMap intE)::L) I→K v' w'):rawB Tryz.prog .append #[66,66] ty cs [v,.slice (some ⟨w.heap.size,0,none⟩) 2 2] (w.alloc (.cells #[.int .i64 a,.int .i64 b] 3)) K:=by
 have hrd:Rd (w.alloc (.cells #[.int .i64 a,.int .i64 b] 3)) 1 (.slice (some ⟨w.heap.size,0,none⟩) 2 2) 2 [.int .i64 a,.int .i64 b]:=rd_new (sz:=1) (n:=2) rfl
 refine (s.alloc' (.cells #[.int .i64 a,.int .i64 b] 3)).append 0 rfl ty66mkI rfl (by decide) hrd (fun u hu=>by simp only [List.mem_cons,List.not_mem_nil,or_false] at hu; rcases hu with rfl | rfl <;> rfl) (by omega) (by omega) ?_
 intro v' w' s' _
 refine hK v' w' ?_
 have e1:(acc++[a,b]).length=acc.length+2:=by simp
 have e2:(acc++[a,b]).flatMap intE=acc.flatMap intE++[.int .i64 a,.int .i64 b]:=by rw [List.flatMap_append]; rfl
 rw [e1,e2]
 exact s'
structure Vals(l:List OpT)(vs:List Int):Prop where
 up:vs.Pairwise (· < ·)
 mem:∀ x,x∈vs↔x∈0::rawV l 0
theorem Vals.one{l:List OpT}{a b:List Int}(h:Vals l a)(k:Vals l b):a=b:=by
 refine List.Perm.eq_of_pairwise (le:=(· < ·)) (fun x y _ _ h1 h2=>absurd h1 (by omega)) h.up k.up ?_
 have nd:∀ {l:List Int},l.Pairwise (· < ·)→l.Nodup:=fun h=>h.imp fun h=>Int.ne_of_lt h
 exact (List.perm_ext_iff_of_nodup (nd h.up) (nd k.up)).2 fun x=>(h.mem x).trans (k.mem x).symm
theorem values_ok{w:World}{v:Value}{l:List OpT}(h:RdS w 11 OpT.enc v l)(hl:l.length≤100) :
  Ret Tryz.prog 27 [v] w fun u w'=>(∃ vs,Vals l vs∧vs.length≤401∧w'.ownsRow w.heap.size 3 1 u vs.length (vs.flatMap intE))∧Below w.heap.size w w':=by
 obtain ⟨a,c,rfl,_⟩:=h.form
 refine ent27 _ _ _ ?_
 simp (disch:=first|omega|exact zF rfl|exact zG rfl|exact id|(simp only[zA,zB,zC,zD,bytesW];omega)) only[go_sem,c27S0,c27S4]
 refine bsW_ones ty66mkI rfl rfl (by decide) (by decide) (fun u hu=>by rw [List.mem_singleton] at hu; subst hu; rfl) ?_
 have s0:St w (w.alloc (.cells #[.int .i64 0] 3)) (fun _=>False) [.row (.slice (some ⟨w.heap.size,0,none⟩) 1 1) 3 1 1 [.int .i64 0]] []:=by
  have s:=(St.start (W0:=w)).box #[.int .i64 0] 3
  have ho:=(s.blk 0 rfl).own (s.low 0 rfl).1 (n:=1) (cap:=1) (size:=1) (xs:=[.int .i64 0]) (Nat.le_refl _) (by decide) rfl rfl
  exact s.upd 0 rfl (Chg.refl _ _) (.row (.slice (some ⟨w.heap.size,0,none⟩) 1 1) 3 1 1 [.int .i64 0]) ho fun k hk=>.inl hk
 simp (disch:=first|omega|exact zF rfl|exact zG rfl|exact id|(simp only[zA,zB,zC,zD,bytesW];omega)) only[go_sem,c27S0,c27S4]
 have hbel:∀ {w':World} {L:List Res},St w w' (fun _=>False) L []→Below w.heap.size w w':=fun h=>h.bel
 generalize w.alloc (.cells #[.int .i64 0] 3)=w1 at s0 ⊢
 refine W_loopU (fun x:Value × Nat × Int × List Int=>[(3,x.1),(4,.int .i64 x.2.2.1),(10,.int .i64 x.2.1)]) (fun x w'=>St w w' (fun _=>False) [.row x.1 3 1 x.2.2.2.length (x.2.2.2.flatMap intE)] []∧x.2.1≤l.length∧(0≤x.2.2.1∧x.2.2.1≤x.2.1)∧x.2.2.2.length≤1+4 * x.2.1∧x.2.2.2++rawV (l.drop x.2.1) x.2.2.1=0::rawV l 0) (fun x=>l.length - x.2.1) (.slice (some ⟨w.heap.size,0,none⟩) 1 1,0,0,[0]) rfl ⟨s0,Nat.zero_le _,by simp,by simp,rfl⟩ ?_
 rintro ⟨x,k,n,acc⟩ w2 ⟨s1,hk,hn,hal,hacc⟩
 simp only at s1 hk hn hal hacc
 by_cases hlt:k<l.length
 ·obtain ⟨q,rfl⟩:=h.ptr (by omega)
  have ek:=h.eltB s1.bel OpT.len (by decide) hlt
  have ck:=cellsO_below s1.bel (h.at OpT.len hlt)
  have hlt':(k:Int)<l.length:=by omega
  have ak:=l[k].at
  rw [List.drop_eq_getElem_cons hlt,rawV] at hacc
  simp (disch:=first|omega|exact zF rfl|exact zG rfl|exact id|(simp only[zA,zB,zC,zD,bytesW];omega)) only[go_sem,c27S4,c27S5,hlt',ck,ek,ak]
  refine ⟨by omega,(OpT.len _).symm,?_⟩
  have two:∀ {a b:Int},∀ u∈[Value.int .i64 a,.int .i64 b],u.oneCell'=true:=fun u hu=>by simp only [List.mem_cons,List.not_mem_nil,or_false] at hu; rcases hu with rfl | rfl <;> rfl
  refine bsW_ones ty66mkI rfl rfl (by decide) (by decide) two ?_
  have s2:=s1.box l[k].enc.toArray 38
  have s3:=s2.perm (L':=[.row x 3 1 acc.length (acc.flatMap intE),.blk w2.heap.size l[k].enc.toArray 38]) (List.Perm.swap _ _ _)
  generalize w2.heap.size=g6 at s3 ⊢
  generalize w2.alloc (.cells l[k].enc.toArray 38)=w3 at s3 ⊢
  simp (disch:=first|omega|exact zF rfl|exact zG rfl|exact id|(simp only[zA,zB,zC,zD,bytesW];omega)) only[go_sem,c27S4,c27S5]
  refine push2 s3 (by omega) fun v4 w4 s4=>?_
  have r4:=s4.rules 1 rfl
  by_cases h2:l[k].Kind=2
  ·rw [if_pos h2] at hacc
   simp (disch:=first|omega|exact zF rfl|exact zG rfl|exact id|(simp only[zA,zB,zC,zD,bytesW];omega)) only[go_sem,c27S0,c27S4,c27S5,r4,ak,h2]
   refine ⟨⟨by omega,by omega⟩,?_⟩
   have ew:IntKind.i64.wrap (0 - (n+1))=0 - (n+1):=by
    simp [IntKind.wrap,IntKind.bits,IntKind.signed]
    omega
   rw [ew]
   refine bsW_ones ty66mkI rfl rfl (by simp) (by simp) (@two (n+1) (0 - (n+1))) ?_
   simp (disch:=first|omega|exact zF rfl|exact zG rfl|exact id|(simp only[zA,zB,zC,zD,bytesW];omega)) only[go_sem,c27S0,c27S4,c27S5]
   refine push2 s4 (by rw [List.length_append,List.length_cons,List.length_singleton]; omega) fun v5 w5 s5=>?_
   simp (disch:=first|omega|exact zF rfl|exact zG rfl|exact id|(simp only[zA,zB,zC,zD,bytesW];omega)) only[go_sem,c27S0,c27S4,c27S5]
   refine ⟨⟨by omega,by omega⟩,(v5,k+1,n+1,acc++[l[k].Arg,l[k].Second]++[n+1,0 - (n+1)]),rfl,⟨s5.sub (.cons_cons _ (List.nil_sublist _)),hlt,⟨by simp only; omega,by simp only; omega⟩,?_,?_⟩,by simp only; omega⟩
   ·simp only [List.length_append,List.length_cons,List.length_nil]; omega
   ·simp only [List.append_assoc,List.cons_append,List.nil_append]; exact hacc
  ·rw [if_neg h2] at hacc
   simp (disch:=first|omega|exact zF rfl|exact zG rfl|exact id|(simp only[zA,zB,zC,zD,bytesW];omega)) only[go_sem,c27S0,c27S4,c27S5,r4,ak,h2]
   refine ⟨⟨by omega,by omega⟩,(v4,k+1,n,acc++[l[k].Arg,l[k].Second]),rfl,⟨s4.sub (.cons_cons _ (List.nil_sublist _)),hlt,⟨hn.1,by simp only; omega⟩,?_,?_⟩,by simp only; omega⟩
   ·simp only [List.length_append,List.length_cons,List.length_nil]; omega
   ·simp only [List.append_assoc,List.cons_append,List.nil_append]; exact hacc
 ·have hlt':¬ (k:Int)<l.length:=by omega
  obtain rfl:k=l.length:=by omega
  rw [List.drop_length,rawV,List.append_nil] at hacc
  simp (disch:=first|omega|exact zF rfl|exact zG rfl|exact id|(simp only[zA,zB,zC,zD,bytesW];omega)) only[go_sem,c27S0,c27S5,hlt']
  refine .inl ⟨by kernel_rfl,Ret.mono (sortI_ok s1 (by omega)) ?_⟩
  rintro _ w3 ⟨rfl,ts,⟨hp,hs⟩,s3⟩
  rw [← hp.length_eq] at s3
  simp (disch:=first|omega|exact zF rfl|exact zG rfl|exact id|(simp only[zA,zB,zC,zD,bytesW];omega)) only[go_sem,c27S0,c27S4,c27S5]
  refine Ret.mono (compI_ok s3 (by rw [hp.length_eq]; omega)) ?_
  rintro u w4 s4
  simp (disch:=first|omega|exact zF rfl|exact zG rfl|exact id|(simp only[zA,zB,zC,zD,bytesW];omega)) only[go_sem,c27S0,c27S4,c27S5]
  have hcl:(Lib.compact ts).length≤ts.length:=by
   unfold Lib.compact Lib.compactUpTo
   rw [List.length_map]
   exact Nat.le_trans (List.length_filter_le _ _) (by simp)
  obtain ⟨c1,c2⟩:=compact_rise hs
  refine ⟨⟨Lib.compact ts,⟨c1,fun x=>?_⟩,by rw [hp.length_eq] at hcl; omega,s4.row 0 rfl⟩,s4.bel⟩
  rw [c2,hp.mem_iff,hacc]
def ansP(o:OpT)(all:List Int):List Int :=
 if o.Method=1 then all else if o.Method=7∨o.Method=9 then -1::all else if o.Method=3∨o.Method=10∨o.Method=11∨o.Method=12 then [0,1] else [0]
def HasN(W0:World)(I:List Inv)(more:List Res)(v:Value)(l:List Int):Prop:=∀ (w':World) (F:Nat→Prop) (L':List Res),(∀ r∈more,r∈L')→St W0 w' F L' I→RdS w' 1 intE v l
theorem HasN.row{W0:World}{I:List Inv}{v:Value}{l:List Int}:HasN W0 I [.row v 3 1 l.length (l.flatMap intE)] v l:=fun w' F L' hr s=>RdS.of_own (s.res _ (hr _ List.mem_cons_self)).1
theorem HasN.blk{W0:World}{I:List Inv}{g:Nat}{l:List Int}:HasN W0 I [.blk g (l.map (Value.int .i64)).toArray 3] (.slice (some ⟨g,0,none⟩) l.length l.length) l:=fun w' F L' hr s=>by
 have hB:Blk w' g (l.map (Value.int .i64)++[]).toArray 3:=by
  rw [List.append_nil]; exact (s.res _ (hr _ List.mem_cons_self)).1.1
 exact rd_of_blk hB (Nat.le_refl _) rfl
theorem HasN.mono{W0:World}{I:List Inv}{more more':List Res}{v:Value}{l:List Int}(h:HasN W0 I more v l)(hm:∀ r∈more,r∈more'):HasN W0 I more' v l:=fun w' F L' hr s=>h w' F L' (fun r h=>hr r (hm r h)) s
theorem answers_ok{W0 w:World}{F:Nat→Prop}{L:List Res}{I:List Inv}{v:Value}{all:List Int}(o:OpT)(s:St W0 w F (.row v 3 1 all.length (all.flatMap intE)::L) I)(hl:all.length≤1000) :
  Ret Tryz.prog 28 [.agg o.enc.toArray,v] w fun u w'=>∃ R,St W0 w' F (.row v 3 1 all.length (all.flatMap intE)::(R++L)) I∧(HasN W0 I (.row v 3 1 all.length (all.flatMap intE)::R) u (ansP o all)):=by
 obtain ⟨a,c,rfl,_⟩:=own_slice (s.row 0 rfl)
 refine ent28 _ _ _ _ ?_
 have ao:=o.at
 have s1:=s.box o.enc.toArray 38
 have r1:=s1.rules 0 rfl
 have hr0:HasN W0 I [.row (.slice a all.length c) 3 1 all.length (all.flatMap intE)] (.slice a all.length c) all:=HasN.row
 unfold ansP
 by_cases m1:o.Method=1
 ·rw [if_pos m1]
  simp (disch:=first|omega|exact zF rfl|exact zG rfl|exact id|(simp only[zA,zB,zC,zD,bytesW];omega)) only[go_sem,ao,m1]
  exact ⟨[],s.alloc' _,hr0⟩
 rw [if_neg m1]
 by_cases m7:o.Method=7∨o.Method=9
 ·rw [if_pos m7]
  rcases m7 with m7 | m7
  ·simp (disch:=first|omega|exact zF rfl|exact zG rfl|exact id|(simp only[zA,zB,zC,zD,bytesW];omega)) only[go_sem,ao,m7]
   refine bsW_ones ty66mkI rfl rfl (by decide) (by decide) (fun u hu=>by rw [List.mem_singleton] at hu; subst hu; rfl) ?_
   have s2:=(s.alloc' (.cells o.enc.toArray 38)).box #[.int .i64 (-1)] 3
   generalize (w.alloc (.cells o.enc.toArray 38)).heap.size=g2 at s2 ⊢
   generalize (w.alloc (.cells o.enc.toArray 38)).alloc (.cells #[.int .i64 (-1)] 3)=w2 at s2 ⊢
   have ho:=(s2.blk 0 rfl).own (s2.low 0 rfl).1 (n:=1) (cap:=1) (size:=1) (xs:=[.int .i64 (-1)]) (Nat.le_refl _) (by decide) rfl rfl
   have s3:=s2.upd 0 rfl (Chg.refl _ _) (.row (.slice (some ⟨g2,0,none⟩) 1 1) 3 1 1 [.int .i64 (-1)]) ho fun k hk=>.inl hk
   have hrd:Rd w2 1 (.slice a all.length c) all.length (all.flatMap intE):=Rd.of_own (s3.row 1 rfl)
   simp (disch:=first|omega|exact zF rfl|exact zG rfl|exact id|(simp only[zA,zB,zC,zD,bytesW];omega)) only[go_sem]
   refine s3.append 0 rfl ty66mkI rfl (by decide) hrd (fun u hu=>by rw [intE_map,List.mem_map] at hu; obtain ⟨x,_,rfl⟩:=hu; rfl) (by omega) (by omega) ?_
   intro v4 w4 s4 _
   simp (disch:=first|omega|exact zF rfl|exact zG rfl|exact id|(simp only[zA,zB,zC,zD,bytesW];omega)) only[go_sem]
   have e1:1+all.length=((-1:Int)::all).length:=by rw [List.length_cons,Nat.add_comm]
   have e2:[Value.int .i64 (-1)]++all.flatMap intE=((-1:Int)::all).flatMap intE:=rfl
   simp only [List.set_cons_zero] at s4
   rw [e1,e2] at s4
   exact ⟨[.row v4 3 1 ((-1:Int)::all).length (((-1:Int)::all).flatMap intE)],s4.perm (List.Perm.swap _ _ _),HasN.row.mono fun r hr=>List.mem_cons_of_mem _ hr⟩
  ·simp (disch:=first|omega|exact zF rfl|exact zG rfl|exact id|(simp only[zA,zB,zC,zD,bytesW];omega)) only[go_sem,ao,m7]
   refine bsW_ones ty66mkI rfl rfl (by decide) (by decide) (fun u hu=>by rw [List.mem_singleton] at hu; subst hu; rfl) ?_
   have s2:=(s.alloc' (.cells o.enc.toArray 38)).box #[.int .i64 (-1)] 3
   generalize (w.alloc (.cells o.enc.toArray 38)).heap.size=g2 at s2 ⊢
   generalize (w.alloc (.cells o.enc.toArray 38)).alloc (.cells #[.int .i64 (-1)] 3)=w2 at s2 ⊢
   have ho:=(s2.blk 0 rfl).own (s2.low 0 rfl).1 (n:=1) (cap:=1) (size:=1) (xs:=[.int .i64 (-1)]) (Nat.le_refl _) (by decide) rfl rfl
   have s3:=s2.upd 0 rfl (Chg.refl _ _) (.row (.slice (some ⟨g2,0,none⟩) 1 1) 3 1 1 [.int .i64 (-1)]) ho fun k hk=>.inl hk
   have hrd:Rd w2 1 (.slice a all.length c) all.length (all.flatMap intE):=Rd.of_own (s3.row 1 rfl)
   simp (disch:=first|omega|exact zF rfl|exact zG rfl|exact id|(simp only[zA,zB,zC,zD,bytesW];omega)) only[go_sem]
   refine s3.append 0 rfl ty66mkI rfl (by decide) hrd (fun u hu=>by rw [intE_map,List.mem_map] at hu; obtain ⟨x,_,rfl⟩:=hu; rfl) (by omega) (by omega) ?_
   intro v4 w4 s4 _
   simp (disch:=first|omega|exact zF rfl|exact zG rfl|exact id|(simp only[zA,zB,zC,zD,bytesW];omega)) only[go_sem]
   have e1:1+all.length=((-1:Int)::all).length:=by rw [List.length_cons,Nat.add_comm]
   have e2:[Value.int .i64 (-1)]++all.flatMap intE=((-1:Int)::all).flatMap intE:=rfl
   simp only [List.set_cons_zero] at s4
   rw [e1,e2] at s4
   exact ⟨[.row v4 3 1 ((-1:Int)::all).length (((-1:Int)::all).flatMap intE)],s4.perm (List.Perm.swap _ _ _),HasN.row.mono fun r hr=>List.mem_cons_of_mem _ hr⟩
 rw [if_neg m7]
 have m7a:¬ o.Method=7:=fun e=>m7 (.inl e)
 have m7b:¬ o.Method=9:=fun e=>m7 (.inr e)
 by_cases m3:o.Method=3∨o.Method=10∨o.Method=11∨o.Method=12
 ·rw [if_pos m3]
  rcases m3 with m3 | m3 | m3 | m3
  ·simp (disch:=first|omega|exact zF rfl|exact zG rfl|exact id|(simp only[zA,zB,zC,zD,bytesW];omega)) only[go_sem,ao,m3]
   refine bsW_ones ty66mkI rfl rfl (by decide) (by decide) (fun u hu=>by simp only [List.mem_cons,List.not_mem_nil,or_false] at hu; rcases hu with rfl | rfl <;> rfl) ?_
   have s2:=(s.alloc' (.cells o.enc.toArray 38)).box #[.int .i64 0,.int .i64 1] 3
   rw [World.size_alloc] at s2
   simp (disch:=first|omega|exact zF rfl|exact zG rfl|exact id|(simp only[zA,zB,zC,zD,bytesW];omega)) only[go_sem]
   exact ⟨[.blk (w.heap.size+1) #[.int .i64 0,.int .i64 1] 3],s2.perm (List.Perm.swap _ _ _),(HasN.blk (l:=[0,1])).mono fun r hr=>List.mem_cons_of_mem _ hr⟩
  ·simp (disch:=first|omega|exact zF rfl|exact zG rfl|exact id|(simp only[zA,zB,zC,zD,bytesW];omega)) only[go_sem,ao,m3]
   refine bsW_ones ty66mkI rfl rfl (by decide) (by decide) (fun u hu=>by simp only [List.mem_cons,List.not_mem_nil,or_false] at hu; rcases hu with rfl | rfl <;> rfl) ?_
   have s2:=(s.alloc' (.cells o.enc.toArray 38)).box #[.int .i64 0,.int .i64 1] 3
   rw [World.size_alloc] at s2
   simp (disch:=first|omega|exact zF rfl|exact zG rfl|exact id|(simp only[zA,zB,zC,zD,bytesW];omega)) only[go_sem]
   exact ⟨[.blk (w.heap.size+1) #[.int .i64 0,.int .i64 1] 3],s2.perm (List.Perm.swap _ _ _),(HasN.blk (l:=[0,1])).mono fun r hr=>List.mem_cons_of_mem _ hr⟩
  ·simp (disch:=first|omega|exact zF rfl|exact zG rfl|exact id|(simp only[zA,zB,zC,zD,bytesW];omega)) only[go_sem,ao,m3]
   refine bsW_ones ty66mkI rfl rfl (by decide) (by decide) (fun u hu=>by simp only [List.mem_cons,List.not_mem_nil,or_false] at hu; rcases hu with rfl | rfl <;> rfl) ?_
   have s2:=(s.alloc' (.cells o.enc.toArray 38)).box #[.int .i64 0,.int .i64 1] 3
   rw [World.size_alloc] at s2
   simp (disch:=first|omega|exact zF rfl|exact zG rfl|exact id|(simp only[zA,zB,zC,zD,bytesW];omega)) only[go_sem]
   exact ⟨[.blk (w.heap.size+1) #[.int .i64 0,.int .i64 1] 3],s2.perm (List.Perm.swap _ _ _),(HasN.blk (l:=[0,1])).mono fun r hr=>List.mem_cons_of_mem _ hr⟩
  ·simp (disch:=first|omega|exact zF rfl|exact zG rfl|exact id|(simp only[zA,zB,zC,zD,bytesW];omega)) only[go_sem,ao,m3]
   refine bsW_ones ty66mkI rfl rfl (by decide) (by decide) (fun u hu=>by simp only [List.mem_cons,List.not_mem_nil,or_false] at hu; rcases hu with rfl | rfl <;> rfl) ?_
   have s2:=(s.alloc' (.cells o.enc.toArray 38)).box #[.int .i64 0,.int .i64 1] 3
   rw [World.size_alloc] at s2
   simp (disch:=first|omega|exact zF rfl|exact zG rfl|exact id|(simp only[zA,zB,zC,zD,bytesW];omega)) only[go_sem]
   exact ⟨[.blk (w.heap.size+1) #[.int .i64 0,.int .i64 1] 3],s2.perm (List.Perm.swap _ _ _),(HasN.blk (l:=[0,1])).mono fun r hr=>List.mem_cons_of_mem _ hr⟩
 ·rw [if_neg m3]
  have m3a:¬ o.Method=3:=fun e=>m3 (.inl e)
  have m3b:¬ o.Method=10:=fun e=>m3 (.inr (.inl e))
  have m3c:¬ o.Method=11:=fun e=>m3 (.inr (.inr (.inl e)))
  have m3d:¬ o.Method=12:=fun e=>m3 (.inr (.inr (.inr e)))
  simp (disch:=first|omega|exact zF rfl|exact zG rfl|exact id|(simp only[zA,zB,zC,zD,bytesW];omega)) only[go_sem,ao,m1,m7a,m7b,m3a,m3b,m3c,m3d]
  refine bsW_ones ty66mkI rfl rfl (by decide) (by decide) (fun u hu=>by rw [List.mem_singleton] at hu; subst hu; rfl) ?_
  have s2:=(s.alloc' (.cells o.enc.toArray 38)).box #[.int .i64 0] 3
  rw [World.size_alloc] at s2
  simp (disch:=first|omega|exact zF rfl|exact zG rfl|exact id|(simp only[zA,zB,zC,zD,bytesW];omega)) only[go_sem]
  exact ⟨[.blk (w.heap.size+1) #[.int .i64 0] 3],s2.perm (List.Perm.swap _ _ _),(HasN.blk (l:=[0])).mono fun r hr=>List.mem_cons_of_mem _ hr⟩
open Go Go.Ann Go.RowKit
def pairs(L:List OpT)(vs:List Int):List (OpT × Int):=(L.filter fun o=>o.Done).flatMap fun o=>(ansP o vs).map fun n=>(o,n)
theorem pairs_cons(o:OpT)(L:List OpT)(vs:List Int):pairs (o::L) vs=(if o.Done then (ansP o vs).map fun n=>(o,n) else [])++pairs L vs:=by
 unfold pairs
 rw [List.filter_cons]
 cases o.Done <;> simp
inductive MendO(ob kd:Int)(l:List OpT)(bud:Int):List (Int × Int) × Int→Prop
 | err {a:Bool} {m e:Int} (h:Ask ob kd l (min bud 32768) (a,m,e)) (he:e≠0):MendO ob kd l bud ([],e)
 | ok {m:Int} (h:Ask ob kd l (min bud 32768) (true,m,0)):MendO ob kd l bud ([],0)
 | mend {m:Int} {L:List OpT} {vs:List Int} {x:List (Int × Int) × Int} (h:Ask ob kd l (min bud 32768) (false,m,0)) (hL:Rise l L) (hv:Vals L vs) (k:MendR ob kd l (pairs L vs) m [] x):MendO ob kd l bud x
def pairE(p:Int × Int):List Value:=[.int .i64 p.1,.int .i64 p.2]
theorem pairE_len(p:Int × Int):(pairE p).length=2:=rfl
def MendV(w':World)(r:List (Int × Int) × Int)(u:Value):Prop:=∃ vv,u=.tuple #[vv,.int .i64 r.2]∧RdS w' 2 pairE vv r.1∧r.1.length≤1000000
theorem rd_nil2(w:World):RdS w 2 pairE (.slice none 0 0) []:=⟨by simp,none,0,rfl,Nat.le_refl _,fun h=>absurd rfl h⟩
theorem kOk_small{x:Int}(h:-1000≤x∧x≤1000):kOk .i64 x:=by
 unfold kOk
 simp [Lit.wf,IntKind.min,IntKind.max,IntKind.signed,IntKind.bits]
 omega
theorem raw_ok:∀ {L:List OpT} {n:Int},(∀ o∈L,o.wf)→0≤n→n+L.length≤1000→∀ x∈rawV L n,kOk .i64 x
 | [],_,_,_,_,x,h=>by cases h
 | o::L,n,hw,h0,hn,x,h=>by
  obtain ⟨_,_,_,_,_,ha,hs,_⟩:=hw o List.mem_cons_self
  have hL:∀ o∈L,o.wf:=fun y hy=>hw y (List.mem_cons_of_mem _ hy)
  rw [List.length_cons] at hn
  rw [rawV] at h
  split at h
  ·rcases List.mem_cons.1 h with rfl | h
   ·exact ha
   rcases List.mem_cons.1 h with rfl | h
   ·exact hs
   rcases List.mem_cons.1 h with rfl | h
   ·exact kOk_small (by omega)
   rcases List.mem_cons.1 h with rfl | h
   ·exact kOk_small (by omega)
   ·exact raw_ok hL (by omega) (by omega) x h
  ·rcases List.mem_cons.1 h with rfl | h
   ·exact ha
   rcases List.mem_cons.1 h with rfl | h
   ·exact hs
   ·exact raw_ok hL h0 (by omega) x h
theorem ans_ok{o:OpT}{vs:List Int}(h:∀ x∈vs,kOk .i64 x):∀ x∈ansP o vs,kOk .i64 x:=by
 intro x hx
 unfold ansP at hx
 split at hx
 ·exact h x hx
 split at hx
 ·rcases List.mem_cons.1 hx with rfl | hx
  ·exact kOk_small (by decide)
  ·exact h x hx
 split at hx
 ·simp only [List.mem_cons,List.not_mem_nil,or_false] at hx
  rcases hx with rfl | rfl
  ·exact kOk_small (by decide)
  ·exact kOk_small (by decide)
 ·rw [List.mem_singleton] at hx
  subst hx
  exact kOk_small (by decide)
theorem ans_len(o:OpT)(vs:List Int):(ansP o vs).length≤vs.length+2:=by
 unfold ansP
 split
 ·omega
 split
 ·simp
 split <;> simp
theorem setR_wf{o:OpT}{n:Int}(h:o.wf)(hn:kOk .i64 n):(setR o n).wf:=by
 obtain ⟨h1,h2,h3,h4,h5,h6,h7,h8,h9,h10⟩:=h
 exact ⟨h1,h2,h3,h4,h5,h6,h7,hn,h9,h10⟩
theorem mends_ok{w:World}{bud ob kd:Int}{v:Value}{l:List OpT}(hr:RdS w 11 OpT.enc v l)(hl:l.length≤9)(hn:(l.map OpT.ID).Nodup)(hK:∀ o∈l,o.Kind=kd)(hw:∀ o∈l,o.wf)(hb:I64 bud) :
  Ret Tryz.prog 15 [.agg #[.int .i64 ob,.int .i64 kd,v],.int .i64 bud] w fun u w'=>(∃ r,MendO ob kd l bud r∧MendV w' r u)∧Below w.heap.size w w':=by
 obtain ⟨a,c,rfl,_⟩:=hr.form
 refine ent15 _ _ _ _ ?_
 have s2:=(startI hr).box #[.int .i64 ob,.int .i64 kd,.slice a l.length c] 24
 simp (disch:=first|omega|exact zF rfl|exact zG rfl|exact id|(simp only[zA,zB,zC,zD,bytesW];omega)) only[go_sem,c15S1,c15S5,c15S6,c15S7,c15S11,c15S17]
 obtain ⟨p2,hp2⟩:∃ p,p=w.heap.size:=⟨_,rfl⟩
 have hbel:∀ {w':World} {F:Nat→Prop} {L:List Res} {I:List Inv},St w w' F L I→Below p2 w w':=fun h=>by rw [hp2]; exact h.bel
 rw [← hp2] at s2 ⊢
 generalize w.alloc (.cells #[.int .i64 ob,.int .i64 kd,.slice a l.length c] 24)=w2 at s2 ⊢
 refine bdW_built (cells:=#[.int .i64 (min bud 32768),.int .i64 0,.int .i64 0]) (by kernel_rfl) ?_
 simp (disch:=first|omega|exact zF rfl|exact zG rfl|exact id|(simp only[zA,zB,zC,zD,bytesW];omega)) only[go_sem,c15S1,c15S5,c15S6,c15S7,c15S11,c15S17]
 have s3:=s2.box #[.int .i64 (min bud 32768),.int .i64 0,.int .i64 0] 59
 generalize w2.heap.size=p6 at s3 ⊢
 generalize w2.alloc (.cells #[.int .i64 (min bud 32768),.int .i64 0,.int .i64 0] 59)=w3 at s3 ⊢
 have q1:=s3.rules 1 rfl
 have hr3:RdS w3 11 OpT.enc (.slice a l.length c) l:=s3.rd 0 rfl
 have hbm:-9223372036854775808≤min bud 32768∧min bud 32768≤32768:=by
  have:=hb.1
  omega
 simp (disch:=first|omega|exact zF rfl|exact zG rfl|exact id|(simp only[zA,zB,zC,zD,bytesW];omega)) only[go_sem,c15S5,c15S6,c15S7,c15S11,c15S18,q1]
 refine Ret.mono (explained_ok (ob:=ob) (kd:=kd) s3 hr3 (by omega) hK hw hbm) ?_
 rintro _ w4 ⟨av,m,e,rfl,hask,s4⟩
 have hlow:=hask.low
 have hge:=hask.ge (B:=-9223372036854775808) (by decide) hbm.1
 simp only at hlow hge
 have q4:=s4.rules 0 rfl
 have q42:=s4.rules 1 rfl
 have qd4:=s4.drew.rules 0 rfl
 by_cases he:e=0
 ·subst he
  simp only [if_true] at s4 q4 qd4
  cases av with
  | true =>
   simp (disch:=first|omega|exact zF rfl|exact zG rfl|exact id|(simp only[zA,zB,zC,zD,bytesW];omega)) only[go_sem,c15S1,c15S5,c15S6,c15S7,c15S11,c15S17,c15S18,q4]
   refine c15draw0 ?_
   simp (disch:=first|omega|exact zF rfl|exact zG rfl|exact id|(simp only[zA,zB,zC,zD,bytesW];omega)) only[go_sem,c15S1,c15S5,c15S6,c15S7,c15S11,c15S17,c15S18,c15D0,qd4]
   exact ⟨⟨([],0),.ok hask,_,rfl,rd_nil2 _,by simp⟩,hbel s4.drew⟩
  | false =>
   simp (disch:=first|omega|exact zF rfl|exact zG rfl|exact id|(simp only[zA,zB,zC,zD,bytesW];omega)) only[go_sem,c15S1,c15S5,c15S6,c15S7,c15S11,c15S18,q4]
   simp (disch:=first|omega|exact zF rfl|exact zG rfl|exact id|(simp only[zA,zB,zC,zD,bytesW];omega)) only[go_sem,c15S1,c15S5,c15S6,c15S7,c15S11,c15S17,c15S18,q42]
   have hr4:RdS w4 11 OpT.enc (.slice a l.length c) l:=s4.rd 0 rfl
   refine Ret.mono (sorted_ok' hr4 (by omega) hn) ?_
   rintro lv w5 ⟨⟨L0,hL0,own5⟩,b5⟩
   have s5:=newRow s4 b5 own5
   have hlen:L0.length=l.length:=hL0.1.length_eq
   have hrL:RdS w5 11 OpT.enc lv L0:=RdS.of_own own5
   simp (disch:=first|omega|exact zF rfl|exact zG rfl|exact id|(simp only[zA,zB,zC,zD,bytesW];omega)) only[go_sem,c15S1,c15S5,c15S6,c15S7,c15S11,c15S17,c15S18]
   refine Ret.mono (values_ok hrL (by omega)) ?_
   rintro av w6 ⟨⟨vs,hvs,hvl,own6⟩,b6⟩
   have s6:=(newRow s5 b6 own6).perm (L':=[.blk p6 #[.int .i64 m,.int .i64 0,.int .i64 0] 59,.blk p2 #[.int .i64 ob,.int .i64 kd,.slice a l.length c] 24,.row av 3 1 vs.length (vs.flatMap intE),.row lv 38 11 L0.length (L0.flatMap OpT.enc)]) (List.perm_append_comm (l₁:=[_,_]) (l₂:=[_,_]))
   have s7:=(s6.nilRow 46 2).perm (L':=[.blk p6 #[.int .i64 m,.int .i64 0,.int .i64 0] 59,.blk p2 #[.int .i64 ob,.int .i64 kd,.slice a l.length c] 24,.row (.slice none 0 0) 46 2 0 [],.row av 3 1 vs.length (vs.flatMap intE),.row lv 38 11 L0.length (L0.flatMap OpT.enc)]) (List.perm_middle (l₁:=[_,_]) (l₂:=[_,_]))
   obtain ⟨la,lc,rfl,_⟩:=own_slice own5
   simp (disch:=first|omega|exact zF rfl|exact zG rfl|exact id|(simp only[zA,zB,zC,zD,bytesW];omega)) only[go_sem,c15S1,c15S5,c15S6,c15S7,c15S11,c15S17,c15S18]
   have hvok:∀ x∈vs,kOk .i64 x:=fun x hx=>by
    rcases List.mem_cons.1 ((hvs.mem x).1 hx) with rfl | h
    ·exact kOk_small (by decide)
    ·exact raw_ok (fun o ho=>hw o (hL0.1.mem_iff.1 ho)) (Int.le_refl 0) (by omega) x h
   refine W_loopU (fun x:Value × Nat × Int × List (Int × Int)=>[(8,x.1),(43,.int .i64 x.2.1)]) (fun x w'=>St w w' (fun _=>False) [.blk p6 #[.int .i64 x.2.2.1,.int .i64 0,.int .i64 0] 59,.blk p2 #[.int .i64 ob,.int .i64 kd,.slice a l.length c] 24,.row x.1 46 2 x.2.2.2.length (x.2.2.2.flatMap pairE),.row av 3 1 vs.length (vs.flatMap intE),.row (.slice la L0.length lc) 38 11 L0.length (L0.flatMap OpT.enc)] [.rd 11 OpT.enc (.slice a l.length c) l]∧x.2.1≤L0.length∧(-9223372036854775808≤x.2.2.1∧x.2.2.1≤32768)∧x.2.2.2.length≤500 * x.2.1∧∀ y,MendR ob kd l (pairs (L0.drop x.2.1) vs) x.2.2.1 x.2.2.2 y→MendR ob kd l (pairs L0 vs) m [] y) (fun x=>L0.length - x.2.1) (.slice none 0 0,0,m,[]) rfl ⟨s7,Nat.zero_le _,⟨hge,by simp only; omega⟩,Nat.le_refl _,fun y h=>h⟩ ?_
   rintro ⟨ov,k,left,acc⟩ w7 ⟨s8,hk,hleft,hal,hall⟩
   simp only at s8 hk hleft hal hall
   obtain ⟨oa,oc,rfl,_⟩:=own_slice (s8.row 2 rfl)
   by_cases hlt:k<L0.length
   ·have hlt':(k:Int)<L0.length:=by omega
    have hrL7:RdS w7 11 OpT.enc (.slice la L0.length lc) L0:=RdS.of_own (s8.row 4 rfl)
    obtain ⟨q,rfl⟩:=hrL7.ptr (by omega)
    have ek:=hrL7.eltB (Below.refl _ _) OpT.len (by decide) hlt
    have ck:=hrL7.at OpT.len hlt
    have ak:=L0[k].at
    rw [List.drop_eq_getElem_cons hlt,pairs_cons] at hall
    cases hd:L0[k].Done with
    | false =>
     rw [hd] at hall
     simp (disch:=first|omega|exact zF rfl|exact zG rfl|exact id|(simp only[zA,zB,zC,zD,bytesW];omega)) only[go_sem,c15S1,c15S5,c15S6,c15S7,c15S11,c15S17,c15S18,hlt',ck,ek,ak,hd]
     exact ⟨by omega,(OpT.len _).symm,⟨by omega,by omega⟩,(.slice oa acc.length oc,k+1,left,acc),rfl,⟨s8.alloc' _,hlt,hleft,by simp only; omega,hall⟩,by simp only; omega⟩
    | true =>
     rw [hd,if_pos rfl] at hall
     simp (disch:=first|omega|exact zF rfl|exact zG rfl|exact id|(simp only[zA,zB,zC,zD,bytesW];omega)) only[go_sem,c15S1,c15S5,c15S6,c15S7,c15S17,c15S18,hlt',ck,ek,ak,hd]
     refine ⟨by omega,(OpT.len _).symm,?_⟩
     have s9:=s8.box L0[k].enc.toArray 38
     obtain ⟨o,ho⟩:∃ o,o=L0[k]:=⟨_,rfl⟩
     have hol:o∈l:=hL0.1.mem_iff.1 (by rw [ho]; exact List.getElem_mem hlt)
     rw [← ho] at s9 hall ⊢
     clear ek ck ak
     generalize w7.heap.size=p12 at s9 ⊢
     generalize w7.alloc (.cells o.enc.toArray 38)=w8 at s9 ⊢
     obtain ⟨va,vc,rfl,_⟩:=own_slice own6
     have s10:=s9.perm (L':=.row (.slice va vs.length vc) 3 1 vs.length (vs.flatMap intE)::[.blk p12 o.enc.toArray 38,.blk p6 #[.int .i64 left,.int .i64 0,.int .i64 0] 59,.blk p2 #[.int .i64 ob,.int .i64 kd,.slice a l.length c] 24,.row (.slice oa acc.length oc) 46 2 acc.length (acc.flatMap pairE),.row (.slice (some q) L0.length lc) 38 11 L0.length (L0.flatMap OpT.enc)]) (List.perm_middle (l₁:=[_,_,_,_]) (l₂:=[_])).symm
     have q12:=s10.rules 1 rfl
     have eo:=OpT.len o
     simp (disch:=first|omega|exact zF rfl|exact zG rfl|exact id|(simp only[zA,zB,zC,zD,bytesW];omega)) only[go_sem,c15S1,c15S5,c15S6,c15S7,c15S11,c15S17,c15S18,q12]
     refine Ret.mono (answers_ok o s10 (by omega)) ?_
     rintro nv w9 ⟨R,s11,hns⟩
     have s12:=s11.perm (L':=[.blk p6 #[.int .i64 left,.int .i64 0,.int .i64 0] 59,.blk p2 #[.int .i64 ob,.int .i64 kd,.slice a l.length c] 24,.row (.slice oa acc.length oc) 46 2 acc.length (acc.flatMap pairE),.blk p12 o.enc.toArray 38]++.row (.slice va vs.length vc) 3 1 vs.length (vs.flatMap intE)::([.row (.slice (some q) L0.length lc) 38 11 L0.length (L0.flatMap OpT.enc)]++R)) (by
      refine List.perm_middle.trans (List.Perm.cons _ ?_)
      rw [← List.append_assoc]
      refine List.perm_append_comm.trans (List.Perm.append_left R ?_)
      exact List.perm_middle (l₁:=[_,_,_]) (l₂:=[_]))
     have hrn:=hns w9 _ _ (fun r hr=>by
      rcases List.mem_cons.1 hr with rfl | hr
      ·simp
      ·simp [hr]) s12
     obtain ⟨na,nc,rfl,_⟩:=hrn.form
     have hnl:=ans_len o vs
     have hnok:=ans_ok (o:=o) hvok
     generalize ansP o vs=ns at hall hns hrn hnl hnok ⊢
     simp (disch:=first|omega|exact zF rfl|exact zG rfl|exact id|(simp only[zA,zB,zC,zD,bytesW];omega)) only[go_sem,c15S1,c15S5,c15S6,c15S7,c15S11,c15S17,c15S18]
     have s13:St w w9 (fun _=>False) (.blk p6 #[.int .i64 left,.int .i64 0,.int .i64 0] 59::.blk p2 #[.int .i64 ob,.int .i64 kd,.slice a l.length c] 24::.row (.slice oa acc.length oc) 46 2 acc.length (acc.flatMap pairE)::.blk p12 o.enc.toArray 38::.row (.slice va vs.length vc) 3 1 vs.length (vs.flatMap intE)::.row (.slice (some q) L0.length lc) 38 11 L0.length (L0.flatMap OpT.enc)::R) [.rd 11 OpT.enc (.slice a l.length c) l]:=s12
     refine W_loopU (fun x:Value × Nat × Int × List (Int × Int)=>[(8,x.1),(54,.int .i64 x.2.1)]) (fun x w'=>St w w' (fun _=>False) (.blk p6 #[.int .i64 x.2.2.1,.int .i64 0,.int .i64 0] 59::.blk p2 #[.int .i64 ob,.int .i64 kd,.slice a l.length c] 24::.row x.1 46 2 x.2.2.2.length (x.2.2.2.flatMap pairE)::.blk p12 o.enc.toArray 38::.row (.slice va vs.length vc) 3 1 vs.length (vs.flatMap intE)::.row (.slice (some q) L0.length lc) 38 11 L0.length (L0.flatMap OpT.enc)::R) [.rd 11 OpT.enc (.slice a l.length c) l]∧x.2.1≤ns.length∧(-9223372036854775808≤x.2.2.1∧x.2.2.1≤32768)∧x.2.2.2.length≤500 * k+x.2.1∧∀ y,MendR ob kd l ((ns.drop x.2.1).map (fun n=>(o,n))++pairs (L0.drop (k+1)) vs) x.2.2.1 x.2.2.2 y→MendR ob kd l (pairs L0 vs) m [] y) (fun x=>ns.length - x.2.1) (.slice oa acc.length oc,0,left,acc) rfl ⟨s13,Nat.zero_le _,hleft,by simp only; omega,fun y h=>hall y h⟩ ?_
     clear s13 s12 s11 s10 s9 hall hleft hal
     rintro ⟨ov,i,left,acc⟩ w10 ⟨s14,hi,hleft,hal,hall⟩
     simp only at s14 hi hleft hal hall
     obtain ⟨oa,oc,rfl,_⟩:=own_slice (s14.row 2 rfl)
     by_cases hlt3:i<ns.length
     ·have hlt3':(i:Int)<ns.length:=by omega
      have hrn:=hns w10 _ _ (fun r hr=>by
       rcases List.mem_cons.1 hr with rfl | hr
       ·simp
       ·simp [hr]) s14
      obtain ⟨qn,rfl⟩:=hrn.ptr (by omega)
      have en:=hrn.eltB (Below.refl _ _) (fun _=>rfl) (by decide) hlt3
      have ez:(intE ns[i])[0]?=some (.int .i64 ns[i]):=rfl
      rw [Nat.mul_one] at en
      have q2:=s14.rules 1 rfl
      have q12:=s14.rules 3 rfl
      have ao:=o.at
      have hrv:RdS w10 11 OpT.enc (.slice a l.length c) l:=s14.rd 0 rfl
      rw [List.drop_eq_getElem_cons hlt3,List.map_cons,List.cons_append] at hall
      have hnk:=hnok _ (List.getElem_mem hlt3)
      simp (disch:=first|omega|exact zF rfl|exact zG rfl|exact id|(simp only[zA,zB,zC,zD,bytesW];omega)) only[go_sem,c15S1,c15S5,c15S6,c15S11,c15S17,c15S18,hlt3',en,ez,q2,q12,ao]
      refine ⟨by omega,Ret.mono (wout_ok (ob:=ob) (kd:=kd) (d:=o.ID) hrv (by omega)) ?_⟩
      rintro _ w11 ⟨⟨uv,rfl,own11⟩,b11⟩
      have s15:=newRow s14 b11 own11
      obtain ⟨ua,uc,rfl,_⟩:=own_slice own11
      simp (disch:=first|omega|exact zF rfl|exact zG rfl|exact id|(simp only[zA,zB,zC,zD,bytesW];omega)) only[go_sem,c15S1,c15S5,c15S6,c15S11,c15S17,c15S18]
      have s16:=s15.box #[.int .i64 ob,.int .i64 kd,.slice ua (wo l o.ID).length uc] 24
      generalize w11.heap.size=p15 at s16 ⊢
      generalize w11.alloc (.cells #[.int .i64 ob,.int .i64 kd,.slice ua (wo l o.ID).length uc] 24)=w12 at s16 ⊢
      have q12':=s16.rules 5 rfl
      have eo:=OpT.len o
      simp (disch:=first|omega|exact zF rfl|exact zG rfl|exact id|(simp only[zA,zB,zC,zD,bytesW];omega)) only[go_sem,c15S1,c15S5,c15S7,c15S11,c15S17,c15S18,q12',ao]
      refine ⟨(OpT.len o).symm,?_⟩
      have es:o.enc.set 8 (.int .i64 ns[i])=(setR o ns[i]).enc:=rfl
      rw [es]
      have s17:=s16.box (setR o ns[i]).enc.toArray 38
      generalize w12.heap.size=p16 at s17 ⊢
      generalize w12.alloc (.cells (setR o ns[i]).enc.toArray 38)=w13 at s17 ⊢
      have q15:=s17.rules 1 rfl
      have q16:=s17.rules 0 rfl
      have ey:=OpT.len (setR o ns[i])
      simp (disch:=first|omega|exact zF rfl|exact zG rfl|exact id|(simp only[zA,zB,zC,zD,bytesW];omega)) only[go_sem,c15S1,c15S5,c15S7,c15S11,c15S17,c15S18,q15,q16]
      refine bsW_agg ty22mkI rfl (by decide) (by decide) ?_
      have hrd:Rd (w13.alloc (.cells (setR o ns[i]).enc.toArray 38)) 11 (.slice (some ⟨w13.heap.size,0,none⟩) 1 1) 1 (setR o ns[i]).enc:=rd_new (t:=38) (sz:=11) (n:=1) (cs:=(setR o ns[i]).enc.toArray) rfl
      have s18:=s17.alloc' (.cells (setR o ns[i]).enc.toArray 38)
      generalize w13.alloc (.cells (setR o ns[i]).enc.toArray 38)=w14 at s18 hrd ⊢
      simp (disch:=first|omega|exact zF rfl|exact zG rfl|exact id|(simp only[zA,zB,zC,zD,bytesW];omega)) only[go_sem,c15S1,c15S5,c15S7,c15S11,c15S17,c15S18]
      have hwl:=wo_len_le l o.ID
      refine s18.append 2 rfl ty22mkI rfl (by decide) hrd (setR o ns[i]).one (by omega) (by omega) ?_
      intro v15 w15 s19 _
      obtain ⟨e1,e2⟩:=len_flat_snoc (wo l o.ID) (setR o ns[i])
      simp only [List.set_cons_succ,List.set_cons_zero] at s19
      rw [← e1,← e2] at s19
      obtain ⟨xa,xc,rfl,_⟩:=own_slice (s19.row 2 rfl)
      have q15:=s19.rules 1 rfl
      simp (disch:=first|omega|exact zF rfl|exact zG rfl|exact id|(simp only[zA,zB,zC,zD,bytesW];omega)) only[go_sem,c15S1,c15S5,c15S7,c15S11,c15S17,c15S18,q15]
      have s20:=s19.set 1 rfl 2 (.slice xa (wo l o.ID++[setR o ns[i]]).length xc)
      generalize w15.setCell ⟨p15,2,none⟩ (.slice xa (wo l o.ID++[setR o ns[i]]).length xc)=w16 at s20 ⊢
      have q12b:=s20.rules 6 rfl
      have q15b:=s20.rules 1 rfl
      by_cases hsame:ns[i]=o.Result
      ·simp (disch:=first|omega|exact zF rfl|exact zG rfl|exact id|(simp only[zA,zB,zC,zD,bytesW];omega)) only[go_sem,c15S1,c15S5,c15S6,c15S7,c15S11,c15S17,c15S18,q12b,ao,hsame]
       exact ⟨⟨by omega,by omega⟩,(.slice oa acc.length oc,i+1,left,acc),rfl,⟨s20.sub (.cons _ (.cons _ (.cons _ (List.Sublist.refl _)))),hlt3,hleft,by simp only; omega,fun y h=>hall y (.same hsame h)⟩,by simp only; omega⟩
      ·simp (disch:=first|omega|exact zF rfl|exact zG rfl|exact id|(simp only[zA,zB,zC,zD,bytesW];omega)) only[go_sem,c15S1,c15S6,c15S7,c15S11,c15S17,c15S18,q12b,ao,hsame,q15b]
       have s21:=s20.perm (List.perm_middle (l₁:=[_,_,_])).symm
       have hrx:RdS w16 11 OpT.enc (.slice xa (wo l o.ID++[setR o ns[i]]).length xc) (wo l o.ID++[setR o ns[i]]):=RdS.of_own (s20.row 2 rfl)
       have hmx:∀ x∈wo l o.ID++[setR o ns[i]],x.Kind=kd∧x.wf:=fun x hx=>by
        rcases List.mem_append.1 hx with hx | hx
        ·have:=(List.mem_filter.1 hx).1
         exact ⟨hK x this,hw x this⟩
        ·rw [List.mem_singleton] at hx
         subst hx
         exact ⟨hK o hol,setR_wf (hw o hol) hnk⟩
       have hlx:(wo l o.ID++[setR o ns[i]]).length≤10:=by rw [List.length_append,List.length_singleton]; omega
       refine Ret.mono (explained_ok (ob:=ob) (kd:=kd) s21 hrx hlx (fun x hx=>(hmx x hx).1) (fun x hx=>(hmx x hx).2) hleft) ?_
       rintro _ w17 ⟨av,m2,e,rfl,hask2,s22⟩
       have hl2:=hask2.low
       have hg2:=hask2.ge (B:=-9223372036854775808) (by decide) hleft.1
       simp only at hl2 hg2
       have s23:=s22.sub (L':=.blk p6 #[.int .i64 m2,.int .i64 0,.int .i64 (if e=0 then 0 else e)] 59::.blk p2 #[.int .i64 ob,.int .i64 kd,.slice a l.length c] 24::.row (.slice oa acc.length oc) 46 2 acc.length (acc.flatMap pairE)::.blk p12 o.enc.toArray 38::.row (.slice va vs.length vc) 3 1 vs.length (vs.flatMap intE)::.row (.slice (some q) L0.length lc) 38 11 L0.length (L0.flatMap OpT.enc)::R) (.cons_cons _ (.cons _ (.cons _ (.cons _ (List.Sublist.refl _)))))
       have q6:=s23.rules 0 rfl
       have q12c:=s23.rules 3 rfl
       have qd6:=s23.drew.rules 0 rfl
       by_cases he:e=0
       ·subst he
        simp only [if_true] at s23 q6 qd6
        cases av with
        | false =>
         simp (disch:=first|omega|exact zF rfl|exact zG rfl|exact id|(simp only[zA,zB,zC,zD,bytesW];omega)) only[go_sem,c15S1,c15S5,c15S6,c15S7,c15S11,c15S17,c15S18]
         exact ⟨⟨by omega,by omega⟩,(.slice oa acc.length oc,i+1,m2,acc),rfl,⟨s23,hlt3,⟨hg2,by simp only; omega⟩,by simp only; omega,fun y h=>hall y (.no hsame hask2 h)⟩,by simp only; omega⟩
        | true =>
         simp (disch:=first|omega|exact zF rfl|exact zG rfl|exact id|(simp only[zA,zB,zC,zD,bytesW];omega)) only[go_sem,c15S1,c15S5,c15S6,c15S7,c15S11,c15S17,c15S18,q6,q12c,ao]
         refine bdW_built (cells:=#[.int .i64 o.ID,.int .i64 ns[i]]) (by kernel_rfl) ?_
         simp (disch:=first|omega|exact zF rfl|exact zG rfl|exact id|(simp only[zA,zB,zC,zD,bytesW];omega)) only[go_sem,c15S1,c15S5,c15S6,c15S7,c15S11,c15S17,c15S18]
         refine bsW_agg ty42mkI rfl (by decide) (by decide) ?_
         have hrd2:Rd (w17.alloc (.cells #[.int .i64 o.ID,.int .i64 ns[i]] 46)) 2 (.slice (some ⟨w17.heap.size,0,none⟩) 1 1) 1 (pairE (o.ID,ns[i])):=rd_new (t:=46) (sz:=2) (n:=1) (cs:=#[.int .i64 o.ID,.int .i64 ns[i]]) rfl
         have s24:=s23.alloc' (.cells #[.int .i64 o.ID,.int .i64 ns[i]] 46)
         generalize w17.alloc (.cells #[.int .i64 o.ID,.int .i64 ns[i]] 46)=w18 at s24 hrd2 ⊢
         simp (disch:=first|omega|exact zF rfl|exact zG rfl|exact id|(simp only[zA,zB,zC,zD,bytesW];omega)) only[go_sem,c15S1,c15S5,c15S6,c15S7,c15S11,c15S17,c15S18]
         refine s24.append 2 rfl ty42mkI rfl (by decide) hrd2 (fun u hu=>by simp only [pairE,List.mem_cons,List.not_mem_nil,or_false] at hu; rcases hu with rfl | rfl <;> rfl) (by omega) (by omega) ?_
         intro v19 w19 s25 _
         have f1:(acc++[(o.ID,ns[i])]).length=acc.length+1:=by simp
         have f2:(acc++[(o.ID,ns[i])]).flatMap pairE=acc.flatMap pairE++pairE (o.ID,ns[i]):=by rw [List.flatMap_append]; simp
         simp only [List.set_cons_succ,List.set_cons_zero] at s25
         rw [← f1,← f2] at s25
         simp (disch:=first|omega|exact zF rfl|exact zG rfl|exact id|(simp only[zA,zB,zC,zD,bytesW];omega)) only[go_sem,c15S1,c15S5,c15S6,c15S7,c15S11,c15S17,c15S18]
         exact ⟨⟨by omega,by omega⟩,(v19,i+1,m2,acc++[(o.ID,ns[i])]),rfl,⟨s25,hlt3,⟨hg2,by simp only; omega⟩,by simp only; rw [f1]; omega,fun y h=>hall y (.yes hsame hask2 h)⟩,by simp only; omega⟩
       ·have hav:av=true:=by
         rcases hask2.err with h | h
         ·exact absurd h he
         ·exact h.2
        subst hav
        rw [if_neg he] at s23 q6 qd6
        simp (disch:=first|omega|exact zF rfl|exact zG rfl|exact id|(simp only[zA,zB,zC,zD,bytesW];omega)) only[go_sem,c15S1,c15S5,c15S6,c15S7,c15S11,c15S17,c15S18,q6,he]
        refine c15draw1 ?_
        simp (disch:=first|omega|exact zF rfl|exact zG rfl|exact id|(simp only[zA,zB,zC,zD,bytesW];omega)) only[go_sem,c15S1,c15S5,c15S6,c15S7,c15S11,c15S17,c15S18,c15D1,qd6]
        exact ⟨⟨([],e),.mend hask hL0 hvs (hall _ (.err hsame hask2 he)),_,rfl,rd_nil2 _,by simp⟩,hbel s23.drew⟩
     ·have hlt3':¬ (i:Int)<ns.length:=by omega
      obtain rfl:i=ns.length:=by omega
      simp (disch:=first|omega|exact zF rfl|exact zG rfl|exact id|(simp only[zA,zB,zC,zD,bytesW];omega)) only[go_sem,c15S1,c15S5,c15S6,c15S7,c15S11,c15S17,c15S18,hlt3']
      rw [List.drop_length,List.map_nil,List.nil_append] at hall
      have s15:=s14.sub (L':=[.blk p6 #[.int .i64 left,.int .i64 0,.int .i64 0] 59,.blk p2 #[.int .i64 ob,.int .i64 kd,.slice a l.length c] 24,.row (.slice oa acc.length oc) 46 2 acc.length (acc.flatMap pairE),.row (.slice va vs.length vc) 3 1 vs.length (vs.flatMap intE),.row (.slice (some q) L0.length lc) 38 11 L0.length (L0.flatMap OpT.enc)]) (.cons_cons _ (.cons_cons _ (.cons_cons _ (.cons _ (.cons_cons _ (.cons_cons _ (List.nil_sublist _)))))))
      exact ⟨⟨by omega,by omega⟩,(.slice oa acc.length oc,k+1,left,acc),rfl,⟨s15,hlt,hleft,by simp only; omega,hall⟩,by simp only; omega⟩
   ·have hlt':¬ (k:Int)<L0.length:=by omega
    obtain rfl:k=L0.length:=by omega
    simp (disch:=first|omega|exact zF rfl|exact zG rfl|exact id|(simp only[zA,zB,zC,zD,bytesW];omega)) only[go_sem,c15S1,c15S5,c15S6,c15S7,c15S11,c15S17,c15S18,hlt']
    rw [List.drop_length] at hall
    exact ⟨⟨(acc,0),.mend hask hL0 hvs (hall _ .nil),_,rfl,RdS.of_own' (s8.row 2 rfl) acc rfl rfl,by simp only; omega⟩,hbel s8⟩
 ·rw [if_neg he] at s4 q4 qd4
  have hav:av=true:=by
   rcases hask.err with h | h
   ·exact absurd h he
   ·exact h.2
  subst hav
  simp (disch:=first|omega|exact zF rfl|exact zG rfl|exact id|(simp only[zA,zB,zC,zD,bytesW];omega)) only[go_sem,c15S1,c15S5,c15S6,c15S7,c15S11,c15S17,c15S18,q4]
  refine c15draw0 ?_
  simp (disch:=first|omega|exact zF rfl|exact zG rfl|exact id|(simp only[zA,zB,zC,zD,bytesW];omega)) only[go_sem,c15S1,c15S5,c15S6,c15S7,c15S11,c15S17,c15S18,c15D0,qd4]
  exact ⟨⟨([],e),.err hask he,_,rfl,rd_nil2 _,by simp⟩,hbel s4.drew⟩
open Go Go.Ann Go.RowKit
theorem Uniq.single(s:List Int):Uniq [s] [s]:=⟨by simp,fun _=>Iff.rfl⟩
theorem stepA{o:OpT}{s s':List Int}{bs:List (List OpT)}{left:Int}{r:Bool × Int × Int}(hb:bfsN [o] (startP 1 [s]) 2=[([false],s),([true],s')])(hd:o.Done=true)(h:2≤left)(k:AskR bs [s'] (left - 2) r):AskR ([o]::bs) [s] left r:=by
 refine .go (Uniq.single s) (T:=[([false],s),([true],s')]) ⟨⟨2,hb,by simp⟩,by simp; omega⟩ (X:=[s']) ?_ (by simp) (by simpa using k)
 have e:outs [o] [([false],s),([true],s')]=[s']:=by
  simp [outs,fullP,hd]
 rw [e]
 exact Uniq.single s'
theorem stopA{o:OpT}{s:List Int}{bs:List (List OpT)}{left:Int}(hb:bfsN [o] (startP 1 [s]) 2=[([false],s)])(hd:o.Done=true)(h:2≤left):AskR ([o]::bs) [s] left (false,left - 1,0):=by
 have e:outs [o] [([false],s)]=[]:=by
  simp [outs,fullP,hd]
 have:=AskR.stop (bs:=bs) (Uniq.single s) (left:=left) (T:=[([false],s)]) (b:=[o]) ⟨⟨2,hb,by simp⟩,by simp; omega⟩ (by
  have h2:=e
  unfold outs at h2
  show Uniq (outs [o] [([false],s)]) []
  rw [e]
  exact ⟨List.Pairwise.nil,fun _=>Iff.rfl⟩)
 simpa using this
def e1:OpT:=⟨1,0,0,1,2,1,0,true,0,0,1⟩
def e2:OpT:=⟨2,0,0,1,2,2,0,true,0,2,3⟩
def e3(r:Int):OpT:=⟨3,0,0,1,1,0,0,true,r,4,5⟩
theorem ask_of{l:List OpT}{left:Int}{r:Bool × Int × Int}(bs:List (List OpT))(hs:l.Pairwise fun a b=>¬ Cut.earI b a<0)(hb:segsO 0 1 l=bs)(k:AskR bs [[0]] left r):Ask 0 1 l left r:=⟨l,⟨List.Perm.refl _,hs⟩,by rw [hb]; exact k⟩
theorem ax123:Ask 0 1 [e1,e2,e3 1] 999 (false,994,0) :=
 ask_of [[e1],[e2],[e3 1]] (by decide) (by kernel_rfl) (stepA (s':=[1]) (by kernel_rfl) rfl (by decide) (stepA (s':=[2]) (by kernel_rfl) rfl (by decide) (stopA (by kernel_rfl) rfl (by decide))))
theorem ax12:Ask 0 1 [e1,e2] 994 (true,990,0) :=
 ask_of [[e1],[e2]] (by decide) (by kernel_rfl) (stepA (s':=[1]) (by kernel_rfl) rfl (by decide) (stepA (s':=[2]) (by kernel_rfl) rfl (by decide) .nil))
theorem ax13:Ask 0 1 [e1,e3 1] 990 (true,986,0) :=
 ask_of [[e1],[e3 1]] (by decide) (by kernel_rfl) (stepA (s':=[1]) (by kernel_rfl) rfl (by decide) (stepA (s':=[1]) (by kernel_rfl) rfl (by decide) .nil))
theorem ax23:Ask 0 1 [e2,e3 1] 986 (false,983,0) :=
 ask_of [[e2],[e3 1]] (by decide) (by kernel_rfl) (stepA (s':=[2]) (by kernel_rfl) rfl (by decide) (stopA (by kernel_rfl) rfl (by decide)))
theorem ax2:Ask 0 1 [e2] 983 (true,981,0) :=
 ask_of [[e2]] (by decide) (by kernel_rfl) (stepA (s':=[2]) (by kernel_rfl) rfl (by decide) .nil)
theorem ax3:Ask 0 1 [e3 1] 981 (false,980,0) :=
 ask_of [[e3 1]] (by decide) (by kernel_rfl) (stopA (by kernel_rfl) rfl (by decide))
theorem ax0:Ask 0 1 [] 980 (true,980,0):=ask_of [] (by decide) (by kernel_rfl) .nil
theorem rise_self{l:List OpT}(h:l.Pairwise fun a b=>a.ID<b.ID):Rise l l:=⟨List.Perm.refl _,h⟩
theorem aw_core:CoreR 0 1 [e1,e2,e3 1] 994 0 ([e3 1],6,0) :=
 .more (L:=[e1,e2,e3 1]) (l':=[e2,e3 1]) (m:=983) (n':=3) (rise_self (by decide)) (.keep (i:=3) ax12 (.keep (i:=2) ax13 (.out (i:=1) ax23 .nil))) (by decide)
  (.more (L:=[e2,e3 1]) (l':=[e3 1]) (m:=980) (n':=5) (rise_self (by decide)) (.keep (i:=3) ax2 (.out (i:=2) ax3 .nil)) (by decide)
   (.done (L:=[e3 1]) (l':=[e3 1]) (m:=980) (n':=6) (rise_self (by decide)) (.keep (i:=3) ax0 .nil) rfl))
theorem aw_obj:ObjR 0 1 [e1,e2,e3 1] 999 (some ([e3 1],6),0):=.core ax123 aw_core
theorem aw_m0:Ask 0 1 [e1,e2,e3 0] 994 (false,989,0) :=
 ask_of [[e1],[e2],[e3 0]] (by decide) (by kernel_rfl) (stepA (s':=[1]) (by kernel_rfl) rfl (by decide) (stepA (s':=[2]) (by kernel_rfl) rfl (by decide) (stopA (by kernel_rfl) rfl (by decide))))
theorem aw_m2:Ask 0 1 [e1,e2,e3 2] 989 (true,983,0) :=
 ask_of [[e1],[e2],[e3 2]] (by decide) (by kernel_rfl) (stepA (s':=[1]) (by kernel_rfl) rfl (by decide) (stepA (s':=[2]) (by kernel_rfl) rfl (by decide) (stepA (s':=[2]) (by kernel_rfl) rfl (by decide) .nil)))
theorem aw_vals:Vals [e1,e2,e3 1] [0,1,2]:=⟨by decide,fun x=>by
 have e:rawV [e1,e2,e3 1] 0=[1,0,2,0,0,0]:=rfl
 rw [e]
 simp only [List.mem_cons,List.not_mem_nil,or_false]
 omega⟩
theorem aw_mends:MendO 0 1 [e1,e2,e3 1] 999 ([(3,2)],0) :=
 .mend ax123 (rise_self (by decide)) aw_vals (show MendR 0 1 [e1,e2,e3 1] [(e1,0),(e2,0),(e3 1,0),(e3 1,1),(e3 1,2)] 994 [] ([(3,2)],0) from
  .same rfl (.same rfl (.no (by decide) aw_m0 (.same rfl (.yes (by decide) aw_m2 .nil)))))
theorem aw_pure:Cut.Pure [e1,e2,e3 1]:=by
 intro a ha b hb h
 simp only [List.mem_cons,List.not_mem_nil,or_false] at ha hb
 rcases ha with rfl | rfl | rfl <;> rcases hb with rfl | rfl | rfl <;> first | rfl | exact absurd h (by decide)
open Go Go.Ann Go.RowKit
theorem pure_nodup{l:List OpT}(h:(l.map OpT.ID).Nodup):Cut.Pure l:=by
 induction l with
 | nil=>exact fun a ha=>by cases ha
 | cons x r ih =>
  rw [List.map_cons,List.nodup_cons] at h
  intro a ha b hb e
  rcases List.mem_cons.1 ha with e1 | ha1
  ·rcases List.mem_cons.1 hb with e2 | hb1
   ·rw [e1,e2]
   ·exact absurd (by rw [← e1,e]; exact List.mem_map_of_mem hb1) h.1
  ·rcases List.mem_cons.1 hb with e2 | hb1
   ·exact absurd (by rw [← e2,← e]; exact List.mem_map_of_mem ha1) h.1
   ·exact ih h.2 a ha1 b hb1 e
theorem pure_set{l:List OpT}(hp:Cut.Pure l)(o:OpT)(n:Int):Cut.Pure (wo l o.ID++[setR o n]):=by
 have hne:∀ x∈wo l o.ID,x.ID≠o.ID:=fun x hx=>by
  have:=(List.mem_filter.1 hx).2
  simpa using this
 intro a ha b hb e
 rcases List.mem_append.1 ha with ha | ha
 ·rcases List.mem_append.1 hb with hb | hb
  ·exact Pure.wo hp _ a ha b hb e
  ·rw [List.mem_singleton] at hb
   subst hb
   exact absurd e (hne a ha)
 ·rw [List.mem_singleton] at ha
  subst ha
  rcases List.mem_append.1 hb with hb | hb
  ·exact absurd e.symm (hne b hb)
  ·rw [List.mem_singleton] at hb
   exact hb.symm
theorem MendR.one{ob kd left:Int}{l:List OpT}{r:List (OpT × Int)}{acc:List (Int × Int)}{x y:List (Int × Int) × Int}(hp:Cut.Pure l)(h:MendR ob kd l r left acc x)(k:MendR ob kd l r left acc y):x=y:=by
 induction h with
 | nil=>cases k; rfl
 | same h _ ih =>
  cases k with
  | same _ k=>exact ih k
  | no h'=>exact absurd h h'
  | yes h'=>exact absurd h h'
  | err h'=>exact absurd h h'
 | no h ha _ ih =>
  cases k with
  | same h'=>exact absurd h' h
  | no _ ha' k=>cases ha.one (pure_set hp _ _) ha'; exact ih k
  | yes _ ha'=>cases ha.one (pure_set hp _ _) ha'
  | err _ ha' he=>cases ha.one (pure_set hp _ _) ha'; exact absurd rfl he
 | yes h ha _ ih =>
  cases k with
  | same h'=>exact absurd h' h
  | no _ ha'=>cases ha.one (pure_set hp _ _) ha'
  | yes _ ha' k=>cases ha.one (pure_set hp _ _) ha'; exact ih k
  | err _ ha' he=>cases ha.one (pure_set hp _ _) ha'; exact absurd rfl he
 | err h ha he =>
  cases k with
  | same h'=>exact absurd h' h
  | no _ ha'=>cases ha.one (pure_set hp _ _) ha'; exact absurd rfl he
  | yes _ ha'=>cases ha.one (pure_set hp _ _) ha'; exact absurd rfl he
  | err _ ha'=>cases ha.one (pure_set hp _ _) ha'; rfl
theorem MendO.one{ob kd bud:Int}{l:List OpT}{x y:List (Int × Int) × Int}(hp:Cut.Pure l)(h:MendO ob kd l bud x)(k:MendO ob kd l bud y):x=y:=by
 cases h with
 | err h he =>
  cases k with
  | err h'=>cases h.one hp h'; rfl
  | ok h'=>cases h.one hp h'; exact absurd rfl he
  | mend h'=>cases h.one hp h'; exact absurd rfl he
 | ok h =>
  cases k with
  | err h' he'=>cases h.one hp h'; exact absurd rfl he'
  | ok h'=>rfl
  | mend h'=>cases h.one hp h'
 | mend h hL hv k1 =>
  cases k with
  | err h' he'=>cases h.one hp h'; exact absurd rfl he'
  | ok h'=>cases h.one hp h'
  | mend h' hL' hv' k'=>cases h.one hp h'; cases hL.one hL'; cases hv.one hv'; exact k1.one hp k'
open Go Go.Ann Go.RowKit
theorem opsEq_ok(va vb:Value)(a b:List OpT)(w:World)(ha:RdS w 11 OpT.enc va a)(hb:RdS w 11 OpT.enc vb b)(hl:(a.length:Int)≤9223372036854775806) :
  Ret Tryz.prog 26 [va,vb] w fun v w'=>v=.bool (decide (a=b))∧Below w.heap.size w w':=by
 obtain ⟨pa,ca,rfl,_⟩:=ha.form
 obtain ⟨pb,cb,rfl,_⟩:=hb.form
 refine ent26 _ _ _ _ ?_
 simp (disch:=first|omega|exact zF rfl|exact zG rfl|exact id|(simp only[zA,zB,zC,zD,bytesW];omega)) only[go_sem]
 refine ⟨fun h=>⟨(decide_eq_false fun e=>h (by rw [e])).symm,Below.refl _ _⟩,fun h=>?_⟩
 refine W_loopU (fun k:Nat=>[(5,.int .i64 k)]) (fun k w'=>Below w.heap.size w w'∧k≤a.length∧∀ j,(h1:j<a.length)→(h2:j<b.length)→j<k→a[j]=b[j]) (fun k=>a.length - k) 0 rfl ⟨Below.refl _ _,Nat.zero_le _,fun j _ _ h=>by omega⟩ ?_
 rintro k w1 ⟨hw,hk,he⟩
 by_cases hlt:k<a.length
 ·obtain ⟨p,rfl⟩:=ha.ptr (by omega)
  obtain ⟨q,rfl⟩:=hb.ptr (by omega)
  have ea:=cellsO_below hw (ha.at OpT.len hlt)
  have eb:=cellsO_below hw (hb.at OpT.len (show k<b.length by omega))
  have hlt':(k:Int)<a.length:=by omega
  have hltb:(k:Int)<b.length:=by omega
  have hq:=OpT.eqs a[k] b[k]
  simp (disch:=first|omega|exact zF rfl|exact zG rfl|exact id|(simp only[zA,zB,zC,zD,bytesW];omega)) only[go_sem,hlt',hltb]
  refine c26draw0 ?_
  simp (disch:=first|omega|exact zF rfl|exact zG rfl|exact id|(simp only[zA,zB,zC,zD,bytesW];omega)) only[go_sem,c26D0,ea,eb,hlt',hltb,hq]
  refine ⟨by omega,by omega,fun hne=>⟨(decide_eq_false fun e=>hne (by simp only [e])).symm,by (repeat' (first | with_reducible exact Below.refl _ _ | with_reducible assumption | (with_reducible refine Below.drew ?_) | (with_reducible refine Below.alloc ?_ ?_ _) | (with_reducible refine Below.setCell ?_ ?_ _) | (with_reducible refine Below.fill ?_ ?_) | (with_reducible refine Below.via (by assumption) ?_ ?_) | omega | (simp only [World.size_alloc,World.size_drew,World.size_setCell,size_fill,bytesW]; omega)))⟩,fun heq=>⟨⟨by omega,by omega⟩,k+1,rfl,⟨by (repeat' (first | with_reducible exact Below.refl _ _ | with_reducible assumption | (with_reducible refine Below.drew ?_) | (with_reducible refine Below.alloc ?_ ?_ _) | (with_reducible refine Below.setCell ?_ ?_ _) | (with_reducible refine Below.fill ?_ ?_) | (with_reducible refine Below.via (by assumption) ?_ ?_) | omega | (simp only [World.size_alloc,World.size_drew,World.size_setCell,size_fill,bytesW]; omega))),by omega,fun j h1 h2 h3=>?_⟩,by omega⟩⟩
  rcases Nat.lt_or_ge j k with h' | h'
  ·exact he j h1 h2 h'
  ·obtain rfl:j=k:=by omega
   exact heq
 ·have hlt':¬ (k:Int)<a.length:=by omega
  simp (disch:=first|omega|exact zF rfl|exact zG rfl|exact id|(simp only[zA,zB,zC,zD,bytesW];omega)) only[go_sem,hlt']
  exact ⟨(decide_eq_true (Cut.take_all_eq (by omega) fun j h1 h2=>he j h1 h2 (by omega))).symm,hw⟩
theorem core_ok{w:World}{ob n:Int}{va vb:Value}{L:List OpT}(ha:RdS w 11 OpT.enc va L)(hb:RdS w 11 OpT.enc vb L)(hl:L.length≤1000) :
  Ret Tryz.prog 11 [.agg #[.int .i64 ob,va,.int .i64 n],.agg #[.int .i64 ob,vb,.int .i64 n]] w fun u w'=>u=.bool true∧Below w.heap.size w w':=by
 obtain ⟨a,c,rfl,_⟩:=ha.form
 obtain ⟨a',c',rfl,_⟩:=hb.form
 refine ent11 _ _ _ _ ?_
 have s1:=((St.start (W0:=w)).box #[.int .i64 ob,.slice a L.length c,.int .i64 n] 28).box #[.int .i64 ob,.slice a' L.length c',.int .i64 n] 32
 rw [World.size_alloc] at s1
 have ha1:=ha.below s1.bel (by decide)
 have hb1:=hb.below s1.bel (by decide)
 simp (disch:=first|omega|exact zF rfl|exact zG rfl|exact id|(simp only[zA,zB,zC,zD,bytesW];omega)) only[go_sem]
 generalize (w.alloc (.cells #[.int .i64 ob,.slice a L.length c,.int .i64 n] 28)).alloc (.cells #[.int .i64 ob,.slice a' L.length c',.int .i64 n] 32)=w1 at s1 ha1 hb1 ⊢
 refine Ret.mono (opsEq_ok _ _ L L w1 ha1 hb1 (by omega)) ?_
 rintro _ w2 ⟨rfl,b2⟩
 have s2:=s1.call b2
 have q0:=s2.rules 0 rfl
 have q1:=s2.rules 1 rfl
 rw [decide_eq_true rfl]
 simp (disch:=first|omega|exact zF rfl|exact zG rfl|exact id|(simp only[zA,zB,zC,zD,bytesW];omega)) only[go_sem,q0,q1]
 exact s2.bel
theorem shawake_ok(w:World):Ret Tryz.prog 8 [] w fun u w'=>u=.bool true∧Below w.heap.size w w':=by
 refine ent8 _ _ ?_
 simp (disch:=first|omega|exact zF rfl|exact zG rfl|exact id|(simp only[zA,zB,zC,zD,bytesW];omega)) only[go_sem,c8S0,c8S1]
 refine bdW_built (cells:=e1.enc.toArray) (by kernel_rfl) ?_
 simp (disch:=first|omega|exact zF rfl|exact zG rfl|exact id|(simp only[zA,zB,zC,zD,bytesW];omega)) only[go_sem,c8S0,c8S1]
 refine bdW_built (cells:=e2.enc.toArray) (by kernel_rfl) ?_
 simp (disch:=first|omega|exact zF rfl|exact zG rfl|exact id|(simp only[zA,zB,zC,zD,bytesW];omega)) only[go_sem,c8S0,c8S1]
 refine bdW_built (cells:=(e3 1).enc.toArray) (by kernel_rfl) ?_
 simp (disch:=first|omega|exact zF rfl|exact zG rfl|exact id|(simp only[zA,zB,zC,zD,bytesW];omega)) only[go_sem,c8S0,c8S1]
 refine bsW_cells (cells:=([e1,e2,e3 1].flatMap OpT.enc).toArray) ty22mkI (by decide) (by decide) (by kernel_rfl) ?_
 have hr:RdS (w.alloc (.cells ([e1,e2,e3 1].flatMap OpT.enc).toArray 38)) 11 OpT.enc (.slice (some ⟨w.heap.size,0,none⟩) 3 3) [e1,e2,e3 1]:=rd_new (sz:=11) (n:=3) rfl
 have b1:Below w.heap.size w (w.alloc (.cells ([e1,e2,e3 1].flatMap OpT.enc).toArray 38)):=(Below.refl _ _).alloc (Nat.le_refl _) _
 have hK:∀ o∈[e1,e2,e3 1],o.Kind=1:=by
  intro o ho
  simp only [List.mem_cons,List.not_mem_nil,or_false] at ho
  rcases ho with rfl | rfl | rfl <;> rfl
 have hw:∀ o∈[e1,e2,e3 1],o.wf:=by
  intro o ho
  simp only [List.mem_cons,List.not_mem_nil,or_false] at ho
  rcases ho with rfl | rfl | rfl <;> (refine ⟨?_,?_,?_,?_,?_,?_,?_,?_,?_,?_⟩ <;> exact kOk_small (by decide))
 have hn:([e1,e2,e3 1].map OpT.ID).Nodup:=by decide
 generalize w.alloc (.cells ([e1,e2,e3 1].flatMap OpT.enc).toArray 38)=w1 at hr b1 ⊢
 simp (disch:=first|omega|exact zF rfl|exact zG rfl|exact id|(simp only[zA,zB,zC,zD,bytesW];omega)) only[go_sem,c8S0]
 refine bdW_built (cells:=#[.int .i64 0,.int .i64 1,.slice (some ⟨w.heap.size,0,none⟩) 3 3]) (by kernel_rfl) ?_
 simp (disch:=first|omega|exact zF rfl|exact zG rfl|exact id|(simp only[zA,zB,zC,zD,bytesW];omega)) only[go_sem,c8S0]
 have s2:=(St.start (W0:=w1)).box #[.int .i64 0,.int .i64 1,.slice (some ⟨w.heap.size,0,none⟩) 3 3] 24
 have r2:=s2.rules 0 rfl
 have h2:=hr.below s2.bel (by decide)
 generalize w1.alloc (.cells #[.int .i64 0,.int .i64 1,.slice (some ⟨w.heap.size,0,none⟩) 3 3] 24)=w2 at s2 r2 h2 ⊢
 refine Ret.mono (object_ok (ob:=0) (kd:=1) h2 (by decide) hn hK hw ⟨by decide,by decide⟩) ?_
 rintro u w3 ⟨⟨r,hr3,hv⟩,b3⟩
 have e:=hr3.one aw_pure aw_obj
 subst e
 obtain ⟨vv,rfl,g3⟩:=hv
 have g3:=RdS.of_own g3
 obtain ⟨xa,xc,rfl,_⟩:=g3.form
 have s3:=s2.call b3
 have h3:=h2.below b3 (by decide)
 simp (disch:=first|omega|exact zF rfl|exact zG rfl|exact id|(simp only[zA,zB,zC,zD,bytesW];omega)) only[go_sem,c8S0]
 have s4:=s3.box #[.int .i64 0,.slice xa 1 xc,.int .i64 6] 28
 have b4:Below w3.heap.size w3 (w3.alloc (.cells #[.int .i64 0,.slice xa 1 xc,.int .i64 6] 28)):=(Below.refl _ _).alloc (Nat.le_refl _) _
 have g4:=g3.below b4 (by decide)
 have h4:=h3.below b4 (by decide)
 generalize w3.alloc (.cells #[.int .i64 0,.slice xa 1 xc,.int .i64 6] 28)=w4 at s4 b4 g4 h4 ⊢
 have r4:=s4.rules 1 rfl
 simp (disch:=first|omega|exact zF rfl|exact zG rfl|exact id|(simp only[zA,zB,zC,zD,bytesW];omega)) only[go_sem,c8S1,r4]
 refine Ret.mono (mends_ok (ob:=0) (kd:=1) h4 (by decide) hn hK hw ⟨by decide,by decide⟩) ?_
 rintro u w5 ⟨⟨r,hr5,hv⟩,b5⟩
 have e:=hr5.one aw_pure aw_mends
 subst e
 obtain ⟨vv,rfl,g5,_⟩:=hv
 obtain ⟨ya,yc,rfl,_⟩:=g5.form
 obtain ⟨yp,rfl⟩:=g5.ptr (show 0<1 by decide)
 have s5:=s4.call b5
 have f5:=g4.below b5 (by decide)
 obtain ⟨xp,rfl⟩:=f5.ptr (show 0<1 by decide)
 have r5:=s5.rules 0 rfl
 have k1:=f5.eltB (Below.refl _ _) OpT.len (by decide) (show 0 < [e3 1].length by decide)
 have k2:=g5.eltB (Below.refl _ _) pairE_len (by decide) (show 0 < [((3:Int),(2:Int))].length by decide)
 have a1:=(e3 1).at
 have z:∀ a:Addr,a.add 0=a:=fun a=>by unfold Addr.add; rw [if_pos rfl]
 rw [Nat.zero_mul,z] at k1 k2
 have k1':w5.cell? xp=some (.int .i64 3):=k1.1
 have k2':w5.cell? yp=some (.int .i64 3):=k2.1
 have k3':w5.cell? ⟨yp.block,yp.off+1,none⟩=some (.int .i64 2):=k2.2 1 (by decide) (by decide)
 have c2:=g5.at pairE_len (show 0 < [((3:Int),(2:Int))].length by decide)
 rw [Nat.zero_mul,z] at c2
 simp (disch:=first|omega|exact zF rfl|exact zG rfl|exact id|(simp only[zA,zB,zC,zD,bytesW];omega)) only[go_sem,c8S0,c8S1,r5,k1',c2]
 refine bdW_built (cells:=#[.int .i64 3,.int .i64 2]) (by kernel_rfl) ?_
 have ee:aggEq [FK.int,FK.int] (pairE (3,2)) [Value.int IntKind.i64 3,Value.int IntKind.i64 2]=some true:=by kernel_rfl
 simp (disch:=first|omega|exact zF rfl|exact zG rfl|exact id|(simp only[zA,zB,zC,zD,bytesW];omega)) only[go_sem,c8S0,c8S1,r5,k1',ee]
 exact Below.next b1 s5.bel
open Go Go.Ann Go.RowKit
theorem CoreR.len{ob kd:Int}{l:List OpT}{left n:Int}{x:List OpT × Int × Int}(h:CoreR ob kd l left n x):x.1.length≤l.length:=by
 induction h with
 | err=>exact Nat.zero_le _
 | done hL=>rw [hL.1.length_eq]; exact Nat.le_refl _
 | more hL h he k ih=>exact Nat.le_trans ih h.sub.length_le
def coreL(r:Option (List OpT × Int) × Int):List OpT:=match r.1 with | some x=>x.1 | none=>[]
theorem ObjR.len{ob kd bud:Int}{l:List OpT}{r:Option (List OpT × Int) × Int}(h:ObjR ob kd l bud r):(coreL r).length≤l.length:=by
 cases h with
 | err=>exact Nat.zero_le _
 | ok=>exact Nat.zero_le _
 | fail=>exact Nat.zero_le _
 | core _ k=>exact k.len
theorem ObjR.zero{ob kd bud:Int}{l:List OpT}{r:Option (List OpT × Int) × Int}(h:ObjR ob kd l bud r):r.1.isSome=true→r.2=0:=by
 cases h with
 | err=>intro h; cases h
 | ok=>intro h; cases h
 | fail=>intro h; cases h
 | core _ k=>exact fun _=>rfl
open Go Go.Ann Go.RowKit
def fitsP(k m:Int):Bool :=
 if k=1 then decide (1≤m) && decide (m≤3) else if k=2 then decide (m=1) || decide (m=4) || decide (m=5) else if k=3 then decide (m=6) || decide (m=7) else if k=4 then decide (m=8) || decide (m=9) else if k=5 then decide (10≤m) && decide (m≤12) else if k=6 then decide (m=13) || decide (m=14) else false
theorem fits_ok(k m:Int)(w:World):Ret Tryz.prog 75 [.int .i64 k,.int .i64 m] w fun u w'=>u=.bool (fitsP k m)∧w'=w:=by
 refine ent75 _ _ _ _ ?_
 unfold fitsP
 by_cases h1:k=1
 ·simp (disch:=first|omega|exact zF rfl|exact zG rfl|exact id|(simp only[zA,zB,zC,zD,bytesW];omega)) only[go_sem,h1]
  refine ⟨fun h=>?_,fun h=>?_⟩ <;> simp [h] <;> omega
 by_cases h2:k=2
 ·simp (disch:=first|omega|exact zF rfl|exact zG rfl|exact id|(simp only[zA,zB,zC,zD,bytesW];omega)) only[go_sem,h1,h2]
  refine ⟨fun h=>?_,fun h=>?_⟩ <;> simp [*] <;> omega
 by_cases h3:k=3
 ·simp (disch:=first|omega|exact zF rfl|exact zG rfl|exact id|(simp only[zA,zB,zC,zD,bytesW];omega)) only[go_sem,h1,h2,h3]
  refine ⟨fun h=>?_,fun h=>?_⟩ <;> simp [*]
 by_cases h4:k=4
 ·simp (disch:=first|omega|exact zF rfl|exact zG rfl|exact id|(simp only[zA,zB,zC,zD,bytesW];omega)) only[go_sem,h1,h2,h3,h4]
  refine ⟨fun h=>?_,fun h=>?_⟩ <;> simp [*]
 by_cases h5:k=5
 ·simp (disch:=first|omega|exact zF rfl|exact zG rfl|exact id|(simp only[zA,zB,zC,zD,bytesW];omega)) only[go_sem,h1,h2,h3,h4,h5]
  refine ⟨fun h=>?_,fun h=>?_⟩ <;> simp [h] <;> omega
 by_cases h6:k=6
 ·simp (disch:=first|omega|exact zF rfl|exact zG rfl|exact id|(simp only[zA,zB,zC,zD,bytesW];omega)) only[go_sem,h1,h2,h3,h4,h5,h6]
  refine ⟨fun h=>?_,fun h=>?_⟩ <;> simp [*]
 simp (disch:=first|omega|exact zF rfl|exact zG rfl|exact id|(simp only[zA,zB,zC,zD,bytesW];omega)) only[go_sem,h1,h2,h3,h4,h5,h6]
def valP(n:Int):Bool:=decide (0≤n) && decide (n≤1073741824)
theorem value_ok(n:Int)(w:World):Ret Tryz.prog 121 [.int .i64 n] w fun u w'=>u=.bool (valP n)∧w'=w:=by
 refine ent121 _ _ _ ?_
 unfold valP
 simp (disch:=first|omega|exact zF rfl|exact zG rfl|exact id|(simp only[zA,zB,zC,zD,bytesW];omega)) only[go_sem]
 refine ⟨fun h=>?_,fun h=>?_⟩ <;> simp [h] <;> omega
def argsP(o:OpT):Bool :=
 if o.Method=3 then valP o.Arg && valP o.Second else if o.Method=2∨o.Method=6∨o.Method=8∨o.Method=10∨o.Method=11∨o.Method=12 then valP o.Arg && decide (o.Second=0) else decide (o.Arg=0) && decide (o.Second=0)
theorem args_one{o:OpT}{w:World}{g:Nat}{K:Value→World→Prop}(h:Blk w g o.enc.toArray 38)(hK:K (.bool (valP o.Arg && decide (o.Second=0))) w):W Tryz.prog (c76S2 ()) [(1,.pointer (some ⟨g,0,none⟩)),(15,.bool true)] w (blockQ 0 (thenQ Tryz.prog (sg c76S3) (finQ Tryz.prog [.tmp 2] K))):=by
 have ao:=o.at
 have r:=h.rules
 simp (disch:=first|omega|exact zF rfl|exact zG rfl|exact id|(simp only[zA,zB,zC,zD,bytesW];omega)) only[go_sem,c76S2,r,ao]
 refine Ret.mono (value_ok _ _) ?_
 rintro _ _ ⟨rfl,rfl⟩
 cases e:valP o.Arg <;> rw [e] at hK <;> simp (disch:=first|omega|exact zF rfl|exact zG rfl|exact id|(simp only[zA,zB,zC,zD,bytesW];omega)) only[go_sem,c76S2,r,ao] <;> exact hK
theorem args_ok(o:OpT)(w:World):Ret Tryz.prog 76 [.agg o.enc.toArray] w fun u w'=>u=.bool (argsP o)∧Below w.heap.size w w':=by
 refine ent76 _ _ _ ?_
 have s1:=(St.start (W0:=w)).box o.enc.toArray 38
 have r1:=s1.rules 0 rfl
 have ao:=o.at
 unfold argsP
 by_cases h1:o.Method=3
 ·simp (disch:=first|omega|exact zF rfl|exact zG rfl|exact id|(simp only[zA,zB,zC,zD,bytesW];omega)) only[go_sem,c76S2,r1,ao,h1]
  refine Ret.mono (value_ok _ _) ?_
  rintro _ _ ⟨rfl,rfl⟩
  cases e:valP o.Arg
  ·simp (disch:=first|omega|exact zF rfl|exact zG rfl|exact id|(simp only[zA,zB,zC,zD,bytesW];omega)) only[go_sem,c76S2,r1,ao,h1]
   exact ⟨rfl,s1.bel⟩
  ·simp (disch:=first|omega|exact zF rfl|exact zG rfl|exact id|(simp only[zA,zB,zC,zD,bytesW];omega)) only[go_sem,c76S2,r1,ao,h1]
   refine Ret.mono (value_ok _ _) ?_
   rintro _ _ ⟨rfl,rfl⟩
   simp (disch:=first|omega|exact zF rfl|exact zG rfl|exact id|(simp only[zA,zB,zC,zD,bytesW];omega)) only[go_sem,c76S2]
   exact ⟨rfl,s1.bel⟩
 have hb:=s1.blk 0 rfl
 by_cases h2:o.Method=2
 ·simp (disch:=first|omega|exact zF rfl|exact zG rfl|exact id|(simp only[zA,zB,zC,zD,bytesW];omega)) only[go_sem,r1,ao,h1,h2]
  exact args_one hb ⟨rfl,s1.bel⟩
 by_cases h3:o.Method=6
 ·simp (disch:=first|omega|exact zF rfl|exact zG rfl|exact id|(simp only[zA,zB,zC,zD,bytesW];omega)) only[go_sem,r1,ao,h1,h2,h3]
  exact args_one hb ⟨rfl,s1.bel⟩
 by_cases h4:o.Method=8
 ·simp (disch:=first|omega|exact zF rfl|exact zG rfl|exact id|(simp only[zA,zB,zC,zD,bytesW];omega)) only[go_sem,r1,ao,h1,h2,h3,h4]
  exact args_one hb ⟨rfl,s1.bel⟩
 by_cases h5:o.Method=10
 ·simp (disch:=first|omega|exact zF rfl|exact zG rfl|exact id|(simp only[zA,zB,zC,zD,bytesW];omega)) only[go_sem,r1,ao,h1,h2,h3,h4,h5]
  exact args_one hb ⟨rfl,s1.bel⟩
 by_cases h6:o.Method=11
 ·simp (disch:=first|omega|exact zF rfl|exact zG rfl|exact id|(simp only[zA,zB,zC,zD,bytesW];omega)) only[go_sem,r1,ao,h1,h2,h3,h4,h5,h6]
  exact args_one hb ⟨rfl,s1.bel⟩
 by_cases h7:o.Method=12
 ·simp (disch:=first|omega|exact zF rfl|exact zG rfl|exact id|(simp only[zA,zB,zC,zD,bytesW];omega)) only[go_sem,r1,ao,h1,h2,h3,h4,h5,h6,h7]
  exact args_one hb ⟨rfl,s1.bel⟩
 simp (disch:=first|omega|exact zF rfl|exact zG rfl|exact id|(simp only[zA,zB,zC,zD,bytesW];omega)) only[go_sem,c76S2,r1,ao,h1,h2,h3,h4,h5,h6,h7]
 refine ⟨fun h=>?_,fun h=>?_⟩ <;> simp [h,s1.bel]
def bitP(n:Int):Bool:=decide (n=0) || decide (n=1)
def resP(o:OpT):Bool :=
 if o.Method=1 then valP o.Result || decide (o.Kind=2) && valP (0 - o.Result) else if o.Method=3∨o.Method=10∨o.Method=11∨o.Method=12 then bitP o.Result else if o.Method=7∨o.Method=9 then decide (o.Result = -1) || valP o.Result else decide (o.Result=0)
theorem res_bit{o:OpT}{w:World}{g:Nat}{K:Value→World→Prop}{n:Int}(h:Blk w g o.enc.toArray 38)(hK:K (.bool (bitP o.Result)) w):W Tryz.prog (c77S3 ()) [(1,.pointer (some ⟨g,0,none⟩)),(4,.int .i64 n),(21,.bool true)] w (blockQ 0 (thenQ Tryz.prog (sg c77S4) (finQ Tryz.prog [.tmp 2] K))):=by
 have ao:=o.at
 have r:=h.rules
 unfold bitP at hK
 simp (disch:=first|omega|exact zF rfl|exact zG rfl|exact id|(simp only[zA,zB,zC,zD,bytesW];omega)) only[go_sem,c77S2,c77S3,r,ao]
 refine ⟨fun h=>?_,fun h=>?_⟩
 ·rw [decide_eq_false h] at hK; exact hK
 ·rw [decide_eq_true h] at hK; exact hK
theorem res_val{o:OpT}{w:World}{g:Nat}{K:Value→World→Prop}(h:Blk w g o.enc.toArray 38)(hK:K (.bool (decide (o.Result = -1) || valP o.Result)) w):W Tryz.prog (c77S2 ()) [(1,.pointer (some ⟨g,0,none⟩)),(34,.bool true)] w (blockQ 0 (thenQ Tryz.prog (sg c77S4) (finQ Tryz.prog [.tmp 2] K))):=by
 have ao:=o.at
 have r:=h.rules
 by_cases h1:o.Result = -1
 ·rw [decide_eq_true h1] at hK
  simp (disch:=first|omega|exact zF rfl|exact zG rfl|exact id|(simp only[zA,zB,zC,zD,bytesW];omega)) only[go_sem,c77S2,c77S3,r,ao,h1]
  exact hK
 ·rw [decide_eq_false h1] at hK
  simp (disch:=first|omega|exact zF rfl|exact zG rfl|exact id|(simp only[zA,zB,zC,zD,bytesW];omega)) only[go_sem,c77S2,c77S3,r,ao,h1]
  refine Ret.mono (value_ok _ _) ?_
  rintro _ _ ⟨rfl,rfl⟩
  simp (disch:=first|omega|exact zF rfl|exact zG rfl|exact id|(simp only[zA,zB,zC,zD,bytesW];omega)) only[go_sem,c77S2,c77S3]
  exact hK
theorem valP_neg{r:Int}(h:I64 r):valP (IntKind.i64.wrap (0 - r))=valP (0 - r):=by
 by_cases e:r = -9223372036854775808
 ·subst e; decide
 ·have h1:-9223372036854775808≤r∧r≤9223372036854775807:=h
  congr 1
  simp [IntKind.wrap,IntKind.bits,IntKind.signed]
  omega
theorem result_ok(o:OpT)(hw:o.wf)(w:World):Ret Tryz.prog 77 [.agg o.enc.toArray] w fun u w'=>u=.bool (resP o)∧Below w.heap.size w w':=by
 refine ent77 _ _ _ ?_
 have s1:=(St.start (W0:=w)).box o.enc.toArray 38
 have r1:=s1.rules 0 rfl
 have hb:=s1.blk 0 rfl
 have ao:=o.at
 have hr:I64 o.Result:=by
  have h:=hw.2.2.2.2.2.2.2.1
  unfold kOk at h
  simp [Lit.wf,IntKind.min,IntKind.max,IntKind.signed,IntKind.bits] at h
  exact h
 unfold resP
 by_cases h1:o.Method=1
 ·simp (disch:=first|omega|exact zF rfl|exact zG rfl|exact id|(simp only[zA,zB,zC,zD,bytesW];omega)) only[go_sem,c77S2,c77S3,r1,ao,h1]
  refine Ret.mono (value_ok _ _) ?_
  rintro _ _ ⟨rfl,rfl⟩
  cases e:valP o.Result
  ·by_cases h2:o.Kind=2
   ·simp (disch:=first|omega|exact zF rfl|exact zG rfl|exact id|(simp only[zA,zB,zC,zD,bytesW];omega)) only[go_sem,c77S2,c77S3,r1,ao,h1,h2]
    refine Ret.mono (value_ok _ _) ?_
    rintro _ _ ⟨rfl,rfl⟩
    simp (disch:=first|omega|exact zF rfl|exact zG rfl|exact id|(simp only[zA,zB,zC,zD,bytesW];omega)) only[go_sem,c77S2,c77S3]
    rw [valP_neg hr]
    exact ⟨by simp,s1.bel⟩
   ·simp (disch:=first|omega|exact zF rfl|exact zG rfl|exact id|(simp only[zA,zB,zC,zD,bytesW];omega)) only[go_sem,c77S2,c77S3,r1,ao,h1,h2]
    exact ⟨by simp [h2],s1.bel⟩
  ·simp (disch:=first|omega|exact zF rfl|exact zG rfl|exact id|(simp only[zA,zB,zC,zD,bytesW];omega)) only[go_sem,c77S2,c77S3,r1,ao,h1]
   exact ⟨by simp,s1.bel⟩
 by_cases h2:o.Method=3
 ·simp (disch:=first|omega|exact zF rfl|exact zG rfl|exact id|(simp only[zA,zB,zC,zD,bytesW];omega)) only[go_sem,c77S2,r1,ao,h1,h2]
  exact res_bit hb ⟨rfl,s1.bel⟩
 by_cases h3:o.Method=10
 ·simp (disch:=first|omega|exact zF rfl|exact zG rfl|exact id|(simp only[zA,zB,zC,zD,bytesW];omega)) only[go_sem,c77S2,r1,ao,h1,h2,h3]
  exact res_bit hb ⟨rfl,s1.bel⟩
 by_cases h4:o.Method=11
 ·simp (disch:=first|omega|exact zF rfl|exact zG rfl|exact id|(simp only[zA,zB,zC,zD,bytesW];omega)) only[go_sem,c77S2,r1,ao,h1,h2,h3,h4]
  exact res_bit hb ⟨rfl,s1.bel⟩
 by_cases h5:o.Method=12
 ·simp (disch:=first|omega|exact zF rfl|exact zG rfl|exact id|(simp only[zA,zB,zC,zD,bytesW];omega)) only[go_sem,c77S2,r1,ao,h1,h2,h3,h4,h5]
  exact res_bit hb ⟨rfl,s1.bel⟩
 by_cases h6:o.Method=7
 ·simp (disch:=first|omega|exact zF rfl|exact zG rfl|exact id|(simp only[zA,zB,zC,zD,bytesW];omega)) only[go_sem,c77S3,r1,ao,h1,h2,h3,h4,h5,h6]
  exact res_val hb ⟨rfl,s1.bel⟩
 by_cases h7:o.Method=9
 ·simp (disch:=first|omega|exact zF rfl|exact zG rfl|exact id|(simp only[zA,zB,zC,zD,bytesW];omega)) only[go_sem,c77S3,r1,ao,h1,h2,h3,h4,h5,h6,h7]
  exact res_val hb ⟨rfl,s1.bel⟩
 simp (disch:=first|omega|exact zF rfl|exact zG rfl|exact id|(simp only[zA,zB,zC,zD,bytesW];omega)) only[go_sem,c77S2,c77S3,r1,ao,h1,h2,h3,h4,h5,h6,h7]
 exact s1.bel
def chkP(o:OpT):Int :=
 if o.ID<1∨o.ID > 1073741824∨o.Proc<0∨o.Proc > 1023∨o.Object<0∨o.Object > 1023 then 30
 else if fitsP o.Kind o.Method=false∨argsP o=false∨(o.Done=true∧resP o=false)∨(o.Done=false∧o.Result≠0) then 33
 else if o.Invoke<0∨o.Invoke > 1099511627776∨(o.Done=true∧(o.Return≤o.Invoke∨o.Return > 1099511627776))∨(o.Done=false∧o.Return≠0) then 31 else 0
theorem opCheck_ok(o:OpT)(hw:o.wf)(w:World):Ret Tryz.prog 52 [.agg o.enc.toArray] w fun u w'=>u=.int .i64 (chkP o)∧Below w.heap.size w w':=by
 refine ent52 _ _ _ ?_
 have s1:=(St.start (W0:=w)).box o.enc.toArray 38
 have r1:=s1.rules 0 rfl
 have ao:=o.at
 unfold chkP
 by_cases h1:o.ID<1∨o.ID > 1073741824∨o.Proc<0∨o.Proc > 1023∨o.Object<0∨o.Object > 1023
 ·rw [if_pos h1]
  by_cases a1:o.ID<1
  ·simp (disch:=first|omega|exact zF rfl|exact zG rfl|exact id|(simp only[zA,zB,zC,zD,bytesW];omega)) only[go_sem,c52S0,r1,ao,a1]
   exact s1.bel
  by_cases a2:o.ID > 1073741824
  ·simp (disch:=first|omega|exact zF rfl|exact zG rfl|exact id|(simp only[zA,zB,zC,zD,bytesW];omega)) only[go_sem,c52S0,r1,ao,a1,a2]
   exact s1.bel
  by_cases a3:o.Proc<0
  ·simp (disch:=first|omega|exact zF rfl|exact zG rfl|exact id|(simp only[zA,zB,zC,zD,bytesW];omega)) only[go_sem,c52S0,r1,ao,a1,a2,a3]
   exact s1.bel
  by_cases a4:o.Proc > 1023
  ·simp (disch:=first|omega|exact zF rfl|exact zG rfl|exact id|(simp only[zA,zB,zC,zD,bytesW];omega)) only[go_sem,c52S0,r1,ao,a1,a2,a3,a4]
   exact s1.bel
  by_cases a5:o.Object<0
  ·simp (disch:=first|omega|exact zF rfl|exact zG rfl|exact id|(simp only[zA,zB,zC,zD,bytesW];omega)) only[go_sem,c52S0,r1,ao,a1,a2,a3,a4,a5]
   exact s1.bel
  have a6:o.Object > 1023:=by omega
  simp (disch:=first|omega|exact zF rfl|exact zG rfl|exact id|(simp only[zA,zB,zC,zD,bytesW];omega)) only[go_sem,c52S0,r1,ao,a1,a2,a3,a4,a5,a6]
  exact s1.bel
 rw [if_neg h1]
 have a1:¬ o.ID<1:=by omega
 have a2:¬ o.ID > 1073741824:=by omega
 have a3:¬ o.Proc<0:=by omega
 have a4:¬ o.Proc > 1023:=by omega
 have a5:¬ o.Object<0:=by omega
 have a6:¬ o.Object > 1023:=by omega
 simp (disch:=first|omega|exact zF rfl|exact zG rfl|exact id|(simp only[zA,zB,zC,zD,bytesW];omega)) only[go_sem,r1,ao,a1,a2,a3,a4,a5,a6]
 refine Ret.mono (fits_ok _ _ _) ?_
 rintro _ _ ⟨rfl,rfl⟩
 have bad:∀ w',Below w.heap.size w w'→W Tryz.prog (c52S0 ()) [(1,.pointer (some ⟨w.heap.size,0,none⟩)),(32,.bool true)] w' (blockQ 0 (thenQ Tryz.prog (sg c52S1) (finQ Tryz.prog [.tmp 2] fun u w'=>u=.int .i64 33∧Below w.heap.size w w'))):=fun w' hb=>by
  simp (disch:=first|omega|exact zF rfl|exact zG rfl|exact id|(simp only[zA,zB,zC,zD,bytesW];omega)) only[go_sem,c52S0]
  exact hb
 have good:∀ w',Blk w' w.heap.size o.enc.toArray 38→Below w.heap.size w w'→W Tryz.prog (c52S0 ()) [(1,.pointer (some ⟨w.heap.size,0,none⟩)),(32,.bool false)] w' (blockQ 0 (thenQ Tryz.prog (sg c52S1) (finQ Tryz.prog [.tmp 2] fun u w'=>u=.int .i64 (if o.Invoke<0∨o.Invoke > 1099511627776∨(o.Done=true∧(o.Return≤o.Invoke∨o.Return > 1099511627776))∨(o.Done=false∧o.Return≠0) then 31 else 0)∧Below w.heap.size w w'))):=fun w' hB hb=>by
  have r:=hB.rules
  by_cases t1:o.Invoke<0
  ·simp (disch:=first|omega|exact zF rfl|exact zG rfl|exact id|(simp only[zA,zB,zC,zD,bytesW];omega)) only[go_sem,c52S0,r,ao,t1]
   exact ⟨by simp,hb⟩
  by_cases t2:o.Invoke > 1099511627776
  ·simp (disch:=first|omega|exact zF rfl|exact zG rfl|exact id|(simp only[zA,zB,zC,zD,bytesW];omega)) only[go_sem,c52S0,r,ao,t1,t2]
   exact ⟨by simp,hb⟩
  cases d:o.Done
  ·by_cases t3:o.Return=0
   ·simp (disch:=first|omega|exact zF rfl|exact zG rfl|exact id|(simp only[zA,zB,zC,zD,bytesW];omega)) only[go_sem,c52S0,r,ao,t1,t2,d,t3]
    exact hb
   ·simp (disch:=first|omega|exact zF rfl|exact zG rfl|exact id|(simp only[zA,zB,zC,zD,bytesW];omega)) only[go_sem,c52S0,r,ao,t1,t2,d,t3]
    exact hb
  ·by_cases t3:o.Return≤o.Invoke
   ·simp (disch:=first|omega|exact zF rfl|exact zG rfl|exact id|(simp only[zA,zB,zC,zD,bytesW];omega)) only[go_sem,c52S0,r,ao,t1,t2,d,t3]
    exact ⟨by simp,hb⟩
   by_cases t4:o.Return > 1099511627776
   ·simp (disch:=first|omega|exact zF rfl|exact zG rfl|exact id|(simp only[zA,zB,zC,zD,bytesW];omega)) only[go_sem,c52S0,r,ao,t1,t2,d,t3,t4]
    exact hb
   ·simp (disch:=first|omega|exact zF rfl|exact zG rfl|exact id|(simp only[zA,zB,zC,zD,bytesW];omega)) only[go_sem,c52S0,r,ao,t1,t2,d,t3,t4]
    exact hb
 cases e1:fitsP o.Kind o.Method
 ·rw [if_pos (.inl rfl)]
  simp (disch:=first|omega|exact zF rfl|exact zG rfl|exact id|(simp only[zA,zB,zC,zD,bytesW];omega)) only[go_sem,r1,ao]
  exact bad _ s1.bel
 simp (disch:=first|omega|exact zF rfl|exact zG rfl|exact id|(simp only[zA,zB,zC,zD,bytesW];omega)) only[go_sem,r1,ao]
 refine Ret.mono (args_ok o _) ?_
 rintro _ w2 ⟨rfl,b2⟩
 have s2:=s1.call b2
 have r2:=s2.rules 0 rfl
 cases e2:argsP o
 ·rw [if_pos (.inl rfl)]
  simp (disch:=first|omega|exact zF rfl|exact zG rfl|exact id|(simp only[zA,zB,zC,zD,bytesW];omega)) only[go_sem,r2,ao]
  exact bad _ s2.bel
 cases d:o.Done
 ·by_cases e3:o.Result=0
  ·simp (disch:=first|omega|exact zF rfl|exact zG rfl|exact id|(simp only[zA,zB,zC,zD,bytesW];omega)) only[go_sem,r2,ao,d,e3]
   have:=good _ (s2.blk 0 rfl) s2.bel
   simp only [d,e3] at this
   simpa using this
  ·simp (disch:=first|omega|exact zF rfl|exact zG rfl|exact id|(simp only[zA,zB,zC,zD,bytesW];omega)) only[go_sem,r2,ao,d,e3]
   exact bad _ s2.bel
 ·simp (disch:=first|omega|exact zF rfl|exact zG rfl|exact id|(simp only[zA,zB,zC,zD,bytesW];omega)) only[go_sem,r2,ao,d]
  refine Ret.mono (result_ok o hw _) ?_
  rintro _ w3 ⟨rfl,b3⟩
  have s3:=s2.call b3
  have r3:=s3.rules 0 rfl
  cases e3:resP o
  ·simp (disch:=first|omega|exact zF rfl|exact zG rfl|exact id|(simp only[zA,zB,zC,zD,bytesW];omega)) only[go_sem,r3,ao,d]
   exact bad _ s3.bel
  ·simp (disch:=first|omega|exact zF rfl|exact zG rfl|exact id|(simp only[zA,zB,zC,zD,bytesW];omega)) only[go_sem,r3,ao,d]
   have:=good _ (s3.blk 0 rfl) s3.bel
   simp only [d] at this
   simpa using this
open Go Go.Ann Go.RowKit
open Cut (Row4 rowsTable rows_ok)
def btw(n a b:Int):Bool:=decide (a≤n) && decide (n≤b)
theorem between_x(n a b:Int)(w:World):Ret Tryz.prog 84 [.int .i64 n,.int .i64 a,.int .i64 b] w fun u w'=>u=.bool (btw n a b)∧w'=w:=by
 refine ent84 _ _ _ _ _ ?_
 unfold btw
 simp (disch:=first|omega|exact zF rfl|exact zG rfl|exact id|(simp only[zA,zB,zC,zD,bytesW];omega)) only[go_sem]
 refine ⟨fun h=>?_,fun h=>?_⟩ <;> simp [h] <;> omega
def ansR(n how:Int):Bool:=if how=0 then decide (n=0) else if how=1 then bitP n else if how=2 then btw n 0 1073741824 else if how=3 then btw n (-1073741824) 1073741824 else btw n (-1) 1073741824
theorem answer_x(n how:Int)(w:World):Ret Tryz.prog 86 [.int .i64 n,.int .i64 how] w fun u w'=>u=.bool (ansR n how)∧w'=w:=by
 refine ent86 _ _ _ _ ?_
 unfold ansR bitP
 by_cases h0:how=0
 ·simp (disch:=first|omega|exact zF rfl|exact zG rfl|exact id|(simp only[zA,zB,zC,zD,bytesW];omega)) only[go_sem,h0]
 by_cases h1:how=1
 ·simp (disch:=first|omega|exact zF rfl|exact zG rfl|exact id|(simp only[zA,zB,zC,zD,bytesW];omega)) only[go_sem,h0,h1]
  refine ⟨fun h=>?_,fun h=>?_⟩ <;> simp [h]
 by_cases h2:how=2
 ·simp (disch:=first|omega|exact zF rfl|exact zG rfl|exact id|(simp only[zA,zB,zC,zD,bytesW];omega)) only[go_sem,h0,h1,h2]
  refine Ret.mono (between_x _ _ _ _) ?_
  rintro _ _ ⟨rfl,rfl⟩
  simp (disch:=first|omega|exact zF rfl|exact zG rfl|exact id|(simp only[zA,zB,zC,zD,bytesW];omega)) only[go_sem]
 by_cases h3:how=3
 ·simp (disch:=first|omega|exact zF rfl|exact zG rfl|exact id|(simp only[zA,zB,zC,zD,bytesW];omega)) only[go_sem,h0,h1,h2,h3]
  refine Ret.mono (between_x _ _ _ _) ?_
  rintro _ _ ⟨rfl,rfl⟩
  simp (disch:=first|omega|exact zF rfl|exact zG rfl|exact id|(simp only[zA,zB,zC,zD,bytesW];omega)) only[go_sem]
 simp (disch:=first|omega|exact zF rfl|exact zG rfl|exact id|(simp only[zA,zB,zC,zD,bytesW];omega)) only[go_sem,h0,h1,h2,h3]
 refine Ret.mono (between_x _ _ _ _) ?_
 rintro _ _ ⟨rfl,rfl⟩
 simp (disch:=first|omega|exact zF rfl|exact zG rfl|exact id|(simp only[zA,zB,zC,zD,bytesW];omega)) only[go_sem]
def rowOf(k m:Int):Option Row4:=rowsTable.find? fun r=>decide (r.kind=k) && decide (r.method=m)
theorem find_atG{α:Type}{p:α→Bool}{l:List α}{k:Nat}(h:k<l.length)(hp:p l[k]=true)(hb:∀ j,(h:j<l.length)→j<k→p l[j]=false):l.find? p=some l[k]:=by
 rw [List.find?_eq_some_iff_append]
 refine ⟨hp,l.take k,l.drop (k+1),?_,fun a ha=>?_⟩
 ·rw [← List.drop_eq_getElem_cons h,List.take_append_drop]
 ·obtain ⟨j,hj,rfl⟩:=List.mem_iff_getElem.1 ha
  rw [List.length_take] at hj
  rw [List.getElem_take,hb j (by omega) (by omega)]
  rfl
theorem find_x(a b:Int)(w:World):Ret Tryz.prog 85 [.int .i64 a,.int .i64 b] w fun v w'=>(∃ r:Row4,v=.tuple #[.agg r.enc.toArray,.bool (rowOf a b).isSome]∧(∀ x,rowOf a b=some x→x=r))∧Below w.heap.size w w':=by
 refine ent85 _ _ _ _ ?_
 simp (disch:=first|omega|exact zF rfl|exact zG rfl|exact id|(simp only[zA,zB,zC,zD,bytesW];omega)) only[go_sem]
 obtain ⟨z,hz⟩:∃ z:Row4,z=⟨0,0,0,0⟩:=⟨_,rfl⟩
 have s1:=(St.start (W0:=w)).box z.enc.toArray 134
 have hzz:#[Value.int .i64 0,.int .i64 0,.int .i64 0,.int .i64 0]=z.enc.toArray:=by rw [hz]; rfl
 rw [hzz]
 generalize w.alloc (.cells z.enc.toArray 134)=w1 at s1 ⊢
 obtain ⟨b0,hb0⟩:∃ b,b=w.heap.size:=⟨_,rfl⟩
 have hbb:∀ w',Below w.heap.size w w'→Below b0 w w':=fun _ h=>by rw [hb0]; exact h
 rw [← hb0] at s1 ⊢
 have az:=z.at
 refine Ret.mono (rows_ok _) ?_
 rintro vt w2 ⟨ht,b2⟩
 obtain ⟨pt,ct,rfl,_⟩:=ht.form
 have s2:=s1.call b2
 simp (disch:=first|omega|exact zF rfl|exact zG rfl|exact id|(simp only[zA,zB,zC,zD,bytesW];omega)) only[go_sem]
 refine W_loopU (fun k:Nat=>[(7,.int .i64 k)]) (fun k w'=>Below w2.heap.size w2 w'∧k≤rowsTable.length∧∀ j,(h:j<rowsTable.length)→j<k→(decide (rowsTable[j].kind=a) && decide (rowsTable[j].method=b))=false) (fun k=>rowsTable.length - k) 0 rfl ⟨Below.refl _ _,Nat.zero_le _,fun j _ h=>by omega⟩ ?_
 rintro k w3 ⟨b3,hk,hall⟩
 have s3:=s2.call b3
 have r3:=s3.rules 0 rfl
 have h3:=ht.below b3 (by decide)
 have b03:=s3.bel
 have hsz:rowsTable.length=15:=rfl
 unfold rowOf at *
 generalize rowsTable=tb at *
 by_cases hlt:k<tb.length
 ·have hlt':(k:Int)<tb.length:=by omega
  obtain ⟨p,rfl⟩:=ht.ptr (by omega)
  have ek:=h3.eltB (Below.refl _ _) Row4.len (by decide) hlt
  have ck:=h3.at Row4.len hlt
  have ak:=tb[k].at
  have nxt:¬ (tb[k].kind=a∧tb[k].method=b)→∀ j,(h:j<tb.length)→j<k+1→(decide (tb[j].kind=a) && decide (tb[j].method=b))=false:=fun hn j hj hjk=>by
   rcases Nat.lt_or_ge j k with h | h
   ·exact hall j hj h
   ·obtain rfl:j=k:=by omega
    rw [Bool.and_eq_false_iff,decide_eq_false_iff_not,decide_eq_false_iff_not]
    omega
  simp (disch:=first|omega|exact zF rfl|exact zG rfl|exact id|(simp only[zA,zB,zC,zD,bytesW];omega)) only[go_sem,hlt',ek,ak,ck,r3,az]
  refine ⟨by omega,fun e1=>⟨by omega,fun e2=>⟨by omega,tb[k].len.symm,Cut.blk_okSt (s3.blk 0 rfl) tb[k].one (Nat.le_refl _),⟨tb[k],?_⟩,hbb _ ((s3.fill 0 rfl (cs:=tb[k].enc.toArray) rfl).bel)⟩,fun e2=>⟨⟨by omega,by omega⟩,k+1,rfl,⟨b3,by omega,nxt (fun h=>e2 h.2)⟩,by omega⟩⟩,fun e1=>⟨⟨by omega,by omega⟩,k+1,rfl,⟨b3,by omega,nxt (fun h=>e1 h.1)⟩,by omega⟩⟩
  have e:tb.find? (fun r=>decide (r.kind=a) && decide (r.method=b))=some tb[k]:=find_atG hlt (by simp [e1,e2]) fun j hj hjk=>hall j hj hjk
  rw [e]
  exact ⟨rfl,fun x hx=>(Option.some.inj hx).symm⟩
 ·have hlt':¬ (k:Int)<tb.length:=by omega
  simp (disch:=first|omega|exact zF rfl|exact zG rfl|exact id|(simp only[zA,zB,zC,zD,bytesW];omega)) only[go_sem,hlt',r3]
  refine bdW_built (cells:=z.enc.toArray) (by rw [hz]; kernel_rfl) ?_
  simp (disch:=first|omega|exact zF rfl|exact zG rfl|exact id|(simp only[zA,zB,zC,zD,bytesW];omega)) only[go_sem,hlt',r3,az]
  have e:tb.find? (fun r=>decide (r.kind=a) && decide (r.method=b))=none:=List.find?_eq_none.2 fun x hx=>by
   obtain ⟨j,hj,rfl⟩:=List.mem_iff_getElem.1 hx
   rw [hall j hj (by omega)]
   exact Bool.false_ne_true
  rw [e]
  exact ⟨z.len.symm,Cut.blk_okSt (s3.blk 0 rfl) z.one (Nat.le_refl _),⟨z,rfl,fun x hx=>by cases hx⟩,hbb _ ((s3.fill 0 rfl (cs:=z.enc.toArray) rfl).bel)⟩
def timeR(o:OpT):Int :=
 if btw o.Invoke 0 1099511627776=false∨(o.Done=false∧o.Return≠0) then 31 else if o.Done=true∧(o.Return≤o.Invoke∨o.Return > 1099511627776) then 31 else 0
theorem chk6{o:OpT}{w:World}{K:Value→World→Prop}{b0:Nat}(h0:Blk w b0 o.enc.toArray 38)(hK:K (.int .i64 (timeR o)) w) :
  W Tryz.prog (c57S6 ()) [(1,.pointer (some ⟨b0,0,none⟩))] w (finQ Tryz.prog [.tmp 2] K):=by
 have r0:=h0.rules
 have ao:=o.at
 unfold timeR at hK
 simp (disch:=first|omega|exact zF rfl|exact zG rfl|exact id|(simp only[zA,zB,zC,zD,bytesW];omega)) only[go_sem,c57S6,c57S8,c57S11,c57S12,r0,ao]
 refine Ret.mono (between_x _ _ _ _) ?_
 rintro _ _ ⟨rfl,rfl⟩
 cases e1:btw o.Invoke 0 1099511627776
 ·rw [e1,if_pos (.inl rfl)] at hK
  simp (disch:=first|omega|exact zF rfl|exact zG rfl|exact id|(simp only[zA,zB,zC,zD,bytesW];omega)) only[go_sem,c57S6,c57S8,c57S11,c57S12,r0,ao]
  exact hK
 cases d:o.Done
 ·by_cases e2:o.Return=0
  ·rw [if_neg (by simp [e1,e2]),if_neg (by simp [d])] at hK
   simp (disch:=first|omega|exact zF rfl|exact zG rfl|exact id|(simp only[zA,zB,zC,zD,bytesW];omega)) only[go_sem,c57S6,c57S8,c57S11,c57S12,r0,ao,d,e2]
   exact hK
  ·rw [if_pos (.inr ⟨d,e2⟩)] at hK
   simp (disch:=first|omega|exact zF rfl|exact zG rfl|exact id|(simp only[zA,zB,zC,zD,bytesW];omega)) only[go_sem,c57S6,c57S8,c57S11,c57S12,r0,ao,d,e2]
   exact hK
 ·rw [if_neg (by simp [e1,d])] at hK
  by_cases e2:o.Return≤o.Invoke
  ·rw [if_pos ⟨d,.inl e2⟩] at hK
   simp (disch:=first|omega|exact zF rfl|exact zG rfl|exact id|(simp only[zA,zB,zC,zD,bytesW];omega)) only[go_sem,c57S6,c57S8,c57S11,c57S12,r0,ao,d,e2]
   exact hK
  by_cases e3:o.Return > 1099511627776
  ·rw [if_pos ⟨d,.inr e3⟩] at hK
   simp (disch:=first|omega|exact zF rfl|exact zG rfl|exact id|(simp only[zA,zB,zC,zD,bytesW];omega)) only[go_sem,c57S6,c57S8,c57S11,c57S12,r0,ao,d,e2,e3]
   exact hK
  ·rw [if_neg (by simp only [d,true_and]; omega)] at hK
   simp (disch:=first|omega|exact zF rfl|exact zG rfl|exact id|(simp only[zA,zB,zC,zD,bytesW];omega)) only[go_sem,c57S6,c57S8,c57S11,c57S12,r0,ao,d,e2,e3]
   exact hK
def rowR(o:OpT)(x:Row4)(a b:Int):Int :=
 if btw o.Arg 0 a=false∨btw o.Second 0 b=false then 33 else if (o.Done=true∧ansR o.Result x.how=false)∨(o.Done=false∧o.Result≠0) then 33 else timeR o
theorem chk8{o:OpT}{r:Row4}{w:World}{K:Value→World→Prop}{b0 b1:Nat}(m n:Int)(h0:Blk w b0 o.enc.toArray 38)(h1:Blk w b1 r.enc.toArray 134)
  (hK:K (.int .i64 (rowR o r m n)) w) :
  W Tryz.prog (c57S8 ()) [(1,.pointer (some ⟨b0,0,none⟩)),(3,.pointer (some ⟨b1,0,none⟩)),(5,.int .i64 m),(6,.int .i64 n)] w (finQ Tryz.prog [.tmp 2] K):=by
 have r0:=h0.rules
 have r1:=h1.rules
 have ao:=o.at
 have ar:=r.at
 unfold rowR at hK
 simp (disch:=first|omega|exact zF rfl|exact zG rfl|exact id|(simp only[zA,zB,zC,zD,bytesW];omega)) only[go_sem,c57S8,c57S11,c57S12,r0,r1,ao,ar]
 refine Ret.mono (between_x _ _ _ _) ?_
 rintro _ _ ⟨rfl,rfl⟩
 cases e1:btw o.Arg 0 m
 ·rw [if_pos (.inl e1)] at hK
  simp (disch:=first|omega|exact zF rfl|exact zG rfl|exact id|(simp only[zA,zB,zC,zD,bytesW];omega)) only[go_sem,c57S8,c57S11,c57S12,r0,r1,ao,ar]
  exact hK
 simp (disch:=first|omega|exact zF rfl|exact zG rfl|exact id|(simp only[zA,zB,zC,zD,bytesW];omega)) only[go_sem,c57S8,c57S11,c57S12,r0,r1,ao,ar]
 refine Ret.mono (between_x _ _ _ _) ?_
 rintro _ _ ⟨rfl,rfl⟩
 cases e2:btw o.Second 0 n
 ·rw [if_pos (.inr e2)] at hK
  simp (disch:=first|omega|exact zF rfl|exact zG rfl|exact id|(simp only[zA,zB,zC,zD,bytesW];omega)) only[go_sem,c57S8,c57S11,c57S12,r0,r1,ao,ar]
  exact hK
 rw [if_neg (by simp [e1,e2])] at hK
 cases d:o.Done
 ·by_cases e3:o.Result=0
  ·rw [if_neg (by simp [d,e3])] at hK
   simp (disch:=first|omega|exact zF rfl|exact zG rfl|exact id|(simp only[zA,zB,zC,zD,bytesW];omega)) only[go_sem,c57S8,c57S11,c57S12,r0,r1,ao,ar,d,e3]
   exact chk6 h0 hK
  ·rw [if_pos (.inr ⟨d,e3⟩)] at hK
   simp (disch:=first|omega|exact zF rfl|exact zG rfl|exact id|(simp only[zA,zB,zC,zD,bytesW];omega)) only[go_sem,c57S8,c57S11,c57S12,r0,r1,ao,ar,d,e3]
   exact hK
 ·simp (disch:=first|omega|exact zF rfl|exact zG rfl|exact id|(simp only[zA,zB,zC,zD,bytesW];omega)) only[go_sem,c57S8,c57S11,c57S12,r0,r1,ao,ar,d]
  refine Ret.mono (answer_x _ _ _) ?_
  rintro _ _ ⟨rfl,rfl⟩
  cases e3:ansR o.Result r.how
  ·rw [if_pos (.inl ⟨d,e3⟩)] at hK
   simp (disch:=first|omega|exact zF rfl|exact zG rfl|exact id|(simp only[zA,zB,zC,zD,bytesW];omega)) only[go_sem,c57S8,c57S11,c57S12,r0,r1,ao,ar,d]
   exact hK
  ·rw [if_neg (by simp [d,e3])] at hK
   simp (disch:=first|omega|exact zF rfl|exact zG rfl|exact id|(simp only[zA,zB,zC,zD,bytesW];omega)) only[go_sem,c57S8,c57S11,c57S12,r0,r1,ao,ar,d]
   exact chk6 h0 hK
def chkR(o:OpT):Int :=
 if btw o.ID 1 1073741824=false∨btw o.Proc 0 1023=false∨btw o.Object 0 1023=false then 30 else match rowOf o.Kind o.Method with
  | none=>33
  | some x=>rowR o x (if 1≤x.args then 1073741824 else 0) (if 2≤x.args then 1073741824 else 0)
theorem checkOp_x(o:OpT)(w:World):Ret Tryz.prog 57 [.agg o.enc.toArray] w fun v w'=>v=.int .i64 (chkR o)∧Below w.heap.size w w':=by
 refine ent57 _ _ _ ?_
 simp (disch:=first|omega|exact zF rfl|exact zG rfl|exact id|(simp only[zA,zB,zC,zD,bytesW];omega)) only[go_sem,c57S6,c57S8,c57S11,c57S12]
 have s1:=(St.start (W0:=w)).box o.enc.toArray 38
 generalize w.alloc (.cells o.enc.toArray 38)=w1 at s1 ⊢
 obtain ⟨b0,hb0⟩:∃ b,b=w.heap.size:=⟨_,rfl⟩
 have hbb:∀ w',Below w.heap.size w w'→Below b0 w w':=fun _ h=>by rw [hb0]; exact h
 rw [← hb0] at s1 ⊢
 have ao:=o.at
 have r1:=s1.rules 0 rfl
 unfold chkR
 simp (disch:=first|omega|exact zF rfl|exact zG rfl|exact id|(simp only[zA,zB,zC,zD,bytesW];omega)) only[go_sem,c57S6,c57S8,c57S11,ao,r1]
 refine Ret.mono (between_x _ _ _ _) ?_
 rintro _ _ ⟨rfl,rfl⟩
 cases e1:btw o.ID 1 1073741824
 ·rw [if_pos (.inl rfl)]
  simp (disch:=first|omega|exact zF rfl|exact zG rfl|exact id|(simp only[zA,zB,zC,zD,bytesW];omega)) only[go_sem,c57S6,c57S8,c57S11,c57S12,ao,r1]
  exact hbb _ s1.bel
 simp (disch:=first|omega|exact zF rfl|exact zG rfl|exact id|(simp only[zA,zB,zC,zD,bytesW];omega)) only[go_sem,c57S6,c57S8,c57S11,ao,r1]
 refine Ret.mono (between_x _ _ _ _) ?_
 rintro _ _ ⟨rfl,rfl⟩
 cases e2:btw o.Proc 0 1023
 ·simp (disch:=first|omega|exact zF rfl|exact zG rfl|exact id|(simp only[zA,zB,zC,zD,bytesW];omega)) only[go_sem,c57S6,c57S8,c57S11,c57S12,ao,r1]
  exact ⟨by simp,hbb _ s1.bel⟩
 simp (disch:=first|omega|exact zF rfl|exact zG rfl|exact id|(simp only[zA,zB,zC,zD,bytesW];omega)) only[go_sem,c57S6,c57S8,c57S11,ao,r1]
 refine Ret.mono (between_x _ _ _ _) ?_
 rintro _ _ ⟨rfl,rfl⟩
 cases e3:btw o.Object 0 1023
 ·simp (disch:=first|omega|exact zF rfl|exact zG rfl|exact id|(simp only[zA,zB,zC,zD,bytesW];omega)) only[go_sem,c57S6,c57S8,c57S11,c57S12,ao,r1]
  exact hbb _ s1.bel
 simp (disch:=first|omega|exact zF rfl|exact zG rfl|exact id|(simp only[zA,zB,zC,zD,bytesW];omega)) only[go_sem,c57S6,c57S8,c57S12,ao,r1]
 refine Ret.mono (find_x _ _ _) ?_
 rintro _ w5 ⟨⟨r,rfl,hr⟩,b5⟩
 have s5:=s1.call b5
 have ar:=r.at
 have r5:=s5.rules 0 rfl
 simp (disch:=first|omega|exact zF rfl|exact zG rfl|exact id|(simp only[zA,zB,zC,zD,bytesW];omega)) only[go_sem,c57S6,c57S8,c57S12,ao,ar,r5]
 have s6:=s5.box r.enc.toArray 134
 generalize w5.alloc (.cells r.enc.toArray 134)=w6 at s6 ⊢
 have r6:=s6.rules 0 rfl
 refine ⟨r.len.symm,?_⟩
 cases e4:rowOf o.Kind o.Method with
 | none =>
  simp (disch:=first|omega|exact zF rfl|exact zG rfl|exact id|(simp only[zA,zB,zC,zD,bytesW];omega)) only[go_sem,c57S6,c57S8,c57S11,c57S12,Option.isSome_none]
  exact hbb _ s6.bel
 | some x =>
  obtain rfl:=hr x e4
  rw [Option.isSome_some]
  by_cases g1:1≤x.args
  ·by_cases g2:2≤x.args
   ·simp (disch:=first|omega|exact zF rfl|exact zG rfl|exact id|(simp only[zA,zB,zC,zD,bytesW];omega)) only[go_sem,c57S6,c57S11,c57S12,r6,ar,g1,g2]
    refine chk8 _ _ (s6.blk 1 rfl) (s6.blk 0 rfl) ?_
    exact ⟨rfl,hbb _ s6.bel⟩
   ·simp (disch:=first|omega|exact zF rfl|exact zG rfl|exact id|(simp only[zA,zB,zC,zD,bytesW];omega)) only[go_sem,c57S6,c57S11,c57S12,r6,ar,g1,g2]
    refine chk8 _ _ (s6.blk 1 rfl) (s6.blk 0 rfl) ?_
    exact ⟨rfl,hbb _ s6.bel⟩
  ·have g2:¬ 2≤x.args:=by omega
   simp (disch:=first|omega|exact zF rfl|exact zG rfl|exact id|(simp only[zA,zB,zC,zD,bytesW];omega)) only[go_sem,c57S6,c57S11,c57S12,r6,ar,g1,g2]
   refine chk8 _ _ (s6.blk 1 rfl) (s6.blk 0 rfl) ?_
   exact ⟨rfl,hbb _ s6.bel⟩
theorem rowOf_eq(k m:Int):rowOf k m=if k=1∧m=1 then some ⟨1,1,0,2⟩ else if k=1∧m=2 then some ⟨1,2,1,0⟩ else if k=1∧m=3 then some ⟨1,3,2,1⟩ else if k=2∧m=1 then some ⟨2,1,0,3⟩ else if k=2∧m=4 then some ⟨2,4,0,0⟩ else if k=2∧m=5 then some ⟨2,5,0,0⟩ else if k=3∧m=6 then some ⟨3,6,1,0⟩ else if k=3∧m=7 then some ⟨3,7,0,4⟩ else if k=4∧m=8 then some ⟨4,8,1,0⟩ else if k=4∧m=9 then some ⟨4,9,0,4⟩ else if k=5∧m=10 then some ⟨5,10,1,1⟩ else if k=5∧m=11 then some ⟨5,11,1,1⟩ else if k=5∧m=12 then some ⟨5,12,1,1⟩ else if k=6∧m=13 then some ⟨6,13,0,0⟩ else if k=6∧m=14 then some ⟨6,14,0,0⟩ else none:=by
 unfold rowOf rowsTable
 have st:∀ (x:Row4) (l:List Row4),(x::l).find? (fun r=>decide (r.kind=k) && decide (r.method=m))=if k=x.kind∧m=x.method then some x else l.find? (fun r=>decide (r.kind=k) && decide (r.method=m)):=fun x l=>by
  rw [List.find?_cons]
  by_cases h:k=x.kind∧m=x.method
  ·rw [if_pos h,h.1,h.2]; simp
  ·rw [if_neg h]
   have:(decide (x.kind=k) && decide (x.method=m))=false:=by
    rw [Bool.and_eq_false_iff,decide_eq_false_iff_not,decide_eq_false_iff_not]
    omega
   rw [this]
 simp only [st,List.find?_nil]
theorem fits_row(k m:Int):fitsP k m=(rowOf k m).isSome:=by
 rw [rowOf_eq]
 unfold fitsP
 by_cases h1:k=1
 ·subst h1
  by_cases a1:m=1
  ·subst a1; rfl
  by_cases a2:m=2
  ·subst a2; rfl
  by_cases a3:m=3
  ·subst a3; rfl
  simp [a1,a2,a3]
  omega
 by_cases h2:k=2
 ·subst h2
  by_cases a1:m=1
  ·subst a1; rfl
  by_cases a2:m=4
  ·subst a2; rfl
  by_cases a3:m=5
  ·subst a3; rfl
  simp [a1,a2,a3]
 by_cases h3:k=3
 ·subst h3
  by_cases a1:m=6
  ·subst a1; rfl
  by_cases a2:m=7
  ·subst a2; rfl
  simp [a1,a2]
 by_cases h4:k=4
 ·subst h4
  by_cases a1:m=8
  ·subst a1; rfl
  by_cases a2:m=9
  ·subst a2; rfl
  simp [a1,a2]
 by_cases h5:k=5
 ·subst h5
  by_cases a1:m=10
  ·subst a1; rfl
  by_cases a2:m=11
  ·subst a2; rfl
  by_cases a3:m=12
  ·subst a3; rfl
  simp [a1,a2,a3]
  omega
 by_cases h6:k=6
 ·subst h6
  by_cases a1:m=13
  ·subst a1; rfl
  by_cases a2:m=14
  ·subst a2; rfl
  simp [a1,a2]
 simp [h1,h2,h3,h4,h5,h6]
theorem btw_f{n a b:Int}:btw n a b=false↔n<a∨n > b:=by
 unfold btw
 rw [Bool.and_eq_false_iff,decide_eq_false_iff_not,decide_eq_false_iff_not]
 omega
theorem val_btw(n:Int):valP n=btw n 0 1073741824:=rfl
theorem btw_zero(n:Int):btw n 0 0=decide (n=0):=by
 unfold btw
 rw [← Bool.decide_and]
 congr 1
 exact propext (by omega)
theorem rowOf_some{k m:Int}{x:Row4}(h:rowOf k m=some x):x∈rowsTable∧x.kind=k∧x.method=m :=
 ⟨List.mem_of_find?_eq_some h,by have:=List.find?_some h; simpa using this⟩
theorem args_row{o:OpT}{x:Row4}(h:rowOf o.Kind o.Method=some x):argsP o=false↔btw o.Arg 0 (if 1≤x.args then 1073741824 else 0)=false∨btw o.Second 0 (if 2≤x.args then 1073741824 else 0)=false:=by
 obtain ⟨hx,hk,hm⟩:=rowOf_some h
 unfold argsP
 simp only [rowsTable,List.mem_cons,List.not_mem_nil,or_false] at hx
 rcases hx with rfl | rfl | rfl | rfl | rfl | rfl | rfl | rfl | rfl | rfl | rfl | rfl | rfl | rfl | rfl <;> simp only at hk hm <;> simp [← hm,val_btw,btw_zero]
 all_goals first
  | omega
  | (cases btw o.Arg 0 1073741824 <;> simp; done)
  | (cases btw o.Arg 0 1073741824 <;> cases btw o.Second 0 1073741824 <;> simp; done)
theorem res_row{o:OpT}{x:Row4}(h:rowOf o.Kind o.Method=some x):resP o=ansR o.Result x.how:=by
 obtain ⟨hx,hk,hm⟩:=rowOf_some h
 unfold resP ansR
 simp only [rowsTable,List.mem_cons,List.not_mem_nil,or_false] at hx
 rcases hx with rfl | rfl | rfl | rfl | rfl | rfl | rfl | rfl | rfl | rfl | rfl | rfl | rfl | rfl | rfl <;> simp only at hk hm <;> rw [Bool.eq_iff_iff] <;> simp [← hm,← hk,bitP,valP,btw] <;> try omega
theorem chk_eq(o:OpT):chkP o=chkR o:=by
 unfold chkP chkR
 simp only [btw_f]
 by_cases h1:o.ID<1∨o.ID > 1073741824∨o.Proc<0∨o.Proc > 1023∨o.Object<0∨o.Object > 1023
 ·rw [if_pos h1,if_pos (by omega)]
 rw [if_neg h1,if_neg (show ¬ ((o.ID<1∨o.ID > 1073741824)∨(o.Proc<0∨o.Proc > 1023)∨(o.Object<0∨o.Object > 1023)) from by omega),fits_row]
 cases e:rowOf o.Kind o.Method with
 | none=>rw [if_pos (.inl rfl)]
 | some x =>
  unfold rowR timeR
  rw [Option.isSome_some]
  dsimp only
  by_cases a1:argsP o=false
  ·rw [if_pos (.inr (.inl a1)),if_pos ((args_row e).1 a1)]
  by_cases a2:(o.Done=true∧resP o=false)∨(o.Done=false∧o.Result≠0)
  ·rw [if_pos (.inr (.inr a2)),if_neg (fun h=>a1 ((args_row e).2 h)),if_pos (by rw [← res_row e]; exact a2)]
  rw [if_neg (by
   rintro (h | h | h)
   ·cases h
   ·exact a1 h
   ·exact a2 h),if_neg (fun h=>a1 ((args_row e).2 h)),if_neg (show ¬ (o.Done=true∧ansR o.Result x.how=false∨o.Done=false∧o.Result≠0) from by rw [← res_row e]; exact a2)]
  simp only [btw_f]
  by_cases t1:(o.Invoke<0∨o.Invoke > 1099511627776)∨(o.Done=false∧o.Return≠0)
  ·rw [if_pos t1,if_pos]
   rcases t1 with (t | t) | t
   ·exact .inl t
   ·exact .inr (.inl t)
   ·exact .inr (.inr (.inr t))
  ·rw [if_neg t1]
   by_cases t2:o.Done=true∧(o.Return≤o.Invoke∨o.Return > 1099511627776)
   ·rw [if_pos t2,if_pos (.inr (.inr (.inl t2)))]
   ·rw [if_neg t2,if_neg]
    rintro (t | t | t | t)
    ·exact t1 (.inl (.inl t))
    ·exact t1 (.inl (.inr t))
    ·exact t2 t
    ·exact t1 (.inr t)
open Go Go.Ann Go.RowKit
open Cut (containsFunc_ok)
def nz:List Int→Int
 | []=>0
 | x::r=>if x=0 then nz r else x
def badK(o p:OpT):Bool:=decide (p.Object=o.Object) && decide (p.Kind≠o.Kind)
def badP(o p:OpT):Bool:=decide (p.Proc=o.Proc) && (!before p o && !before o p)
def bes(l:List OpT)(o:OpT):Int:=if l.any (fun p=>!decide (p.ID=o.ID) && badK o p) then 33 else if l.any (fun p=>!decide (p.ID=o.ID) && badP o p) then 32 else 0
theorem overlap_ok(a b:OpT)(w:World):Ret Tryz.prog 83 [.agg a.enc.toArray,.agg b.enc.toArray] w fun u w'=>u=.bool (!before a b && !before b a)∧Below w.heap.size w w':=by
 refine ent83 _ _ _ _ ?_
 have s1:=((St.start (W0:=w)).box a.enc.toArray 38).box b.enc.toArray 38
 rw [World.size_alloc] at s1
 have ab:=b.at
 have aa:=a.at
 simp (disch:=first|omega|exact zF rfl|exact zG rfl|exact id|(simp only[zA,zB,zC,zD,bytesW];omega)) only[go_sem,ab,aa]
 generalize (w.alloc (.cells a.enc.toArray 38)).alloc (.cells b.enc.toArray 38)=w1 at s1 ⊢
 refine Ret.mono (before_ok a b _) ?_
 rintro _ w2 ⟨rfl,b2⟩
 have s2:=s1.call b2
 have r2:=s2.rules 0 rfl
 have q2:=s2.rules 1 rfl
 cases e:before a b
 ·simp (disch:=first|omega|exact zF rfl|exact zG rfl|exact id|(simp only[zA,zB,zC,zD,bytesW];omega)) only[go_sem,r2,q2,ab,aa]
  refine Ret.mono (before_ok b a _) ?_
  rintro _ w3 ⟨rfl,b3⟩
  simp (disch:=first|omega|exact zF rfl|exact zG rfl|exact id|(simp only[zA,zB,zC,zD,bytesW];omega)) only[go_sem]
  exact ⟨by simp,(s2.call b3).bel⟩
 ·simp (disch:=first|omega|exact zF rfl|exact zG rfl|exact id|(simp only[zA,zB,zC,zD,bytesW];omega)) only[go_sem,r2,q2]
  exact ⟨by simp,s2.bel⟩
theorem bes2_ok(o x:OpT)(b:Nat)(w:World)(h:Blk w b o.enc.toArray 38) :
  Ret Tryz.prog 81 [.agg x.enc.toArray,.pointer (some ⟨b,0,none⟩)] w fun u w'=>u=.bool (badK o x)∧Below w.heap.size w w':=by
 refine ent81 _ _ _ _ ?_
 have hr:=(h.alloc (.cells x.enc.toArray 38)).rules
 have hlt:=h.lt
 have ao:=o.at
 have ax:=x.at
 unfold badK
 by_cases e1:x.Object=o.Object
 ·by_cases e2:x.Kind=o.Kind
  ·simp (disch:=first|omega|exact zF rfl|exact zG rfl|exact id|(simp only[zA,zB,zC,zD,bytesW];omega)) only[go_sem,hr,ao,ax,e1,e2]
   refine ⟨by simp [e1,e2],?_⟩
   (repeat' (first | with_reducible exact Below.refl _ _ | with_reducible assumption | (with_reducible refine Below.drew ?_) | (with_reducible refine Below.alloc ?_ ?_ _) | (with_reducible refine Below.setCell ?_ ?_ _) | (with_reducible refine Below.fill ?_ ?_) | (with_reducible refine Below.via (by assumption) ?_ ?_) | omega | (simp only [World.size_alloc,World.size_drew,World.size_setCell,size_fill,bytesW]; omega)))
  ·simp (disch:=first|omega|exact zF rfl|exact zG rfl|exact id|(simp only[zA,zB,zC,zD,bytesW];omega)) only[go_sem,hr,ao,ax,e1,e2]
   refine ⟨by simp [e1,e2],?_⟩
   (repeat' (first | with_reducible exact Below.refl _ _ | with_reducible assumption | (with_reducible refine Below.drew ?_) | (with_reducible refine Below.alloc ?_ ?_ _) | (with_reducible refine Below.setCell ?_ ?_ _) | (with_reducible refine Below.fill ?_ ?_) | (with_reducible refine Below.via (by assumption) ?_ ?_) | omega | (simp only [World.size_alloc,World.size_drew,World.size_setCell,size_fill,bytesW]; omega)))
 ·simp (disch:=first|omega|exact zF rfl|exact zG rfl|exact id|(simp only[zA,zB,zC,zD,bytesW];omega)) only[go_sem,hr,ao,ax,e1]
  refine ⟨by simp [e1],?_⟩
  (repeat' (first | with_reducible exact Below.refl _ _ | with_reducible assumption | (with_reducible refine Below.drew ?_) | (with_reducible refine Below.alloc ?_ ?_ _) | (with_reducible refine Below.setCell ?_ ?_ _) | (with_reducible refine Below.fill ?_ ?_) | (with_reducible refine Below.via (by assumption) ?_ ?_) | omega | (simp only [World.size_alloc,World.size_drew,World.size_setCell,size_fill,bytesW]; omega)))
theorem bes3_ok(o x:OpT)(b:Nat)(w:World)(h:Blk w b o.enc.toArray 38) :
  Ret Tryz.prog 82 [.agg x.enc.toArray,.pointer (some ⟨b,0,none⟩)] w fun u w'=>u=.bool (badP o x)∧Below w.heap.size w w':=by
 refine ent82 _ _ _ _ ?_
 have hr:=(h.alloc (.cells x.enc.toArray 38)).rules
 have hlt:=h.lt
 have ao:=o.at
 have ax:=x.at
 unfold badP
 by_cases e1:x.Proc=o.Proc
 ·simp (disch:=first|omega|exact zF rfl|exact zG rfl|exact id|(simp only[zA,zB,zC,zD,bytesW];omega)) only[go_sem,hr,ao,ax,e1]
  refine Ret.mono (overlap_ok _ _ _) ?_
  rintro _ w1 ⟨rfl,hb⟩
  simp (disch:=first|omega|exact zF rfl|exact zG rfl|exact id|(simp only[zA,zB,zC,zD,bytesW];omega)) only[go_sem]
  refine ⟨by simp,?_⟩
  (repeat' (first | with_reducible exact Below.refl _ _ | with_reducible assumption | (with_reducible refine Below.drew ?_) | (with_reducible refine Below.alloc ?_ ?_ _) | (with_reducible refine Below.setCell ?_ ?_ _) | (with_reducible refine Below.fill ?_ ?_) | (with_reducible refine Below.via (by assumption) ?_ ?_) | omega | (simp only [World.size_alloc,World.size_drew,World.size_setCell,size_fill,bytesW]; omega)))
 ·simp (disch:=first|omega|exact zF rfl|exact zG rfl|exact id|(simp only[zA,zB,zC,zD,bytesW];omega)) only[go_sem,hr,ao,ax,e1]
  refine ⟨by simp [e1],?_⟩
  (repeat' (first | with_reducible exact Below.refl _ _ | with_reducible assumption | (with_reducible refine Below.drew ?_) | (with_reducible refine Below.alloc ?_ ?_ _) | (with_reducible refine Below.setCell ?_ ?_ _) | (with_reducible refine Below.fill ?_ ?_) | (with_reducible refine Below.via (by assumption) ?_ ?_) | omega | (simp only [World.size_alloc,World.size_drew,World.size_setCell,size_fill,bytesW]; omega)))
theorem bes11_ok(o x:OpT)(q:OpT→Bool)(fv:Value)(b g:Nat)(w:World)(h:Blk w b o.enc.toArray 38)(hg:Blk w g #[fv] 92)(hf:Cut.Tells w fv q) :
  Ret Tryz.prog 80 [.agg x.enc.toArray,.pointer (some ⟨b,0,none⟩),.pointer (some ⟨g,0,none⟩)] w fun u w'=>u=.bool (!decide (x.ID=o.ID) && q x)∧Below w.heap.size w w':=by
 refine ent80 _ _ _ _ _ ?_
 have hr:=(h.alloc (.cells x.enc.toArray 38)).rules
 have hs:=(hg.alloc (.cells x.enc.toArray 38)).rules
 have hlt:=h.lt
 have hlg:=hg.lt
 have ao:=o.at
 have ax:=x.at
 by_cases e1:x.ID=o.ID
 ·simp (disch:=first|omega|exact zF rfl|exact zG rfl|exact id|(simp only[zA,zB,zC,zD,bytesW];omega)) only[go_sem,hr,hs,ao,ax,e1]
  refine ⟨by simp [e1],?_⟩
  (repeat' (first | with_reducible exact Below.refl _ _ | with_reducible assumption | (with_reducible refine Below.drew ?_) | (with_reducible refine Below.alloc ?_ ?_ _) | (with_reducible refine Below.setCell ?_ ?_ _) | (with_reducible refine Below.fill ?_ ?_) | (with_reducible refine Below.via (by assumption) ?_ ?_) | omega | (simp only [World.size_alloc,World.size_drew,World.size_setCell,size_fill,bytesW]; omega)))
 ·simp (disch:=first|omega|exact zF rfl|exact zG rfl|exact id|(simp only[zA,zB,zC,zD,bytesW];omega)) only[go_sem,hr,hs,ao,ax,e1]
  refine callW_mono (hf x _ ((Below.refl _ _).alloc (Nat.le_refl _) _)) ?_
  rintro _ w1 ⟨rfl,hb⟩
  simp (disch:=first|omega|exact zF rfl|exact zG rfl|exact id|(simp only[zA,zB,zC,zD,bytesW];omega)) only[go_sem]
  refine ⟨by simp [e1],?_⟩
  (repeat' (first | with_reducible exact Below.refl _ _ | with_reducible assumption | (with_reducible refine Below.drew ?_) | (with_reducible refine Below.alloc ?_ ?_ _) | (with_reducible refine Below.setCell ?_ ?_ _) | (with_reducible refine Below.fill ?_ ?_) | (with_reducible refine Below.via (by assumption) ?_ ?_) | omega | (simp only [World.size_alloc,World.size_drew,World.size_setCell,size_fill,bytesW]; omega)))
theorem bes1_ok(o:OpT)(q:OpT→Bool)(fn:Fn)(cs:Array Value)(v:Value)(l:List OpT)(a b:Nat)(w:World)(ha:Blk w a #[v] 22)(h:RdS w 11 OpT.enc v l)(hl:(l.length:Int)≤9223372036854775806)(hb:Blk w b o.enc.toArray 38)(hf:Cut.Tells w (.func fn #[] cs) q) :
  Ret Tryz.prog 78 [.func fn #[] cs,.pointer (some ⟨a,0,none⟩),.pointer (some ⟨b,0,none⟩)] w fun u w'=>u=.bool (l.any fun p=>!decide (p.ID=o.ID) && q p)∧Below w.heap.size w w':=by
 refine ent78 _ _ _ _ _ ?_
 have hr:=(ha.alloc (.cells #[.func fn #[] cs] 92)).rules
 have hlt:=ha.lt
 obtain ⟨la,lc,rfl,_⟩:=h.form
 have b1:Below w.heap.size w (w.alloc (.cells #[.func fn #[] cs] 92)):=(Below.refl _ _).alloc (Nat.le_refl _) _
 simp (disch:=first|omega|exact zF rfl|exact zG rfl|exact id|(simp only[zA,zB,zC,zD,bytesW];omega)) only[go_sem,hr]
 refine Ret.mono (containsFunc_ok _ (fun p=>!decide (p.ID=o.ID) && q p) _ _ _ (h.below b1 (by decide)) ?_ hl) ?_
 ·intro x w' hw
  refine callW_go ⟨by kernel_rfl,bes11_ok o x q _ b w.heap.size w' ((hb.below b1 hb.lt).below hw (by rw [World.size_alloc]; have:=hb.lt; omega)) (Blk.new.below hw (by rw [World.size_alloc]; omega)) ?_⟩
  intro y w2 h2
  exact hf y w2 (Below.next (Below.next b1 hw) h2)
 rintro _ w1 ⟨rfl,hw⟩
 simp (disch:=first|omega|exact zF rfl|exact zG rfl|exact id|(simp only[zA,zB,zC,zD,bytesW];omega)) only[go_sem]
 exact Below.next b1 hw
theorem hbeside_ok(v:Value)(l:List OpT)(o:OpT)(w:World)(h:RdS w 11 OpT.enc v l)(hl:(l.length:Int)≤9223372036854775806) :
  Ret Tryz.prog 53 [v,.agg o.enc.toArray] w fun u w'=>u=.int .i64 (bes l o)∧Below w.heap.size w w':=by
 obtain ⟨la,lc,rfl,_⟩:=h.form
 refine ent53 _ _ _ _ ?_
 have s1:=((St.start (W0:=w)).box #[.slice la l.length lc] 22).box o.enc.toArray 38
 rw [World.size_alloc] at s1
 have h1:=h.below s1.bel (by decide)
 simp (disch:=first|omega|exact zF rfl|exact zG rfl|exact id|(simp only[zA,zB,zC,zD,bytesW];omega)) only[go_sem]
 generalize (w.alloc (.cells #[.slice la l.length lc] 22)).alloc (.cells o.enc.toArray 38)=w1 at s1 h1 ⊢
 have t2:∀ {w':World},Blk w' (w.heap.size+1) o.enc.toArray 38→Cut.Tells w' (.func (.func 81) #[] #[.pointer (some ⟨w.heap.size+1,0,none⟩)]) (badK o):=fun hB x w2 h2=>callW_go ⟨by kernel_rfl,bes2_ok o x _ w2 (hB.below h2 hB.lt)⟩
 have t3:∀ {w':World},Blk w' (w.heap.size+1) o.enc.toArray 38→Cut.Tells w' (.func (.func 82) #[] #[.pointer (some ⟨w.heap.size+1,0,none⟩)]) (badP o):=fun hB x w2 h2=>callW_go ⟨by kernel_rfl,bes3_ok o x _ w2 (hB.below h2 hB.lt)⟩
 unfold bes
 refine callW_go ⟨by kernel_rfl,Ret.mono (bes1_ok o (badK o) _ _ _ l _ _ w1 (s1.blk 1 rfl) h1 hl (s1.blk 0 rfl) (t2 (s1.blk 0 rfl))) ?_⟩
 rintro _ w2 ⟨rfl,b2⟩
 have s2:=s1.call b2
 cases e:l.any fun p=>!decide (p.ID=o.ID) && badK o p
 ·simp (disch:=first|omega|exact zF rfl|exact zG rfl|exact id|(simp only[zA,zB,zC,zD,bytesW];omega)) only[go_sem]
  refine callW_go ⟨by kernel_rfl,Ret.mono (bes1_ok o (badP o) _ _ _ l _ _ w2 (s2.blk 1 rfl) (h1.below b2 (by decide)) hl (s2.blk 0 rfl) (t3 (s2.blk 0 rfl))) ?_⟩
  rintro _ w3 ⟨rfl,b3⟩
  have s3:=s2.call b3
  cases e2:l.any fun p=>!decide (p.ID=o.ID) && badP o p
  ·simp (disch:=first|omega|exact zF rfl|exact zG rfl|exact id|(simp only[zA,zB,zC,zD,bytesW];omega)) only[go_sem,e2]
   exact s3.bel
  ·simp (disch:=first|omega|exact zF rfl|exact zG rfl|exact id|(simp only[zA,zB,zC,zD,bytesW];omega)) only[go_sem,e2]
   exact s3.bel
 ·simp (disch:=first|omega|exact zF rfl|exact zG rfl|exact id|(simp only[zA,zB,zC,zD,bytesW];omega)) only[go_sem]
  exact s2.bel
theorem rbeside_ok(va:Value)(l:List OpT)(o:OpT)(w:World)(ha:RdS w 11 OpT.enc va l)(hl:(l.length:Int)≤9223372036854775806) :
  Ret Tryz.prog 58 [va,.agg o.enc.toArray] w fun v w'=>v=.int .i64 (bes l o)∧Below w.heap.size w w':=by
 obtain ⟨pa,ca,rfl,_⟩:=ha.form
 refine ent58 _ _ _ _ ?_
 simp (disch:=first|omega|exact zF rfl|exact zG rfl|exact id|(simp only[zA,zB,zC,zD,bytesW];omega)) only[go_sem]
 have s1:=(St.start (W0:=w)).box o.enc.toArray 38
 have h1:=ha.below s1.bel (by decide)
 generalize w.alloc (.cells o.enc.toArray 38)=w1 at s1 h1 ⊢
 obtain ⟨b0,hb0⟩:∃ b,b=w.heap.size:=⟨_,rfl⟩
 have hbb:∀ w',Below w.heap.size w w'→Below b0 w w':=fun _ h=>by rw [hb0]; exact h
 rw [← hb0] at s1 ⊢
 have ao:=o.at
 refine W_loopU (fun k:Nat=>[(5,.int .i64 k)]) (fun k w'=>Below w1.heap.size w1 w'∧k≤l.length∧∀ j,(h:j<l.length)→j<k→(!decide (l[j].ID=o.ID) && badK o l[j])=false) (fun k=>l.length - k) 0 rfl ⟨Below.refl _ _,Nat.zero_le _,fun j _ h=>by omega⟩ ?_
 rintro k w2 ⟨b2,hk,he⟩
 have s2:=s1.call b2
 have r2:=s2.rules 0 rfl
 have h2:=h1.below b2 (by decide)
 by_cases hlt:k<l.length
 ·have hlt':(k:Int)<l.length:=by omega
  obtain ⟨p,rfl⟩:=ha.ptr (by omega)
  have ek:=h2.eltB (Below.refl _ _) OpT.len (by decide) hlt
  have ak:=l[k].at
  simp (disch:=first|omega|exact zF rfl|exact zG rfl|exact id|(simp only[zA,zB,zC,zD,bytesW];omega)) only[go_sem,hlt']
  refine c58draw0 ?_
  simp (disch:=first|omega|exact zF rfl|exact zG rfl|exact id|(simp only[zA,zB,zC,zD,bytesW];omega)) only[go_sem,c58D0,r2,ek,ak,ao]
  have b02:Below w.heap.size w w2.drew:=(s1.bel.trans (b2.mono s1.size)).drew
  have go:(!decide (l[k].ID=o.ID) && badK o l[k])=false→∀ j,(h:j<l.length)→j<k+1→(!decide (l[j].ID=o.ID) && badK o l[j])=false:=fun hx j h1 h3=>by
   rcases Nat.lt_or_ge j k with h' | h'
   ·exact he j h1 h'
   ·obtain rfl:j=k:=by omega
    exact hx
  refine ⟨⟨by omega,by omega⟩,fun e1=>⟨⟨by omega,by omega⟩,fun e2=>⟨⟨by omega,by omega⟩,fun e3=>⟨?_,hbb _ (b02)⟩,fun e3=>⟨⟨by omega,by omega⟩,k+1,rfl,⟨b2.drew,by omega,go (by simp [badK,e3])⟩,by omega⟩⟩,fun e2=>⟨⟨by omega,by omega⟩,k+1,rfl,⟨b2.drew,by omega,go (by simp [badK,e2])⟩,by omega⟩⟩,fun e1=>⟨⟨by omega,by omega⟩,k+1,rfl,⟨b2.drew,by omega,go (by simp [e1])⟩,by omega⟩⟩
  unfold bes
  rw [if_pos (List.any_eq_true.2 ⟨l[k],List.getElem_mem hlt,by simp [badK,e1,e2,e3]⟩)]
 ·have hlt':¬ (k:Int)<l.length:=by omega
  simp (disch:=first|omega|exact zF rfl|exact zG rfl|exact id|(simp only[zA,zB,zC,zD,bytesW];omega)) only[go_sem,hlt']
  have hall:(l.any fun p=>!decide (p.ID=o.ID) && badK o p)=false:=List.any_eq_false.2 fun x hx=>by
   obtain ⟨j,hj,rfl⟩:=List.mem_iff_getElem.1 hx
   rw [he j hj (by omega)]
   exact Bool.false_ne_true
  clear he
  unfold bes
  rw [if_neg (by rw [hall]; exact Bool.false_ne_true)]
  refine W_loopU (fun k:Nat=>[(6,.int .i64 k)]) (fun k w'=>Below w1.heap.size w1 w'∧k≤l.length∧∀ j,(h:j<l.length)→j<k→(!decide (l[j].ID=o.ID) && badP o l[j])=false) (fun k=>l.length - k) 0 rfl ⟨b2,Nat.zero_le _,fun j _ h=>by omega⟩ ?_
  clear r2 h2 s2 b2
  rintro k w3 ⟨b3,hk,he⟩
  have s3:=s1.call b3
  have r3:=s3.rules 0 rfl
  have h3:=h1.below b3 (by decide)
  by_cases hlt:k<l.length
  ·have hlt':(k:Int)<l.length:=by omega
   obtain ⟨p,rfl⟩:=ha.ptr (by omega)
   have ek:=h3.eltB (Below.refl _ _) OpT.len (by decide) hlt
   have ck:=h3.at OpT.len hlt
   have ak:=l[k].at
   have go:(!decide (l[k].ID=o.ID) && badP o l[k])=false→∀ j,(h:j<l.length)→j<k+1→(!decide (l[j].ID=o.ID) && badP o l[j])=false:=fun hx j h1 h3=>by
    rcases Nat.lt_or_ge j k with h' | h'
    ·exact he j h1 h'
    ·obtain rfl:j=k:=by omega
     exact hx
   have bad:(!decide (l[k].ID=o.ID) && badP o l[k])=true→32=(if (l.any fun p=>!decide (p.ID=o.ID) && badP o p)=true then (32:Int) else 0):=fun h=>by
    rw [if_pos (List.any_eq_true.2 ⟨l[k],List.getElem_mem hlt,h⟩)]
   simp (disch:=first|omega|exact zF rfl|exact zG rfl|exact id|(simp only[zA,zB,zC,zD,bytesW];omega)) only[go_sem,hlt']
   have hp3:=h3.blt OpT.len (by decide) (by omega)
   have hb3:=s3.low 0 rfl
   have hd3:w3.drew.heap.size=w3.heap.size:=rfl
   refine c58draw1 (Chg (fun _=>False) _) (Chg.refl _ _) ?_
   simp (disch:=first|omega|exact zF rfl|exact zG rfl|exact id|(simp only[zA,zB,zC,zD,bytesW];omega)) only[go_sem,c58D1,r3,ek,ak,ao,ck]
   have b03:Below w1.heap.size w1 w3.drew:=b3.drew
   refine ⟨⟨by omega,by omega⟩,fun e1=>⟨⟨by omega,by omega⟩,fun e2=>⟨⟨by omega,by omega⟩,Ret.mono (rbefore_ok _ _ _) ?_⟩,fun e2=>⟨⟨by omega,by omega⟩,k+1,rfl,⟨b03,by omega,go (by simp [badP,e2])⟩,by omega⟩⟩,fun e1=>⟨⟨by omega,by omega⟩,k+1,rfl,⟨b03,by omega,go (by simp [e1])⟩,by omega⟩⟩
   rintro _ w4 ⟨rfl,b4⟩
   have b34:Below w3.heap.size w3 w4:=(Below.refl _ w3).drew.trans b4
   have h4:=h3.below b34 (by decide)
   have ck4:=h4.at OpT.len hlt
   have s4:=s3.call b34
   have r4:=s4.rules 0 rfl
   have b04:Below w1.heap.size w1 w4:=b3.trans (b34.mono b3.size)
   simp (disch:=first|omega|exact zF rfl|exact zG rfl|exact id|(simp only[zA,zB,zC,zD,bytesW];omega)) only[go_sem,c58D1,r3,r4,ek,ak,ao,ck,ck4]
   refine ⟨Chg.of_below b4,fun e3=>⟨⟨by omega,by omega⟩,Chg.of_below b4,Ret.mono (rbefore_ok _ _ _) ?_⟩,fun e3=>⟨⟨by omega,by omega⟩,k+1,rfl,⟨b04,by omega,go (by simp [badP,e3])⟩,by omega⟩⟩
   rintro _ w5 ⟨rfl,b5⟩
   have b05:Below w1.heap.size w1 w5:=b04.trans (b5.mono b04.size)
   simp (disch:=first|omega|exact zF rfl|exact zG rfl|exact id|(simp only[zA,zB,zC,zD,bytesW];omega)) only[go_sem,c58D1,r3,r4,ek,ak,ao,ck,ck4]
   exact ⟨(Chg.of_below b4).trans (Chg.of_below b5),fun e4=>⟨bad (by simp [badP,e1,e2,e3,e4]),hbb _ (s1.bel.trans (b05.mono s1.size))⟩,fun e4=>⟨⟨by omega,by omega⟩,k+1,rfl,⟨b05,by omega,go (by simp [badP,e4])⟩,by omega⟩⟩
  ·have hlt':¬ (k:Int)<l.length:=by omega
   simp (disch:=first|omega|exact zF rfl|exact zG rfl|exact id|(simp only[zA,zB,zC,zD,bytesW];omega)) only[go_sem,hlt']
   rw [if_neg (by
    rw [List.any_eq_false.2 fun x hx=>by
     obtain ⟨j,hj,rfl⟩:=List.mem_iff_getElem.1 hx
     rw [he j hj (by omega)]
     exact Bool.false_ne_true]
    exact Bool.false_ne_true)]
   exact ⟨rfl,hbb _ ((s1.bel.trans (b3.mono s1.size)))⟩
open Go Go.Ann Go.RowKit
def fAt(l:List OpT)(k:Nat):Int:=match l[k]? with
 | none=>0
 | some o=>if chkP o=0 then (if k=0 then 0 else match l[k - 1]? with
  | none=>0
  | some p=>if o.ID≤p.ID then 7 else 0) else chkP o
def fsAll(l:List OpT):List Int:=(List.range l.length).map (fAt l)
def histP(l:List OpT):Int:=if 64<l.length then 34 else nz (fsAll l++l.map (bes l))
theorem fs_drop{l:List OpT}{k:Nat}(h:k<l.length):(fsAll l).drop k=fAt l k::(fsAll l).drop (k+1):=by
 have hl:k<(fsAll l).length:=by unfold fsAll; simpa using h
 rw [List.drop_eq_getElem_cons hl]
 congr 1
 simp [fsAll]
theorem fAt_chk{l:List OpT}{k:Nat}(h:k<l.length)(he:¬ chkP l[k]=0):fAt l k=chkP l[k]:=by
 unfold fAt
 rw [List.getElem?_eq_getElem h]
 simp only
 rw [if_neg he]
theorem fAt_zero{l:List OpT}(h:0<l.length)(he:chkP l[0]=0):fAt l 0=0:=by
 unfold fAt
 rw [List.getElem?_eq_getElem h]
 simp only
 rw [if_pos he]
 simp
theorem fAt_id{l:List OpT}{k:Nat}(h:k<l.length)(hk:0<k)(he:chkP l[k]=0):fAt l k=if l[k].ID≤(l[k - 1]'(by omega)).ID then 7 else 0:=by
 unfold fAt
 rw [List.getElem?_eq_getElem h,List.getElem?_eq_getElem (show k - 1<l.length by omega)]
 simp only
 rw [if_pos he,if_neg (by omega)]
theorem nz_cons(x:Int)(r:List Int):nz (x::r)=if x=0 then nz r else x:=rfl
theorem rcheck_ok(va:Value)(l:List OpT)(w:World)(ha:RdS w 11 OpT.enc va l)(hl:(l.length:Int)≤9223372036854775807) :
  Ret Tryz.prog 33 [va] w fun v w'=>v=.int .i64 (histP l)∧Below w.heap.size w w':=by
 obtain ⟨pa,ca,rfl,_⟩:=ha.form
 refine ent33 _ _ _ ?_
 unfold histP
 by_cases h64:64<l.length
 ·have h64':64<(l.length:Int):=by omega
  rw [if_pos h64]
  simp (disch:=first|omega|exact zF rfl|exact zG rfl|exact id|(simp only[zA,zB,zC,zD,bytesW];omega)) only[go_sem,h64']
  exact Below.refl _ _
 have h64':¬ 64<(l.length:Int):=by omega
 rw [if_neg h64]
 simp (disch:=first|omega|exact zF rfl|exact zG rfl|exact id|(simp only[zA,zB,zC,zD,bytesW];omega)) only[go_sem,h64']
 generalize hN:nz (fsAll l++l.map (bes l))=N
 refine W_loopU (fun k:Nat=>[(3,.int .i64 k)]) (fun k w'=>Below w.heap.size w w'∧k≤l.length∧nz ((fsAll l).drop k++l.map (bes l))=N) (fun k=>l.length - k) 0 rfl ⟨Below.refl _ _,Nat.zero_le _,by rw [List.drop_zero]; exact hN⟩ ?_
 rintro k w2 ⟨b2,hk,he⟩
 have h2:=ha.below b2 (by decide)
 by_cases hlt:k<l.length
 ·have hlt':(k:Int)<l.length:=by omega
  obtain ⟨p,rfl⟩:=ha.ptr (by omega)
  have ek:=h2.at OpT.len hlt
  rw [fs_drop hlt,List.cons_append,nz_cons] at he
  simp (disch:=first|omega|exact zF rfl|exact zG rfl|exact id|(simp only[zA,zB,zC,zD,bytesW];omega)) only[go_sem,hlt',ek]
  refine ⟨by omega,Ret.mono (checkOp_x _ _) ?_⟩
  rintro _ w3 ⟨rfl,b3⟩
  rw [← chk_eq]
  have b03:=b2.trans (b3.mono b2.size)
  by_cases e0:chkP l[k]=0
  ·simp (disch:=first|omega|exact zF rfl|exact zG rfl|exact id|(simp only[zA,zB,zC,zD,bytesW];omega)) only[go_sem,e0]
   have h3:=ha.below b03 (by decide)
   have ek3:=h3.eltB (Below.refl _ _) OpT.len (by decide) hlt
   have ak:=l[k].at
   rcases Nat.eq_zero_or_pos k with rfl | hk0
   ·rw [fAt_zero hlt e0,if_pos rfl] at he
    refine c33draw0 ?_
    simp (disch:=first|omega|exact zF rfl|exact zG rfl|exact id|(simp only[zA,zB,zC,zD,bytesW];omega)) only[go_sem,c33D0,hlt',ek3,ak]
    exact ⟨⟨by omega,by omega⟩,1,rfl,⟨b03.drew,by omega,he⟩,by omega⟩
   ·have ej3:=h3.eltB (Below.refl _ _) OpT.len (by decide) (show k - 1<l.length by omega)
    have aj:=l[k - 1].at
    have hk1:(k:Int) - 1=(k - 1:Nat):=by omega
    have hk2:0<(k:Int):=by omega
    rw [fAt_id hlt hk0 e0] at he
    refine c33draw0 ?_
    by_cases e1:l[k].ID≤l[k - 1].ID
    ·rw [if_pos e1,if_neg (by decide)] at he
     simp (disch:=first|omega|exact zF rfl|exact zG rfl|exact id|(simp only[zA,zB,zC,zD,bytesW];omega)) only[go_sem,c33D0,hlt',ek3,ak,hk1,hk2,ej3,aj,e1]
     exact ⟨by omega,⟨by omega,by omega⟩,⟨by omega,by omega⟩,he,b03.drew⟩
    ·rw [if_neg e1,if_pos rfl] at he
     simp (disch:=first|omega|exact zF rfl|exact zG rfl|exact id|(simp only[zA,zB,zC,zD,bytesW];omega)) only[go_sem,c33D0,hlt',ek3,ak,hk1,hk2,ej3,aj,e1]
     exact ⟨by omega,⟨by omega,by omega⟩,⟨by omega,by omega⟩,⟨by omega,by omega⟩,k+1,rfl,⟨b03.drew,by omega,he⟩,by omega⟩
  ·rw [fAt_chk hlt e0,if_neg e0] at he
   simp (disch:=first|omega|exact zF rfl|exact zG rfl|exact id|(simp only[zA,zB,zC,zD,bytesW];omega)) only[go_sem,e0]
   exact ⟨he,b03⟩
 ·have hlt':¬ (k:Int)<l.length:=by omega
  obtain rfl:k=l.length:=by omega
  rw [List.drop_of_length_le (by unfold fsAll; simp),List.nil_append] at he
  simp (disch:=first|omega|exact zF rfl|exact zG rfl|exact id|(simp only[zA,zB,zC,zD,bytesW];omega)) only[go_sem,hlt']
  refine W_loopU (fun k:Nat=>[(5,.int .i64 k)]) (fun k w'=>Below w.heap.size w w'∧k≤l.length∧nz ((l.drop k).map (bes l))=N) (fun k=>l.length - k) 0 rfl ⟨b2,Nat.zero_le _,by rw [List.drop_zero]; exact he⟩ ?_
  clear h2 b2 he
  rintro k w3 ⟨b3,hk,he⟩
  have h3:=ha.below b3 (by decide)
  by_cases hlt:k<l.length
  ·have hlt':(k:Int)<l.length:=by omega
   obtain ⟨p,rfl⟩:=ha.ptr (by omega)
   have ek:=h3.at OpT.len hlt
   rw [List.drop_eq_getElem_cons hlt,List.map_cons,nz_cons] at he
   simp (disch:=first|omega|exact zF rfl|exact zG rfl|exact id|(simp only[zA,zB,zC,zD,bytesW];omega)) only[go_sem,hlt',ek]
   refine ⟨by omega,Ret.mono (rbeside_ok _ _ _ _ h3 (by omega)) ?_⟩
   rintro _ w4 ⟨rfl,b4⟩
   have b04:=b3.trans (b4.mono b3.size)
   by_cases e0:bes l l[k]=0
   ·rw [if_pos e0] at he
    simp (disch:=first|omega|exact zF rfl|exact zG rfl|exact id|(simp only[zA,zB,zC,zD,bytesW];omega)) only[go_sem,e0]
    exact ⟨⟨by omega,by omega⟩,k+1,rfl,⟨b04,by omega,he⟩,by omega⟩
   ·rw [if_neg e0] at he
    simp (disch:=first|omega|exact zF rfl|exact zG rfl|exact id|(simp only[zA,zB,zC,zD,bytesW];omega)) only[go_sem,e0]
    exact ⟨he,b04⟩
  ·have hlt':¬ (k:Int)<l.length:=by omega
   obtain rfl:k=l.length:=by omega
   rw [List.drop_length] at he
   simp (disch:=first|omega|exact zF rfl|exact zG rfl|exact id|(simp only[zA,zB,zC,zD,bytesW];omega)) only[go_sem,hlt']
   exact ⟨he,b3⟩
theorem hcheck_ok(va:Value)(l:List OpT)(w:World)(ha:RdS w 11 OpT.enc va l)(hw:∀ o∈l,o.wf)(hl:(l.length:Int)≤9223372036854775807) :
  Ret Tryz.prog 31 [va] w fun v w'=>v=.int .i64 (histP l)∧Below w.heap.size w w':=by
 obtain ⟨pa,ca,rfl,_⟩:=ha.form
 refine ent31 _ _ _ ?_
 unfold histP
 by_cases h64:64<l.length
 ·have h64':64<(l.length:Int):=by omega
  rw [if_pos h64]
  simp (disch:=first|omega|exact zF rfl|exact zG rfl|exact id|(simp only[zA,zB,zC,zD,bytesW];omega)) only[go_sem,c31S0,c31S5,c31S9,h64']
  exact Below.refl _ _
 have h64':¬ 64<(l.length:Int):=by omega
 rw [if_neg h64]
 simp (disch:=first|omega|exact zF rfl|exact zG rfl|exact id|(simp only[zA,zB,zC,zD,bytesW];omega)) only[go_sem,c31S0,c31S5,h64']
 generalize hN:nz (fsAll l++l.map (bes l))=N
 refine W_loopU (fun k:Nat=>[(14,.int .i64 k)]) (fun k w'=>Below w.heap.size w w'∧k≤l.length∧nz ((fsAll l).drop k++l.map (bes l))=N) (fun k=>l.length - k) 0 rfl ⟨Below.refl _ _,Nat.zero_le _,by rw [List.drop_zero]; exact hN⟩ ?_
 rintro k w2 ⟨b2,hk,he⟩
 have h2:=ha.below b2 (by decide)
 by_cases hlt:k<l.length
 ·have hlt':(k:Int)<l.length:=by omega
  obtain ⟨p,rfl⟩:=ha.ptr (by omega)
  have ek:=h2.at OpT.len hlt
  have ek2:=h2.eltB (Below.refl _ _) OpT.len (by decide) hlt
  rw [fs_drop hlt,List.cons_append,nz_cons] at he
  simp (disch:=first|omega|exact zF rfl|exact zG rfl|exact id|(simp only[zA,zB,zC,zD,bytesW];omega)) only[go_sem,c31S5,c31S9,hlt',ek,ek2]
  refine ⟨by omega,(OpT.len _).symm,?_⟩
  have s2:=((St.start (W0:=w)).call b2).box l[k].enc.toArray 38
  have r2:=s2.rules 0 rfl
  have b2':=s2.bel
  generalize w2.heap.size=g at s2 r2 ⊢
  generalize w2.alloc (.cells l[k].enc.toArray 38)=w2' at s2 r2 b2' ⊢
  refine Ret.mono (opCheck_ok _ (hw _ (List.getElem_mem hlt)) _) ?_
  rintro _ w3 ⟨rfl,b3⟩
  have s3:=s2.call b3
  have r3:=s3.rules 0 rfl
  have b03:=s3.bel
  by_cases e0:chkP l[k]=0
  ·simp (disch:=first|omega|exact zF rfl|exact zG rfl|exact id|(simp only[zA,zB,zC,zD,bytesW];omega)) only[go_sem,c31S0,c31S5,c31S9,e0]
   have h3:=ha.below b03 (by decide)
   have ak:=l[k].at
   rcases Nat.eq_zero_or_pos k with rfl | hk0
   ·rw [fAt_zero hlt e0,if_pos rfl] at he
    refine c31draw0 ?_
    simp (disch:=first|omega|exact zF rfl|exact zG rfl|exact id|(simp only[zA,zB,zC,zD,bytesW];omega)) only[go_sem,c31S0,c31S5,c31S9,c31D0,hlt',r3,ak]
    exact ⟨⟨by omega,by omega⟩,1,rfl,⟨b03.drew,by omega,he⟩,by omega⟩
   ·have ej3:=h3.eltB (Below.refl _ _) OpT.len (by decide) (show k - 1<l.length by omega)
    have aj:=l[k - 1].at
    have hk1:(k:Int) - 1=(k - 1:Nat):=by omega
    have hk2:0<(k:Int):=by omega
    rw [fAt_id hlt hk0 e0] at he
    refine c31draw0 ?_
    by_cases e1:l[k].ID≤l[k - 1].ID
    ·rw [if_pos e1,if_neg (by decide)] at he
     simp (disch:=first|omega|exact zF rfl|exact zG rfl|exact id|(simp only[zA,zB,zC,zD,bytesW];omega)) only[go_sem,c31S0,c31S5,c31S9,c31D0,hlt',r3,ak,hk1,hk2,ej3,aj,e1]
     exact ⟨⟨by omega,by omega⟩,⟨by omega,by omega⟩,he,b03.drew⟩
    ·rw [if_neg e1,if_pos rfl] at he
     simp (disch:=first|omega|exact zF rfl|exact zG rfl|exact id|(simp only[zA,zB,zC,zD,bytesW];omega)) only[go_sem,c31S0,c31S5,c31S9,c31D0,hlt',r3,ak,hk1,hk2,ej3,aj,e1]
     exact ⟨⟨by omega,by omega⟩,⟨by omega,by omega⟩,⟨by omega,by omega⟩,k+1,rfl,⟨b03.drew,by omega,he⟩,by omega⟩
  ·rw [fAt_chk hlt e0,if_neg e0] at he
   simp (disch:=first|omega|exact zF rfl|exact zG rfl|exact id|(simp only[zA,zB,zC,zD,bytesW];omega)) only[go_sem,c31S0,c31S5,c31S9,e0]
   exact ⟨he,b03⟩
 ·have hlt':¬ (k:Int)<l.length:=by omega
  obtain rfl:k=l.length:=by omega
  rw [List.drop_of_length_le (by unfold fsAll; simp),List.nil_append] at he
  simp (disch:=first|omega|exact zF rfl|exact zG rfl|exact id|(simp only[zA,zB,zC,zD,bytesW];omega)) only[go_sem,c31S0,c31S5,c31S9,hlt']
  refine W_loopU (fun k:Nat=>[(40,.int .i64 k)]) (fun k w'=>Below w.heap.size w w'∧k≤l.length∧nz ((l.drop k).map (bes l))=N) (fun k=>l.length - k) 0 rfl ⟨b2,Nat.zero_le _,by rw [List.drop_zero]; exact he⟩ ?_
  clear h2 b2 he
  rintro k w3 ⟨b3,hk,he⟩
  have h3:=ha.below b3 (by decide)
  by_cases hlt:k<l.length
  ·have hlt':(k:Int)<l.length:=by omega
   obtain ⟨p,rfl⟩:=ha.ptr (by omega)
   have ek:=h3.at OpT.len hlt
   have ek2:=h3.eltB (Below.refl _ _) OpT.len (by decide) hlt
   rw [List.drop_eq_getElem_cons hlt,List.map_cons,nz_cons] at he
   simp (disch:=first|omega|exact zF rfl|exact zG rfl|exact id|(simp only[zA,zB,zC,zD,bytesW];omega)) only[go_sem,c31S0,c31S9,hlt',ek,ek2]
   refine ⟨by omega,(OpT.len _).symm,?_⟩
   have s3:=((St.start (W0:=w)).call b3).box l[k].enc.toArray 38
   have r3:=s3.rules 0 rfl
   have b3':=s3.bel
   generalize w3.heap.size=g at s3 r3 ⊢
   generalize w3.alloc (.cells l[k].enc.toArray 38)=w3' at s3 r3 b3' ⊢
   refine Ret.mono (hbeside_ok _ _ _ _ (ha.below b3' (by decide)) (by omega)) ?_
   rintro _ w4 ⟨rfl,b4⟩
   have b04:=(s3.call b4).bel
   by_cases e0:bes l l[k]=0
   ·rw [if_pos e0] at he
    simp (disch:=first|omega|exact zF rfl|exact zG rfl|exact id|(simp only[zA,zB,zC,zD,bytesW];omega)) only[go_sem,c31S0,c31S5,c31S9,e0]
    exact ⟨⟨by omega,by omega⟩,k+1,rfl,⟨b04,by omega,he⟩,by omega⟩
   ·rw [if_neg e0] at he
    simp (disch:=first|omega|exact zF rfl|exact zG rfl|exact id|(simp only[zA,zB,zC,zD,bytesW];omega)) only[go_sem,c31S0,c31S5,c31S9,e0]
    exact ⟨he,b04⟩
  ·have hlt':¬ (k:Int)<l.length:=by omega
   obtain rfl:k=l.length:=by omega
   rw [List.drop_length] at he
   simp (disch:=first|omega|exact zF rfl|exact zG rfl|exact id|(simp only[zA,zB,zC,zD,bytesW];omega)) only[go_sem,c31S0,c31S5,c31S9,hlt']
   exact ⟨he,b3⟩
end Go.Proofs.YteiciplnfjnfjaaGreat

end
