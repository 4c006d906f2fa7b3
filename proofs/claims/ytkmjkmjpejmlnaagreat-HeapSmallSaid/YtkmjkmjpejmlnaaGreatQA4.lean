/- Texts put together by program. -/
import Derived.Test.YtkmjkmjpejmlnaaGreatQA3
set_option linter.unusedSimpArgs false
set_option linter.unusedVariables false
set_option maxRecDepth 100000
noncomputable section

namespace Go.Proofs.YtkmjkmjpejmlnaaGreat.Slt
open Go Go.Ann Go.RowKit
theorem put_fits{s r:List UInt8}{L:List (List UInt8)}(h:Pg s L)(hok:¬ (r=[]∨freeP s.length L<r.length)):Fits s.length (withP (vacantP L) r L):=by
 refine ⟨h.lo,h.hi,?_⟩
 have hr:r≠[]:=fun e=>hok (.inl e)
 have hfr:¬ freeP s.length L<r.length:=fun e=>hok (.inr e)
 have hrpos:=List.length_pos_iff.2 hr
 have hv:=List.findIdx_le_length (xs:=L) (p:=fun r=>decide (r=[]))
 have hv2:List.findIdx (fun x=>decide (x=[])) L=vacantP L:=rfl
 rw [hv2] at hv
 have ht:takesP L=1+2 * L.length+sumP L:=rfl
 by_cases hfd:vacantP L<L.length
 ·have e1:withP (vacantP L) r L=trimP (L.set (vacantP L) r):=by unfold withP; rw [if_neg (by omega)]
  rw [e1]
  have h5:=takes_trim (L.set (vacantP L) r)
  have h6:=sumP_set hfd r
  rw [vacant_nil hfd] at h6
  have ht2:takesP (L.set (vacantP L) r)=1+2 * (L.set (vacantP L) r).length+sumP (L.set (vacantP L) r):=rfl
  rw [List.length_set] at ht2
  simp only [List.length_nil] at h6
  unfold freeP at hfr
  rw [if_neg (by omega)] at hfr
  omega
 ·have hvl:vacantP L=L.length:=by omega
  have e1:withP (vacantP L) r L=trimP (L++[r]):=by unfold withP; rw [if_pos hvl]
  rw [e1]
  have h5:=takes_trim (L++[r])
  have h6:=sumP_append L [r]
  rw [sumP_one] at h6
  have ht2:takesP (L++[r])=1+2 * (L++[r]).length+sumP (L++[r]):=rfl
  rw [List.length_append,List.length_singleton] at ht2
  unfold freeP at hfr
  rw [if_pos hvl] at hfr
  omega
theorem set_fits{s r:List UInt8}{L:List (List UInt8)}{k:Nat}(h:Pg s L)(hk:k<L.length)(hroom:takesP L+r.length≤s.length+L[k].length):Fits s.length (trimP (L.set k r)):=by
 refine ⟨h.lo,h.hi,?_⟩
 have h5:=takes_trim (L.set k r)
 have h6:=sumP_set hk r
 have ht:takesP L=1+2 * L.length+sumP L:=rfl
 have ht2:takesP (L.set k r)=1+2 * (L.set k r).length+sumP (L.set k r):=rfl
 rw [List.length_set] at ht2
 omega
theorem trimN_id{L:List (List UInt8)}(h:Trim L):trimN L L.length=L.length:=by
 cases hL:L.length with
 | zero=>rfl
 | succ n =>
  rw [trimN]
  have hn:n<L.length:=by omega
  have:=h n hn hL.symm
  rw [List.getElem?_eq_getElem hn]
  split
  ·rename_i e; exact absurd (Option.some.inj e) this
  ·rfl
theorem trimP_id{L:List (List UInt8)}(h:Trim L):trimP L=L:=by unfold trimP; rw [trimN_id h,List.take_length]
theorem Pg.trim{s:List UInt8}{L:List (List UInt8)}(h:Pg s L):Trim L:=by
 intro i hi e hr
 have h1:=h.len hi
 rw [hr] at h1
 exact (h.free i hi (by simpa using h1.symm)).2 e
theorem trim_snoc{L:List (List UInt8)}{r:List UInt8}(hr:r≠[]):Trim (L++[r]):=by
 intro i hi e
 rw [List.length_append,List.length_singleton] at e
 obtain rfl:i=L.length:=by omega
 simpa using hr
theorem trim_set{L:List (List UInt8)}{r:List UInt8}{k:Nat}(h:Trim L)(hr:r≠[]):Trim (L.set k r):=by
 intro i hi e
 rw [List.getElem_set]
 split
 ·exact hr
 ·rw [List.length_set] at hi e
  exact h i hi e
theorem vacant_le(L:List (List UInt8)):vacantP L≤L.length:=List.findIdx_le_length
theorem with_put{L:List (List UInt8)}{r:List UInt8}(h:Trim L)(hr:r≠[]):withP (vacantP L) r L=if vacantP L=L.length then L++[r] else L.set (vacantP L) r:=by
 unfold withP
 split
 ·exact trimP_id (trim_snoc hr)
 ·exact trimP_id (trim_set h hr)
theorem getP_at(L:List (List UInt8))(k:Nat):getP L k=match L[k]? with | some r=>(r,decide (r≠[])) | none=>([],false):=by
 unfold getP
 rw [if_pos (by omega),Int.toNat_natCast]
 cases L[k]? <;> rfl
end Go.Proofs.YtkmjkmjpejmlnaaGreat.Slt

namespace Go.Proofs.YtkmjkmjpejmlnaaGreat
open Go Go.Ann Go.RowKit Go.WideShapes
def stubs(es:List Ent):List (List UInt8):=es.map Ent.stub
def vacE(es:List Ent):Nat:=Slt.vacantP (stubs es)
def putE(e:Ent)(es:List Ent):List Ent:=if vacE es=es.length then es++[e] else es.set (vacE es) e
def delE(k:Nat)(es:List Ent):List Ent:=(es.set k .no).take (Slt.trimN (stubs (es.set k .no)) (stubs (es.set k .no)).length)
theorem stubs_len(es:List Ent):(stubs es).length=es.length:=List.length_map ..
theorem putE_stub{es:List Ent}{e:Ent}(ht:Slt.Trim (stubs es))(he:e.stub≠[]):stubs (putE e es)=Slt.withP (vacE es) e.stub (stubs es):=by
 show _=Slt.withP (Slt.vacantP (stubs es)) e.stub (stubs es)
 rw [Slt.with_put ht he,stubs_len]
 unfold putE vacE stubs
 split
 ·rw [List.map_append]; rfl
 ·rw [List.map_set]
theorem delE_stub{es:List Ent}{k:Nat}:stubs (delE k es)=Slt.trimP ((stubs es).set k []):=by
 have e1:stubs (es.set k .no)=(stubs es).set k []:=by unfold stubs; rw [List.map_set]; rfl
 unfold delE Slt.trimP
 rw [← e1]
 show ((es.set k .no).take _).map Ent.stub=_
 rw [List.map_take]; rfl
theorem nil_no{e:Ent}(h:e.stub=[]):e.rec?=none∧e.pgs=[]:=by
 cases e with
 | no=>exact ⟨rfl,rfl⟩
 | sh r=>cases h
 | lo r g=>cases h
 | gh s=>exact ⟨rfl,rfl⟩
def recE(a k:Nat)(e:Ent):List (Nat × List UInt8):=match e.rec? with | some r=>[(256 * a+k,r)] | none=>[]
def recsE(a:Nat):Nat→List Ent→List (Nat × List UInt8)
 | _,[]=>[]
 | k,e::es=>recE a k e++recsE a (k+1) es
def recsX(X:List (Nat × List Ent)):List (Nat × List UInt8):=X.flatMap fun x=>recsE x.1 0 x.2
theorem recsE_append(a:Nat):∀ (es fs:List Ent) (k:Nat),recsE a k (es++fs)=recsE a k es++recsE a (k+es.length) fs
 | [],fs,k=>by simp [recsE]
 | e::es,fs,k=>by
  rw [List.cons_append,recsE,recsE,recsE_append a es fs (k+1),List.append_assoc,List.length_cons]
  congr 3; omega
theorem recsE_mid(a:Nat){es fs:List Ent}{e:Ent}:recsE a 0 (es++e::fs)=recsE a 0 es++(recE a es.length e++recsE a (es.length+1) fs):=by
 rw [recsE_append,recsE,Nat.zero_add]
theorem ents_split{es:List Ent}{k:Nat}(h:k<es.length):es=es.take k++es[k]::es.drop (k+1):=by
 rw [List.getElem_cons_drop,List.take_append_drop]
theorem ents_set{es:List Ent}{k:Nat}(h:k<es.length)(e:Ent):es.set k e=es.take k++e::es.drop (k+1):=by
 rw [List.set_eq_take_append_cons_drop,if_pos h]
theorem recsE_set{a k:Nat}{es:List Ent}(h:k<es.length)(e:Ent):(recE a k es[k]++recsE a 0 (es.set k e)).Perm (recE a k e++recsE a 0 es):=by
 have e1:(es.take k).length=k:=by rw [List.length_take]; omega
 rw [ents_set h e]
 conv=>rhs; rw [ents_split h]
 rw [recsE_mid,recsE_mid,e1]
 have hp:∀ (A B C D:List (Nat × List UInt8)),(A++(C++(B++D))).Perm (B++(C++(A++D))):=fun A B C D=>by
  have h1:(A++(C++(B++D))).Perm ((B++(C++A))++D):=by
   have h2:(A++(C++B)).Perm (B++(C++A)):=by
    refine List.perm_append_comm.trans ?_
    have:=(List.perm_append_comm (l₁:=C) (l₂:=B)).append_right A
    rwa [List.append_assoc B C A] at this
   have:=h2.append_right D
   simpa only [List.append_assoc] using this
  simpa only [List.append_assoc] using h1
 exact hp _ _ _ _
theorem entsG_set{k:Nat}{es:List Ent}(h:k<es.length)(e:Ent):(es[k].pgs++entsG (es.set k e)).Perm (e.pgs++entsG es):=by
 rw [ents_set h e]
 conv=>rhs; rw [ents_split h]
 unfold entsG
 rw [List.flatMap_append,List.flatMap_append,List.flatMap_cons,List.flatMap_cons]
 have hp:∀ (A B C D:List Nat),(A++(C++(B++D))).Perm (B++(C++(A++D))):=fun A B C D=>by
  have h1:(A++(C++(B++D))).Perm ((B++(C++A))++D):=by
   have h2:(A++(C++B)).Perm (B++(C++A)):=by
    refine List.perm_append_comm.trans ?_
    have:=(List.perm_append_comm (l₁:=C) (l₂:=B)).append_right A
    rwa [List.append_assoc B C A] at this
   have:=h2.append_right D
   simpa only [List.append_assoc] using this
  simpa only [List.append_assoc] using h1
 exact hp _ _ _ _
theorem vac_at{es:List Ent}(h:vacE es≠es.length):∃ hk:vacE es<es.length,es[vacE es].stub=[]:=by
 have hle:vacE es≤es.length:=by
  have:=Slt.vacant_le (stubs es)
  rwa [stubs_len] at this
 have hlt:vacE es<es.length:=by omega
 refine ⟨hlt,?_⟩
 have:=Slt.vacant_nil (L:=stubs es) (by rw [stubs_len]; exact hlt)
 simp only [stubs,List.getElem_map] at this
 exact this
theorem recsE_put{a:Nat}{es:List Ent}(e:Ent):(recsE a 0 (putE e es)).Perm (recE a (vacE es) e++recsE a 0 es):=by
 unfold putE
 split
 ·rename_i h
  rw [recsE_mid (fs:=[]),recsE,List.append_nil,h]
  exact List.perm_append_comm
 ·rename_i h
  obtain ⟨hk,h0⟩:=vac_at h
  have:=recsE_set (a:=a) hk e
  have e0:recE a (vacE es) es[vacE es]=[]:=by unfold recE; rw [(nil_no h0).1]
  rwa [e0,List.nil_append] at this
theorem entsG_put{es:List Ent}(e:Ent):(entsG (putE e es)).Perm (e.pgs++entsG es):=by
 unfold putE
 split
 ·unfold entsG
  rw [List.flatMap_append,List.flatMap_cons,List.flatMap_nil,List.append_nil]
  exact List.perm_append_comm
 ·rename_i h
  obtain ⟨hk,h0⟩:=vac_at h
  have:=entsG_set hk e
  rwa [(nil_no h0).2,List.nil_append] at this
theorem put_mem{es:List Ent}{e x:Ent}(h:x∈putE e es):x=e∨x∈es:=by
 unfold putE at h
 split at h
 ·rcases List.mem_append.1 h with h | h
  ·exact .inr h
  ·exact .inl (List.mem_singleton.1 h)
 ·exact (List.mem_or_eq_of_mem_set h).symm
theorem put_has{es:List Ent}{e:Ent}:e∈putE e es:=by
 unfold putE
 split
 ·simp
 ·rename_i h
  exact List.mem_set (vac_at h).1 e
theorem trimN_rest(L:List (List UInt8)):∀ n j,Slt.trimN L n≤j→j<n→L[j]?=some []
 | 0,j,_,h=>by omega
 | n+1,j,h1,h2=>by
  simp only [Slt.trimN] at h1
  split at h1
  ·rename_i h
   by_cases hj:j=n
   ·subst hj; exact h
   ·exact trimN_rest L n j h1 (by omega)
  ·omega
theorem del_rest{k:Nat}{es:List Ent}:∃ fs,es.set k .no=delE k es++fs∧∀ e∈fs,e.stub=[]:=by
 refine ⟨(es.set k .no).drop (Slt.trimN (stubs (es.set k .no)) (stubs (es.set k .no)).length),(List.take_append_drop _ _).symm,fun e he=>?_⟩
 obtain ⟨j,hj,rfl⟩:=List.mem_iff_getElem.1 he
 rw [List.getElem_drop]
 have hj2:Slt.trimN (stubs (es.set k .no)) (stubs (es.set k .no)).length+j<(es.set k .no).length:=by
  rw [List.length_drop] at hj; omega
 have:=trimN_rest (stubs (es.set k .no)) (stubs (es.set k .no)).length (Slt.trimN (stubs (es.set k .no)) (stubs (es.set k .no)).length+j) (by omega) (Nat.lt_of_lt_of_eq hj2 (stubs_len _).symm)
 rw [List.getElem?_eq_getElem (Nat.lt_of_lt_of_eq hj2 (stubs_len _).symm),Option.some.injEq] at this
 simp only [stubs,List.getElem_map] at this
 exact this
theorem recsE_nil{a:Nat}:∀ {fs:List Ent} (k:Nat),(∀ e∈fs,e.stub=[])→recsE a k fs=[]
 | [],_,_=>rfl
 | e::fs,k,h=>by
  rw [recsE,recsE_nil (k+1) fun x hx=>h x (List.mem_cons_of_mem _ hx)]
  unfold recE
  rw [(nil_no (h e List.mem_cons_self)).1]; rfl
theorem entsG_nil{fs:List Ent}(h:∀ e∈fs,e.stub=[]):entsG fs=[]:=by
 unfold entsG
 rw [List.flatMap_eq_nil_iff]
 exact fun e he=>(nil_no (h e he)).2
theorem recsE_del{a k:Nat}{es:List Ent}(h:k<es.length):(recE a k es[k]++recsE a 0 (delE k es)).Perm (recsE a 0 es):=by
 obtain ⟨fs,e1,e2⟩:=del_rest (k:=k) (es:=es)
 have:=recsE_set (a:=a) h .no
 rw [e1,recsE_append,recsE_nil _ e2,List.append_nil] at this
 exact this
theorem entsG_del{k:Nat}{es:List Ent}(h:k<es.length):(es[k].pgs++entsG (delE k es)).Perm (entsG es):=by
 obtain ⟨fs,e1,e2⟩:=del_rest (k:=k) (es:=es)
 have:=entsG_set h .no
 rw [e1] at this
 have e3:entsG (delE k es++fs)=entsG (delE k es):=by
  have:=entsG_nil e2
  unfold entsG at this ⊢
  rw [List.flatMap_append,this,List.append_nil]
 rwa [e3] at this
theorem del_mem{es:List Ent}{k:Nat}{x:Ent}(h:x∈delE k es):x=.no∨x∈es:=(List.mem_or_eq_of_mem_set (List.mem_of_mem_take h)).symm
theorem items_none{L:List (List UInt8)}(ht:Slt.Trim L)(h:(Slt.itemsTo L L.length).length=0):L=[]:=by
 cases hl:L.length with
 | zero=>exact List.eq_nil_of_length_eq_zero hl
 | succ m =>
  have hm:m<L.length:=by omega
  have:=Slt.itemsTo_some hm (ht m hm (by omega))
  rw [hl,this,List.length_append] at h
  simp at h
theorem items_some{L:List (List UInt8)}(ht:Slt.Trim L)(h:(Slt.itemsTo L L.length).length≠0):∃ x∈L,x≠[]:=by
 cases hl:L.length with
 | zero=>rw [List.eq_nil_of_length_eq_zero hl] at h; exact absurd rfl h
 | succ m =>
  have hm:m<L.length:=by omega
  exact ⟨L[m],List.getElem_mem hm,ht m hm (by omega)⟩
theorem del_empty{k:Nat}{es:List Ent}(h:(Slt.itemsTo (stubs (delE k es)) (stubs (delE k es)).length).length=0):delE k es=[]:=by
 have ht:Slt.Trim (stubs (delE k es)):=by rw [delE_stub]; exact Slt.trim_trim _
 have:=items_none ht h
 exact List.map_eq_nil_iff.1 this
theorem del_some{k:Nat}{es:List Ent}(h:(Slt.itemsTo (stubs (delE k es)) (stubs (delE k es)).length).length≠0):∃ e∈delE k es,e.stub≠[]:=by
 have ht:Slt.Trim (stubs (delE k es)):=by rw [delE_stub]; exact Slt.trim_trim _
 obtain ⟨x,hx,h2⟩:=items_some ht h
 obtain ⟨e,he,rfl⟩:=List.mem_map.1 hx
 exact ⟨e,he,h2⟩
open Go Go.Ann Go.RowKit Go.WideShapes
def chainN(n:Nat):Nat:=(n+251) / 252
theorem hchain_ok(n:Nat)(w:World)(h:n≤100000):Ret Tryz.prog 117 [.int .i64 n] w fun u w'=>u=.int .i64 (chainN n:Nat)∧w'=w:=by
 refine ent117 _ _ _ ?_
 simp (disch:=first|omega|exact zF rfl|exact zG rfl|exact fun h=>h|(simp only[zA,zB,zC,zD,bytesW];omega)) only[go_sem]
 have e:((n:Int)+252 - 1).tdiv 252=((chainN n:Nat):Int):=by
  rw [Int.tdiv_eq_ediv_of_nonneg (by omega)]
  unfold chainN; omega
 rw [e]
 have hc:chainN n≤n+251:=by unfold chainN; omega
 refine ⟨⟨by omega,by omega⟩,⟨by omega,by omega⟩,?_⟩
 exact ⟨⟨by omega,by omega⟩,rfl⟩
theorem hcheck_ok(r:List UInt8)(w:World)(h:(r.length:Int)≤9223372036854775807):Ret Tryz.prog 51 [.string (ofL r)] w fun u w'=>u=.int .i64 (if r=[]∨2000<r.length then 21 else 0)∧w'=w:=by
 refine ent51 _ _ _ ?_
 simp (disch:=first|omega|exact zF rfl|exact zG rfl|exact fun h=>h|(simp only[zA,zB,zC,zD,bytesW];omega)) only[go_sem]
 by_cases h1:r=[]
 ·subst h1
  simp (disch:=first|omega|exact zF rfl|exact zG rfl|exact fun h=>h|(simp only[zA,zB,zC,zD,bytesW];omega)) only[go_sem]
 ·have e:(if r=[]∨2000<r.length then (21:Int) else 0)=if 2000<r.length then 21 else 0:=by simp [h1]
  rw [e]
  by_cases h2:2000<r.length
  ·have h2':(2000:Int)<r.length:=by omega
   simp (disch:=first|omega|exact zF rfl|exact zG rfl|exact fun h=>h|(simp only[zA,zB,zC,zD,bytesW];omega)) only[go_sem,h1,h2,h2']
   omega
  ·have h2':¬ (2000:Int)<r.length:=by omega
   simp (disch:=first|omega|exact zF rfl|exact zG rfl|exact fun h=>h|(simp only[zA,zB,zC,zD,bytesW];omega)) only[go_sem,h1,h2,h2']
theorem need_ok(r:List UInt8)(w:World)(h:r.length≤2000):Ret Tryz.prog 52 [.string (ofL r)] w fun u w'=>u=(if r.length≤62 then .tuple #[.int .i64 (1+r.length:Int),.int .i64 0] else .tuple #[.int .i64 9,.int .i64 (chainN r.length:Nat)])∧w'=w:=by
 refine ent52 _ _ _ ?_
 simp (disch:=first|omega|exact zF rfl|exact zG rfl|exact fun h=>h|(simp only[zA,zB,zC,zD,bytesW];omega)) only[go_sem]
 by_cases h1:r.length≤62
 ·have h1':1+(r.length:Int)≤63:=by omega
  rw [if_pos h1]
  simp (disch:=first|omega|exact zF rfl|exact zG rfl|exact fun h=>h|(simp only[zA,zB,zC,zD,bytesW];omega)) only[go_sem,h1,h1']
  exact ⟨⟨by omega,by omega⟩,⟨by omega,by omega⟩,fun h=>by omega⟩
 ·have h1':¬ 1+(r.length:Int)≤63:=by omega
  rw [if_neg h1]
  simp (disch:=first|omega|exact zF rfl|exact zG rfl|exact fun h=>h|(simp only[zA,zB,zC,zD,bytesW];omega)) only[go_sem,h1,h1']
  refine ⟨by constructor <;> omega,fun _=>Ret.mono (hchain_ok r.length w (by omega)) ?_⟩
  rintro _ w2 ⟨rfl,rfl⟩
  simp (disch:=first|omega|exact zF rfl|exact zG rfl|exact fun h=>h|(simp only[zA,zB,zC,zD,bytesW];omega)) only[go_sem]
theorem stub_ok(r:List UInt8)(a:Nat)(w:World)(h:r.length≤2000)(ha:a≤100000):Ret Tryz.prog 54 [.string (ofL r),.int .i64 a] w fun u w'=>u=.string (ofL (if a=0 then 115::r else 108::(fixL r.length 4++fixL a 4)))∧Below w.heap.size w w':=by
 refine ent54 _ _ _ _ ?_
 simp (disch:=first|omega|exact zF rfl|exact zG rfl|exact fun h=>h|(simp only[zA,zB,zC,zD,bytesW];omega)) only[go_sem]
 by_cases h1:a=0
 ·subst h1
  simp (disch:=first|omega|exact zF rfl|exact zG rfl|exact fun h=>h|(simp only[zA,zB,zC,zD,bytesW];omega)) only[go_sem]
  exact ⟨by omega,Below.refl _ _⟩
 ·have h1':¬ (a:Int)=0:=by omega
  rw [if_neg h1]
  have ew:IntKind.u64.wrap (r.length:Int)=(r.length:Int):=wrap_u64_id _ (by omega) (by omega)
  have ew2:IntKind.u64.wrap (a:Int)=(a:Int):=wrap_u64_id _ (by omega) (by omega)
  simp (disch:=first|omega|exact zF rfl|exact zG rfl|exact fun h=>h|(simp only[zA,zB,zC,zD,bytesW];omega)) only[go_sem,h1',ew]
  refine Ret.mono (fixed_ok r.length 4 w (by omega) (by decide)) ?_
  rintro _ w2 ⟨rfl,b2⟩
  simp (disch:=first|omega|exact zF rfl|exact zG rfl|exact fun h=>h|(simp only[zA,zB,zC,zD,bytesW];omega)) only[go_sem,h1',ew2]
  have l4:∀ n,(fixL n 4).length=4:=fun n=>fixL_len n 4
  refine ⟨by rw [l4]; omega,Ret.mono (fixed_ok a 4 w2 (by omega) (by decide)) ?_⟩
  rintro _ w3 ⟨rfl,b3⟩
  simp (disch:=first|omega|exact zF rfl|exact zG rfl|exact fun h=>h|(simp only[zA,zB,zC,zD,bytesW];omega)) only[go_sem,l4]
  exact b2.trans (b3.mono b2.size)
theorem Pgr.perm{e:En}{P:List (List UInt8)}{W0 w:World}{F:Nat→Prop}{L L':List Res}{I:List Inv}(h:Pgr e P W0 w F L I)(hp:L.Perm L'):Pgr e P W0 w F L' I:=by
 obtain ⟨A,s,k⟩:=h.lift
 exact k _ _ _ (s.perm (hp.symm.append_right A))
def fillR(s:List UInt8):List UInt8:=s++List.replicate (252 - s.length) 0
theorem fillR_len{s:List UInt8}(h:s.length≤252):(fillR s).length=252:=by unfold fillR; rw [List.length_append,List.length_replicate]; omega
theorem fillR_id{s:List UInt8}(h:s.length=252):fillR s=s:=by unfold fillR; rw [h]; simp
theorem filled_pg{n:Nat}{s:List UInt8}:filledL (fixL n 4++s)=pgN n (fillR s):=by
 unfold filledL pgN fillR
 rw [List.length_append,fixL_len,List.append_assoc,show 256 - (4+s.length)=252 - s.length by omega]
section
variable {W0 w:World} {F:Nat→Prop} {L:List Res} {I:List Inv} {e:En} {P:List (List UInt8)}
theorem hwriteS_ok{hb:Nat}{i:Int}(a:Int)(n:Nat)(s:List UInt8)(h:Pgr e P W0 w F (hpB hb e i::L) I)(h3:3≤P.length)(ha:I64 a)(hok:chkN P a=0)(h1:n≤100000)(hs:s.length≤252) :
  Ret Tryz.prog 60 [.pointer (some ⟨hb,0,none⟩),.int .i64 a,.int .i64 n,.string (ofL s)] w fun u w'=>u=.int .i64 0∧Pgr e (P.set a.toNat (pgN n (fillR s))) W0 w' F (hpB hb e i::L) I:=by
 refine ent60 _ _ _ _ _ _ ?_
 have r:=h.hp.rules
 simp (disch:=first|omega|exact zF rfl|exact zG rfl|exact fun h=>h|(simp only[zA,zB,zC,zD,bytesW];omega)) only[go_sem,r]
 refine c60draw0 (Chg (fun _=>False) _) (Chg.refl _ _) ?_
 have hd:=h.drew
 have rd:=hd.hp.rules
 have lt:=hd.hp.lt
 generalize w.drew=w1 at hd rd lt ⊢
 simp (disch:=first|omega|exact zF rfl|exact zG rfl|exact fun h=>h|(simp only[zA,zB,zC,zD,bytesW];omega)) only[go_sem,c60D0,rd]
 have ew:IntKind.u64.wrap (n:Int)=(n:Int):=wrap_u64_id _ (by omega) (by omega)
 rw [ew]
 refine Ret.mono (fixed_ok n 4 w1 (by omega) (by decide)) ?_
 rintro _ w2 ⟨rfl,b2⟩
 have h2:=hd.below b2
 have hl4:(fixL n 4).length=4:=rfl
 simp (disch:=first|omega|exact zF rfl|exact zG rfl|exact fun h=>h|(simp only[zA,zB,zC,zD,bytesW];omega)) only[go_sem,c60D0]
 refine ⟨Chg.of_below b2,by omega,Ret.mono (pset_ok a _ h2 h3 ha) ?_⟩
 have es:setPN P a (fixL n 4++s)=(P.set a.toNat (pgN n (fillR s)),0):=by
  unfold setPN
  rw [if_neg (by omega),if_neg (by rw [List.length_append]; omega),filled_pg]
 rw [es]
 rintro _ w4 ⟨rfl,h4⟩
 simp (disch:=first|omega|exact zF rfl|exact zG rfl|exact fun h=>h|(simp only[zA,zB,zC,zD,bytesW];omega)) only[go_sem,c60D0]
 exact h4
end
open Go Go.Ann Go.RowKit Go.WideShapes
section
variable {W0 w:World} {F:Nat→Prop} {L:List Res} {I:List Inv} {e:En} {P:List (List UInt8)}
theorem hpages_ok{hb:Nat}(w:World) :
  Ret Tryz.prog 55 [.pointer (some ⟨hb,0,none⟩)] w fun u w'=>u=.func (.func 119) #[] #[.pointer (some ⟨w.heap.size,0,none⟩)]∧w'=w.alloc (.cells #[.pointer (some ⟨hb,0,none⟩)] 27):=by
 refine ent55 _ _ _ ?_
 simp (disch:=first|omega|exact zF rfl|exact zG rfl|exact fun h=>h|(simp only[zA,zB,zC,zD,bytesW];omega)) only[go_sem]
def prevN(C:List Nat)(k:Nat):Nat:=if k=0 then 0 else C.getD (k - 1) 0
def curN(C:List Nat)(k:Nat):Nat:=C.getD k 0
theorem LinkN.at{P:List (List UInt8)}:∀ {C:List Nat} {a:Nat},LinkN P a C 0→(curN C 0=a)∧∀ k,k<C.length→nxtN P (curN C k)=curN C (k+1)
 | [],a,h=>⟨by have:a=0:=h; subst this; rfl,fun k hk=>by simp at hk⟩
 | c::C,a,h=>by
  obtain ⟨h1,h2⟩:=LinkN.at h.2
  refine ⟨h.1.symm,fun k hk=>?_⟩
  cases k with
  | zero=>exact h1.symm
  | succ k=>exact h2 k (by simpa using hk)
theorem hroot_ok{hb:Nat}{i:Int}(h:Pgr e P W0 w F (hpB hb e i::L) I)(h3:3≤P.length)(hi:0≤i∧i<16) :
  Ret Tryz.prog 36 [.pointer (some ⟨e.p,0,none⟩),.int .i64 i] w fun u w'=>u=.tuple #[.int .i64 (rootM P i),.int .i64 0]∧Pgr e P W0 w' F (hpB hb e i::L) I:=by
 have:=proot_ok i h h3 ⟨by omega,by omega⟩
 rw [rootN_eq hi] at this
 exact this
def hpS{τ:Type}(e:En)(W0:World)(F:Nat→Prop)(I:List Inv)(pf:τ→List (List UInt8))(R:τ→List Res):Nat × τ→List Res→World→Prop:=fun s O w=>Pgr e (pf s.2) W0 w F (O++R s.2) I
theorem hpS_ok{τ:Type}{pf:τ→List (List UInt8)}{R:τ→List Res}:RgS (hpS e W0 F I pf R) where
 obj:=fun {s l o Rr w} h=>by
  obtain ⟨A,s1,_⟩:=Pgr.lift h
  exact s1.obj 0 rfl
 put:=fun {s l o Rr w} o2 h=>by
  obtain ⟨A,s1,k⟩:=Pgr.lift h
  exact k _ _ _ (s1.putObj 0 rfl o2)
 drop:=fun {s r Rr w} h=>by
  obtain ⟨A,s1,k⟩:=Pgr.lift h
  exact k _ _ _ (s1.sub (List.sublist_cons_self ..))
 lay:=fun {s Rr w} o h=>by
  obtain ⟨A,s1,k⟩:=Pgr.lift h
  exact k _ _ _ (s1.lay o)
theorem pages1_ok{τ:Type}{hb pb l D:Nat}{i:Int}{o o':Obj}{C:List Nat}{pf:τ→List (List UInt8)}{R:τ→List Res}{J:Nat→τ→Prop}{H:τ→Prop}{t0:τ}(fv:Value)(w:World)(h3:3≤P.length)(hi:0≤i∧i<16)
  (hC:LinkN P (rootM P i) C 0) (hc:∀ c∈C,c≠0∧chkN P c=0) (hl:C.length≤500) (hlt':∀ c∈C,c<100000) (hJ:∀ k t,J k t→pf t=P)
  (hy:∀ k t w',k<C.length→J k t→Pgr e P W0 w' F ([.obj l o,.obj D defO]++hpB hb e i::.blk pb #[.pointer (some ⟨hb,0,none⟩)] 27::R t) I→callW Tryz.prog fv [.int .i64 (prevN C k),.int .i64 (curN C k)] w' fun v w'' =>
   (v=.bool true∧∃ t',J (k+1) t'∧Pgr e P W0 w'' F ([.obj l o,.obj D defO]++hpB hb e i::.blk pb #[.pointer (some ⟨hb,0,none⟩)] 27::R t') I) ∨
   (v=.bool false∧∃ t',H t'∧Pgr e (pf t') W0 w'' F ([.obj l o',.obj D defO]++hpB hb e i::.blk pb #[.pointer (some ⟨hb,0,none⟩)] 27::R t') I))
  (j0:J 0 t0) (s0:Pgr e P W0 w F ([.obj l o,.obj D defO]++hpB hb e i::.blk pb #[.pointer (some ⟨hb,0,none⟩)] 27::R t0) I) :
  Ret Tryz.prog 119 [fv,.pointer (some ⟨pb,0,none⟩)] w fun _ w' =>
   (∃ t,J C.length t∧Pgr e P W0 w' F ([.obj l o,.obj D defO]++hpB hb e i::.blk pb #[.pointer (some ⟨hb,0,none⟩)] 27::R t) I) ∨
   (∃ t,H t∧Pgr e (pf t) W0 w' F ([.obj l o',.obj D defO]++hpB hb e i::.blk pb #[.pointer (some ⟨hb,0,none⟩)] 27::R t) I):=by
 obtain ⟨hC0,hCn⟩:=hC.at
 refine ent119 _ _ _ _ ?_
 simp (disch:=first|omega|exact zF rfl|exact zG rfl|exact fun h=>h|(simp only[zA,zB,zC,zD,bytesW];omega)) only[go_sem,c119L0]
 refine c119draw0 (Same (fun k=>k=hb∨k=pb) _) (Same.refl _ _) ?_
 have s1:=s0.drew
 generalize w.drew=w1 at s1 ⊢
 have q1:=s1.perm List.perm_middle
 have hr:=q1.hp.rules
 have hlt1:=q1.hp.lt
 have hpr:Blk w1 pb #[.pointer (some ⟨hb,0,none⟩)] 27:=by
  obtain ⟨A,u1,_⟩:=s1.lift
  exact u1.blk 3 rfl
 have rp:=hpr.rules
 have hlp:=hpr.lt
 simp (disch:=first|omega|exact zF rfl|exact zG rfl|exact fun h=>h|(simp only[zA,zB,zC,zD,bytesW];omega)) only[go_sem,c119L0,c119D0,hr,rp]
 refine ⟨Same.refl _ _,Same.refl _ _,Ret.mono (hroot_ok q1 h3 hi) ?_⟩
 rintro _ w2 ⟨rfl,q2⟩
 rw [← hC0]
 simp (disch:=first|omega|exact zF rfl|exact zG rfl|exact fun h=>h|(simp only[zA,zB,zC,zD,bytesW];omega)) only[go_sem,c119D0]
 have sm:Same (fun k=>k=hb∨k=pb) w1 w2:=fun k hk=>by
  have hpr2:Blk w2 pb #[.pointer (some ⟨hb,0,none⟩)] 27:=by
   obtain ⟨A,u1,_⟩:=q2.lift
   exact u1.blk 3 rfl
  rcases hk with rfl | rfl
  ·exact q2.hp.trans q1.hp.symm
  ·exact hpr2.trans hpr.symm
 refine ⟨sm,?_⟩
 refine W_loopU (fun k:Nat=>[(3,.int .i64 (curN C k)),(5,.int .i64 (prevN C k)),(6,.int .i64 k)]) (fun k w'=>k≤C.length∧∃ t,J k t∧Pgr e P W0 w' F ([.obj l o,.obj D defO]++hpB hb e i::.blk pb #[.pointer (some ⟨hb,0,none⟩)] 27::R t) I) (fun k=>C.length - k) 0 rfl ⟨Nat.zero_le _,t0,j0,q2.perm List.perm_middle.symm⟩ ?_
 rintro k w3 ⟨hk,t,jk,s3⟩
 by_cases hlt:k<C.length
 ·have hmem:curN C k∈C:=by
   unfold curN
   rw [List.getD_eq_getElem?_getD,List.getElem?_eq_getElem hlt]
   exact List.getElem_mem _
  obtain ⟨hc0,hc1⟩:=hc _ hmem
  have hcl:=hlt' _ hmem
  have hc0':¬ ((curN C k:Nat):Int)=0:=by omega
  have hk':(k:Int)<1024:=by omega
  have hnx:=hCn k hlt
  simp (disch:=first|omega|exact zF rfl|exact zG rfl|exact fun h=>h|(simp only[zA,zB,zC,zD,bytesW];omega)) only[go_sem,c119L0,c119L0,hc0',hk']
  refine callW_mono (hy k t w3 hlt jk s3) ?_
  rintro v w4 (⟨rfl,t4,j4,s4⟩ | ⟨rfl,t4,h4,s4⟩)
  ·have q4:=s4.perm List.perm_middle
   have hpr:Blk w4 pb #[.pointer (some ⟨hb,0,none⟩)] 27:=by
    obtain ⟨A,u1,_⟩:=s4.lift
    exact u1.blk 3 rfl
   have rp:=hpr.rules
   simp (disch:=first|omega|exact zF rfl|exact zG rfl|exact fun h=>h|(simp only[zA,zB,zC,zD,bytesW];omega)) only[go_sem,c119L0,rp]
   refine Ret.mono (hread_ok _ q4 h3 ⟨by omega,by omega⟩ hc1) ?_
   rintro _ w5 ⟨rfl,q5⟩
   have e1:unfixL ((P.getD ((curN C k:Nat):Int).toNat []).take 4)=curN C (k+1):=hnx
   rw [e1]
   simp (disch:=first|omega|exact zF rfl|exact zG rfl|exact fun h=>h|(simp only[zA,zB,zC,zD,bytesW];omega)) only[go_sem,c119L0]
   have hcl2:curN C (k+1)<100000:=by
    by_cases h:k+1<C.length
    ·refine hlt' _ ?_
     unfold curN
     rw [List.getD_eq_getElem?_getD,List.getElem?_eq_getElem h]
     exact List.getElem_mem _
    ·unfold curN
     rw [List.getD_eq_getElem?_getD,List.getElem?_eq_none (by omega)]; decide
   refine ⟨by constructor <;> omega,k+1,rfl,⟨by omega,t4,j4,q5.perm List.perm_middle.symm⟩,by omega⟩
  ·simp (disch:=first|omega|exact zF rfl|exact zG rfl|exact fun h=>h|(simp only[zA,zB,zC,zD,bytesW];omega)) only[go_sem,c119L0]
   exact .inr ⟨t4,h4,s4⟩
 ·obtain rfl:k=C.length:=by omega
  have e0:curN C C.length=0:=by unfold curN; rw [List.getD_eq_getElem?_getD,List.getElem?_eq_none (Nat.le_refl _)]; rfl
  rw [e0]
  simp (disch:=first|omega|exact zF rfl|exact zG rfl|exact fun h=>h|(simp only[zA,zB,zC,zD,bytesW];omega)) only[go_sem,c119L0,c119L0]
  exact .inl ⟨t,jk,s3⟩
theorem PagesW{τ:Type}{hb pb:Nat}{i:Int}{C:List Nat}{pf:τ→List (List UInt8)}{R:τ→List Res}{J:Nat→τ→Prop}{H:τ→Prop}{t0:τ}{g:Operand}{ps:List Nat}{A B:Cmd}{ρ:Env}{Q:Post}
  (hg:ev ρ g=some (.func (.func 119) #[] #[.pointer (some ⟨pb,0,none⟩)])) (hps:ps.length=2) (h3:3≤P.length) (hi:0≤i∧i<16)
  (hC:LinkN P (rootM P i) C 0) (hc:∀ c∈C,c≠0∧chkN P c=0) (hl:C.length≤500) (hlt:∀ c∈C,c<100000) (hJ:∀ k t,J k t→pf t=P) (j0:J 0 t0)
  (s0:Pgr e P W0 w F (hpB hb e i::.blk pb #[.pointer (some ⟨hb,0,none⟩)] 27::R t0) I)
  (hbody:∀ k t w' l D o o2,k<C.length→J k t→Pgr e (pf t) W0 w' F ([.obj l o,.obj D defO]++hpB hb e i::.blk pb #[.pointer (some ⟨hb,0,none⟩)] 27::R t) I →
   W Tryz.prog A (zipE ps [.int .i64 (prevN C k),.int .i64 (curN C k)] (lowE ρ)) w' fun x ρ1 w1=>match x with
    | .normal=>∃ s1:Nat × τ,Pgr e (pf s1.2) W0 w1 F ([.obj l o,.obj D defO]++hpB hb e i::.blk pb #[.pointer (some ⟨hb,0,none⟩)] 27::R s1.2) I ∧
     ∀ w2,Pgr e (pf s1.2) W0 w2 F ([.obj l o2,.obj D defO]++hpB hb e i::.blk pb #[.pointer (some ⟨hb,0,none⟩)] 27::R s1.2) I→W Tryz.prog B ρ1 w2 fun x2 _ w3=>match x2 with
      | .normal=>∃ s2:Nat × τ,(s2.1=k+1∧J s2.1 s2.2)∧Pgr e (pf s2.2) W0 w3 F ([.obj l o2,.obj D defO]++hpB hb e i::.blk pb #[.pointer (some ⟨hb,0,none⟩)] 27::R s2.2) I
      | .ret=>∃ s2:Nat × τ,H s2.2∧Pgr e (pf s2.2) W0 w3 F ([.obj l o2,.obj D defO]++hpB hb e i::.blk pb #[.pointer (some ⟨hb,0,none⟩)] 27::R s2.2) I
      | _=>False
    | _=>False)
  (hdone:∀ t D w',J C.length t→Pgr e P W0 w' F (.obj D defO::hpB hb e i::.blk pb #[.pointer (some ⟨hb,0,none⟩)] 27::R t) I→Q .normal ((D+1000000,undef)::ρ) w')
  (hret:∀ t D w',H t→Pgr e (pf t) W0 w' F (.obj D defO::hpB hb e i::.blk pb #[.pointer (some ⟨hb,0,none⟩)] 27::R t) I→Q .ret ((D+1000000,undef)::ρ) w') :
  RangeW Tryz.prog g ps A B ρ w Q:=by
 obtain ⟨R',hR'⟩:∃ R':τ→List Res,R'=fun t=>hpB hb e i::.blk pb #[.pointer (some ⟨hb,0,none⟩)] 27::R t:=⟨_,rfl⟩
 have er:∀ t,R' t=hpB hb e i::.blk pb #[.pointer (some ⟨hb,0,none⟩)] 27::R t:=fun t=>by rw [hR']
 refine RangeW_free (S:=hpS e W0 F I pf R') hpS_ok (fun x:Nat × Nat=>[.int .i64 x.1,.int .i64 x.2]) (0,t0)
  (fun s x=>s.1<C.length∧J s.1 s.2∧x=(prevN C s.1,curN C s.1)) (fun s _ s'=>s'.1=s.1+1∧J s'.1 s'.2) (fun _ _ s'=>H s'.2) (fun s=>s.1=C.length∧J s.1 s.2) (fun s=>H s.2) hg (by kernel_rfl) ?_ (fun _=>hps.symm) ?_ ?_ ?_ ?_
 ·show Pgr e (pf t0) W0 w F ([]++R' t0) I
  rw [hJ _ _ j0,er]; exact s0
 ·intro fv l D o o' w1 hf s1
  have s1:Pgr e (pf t0) W0 w1 F ([.obj l o,.obj D defO]++R' t0) I:=s1
  rw [hJ _ _ j0,er] at s1
  refine Ret.mono (pages1_ok (o':=o') (H:=H) (pf:=pf) fv w1 h3 hi hC hc hl hlt hJ ?_ j0 s1) ?_
  ·intro k t w' hk jk h
   refine callW_mono (hf (prevN C k,curN C k) (k,t) w' ⟨hk,jk,rfl⟩ ?_) ?_
   ·show Pgr e (pf t) W0 w' F ([.obj l o,.obj D defO]++R' t) I
    rw [hJ _ _ jk,er]; exact h
   ·rintro v w'' (⟨rfl,s',⟨e1,j1⟩,h1⟩ | ⟨rfl,s',e1,h1⟩)
    ·have h1:Pgr e (pf s'.2) W0 w'' F ([.obj l o,.obj D defO]++R' s'.2) I:=h1
     rw [hJ _ _ j1,er] at h1
     exact .inl ⟨rfl,s'.2,e1 ▸ j1,h1⟩
    ·have h1:Pgr e (pf s'.2) W0 w'' F ([.obj l o',.obj D defO]++R' s'.2) I:=h1
     rw [er] at h1
     exact .inr ⟨rfl,s'.2,e1,h1⟩
  ·rintro _ w' (⟨t,jt,h1⟩ | ⟨t,jt,h1⟩)
   ·refine .inl ⟨(C.length,t),⟨rfl,jt⟩,?_⟩
    show Pgr e (pf t) W0 w' F ([.obj l o,.obj D defO]++R' t) I
    rw [hJ _ _ jt,er]; exact h1
   ·refine .inr ⟨(0,t),jt,?_⟩
    show Pgr e (pf t) W0 w' F ([.obj l o',.obj D defO]++R' t) I
    rw [er]; exact h1
 ·rintro x ⟨k,t⟩ w' l D o o2 ⟨hk,jk,rfl⟩ h
  subst hR'
  exact hbody k t w' l D o o2 hk jk h
 ·rintro ⟨k,t⟩ D w' ⟨e1,jk⟩ h
  have e1:k=C.length:=e1
  subst e1
  have jk:J C.length t:=jk
  have h:Pgr e (pf t) W0 w' F ([.obj D defO]++R' t) I:=h
  rw [hJ _ _ jk,er] at h
  exact hdone t D w' jk h
 ·rintro ⟨k,t⟩ D w' jk h
  have h:Pgr e (pf t) W0 w' F ([.obj D defO]++R' t) I:=h
  rw [er] at h
  exact hret t D w' jk h
end
open Go Go.Ann Go.RowKit Go.WideShapes
theorem spell_cons{P:List (List UInt8)}{r:List UInt8}{g:List Nat}{a:Nat}(hr:r≠[])(ha:a<P.length)(hg:a ∉ g)(hs:SpellN P (r.drop 252) g)(hn:g.headD 0<4294967296):SpellN (P.set a (pgN (g.headD 0) (fillR (r.take 252)))) r (a::g):=by
 refine ⟨hr,by rw [nxtN_set ha hn,if_pos rfl],?_,hs.same (SameOn.set _ hg)⟩
 rw [resN_set ha,if_pos rfl]
 unfold fillR
 by_cases hl:r.length≤252
 ·rw [List.take_of_length_le hl,List.take_left' rfl]
 ·have:(r.take 252).length=252:=by rw [List.length_take]; omega
  rw [this,Nat.sub_self,List.replicate_zero,List.append_nil,List.take_of_length_le (by omega)]
theorem spell_len{P:List (List UInt8)}:∀ {g:List Nat} {r:List UInt8},SpellN P r g→g.length=chainN r.length
 | [],r,h=>by have:r=[]:=h; subst this; rfl
 | a::g,r,h=>by
  have h1:=spell_len h.2.2.2
  have:=List.length_pos_iff.2 h.1
  rw [List.length_cons,h1,List.length_drop]
  unfold chainN; omega
theorem cut_chunk{r:List UInt8}{m:Nat}:cutL r (((m:Int)+1 - 1) * 252) (min (r.length:Int) (((m:Int)+1 - 1) * 252+252))=(r.drop (252 * m)).take 252:=by
 have e1:(((m:Int)+1 - 1) * 252).toNat=252 * m:=by omega
 have e2:(min (r.length:Int) (((m:Int)+1 - 1) * 252+252)).toNat=min r.length (252 * m+252):=by omega
 unfold cutL
 rw [e1,e2,List.drop_take]
 refine List.ext_getElem? fun j=>?_
 rw [List.getElem?_take,List.getElem?_take,List.getElem?_drop]
 by_cases h:252 * m+j<r.length
 ·by_cases hj:j<252
  ·rw [if_pos hj,if_pos (by omega)]
  ·rw [if_neg hj,if_neg (by omega)]
 ·rw [List.getElem?_eq_none (by omega)]
  split <;> split <;> rfl
section
variable {W0 w:World} {F:Nat→Prop} {L:List Res} {I:List Inv} {e:En} {P:List (List UInt8)} {X:List (Nat × List Ent)} {E:List Nat} {n hb:Nat} {i:Int}
theorem spill_ok(r:List UInt8)(h:Pgr e P W0 w F (hpB hb e i::L) I)(hp:HpN n i P X [])(hroom:chainN r.length≤roomN P)(hr:r.length≤2000) :
  Ret Tryz.prog 53 [.pointer (some ⟨hb,0,none⟩),.string (ofL r)] w fun u w'=>∃ P' g,u=.tuple #[.int .i64 (g.headD 0:Nat),.int .i64 0]∧Pgr e P' W0 w' F (hpB hb e i::L) I∧HpN n i P' X g∧SpellN P' r g:=by
 refine ent53 _ _ _ _ ?_
 simp (disch:=first|omega|exact zF rfl|exact zG rfl|exact fun h=>h|(simp only[zA,zB,zC,zD,bytesW];omega)) only[go_sem]
 refine Ret.mono (hchain_ok r.length w (by omega)) ?_
 rintro _ w2 ⟨rfl,rfl⟩
 simp (disch:=first|omega|exact zF rfl|exact zG rfl|exact fun h=>h|(simp only[zA,zB,zC,zD,bytesW];omega)) only[go_sem]
 refine W_loopU (fun s:Nat × List Nat=>[(6,.int .i64 (s.2.headD 0:Nat)),(7,.int .i64 s.1)]) (fun s w'=>∃ P',Pgr e P' W0 w' F (hpB hb e i::L) I∧HpN n i P' X s.2∧SpellN P' (r.drop (252 * s.1)) s.2∧s.1+s.2.length=chainN r.length) (fun s=>s.1) (chainN r.length,[]) rfl ⟨P,h,hp,?_,rfl⟩ ?_
 ·show r.drop (252 * chainN r.length)=[]
  refine List.drop_eq_nil_of_le ?_
  unfold chainN; omega
 rintro ⟨k,g⟩ w3 ⟨P',h3,p3,sp,hkg⟩
 simp only at p3 sp hkg
 have hbig:=p3.big
 have hlen:=p3.given.len
 have hg:g.headD 0<n:=by
  cases g with
  | nil=>simp; omega
  | cons a g=>exact (p3.rng a (p3.memE List.mem_cons_self)).2
 by_cases hk:k=0
 ·subst hk
  simp (disch:=first|omega|exact zF rfl|exact zG rfl|exact fun h=>h|(simp only[zA,zB,zC,zD,bytesW];omega)) only[go_sem]
  exact ⟨P',g,rfl,h3,p3,by simpa using sp⟩
 ·obtain ⟨m,rfl⟩:∃ m,k=m+1:=⟨k - 1,by omega⟩
  have hk':(0:Int)<(m:Int)+1:=by omega
  have hrm:0<roomN P':=by
   have e1:=hp.room
   have e2:=p3.room
   rw [List.length_append] at e1 e2
   simp only [List.length_nil] at e1
   omega
  have hm:252 * m<r.length:=by
   have:m+1≤chainN r.length:=by omega
   unfold chainN at this; omega
  obtain ⟨P2,a,ea,p4,hfr,same⟩:=p3.alloc hrm
  have r3:=h3.hp.rules
  simp (disch:=first|omega|exact zF rfl|exact zG rfl|exact fun h=>h|(simp only[zA,zB,zC,zD,bytesW];omega)) only[go_sem,hk',r3]
  refine Ret.mono (palloc_ok h3 (by omega)) ?_
  rw [ea]
  rintro _ w4 ⟨rfl,h4⟩
  have ha:=p4.rng a (p4.memE List.mem_cons_self)
  have hlen4:=p4.given.len
  simp (disch:=first|omega|exact zF rfl|exact zG rfl|exact fun h=>h|(simp only[zA,zB,zC,zD,bytesW];omega)) only[go_sem,hk']
  rw [cut_chunk]
  have hcl:((r.drop (252 * m)).take 252).length≤252:=List.length_take_le _ _
  have hok:chkN P2 (a:Nat)=0:=p4.chk (p4.memE List.mem_cons_self)
  refine ⟨⟨by omega,by omega⟩,⟨by omega,by omega⟩,⟨by omega,by omega⟩,⟨by omega,by omega,by omega⟩,Ret.mono (hwriteS_ok (a:Int) (g.headD 0) _ h4 (by rw [hlen4]; omega) ⟨by omega,by omega⟩ hok (by omega) hcl) ?_⟩
  rintro _ w5 ⟨rfl,h5⟩
  simp (disch:=first|omega|exact zF rfl|exact zG rfl|exact fun h=>h|(simp only[zA,zB,zC,zD,bytesW];omega)) only[go_sem,hk']
  rw [Int.toNat_natCast] at h5
  have e1:(m:Int)+1 - 1=m:=by omega
  rw [e1]
  have hdd:(r.drop (252 * m)).drop 252=r.drop (252 * (m+1)):=by rw [List.drop_drop]; congr 1
  refine ⟨⟨by omega,by omega⟩,(m,a::g),rfl,⟨_,h5,p4.setE List.mem_cons_self (pgN_len (fillR_len hcl)),?_,?_⟩,Nat.lt_succ_self m⟩
  ·refine spell_cons ?_ (by rw [hlen4]; exact ha.2) ?_ ?_ (by omega)
   ·intro hc
    have:=congrArg List.length hc
    rw [List.length_drop,List.length_nil] at this
    omega
   ·exact fun hc=>hfr (List.mem_append_left _ hc)
   ·rw [hdd]
    exact sp.same (same.sub fun d hd=>List.mem_append_left _ hd)
  ·simp only [List.length_cons]; omega
theorem gather_ok(r:List UInt8)(g:List Nat)(h:Pgr e P W0 w F (hpB hb e i::L) I)(h3:3≤P.length)(hg:∀ a∈g,chkN P a=0∧a<100000)(hs:SpellN P r g)(hr:r.length≤2000) :
  Ret Tryz.prog 90 [.pointer (some ⟨hb,0,none⟩),.string (ofL (Ent.stub (.lo r g)))] w fun u w'=>u=.tuple #[.string (ofL r),.int .i64 0]∧Pgr e P W0 w' F (hpB hb e i::L) I:=by
 refine ent90 _ _ _ _ ?_
 simp (disch:=first|omega|exact zF rfl|exact zG rfl|exact fun h=>h|(simp only[zA,zB,zC,zD,bytesW];omega)) only[go_sem]
 refine c90draw0 ?_
 have h1:=h.drew
 generalize w.drew=w1 at h1 ⊢
 simp (disch:=first|omega|exact zF rfl|exact zG rfl|exact fun h=>h|(simp only[zA,zB,zC,zD,bytesW];omega)) only[go_sem,c90D0]
 have el:(Ent.lo r g).stub.length=9:=by
  simp only [Ent.stub,List.length_cons,List.length_append,fixL_len]
 have e1:cutL (Ent.lo r g).stub 1 5=fixL r.length 4:=rfl
 have e2:cutL (Ent.lo r g).stub 5 9=fixL (g.headD 0) 4:=rfl
 rw [el,e1,e2]
 have hh:g.headD 0<100000:=by
  cases g with
  | nil=>decide
  | cons a g=>exact (hg a List.mem_cons_self).2
 refine ⟨by decide,by decide,Ret.mono (unfixed_ok (fixL r.length 4) w1 (by rw [fixL_len]; decide)) ?_⟩
 rintro _ w2 ⟨rfl,rfl⟩
 rw [unfixL_fixL,Nat.mod_eq_of_lt (by omega)]
 simp (disch:=first|omega|exact zF rfl|exact zG rfl|exact fun h=>h|(simp only[zA,zB,zC,zD,bytesW];omega)) only[go_sem,c90D0]
 refine ⟨⟨by omega,by omega⟩,Ret.mono (unfixed_ok (fixL (g.headD 0) 4) w2 (by rw [fixL_len]; decide)) ?_⟩
 rintro _ w3 ⟨rfl,rfl⟩
 rw [unfixL_fixL,Nat.mod_eq_of_lt (by omega)]
 simp (disch:=first|omega|exact zF rfl|exact zG rfl|exact fun h=>h|(simp only[zA,zB,zC,zD,bytesW];omega)) only[go_sem,c90D0]
 refine ⟨⟨by omega,by omega⟩,?_⟩
 refine W_loopU (fun k:Nat=>[(7,.int .i64 ((g.drop k).headD 0:Nat)),(8,.string (ofL (r.take (252 * k))))]) (fun k w'=>Pgr e P W0 w' F (hpB hb e i::L) I∧SpellN P (r.drop (252 * k)) (g.drop k)∧252 * k≤r.length+252) (fun k=>r.length+252 - 252 * k) 0 rfl ⟨h1,hs,by omega⟩ ?_
 rintro k w4 ⟨h4,sp,hkl⟩
 by_cases hk:r.length≤252 * k
 ·have e5:r.take (252 * k)=r:=List.take_of_length_le hk
  rw [e5]
  have hk':¬ (r.length:Int)<r.length:=by omega
  simp (disch:=first|omega|exact zF rfl|exact zG rfl|exact fun h=>h|(simp only[zA,zB,zC,zD,bytesW];omega)) only[go_sem,hk']
  exact h4
 ·obtain ⟨a,g',eg⟩:∃ a g',g.drop k=a::g':=by
   cases hd:g.drop k with
   | nil =>
    rw [hd] at sp
    have:=congrArg List.length (show r.drop (252 * k)=[] from sp)
    rw [List.length_drop,List.length_nil] at this
    omega
   | cons a g'=>exact ⟨a,g',rfl⟩
  have eg2:g.drop (k+1)=g':=by rw [← List.drop_drop,eg]; rfl
  rw [eg] at sp ⊢
  obtain ⟨q1,q2,q3,q4⟩:=sp
  have ham:a∈g:=List.mem_of_mem_drop (by rw [eg]; exact List.mem_cons_self)
  obtain ⟨ha1,ha2⟩:=hg a ham
  have etl:(r.take (252 * k)).length=252 * k:=by rw [List.length_take]; omega
  have hk':((r.take (252 * k)).length:Int)<r.length:=by rw [etl]; omega
  simp (disch:=first|omega|exact zF rfl|exact zG rfl|exact fun h=>h|(simp only[zA,zB,zC,zD,bytesW];omega)) only[go_sem,hk',List.headD_cons]
  refine Ret.mono (hread_ok _ h4 h3 ⟨by omega,by omega⟩ ha1) ?_
  rintro _ w5 ⟨rfl,h5⟩
  have e6:unfixL ((P.getD ((a:Nat):Int).toNat []).take 4)=g'.headD 0:=q2
  have e7:(P.getD ((a:Nat):Int).toNat []).drop 4=resN P a:=rfl
  rw [e6,e7]
  have hrl:(resN P a).length=252:=by
   obtain ⟨c1,c2⟩:=chk_in ha1
   have hlt:a<P.length:=by omega
   unfold resN
   rw [List.length_drop,List.getD_eq_getElem?_getD,List.getElem?_eq_getElem hlt,Option.getD_some,h5.full _ (List.getElem_mem hlt)]
  simp (disch:=first|omega|exact zF rfl|exact zG rfl|exact fun h=>h|(simp only[zA,zB,zC,zD,bytesW];omega)) only[go_sem]
  have et:(resN P a).take (min ((resN P a).length:Int) ((r.length:Int) - (r.take (252 * k)).length)).toNat=(r.drop (252 * k)).take 252:=by
   rw [← q3,etl,hrl,List.length_drop]
   have e8:(min ((252:Nat):Int) ((r.length:Int) - ((252 * k:Nat):Int))).toNat=min 252 (r.length - 252 * k):=by omega
   rw [e8]
   by_cases hc:r.length - 252 * k≤252
   ·rw [Nat.min_eq_right hc]
   ·rw [Nat.min_eq_left (by omega),List.take_of_length_le (by omega),List.take_of_length_le (by omega)]
  have ea:r.take (252 * k)++(r.drop (252 * k)).take 252=r.take (252 * (k+1)):=by
   rw [← List.take_add]; rfl
  rw [et,ea,hrl,etl]
  refine ⟨⟨by omega,by omega⟩,⟨by omega,by omega⟩,?_,k+1,?_,⟨h5,?_,by omega⟩,by omega⟩
  ·rw [List.length_take,List.length_drop]; omega
  ·rw [eg2]
  ·rw [eg2]
   have:(r.drop (252 * k)).drop 252=r.drop (252 * (k+1)):=by rw [List.drop_drop]; congr 1
   rw [this] at q4
   exact q4
theorem release_ok(r:List UInt8)(g:List Nat)(h:Pgr e P W0 w F (hpB hb e i::L) I)(hp:HpN n i P X g)(hs:SpellN P r g)(hr:r.length≤2000) :
  Ret Tryz.prog 92 [.pointer (some ⟨hb,0,none⟩),.string (ofL (Ent.stub (.lo r g)))] w fun u w'=>∃ P',u=.int .i64 0∧Pgr e P' W0 w' F (hpB hb e i::L) I∧HpN n i P' X []∧SameOn P P' (pagesX X):=by
 have el:(Ent.lo r g).stub.length=9:=by
  simp only [Ent.stub,List.length_cons,List.length_append,fixL_len]
 have e2:cutL (Ent.lo r g).stub 5 9=fixL (g.headD 0) 4:=rfl
 have e3:bN (Ent.lo r g).stub 0=108:=rfl
 have hh:g.headD 0<100000:=by
  have:=hp.big
  cases g with
  | nil=>decide
  | cons a g=>have:=(hp.rng a (hp.memE List.mem_cons_self)).2; simp only [List.headD_cons]; omega
 refine ent92 _ _ _ _ ?_
 simp (disch:=first|omega|exact zF rfl|exact zG rfl|exact fun h=>h|(simp only[zA,zB,zC,zD,bytesW];omega)) only[go_sem]
 rw [el,e2,e3]
 refine ⟨by omega,fun hc=>absurd rfl hc,fun _=>⟨by omega,Ret.mono (unfixed_ok (fixL (g.headD 0) 4) w (by rw [fixL_len]; decide)) ?_⟩⟩
 rintro _ w2 ⟨rfl,rfl⟩
 rw [unfixL_fixL,Nat.mod_eq_of_lt (by omega)]
 simp (disch:=first|omega|exact zF rfl|exact zG rfl|exact fun h=>h|(simp only[zA,zB,zC,zD,bytesW];omega)) only[go_sem]
 refine ⟨⟨by omega,by omega⟩,?_⟩
 refine W_loopU (fun k:Nat=>[(5,.int .i64 ((g.drop k).headD 0:Nat))]) (fun k w'=>∃ P',Pgr e P' W0 w' F (hpB hb e i::L) I∧HpN n i P' X (g.drop k)∧SpellN P' (r.drop (252 * k)) (g.drop k)∧SameOn P P' (pagesX X)) (fun k=>g.length - k) 0 rfl ⟨P,h,hp,hs,fun _ _=>rfl⟩ ?_
 rintro k w4 ⟨P',h4,p4,sp,sm⟩
 have hbig:=p4.big
 have hlen:=p4.given.len
 cases eg:g.drop k with
 | nil =>
  rw [eg] at p4
  simp (disch:=first|omega|exact zF rfl|exact zG rfl|exact fun h=>h|(simp only[zA,zB,zC,zD,bytesW];omega)) only[go_sem,List.headD_nil]
  exact ⟨P',h4,p4,sm⟩
 | cons a g' =>
  have eg2:g.drop (k+1)=g':=by rw [← List.drop_drop,eg]; rfl
  have hkl:k<g.length:=by
   refine Classical.byContradiction fun hc=>?_
   rw [List.drop_eq_nil_of_le (by omega)] at eg; cases eg
  rw [eg] at sp p4
  obtain ⟨q1,q2,q3,q4⟩:=sp
  have ha:=p4.rng a (p4.memE List.mem_cons_self)
  have hok:chkN P' (a:Nat)=0:=p4.chk (p4.memE List.mem_cons_self)
  have ha0:¬ (a:Int)=0:=by omega
  have r4:=h4.hp.rules
  simp (disch:=first|omega|exact zF rfl|exact zG rfl|exact fun h=>h|(simp only[zA,zB,zC,zD,bytesW];omega)) only[go_sem,ha0,List.headD_cons]
  refine Ret.mono (hread_ok _ h4 (by omega) ⟨by omega,by omega⟩ hok) ?_
  rintro _ w5 ⟨rfl,h5⟩
  have e6:unfixL ((P'.getD ((a:Nat):Int).toNat []).take 4)=g'.headD 0:=q2
  rw [e6]
  have r5:=h5.hp.rules
  simp (disch:=first|omega|exact zF rfl|exact zG rfl|exact fun h=>h|(simp only[zA,zB,zC,zD,bytesW];omega)) only[go_sem,r5]
  obtain ⟨P5,ef,p5,sm5⟩:=p4.free
  refine Ret.mono (pfree_ok _ h5 (by omega) ⟨by omega,by omega⟩) ?_
  rw [ef]
  rintro _ w6 ⟨rfl,h6⟩
  simp (disch:=first|omega|exact zF rfl|exact zG rfl|exact fun h=>h|(simp only[zA,zB,zC,zD,bytesW];omega)) only[go_sem]
  refine ⟨k+1,by rw [eg2],⟨P5,h6,by rw [eg2]; exact p5,?_,sm.trans (sm5.sub fun d hd=>List.mem_append_right _ hd)⟩,by omega⟩
  rw [eg2]
  have:(r.drop (252 * k)).drop 252=r.drop (252 * (k+1)):=by rw [List.drop_drop]; congr 1
  rw [this] at q4
  exact q4.same (sm5.sub fun d hd=>List.mem_append_left _ hd)
theorem release_short(r:List UInt8)(h:Pgr e P W0 w F (hpB hb e i::L) I)(hr:r.length≤2000) :
  Ret Tryz.prog 92 [.pointer (some ⟨hb,0,none⟩),.string (ofL (115::r))] w fun u w'=>u=.int .i64 0∧Pgr e P W0 w' F (hpB hb e i::L) I:=by
 have e3:bN (115::r) 0=115:=rfl
 refine ent92 _ _ _ _ ?_
 simp (disch:=first|omega|exact zF rfl|exact zG rfl|exact fun h=>h|(simp only[zA,zB,zC,zD,bytesW];omega)) only[go_sem]
 rw [e3]
 refine ⟨by omega,fun _=>h,fun hc=>?_⟩
 exact absurd hc (by decide)
end
open Go Go.Ann Go.RowKit Go.WideShapes
theorem fits252{L:List (List UInt8)}(h:Slt.takesP L≤252):Slt.Fits 252 L:=⟨by decide,by decide,h⟩
theorem pg_nil:Slt.Pg (Slt.textP 252 []) []:=Slt.text_pg (fits252 (by decide)) (fun i h _=>by simp at h)
section
variable {W0 w:World} {F:Nat→Prop} {L:List Res} {I:List Inv} {e:En} {P:List (List UInt8)} {X:List (Nat × List Ent)} {E:List Nat} {n hb:Nat} {i:Int}
theorem fresh_ok(t:Ent)(h:Pgr e P W0 w F (hpB hb e i::L) I)(hp:HpN n i P X t.pgs)(ht:EntOk P t)(h0:t.stub≠[])(hl:t.stub.length≤63)(hroom:0<roomN P) :
  Ret Tryz.prog 61 [.pointer (some ⟨hb,0,none⟩),.string (ofL t.stub)] w fun u w'=>∃ (P':List (List UInt8)) (a:Nat),u=.tuple #[.int .i64 (256 * a:Nat),.int .i64 0]∧2≤a∧Pgr e P' W0 w' F (hpB hb e i::L) I∧HpN n i P' ((a,[t])::X) []:=by
 have hbig:=hp.big
 have hlen:=hp.given.len
 have hidx:=hp.idx
 refine ent61 _ _ _ _ ?_
 simp (disch:=first|omega|exact zF rfl|exact zG rfl|exact fun h=>h|(simp only[zA,zB,zC,zD,bytesW];omega)) only[go_sem]
 refine c61draw0 (Same (fun k=>k=hb) _) (Same.refl _ _) ?_
 have h1:=h.drew
 generalize w.drew=w1 at h1 ⊢
 have r1:=h1.hp.rules
 have l1:=h1.hp.lt
 simp (disch:=first|omega|exact zF rfl|exact zG rfl|exact fun h=>h|(simp only[zA,zB,zC,zD,bytesW];omega)) only[go_sem,c61D0,r1]
 refine ⟨Same.refl _ _,Ret.mono (hroot_ok h1 (by omega) hp.idx) ?_⟩
 rintro _ w2 ⟨rfl,h2⟩
 have r2:=h2.hp.rules
 simp (disch:=first|omega|exact zF rfl|exact zG rfl|exact fun h=>h|(simp only[zA,zB,zC,zD,bytesW];omega)) only[go_sem,c61D0,r2]
 obtain ⟨P2,a,ea,p2,hfr,same⟩:=hp.alloc hroom
 refine Ret.mono (palloc_ok h2 (by omega)) ?_
 rw [ea]
 rintro _ w3 ⟨rfl,h3⟩
 have h3:Pgr e P2 W0 w3 F (hpB hb e i::L) I:=h3
 simp (disch:=first|omega|exact zF rfl|exact zG rfl|exact fun h=>h|(simp only[zA,zB,zC,zD,bytesW];omega)) only[go_sem]
 refine Ret.mono (Slt.new_ok 252 w3 (by decide) (by decide)) ?_
 rintro _ w4 ⟨rfl,b4⟩
 have h4:=h3.below b4
 simp (disch:=first|omega|exact zF rfl|exact zG rfl|exact fun h=>h|(simp only[zA,zB,zC,zD,bytesW];omega)) only[go_sem]
 refine Ret.mono (Slt.slot_put_ok _ t.stub [] w4 pg_nil) ?_
 rintro _ w5 ⟨rfl,b5⟩
 have h5:=h4.below b5
 have hl252:(Slt.textP 252 []).length=252:=Slt.textP_len (fits252 (by decide))
 have hfp:Slt.freeP 252 []=249:=by decide
 rw [hl252,if_neg (by rw [hfp]; rintro (hc | hc); exact h0 hc; omega)]
 have ew:Slt.withP (Slt.vacantP []) t.stub []=stubs [t]:=(putE_stub (es:=[]) (e:=t) (fun i h _=>by simp [stubs] at h) h0).symm
 have ev:Slt.vacantP []=0:=rfl
 rw [ew,ev]
 have hf:Slt.Fits 252 (stubs [t]):=fits252 (by simp [stubs,Slt.takesP,Slt.sumP]; omega)
 have hs:(Slt.textP 252 (stubs [t])).length=252:=Slt.textP_len hf
 have htr:Slt.Trim (stubs [t]):=fun i hi _=>by
  have:i=0:=by simp [stubs] at hi; omega
  subst this; exact h0
 have hpg:Slt.Pg (Slt.textP 252 (stubs [t])) (stubs [t]):=Slt.text_pg hf htr
 generalize Slt.textP 252 (stubs [t])=s at hs hpg ⊢
 simp (disch:=first|omega|exact zF rfl|exact zG rfl|exact fun h=>h|(simp only[zA,zB,zC,zD,bytesW];omega)) only[go_sem]
 have hok:chkN P2 (a:Nat)=0:=p2.chk (p2.memE List.mem_cons_self)
 have ha:=p2.rng a (p2.memE List.mem_cons_self)
 have hlen2:=p2.given.len
 have erm:rootM P2 i=rootM P i:=by rw [p2.rootH,hp.rootH]
 have hrl:=hp.rootLt
 refine Ret.mono (hwriteS_ok (a:Int) (rootM P i) s h5 (by omega) ⟨by omega,by omega⟩ hok (by omega) (by omega)) ?_
 rintro _ w6 ⟨rfl,h6⟩
 rw [fillR_id hs,Int.toNat_natCast] at h6
 simp (disch:=first|omega|exact zF rfl|exact zG rfl|exact fun h=>h|(simp only[zA,zB,zC,zD,bytesW];omega)) only[go_sem]
 refine c61draw1 (Same (fun k=>k=hb) _) (Same.refl _ _) ?_
 have h7:=h6.drew
 generalize w6.drew=w7 at h7 ⊢
 have r7:=h7.hp.rules
 have l7:=h7.hp.lt
 simp (disch:=first|omega|exact zF rfl|exact zG rfl|exact fun h=>h|(simp only[zA,zB,zC,zD,bytesW];omega)) only[go_sem,c61D1,r7]
 refine Ret.mono (place_ok' (a:Int) 0 w7 (by omega) (by omega) (by decide) (by decide)) ?_
 rintro _ w8 ⟨rfl,rfl⟩
 have e0:(256:Int) * (a:Int)+0=((256 * a:Nat):Int):=by omega
 rw [e0]
 simp (disch:=first|omega|exact zF rfl|exact zG rfl|exact fun h=>h|(simp only[zA,zB,zC,zD,bytesW];omega)) only[go_sem,c61D1]
 refine ⟨Same.refl _ _,Ret.mono (psetRoot_ok i (a:Int) h7 (by rw [List.length_set]; omega) ⟨by omega,by omega⟩ ⟨by omega,by omega⟩) ?_⟩
 have p3:=p2.setE (s:=pgN (rootM P i) s) (a:=a) List.mem_cons_self (pgN_len hs)
 have hset:=setRootN_in (P:=P2.set a (pgN (rootM P i) s)) (i:=i) (j:=(a:Int)) hp.idx p3.rootL (.inr (p3.chk (p3.memE List.mem_cons_self))) (by omega)
 rw [hset]
 rintro _ w9 ⟨rfl,h9⟩
 have eb:rootB (P2.set a (pgN (rootM P i) s))=rootB P2:=rootB_other (by omega)
 have hge:entsG [t]=t.pgs:=by unfold entsG; simp
 have key:=p2.push (a:=a) (es:=[t]) (E':=[]) (s:=s) (by rw [List.nil_append,hge]) hpg hs (fun x hx=>by
  rw [List.mem_singleton] at hx; subst hx
  exact ht.same (same.sub fun d hd=>List.mem_append_left _ hd)) ⟨t,List.mem_singleton.2 rfl,h0⟩
 rw [erm,← eb] at key
 simp (disch:=first|omega|exact zF rfl|exact zG rfl|exact fun h=>h|(simp only[zA,zB,zC,zD,bytesW];omega)) only[go_sem,c61D1]
 exact ⟨_,a,rfl,ha.1,h9,key⟩
end
open Go Go.Ann Go.RowKit Go.WideShapes
section
variable {W0 w:World} {F:Nat→Prop} {L:List Res} {I:List Inv} {e:En} {P:List (List UInt8)}
theorem Pgr.box(h:Pgr e P W0 w F L I)(cs:Array Value)(t:TypeId):Pgr e P W0 (w.alloc (.cells cs t)) F (.blk w.heap.size cs t::L) I:=by
 obtain ⟨A,s,k⟩:=h.lift
 exact k _ _ _ (s.box cs t)
theorem Pgr.rules(h:Pgr e P W0 w F L I)(i:Nat){b:Nat}{cs:Array Value}{t:TypeId}(hi:L[i]?=some (.blk b cs t)):(∀ i,w.cell? ⟨b,i,none⟩=cs[i]?)∧(∀ i,w.frozen? ⟨b,i,none⟩=false)∧(∀ n,okSize cs n=true→cellsO w ⟨b,0,none⟩ 0 n=some cs.toList):=by
 obtain ⟨A,s,k⟩:=h.lift
 have hl:=(List.getElem?_eq_some_iff.1 hi).1
 exact s.rules i (by rw [List.getElem?_append_left hl]; exact hi)
theorem Pgr.bk(h:Pgr e P W0 w F L I)(i:Nat){b:Nat}{cs:Array Value}{t:TypeId}(hi:L[i]?=some (.blk b cs t)):Blk w b cs t:=by
 obtain ⟨A,s,k⟩:=h.lift
 have hl:=(List.getElem?_eq_some_iff.1 hi).1
 exact s.blk i (by rw [List.getElem?_append_left hl]; exact hi)
theorem Pgr.set(h:Pgr e P W0 w F L I)(i:Nat){b:Nat}{cs:Array Value}{t:TypeId}(hi:L[i]?=some (.blk b cs t))(j:Nat)(v:Value):Pgr e P W0 (w.setCell ⟨b,j,none⟩ v) F (L.set i (.blk b (cs.setIfInBounds j v) t)) I:=by
 obtain ⟨A,s,k⟩:=h.lift
 have hl:=(List.getElem?_eq_some_iff.1 hi).1
 have:=s.set i (by rw [List.getElem?_append_left hl]; exact hi) j v
 rw [List.set_append_left _ _ hl] at this
 exact k _ _ _ this
theorem Pgr.ob(h:Pgr e P W0 w F L I)(i:Nat){b:Nat}{o:Obj}(hi:L[i]?=some (.obj b o)):w.heap[b]?=some o:=by
 obtain ⟨A,s,k⟩:=h.lift
 have hl:=(List.getElem?_eq_some_iff.1 hi).1
 exact s.obj i (by rw [List.getElem?_append_left hl]; exact hi)
theorem Pgr.putOb(h:Pgr e P W0 w F L I)(i:Nat){b:Nat}{o:Obj}(hi:L[i]?=some (.obj b o))(o':Obj):Pgr e P W0 (w.putObj b o') F (L.set i (.obj b o')) I:=by
 obtain ⟨A,s,k⟩:=h.lift
 have hl:=(List.getElem?_eq_some_iff.1 hi).1
 have:=s.putObj i (by rw [List.getElem?_append_left hl]; exact hi) o'
 rw [List.set_append_left _ _ hl] at this
 exact k _ _ _ this
theorem Pgr.sub{L':List Res}(h:Pgr e P W0 w F L I)(hs:L'.Sublist L):Pgr e P W0 w F L' I:=by
 obtain ⟨A,s,k⟩:=h.lift
 exact k _ _ _ (s.sub (hs.append_right A))
end
def moreN(r:List UInt8):Nat:=if r.length≤62 then 0 else chainN r.length
def PutX(X:List (Nat × List Ent))(r:List UInt8)(id:Nat)(X':List (Nat × List Ent)):Prop :=
 ∃ t:Ent,t.rec?=some r∧t.pgs.length=moreN r ∧
  ((∃ A B a es,X=A++(a,es)::B∧X'=A++(a,putE t es)::B∧id=256 * a+vacE es)∨∃ a,X'=(a,[t])::X∧id=256 * a)
section
variable {W0 w:World} {F:Nat→Prop} {L:List Res} {I:List Inv} {e:En} {P:List (List UInt8)} {X:List (Nat × List Ent)} {E:List Nat} {n hb:Nat} {i:Int}
abbrev PutK(e:En)(W0:World)(F:Nat→Prop)(L:List Res)(I:List Inv)(P:List (List UInt8))(X:List (Nat × List Ent))(n hb:Nat)(i:Int)(r:List UInt8)(u:Value)(w':World):Prop:=∃ P' X',Pgr e P' W0 w' F (hpB hb e i::L) I∧HpN n i P' X' [] ∧
   (((r=[]∨2000<r.length)∧u=.tuple #[.int .i64 0,.int .i64 21]∧X'=X) ∨
   (¬ (r=[]∨2000<r.length)∧roomN P<moreN r+1∧u=.tuple #[.int .i64 0,.int .i64 13]∧X'=X) ∨
   (¬ (r=[]∨2000<r.length)∧moreN r+1≤roomN P∧∃ id:Nat,u=.tuple #[.int .i64 id,.int .i64 0]∧PutX X r id X'))
theorem pagesX_le:∀ X:List (Nat × List Ent),X.length≤(pagesX X).length
 | []=>Nat.zero_le _
 | x::X=>by
  have:=pagesX_le X
  show X.length+1≤(x.1::entsG x.2++pagesX X).length
  rw [List.length_append,List.length_cons]
  omega
theorem X_split{X:List (Nat × List Ent)}{k:Nat}(h:k<X.length):X=X.take k++X[k]::X.drop (k+1):=by
 rw [List.getElem_cons_drop,List.take_append_drop]
theorem moreN_le{r:List UInt8}(h:r.length≤2000):moreN r≤8:=by
 unfold moreN chainN; split <;> omega
theorem put_round{P1:List (List UInt8)}{t:Ent}{sz k l D b2 b7 b11 pb a:Nat}{es:List Ent}{o2:Obj}{w13:World}{Q:Post}
  (q13:Pgr e P1 W0 w13 F ([.obj l o2,.obj D defO]++hpB hb e i::.blk pb #[.pointer (some ⟨hb,0,none⟩)] 27::.blk b11 #[.string (ofL t.stub)] 9::.blk b7 #[.int .i64 (sz:Nat)] 3::.blk (b2+1+1) #[.int .i64 0] 30::.blk (b2+1) #[.int .i64 0] 3::.blk b2 #[.pointer (some ⟨hb,0,none⟩)] 27::L) I)
  (p1:HpN n i P1 X t.pgs) (te:EntOk P1 t) (hk:k<X.length) (hxk:X[k]=(a,es)) (t3:t.stub.length=sz) (t4:sz≤63) (t5:t.stub≠[])
  (hcont:∀ ρ w',Pgr e P1 W0 w' F ([.obj l o2,.obj D defO]++hpB hb e i::.blk pb #[.pointer (some ⟨hb,0,none⟩)] 27::.blk b11 #[.string (ofL t.stub)] 9::.blk b7 #[.int .i64 (sz:Nat)] 3::.blk (b2+1+1) #[.int .i64 0] 30::.blk (b2+1) #[.int .i64 0] 3::.blk b2 #[.pointer (some ⟨hb,0,none⟩)] 27::L) I→Q .normal ρ w')
  (hret:∀ ρ P' w',HpN n i P' (X.take k++(a,putE t es)::X.drop (k+1)) []→Pgr e P' W0 w' F ([.obj l o2,.obj D defO]++hpB hb e i::.blk pb #[.pointer (some ⟨hb,0,none⟩)] 27::.blk b11 #[.string (ofL t.stub)] 9::.blk b7 #[.int .i64 (sz:Nat)] 3::.blk (b2+1+1) #[.int .i64 0] 30::.blk (b2+1) #[.int .i64 (256 * a+vacE es:Nat)] 3::.blk b2 #[.pointer (some ⟨hb,0,none⟩)] 27::L) I→Q .ret ρ w') :
  W Tryz.prog (c13B0 ()) [(2,.pointer (some ⟨b2,0,none⟩)),(4,.pointer (some ⟨b2+1,0,none⟩)),(5,.pointer (some ⟨b2+1+1,0,none⟩)),(7,.pointer (some ⟨b7,0,none⟩)),(11,.pointer (some ⟨b11,0,none⟩)),(13,.int .i64 a)] w13 Q:=by
 have hidx:=p1.idx
 have hbig1:=p1.big
 have hlen1:=p1.given.len
 have ecur:curN (X.map Prod.fst) k=a:=by
  unfold curN
  rw [List.getD_eq_getElem?_getD,List.getElem?_map,List.getElem?_eq_getElem hk,hxk]; rfl
 have hX:=X_split hk
 rw [hxk] at hX
 have hxm:X[k]∈X:=List.getElem_mem hk
 rw [hxk] at hxm
 obtain ⟨pgk,okk⟩:=p1.pg _ hxm
 have hmk:=p1.memX (page_sub hxm _ List.mem_cons_self)
 have hrk:=p1.rng _ hmk
 have hck:=p1.chk hmk
 simp only at pgk okk hmk hrk hck
 have r2:=q13.rules 8 rfl
 simp (disch:=first|omega|exact zF rfl|exact zG rfl|exact fun h=>h|(simp only[zA,zB,zC,zD,bytesW];omega)) only[go_sem,c13B0,c13S14,c13B0,r2]
 refine Ret.mono (hread_ok _ (q13.perm List.perm_middle) (by omega) ⟨by omega,by omega⟩ hck) ?_
 rintro _ w14 ⟨rfl,q14⟩
 have q14:=q14.perm List.perm_middle.symm
 have e1:unfixL ((P1.getD ((a:Nat):Int).toNat []).take 4)=nxtN P1 a:=rfl
 have e2:(P1.getD ((a:Nat):Int).toNat []).drop 4=resN P1 a:=rfl
 rw [e1,e2]
 simp (disch:=first|omega|exact zF rfl|exact zG rfl|exact fun h=>h|(simp only[zA,zB,zC,zD,bytesW];omega)) only[go_sem,c13B0,c13S14]
 have hl252:(resN P1 a).length=252:=by
  unfold resN
  rw [List.length_drop,List.getD_eq_getElem?_getD,List.getElem?_eq_getElem (by omega),Option.getD_some,p1.full _ (List.getElem_mem _)]
 refine c13draw0 (Same (fun k=>k=b7) _) (Same.refl _ _) ?_
 have q15:=q14.drew
 generalize w14.drew=w15 at q15 ⊢
 have r7:=q15.rules 5 rfl
 simp (disch:=first|omega|exact zF rfl|exact zG rfl|exact fun h=>h|(simp only[zA,zB,zC,zD,bytesW];omega)) only[go_sem,c13B0,c13S14,c13D0,r7]
 refine Ret.mono (Slt.free_ok _ _ w15 pgk) ?_
 rintro _ w16 ⟨rfl,b16⟩
 have q16:=q15.below b16
 rw [hl252]
 simp (disch:=first|omega|exact zF rfl|exact zG rfl|exact fun h=>h|(simp only[zA,zB,zC,zD,bytesW];omega)) only[go_sem,c13B0,c13S14,c13D0]
 refine ⟨fun j hj=>by subst hj; exact (q16.bk 5 rfl).trans (q15.bk 5 rfl).symm,fun _=>hcont _ _ q16,fun hfr=>?_⟩
 have r11:=q16.rules 4 rfl
 simp (disch:=first|omega|exact zF rfl|exact zG rfl|exact fun h=>h|(simp only[zA,zB,zC,zD,bytesW];omega)) only[go_sem,c13B0,c13S14,r11]
 refine Ret.mono (Slt.slot_put_ok _ t.stub _ w16 pgk) ?_
 rintro _ w17 ⟨rfl,b17⟩
 have q17:=q16.below b17
 have hts:¬ (t.stub=[]∨Slt.freeP (resN P1 a).length (es.map Ent.stub)<t.stub.length):=by
  rw [hl252,t3]
  rintro (hc | hc)
  ·exact t5 hc
  ·omega
 rw [if_neg hts]
 have htrim:Slt.Trim (stubs es):=pgk.trim
 have ew:Slt.withP (Slt.vacantP (es.map Ent.stub)) t.stub (es.map Ent.stub)=stubs (putE t es):=(putE_stub htrim t5).symm
 have ev:Slt.vacantP (es.map Ent.stub)=vacE es:=rfl
 have hf:=Slt.put_fits pgk hts
 rw [ew] at hf ⊢
 rw [ev,hl252]
 rw [hl252] at hf
 have hs:(Slt.textP 252 (stubs (putE t es))).length=252:=Slt.textP_len hf
 have htr2:Slt.Trim (stubs (putE t es)):=by rw [← ew]; unfold Slt.withP; exact Slt.trim_trim _
 have hpg:Slt.Pg (Slt.textP 252 (stubs (putE t es))) (stubs (putE t es)):=Slt.text_pg hf htr2
 have hvl:vacE es≤127:=by
  have h1:=Slt.vacant_le (stubs es)
  have h2:=pgk.few
  exact Nat.le_trans h1 h2
 generalize Slt.textP 252 (stubs (putE t es))=s at hs hpg ⊢
 simp (disch:=first|omega|exact zF rfl|exact zG rfl|exact fun h=>h|(simp only[zA,zB,zC,zD,bytesW];omega)) only[go_sem,c13B0,c13S14]
 refine c13draw1 (Same (fun k=>k=b2) _) (Same.refl _ _) ?_
 have q18:=q17.drew
 generalize w17.drew=w18 at q18 ⊢
 have r2:=q18.rules 8 rfl
 simp (disch:=first|omega|exact zF rfl|exact zG rfl|exact fun h=>h|(simp only[zA,zB,zC,zD,bytesW];omega)) only[go_sem,c13B0,c13S14,c13D1,r2]
 refine Ret.mono (place_ok' (a:Int) (vacE es:Nat) w18 (by omega) (by omega) (by omega) (by omega)) ?_
 rintro _ w19 ⟨rfl,rfl⟩
 have eid:256 * (a:Int)+((vacE es:Nat):Int)=((256 * a+vacE es:Nat):Int):=by omega
 rw [eid]
 obtain ⟨id,hid⟩:∃ id,id=256 * a+vacE es:=⟨_,rfl⟩
 rw [← hid]
 have hnx:nxtN P1 a<n:=by
  have h1:=p1.root.at.2 k (by rw [List.length_map]; exact hk)
  rw [ecur] at h1
  rw [h1]
  unfold curN
  by_cases h2:k+1<X.length
  ·rw [List.getD_eq_getElem?_getD,List.getElem?_map,List.getElem?_eq_getElem h2]
   exact (p1.rng _ (p1.memX (page_sub (List.getElem_mem h2) _ List.mem_cons_self))).2
  ·rw [List.getD_eq_getElem?_getD,List.getElem?_eq_none (by rw [List.length_map]; omega)]
   show 0<n
   omega
 simp (disch:=first|omega|exact zF rfl|exact zG rfl|exact fun h=>h|(simp only[zA,zB,zC,zD,bytesW];omega)) only[go_sem,c13B0,c13S14,c13D1]
 refine ⟨Same.refl _ _,Ret.mono (hwriteS_ok (a:Int) (nxtN P1 a) s (q18.perm List.perm_middle) (by omega) ⟨by omega,by omega⟩ hck (by omega) (by omega)) ?_⟩
 rintro _ w20 ⟨rfl,q20⟩
 have q20:=q20.perm List.perm_middle.symm
 rw [fillR_id hs,Int.toNat_natCast] at q20
 have r4:=q20.rules 7 rfl
 have r5:=q20.rules 6 rfl
 have l4:b2+1<w20.heap.size:=(q20.bk 7 rfl).lt
 simp (disch:=first|omega|exact zF rfl|exact zG rfl|exact fun h=>h|(simp only[zA,zB,zC,zD,bytesW];omega)) only[go_sem,c13B0,c13S14,c13D1,r4,r5]
 have q21:=q20.set 7 rfl 0 (.int .i64 (id:Nat))
 refine ⟨fun j hj=>by subst hj; exact (q21.bk 8 rfl).trans (q18.bk 8 rfl).symm,?_⟩
 have q22:=q21.set 6 rfl 0 (.int .i64 0)
 have p1':HpN n i P1 (X.take k++(a,es)::X.drop (k+1)) t.pgs:=by rw [← hX]; exact p1
 rw [hid] at q22 ⊢
 refine hret _ _ _ (p1'.setX (E':=[]) (es':=putE t es) (entsG_put t).symm hpg hs (fun x hx=>?_) ⟨t,put_has,t5⟩) q22
 rcases put_mem hx with rfl | hx
 ·exact te
 ·exact okk x hx
theorem hput_ok(r:List UInt8)(h:Pgr e P W0 w F (hpB hb e i::L) I)(hp:HpN n i P X [])(hr:(r.length:Int)≤9223372036854775807) :
  Ret Tryz.prog 13 [.pointer (some ⟨hb,0,none⟩),.string (ofL r)] w (PutK e W0 F L I P X n hb i r):=by
 have hbig:=hp.big
 have hlen:=hp.given.len
 have hidx:=hp.idx
 refine ent13 _ _ _ _ ?_
 simp (disch:=first|omega|exact zF rfl|exact zG rfl|exact fun h=>h|(simp only[zA,zB,zC,zD,bytesW];omega)) only[go_sem,c13B0,c13S14]
 have s3:=((h.box #[.pointer (some ⟨hb,0,none⟩)] 27).box #[.int .i64 0] 3).box #[.int .i64 0] 30
 simp only [World.size_alloc] at s3
 generalize w.heap.size=b2 at s3 ⊢
 generalize ((w.alloc (.cells #[.pointer (some ⟨hb,0,none⟩)] 27)).alloc (.cells #[.int .i64 0] 3)).alloc (.cells #[.int .i64 0] 30)=w3 at s3 ⊢
 have q3:Pgr e P W0 w3 F (hpB hb e i::.blk (b2+1+1) #[.int .i64 0] 30::.blk (b2+1) #[.int .i64 0] 3::.blk b2 #[.pointer (some ⟨hb,0,none⟩)] 27::L) I:=s3.perm (List.perm_middle (l₁:=[_,_,_]))
 have fin:∀ {P':List (List UInt8)} {w':World} {a1 a2:Array Value},Pgr e P' W0 w' F (hpB hb e i::.blk (b2+1+1) a1 30::.blk (b2+1) a2 3::.blk b2 #[.pointer (some ⟨hb,0,none⟩)] 27::L) I→Pgr e P' W0 w' F (hpB hb e i::L) I:=fun h=>h.sub (.cons_cons _ (.cons _ (.cons _ (.cons _ (List.Sublist.refl _)))))
 clear s3 h
 have r3:=q3.rules 3 rfl
 refine Ret.mono (hmade_ok q3) ?_
 rintro _ w4 ⟨rfl,rfl⟩
 simp (disch:=first|omega|exact zF rfl|exact zG rfl|exact fun h=>h|(simp only[zA,zB,zC,zD,bytesW];omega)) only[go_sem,c13B0,c13S14]
 refine Ret.mono (hcheck_ok r w4 hr) ?_
 rintro _ w5 ⟨rfl,rfl⟩
 by_cases hbad:r=[]∨2000<r.length
 ·rw [if_pos hbad]
  have r4:=q3.rules 1 rfl
  have r5:=q3.rules 2 rfl
  simp (disch:=first|omega|exact zF rfl|exact zG rfl|exact fun h=>h|(simp only[zA,zB,zC,zD,bytesW];omega)) only[go_sem,c13B0,c13S14,r4,r5]
  exact ⟨P,X,fin ((q3.set 2 rfl 0 (.int .i64 0)).set 1 rfl 0 (.int .i64 21)),hp,.inl ⟨hbad,rfl,rfl⟩⟩
 rw [if_neg hbad]
 have hr1:r≠[]:=fun hc=>hbad (.inl hc)
 have hr2:r.length≤2000:=Nat.le_of_not_lt fun hc=>hbad (.inr hc)
 simp (disch:=first|omega|exact zF rfl|exact zG rfl|exact fun h=>h|(simp only[zA,zB,zC,zD,bytesW];omega)) only[go_sem,c13B0,c13S14]
 refine Ret.mono (need_ok r w5 hr2) ?_
 rintro _ w6 ⟨rfl,rfl⟩
 have en:(if r.length≤62 then Value.tuple #[.int .i64 (1+r.length:Int),.int .i64 0] else .tuple #[.int .i64 9,.int .i64 (chainN r.length:Nat)])=.tuple #[.int .i64 (if r.length≤62 then 1+r.length else 9:Nat),.int .i64 (moreN r:Nat)]:=by
  unfold moreN
  split <;> simp
 rw [en]
 obtain ⟨sz,hsz⟩:∃ sz:Nat,sz=if r.length≤62 then 1+r.length else 9:=⟨_,rfl⟩
 rw [← hsz]
 clear en
 have s7:=q3.box #[.int .i64 (sz:Nat)] 3
 have hb7:b2+1+1<w6.heap.size:=(q3.bk 1 rfl).lt
 have hbb7:hb<w6.heap.size:=q3.hp.lt
 obtain ⟨b7,hb7e⟩:∃ b,b=w6.heap.size:=⟨_,rfl⟩
 rw [← hb7e] at s7
 have q7:Pgr e P W0 (w6.alloc (.cells #[.int .i64 (sz:Nat)] 3)) F (hpB hb e i::.blk b7 #[.int .i64 (sz:Nat)] 3::.blk (b2+1+1) #[.int .i64 0] 30::.blk (b2+1) #[.int .i64 0] 3::.blk b2 #[.pointer (some ⟨hb,0,none⟩)] 27::L) I:=s7.perm (List.perm_middle (l₁:=[_]))
 have fin7:∀ {P':List (List UInt8)} {w':World} {a0 a1 a2:Array Value},Pgr e P' W0 w' F (hpB hb e i::.blk b7 a0 3::.blk (b2+1+1) a1 30::.blk (b2+1) a2 3::.blk b2 #[.pointer (some ⟨hb,0,none⟩)] 27::L) I→Pgr e P' W0 w' F (hpB hb e i::L) I:=fun h=>h.sub (.cons_cons _ (.cons _ (.cons _ (.cons _ (.cons _ (List.Sublist.refl _))))))
 have rh:=q3.hp.rules
 clear s7 q3 fin
 simp (disch:=first|omega|exact zF rfl|exact zG rfl|exact fun h=>h|(simp only[zA,zB,zC,zD,bytesW];omega)) only[go_sem,c13B0,c13S14,r3,rh]
 simp only [← hb7e]
 generalize w6.alloc (.cells #[.int .i64 (sz:Nat)] 3)=w7 at q7 ⊢
 clear r3 rh
 refine Ret.mono (proom_ok q7 (by omega)) ?_
 rintro _ w8 ⟨rfl,q8⟩
 simp (disch:=first|omega|exact zF rfl|exact zG rfl|exact fun h=>h|(simp only[zA,zB,zC,zD,bytesW];omega)) only[go_sem,c13B0]
 have hml:=moreN_le hr2
 by_cases hroom:roomN P<moreN r+1
 ·have hroom':(roomN P:Int)<(moreN r:Int)+1:=by omega
  have r4:=q8.rules 2 rfl
  have r5:=q8.rules 3 rfl
  simp (disch:=first|omega|exact zF rfl|exact zG rfl|exact fun h=>h|(simp only[zA,zB,zC,zD,bytesW];omega)) only[go_sem,c13B0,c13S14,hroom',r4,r5]
  refine ⟨⟨by omega,by omega⟩,⟨P,X,fin7 ((q8.set 3 rfl 0 (.int .i64 0)).set 2 rfl 0 (.int .i64 13)),hp,.inr (.inl ⟨hbad,hroom,rfl,rfl⟩)⟩,fun h=>by omega⟩
 have hroom':¬ (roomN P:Int)<(moreN r:Int)+1:=by omega
 have tail:∀ (t:Ent) (P1:List (List UInt8)) (a1:Nat) (w':World),a1<n→Pgr e P1 W0 w' F (hpB hb e i::.blk b7 #[.int .i64 (sz:Nat)] 3::.blk (b2+1+1) #[.int .i64 0] 30::.blk (b2+1) #[.int .i64 0] 3::.blk b2 #[.pointer (some ⟨hb,0,none⟩)] 27::L) I →
   HpN n i P1 X t.pgs→EntOk P1 t→t.rec?=some r→t.stub=(if a1=0 then 115::r else 108::(fixL r.length 4++fixL a1 4))→t.stub.length=sz→sz≤63→t.stub≠[]→t.pgs.length=moreN r→0<roomN P1 →
   W Tryz.prog (c13S14 ()) [(1,.string (ofL r)),(2,.pointer (some ⟨b2,0,none⟩)),(4,.pointer (some ⟨b2+1,0,none⟩)),(5,.pointer (some ⟨b2+1+1,0,none⟩)),(7,.pointer (some ⟨b7,0,none⟩)),(9,.int .i64 a1)] w' (finQ Tryz.prog [.cell 4 3,.cell 5 30] (PutK e W0 F L I P X n hb i r)):=by
  intro t P1 a1 w' ha1 q1 p1 te t1 t2 t3 t4 t5 t6 t7
  simp (disch:=first|omega|exact zF rfl|exact zG rfl|exact fun h=>h|(simp only[zA,zB,zC,zD,bytesW];omega)) only[go_sem,c13B0,c13S14]
  refine Ret.mono (stub_ok r a1 w' hr2 (by omega)) ?_
  rintro _ w9 ⟨rfl,b9⟩
  rw [← t2]
  have q9:=q1.below b9
  simp (disch:=first|omega|exact zF rfl|exact zG rfl|exact fun h=>h|(simp only[zA,zB,zC,zD,bytesW];omega)) only[go_sem,c13B0,c13S14]
  have hll:b2<w9.heap.size:=(q9.bk 4 rfl).lt
  have r2:=q9.rules 4 rfl
  have s10:=(q9.box #[.string (ofL t.stub)] 9).perm (List.perm_middle (l₁:=[_]))
  obtain ⟨b11,hb11⟩:∃ b,b=w9.heap.size:=⟨_,rfl⟩
  simp (disch:=first|omega|exact zF rfl|exact zG rfl|exact fun h=>h|(simp only[zA,zB,zC,zD,bytesW];omega)) only[go_sem,c13B0,c13S14,r2]
  simp only [← hb11] at s10 ⊢
  have hsz2:b11<(w9.alloc (.cells #[.string (ofL t.stub)] 9)).heap.size:=by rw [World.size_alloc]; omega
  generalize w9.alloc (.cells #[.string (ofL t.stub)] 9)=w10 at s10 hsz2 ⊢
  refine Ret.mono (hpages_ok (hb:=hb) w10) ?_
  rintro _ w11 ⟨rfl,rfl⟩
  have s11:=(s10.box #[.pointer (some ⟨hb,0,none⟩)] 27).perm (List.Perm.swap _ _ _)
  obtain ⟨pb,hpb⟩:∃ b,b=w10.heap.size:=⟨_,rfl⟩
  simp only [← hpb] at s11 ⊢
  generalize w10.alloc (.cells #[.pointer (some ⟨hb,0,none⟩)] 27)=w11 at s11 ⊢
  simp (disch:=first|omega|exact zF rfl|exact zG rfl|exact fun h=>h|(simp only[zA,zB,zC,zD,bytesW];omega)) only[go_sem,c13B0,c13S14]
  have hbig1:=p1.big
  have hlen1:=p1.given.len
  refine PagesW (C:=X.map Prod.fst) (τ:=Option (List (List UInt8) × Nat)) (pf:=fun t=>match t with | none=>P1 | some x=>x.1)
   (R:=fun t'=>.blk b11 #[.string (ofL t.stub)] 9::.blk b7 #[.int .i64 (sz:Nat)] 3::.blk (b2+1+1) #[.int .i64 0] 30::.blk (b2+1) #[.int .i64 ((match t' with | none=>0 | some x=>x.2:Nat):Int)] 3::.blk b2 #[.pointer (some ⟨hb,0,none⟩)] 27::L)
   (J:=fun _ t'=>t'=none) (H:=fun t'=>∃ P' id,t'=some (P',id)∧∃ A B a es,X=A++(a,es)::B∧HpN n i P' (A++(a,putE t es)::B) []∧id=256 * a+vacE es)
   (t0:=none) rfl rfl (by omega) hidx p1.root ?_ ?_ ?_ (fun _ _ h=>by rw [h]) rfl s11 ?_ ?_ ?_
  ·intro c hc
   obtain ⟨x,hx,rfl⟩:=List.mem_map.1 hc
   have hm:=p1.memX (page_sub hx _ List.mem_cons_self)
   exact ⟨by have:=p1.rng _ hm; omega,p1.chk hm⟩
  ·rw [List.length_map]
   have h1:=p1.few
   have h2:=pagesX_le X
   rw [List.length_append] at h1
   omega
  ·intro c hc
   obtain ⟨x,hx,rfl⟩:=List.mem_map.1 hc
   have:=p1.rng _ (p1.memX (page_sub hx _ List.mem_cons_self)); omega
  ·rintro k t' w' l D o o2 hk rfl q12
   rw [List.length_map] at hk
   have ecur:curN (X.map Prod.fst) k=X[k].1:=by
    unfold curN
    rw [List.getD_eq_getElem?_getD,List.getElem?_map,List.getElem?_eq_getElem hk]; rfl
   rw [ecur]
   have hX:=X_split hk
   generalize hxk:X[k]=xk at *
   obtain ⟨a,es⟩:=xk
   simp (disch:=first|omega|exact zF rfl|exact zG rfl|exact fun h=>h|(simp only[zA,zB,zC,zD,bytesW];omega)) only[go_sem,c13S14]
   refine ⟨(k,none),q12,fun w13 q13=>?_⟩
   have q13:Pgr e P1 W0 w13 F ([.obj l o2,.obj D defO]++hpB hb e i::.blk pb #[.pointer (some ⟨hb,0,none⟩)] 27::.blk b11 #[.string (ofL t.stub)] 9::.blk b7 #[.int .i64 (sz:Nat)] 3::.blk (b2+1+1) #[.int .i64 0] 30::.blk (b2+1) #[.int .i64 0] 3::.blk b2 #[.pointer (some ⟨hb,0,none⟩)] 27::L) I:=q13
   refine put_round q13 p1 te hk hxk t3 t4 t5 ?_ ?_
   ·intro ρ w' q
    exact ⟨(k+1,none),⟨rfl,rfl⟩,q⟩
   ·intro ρ P' w' hpg q
    exact ⟨(0,some (P',256 * a+vacE es)),⟨_,_,rfl,_,_,_,_,hX,hpg,rfl⟩,q⟩
  ·rintro t' D w' rfl q12
   have q12:Pgr e P1 W0 w' F (.obj D defO::hpB hb e i::.blk pb #[.pointer (some ⟨hb,0,none⟩)] 27::.blk b11 #[.string (ofL t.stub)] 9::.blk b7 #[.int .i64 (sz:Nat)] 3::.blk (b2+1+1) #[.int .i64 0] 30::.blk (b2+1) #[.int .i64 0] 3::.blk b2 #[.pointer (some ⟨hb,0,none⟩)] 27::L) I:=q12
   have r2:=q12.rules 7 rfl
   have r11:=q12.rules 3 rfl
   simp (disch:=first|omega|exact zF rfl|exact zG rfl|exact fun h=>h|(simp only[zA,zB,zC,zD,bytesW];omega)) only[go_sem,c13B0,c13S14,r2,r11]
   refine Ret.mono (fresh_ok t (q12.perm (List.Perm.swap _ _ _)) p1 te t5 (by omega) t7) ?_
   rintro _ w13 ⟨P',a,rfl,ha2,q13,p13⟩
   have q13:=q13.perm (List.Perm.swap _ _ _)
   have r4:=q13.rules 6 rfl
   have r5:=q13.rules 5 rfl
   have l4:b2+1<w13.heap.size:=(q13.bk 6 rfl).lt
   have q14:=(q13.set 6 rfl 0 (.int .i64 (256 * a:Nat))).set 5 rfl 0 (.int .i64 0)
   have hD:=q13.ob 0 rfl
   have hD2:=q14.ob 0 rfl
   simp (disch:=first|omega|exact zF rfl|exact zG rfl|exact fun h=>h|(simp only[zA,zB,zC,zD,bytesW];omega)) only[go_sem,c13B0,c13S14,r4,r5,hD,hD2]
   have q15:=q14.putOb 0 rfl (.deferred none)
   have r4:=q15.rules 6 rfl
   have r5:=q15.rules 5 rfl
   generalize ((w13.setCell ⟨b2+1,0,none⟩ (.int .i64 (256 * a:Nat))).setCell ⟨b2+1+1,0,none⟩ (.int .i64 0)).putObj D (.deferred none)=w15 at q15 r4 r5 ⊢
   simp (disch:=first|omega|exact zF rfl|exact zG rfl|exact fun h=>h|(simp only[zA,zB,zC,zD,bytesW];omega)) only[go_sem,c13B0,c13S14,r4,r5]
   exact ⟨P',_,q15.sub (.cons _ (.cons_cons _ (.cons _ (.cons _ (.cons _ (.cons _ (.cons _ (.cons _ (List.Sublist.refl _))))))))),p13,.inr (.inr ⟨hbad,by omega,256 * a,rfl,t,t1,t6,.inr ⟨a,rfl,rfl⟩⟩)⟩
  ·rintro t' D w' ⟨P',id,ht',A,B,a,es,hX,hp',hid⟩ q12
   subst ht'
   have q12:Pgr e P' W0 w' F (.obj D defO::hpB hb e i::.blk pb #[.pointer (some ⟨hb,0,none⟩)] 27::.blk b11 #[.string (ofL t.stub)] 9::.blk b7 #[.int .i64 (sz:Nat)] 3::.blk (b2+1+1) #[.int .i64 0] 30::.blk (b2+1) #[.int .i64 (id:Nat)] 3::.blk b2 #[.pointer (some ⟨hb,0,none⟩)] 27::L) I:=q12
   have q13:=q12.putOb 0 rfl (.deferred none)
   have r4:=q13.rules 6 rfl
   have r5:=q13.rules 5 rfl
   have hD:=q12.ob 0 rfl
   simp (disch:=first|omega|exact zF rfl|exact zG rfl|exact fun h=>h|(simp only[zA,zB,zC,zD,bytesW];omega)) only[go_sem,c13B0,c13S14,hD,r4,r5]
   exact ⟨P',_,q13.sub (.cons _ (.cons_cons _ (.cons _ (.cons _ (.cons _ (.cons _ (.cons _ (.cons _ (List.Sublist.refl _))))))))),hp',.inr (.inr ⟨hbad,by omega,id,rfl,t,t1,t6,.inl ⟨A,B,a,es,hX,rfl,hid⟩⟩)⟩
 simp (disch:=first|omega|exact zF rfl|exact zG rfl|exact fun h=>h|(simp only[zA,zB,zC,zD,bytesW];omega)) only[go_sem,c13B0,hroom']
 refine ⟨⟨by omega,by omega⟩,fun _=>⟨fun hm=>?_,fun hm=>?_⟩⟩
 ·have hlong:¬ r.length≤62:=fun hc=>by unfold moreN at hm; rw [if_pos hc] at hm; omega
  have hmore:moreN r=chainN r.length:=by unfold moreN; rw [if_neg hlong]
  have r2:=q8.rules 4 rfl
  simp (disch:=first|omega|exact zF rfl|exact zG rfl|exact fun h=>h|(simp only[zA,zB,zC,zD,bytesW];omega)) only[go_sem,c13B0,r2]
  refine Ret.mono (spill_ok r q8 hp (by omega) hr2) ?_
  rintro _ w9 ⟨P1,g,rfl,q9,p9,sp⟩
  simp (disch:=first|omega|exact zF rfl|exact zG rfl|exact fun h=>h|(simp only[zA,zB,zC,zD,bytesW];omega)) only[go_sem,c13B0]
  have hgl:=spell_len sp
  obtain ⟨a1,g',rfl⟩:∃ a g',g=a::g':=by
   cases g with
   | nil=>rw [List.length_nil] at hgl; omega
   | cons a g'=>exact ⟨a,g',rfl⟩
  have har:=p9.rng a1 (p9.memE List.mem_cons_self)
  refine tail (.lo r (a1::g')) P1 a1 w9 har.2 q9 p9 ⟨by omega,hr2,sp⟩ rfl ?_ ?_ ?_ ?_ ?_ ?_
  ·rw [if_neg (by omega)]; rfl
  ·rw [hsz,if_neg hlong]; simp [Ent.stub,fixL_len]
  ·rw [hsz,if_neg hlong]; decide
  ·simp [Ent.stub]
  ·rw [hmore]; exact hgl
  ·have e1:=hp.room
   have e2:=p9.room
   rw [List.length_append] at e1 e2
   simp only [List.length_nil] at e1
   omega
 ·have hshort:r.length≤62:=Nat.le_of_not_lt fun hc=>by
   unfold moreN chainN at hm; rw [if_neg (by omega)] at hm; omega
  have hmore:moreN r=0:=by unfold moreN; rw [if_pos hshort]
  exact tail (.sh r) P 0 w8 (by omega) q8 hp ⟨hr1,hshort⟩ rfl rfl (by rw [hsz,if_pos hshort]; simp [Ent.stub]; omega) (by rw [hsz,if_pos hshort]; omega) (by simp [Ent.stub]) (by rw [hmore]; rfl) (by omega)
end
open Go Go.Ann Go.RowKit Go.WideShapes
def NotAt(X:List (Nat × List Ent))(id:Int):Prop:=∀ x∈X,∀ j,(hj:j<x.2.length)→id=((256 * x.1+j:Nat):Int)→x.2[j].stub=[]
def FoundAt(P:List (List UInt8))(X:List (Nat × List Ent))(id:Int)(v:Nat × Nat × List UInt8 × List UInt8):Prop :=
 ∃ A B a es j,X=A++(a,es)::B∧id=((256 * a+j:Nat):Int)∧∃ hj:j<es.length,es[j].stub≠[]∧v=(a,nxtN P a,resN P a,es[j].stub)
section
variable {W0 w:World} {F:Nat→Prop} {L:List Res} {I:List Inv} {e:En} {P:List (List UInt8)} {X:List (Nat × List Ent)} {E:List Nat} {n hb:Nat} {i:Int}
def find4(v:Option (Nat × Nat × List UInt8 × List UInt8)):Nat:=match v with | some v=>v.1 | none=>0
def find5(v:Option (Nat × Nat × List UInt8 × List UInt8)):Nat:=match v with | some v=>v.2.1 | none=>0
def find6(v:Option (Nat × Nat × List UInt8 × List UInt8)):List UInt8:=match v with | some v=>v.2.2.1 | none=>[]
def find7(v:Option (Nat × Nat × List UInt8 × List UInt8)):List UInt8:=match v with | some v=>v.2.2.2 | none=>[]
def findR(hb b:Nat)(id:Int)(v:Option (Nat × Nat × List UInt8 × List UInt8))(er:Int)(L:List Res):List Res :=
 .blk b #[.pointer (some ⟨hb,0,none⟩)] 27::.blk (b+1) #[.int .i64 id] 3::.blk (b+1+1) #[.int .i64 (find4 v)] 3::.blk (b+1+1+1) #[.int .i64 (find5 v)] 3 ::
  .blk (b+1+1+1+1) #[.string (ofL (find6 v))] 9::.blk (b+1+1+1+1+1) #[.string (ofL (find7 v))] 9::.blk (b+1+1+1+1+1+1) #[.int .i64 er] 30::L
theorem find_round{k l D b pb a:Nat}{es:List Ent}{id:Int}{o2:Obj}{w13:World}{Q:Post}
  (q13:Pgr e P W0 w13 F ([.obj l o2,.obj D defO]++hpB hb e i::.blk pb #[.pointer (some ⟨hb,0,none⟩)] 27::findR hb b id none 0 L) I)
  (p1:HpN n i P X E) (hid:I64 id) (hk:k<X.length) (hxk:X[k]=(a,es))
  (hcont:∀ ρ w',(∀ j,(hj:j<es.length)→id=((256 * a+j:Nat):Int)→es[j].stub=[])→Pgr e P W0 w' F ([.obj l o2,.obj D defO]++hpB hb e i::.blk pb #[.pointer (some ⟨hb,0,none⟩)] 27::findR hb b id none 0 L) I→Q .normal ρ w')
  (hret:∀ ρ w' v,FoundAt P X id v→Pgr e P W0 w' F ([.obj l o2,.obj D defO]++hpB hb e i::.blk pb #[.pointer (some ⟨hb,0,none⟩)] 27::findR hb b id (some v) 0 L) I→Q .ret ρ w') :
  W Tryz.prog (c89B0 ()) [(2,.pointer (some ⟨b,0,none⟩)),(3,.pointer (some ⟨b+1,0,none⟩)),(4,.pointer (some ⟨b+1+1,0,none⟩)),(5,.pointer (some ⟨b+1+1+1,0,none⟩)),(6,.pointer (some ⟨b+1+1+1+1,0,none⟩)),(7,.pointer (some ⟨b+1+1+1+1+1,0,none⟩)),(8,.pointer (some ⟨b+1+1+1+1+1+1,0,none⟩)),(10,.int .i64 a)] w13 Q:=by
 have hidx:=p1.idx
 have hbig1:=p1.big
 have hlen1:=p1.given.len
 have hX:=X_split hk
 rw [hxk] at hX
 have hxm:X[k]∈X:=List.getElem_mem hk
 rw [hxk] at hxm
 obtain ⟨pgk,okk⟩:=p1.pg _ hxm
 have hmk:=p1.memX (page_sub hxm _ List.mem_cons_self)
 have hrk:=p1.rng _ hmk
 have hck:=p1.chk hmk
 simp only at pgk okk hmk hrk hck
 have hfew:=pgk.few
 rw [List.length_map] at hfew
 have r2:=q13.rules 4 rfl
 have r3:=q13.rules 5 rfl
 simp (disch:=first|omega|exact zF rfl|exact zG rfl|exact fun h=>h|(simp only[zA,zB,zC,zD,bytesW];omega)) only[go_sem,c89B0,c89B0,r2,r3]
 refine ⟨hid,fun h1=>⟨fun h2=>hcont _ _ (fun j hj hc=>by omega) q13,fun h2=>?_⟩,fun h1=>hcont _ _ (fun j hj hc=>absurd ?_ h1) q13⟩
 case refine_2 =>
  rw [hc,Int.tdiv_eq_ediv_of_nonneg (by omega)]
  omega
 obtain ⟨m,hm,eid⟩:∃ m:Nat,m<256∧id=((256 * a+m:Nat):Int):=by
  rw [Int.tdiv_eq_ediv_of_nonneg h2] at h1
  exact ⟨(id - 256 * a).toNat,by omega,by omega⟩
 refine Ret.mono (hread_ok _ (q13.perm List.perm_middle) (by omega) ⟨by omega,by omega⟩ hck) ?_
 rintro _ w14 ⟨rfl,q14⟩
 have q14:=q14.perm List.perm_middle.symm
 have e1:unfixL ((P.getD ((a:Nat):Int).toNat []).take 4)=nxtN P a:=rfl
 have e2:(P.getD ((a:Nat):Int).toNat []).drop 4=resN P a:=rfl
 rw [e1,e2]
 have r3:=q14.rules 5 rfl
 have em:id.tmod 256=((m:Nat):Int):=by
  rw [eid,Int.tmod_eq_emod_of_nonneg (by omega)]
  omega
 simp (disch:=first|omega|exact zF rfl|exact zG rfl|exact fun h=>h|(simp only[zA,zB,zC,zD,bytesW];omega)) only[go_sem,c89B0,r3]
 rw [em]
 refine Ret.mono (Slt.get_ok _ _ (m:Int) w14 pgk) ?_
 rintro _ w15 ⟨rfl,b15⟩
 have q15:=q14.below b15
 rw [Slt.getP_at,List.getElem?_map]
 by_cases hml:m<es.length
 ·rw [List.getElem?_eq_getElem hml]
  simp only [Option.map_some]
  by_cases h0:es[m].stub=[]
  ·have hd:decide (es[m].stub≠[])=false:=decide_eq_false (by simpa using h0)
   rw [hd]
   simp (disch:=first|omega|exact zF rfl|exact zG rfl|exact fun h=>h|(simp only[zA,zB,zC,zD,bytesW];omega)) only[go_sem,c89B0]
   refine hcont _ _ (fun j hj hc=>?_) q15
   obtain rfl:j=m:=by omega
   exact h0
  ·have hd:decide (es[m].stub≠[])=true:=decide_eq_true h0
   rw [hd]
   have hfd:FoundAt P X id (a,nxtN P a,resN P a,es[m].stub):=⟨_,_,a,es,m,hX,eid,hml,h0,rfl⟩
   obtain ⟨st,hst⟩:∃ s,s=es[m].stub:=⟨_,rfl⟩
   rw [← hst] at hfd ⊢
   have r4:=q15.rules 6 rfl
   have r5:=q15.rules 7 rfl
   have r6:=q15.rules 8 rfl
   have r7:=q15.rules 9 rfl
   have r8:=q15.rules 10 rfl
   have l8:b+1+1+1+1+1+1<w15.heap.size:=(q15.bk 10 rfl).lt
   simp (disch:=first|omega|exact zF rfl|exact zG rfl|exact fun h=>h|(simp only[zA,zB,zC,zD,bytesW];omega)) only[go_sem,c89B0,r4,r5,r6,r7,r8]
   have q16:=((((q15.set 6 rfl 0 (.int .i64 (a:Nat))).set 7 rfl 0 (.int .i64 (nxtN P a:Nat))).set 8 rfl 0 (.string (ofL (resN P a)))).set 9 rfl 0 (.string (ofL st))).set 10 rfl 0 (.int .i64 0)
   exact hret _ _ _ hfd q16
 ·rw [List.getElem?_eq_none (Nat.le_of_not_lt hml)]
  simp only [Option.map_none]
  simp (disch:=first|omega|exact zF rfl|exact zG rfl|exact fun h=>h|(simp only[zA,zB,zC,zD,bytesW];omega)) only[go_sem,c89B0]
  exact hcont _ _ (fun j hj hc=>by omega) q15
abbrev FindK(e:En)(W0:World)(F:Nat→Prop)(L:List Res)(I:List Inv)(P:List (List UInt8))(X:List (Nat × List Ent))(hb:Nat)(i:Int)(id:Int)(u:Value)(w':World):Prop:=Pgr e P W0 w' F (hpB hb e i::L) I ∧
   ((∃ v,FoundAt P X id v∧u=.tuple #[.int .i64 (v.1:Nat),.int .i64 (v.2.1:Nat),.string (ofL v.2.2.1),.string (ofL v.2.2.2),.int .i64 0]) ∨
   (NotAt X id∧u=.tuple #[.int .i64 0,.int .i64 0,.string (ofL []),.string (ofL []),.int .i64 6]))
theorem find_ok(id:Int)(h:Pgr e P W0 w F (hpB hb e i::L) I)(hp:HpN n i P X E)(hid:I64 id) :
  Ret Tryz.prog 89 [.pointer (some ⟨hb,0,none⟩),.int .i64 id] w (FindK e W0 F L I P X hb i id):=by
 have hidx:=hp.idx
 have hbig1:=hp.big
 have hlen1:=hp.given.len
 refine ent89 _ _ _ _ ?_
 simp (disch:=first|omega|exact zF rfl|exact zG rfl|exact fun h=>h|(simp only[zA,zB,zC,zD,bytesW];omega)) only[go_sem,c89B0]
 have s3:=((((((h.box #[.pointer (some ⟨hb,0,none⟩)] 27).box #[.int .i64 id] 3).box #[.int .i64 0] 3).box #[.int .i64 0] 3).box #[.string (ofL [])] 9).box #[.string (ofL [])] 9).box #[.int .i64 0] 30
 simp only [World.size_alloc] at s3
 generalize w.heap.size=b at s3 ⊢
 generalize ((((((w.alloc (.cells #[.pointer (some ⟨hb,0,none⟩)] 27)).alloc (.cells #[.int .i64 id] 3)).alloc (.cells #[.int .i64 0] 3)).alloc (.cells #[.int .i64 0] 3)).alloc (.cells #[.string (ofL [])] 9)).alloc (.cells #[.string (ofL [])] 9)).alloc (.cells #[.int .i64 0] 30)=w3 at s3 ⊢
 have q3:Pgr e P W0 w3 F (hpB hb e i::findR hb b id none 0 L) I:=by
  have h1:=s3.perm (List.perm_middle (l₁:=[_,_,_,_,_,_,_]))
  refine h1.perm (List.Perm.cons _ ?_)
  show List.Perm ([Res.blk (b+1+1+1+1+1+1) #[.int .i64 0] 30,.blk (b+1+1+1+1+1) #[.string (ofL [])] 9,.blk (b+1+1+1+1) #[.string (ofL [])] 9,.blk (b+1+1+1) #[.int .i64 0] 3,.blk (b+1+1) #[.int .i64 0] 3,.blk (b+1) #[.int .i64 id] 3,.blk b #[.pointer (some ⟨hb,0,none⟩)] 27]++L) ([Res.blk b #[.pointer (some ⟨hb,0,none⟩)] 27,.blk (b+1) #[.int .i64 id] 3,.blk (b+1+1) #[.int .i64 0] 3,.blk (b+1+1+1) #[.int .i64 0] 3,.blk (b+1+1+1+1) #[.string (ofL [])] 9,.blk (b+1+1+1+1+1) #[.string (ofL [])] 9,.blk (b+1+1+1+1+1+1) #[.int .i64 0] 30]++L)
  exact (List.reverse_perm [Res.blk (b+1+1+1+1+1+1) #[.int .i64 0] 30,.blk (b+1+1+1+1+1) #[.string (ofL [])] 9,.blk (b+1+1+1+1) #[.string (ofL [])] 9,.blk (b+1+1+1) #[.int .i64 0] 3,.blk (b+1+1) #[.int .i64 0] 3,.blk (b+1) #[.int .i64 id] 3,.blk b #[.pointer (some ⟨hb,0,none⟩)] 27]).symm.append_right L
 clear s3 h
 have r2:=q3.rules 1 rfl
 refine Ret.mono (hmade_ok q3) ?_
 rintro _ w4 ⟨rfl,rfl⟩
 simp (disch:=first|omega|exact zF rfl|exact zG rfl|exact fun h=>h|(simp only[zA,zB,zC,zD,bytesW];omega)) only[go_sem,c89B0,r2]
 refine Ret.mono (hpages_ok (hb:=hb) w4) ?_
 rintro _ w11 ⟨rfl,rfl⟩
 have s11:=(q3.box #[.pointer (some ⟨hb,0,none⟩)] 27).perm (List.Perm.swap _ _ _)
 generalize w4.heap.size=pb at s11 ⊢
 generalize w4.alloc (.cells #[.pointer (some ⟨hb,0,none⟩)] 27)=w11 at s11 ⊢
 simp (disch:=first|omega|exact zF rfl|exact zG rfl|exact fun h=>h|(simp only[zA,zB,zC,zD,bytesW];omega)) only[go_sem,c89B0]
 refine PagesW (C:=X.map Prod.fst) (τ:=Option (Nat × Nat × List UInt8 × List UInt8)) (pf:=fun _=>P) (R:=fun t=>findR hb b id t 0 L)
  (J:=fun k t=>t=none∧NotAt (X.take k) id) (H:=fun t=>∃ v,t=some v∧FoundAt P X id v)
  (t0:=none) rfl rfl (by omega) hidx hp.root ?_ ?_ ?_ (fun _ _ _=>rfl) ⟨rfl,fun x hx=>by simp at hx⟩ s11 ?_ ?_ ?_
 ·intro c hc
  obtain ⟨x,hx,rfl⟩:=List.mem_map.1 hc
  have hm:=hp.memX (page_sub hx _ List.mem_cons_self)
  exact ⟨by have:=hp.rng _ hm; omega,hp.chk hm⟩
 ·rw [List.length_map]
  have h1:=hp.few
  have h2:=pagesX_le X
  rw [List.length_append] at h1
  omega
 ·intro c hc
  obtain ⟨x,hx,rfl⟩:=List.mem_map.1 hc
  have:=hp.rng _ (hp.memX (page_sub hx _ List.mem_cons_self)); omega
 ·rintro k t' w' l D o o2 hk ⟨rfl,hno⟩ q12
  rw [List.length_map] at hk
  have ecur:curN (X.map Prod.fst) k=X[k].1:=by
   unfold curN
   rw [List.getD_eq_getElem?_getD,List.getElem?_map,List.getElem?_eq_getElem hk]; rfl
  rw [ecur]
  generalize hxk:X[k]=xk at *
  obtain ⟨a,es⟩:=xk
  simp (disch:=first|omega|exact zF rfl|exact zG rfl|exact fun h=>h|(simp only[zA,zB,zC,zD,bytesW];omega)) only[go_sem]
  refine ⟨(k,none),q12,fun w13 q13=>?_⟩
  refine find_round q13 hp hid hk hxk ?_ ?_
  ·intro ρ w' hn q
   refine ⟨(k+1,none),⟨rfl,rfl,?_⟩,q⟩
   rw [List.take_succ_eq_append_getElem hk,hxk]
   intro x hx j hj he
   rcases List.mem_append.1 hx with hx | hx
   ·exact hno x hx j hj he
   ·rw [List.mem_singleton] at hx; subst hx
    exact hn j hj he
  ·intro ρ w' v hv q
   exact ⟨(0,some v),⟨v,rfl,hv⟩,q⟩
 ·rintro t' D w' ⟨rfl,hno⟩ q12
  have hno:NotAt X id:=by
   rw [List.length_map,List.take_length] at hno; exact hno
  have q12:Pgr e P W0 w' F (.obj D defO::hpB hb e i::.blk pb #[.pointer (some ⟨hb,0,none⟩)] 27::findR hb b id none 0 L) I:=q12
  have r4:=q12.rules 5 rfl
  have r5:=q12.rules 6 rfl
  have r6:=q12.rules 7 rfl
  have r7:=q12.rules 8 rfl
  have r8:=q12.rules 9 rfl
  have l8:b+1+1+1+1+1+1<w'.heap.size:=(q12.bk 9 rfl).lt
  have q16:=((((q12.set 5 rfl 0 (.int .i64 0)).set 6 rfl 0 (.int .i64 0)).set 7 rfl 0 (.string (ofL []))).set 8 rfl 0 (.string (ofL []))).set 9 rfl 0 (.int .i64 6)
  have hD:=q12.ob 0 rfl
  have hD2:=q16.ob 0 rfl
  simp (disch:=first|omega|exact zF rfl|exact zG rfl|exact fun h=>h|(simp only[zA,zB,zC,zD,bytesW];omega)) only[go_sem,c89B0,r4,r5,r6,r7,r8,hD,hD2]
  have q15:=q16.putOb 0 rfl (.deferred none)
  have r4:=q15.rules 5 rfl
  have r5:=q15.rules 6 rfl
  have r6:=q15.rules 7 rfl
  have r7:=q15.rules 8 rfl
  have r8:=q15.rules 9 rfl
  generalize (((((w'.setCell ⟨b+1+1,0,none⟩ (.int .i64 0)).setCell ⟨b+1+1+1,0,none⟩ (.int .i64 0)).setCell ⟨b+1+1+1+1,0,none⟩ (.string (ofL []))).setCell ⟨b+1+1+1+1+1,0,none⟩ (.string (ofL []))).setCell ⟨b+1+1+1+1+1+1,0,none⟩ (.int .i64 6)).putObj D (.deferred none)=w15 at q15 r4 r5 r6 r7 r8 ⊢
  simp (disch:=first|omega|exact zF rfl|exact zG rfl|exact fun h=>h|(simp only[zA,zB,zC,zD,bytesW];omega)) only[go_sem,c89B0,r4,r5,r6,r7,r8]
  exact ⟨q15.sub (.cons _ (.cons_cons _ (.cons _ (.cons _ (.cons _ (.cons _ (.cons _ (.cons _ (.cons _ (.cons _ (List.Sublist.refl _))))))))))),.inr ⟨hno,rfl⟩⟩
 ·rintro t' D w' ⟨v,ht',hv⟩ q12
  subst ht'
  have q12:Pgr e P W0 w' F (.obj D defO::hpB hb e i::.blk pb #[.pointer (some ⟨hb,0,none⟩)] 27::findR hb b id (some v) 0 L) I:=q12
  have q13:=q12.putOb 0 rfl (.deferred none)
  have r4:=q13.rules 5 rfl
  have r5:=q13.rules 6 rfl
  have r6:=q13.rules 7 rfl
  have r7:=q13.rules 8 rfl
  have r8:=q13.rules 9 rfl
  have hD:=q12.ob 0 rfl
  simp (disch:=first|omega|exact zF rfl|exact zG rfl|exact fun h=>h|(simp only[zA,zB,zC,zD,bytesW];omega)) only[go_sem,c89B0,hD,r4,r5,r6,r7,r8]
  exact ⟨q13.sub (.cons _ (.cons_cons _ (.cons _ (.cons _ (.cons _ (.cons _ (.cons _ (.cons _ (.cons _ (.cons _ (List.Sublist.refl _))))))))))),.inl ⟨v,hv,rfl⟩⟩
end
open Go Go.Ann Go.RowKit Go.WideShapes
def Real(X:List (Nat × List Ent)):Prop:=∀ x∈X,∀ e∈x.2,e.stub≠[]→∃ r,e.rec?=some r
theorem recsE_mem{a:Nat}{id:Nat}{r:List UInt8}:∀ {es:List Ent} {k:Nat},(id,r)∈recsE a k es↔∃ j,∃ hj:j<es.length,es[j].rec?=some r∧id=256 * a+(k+j)
 | [],k=>by simp [recsE]
 | e::es,k=>by
  rw [recsE,List.mem_append,recsE_mem]
  constructor
  ·rintro (h | ⟨j,hj,h1,h2⟩)
   ·unfold recE at h
    split at h
    ·rename_i r' hr
     rw [List.mem_singleton] at h
     cases h
     exact ⟨0,by simp,hr,rfl⟩
    ·cases h
   ·exact ⟨j+1,by simpa using hj,h1,by omega⟩
  ·rintro ⟨j,hj,h1,h2⟩
   cases j with
   | zero =>
    left
    have h1:e.rec?=some r:=h1
    unfold recE
    rw [h1,h2]; simp
   | succ j=>exact .inr ⟨j,by simpa using hj,h1,by omega⟩
theorem recsX_mem{X:List (Nat × List Ent)}{id:Nat}{r:List UInt8}:(id,r)∈recsX X↔∃ x∈X,∃ j,∃ hj:j<x.2.length,x.2[j].rec?=some r∧id=256 * x.1+j:=by
 unfold recsX
 rw [List.mem_flatMap]
 constructor
 ·rintro ⟨x,hx,h⟩
  obtain ⟨j,hj,h1,h2⟩:=recsE_mem.1 h
  exact ⟨x,hx,j,hj,h1,by omega⟩
 ·rintro ⟨x,hx,j,hj,h1,h2⟩
  exact ⟨x,hx,recsE_mem.2 ⟨j,hj,h1,by omega⟩⟩
theorem rec_stub{e:Ent}{r:List UInt8}(h:e.rec?=some r):e.stub≠[]:=by
 intro hc
 rw [(nil_no hc).1] at h; cases h
theorem notAt_rec{X:List (Nat × List Ent)}{id:Int}(h:NotAt X id){k:Nat}{r:List UInt8}(hm:(k,r)∈recsX X):id≠k:=by
 intro hk
 obtain ⟨x,hx,j,hj,h1,h2⟩:=recsX_mem.1 hm
 exact rec_stub h1 (h x hx j hj (by rw [hk,h2]))
theorem recsX_mid{A B:List (Nat × List Ent)}{a:Nat}{es:List Ent}:recsX (A++(a,es)::B)=recsX A++(recsE a 0 es++recsX B):=by
 unfold recsX
 rw [List.flatMap_append,List.flatMap_cons]
theorem perm_in{α:Type}{A B G G' H:List α}(h:G'.Perm (H++G)):(A++(G'++B)).Perm (H++(A++(G++B))):=by
 have h1:(A++(G'++B)).Perm (A++(H++(G++B))):=by
  have:=(h.append_right B).append_left A
  simpa only [List.append_assoc] using this
 refine h1.trans ?_
 have:=(List.perm_append_comm (l₁:=A) (l₂:=H)).append_right (G++B)
 simpa only [List.append_assoc] using this
theorem PutX.recs{X X':List (Nat × List Ent)}{r:List UInt8}{id:Nat}(h:PutX X r id X'):(recsX X').Perm ((id,r)::recsX X):=by
 obtain ⟨t,h1,h2,⟨A,B,a,es,rfl,rfl,rfl⟩ | ⟨a,rfl,rfl⟩⟩:=h
 ·rw [recsX_mid,recsX_mid]
  have:=recsE_put (a:=a) (es:=es) t
  have e:recE a (vacE es) t=[(256 * a+vacE es,r)]:=by unfold recE; rw [h1]
  rw [e] at this
  exact perm_in this
 ·have e:recE a 0 t=[(256 * a,r)]:=by unfold recE; rw [h1]; rfl
  show (recsE a 0 [t]++recsX X).Perm _
  rw [recsE,recsE,e]; exact List.Perm.refl _
theorem PutX.real{X X':List (Nat × List Ent)}{r:List UInt8}{id:Nat}(h:PutX X r id X')(hr:Real X):Real X':=by
 obtain ⟨t,h1,h2,⟨A,B,a,es,rfl,rfl,rfl⟩ | ⟨a,rfl,rfl⟩⟩:=h
 ·intro x hx e he h0
  rcases List.mem_append.1 hx with hx | hx
  ·exact hr x (List.mem_append_left _ hx) e he h0
  ·rcases List.mem_cons.1 hx with rfl | hx
   ·rcases put_mem he with rfl | he
    ·exact ⟨r,h1⟩
    ·exact hr (a,es) (by simp) e he h0
   ·exact hr x (List.mem_append_right _ (List.mem_cons_of_mem _ hx)) e he h0
 ·intro x hx e he h0
  rcases List.mem_cons.1 hx with rfl | hx
  ·rw [List.mem_singleton] at he; subst he; exact ⟨r,h1⟩
  ·exact hr x hx e he h0
theorem PutX.pages{X X':List (Nat × List Ent)}{r:List UInt8}{id:Nat}(h:PutX X r id X'):(pagesX X').length≤(pagesX X).length+(moreN r+1):=by
 obtain ⟨t,h1,h2,⟨A,B,a,es,rfl,rfl,rfl⟩ | ⟨a,rfl,rfl⟩⟩:=h
 ·rw [pagesX_mid,pagesX_mid]
  have:=(entsG_put (es:=es) t).length_eq
  rw [List.length_append,h2] at this
  simp only [List.length_append,List.length_cons]
  omega
 ·show (a::entsG [t]++pagesX X).length≤_
  have:entsG [t]=t.pgs:=by unfold entsG; simp
  rw [this]
  simp only [List.length_append,List.length_cons,h2]
  omega
section
variable {n:Nat} {i:Int} {P P':List (List UInt8)} {X:List (Nat × List Ent)} {E E':List Nat}
theorem HpN.keys(h:HpN n i P X E):((recsX X).map Prod.fst).Nodup:=by
 have hfew:∀ x∈X,x.2.length≤127:=fun x hx=>by
  have:=(h.pg x hx).1.few
  rwa [List.length_map] at this
 have hnd:(X.map Prod.fst).Nodup:=by
  have:∀ X:List (Nat × List Ent),(X.map Prod.fst).Sublist (pagesX X):=by
   intro X
   induction X with
   | nil=>exact List.Sublist.refl _
   | cons x X ih =>
    show (x.1::X.map Prod.fst).Sublist (x.1::(entsG x.2++pagesX X))
    exact .cons_cons _ (ih.trans (List.sublist_append_right _ _))
  exact (List.nodup_append.1 h.nd).2.1.sublist (this X)
 clear h
 have inner:∀ (a:Nat) (es:List Ent) (k:Nat),((recsE a k es).map Prod.fst).Nodup∧∀ id∈(recsE a k es).map Prod.fst,256 * a+k≤id∧id<256 * a+k+es.length:=by
  intro a es
  induction es with
  | nil=>intro k; exact ⟨List.Pairwise.nil,fun id hid=>by cases hid⟩
  | cons e es ih =>
   intro k
   obtain ⟨h1,h2⟩:=ih (k+1)
   rw [recsE,List.map_append]
   unfold recE
   split
   ·refine ⟨?_,fun id hid=>?_⟩
    ·simp only [List.map_cons,List.map_nil,List.cons_append,List.nil_append]
     refine List.nodup_cons.2 ⟨fun hc=>?_,h1⟩
     have:=h2 _ hc; omega
    ·simp only [List.map_cons,List.map_nil,List.cons_append,List.nil_append,List.mem_cons] at hid
     rw [List.length_cons]
     rcases hid with rfl | hid
     ·omega
     ·have:=h2 _ hid; omega
   ·simp only [List.map_nil,List.nil_append,List.length_cons]
    exact ⟨h1,fun id hid=>by have:=h2 id hid; omega⟩
 induction X with
 | nil=>exact List.Pairwise.nil
 | cons x X ih =>
  rw [List.map_cons,List.nodup_cons] at hnd
  show ((recsE x.1 0 x.2++recsX X).map Prod.fst).Nodup
  rw [List.map_append,List.nodup_append]
  refine ⟨(inner _ _ _).1,ih (fun y hy=>hfew y (List.mem_cons_of_mem _ hy)) hnd.2,fun id hid id2 hid2 e=>?_⟩
  subst e
  have h1:=(inner _ _ _).2 id hid
  obtain ⟨⟨id',r⟩,hm,rfl⟩:=List.mem_map.1 hid2
  obtain ⟨y,hy,j,hj,_,h4⟩:=recsX_mem.1 hm
  have h5:=hfew x List.mem_cons_self
  have h6:=hfew y (List.mem_cons_of_mem _ hy)
  refine hnd.1 (List.mem_map.2 ⟨y,hy,?_⟩)
  simp only at h4 h1
  omega
theorem HpN.ids(h:HpN n i P X E){id:Nat}{r:List UInt8}(hm:(id,r)∈recsX X):512≤id∧id<256 * n:=by
 obtain ⟨x,hx,j,hj,h1,h2⟩:=recsX_mem.1 hm
 have h3:=h.rng _ (h.memX (page_sub hx _ List.mem_cons_self))
 have h4:=(h.pg x hx).1.few
 rw [List.length_map] at h4
 omega
theorem HpN.ghost{A B:List (Nat × List Ent)}{a j:Nat}{es:List Ent}(h:HpN n i P (A++(a,es)::B) [])(hj:j<es.length)(h0:es[j].stub≠[])(hl:es[j].stub.length≤63):HpN n i P (A++(a,es.set j (.gh es[j].stub))::B) es[j].pgs:=by
 have hst:(es.set j (.gh es[j].stub)).map Ent.stub=es.map Ent.stub:=by
  rw [List.map_set]
  refine List.ext_getElem? fun k=>?_
  rw [List.getElem?_set]
  split
  ·rename_i e; subst e
   rw [List.length_map,if_pos hj,List.getElem?_map,List.getElem?_eq_getElem hj]; rfl
  ·rfl
 have hpp:([]++pagesX (A++(a,es)::B)).Perm (es[j].pgs++pagesX (A++(a,es.set j (.gh es[j].stub))::B)):=by
  rw [pagesX_mid,pagesX_mid,List.nil_append]
  have h1:=entsG_set hj (.gh es[j].stub)
  have h2:(a::entsG es).Perm (es[j].pgs++(a::entsG (es.set j (.gh es[j].stub)))):=by
   refine (h1.symm.cons a).trans ?_
   exact List.perm_middle.symm
  have:=perm_in (A:=pagesX A) (B:=pagesX B) h2
  simpa only [List.append_assoc] using this
 have hm:∀ b,b∈es[j].pgs++pagesX (A++(a,es.set j (.gh es[j].stub))::B)↔b∈[]++pagesX (A++(a,es)::B):=fun b=>hpp.mem_iff.symm
 have hcase:∀ x∈A++(a,es.set j (.gh es[j].stub))::B,x=(a,es.set j (.gh es[j].stub))∨x∈A++(a,es)::B:=by
  intro x hx
  rcases List.mem_append.1 hx with hx | hx
  ·exact .inr (List.mem_append_left _ hx)
  ·rcases List.mem_cons.1 hx with hx | hx
   ·exact .inl hx
   ·exact .inr (List.mem_append_right _ (List.mem_cons_of_mem _ hx))
 have hme:(a,es)∈A++(a,es)::B:=by simp
 refine ⟨h.given.ext fun k hk=>by simp only [hm],fun b hb=>h.rng b ((hm b).1 hb),hpp.nodup_iff.1 h.nd,h.full,h.idx,h.big,?_,fun x hx=>?_,fun x hx=>?_⟩
 ·have:=h.root
  rw [List.map_append,List.map_cons] at this ⊢
  exact this
 ·rcases hcase x hx with rfl | hx
  ·obtain ⟨p1,p2⟩:=h.pg _ hme
   refine ⟨by show Slt.Pg _ ((es.set j (.gh es[j].stub)).map Ent.stub); rw [hst]; exact p1,fun e he=>?_⟩
   rcases List.mem_or_eq_of_mem_set he with he | rfl
   ·exact p2 e he
   ·exact ⟨h0,hl⟩
  ·exact h.pg x hx
 ·rcases hcase x hx with rfl | hx
  ·exact ⟨.gh es[j].stub,List.mem_set hj _,h0⟩
  ·exact h.some x hx
theorem stub_le{e:Ent}(h:EntOk P e):e.stub.length≤63:=by
 cases e with
 | no=>decide
 | sh r=>have:=h.2; simp only [Ent.stub,List.length_cons]; omega
 | lo r g=>simp [Ent.stub,fixL_len]
 | gh s=>exact h.2
theorem del_ghost{es:List Ent}{j:Nat}(t:Ent):delE j (es.set j t)=delE j es:=by
 unfold delE
 rw [List.set_set]
theorem recs_del{A B:List (Nat × List Ent)}{a j:Nat}{es:List Ent}{r:List UInt8}(hj:j<es.length)(hr:es[j].rec?=some r):(recsX (A++(a,es)::B)).Perm ((256 * a+j,r)::recsX (A++(a,delE j es)::B)):=by
 rw [recsX_mid,recsX_mid]
 have:=recsE_del (a:=a) hj
 have e:recE a j es[j]=[(256 * a+j,r)]:=by unfold recE; rw [hr]
 rw [e] at this
 exact perm_in this.symm
theorem recs_gone{A B:List (Nat × List Ent)}{a:Nat}:recsX (A++(a,[])::B)=recsX (A++B):=by
 rw [recsX_mid]
 unfold recsX
 rw [List.flatMap_append,recsE,List.nil_append]
theorem Real.del{A B:List (Nat × List Ent)}{a j:Nat}{es:List Ent}(h:Real (A++(a,es)::B)):Real (A++(a,delE j es)::B):=by
 intro x hx e he h0
 rcases List.mem_append.1 hx with hx | hx
 ·exact h x (List.mem_append_left _ hx) e he h0
 ·rcases List.mem_cons.1 hx with rfl | hx
  ·rcases del_mem he with rfl | he
   ·exact absurd rfl h0
   ·exact h (a,es) (by simp) e he h0
  ·exact h x (List.mem_append_right _ (List.mem_cons_of_mem _ hx)) e he h0
theorem Real.out{A B:List (Nat × List Ent)}{x:Nat × List Ent}(h:Real (A++x::B)):Real (A++B):=by
 intro y hy e he h0
 rcases List.mem_append.1 hy with hy | hy
 ·exact h y (List.mem_append_left _ hy) e he h0
 ·exact h y (List.mem_append_right _ (List.mem_cons_of_mem _ hy)) e he h0
theorem HpN.none(h:HpN n i P X E)(hr:Real X)(h0:recsX X=[]):X=[]:=by
 cases X with
 | nil=>rfl
 | cons x X =>
  obtain ⟨e,he,h1⟩:=h.some x List.mem_cons_self
  obtain ⟨r,h2⟩:=hr x List.mem_cons_self e he h1
  obtain ⟨j,hj,rfl⟩:=List.mem_iff_getElem.1 he
  have:(256 * x.1+j,r)∈recsX (x::X):=recsX_mem.2 ⟨x,List.mem_cons_self,j,hj,h2,rfl⟩
  rw [h0] at this; cases this
end
open Go Go.Ann Go.RowKit Go.WideShapes
section
variable {W0 w:World} {F:Nat→Prop} {L:List Res} {I:List Inv} {e:En} {P:List (List UInt8)} {X:List (Nat × List Ent)} {E:List Nat} {n hb:Nat} {i:Int}
theorem hget_ok(id:Int)(h:Pgr e P W0 w F (hpB hb e i::L) I)(hp:HpN n i P X E)(hr:Real X)(hid:I64 id) :
  Ret Tryz.prog 32 [.pointer (some ⟨hb,0,none⟩),.int .i64 id] w fun u w'=>Pgr e P W0 w' F (hpB hb e i::L) I ∧
   ((∃ (k:Nat) (r:List UInt8),id=k∧(k,r)∈recsX X∧u=.tuple #[.string (ofL r),.int .i64 0])∨(NotAt X id∧u=.tuple #[.string (ofL []),.int .i64 6])):=by
 have hbig:=hp.big
 have hlen:=hp.given.len
 refine ent32 _ _ _ _ ?_
 simp (disch:=first|omega|exact zF rfl|exact zG rfl|exact fun h=>h|(simp only[zA,zB,zC,zD,bytesW];omega)) only[go_sem]
 refine Ret.mono (find_ok id h hp hid) ?_
 rintro _ w2 ⟨h2,⟨v,⟨A,B,a,es,j,hX,eid,hj,h0,rfl⟩,rfl⟩ | ⟨hno,rfl⟩⟩
 ·have hxm:(a,es)∈X:=by rw [hX]; simp
  have hem:es[j]∈es:=List.getElem_mem hj
  obtain ⟨r,hrec⟩:=hr _ hxm _ hem h0
  have hmem:(256 * a+j,r)∈recsX X:=recsX_mem.2 ⟨_,hxm,j,hj,hrec,rfl⟩
  have hok:=(hp.pg _ hxm).2 _ hem
  have hsub:∀ d∈es[j].pgs,d∈pagesX X:=fun d hd=>page_sub hxm d (List.mem_cons_of_mem _ (ents_sub hem d hd))
  generalize es[j]=t at hrec hok hsub ⊢
  cases t with
  | no=>cases hrec
  | gh s=>cases hrec
  | sh r' =>
   obtain rfl:r'=r:=by simpa [Ent.rec?] using hrec
   have e3:bN (Ent.stub (.sh r')) 0=115:=rfl
   have e4:(Ent.stub (.sh r')).length=r'.length+1:=rfl
   simp (disch:=first|omega|exact zF rfl|exact zG rfl|exact fun h=>h|(simp only[zA,zB,zC,zD,bytesW];omega)) only[go_sem]
   rw [e3,e4]
   exact ⟨by omega,fun hc=>absurd hc (by decide),fun _=>⟨by omega,h2,.inl ⟨_,r',eid,hmem,rfl⟩⟩⟩
  | lo r' g =>
   obtain rfl:r'=r:=by simpa [Ent.rec?] using hrec
   have e3:bN (Ent.stub (.lo r' g)) 0=108:=rfl
   have e4:(Ent.stub (.lo r' g)).length=9:=by simp [Ent.stub,fixL_len]
   simp (disch:=first|omega|exact zF rfl|exact zG rfl|exact fun h=>h|(simp only[zA,zB,zC,zD,bytesW];omega)) only[go_sem]
   rw [e3,e4]
   refine ⟨by omega,fun _=>Ret.mono (gather_ok r' g h2 (by omega) (fun b hb=>?_) hok.2.2 hok.2.1) ?_,fun hc=>absurd rfl hc⟩
   ·have hm:=hp.memX (hsub b hb)
    exact ⟨hp.chk hm,by have:=hp.rng _ hm; omega⟩
   ·rintro _ w3 ⟨rfl,h3⟩
    simp (disch:=first|omega|exact zF rfl|exact zG rfl|exact fun h=>h|(simp only[zA,zB,zC,zD,bytesW];omega)) only[go_sem]
    exact ⟨h3,.inl ⟨_,r',eid,hmem,rfl⟩⟩
 ·simp (disch:=first|omega|exact zF rfl|exact zG rfl|exact fun h=>h|(simp only[zA,zB,zC,zD,bytesW];omega)) only[go_sem]
  exact ⟨h2,.inr hno⟩
def unR(hb b:Nat)(a nx:Nat)(L:List Res):List Res :=
 .blk b #[.pointer (some ⟨hb,0,none⟩)] 27::.blk (b+1) #[.int .i64 a] 3::.blk (b+1+1) #[.int .i64 nx] 3::.blk (b+1+1+1) #[.int .i64 0] 30::L
theorem unlink_round{k l D b pb a x:Nat}{A B:List (Nat × List Ent)}{es ex:List Ent}{o2:Obj}{w13:World}{Q:Post}
  (q13:Pgr e P W0 w13 F ([.obj l o2,.obj D defO]++hpB hb e i::.blk pb #[.pointer (some ⟨hb,0,none⟩)] 27::unR hb b a (nxtN P a) L) I)
  (p1:HpN n i P X []) (hX:X=A++(a,es)::B) (he:entsG es=[]) (hk:k<X.length) (hka:k≤A.length) (hxk:X[k]=(x,ex))
  (hcont:∀ ρ w',k<A.length→Pgr e P W0 w' F ([.obj l o2,.obj D defO]++hpB hb e i::.blk pb #[.pointer (some ⟨hb,0,none⟩)] 27::unR hb b a (nxtN P a) L) I→Q .normal ρ w')
  (hret:∀ ρ P' w',HpN n i P' (A++B) []→Pgr e P' W0 w' F ([.obj l o2,.obj D defO]++hpB hb e i::.blk pb #[.pointer (some ⟨hb,0,none⟩)] 27::unR hb b a (nxtN P a) L) I→Q .ret ρ w') :
  W Tryz.prog (c95B0 ()) [(3,.pointer (some ⟨b,0,none⟩)),(4,.pointer (some ⟨b+1,0,none⟩)),(5,.pointer (some ⟨b+1+1,0,none⟩)),(6,.pointer (some ⟨b+1+1+1,0,none⟩)),(7,.int .i64 (prevN (X.map Prod.fst) k)),(8,.int .i64 x)] w13 Q:=by
 have hidx:=p1.idx
 have hbig1:=p1.big
 have hlen1:=p1.given.len
 have hmx:(a,es)∈X:=by rw [hX]; simp
 have hma:=p1.memX (page_sub hmx _ List.mem_cons_self)
 have hra:=p1.rng _ hma
 have hnx:nxtN P a<n:=by
  have hlk:=p1.root
  rw [hX,List.map_append,List.map_cons,LinkN.app] at hlk
  obtain ⟨c,l1,l2,l3⟩:=hlk
  have:=l3.head
  cases B with
  | nil =>
   have h1:0=nxtN P a:=this
   omega
  | cons y B =>
   have h1:y.1=nxtN P a:=this
   have hmy:y∈X:=by rw [hX]; simp
   have:=p1.rng _ (p1.memX (page_sub hmy _ List.mem_cons_self))
   omega
 have r3:=q13.rules 4 rfl
 have r4:=q13.rules 5 rfl
 have r5:=q13.rules 6 rfl
 by_cases hxa:x=a
 case neg =>
  have hxa':¬ (x:Int)=(a:Int):=by omega
  have hlt:k<A.length:=by
   refine Classical.byContradiction fun hc=>?_
   obtain rfl:k=A.length:=by omega
   subst hX
   rw [List.getElem_append_right (Nat.le_refl _)] at hxk
   simp at hxk
   exact hxa hxk.1.symm
  simp (disch:=first|omega|exact zF rfl|exact zG rfl|exact fun h=>h|(simp only[zA,zB,zC,zD,bytesW];omega)) only[go_sem,c95B0,c95B0,r4,hxa']
  exact hcont _ _ hlt q13
 subst hxa
 have hkA:k=A.length:=by
  refine Classical.byContradiction fun hc=>?_
  have hnd:=(List.nodup_append.1 p1.nd).2.1
  have e3:pagesX X=pagesX A++(x::entsG es)++pagesX B:=by rw [hX,pagesX_mid]
  rw [e3] at hnd
  have hlt:k<A.length:=by omega
  have hxA:(x,ex)∈A:=by
   subst hX
   rw [List.getElem_append_left hlt] at hxk
   exact hxk ▸ List.getElem_mem hlt
  exact (List.nodup_append.1 (List.nodup_append.1 hnd).1).2.2 x (page_sub hxA _ List.mem_cons_self) x List.mem_cons_self rfl
 simp only at hra
 have r3h:=(q13.perm List.perm_middle).hp.rules
 simp (disch:=first|omega|exact zF rfl|exact zG rfl|exact fun h=>h|(simp only[zA,zB,zC,zD,bytesW];omega)) only[go_sem,c95B0,c95B0,r4]
 rcases List.eq_nil_or_concat A with rfl | ⟨A',y,rfl⟩
 ·have ep:prevN (X.map Prod.fst) k=0:=by rw [hkA]; rfl
  rw [ep]
  refine ⟨fun _=>?_,fun hc=>absurd rfl hc⟩
  subst hX
  obtain ⟨p2,hn2,hr2⟩:=p1.pop he
  refine c95draw0 (Same (fun k=>k=hb∨k=b∨k=b+1+1) _) (Same.refl _ _) ?_
  have q14:=q13.drew
  generalize w13.drew=w14 at q14 ⊢
  have r3:=q14.rules 4 rfl
  have r5:=q14.rules 6 rfl
  have rh:=(q14.perm List.perm_middle).hp.rules
  simp (disch:=first|omega|exact zF rfl|exact zG rfl|exact fun h=>h|(simp only[zA,zB,zC,zD,bytesW];omega)) only[go_sem,c95B0,c95D0,r3,r5,rh]
  have p1r:=p1.rootL
  have hset:=setRootN_in (P:=P) (i:=i) (j:=((nxtN P x:Nat):Int)) hidx p1r (by
   rcases hn2 with h0 | h0
   ·exact .inl (by omega)
   ·refine .inr (p1.chk (p1.memX ?_))
    show nxtN P x∈(x::entsG es)++pagesX B
    exact List.mem_append_right _ h0) (by omega)
  refine ⟨Same.refl _ _,Ret.mono (psetRoot_ok i ((nxtN P x:Nat):Int) q14 (by omega) ⟨by omega,by omega⟩ ⟨by omega,by omega⟩) ?_⟩
  rw [hset,Int.toNat_natCast]
  rintro _ w15 ⟨rfl,q15⟩
  simp (disch:=first|omega|exact zF rfl|exact zG rfl|exact fun h=>h|(simp only[zA,zB,zC,zD,bytesW];omega)) only[go_sem,c95B0]
  refine ⟨fun j hj=>?_,?_⟩
  ·rcases hj with rfl | rfl | rfl
   ·exact (q15.bk 2 rfl).trans (q14.bk 2 rfl).symm
   ·exact (q15.bk 4 rfl).trans (q14.bk 4 rfl).symm
   ·exact (q15.bk 6 rfl).trans (q14.bk 6 rfl).symm
  refine c95draw1 (Same (fun k=>k=hb∨k=b∨k=b+1) _) (Same.refl _ _) ?_
  have q16:=q15.drew
  generalize w15.drew=w16 at q16 ⊢
  have r3:=q16.rules 4 rfl
  have r4:=q16.rules 5 rfl
  have rh:=(q16.perm List.perm_middle).hp.rules
  simp (disch:=first|omega|exact zF rfl|exact zG rfl|exact fun h=>h|(simp only[zA,zB,zC,zD,bytesW];omega)) only[go_sem,c95B0,c95D1,r3,r4,rh]
  obtain ⟨P3,ef,p3,_⟩:=p2.free
  refine ⟨Same.refl _ _,Ret.mono (pfree_ok (x:Int) q16 (by rw [List.length_set]; omega) ⟨by omega,by omega⟩) ?_⟩
  rw [ef]
  rintro _ w17 ⟨rfl,q17⟩
  have q17:Pgr e P3 W0 w17 F _ I:=q17
  have r6:=q17.rules 7 rfl
  simp (disch:=first|omega|exact zF rfl|exact zG rfl|exact fun h=>h|(simp only[zA,zB,zC,zD,bytesW];omega)) only[go_sem,c95B0,c95D1,r6]
  refine ⟨fun j hj=>?_,hret _ _ _ p3 (q17.set 7 rfl 0 (.int .i64 0))⟩
  rcases hj with rfl | rfl | rfl
  ·exact (q17.bk 2 rfl).trans (q16.bk 2 rfl).symm
  ·exact (q17.bk 4 rfl).trans (q16.bk 4 rfl).symm
  ·exact (q17.bk 5 rfl).trans (q16.bk 5 rfl).symm
 ·obtain ⟨hy,hy2⟩:prevN (X.map Prod.fst) k=y.1∧y∈X:=by
   subst hX
   rw [hkA]
   refine ⟨?_,by simp⟩
   unfold prevN
   rw [List.concat_eq_append,List.length_append,List.length_singleton,if_neg (by omega),Nat.add_sub_cancel,List.map_append,List.map_append,List.append_assoc,List.getD_eq_getElem?_getD,List.getElem?_append_right (by rw [List.length_map]; exact Nat.le_refl _),List.length_map,Nat.sub_self]
   rfl
  rw [hy]
  have hmy:=p1.memX (page_sub hy2 _ List.mem_cons_self)
  have hry:=p1.rng _ hmy
  have hcy:=p1.chk hmy
  refine ⟨fun hc=>by omega,fun _=>?_⟩
  simp (disch:=first|omega|exact zF rfl|exact zG rfl|exact fun h=>h|(simp only[zA,zB,zC,zD,bytesW];omega)) only[go_sem,c95B0,r3]
  refine Ret.mono (hread_ok _ (q13.perm List.perm_middle) (by omega) ⟨by omega,by omega⟩ hcy) ?_
  rintro _ w14 ⟨rfl,q14⟩
  have q14:=q14.perm List.perm_middle.symm
  have e2:(P.getD ((y.1:Nat):Int).toNat []).drop 4=resN P y.1:=rfl
  rw [e2]
  have hl252:(resN P y.1).length=252:=by
   unfold resN
   rw [List.length_drop,List.getD_eq_getElem?_getD,List.getElem?_eq_getElem (by omega),Option.getD_some,p1.full _ (List.getElem_mem _)]
  have r3:=q14.rules 4 rfl
  have r5:=q14.rules 6 rfl
  simp (disch:=first|omega|exact zF rfl|exact zG rfl|exact fun h=>h|(simp only[zA,zB,zC,zD,bytesW];omega)) only[go_sem,c95B0,r3,r5]
  refine Ret.mono (hwriteS_ok (y.1:Int) (nxtN P x) (resN P y.1) (q14.perm List.perm_middle) (by omega) ⟨by omega,by omega⟩ hcy (by omega) (by omega)) ?_
  rintro _ w15 ⟨rfl,q15⟩
  have q15:=q15.perm List.perm_middle.symm
  rw [fillR_id hl252,Int.toNat_natCast] at q15
  have eX:X=A'++y::(x,es)::B:=by rw [hX,List.concat_eq_append,List.append_assoc]; rfl
  rw [eX] at p1
  have p2:=p1.drop he
  simp (disch:=first|omega|exact zF rfl|exact zG rfl|exact fun h=>h|(simp only[zA,zB,zC,zD,bytesW];omega)) only[go_sem,c95B0]
  refine c95draw2 (Same (fun k=>k=hb∨k=b∨k=b+1) _) (Same.refl _ _) ?_
  have q16:=q15.drew
  generalize w15.drew=w16 at q16 ⊢
  have r3:=q16.rules 4 rfl
  have r4:=q16.rules 5 rfl
  have rh:=(q16.perm List.perm_middle).hp.rules
  simp (disch:=first|omega|exact zF rfl|exact zG rfl|exact fun h=>h|(simp only[zA,zB,zC,zD,bytesW];omega)) only[go_sem,c95B0,c95D2,r3,r4,rh]
  obtain ⟨P3,ef,p3,_⟩:=p2.free
  refine ⟨Same.refl _ _,Ret.mono (pfree_ok (x:Int) q16 (by rw [List.length_set]; omega) ⟨by omega,by omega⟩) ?_⟩
  rw [ef]
  rintro _ w17 ⟨rfl,q17⟩
  have q17:Pgr e P3 W0 w17 F _ I:=q17
  have r6:=q17.rules 7 rfl
  simp (disch:=first|omega|exact zF rfl|exact zG rfl|exact fun h=>h|(simp only[zA,zB,zC,zD,bytesW];omega)) only[go_sem,c95B0,c95D2,r6]
  refine ⟨fun j hj=>?_,hret _ _ _ ?_ (q17.set 7 rfl 0 (.int .i64 0))⟩
  ·rcases hj with rfl | rfl | rfl
   ·exact (q17.bk 2 rfl).trans (q16.bk 2 rfl).symm
   ·exact (q17.bk 4 rfl).trans (q16.bk 4 rfl).symm
   ·exact (q17.bk 5 rfl).trans (q16.bk 5 rfl).symm
  rw [List.concat_eq_append,List.append_assoc]
  exact p3
end
open Go Go.Ann Go.RowKit Go.WideShapes
section
variable {W0 w:World} {F:Nat→Prop} {L:List Res} {I:List Inv} {e:En} {P:List (List UInt8)} {X:List (Nat × List Ent)} {E:List Nat} {n hb:Nat} {i:Int}
theorem HpN.nxtLt{A B:List (Nat × List Ent)}{a:Nat}{es:List Ent}(h:HpN n i P (A++(a,es)::B) E):nxtN P a<n:=by
 have hlk:=h.root
 rw [List.map_append,List.map_cons,LinkN.app] at hlk
 obtain ⟨c,l1,l2,l3⟩:=hlk
 have:=l3.head
 cases B with
 | nil =>
  have h1:0=nxtN P a:=this
  have:=h.big
  omega
 | cons y B =>
  have h1:y.1=nxtN P a:=this
  have hmy:y∈A++(a,es)::y::B:=by simp
  have:=h.rng _ (h.memX (page_sub hmy _ List.mem_cons_self))
  omega
abbrev UnK(e:En)(W0:World)(F:Nat→Prop)(L:List Res)(I:List Inv)(A B:List (Nat × List Ent))(n hb:Nat)(i:Int)(u:Value)(w':World):Prop:=∃ P',u=.int .i64 0∧Pgr e P' W0 w' F (hpB hb e i::L) I∧HpN n i P' (A++B) []
theorem unlink_ok{A B:List (Nat × List Ent)}{a:Nat}{es:List Ent}(h:Pgr e P W0 w F (hpB hb e i::L) I)(hp:HpN n i P (A++(a,es)::B) [])(he:entsG es=[]) :
  Ret Tryz.prog 95 [.pointer (some ⟨hb,0,none⟩),.int .i64 a,.int .i64 (nxtN P a)] w (UnK e W0 F L I A B n hb i):=by
 have hidx:=hp.idx
 have hbig1:=hp.big
 have hlen1:=hp.given.len
 refine ent95 _ _ _ _ _ ?_
 simp (disch:=first|omega|exact zF rfl|exact zG rfl|exact fun h=>h|(simp only[zA,zB,zC,zD,bytesW];omega)) only[go_sem,c95B0]
 have s3:=(((h.box #[.pointer (some ⟨hb,0,none⟩)] 27).box #[.int .i64 a] 3).box #[.int .i64 (nxtN P a)] 3).box #[.int .i64 0] 30
 simp only [World.size_alloc] at s3
 generalize w.heap.size=b at s3 ⊢
 generalize (((w.alloc (.cells #[.pointer (some ⟨hb,0,none⟩)] 27)).alloc (.cells #[.int .i64 a] 3)).alloc (.cells #[.int .i64 (nxtN P a)] 3)).alloc (.cells #[.int .i64 0] 30)=w3 at s3 ⊢
 have q3:Pgr e P W0 w3 F (hpB hb e i::unR hb b a (nxtN P a) L) I:=by
  have h1:=s3.perm (List.perm_middle (l₁:=[_,_,_,_]))
  refine h1.perm (List.Perm.cons _ ?_)
  exact (List.reverse_perm [Res.blk (b+1+1+1) #[.int .i64 0] 30,.blk (b+1+1) #[.int .i64 (nxtN P a)] 3,.blk (b+1) #[.int .i64 a] 3,.blk b #[.pointer (some ⟨hb,0,none⟩)] 27]).symm.append_right L
 clear s3 h
 refine Ret.mono (hpages_ok (hb:=hb) w3) ?_
 rintro _ w11 ⟨rfl,rfl⟩
 have s11:=(q3.box #[.pointer (some ⟨hb,0,none⟩)] 27).perm (List.Perm.swap _ _ _)
 generalize w3.heap.size=pb at s11 ⊢
 generalize w3.alloc (.cells #[.pointer (some ⟨hb,0,none⟩)] 27)=w11 at s11 ⊢
 simp (disch:=first|omega|exact zF rfl|exact zG rfl|exact fun h=>h|(simp only[zA,zB,zC,zD,bytesW];omega)) only[go_sem,c95B0]
 obtain ⟨X,hX⟩:∃ X,X=A++(a,es)::B:=⟨_,rfl⟩
 have hAl:A.length<X.length:=by rw [hX,List.length_append,List.length_cons]; omega
 rw [← hX] at hp
 refine PagesW (C:=X.map Prod.fst) (τ:=Option (List (List UInt8))) (pf:=fun t=>match t with | none=>P | some P'=>P') (R:=fun t=>unR hb b a (nxtN P a) L)
  (J:=fun k t=>t=none∧k≤A.length) (H:=fun t=>∃ P',t=some P'∧HpN n i P' (A++B) [])
  (t0:=none) rfl rfl (by omega) hidx hp.root ?_ ?_ ?_ (fun _ _ h=>by rw [h.1]) ⟨rfl,Nat.zero_le _⟩ s11 ?_ ?_ ?_
 ·intro c hc
  obtain ⟨x,hx,rfl⟩:=List.mem_map.1 hc
  have hm:=hp.memX (page_sub hx _ List.mem_cons_self)
  exact ⟨by have:=hp.rng _ hm; omega,hp.chk hm⟩
 ·rw [List.length_map]
  have h1:=hp.few
  have h2:=pagesX_le X
  rw [List.length_append] at h1
  omega
 ·intro c hc
  obtain ⟨x,hx,rfl⟩:=List.mem_map.1 hc
  have:=hp.rng _ (hp.memX (page_sub hx _ List.mem_cons_self)); omega
 ·rintro k t' w' l D o o2 hk ⟨rfl,hka⟩ q12
  rw [List.length_map] at hk
  have ecur:curN (X.map Prod.fst) k=X[k].1:=by
   unfold curN
   rw [List.getD_eq_getElem?_getD,List.getElem?_map,List.getElem?_eq_getElem hk]; rfl
  rw [ecur]
  generalize hxk:X[k]=xk at *
  obtain ⟨x,ex⟩:=xk
  simp (disch:=first|omega|exact zF rfl|exact zG rfl|exact fun h=>h|(simp only[zA,zB,zC,zD,bytesW];omega)) only[go_sem]
  refine ⟨(k,none),q12,fun w13 q13=>?_⟩
  refine unlink_round q13 hp hX he hk hka hxk ?_ ?_
  ·intro ρ w' hlt q
   exact ⟨(k+1,none),⟨rfl,rfl,by omega⟩,q⟩
  ·intro ρ P' w' hp' q
   exact ⟨(0,some P'),⟨P',rfl,hp'⟩,q⟩
 ·rintro t' D w' ⟨rfl,hka⟩ q12
  rw [List.length_map] at hka
  omega
 ·rintro t' D w' ⟨P',ht',hv⟩ q12
  subst ht'
  have q12:Pgr e P' W0 w' F (.obj D defO::hpB hb e i::.blk pb #[.pointer (some ⟨hb,0,none⟩)] 27::unR hb b a (nxtN P a) L) I:=q12
  have q13:=q12.putOb 0 rfl (.deferred none)
  have r6:=q13.rules 6 rfl
  have hD:=q12.ob 0 rfl
  simp (disch:=first|omega|exact zF rfl|exact zG rfl|exact fun h=>h|(simp only[zA,zB,zC,zD,bytesW];omega)) only[go_sem,c95B0,hD,r6]
  exact ⟨P',rfl,q13.sub (.cons _ (.cons_cons _ (.cons _ (.cons _ (.cons _ (.cons _ (.cons _ (List.Sublist.refl _)))))))),hv⟩
abbrev DelK(e:En)(W0:World)(F:Nat→Prop)(L:List Res)(I:List Inv)(X:List (Nat × List Ent))(n hb:Nat)(i:Int)(id:Int)(u:Value)(w':World):Prop:=∃ P' X',Pgr e P' W0 w' F (hpB hb e i::L) I∧HpN n i P' X' []∧Real X' ∧
 ((∃ (k:Nat) (r:List UInt8),id=k∧(recsX X).Perm ((k,r)::recsX X')∧u=.int .i64 0)∨(NotAt X id∧X'=X∧u=.int .i64 6))
theorem hdel_ok(id:Int)(h:Pgr e P W0 w F (hpB hb e i::L) I)(hp:HpN n i P X [])(hr:Real X)(hid:I64 id) :
  Ret Tryz.prog 35 [.pointer (some ⟨hb,0,none⟩),.int .i64 id] w (DelK e W0 F L I X n hb i id):=by
 have hbig:=hp.big
 have hlen:=hp.given.len
 refine ent35 _ _ _ _ ?_
 simp (disch:=first|omega|exact zF rfl|exact zG rfl|exact fun h=>h|(simp only[zA,zB,zC,zD,bytesW];omega)) only[go_sem,c35S6]
 refine Ret.mono (find_ok id h hp hid) ?_
 rintro _ w2 ⟨h2,⟨v,⟨A,B,a,es,j,hX,eid,hj,h0,rfl⟩,rfl⟩ | ⟨hno,rfl⟩⟩
 case inr =>
  simp (disch:=first|omega|exact zF rfl|exact zG rfl|exact fun h=>h|(simp only[zA,zB,zC,zD,bytesW];omega)) only[go_sem,c35S6]
  exact ⟨P,X,h2,hp,hr,.inr ⟨hno,rfl,rfl⟩⟩
 subst hX
 have hxm:(a,es)∈A++(a,es)::B:=by simp
 have hem:es[j]∈es:=List.getElem_mem hj
 obtain ⟨r,hrec⟩:=hr _ hxm _ hem h0
 obtain ⟨pgk,okk⟩:=hp.pg _ hxm
 have hok:=okk _ hem
 have hpg:=hp.ghost hj h0 (stub_le hok)
 have hrecs:=recs_del (A:=A) (B:=B) (a:=a) hj hrec
 have hma:=hp.memX (page_sub hxm _ List.mem_cons_self)
 have hra:=hp.rng _ hma
 simp only at hra hma
 have hjl:j<256:=by have:=pgk.few; rw [List.length_map] at this; simp only at this; omega
 have em:id.tmod 256=((j:Nat):Int):=by
  rw [eid,Int.tmod_eq_emod_of_nonneg (by omega)]
  omega
 -- behind the release
 have tail:∀ (P2:List (List UInt8)) (w3:World),Pgr e P2 W0 w3 F (hpB hb e i::L) I→HpN n i P2 (A++(a,es.set j (.gh es[j].stub))::B) []→resN P2 a=resN P a→nxtN P2 a=nxtN P a →
   W Tryz.prog (c35S6 ()) [(0,.pointer (some ⟨hb,0,none⟩)),(1,.int .i64 id),(5,.int .i64 a),(6,.int .i64 (nxtN P a)),(7,.string (ofL (resN P a)))] w3 (finQ Tryz.prog [.tmp 4] (DelK e W0 F L I (A++(a,es)::B) n hb i id)):=by
  intro P2 w3 h3 p3 er en
  simp (disch:=first|omega|exact zF rfl|exact zG rfl|exact fun h=>h|(simp only[zA,zB,zC,zD,bytesW];omega)) only[go_sem,c35S6]
  rw [em]
  refine Ret.mono (Slt.slot_del_ok _ (j:Int) _ w3 pgk) ?_
  have hjs:j<(stubs es).length:=by rw [stubs_len]; exact hj
  have hsj:(stubs es)[j]=es[j].stub:=by simp [stubs]
  have hgp:(Slt.getP (stubs es) (j:Int)).2=true:=by
   rw [Slt.getP_at,List.getElem?_eq_getElem hjs]
   simp only [hsj]
   exact decide_eq_true h0
  have hl252:(resN P a).length=252:=by
   unfold resN
   rw [List.length_drop,List.getD_eq_getElem?_getD,List.getElem?_eq_getElem (by omega),Option.getD_some,hp.full _ (List.getElem_mem _)]
  have hl252:(resN P (a,es).1).length=252:=hl252
  have hf:Slt.Fits (resN P (a,es).1).length (Slt.trimP ((stubs es).set j [])):=Slt.set_fits pgk hjs (by
   have:=pgk.takes
   simp only [List.length_nil]
   exact Nat.le_trans (by exact this) (Nat.le_add_right _ _))
  rw [hl252,← delE_stub] at hf
  have htr:Slt.Trim (stubs (delE j es)):=by rw [delE_stub]; exact Slt.trim_trim _
  have hpg2:Slt.Pg (Slt.textP 252 (stubs (delE j es))) (stubs (delE j es)):=Slt.text_pg hf htr
  have hs2:(Slt.textP 252 (stubs (delE j es))).length=252:=Slt.textP_len hf
  have ets:Slt.textP (resN P (a,es).1).length (Slt.trimP ((stubs es).set j []))=Slt.textP 252 (stubs (delE j es)):=by rw [hl252,delE_stub]
  obtain ⟨s,hse⟩:∃ s,s=Slt.textP 252 (stubs (delE j es)):=⟨_,rfl⟩
  rw [← hse] at hpg2 hs2 ets
  have hval:(if (Slt.getP ((a,es).2.map Ent.stub) (j:Int)).2=true then Value.tuple #[.string (ofL (Slt.textP (resN P a).length (Slt.trimP (((a,es).2.map Ent.stub).set (j:Int).toNat [])))),.bool true] else .tuple #[.string (ofL (resN P a)),.bool false])=.tuple #[.string (ofL s),.bool true]:=by
   have hgp':(Slt.getP ((a,es).2.map Ent.stub) (j:Int)).2=true:=hgp
   rw [if_pos hgp',← ets]; rfl
  rw [hval]
  rintro _ w4 ⟨rfl,b4⟩
  have h4:=h3.below b4
  have hgn:entsG (es.set j (.gh es[j].stub))=entsG (es.set j (.gh es[j].stub)):=rfl
  have hgd:=entsG_del (k:=j) (es:=es.set j (.gh es[j].stub)) (by rw [List.length_set]; exact hj)
  rw [del_ghost,List.getElem_set_self] at hgd
  have hgd:(entsG (delE j es)).Perm (entsG (es.set j (.gh es[j].stub))):=hgd
  have hck:=p3.chk (p3.memX (page_sub (x:=(a,es.set j (.gh es[j].stub))) (by simp) a List.mem_cons_self))
  have hlen2:=p3.given.len
  simp (disch:=first|omega|exact zF rfl|exact zG rfl|exact fun h=>h|(simp only[zA,zB,zC,zD,bytesW];omega)) only[go_sem,c35S6]
  refine Ret.mono (Slt.count_ok s _ w4 hpg2) ?_
  rintro _ w5 ⟨rfl,b5⟩
  have h5:=h4.below b5
  by_cases hc:(Slt.itemsTo (stubs (delE j es)) (stubs (delE j es)).length).length=0
  ·rw [hc]
   simp (disch:=first|omega|exact zF rfl|exact zG rfl|exact fun h=>h|(simp only[zA,zB,zC,zD,bytesW];omega)) only[go_sem,c35S6]
   have hde:=del_empty hc
   have hge:entsG (es.set j (.gh es[j].stub))=[]:=by
    rw [hde] at hgd
    exact (List.perm_nil.1 hgd.symm)
   rw [← en]
   refine Ret.mono (unlink_ok h5 p3 hge) ?_
   rintro _ w6 ⟨P6,rfl,h6,p6⟩
   simp (disch:=first|omega|exact zF rfl|exact zG rfl|exact fun h=>h|(simp only[zA,zB,zC,zD,bytesW];omega)) only[go_sem,c35S6]
   have hrd:=hr.del (j:=j)
   rw [hde] at hrecs hrd
   rw [recs_gone] at hrecs
   exact ⟨P6,A++B,h6,p6,hrd.out,.inl ⟨_,r,eid,hrecs,rfl⟩⟩
  ·have hc':(0:Int)<((Slt.itemsTo (stubs (delE j es)) (stubs (delE j es)).length).length:Int):=by omega
   simp (disch:=first|omega|exact zF rfl|exact zG rfl|exact fun h=>h|(simp only[zA,zB,zC,zD,bytesW];omega)) only[go_sem,c35S6,hc']
   have hnl:=hp.nxtLt
   refine Ret.mono (hwriteS_ok (a:Int) (nxtN P a) s h5 (by omega) ⟨by omega,by omega⟩ hck (by omega) (by omega)) ?_
   rintro _ w6 ⟨rfl,h6⟩
   rw [fillR_id hs2,Int.toNat_natCast] at h6
   have key:=p3.setX (E':=[]) (es':=delE j es) (s:=s) (by simpa using hgd.symm) hpg2 hs2 (fun x hx=>?_) (del_some hc)
   ·rw [en] at key
    simp (disch:=first|omega|exact zF rfl|exact zG rfl|exact fun h=>h|(simp only[zA,zB,zC,zD,bytesW];omega)) only[go_sem,c35S6]
    exact ⟨_,_,h6,key,hr.del,.inl ⟨_,r,eid,hrecs,rfl⟩⟩
   ·have hx2:x∈delE j (es.set j (.gh es[j].stub)):=by rw [del_ghost]; exact hx
    rcases del_mem hx2 with rfl | hx2
    ·trivial
    ·exact (p3.pg (a,es.set j (.gh es[j].stub)) (by simp)).2 x hx2
 simp (disch:=first|omega|exact zF rfl|exact zG rfl|exact fun h=>h|(simp only[zA,zB,zC,zD,bytesW];omega)) only[go_sem]
 generalize es[j]=t at h0 hrec hok hpg tail ⊢
 cases t with
 | no=>cases hrec
 | gh s=>cases hrec
 | sh r' =>
  refine Ret.mono (release_short r' h2 (by have:=hok.2; omega)) ?_
  rintro _ w3 ⟨rfl,h3⟩
  simp (disch:=first|omega|exact zF rfl|exact zG rfl|exact fun h=>h|(simp only[zA,zB,zC,zD,bytesW];omega)) only[go_sem]
  exact tail P w3 h3 hpg rfl rfl
 | lo r' g =>
  refine Ret.mono (release_ok r' g h2 hpg hok.2.2 hok.2.1) ?_
  rintro _ w3 ⟨P3,rfl,h3,p3,sm⟩
  simp (disch:=first|omega|exact zF rfl|exact zG rfl|exact fun h=>h|(simp only[zA,zB,zC,zD,bytesW];omega)) only[go_sem]
  have hmem:a∈pagesX (A++(a,es.set j (.gh (Ent.stub (.lo r' g))))::B):=page_sub (x:=(a,es.set j (.gh (Ent.stub (.lo r' g))))) (by simp) a List.mem_cons_self
  exact tail P3 w3 h3 p3 (sm.res hmem) (sm.nxt hmem)
end
open Go Go.Ann Go.RowKit Go.WideShapes
theorem Pgr.bel{e:En}{P:List (List UInt8)}{W0 w:World}{F:Nat→Prop}{L:List Res}{I:List Inv}(h:Pgr e P W0 w F L I):Below W0.heap.size W0 w:=by
 obtain ⟨rv,l,s,h1,h2⟩:=h
 exact h1.bel
section
variable {W0 w:World} {F:Nat→Prop} {L:List Res} {I:List Inv} {e:En} {P:List (List UInt8)} {X:List (Nat × List Ent)} {E:List Nat} {n hb:Nat} {i:Int}
theorem hpN_start{n:Nat}{i:Int}(h3:3≤n)(h4:n≤500)(hi:0≤i∧i<16):HpN n i (fmtP (List.replicate n zeroB)) [] []:=by
 have hg:=fmt_given (P:=List.replicate n zeroB) (n:=n) List.length_replicate h3 h4
 have hfull:∀ p∈fmtP (List.replicate n zeroB),p.length=256:=by
  unfold fmtP
  refine full_set (full_set (fun p hp=>?_) (filledL_length (by rw [fmtU_len]; exact Nat.le_refl _))) (filledL_length (by decide))
  rw [List.eq_of_mem_replicate hp]; exact List.length_replicate
 have hn:∀ a,a∈([]:List Nat)++pagesX []→False:=fun a ha=>by simp [pagesX] at ha
 refine { given:=hg.ext fun j hj=>by simp [pagesX],rng:=fun a ha=>(hn a ha).elim,nd:=List.Pairwise.nil,full:=hfull,idx:=hi,big:=⟨h3,h4⟩,root:=?_,pg:=fun x hx=>(by simp at hx),some:=fun x hx=>(by simp at hx) }
 show rootM _ i=0
 rw [rootM_at hi.1]
 have:rootB (fmtP (List.replicate n zeroB))=filledL []:=by
  unfold fmtP
  exact rootB_set (by rw [List.length_set,List.length_replicate]; omega)
 rw [this]
 exact rootAt_zero _
theorem keys_one{l:List (Nat × List UInt8)}(h:(l.map Prod.fst).Nodup){k:Nat}{r s:List UInt8}(hr:(k,r)∈l)(hs:(k,s)∈l):r=s:=by
 induction l with
 | nil=>cases hr
 | cons x l ih =>
  rw [List.map_cons,List.nodup_cons] at h
  rcases List.mem_cons.1 hr with h1 | h1
  ·rcases List.mem_cons.1 hs with h2 | h2
   ·rw [← h1] at h2; cases h2; rfl
   ·exact absurd (List.mem_map.2 ⟨_,h2,by rw [← h1]⟩) h.1
  ·rcases List.mem_cons.1 hs with h2 | h2
   ·exact absurd (List.mem_map.2 ⟨_,h1,by rw [← h2]⟩) h.1
   ·exact ih h.2 h1 h2
theorem hget_some{k:Nat}{r:List UInt8}(h:Pgr e P W0 w F (hpB hb e i::L) I)(hp:HpN n i P X E)(hr:Real X)(hm:(k,r)∈recsX X) :
  Ret Tryz.prog 32 [.pointer (some ⟨hb,0,none⟩),.int .i64 k] w fun u w'=>u=.tuple #[.string (ofL r),.int .i64 0]∧Pgr e P W0 w' F (hpB hb e i::L) I:=by
 have hi:=hp.ids hm
 have hbig:=hp.big
 refine Ret.mono (hget_ok (k:Int) h hp hr ⟨by omega,by omega⟩) ?_
 rintro _ w2 ⟨h2,⟨k2,r2,e2,m2,rfl⟩ | ⟨hno,_⟩⟩
 ·obtain rfl:k2=k:=by omega
  rw [keys_one hp.keys hm m2]
  exact ⟨rfl,h2⟩
 ·exact absurd rfl (notAt_rec hno hm)
theorem hdel_some{k:Nat}{r:List UInt8}(h:Pgr e P W0 w F (hpB hb e i::L) I)(hp:HpN n i P X [])(hr:Real X)(hm:(k,r)∈recsX X) :
  Ret Tryz.prog 35 [.pointer (some ⟨hb,0,none⟩),.int .i64 k] w fun u w'=>∃ P' X',u=.int .i64 0∧Pgr e P' W0 w' F (hpB hb e i::L) I∧HpN n i P' X' []∧Real X'∧(recsX X).Perm ((k,r)::recsX X'):=by
 have hi:=hp.ids hm
 have hbig:=hp.big
 refine Ret.mono (hdel_ok (k:Int) h hp hr ⟨by omega,by omega⟩) ?_
 rintro _ w2 ⟨P',X',h2,p2,real2,⟨k2,r2,e2,m2,rfl⟩ | ⟨hno,_,_⟩⟩
 ·obtain rfl:k2=k:=by omega
  rw [keys_one hp.keys hm (m2.mem_iff.2 List.mem_cons_self)]
  exact ⟨P',X',rfl,h2,p2,real2,m2⟩
 ·exact absurd rfl (notAt_rec hno hm)
theorem opened_ok(h:Pgr e P W0 w F L I)(hp:HpN n i P X E):Ret Tryz.prog 11 [.pointer (some ⟨e.p,0,none⟩),.int .i64 i] w fun u w'=>∃ hb,u=.pointer (some ⟨hb,0,none⟩)∧Pgr e P W0 w' F (hpB hb e i::L) I:=by
 have hidx:=hp.idx
 have hbig:=hp.big
 have hlen:=hp.given.len
 have key:Ret Tryz.prog 45 [.pointer (some ⟨e.p,0,none⟩),.int .i64 i] w fun u w'=>∃ hb,u=.tuple #[.pointer (some ⟨hb,0,none⟩),.int .i64 0]∧Pgr e P W0 w' F (hpB hb e i::L) I:=by
  refine ent45 _ _ _ _ ?_
  simp (disch:=first|omega|exact zF rfl|exact zG rfl|exact fun h=>h|(simp only[zA,zB,zC,zD,bytesW];omega)) only[go_sem]
  refine Ret.mono (proot_ok i h (by omega) ⟨by omega,by omega⟩) ?_
  rw [rootN_eq hidx]
  rintro _ w2 ⟨rfl,h2⟩
  simp (disch:=first|omega|exact zF rfl|exact zG rfl|exact fun h=>h|(simp only[zA,zB,zC,zD,bytesW];omega)) only[go_sem]
  refine bdW_built (cells:=#[.pointer (some ⟨e.p,0,none⟩),.int .i64 i]) (by kernel_rfl) ?_
  have s4:=h2.box #[.pointer (some ⟨e.p,0,none⟩),.int .i64 i] 104
  simp (disch:=first|omega|exact zF rfl|exact zG rfl|exact fun h=>h|(simp only[zA,zB,zC,zD,bytesW];omega)) only[go_sem]
  exact ⟨_,rfl,s4⟩
 refine ent11 _ _ _ _ ?_
 simp (disch:=first|omega|exact zF rfl|exact zG rfl|exact fun h=>h|(simp only[zA,zB,zC,zD,bytesW];omega)) only[go_sem]
 refine Ret.mono key ?_
 rintro _ w2 ⟨hb,rfl,h2⟩
 simp (disch:=first|omega|exact zF rfl|exact zG rfl|exact fun h=>h|(simp only[zA,zB,zC,zD,bytesW];omega)) only[go_sem]
 exact ⟨hb,rfl,h2⟩
theorem long_ok(m:Nat)(w:World)(h:m≤100000):Ret Tryz.prog 62 [.int .i64 m] w fun u w'=>u=.string (ofL (List.replicate m 0))∧Below w.heap.size w w':=by
 refine ent62 _ _ _ ?_
 simp (disch:=first|omega|exact zF rfl|exact zG rfl|exact fun h=>h|(simp only[zA,zB,zC,zD,bytesW];omega)) only[go_sem]
 refine msW_one ty181mkI rfl (by omega) (by omega) (by omega) (by omega) ?_
 rw [Int.toNat_natCast,Slt.zeros_bytes]
 have s2:=(St.start (W0:=w)).box (Slt.bytesC (List.replicate m 0)) 5
 have r2:=s2.rules 0 rfl
 simp (disch:=first|omega|exact zF rfl|exact zG rfl|exact fun h=>h|(simp only[zA,zB,zC,zD,bytesW];omega)) only[go_sem]
 refine ⟨List.replicate m 0,by simp,fun j b hb=>?_,rfl,s2.bel⟩
 rw [Addr.add_lit,Nat.zero_add,r2.1]
 simp only [Slt.bytesC,List.getElem?_toArray,List.getElem?_map,hb,Option.map_some]
theorem hawake_ok(w:World):Ret Tryz.prog 14 [] w fun u w'=>u=.bool true∧Below w.heap.size w w':=by
 refine ent14 _ _ ?_
 simp (disch:=first|omega|exact zF rfl|exact zG rfl|exact fun h=>h|(simp only[zA,zB,zC,zD,bytesW];omega)) only[go_sem]
 refine Ret.mono (begun25_ok (n:=30) (St.start (W0:=w)) (by decide) (by decide)) ?_
 rintro _ w2 ⟨e,rfl,_,_,h2⟩
 have p2:=hpN_start (n:=30) (i:=9) (by decide) (by decide) (by decide)
 generalize fmtP (List.replicate 30 zeroB)=P2 at h2 p2
 simp (disch:=first|omega|exact zF rfl|exact zG rfl|exact fun h=>h|(simp only[zA,zB,zC,zD,bytesW];omega)) only[go_sem]
 refine Ret.mono (opened_ok h2 p2) ?_
 rintro _ w3 ⟨hb,rfl,h3⟩
 simp (disch:=first|omega|exact zF rfl|exact zG rfl|exact fun h=>h|(simp only[zA,zB,zC,zD,bytesW];omega)) only[go_sem]
 have hlen2:=p2.given.len
 have hr2:=p2.room
 refine Ret.mono (proom_ok h3 (by omega)) ?_
 rintro _ w4 ⟨rfl,h4⟩
 simp (disch:=first|omega|exact zF rfl|exact zG rfl|exact fun h=>h|(simp only[zA,zB,zC,zD,bytesW];omega)) only[go_sem]
 refine Ret.mono (long_ok 1000 w4 (by decide)) ?_
 rintro _ w5 ⟨rfl,b5⟩
 have h5:=h4.below b5
 obtain ⟨r1,hr1⟩:∃ r,r=List.replicate 1000 (0:UInt8):=⟨_,rfl⟩
 have hl1:r1.length=1000:=by rw [hr1,List.length_replicate]
 rw [← hr1]
 have hn1:¬ (r1=[]∨2000<r1.length):=by
  rintro (hc | hc)
  ·rw [hc] at hl1; cases hl1
  ·omega
 have hm1:moreN r1=4:=by unfold moreN chainN; rw [hl1]; decide
 have hroom2:roomN P2=28:=by rw [hr2]; rfl
 simp (disch:=first|omega|exact zF rfl|exact zG rfl|exact fun h=>h|(simp only[zA,zB,zC,zD,bytesW];omega)) only[go_sem]
 refine Ret.mono (hput_ok r1 h5 p2 (by omega)) ?_
 rintro _ w6 ⟨P6,X6,h6,p6,⟨hc,_,_⟩ | ⟨_,hc,_,_⟩ | ⟨_,_,a,rfl,put6⟩⟩
 ·exact absurd hc hn1
 ·omega
 have x6:=put6.recs
 have real6:=put6.real (fun x hx=>by cases hx)
 have pg6:=put6.pages
 have room6:=p6.room
 have ha:=p6.ids (x6.mem_iff.2 List.mem_cons_self)
 simp (disch:=first|omega|exact zF rfl|exact zG rfl|exact fun h=>h|(simp only[zA,zB,zC,zD,bytesW];omega)) only[go_sem]
 refine Ret.mono (hput_ok [97,98] h6 p6 (by decide)) ?_
 rintro _ w7 ⟨P7,X7,h7,p7,⟨hc,_,_⟩ | ⟨_,hc,_,_⟩ | ⟨_,_,b,rfl,put7⟩⟩
 ·exact absurd hc (by decide)
 ·have e1:moreN [97,98]=0:=rfl
  rw [hm1] at pg6
  rw [e1,room6,List.length_append] at hc
  have e2:(pagesX ([]:List (Nat × List Ent))).length=0:=rfl
  rw [e2] at pg6
  simp only [List.length_nil] at hc
  omega
 have x7:=put7.recs.trans (x6.cons _)
 have real7:=put7.real real6
 have k7:=p7.keys
 have hb7:=p7.ids (x7.mem_iff.2 List.mem_cons_self)
 have ma:(a,r1)∈recsX X7:=x7.mem_iff.2 (List.mem_cons_of_mem _ List.mem_cons_self)
 have mb:(b,[97,98])∈recsX X7:=x7.mem_iff.2 List.mem_cons_self
 simp (disch:=first|omega|exact zF rfl|exact zG rfl|exact fun h=>h|(simp only[zA,zB,zC,zD,bytesW];omega)) only[go_sem]
 refine Ret.mono (hget_some h7 p7 real7 ma) ?_
 rintro _ w8 ⟨rfl,h8⟩
 simp (disch:=first|omega|exact zF rfl|exact zG rfl|exact fun h=>h|(simp only[zA,zB,zC,zD,bytesW];omega)) only[go_sem]
 refine Ret.mono (hget_some h8 p7 real7 mb) ?_
 rintro _ w9 ⟨rfl,h9⟩
 simp (disch:=first|omega|exact zF rfl|exact zG rfl|exact fun h=>h|(simp only[zA,zB,zC,zD,bytesW];omega)) only[go_sem]
 refine Ret.mono (long_ok 1000 w9 (by decide)) ?_
 rintro _ w10 ⟨rfl,b10⟩
 rw [← hr1]
 have h10:=h9.below b10
 simp (disch:=first|omega|exact zF rfl|exact zG rfl|exact fun h=>h|(simp only[zA,zB,zC,zD,bytesW];omega)) only[go_sem]
 refine Ret.mono (hdel_some h10 p7 real7 ma) ?_
 rintro _ w11 ⟨P11,X11,rfl,h11,p11,real11,x11⟩
 have mb2:(b,[97,98])∈recsX X11:=by
  rcases List.mem_cons.1 (x11.mem_iff.1 mb) with hc | hc
  ·cases hc; exact absurd hl1 (by decide)
  ·exact hc
 simp (disch:=first|omega|exact zF rfl|exact zG rfl|exact fun h=>h|(simp only[zA,zB,zC,zD,bytesW];omega)) only[go_sem]
 refine Ret.mono (hdel_some h11 p11 real11 mb2) ?_
 rintro _ w12 ⟨P12,X12,rfl,h12,p12,real12,x12⟩
 have l7:=x7.length_eq
 have l11:=x11.length_eq
 have l12:=x12.length_eq
 have hl0:(recsX X12).length=0:=by
  have e0:(recsX ([]:List (Nat × List Ent))).length=0:=rfl
  simp only [List.length_cons] at l7 l11 l12
  omega
 have hX12:=p12.none real12 (List.eq_nil_of_length_eq_zero hl0)
 subst hX12
 have hlen12:=p12.given.len
 simp (disch:=first|omega|exact zF rfl|exact zG rfl|exact fun h=>h|(simp only[zA,zB,zC,zD,bytesW];omega)) only[go_sem]
 refine Ret.mono (proom_ok h12 (by omega)) ?_
 rintro _ w13 ⟨rfl,h13⟩
 have er:roomN P12=roomN P2:=by rw [p12.room,p2.room]
 rw [er]
 simp (disch:=first|omega|exact zF rfl|exact zG rfl|exact fun h=>h|(simp only[zA,zB,zC,zD,bytesW];omega)) only[go_sem]
 exact h13.bel
end
open Go Go.Ann Go.RowKit Go.WideShapes
theorem heapSmall_ok{v:Value}{l:List (List UInt8)}(w:World)(hl:RdS w 1 strE v l)(hll:(l.length:Int)≤9223372036854775807)(hls:∀ s∈l,(s.length:Int)≤9223372036854775807) :
  Ret Tryz.prog 3 [v] w fun u w'=>u=.bool true∧Below w.heap.size w w':=by
 obtain ⟨va,vc,rfl,_⟩:=hl.form
 refine ent3 _ _ _ ?_
 simp (disch:=first|omega|exact zF rfl|exact zG rfl|exact fun h=>h|(simp only[zA,zB,zC,zD,bytesW];omega)) only[go_sem]
 refine Ret.mono (begun25_ok (n:=100) (St.start (W0:=w)) (by decide) (by decide)) ?_
 rintro _ w2 ⟨e,rfl,_,_,h2⟩
 have p2:=hpN_start (n:=100) (i:=9) (by decide) (by decide) (by decide)
 generalize fmtP (List.replicate 100 zeroB)=P2 at h2 p2
 simp (disch:=first|omega|exact zF rfl|exact zG rfl|exact fun h=>h|(simp only[zA,zB,zC,zD,bytesW];omega)) only[go_sem]
 refine Ret.mono (opened_ok h2 p2) ?_
 rintro _ w3 ⟨hb,rfl,h3⟩
 simp (disch:=first|omega|exact zF rfl|exact zG rfl|exact fun h=>h|(simp only[zA,zB,zC,zD,bytesW];omega)) only[go_sem]
 have hlen2:=p2.given.len
 have hr2:roomN P2=98:=by rw [p2.room]; rfl
 refine Ret.mono (proom_ok h3 (by omega)) ?_
 rintro _ w4 ⟨rfl,h4⟩
 rw [hr2]
 simp (disch:=first|omega|exact zF rfl|exact zG rfl|exact fun h=>h|(simp only[zA,zB,zC,zD,bytesW];omega)) only[go_sem]
 refine W_loopU (fun s:Nat × Nat=>[(7,.int .i64 s.2),(8,.int .i64 s.1)]) (fun s w'=>∃ P X,Pgr e P w w' (fun _=>False) [hpB hb e 9] []∧HpN 100 9 P X []∧(pagesX X).length≤s.2∧s.2≤s.1∧s.1≤60∧s.1≤l.length) (fun s=>60 - s.1) (0,0) rfl ⟨P2,[],h4,p2,Nat.zero_le _,Nat.zero_le _,by decide,Nat.zero_le _⟩ ?_
 rintro ⟨k,c⟩ w5 ⟨P,X,h5,p5,hpc,hck,hk60,hkl⟩
 simp only at hpc hck hk60 hkl
 have fin:∀ w',Below w.heap.size w w'→Ret Tryz.prog 14 [] w' fun u w''=>u=.bool true∧Below w.heap.size w w'':=fun w' hb=>Ret.mono (hawake_ok w') fun u w'' h=>⟨h.1,Below.next hb h.2⟩
 by_cases hlt:k<l.length
 case neg =>
  have hlt':¬ (k:Int)<l.length:=by omega
  simp (disch:=first|omega|exact zF rfl|exact zG rfl|exact fun h=>h|(simp only[zA,zB,zC,zD,bytesW];omega)) only[go_sem,c3L0,c3L0,hlt']
  refine Ret.mono (fin w5 h5.bel) ?_
  rintro _ w6 ⟨rfl,b6⟩
  simp (disch:=first|omega|exact zF rfl|exact zG rfl|exact fun h=>h|(simp only[zA,zB,zC,zD,bytesW];omega)) only[go_sem,c3L0]
  exact b6
 have hlt':(k:Int)<l.length:=by omega
 by_cases hk:k<60
 case neg =>
  have hk':¬ (k:Int)<60:=by omega
  simp (disch:=first|omega|exact zF rfl|exact zG rfl|exact fun h=>h|(simp only[zA,zB,zC,zD,bytesW];omega)) only[go_sem,c3L0,c3L0,hlt',hk']
  refine Ret.mono (fin w5 h5.bel) ?_
  rintro _ w6 ⟨rfl,b6⟩
  simp (disch:=first|omega|exact zF rfl|exact zG rfl|exact fun h=>h|(simp only[zA,zB,zC,zD,bytesW];omega)) only[go_sem,c3L0]
  exact b6
 have hk':(k:Int)<60:=by omega
 have hl5:=hl.below h5.bel (by decide)
 obtain ⟨p,rfl⟩:=hl.ptr (by omega)
 have ek:=RdS.at1 (e1:=fun r=>.string (ofL r)) hl5 hlt
 have hs:=hls _ (List.getElem_mem hlt)
 generalize l[k]=r at ek hs
 simp (disch:=first|omega|exact zF rfl|exact zG rfl|exact fun h=>h|(simp only[zA,zB,zC,zD,bytesW];omega)) only[go_sem,c3L0,c3L0,hlt',hk',ek]
 refine ⟨by omega,fun h60=>⟨⟨by omega,by omega⟩,(k+1,c),rfl,⟨P,X,h5,p5,hpc,by simp only; omega,by simp only; omega,by simp only; omega⟩,by simp only; omega⟩,fun h60=>⟨by omega,Ret.mono (hput_ok r h5 p5 hs) ?_⟩⟩
 have hm0:moreN r=0:=by unfold moreN; rw [if_pos (by omega)]
 have hrm:=p5.room
 rw [List.length_append,List.length_nil] at hrm
 rintro _ w6 ⟨P6,X6,h6,p6,hcase⟩
 have hl6:=hl.below h6.bel (by decide)
 have ek6:w6.cell? (p.add k)=some (.string (ofL r)):=by
  have h1:=RdS.at1 (e1:=fun r=>.string (ofL r)) hl6 hlt
  have h2:=RdS.at1 (e1:=fun r=>.string (ofL r)) hl5 hlt
  rw [ek] at h2
  rw [h1,h2]
 have hlen6:=p6.given.len
 have hrm6:=p6.room
 rw [List.length_append,List.length_nil] at hrm6
 have hfew6:=p6.few
 rw [List.length_append,List.length_nil] at hfew6
 rcases hcase with ⟨hc,rfl,rfl⟩ | ⟨_,hc,_,_⟩ | ⟨hno,_,id,rfl,put⟩
 ·obtain rfl:r=[]:=by
   rcases hc with hc | hc
   ·exact hc
   ·omega
  simp (disch:=first|omega|exact zF rfl|exact zG rfl|exact fun h=>h|(simp only[zA,zB,zC,zD,bytesW];omega)) only[go_sem,c3L0,ek6]
  refine ⟨by omega,Ret.mono (proom_ok h6 (by omega)) ?_⟩
  rintro _ w7 ⟨rfl,h7⟩
  simp (disch:=first|omega|exact zF rfl|exact zG rfl|exact fun h=>h|(simp only[zA,zB,zC,zD,bytesW];omega)) only[go_sem,c3L0]
  exact ⟨⟨by omega,by omega⟩,fun hcc=>by omega,fun _=>⟨⟨by omega,by omega⟩,(k+1,c),rfl,⟨P6,X6,h7,p6,hpc,by simp only; omega,by simp only; omega,by simp only; omega⟩,by simp only; omega⟩⟩
 ·omega
 ·have hne:r≠[]:=fun hc=>hno (.inl hc)
  have hpg:=put.pages
  rw [hm0] at hpg
  simp (disch:=first|omega|exact zF rfl|exact zG rfl|exact fun h=>h|(simp only[zA,zB,zC,zD,bytesW];omega)) only[go_sem,c3L0,ek6]
  refine ⟨⟨by omega,by omega⟩,by omega,fun _=>Ret.mono (proom_ok h6 (by omega)) ?_,fun hcc=>absurd hcc (by simp [hne])⟩
  rintro _ w7 ⟨rfl,h7⟩
  simp (disch:=first|omega|exact zF rfl|exact zG rfl|exact fun h=>h|(simp only[zA,zB,zC,zD,bytesW];omega)) only[go_sem,c3L0]
  exact ⟨⟨by omega,by omega⟩,fun hcc=>by omega,fun _=>⟨⟨by omega,by omega⟩,(k+1,c+1),rfl,⟨P6,X6,h7,p6,by simp only; omega,by simp only; omega,by simp only; omega,by simp only; omega⟩,by simp only; omega⟩⟩
theorem heapSmall_law{H:Type}{enc:TypeId × Value→H}{w:World}{r:Reach}{b base:Nat}{sp:Nat→Bool}{hd:Bool}{v:Value}{d:DataW H}{ps:List MemPlace}(h0:Value.okWide Tryz.prog w r b 22 v)
  (k0:DataW.Trod enc Tryz.prog w base sp hd 22 v d ps):Ret Tryz.prog 3 [v] w fun u w'=>u=.bool true∧Below w.heap.size w w':=by
 obtain ⟨xs,q1,q2⟩:=Opens.slice_arg (opens_slice (opens_str Tryz.underlying9) Tryz.underlying22 (by kernel_rfl)) Tryz.underlying22 h0 k0
 obtain ⟨q5,q6⟩:=q1.plain (enc:=strE) (ok:=fun s=>(s.length:Int)≤9223372036854775807) fun x c h=>⟨h.1,h.2⟩
 exact heapSmall_ok w q5 q2 q6
end Go.Proofs.YtkmjkmjpejmlnaaGreat

end
