/- Texts put together by program. -/
import Derived.Test.YtoadmihnihfjkaaGreatQC4
set_option linter.unusedSimpArgs false
set_option linter.unusedVariables false
set_option maxRecDepth 100000
noncomputable section

namespace Go.Proofs.YtoadmihnihfjkaaGreat
open Go Go.Ann Go.RowKit
abbrev Spot:=List Bool × List Int
def mayP(l:List OpT)(d:List Bool)(i:Nat)(o:OpT):Bool:=!(d.getD i false) && ((l.map fun p=>before p o).zip d).all (fun p=>p.2 || !p.1)
def fullP(l:List OpT)(d:List Bool):Bool:=((l.map fun o=>o.Done).zip d).all (fun p=>p.2 || !p.1)
def addP(t:List Spot)(p:Spot):List Spot:=if p∈t then t else t++[p]
def goP(l:List OpT)(p:Spot)(t:List Spot)(k:Nat):List Spot :=
 match l[k]? with
 | none=>t
 | some o=>if mayP l p.1 k o then (match stepP p.2 o with
  | some s=>addP t (p.1.set k true,s)
  | none=>t) else t
def roundK(l:List OpT)(p:Spot)(t:List Spot):Nat→List Spot
 | 0=>t
 | k+1=>goP l p (roundK l p t k) k
def bfsN(l:List OpT)(t0:List Spot):Nat→List Spot
 | 0=>t0
 | i+1=>match (bfsN l t0 i)[i]? with
  | some p=>roundK l p (bfsN l t0 i) l.length
  | none=>bfsN l t0 i
theorem addP_pre(t:List Spot)(p:Spot):t <+: addP t p:=by
 unfold addP; split
 ·exact List.prefix_rfl
 ·exact List.prefix_append _ _
theorem addP_len(t:List Spot)(p:Spot):(addP t p).length≤t.length+1:=by
 unfold addP; split <;> simp
theorem goP_pre(l:List OpT)(p:Spot)(t:List Spot)(k:Nat):t <+: goP l p t k:=by
 unfold goP
 split
 ·exact List.prefix_rfl
 ·split
  ·split
   ·exact addP_pre _ _
   ·exact List.prefix_rfl
  ·exact List.prefix_rfl
theorem goP_len(l:List OpT)(p:Spot)(t:List Spot)(k:Nat):(goP l p t k).length≤t.length+1:=by
 unfold goP
 split
 ·omega
 ·split
  ·split
   ·exact addP_len _ _
   ·omega
  ·omega
theorem roundK_pre(l:List OpT)(p:Spot)(t:List Spot):∀ k,t <+: roundK l p t k
 | 0=>List.prefix_rfl
 | k+1=>(roundK_pre l p t k).trans (goP_pre _ _ _ _)
theorem roundK_len(l:List OpT)(p:Spot)(t:List Spot):∀ k,(roundK l p t k).length≤t.length+k
 | 0=>Nat.le_refl _
 | k+1=>by
  have h1:=roundK_len l p t k
  have h2:=goP_len l p (roundK l p t k) k
  rw [roundK]; omega
theorem bfsN_step(l:List OpT)(t0:List Spot)(i:Nat):bfsN l t0 i <+: bfsN l t0 (i+1):=by
 rw [bfsN]; split
 ·exact roundK_pre _ _ _ _
 ·exact List.prefix_rfl
theorem bfsN_mono(l:List OpT)(t0:List Spot){i j:Nat}(h:i≤j):bfsN l t0 i <+: bfsN l t0 j:=by
 induction h with
 | refl=>exact List.prefix_rfl
 | step _ ih=>exact ih.trans (bfsN_step _ _ _)
theorem bfsN_closed{l:List OpT}{t0:List Spot}{i j:Nat}(h:i≤j)(hc:(bfsN l t0 i).length≤i):bfsN l t0 j=bfsN l t0 i:=by
 induction h with
 | refl=>rfl
 | step h ih =>
  rename_i m
  have hm:i≤m:=h
  rw [bfsN,ih,List.getElem?_eq_none (by omega)]
def SearchR(l:List OpT)(t0:List Spot)(b:Int):Option (List Spot)→Prop
 | none=>∃ N,b<((bfsN l t0 N).length:Int)
 | some T=>(∃ N,bfsN l t0 N=T∧T.length≤N)∧(T.length:Int)≤b
theorem SearchR.one{l:List OpT}{t0:List Spot}{b:Int}{r r':Option (List Spot)}(h:SearchR l t0 b r)(k:SearchR l t0 b r'):r=r':=by
 have key:∀ {T:List Spot},SearchR l t0 b none→SearchR l t0 b (some T)→False:=by
  rintro T ⟨N,hN⟩ ⟨⟨M,rfl,hM⟩,hb⟩
  rcases Nat.le_total N M with hle | hle
  ·have:=(bfsN_mono l t0 hle).length_le; omega
  ·rw [bfsN_closed hle hM] at hN; omega
 cases r with
 | none=>cases r' with
  | none=>rfl
  | some T=>exact (key h k).elim
 | some T=>cases r' with
  | none=>exact (key k h).elim
  | some T' =>
   obtain ⟨⟨N,h1,h2⟩,_⟩:=h
   obtain ⟨⟨M,k1,k2⟩,_⟩:=k
   subst h1 k1
   rcases Nat.le_total N M with hle | hle
   ·rw [bfsN_closed hle h2]
   ·rw [bfsN_closed hle k2]
structure Good(K:Int)(M n:Nat)(p:Spot):Prop where
 len:p.1.length=n
 ok:Ok64 p.2
 sz:p.2.length≤M+p.1.count true
 ris:K=5→p.2.Pairwise (· < ·)
theorem Good.okS{K:Int}{M n:Nat}{p:Spot}(h:Good K M n p)(hm:M+n≤1000000):OkS p.2:=by
 refine ⟨h.ok,?_⟩
 have h1:=h.sz
 have h2:=List.count_le_length (a:=true) (l:=p.1)
 rw [h.len] at h2
 omega
theorem wrap_ok(n:Int):I64 (IntKind.i64.wrap n):=by
 constructor <;> simp [IntKind.wrap,IntKind.signed,IntKind.bits] <;> omega
theorem kOk_i64{n:Int}(h:kOk .i64 n):I64 n:=by
 unfold kOk Lit.wf at h
 simp [IntKind.min,IntKind.max,IntKind.signed,IntKind.bits] at h
 exact ⟨by omega,by omega⟩
theorem numP_ok{x:Int}{o:OpT}{s:List Int}{n:Int}(hw:o.wf)(hx:I64 x)(h:numP x o=some (s,n)):Ok64 s∧s.length=1:=by
 have h1:∀ y:Int,I64 y→Ok64 [y]∧[y].length=1:=fun y hy=>⟨fun z hz=>by rw [List.mem_singleton] at hz; subst hz; exact hy,rfl⟩
 obtain ⟨_,_,_,_,_,ha,hs,_⟩:=hw
 unfold numP at h
 repeat' split at h
 all_goals first | (cases h; done) | skip
 all_goals simp only [Option.some.injEq,Prod.mk.injEq] at h; obtain ⟨rfl,_⟩:=h
 ·exact h1 _ hx
 ·exact h1 _ (kOk_i64 ha)
 ·exact h1 _ (kOk_i64 hs)
 ·exact h1 _ hx
 ·exact h1 _ (wrap_ok _)
 ·exact h1 _ (wrap_ok _)
theorem listP_ok{s:List Int}{o:OpT}{t:List Int}{n:Int}(hw:o.wf)(hx:Ok64 s)(h:listP s o=some (t,n)):Ok64 t∧t.length≤s.length+1:=by
 obtain ⟨_,_,_,_,_,ha,hs,_⟩:=hw
 unfold listP at h
 repeat' split at h
 all_goals first | (cases h; done) | skip
 all_goals simp only [Option.some.injEq,Prod.mk.injEq] at h; obtain ⟨rfl,_⟩:=h
 ·refine ⟨fun z hz=>?_,by simp⟩
  rcases List.mem_append.1 hz with hz | hz
  ·exact hx z hz
  ·rw [List.mem_singleton] at hz; subst hz; exact kOk_i64 ha
 ·exact ⟨fun z hz=>(by cases hz),by simp⟩
 ·exact ⟨fun z hz=>hx z (List.mem_cons_of_mem _ hz),by simp; omega⟩
 ·exact ⟨fun z hz=>(by cases hz),by simp⟩
 ·exact ⟨fun z hz=>hx z ((List.dropLast_subset _) hz),by simp; omega⟩
theorem setP_ok{s:List Int}{o:OpT}{t:List Int}{n:Int}(hw:o.wf)(hx:Ok64 s)(hs:s.Pairwise (· < ·))(h:setP s o=some (t,n)):Ok64 t∧t.length≤s.length+1∧t.Pairwise (· < ·):=by
 obtain ⟨_,_,_,_,_,ha,_,_⟩:=hw
 unfold setP at h
 repeat' split at h
 all_goals first | (cases h; done) | skip
 all_goals simp only [Option.some.injEq,Prod.mk.injEq] at h; obtain ⟨rfl,_⟩:=h
 ·exact ⟨hx,by omega,hs⟩
 ·exact ⟨hx,by omega,hs⟩
 ·exact ⟨hx,by omega,hs⟩
 ·rename_i hni _
  refine ⟨fun z hz=>?_,by unfold insP; simp; omega,insP_sorted hs hni⟩
  rcases insP_mem.1 hz with e | hz
  ·subst e; exact kOk_i64 ha
  ·exact hx z hz
 ·exact ⟨fun z hz=>hx z ((List.mem_filter.1 hz).1),by have:=List.length_filter_le (fun y=>!decide (y=o.Arg)) s; unfold delP; omega,delP_sorted hs⟩
 ·exact ⟨hx,by omega,hs⟩
theorem stepP_ok{s:List Int}{o:OpT}{t:List Int}(hw:o.wf)(hx:Ok64 s)(hs:o.Kind=5→s.Pairwise (· < ·))(h:stepP s o=some t):Ok64 t∧t.length≤s.length+1∧(o.Kind=5→t.Pairwise (· < ·)):=by
 unfold stepP at h
 split at h
 case h_2=>cases h
 rename_i t' n hd
 have e:t'=t:=by
  split at h
  ·cases h
  ·simpa using h
 subst e
 unfold doP at hd
 split at hd
 ·rename_i hk
  have h5:o.Kind≠5:=by omega
  unfold numL at hd
  split at hd
  ·obtain ⟨h1,h2⟩:=numP_ok hw (hx _ (List.mem_singleton.2 rfl)) hd
   exact ⟨h1,by omega,fun e=>absurd e h5⟩
  ·cases hd
 split at hd
 ·rename_i hk
  have h5:o.Kind≠5:=by omega
  obtain ⟨h1,h2⟩:=listP_ok hw hx hd
  exact ⟨h1,h2,fun e=>absurd e h5⟩
 split at hd
 ·rename_i hk
  obtain ⟨h1,h2,h3⟩:=setP_ok hw hx (hs hk) hd
  exact ⟨h1,h2,fun _=>h3⟩
 split at hd
 ·rename_i hk
  have h5:o.Kind≠5:=by omega
  repeat' split at hd
  all_goals first | (cases hd; done) | skip
  all_goals simp only [Option.some.injEq,Prod.mk.injEq] at hd; obtain ⟨rfl,_⟩:=hd
  ·obtain ⟨_,hp,_⟩:=hw
   exact ⟨fun z hz=>by rw [List.mem_singleton] at hz; subst hz; exact kOk_i64 hp,by simp,fun e=>absurd e h5⟩
  ·exact ⟨fun z hz=>(by cases hz),by simp,fun e=>absurd e h5⟩
 ·cases hd
theorem count_set{d:List Bool}{k:Nat}(hk:k<d.length)(h:d.getD k false=false):(d.set k true).count true=d.count true+1:=by
 induction d generalizing k with
 | nil=>simp at hk
 | cons b d ih =>
  cases k with
  | zero =>
   simp at h; subst h
   simp
  | succ k =>
   rw [List.set_cons_succ,List.count_cons,List.count_cons,ih (by simpa using hk) (by simpa using h)]
   omega
theorem Good.go{K:Int}{M:Nat}{l:List OpT}{p:Spot}{k:Nat}{s:List Int}(h:Good K M l.length p)(hk:k<l.length)(ha:∀ o∈l,o.Kind=K)(hw:∀ o∈l,o.wf)(hm:mayP l p.1 k l[k]=true)(hs:stepP p.2 l[k]=some s):Good K M l.length (p.1.set k true,s):=by
 have hmem:=List.getElem_mem hk
 obtain ⟨h1,h2,h3⟩:=stepP_ok (hw _ hmem) h.ok (fun e=>h.ris ((ha _ hmem).symm.trans e)) hs
 have hf:p.1.getD k false=false:=by
  unfold mayP at hm
  rw [Bool.and_eq_true] at hm
  simpa using hm.1
 refine ⟨by simpa using h.len,h1,?_,fun e=>h3 ((ha _ hmem).trans e)⟩
 have:=h.sz
 rw [count_set (by rw [h.len]; exact hk) hf]
 simp only
 omega
open Go Go.Ann Go.RowKit
structure Sp where
 done:List Nat
 st:List (List Int)
deriving DecidableEq
def opAt(P:List (List OpT))(d:List Nat)(k:Nat):Option OpT:=(P[k]?).bind fun p=>(d[k]?).bind fun n=>p[n]?
def mvP(P:List (List OpT))(obs:List Int)(s:Sp)(k:Nat):Option (Int × Sp):=match opAt P s.done k with
 | none=>none
 | some o=>match stepP (s.st.getD (obs.idxOf o.Object) []) o with
  | none=>none
  | some t=>some (o.ID,⟨s.done.set k (s.done.getD k 0+1),s.st.set (obs.idxOf o.Object) t⟩)
def mvsP(P:List (List OpT))(obs:List Int)(s:Sp):List (Int × Sp):=(List.range P.length).filterMap (mvP P obs s)
def endsP(P:List (List OpT))(d:List Nat):Bool:=(List.range P.length).all fun k=>((P.getD k []).drop (d.getD k 0)).all fun o=>!o.Done
def remP:List (List OpT)→List Nat→Nat
 | p::P,n::d=>(p.length - n)+remP P d
 | _,_=>0
theorem remP_set:∀ {P:List (List OpT)} {d:List Nat} {k:Nat} {o:OpT},opAt P d k=some o→remP P (d.set k (d.getD k 0+1))+1=remP P d
 | [],_,_,_,h=>by simp [opAt] at h
 | p::P,[],k,_,h=>by
  unfold opAt at h
  cases k <;> simp at h
 | p::P,n::d,0,o,h=>by
  unfold opAt at h
  simp only [List.getElem?_cons_zero,Option.bind_some] at h
  have:=(List.getElem?_eq_some_iff.1 h).choose
  simp only [List.set_cons_zero,List.getD_cons_zero,remP]
  omega
 | p::P,n::d,k+1,o,h=>by
  have:=remP_set (P:=P) (d:=d) (k:=k) (o:=o) (by unfold opAt at h ⊢; simpa using h)
  simp only [List.set_cons_succ,List.getD_cons_succ,remP]
  omega
theorem mvP_rem{P:List (List OpT)}{obs:List Int}{s:Sp}{k:Nat}{m:Int × Sp}(h:mvP P obs s k=some m):remP P m.2.done+1=remP P s.done:=by
 unfold mvP at h
 split at h
 ·cases h
 ·rename_i o ho
  split at h
  ·cases h
  ·cases h
   exact remP_set ho
theorem mv_count:∀ (P:List (List OpT)) (d:List Nat),((List.range P.length).filter fun k=>(opAt P d k).isSome).length≤remP P d
 | [],d=>by simp
 | p::P,[]=>by
  have:((List.range (p::P).length).filter fun k=>(opAt (p::P) [] k).isSome)=[]:=List.filter_eq_nil_iff.2 fun k _=>by
   unfold opAt
   cases (p::P)[k]? <;> simp
  rw [this]
  exact Nat.zero_le _
 | p::P,n::d=>by
  have ih:=mv_count P d
  rw [List.length_cons,List.range_succ_eq_map,List.filter_cons]
  have e:∀ k,opAt (p::P) (n::d) (k+1)=opAt P d k:=fun k=>by unfold opAt; simp
  have e0:opAt (p::P) (n::d) 0=p[n]?:=by unfold opAt; simp
  have e2:((List.range P.length).map Nat.succ).filter (fun k=>(opAt (p::P) (n::d) k).isSome)=((List.range P.length).filter fun k=>(opAt P d k).isSome).map Nat.succ:=by
   rw [List.filter_map]
   congr 1
  rw [e2,e0]
  simp only [remP]
  split
  ·rename_i h
   have:=(List.getElem?_eq_some_iff.1 (Option.eq_some_of_isSome h)).choose
   rw [List.length_cons,List.length_map]
   omega
  ·rw [List.length_map]
   omega
theorem filterMap_len{α β:Type}(f:α→Option β)(g:α→Bool)(h:∀ a b,f a=some b→g a=true):∀ l:List α,(l.filterMap f).length≤(l.filter g).length
 | []=>Nat.le_refl _
 | a::l=>by
  have ih:=filterMap_len f g h l
  rw [List.filterMap_cons,List.filter_cons]
  cases e:f a with
  | none =>
   simp only
   split
   ·rw [List.length_cons]; omega
   ·exact ih
  | some b =>
   simp only
   rw [if_pos (h a b e),List.length_cons,List.length_cons]
   omega
theorem mvs_len(P:List (List OpT))(obs:List Int)(s:Sp):(mvsP P obs s).length≤remP P s.done:=by
 refine Nat.le_trans (filterMap_len _ (fun k=>(opAt P s.done k).isSome) (fun k m h=>?_) _) (mv_count P s.done)
 unfold mvP at h
 split at h
 ·cases h
 ·rename_i o ho
  rw [ho]; rfl
theorem mvs_rem{P:List (List OpT)}{obs:List Int}{s:Sp}{m:Int × Sp}(h:m∈mvsP P obs s):remP P m.2.done+1=remP P s.done:=by
 obtain ⟨k,_,hk⟩:=List.mem_filterMap.1 h
 exact mvP_rem hk
def addW(L:List Sp)(s:Sp):List Sp:=if s∈L then L else L++[s]
def roundW(P:List (List OpT))(obs:List Int)(L:List Sp)(s:Sp):List Sp:=(mvsP P obs s).foldl (fun L m=>addW L m.2) L
inductive BfsR(P:List (List OpT))(obs:List Int)(most:Int):List Sp→Nat→List Sp→Prop
 | full {L:List Sp} {i:Nat} (h:most<L.length):BfsR P obs most L i L
 | last {L:List Sp} {i:Nat} (h:L.length≤i):BfsR P obs most L i L
 | go {L r:List Sp} {i:Nat} (h:i<L.length) (hm:¬ most<L.length) (k:BfsR P obs most (roundW P obs L L[i]) (i+1) r):BfsR P obs most L i r
theorem addAll:∀ (ms:List (Int × Sp)) (L:List Sp),∃ t,ms.foldl (fun L m=>addW L m.2) L=L++t∧t.length≤ms.length∧∀ x∈t,∃ m∈ms,x=m.2
 | [],L=>⟨[],by simp,by simp,fun x hx=>by cases hx⟩
 | m::ms,L=>by
  obtain ⟨t,h1,h2,h3⟩:=addAll ms (addW L m.2)
  obtain ⟨t1,h4,h5⟩:∃ t1,addW L m.2=L++t1∧t1.length≤1∧∀ x∈t1,x=m.2:=by
   unfold addW
   split
   ·exact ⟨[],by simp,by simp,fun x hx=>by cases hx⟩
   ·exact ⟨[m.2],rfl,by simp,fun x hx=>by simpa using hx⟩
  refine ⟨t1++t,?_,?_,fun x hx=>?_⟩
  ·rw [List.foldl_cons,h1,h4,List.append_assoc]
  ·rw [List.length_append,List.length_cons]; omega
  ·rcases List.mem_append.1 hx with hx | hx
   ·exact ⟨m,List.mem_cons_self,h5.2 x hx⟩
   ·obtain ⟨m',hm,e⟩:=h3 x hx
    exact ⟨m',List.mem_cons_of_mem _ hm,e⟩
theorem roundW_out(P:List (List OpT))(obs:List Int)(L:List Sp)(s:Sp):∃ t,roundW P obs L s=L++t∧t.length≤remP P s.done∧∀ x∈t,remP P x.done+1=remP P s.done:=by
 obtain ⟨t,h1,h2,h3⟩:=addAll (mvsP P obs s) L
 exact ⟨t,h1,Nat.le_trans h2 (mvs_len P obs s),fun x hx=>by
  obtain ⟨m,hm,rfl⟩:=h3 x hx
  exact mvs_rem hm⟩
theorem BfsR.one{P:List (List OpT)}{obs:List Int}{most:Int}{L r r':List Sp}{i:Nat}(h:BfsR P obs most L i r)(k:BfsR P obs most L i r'):r=r':=by
 induction h with
 | full h =>
  cases k with
  | full=>rfl
  | last=>rfl
  | go _ hm=>exact absurd h hm
 | last h =>
  cases k with
  | full=>rfl
  | last=>rfl
  | go h'=>omega
 | go h hm _ ih =>
  cases k with
  | full h'=>exact absurd h' hm
  | last h'=>omega
  | go _ _ k'=>exact ih k'
open Go Go.Ann Go.RowKit
def lessP:List Int→List Int→Bool
 | [],b=>!b.isEmpty
 | _::_,[]=>false
 | x::a,y::b=>if x=y then lessP a b else decide (x<y)
theorem lessP_irr:∀ a:List Int,lessP a a=false
 | []=>rfl
 | x::a=>by rw [lessP,if_pos rfl]; exact lessP_irr a
theorem lessP_nil(b:List Int):lessP b []=false:=by cases b <;> rfl
theorem lessP_trans:∀ {a b c:List Int},lessP a b=true→lessP b c=true→lessP a c=true
 | [],b,[],h1,h2=>by rw [lessP_nil] at h2; cases h2
 | [],b,z::c,h1,h2=>rfl
 | x::a,[],c,h1,h2=>by cases h1
 | x::a,y::b,[],h1,h2=>by cases h2
 | x::a,y::b,z::c,h1,h2=>by
  rw [lessP] at h1 h2 ⊢
  by_cases e1:x=y
  ·subst e1
   rw [if_pos rfl] at h1
   by_cases e2:x=z
   ·subst e2
    rw [if_pos rfl] at h2 ⊢
    exact lessP_trans h1 h2
   ·rw [if_neg e2] at h2 ⊢
    exact h2
  ·rw [if_neg e1] at h1
   have h1':=of_decide_eq_true h1
   by_cases e2:y=z
   ·subst e2
    rw [if_neg e1]
    exact h1
   ·rw [if_neg e2] at h2
    have h2':=of_decide_eq_true h2
    rw [if_neg (by omega)]
    exact decide_eq_true (by omega)
theorem lessP_tri:∀ {a b:List Int},lessP a b=false→lessP b a=false→a=b
 | [],[],_,_=>rfl
 | [],y::b,h1,_=>by cases h1
 | x::a,[],_,h2=>by cases h2
 | x::a,y::b,h1,h2=>by
  rw [lessP] at h1 h2
  by_cases e:x=y
  ·subst e
   rw [if_pos rfl] at h1 h2
   rw [lessP_tri h1 h2]
  ·rw [if_neg e] at h1
   rw [if_neg (fun h=>e h.symm)] at h2
   have h1':=of_decide_eq_false h1
   have h2':=of_decide_eq_false h2
   omega
theorem lessP_asym{a b:List Int}(h:lessP a b=true):lessP b a=false:=by
 cases e:lessP b a
 ·rfl
 ·have:=lessP_trans h e
  rw [lessP_irr] at this
  cases this
def lesser:Option (List Int)→Option (List Int)→Option (List Int)
 | none,b=>b
 | some a,none=>some a
 | some a,some b=>if lessP b a then some b else some a
def bestM(P:List (List OpT))(obs:List Int):Nat→Sp→Option (List Int)
 | 0,s=>if endsP P s.done then some [] else none
 | n+1,s=>if endsP P s.done then some [] else ((mvsP P obs s).map fun m=>(bestM P obs n m.2).map (m.1::·)).foldl lesser none
inductive PathR(P:List (List OpT))(obs:List Int):Sp→List Int→Prop
 | nil {s:Sp} (h:endsP P s.done=true):PathR P obs s []
 | cons {s:Sp} {m:Int × Sp} {ids:List Int} (h:m∈mvsP P obs s) (k:PathR P obs m.2 ids):PathR P obs s (m.1::ids)
theorem lesser_some{a b:Option (List Int)}{x:List Int}(h:lesser a b=some x):a=some x∨b=some x:=by
 cases a with
 | none=>exact .inr h
 | some a =>
  cases b with
  | none=>exact .inl h
  | some b =>
   simp only [lesser] at h
   split at h
   ·exact .inr h
   ·exact .inl h
theorem lesser_le{a b:Option (List Int)}{x:List Int}(h:lesser a b=some x):(∀ y,a=some y→lessP y x=false)∧∀ y,b=some y→lessP y x=false:=by
 cases a with
 | none =>
  have h':b=some x:=h
  subst h'
  refine ⟨fun y hy=>(by cases hy),fun y hy=>?_⟩
  cases hy
  exact lessP_irr _
 | some a =>
  cases b with
  | none =>
   cases h
   refine ⟨fun y hy=>?_,fun y hy=>(by cases hy)⟩
   cases hy
   exact lessP_irr _
  | some b =>
   simp only [lesser] at h
   split at h
   ·rename_i e
    cases h
    refine ⟨fun y hy=>?_,fun y hy=>?_⟩
    ·cases hy; exact lessP_asym e
    ·cases hy; exact lessP_irr _
   ·rename_i e
    cases h
    refine ⟨fun y hy=>?_,fun y hy=>?_⟩
    ·cases hy; exact lessP_irr _
    ·cases hy; simpa using e
theorem less_le_trans{a b c:List Int}(h:lessP b a=false)(k:lessP c b=false):lessP c a=false:=by
 cases e:lessP c a
 ·rfl
 ·cases e2:lessP a b
  ·have:=lessP_tri e2 h
   subst this
   rw [k] at e
   cases e
  ·have:=lessP_trans e e2
   rw [k] at this
   cases this
theorem fold_lesser':∀ (l:List (Option (List Int))) (b:Option (List Int)),(∀ x,l.foldl lesser b=some x→(b=some x∨some x∈l)∧(∀ y,b=some y→lessP y x=false)∧∀ y,some y∈l→lessP y x=false)∧(l.foldl lesser b=none→b=none∧∀ y,some y ∉ l)
 | [],b=>by
  refine ⟨fun x h=>⟨.inl h,fun y hy=>?_,fun y hy=>?_⟩,fun h=>⟨h,fun y hy=>?_⟩⟩
  ·have h':b=some x:=h
   rw [h'] at hy
   cases hy
   exact lessP_irr _
  ·cases hy
  ·cases hy
 | a::l,b=>by
  obtain ⟨f1,f2⟩:=fold_lesser' l (lesser b a)
  rw [List.foldl_cons]
  refine ⟨fun x h=>?_,fun h=>?_⟩
  ·obtain ⟨g1,g2,g3⟩:=f1 x h
   have key:∀ {y},b=some y∨a=some y→lessP y x=false:=fun {y} hy=>by
    cases e:lesser b a with
    | none =>
     exfalso
     cases b with
     | none =>
      have e':a=none:=e
      rcases hy with hy | hy
      ·cases hy
      ·rw [e'] at hy; cases hy
     | some b =>
      cases a with
      | none=>cases e
      | some a=>simp only [lesser] at e; split at e <;> cases e
    | some z =>
     obtain ⟨k1,k2⟩:=lesser_le e
     refine less_le_trans (g2 z e) ?_
     rcases hy with hy | hy
     ·exact k1 y hy
     ·exact k2 y hy
   refine ⟨?_,fun y hy=>key (.inl hy),fun y hy=>?_⟩
   ·rcases g1 with g1 | g1
    ·rcases lesser_some g1 with h1 | h1
     ·exact .inl h1
     ·exact .inr (by rw [h1]; exact List.mem_cons_self)
    ·exact .inr (List.mem_cons_of_mem _ g1)
   ·rcases List.mem_cons.1 hy with hy | hy
    ·exact key (.inr hy.symm)
    ·exact g3 y hy
  ·obtain ⟨g1,g2⟩:=f2 h
   have hb:b=none∧a=none:=by
    cases b with
    | none=>exact ⟨rfl,g1⟩
    | some b =>
     cases a with
     | none=>cases g1
     | some a=>simp only [lesser] at g1; split at g1 <;> cases g1
   refine ⟨hb.1,fun y hy=>?_⟩
   rcases List.mem_cons.1 hy with hy | hy
   ·rw [hb.2] at hy; cases hy
   ·exact g2 y hy
theorem fold_lesser{l:List (Option (List Int))}:(∀ x,l.foldl lesser none=some x→some x∈l∧∀ y,some y∈l→lessP y x=false)∧(l.foldl lesser none=none→∀ y,some y ∉ l):=by
 obtain ⟨f1,f2⟩:=fold_lesser' l none
 refine ⟨fun x h=>?_,fun h=>(f2 h).2⟩
 obtain ⟨g1,_,g3⟩:=f1 x h
 exact ⟨g1.resolve_left (fun h=>by cases h),g3⟩
theorem best_path{P:List (List OpT)}{obs:List Int}:∀ {n:Nat} {s:Sp},remP P s.done≤n→(∀ x,bestM P obs n s=some x→PathR P obs s x∧∀ y,PathR P obs s y→lessP y x=false)∧(bestM P obs n s=none→∀ y,¬ PathR P obs s y)
 | n,s,hn=>by
  by_cases he:endsP P s.done=true
  ·have e:bestM P obs n s=some []:=by cases n <;> rw [bestM,if_pos he]
   rw [e]
   refine ⟨fun x h=>?_,fun h=>(by cases h)⟩
   cases h
   exact ⟨.nil he,fun y _=>lessP_nil y⟩
  ·cases n with
   | zero =>
    rw [bestM,if_neg he]
    refine ⟨fun x h=>(by cases h),fun _ y h=>?_⟩
    cases h with
    | nil h=>exact he h
    | cons h k=>have:=mvs_rem h; omega
   | succ n =>
    rw [bestM,if_neg he]
    obtain ⟨f1,f2⟩:=fold_lesser (l:=(mvsP P obs s).map fun m=>(bestM P obs n m.2).map (m.1::·))
    have ih:∀ m∈mvsP P obs s,_:=fun m hm=>best_path (P:=P) (obs:=obs) (n:=n) (s:=m.2) (by have:=mvs_rem hm; omega)
    refine ⟨fun x h=>?_,fun h y hy=>?_⟩
    ·obtain ⟨g1,g2⟩:=f1 x h
     obtain ⟨m,hm,e⟩:=List.mem_map.1 g1
     obtain ⟨z,hz,rfl⟩:=Option.map_eq_some_iff.1 e
     refine ⟨.cons hm ((ih m hm).1 z hz).1,fun y hy=>?_⟩
     cases hy with
     | nil h=>exact absurd h he
     | cons hm' k =>
      rename_i m' ids
      cases e':bestM P obs n m'.2 with
      | none=>exact absurd k ((ih m' hm').2 e' ids)
      | some z' =>
       have h1:=((ih m' hm').1 z' e').2 ids k
       have h2:=g2 (m'.1::z') (List.mem_map.2 ⟨m',hm',by rw [e']; rfl⟩)
       cases e3:lessP (m'.1::ids) (m.1::z)
       ·rfl
       ·exfalso
        cases e4:lessP (m.1::z) (m'.1::z')
        ·have e5:=lessP_tri h2 e4
         rw [← e5,lessP,if_pos rfl,h1] at e3
         cases e3
        ·have e5:=lessP_trans e3 e4
         rw [lessP,if_pos rfl,h1] at e5
         cases e5
    ·cases hy with
     | nil h=>exact he h
     | cons hm' k =>
      rename_i m' ids
      cases e':bestM P obs n m'.2 with
      | none=>exact (ih m' hm').2 e' ids k
      | some z'=>exact f2 h (m'.1::z') (List.mem_map.2 ⟨m',hm',by rw [e']; rfl⟩)
open Go Go.Ann Go.RowKit
theorem best_ends{P:List (List OpT)}{obs:List Int}{n:Nat}{s:Sp}(h:endsP P s.done=true):bestM P obs n s=some []:=by cases n <;> rw [bestM,if_pos h]
theorem best_fuel{P:List (List OpT)}{obs:List Int}:∀ {n m:Nat} {s:Sp},remP P s.done≤n→remP P s.done≤m→bestM P obs n s=bestM P obs m s
 | n,m,s,hn,hm=>by
  by_cases he:endsP P s.done=true
  ·rw [best_ends he,best_ends he]
  ·have nomv:remP P s.done=0→mvsP P obs s=[]:=fun h=>List.eq_nil_of_length_eq_zero (by have:=mvs_len P obs s; omega)
   cases n with
   | zero =>
    have h0:=nomv (by omega)
    cases m with
    | zero=>rfl
    | succ m=>rw [bestM,bestM,if_neg he,if_neg he,h0]; rfl
   | succ n =>
    cases m with
    | zero=>rw [bestM,bestM,if_neg he,if_neg he,nomv (by omega)]; rfl
    | succ m =>
     rw [bestM,bestM,if_neg he,if_neg he]
     congr 1
     refine List.map_congr_left fun x hx=>?_
     have:=mvs_rem hx
     rw [best_fuel (n:=n) (m:=m) (by omega) (by omega)]
def bestS(P:List (List OpT))(obs:List Int)(s:Sp):Option (List Int):=bestM P obs (remP P s.done) s
theorem bestS_eq{P:List (List OpT)}{obs:List Int}{n:Nat}{s:Sp}(h:remP P s.done≤n):bestM P obs n s=bestS P obs s:=best_fuel h (Nat.le_refl _)
theorem bestS_ends{P:List (List OpT)}{obs:List Int}{s:Sp}(h:endsP P s.done=true):bestS P obs s=some []:=best_ends h
theorem bestS_step{P:List (List OpT)}{obs:List Int}{s:Sp}(h:¬ endsP P s.done=true):bestS P obs s=((mvsP P obs s).map fun m=>(bestS P obs m.2).map (m.1::·)).foldl lesser none:=by
 rw [← bestS_eq (Nat.le_succ (remP P s.done)),bestM,if_neg h]
 congr 1
 refine List.map_congr_left fun x hx=>?_
 have:=mvs_rem hx
 rw [bestS_eq (by omega)]
theorem good_step{P:List (List OpT)}{obs:List Int}{s:Sp}:(bestS P obs s).isSome=(endsP P s.done || (mvsP P obs s).any fun m=>(bestS P obs m.2).isSome):=by
 by_cases he:endsP P s.done=true
 ·rw [bestS_ends he,he]; rfl
 ·rw [bestS_step he]
  obtain ⟨f1,f2⟩:=fold_lesser (l:=(mvsP P obs s).map fun m=>(bestS P obs m.2).map (m.1::·))
  have he':endsP P s.done=false:=by simpa using he
  rw [he',Bool.false_or]
  cases e:((mvsP P obs s).map fun m=>(bestS P obs m.2).map (m.1::·)).foldl lesser none with
  | none =>
   refine (List.any_eq_false.2 fun m hm h=>?_).symm
   obtain ⟨z,hz⟩:=Option.isSome_iff_exists.1 h
   exact f2 e (m.1::z) (List.mem_map.2 ⟨m,hm,by rw [hz]; rfl⟩)
  | some x =>
   obtain ⟨g1,_⟩:=f1 x e
   obtain ⟨m,hm,h⟩:=List.mem_map.1 g1
   obtain ⟨z,hz,_⟩:=Option.map_eq_some_iff.1 h
   exact (List.any_eq_true.2 ⟨m,hm,by rw [hz]; rfl⟩).symm
theorem best_first{P:List (List OpT)}{obs:List Int}{s:Sp}{y:List Int}(he:¬ endsP P s.done=true)(h:bestS P obs s=some y):∃ m∈mvsP P obs s,∃ z,y=m.1::z∧bestS P obs m.2=some z∧∀ m'∈mvsP P obs s,(bestS P obs m'.2).isSome=true→m.1≤m'.1:=by
 rw [bestS_step he] at h
 obtain ⟨g1,g2⟩:=(fold_lesser (l:=(mvsP P obs s).map fun m=>(bestS P obs m.2).map (m.1::·))).1 y h
 obtain ⟨m,hm,h1⟩:=List.mem_map.1 g1
 obtain ⟨z,hz,rfl⟩:=Option.map_eq_some_iff.1 h1
 refine ⟨m,hm,z,rfl,hz,fun m' hm' hs=>?_⟩
 obtain ⟨z',hz'⟩:=Option.isSome_iff_exists.1 hs
 have:=g2 (m'.1::z') (List.mem_map.2 ⟨m',hm',by rw [hz']; rfl⟩)
 rw [lessP] at this
 by_cases e:m'.1=m.1
 ·omega
 ·rw [if_neg e] at this
  have:=of_decide_eq_false this
  omega
open Go Go.Ann Go.RowKit
def isOp(P:List (List OpT))(d:List Nat)(id:Int)(k:Nat):Bool:=match opAt P d k with
 | some o=>decide (o.ID=id)
 | none=>false
def kOf(P:List (List OpT))(d:List Nat)(id:Int):Option Nat:=(List.range P.length).find? (isOp P d id)
def validP(P:List (List OpT))(obs:List Int):Sp→List Int→Bool
 | s,[]=>endsP P s.done
 | s,id::r=>match kOf P s.done id with
  | none=>false
  | some k=>match mvP P obs s k with
   | none=>false
   | some m=>validP P obs m.2 r
theorem mvP_op{P:List (List OpT)}{obs:List Int}{s:Sp}{k:Nat}{m:Int × Sp}(h:mvP P obs s k=some m):∃ o,opAt P s.done k=some o∧m.1=o.ID:=by
 unfold mvP at h
 split at h
 ·cases h
 ·rename_i o ho
  split at h
  ·cases h
  ·cases h
   exact ⟨o,ho,rfl⟩
theorem opAt_lt{P:List (List OpT)}{d:List Nat}{k:Nat}{o:OpT}(h:opAt P d k=some o):k<P.length:=by
 unfold opAt at h
 cases e:P[k]? with
 | none=>rw [e] at h; cases h
 | some p=>exact (List.getElem?_eq_some_iff.1 e).choose
theorem kOf_some{P:List (List OpT)}{d:List Nat}{id:Int}{k:Nat}(h:kOf P d id=some k):∃ o,opAt P d k=some o∧o.ID=id:=by
 have:=List.find?_some h
 unfold isOp at this
 split at this
 ·rename_i o ho
  exact ⟨o,ho,by simpa using this⟩
 ·cases this
theorem kOf_of{P:List (List OpT)}{d:List Nat}{k:Nat}{o:OpT}(hd:∀ k k' o o',opAt P d k=some o→opAt P d k'=some o'→o.ID=o'.ID→k=k')(h:opAt P d k=some o):kOf P d o.ID=some k:=by
 cases e:kOf P d o.ID with
 | none =>
  have:=List.find?_eq_none.1 e k (List.mem_range.2 (opAt_lt h))
  unfold isOp at this
  rw [h] at this
  simp at this
 | some k' =>
  obtain ⟨o',h1,h2⟩:=kOf_some e
  rw [hd k' k o' o h1 h h2]
theorem validP_path{P:List (List OpT)}{obs:List Int}(hd:∀ d k k' o o',opAt P d k=some o→opAt P d k'=some o'→o.ID=o'.ID→k=k'):∀ {ids:List Int} {s:Sp},validP P obs s ids=true↔PathR P obs s ids
 | [],s=>by
  rw [validP]
  exact ⟨fun h=>.nil h,fun h=>by cases h; assumption⟩
 | id::r,s=>by
  rw [validP]
  constructor
  ·intro h
   split at h
   ·cases h
   ·rename_i k hk
    split at h
    ·cases h
    ·rename_i m hm
     obtain ⟨o,h1,h2⟩:=mvP_op hm
     obtain ⟨o',h3,h4⟩:=kOf_some hk
     rw [h1] at h3
     cases h3
     have e:id=m.1:=by rw [h2,h4]
     rw [e]
     exact .cons (List.mem_filterMap.2 ⟨k,List.mem_range.2 (opAt_lt h1),hm⟩) ((validP_path hd).1 h)
  ·intro h
   cases h with
   | cons hm k =>
    rename_i m
    obtain ⟨i,hi,hmi⟩:=List.mem_filterMap.1 hm
    obtain ⟨o,h1,h2⟩:=mvP_op hmi
    have e:=kOf_of (hd s.done) h1
    rw [h2,e]
    simp only [hmi]
    exact (validP_path hd).2 k
theorem bestS_valid{P:List (List OpT)}{obs:List Int}(hd:∀ d k k' o o',opAt P d k=some o→opAt P d k'=some o'→o.ID=o'.ID→k=k'){s:Sp}:(∀ x,bestS P obs s=some x→validP P obs s x=true∧∀ y,validP P obs s y=true→lessP y x=false)∧(bestS P obs s=none→∀ y,validP P obs s y=false):=by
 obtain ⟨h1,h2⟩:=best_path (P:=P) (obs:=obs) (n:=remP P s.done) (s:=s) (Nat.le_refl _)
 refine ⟨fun x hx=>⟨(validP_path hd).2 (h1 x hx).1,fun y hy=>(h1 x hx).2 y ((validP_path hd).1 hy)⟩,fun hx y=>?_⟩
 cases e:validP P obs s y
 ·rfl
 ·exact absurd ((validP_path hd).1 e) (h2 hx y)
open Go Go.Ann Go.RowKit
theorem txt_cut{l m:List Int}{a b:List UInt8}(hl:OkS l)(hm:OkS m)(h:txt l++a=txt m++b):l=m∧a=b:=by
 unfold txt at h
 rw [List.append_assoc,List.append_assoc] at h
 have h1:=hl.2
 have h2:=hm.2
 obtain ⟨hlen,k⟩:=varL_cut (by omega) (by omega) h
 have hl':=hl.1
 have hm':=hm.1
 clear h h1 h2 hl hm
 induction l generalizing m with
 | nil =>
  simp at hlen
  obtain rfl:=List.eq_nil_of_length_eq_zero hlen.symm
  exact ⟨rfl,k⟩
 | cons x l ih =>
  cases m with
  | nil=>simp at hlen
  | cons y m =>
   rw [List.flatMap_cons,List.flatMap_cons,List.append_assoc,List.append_assoc] at k
   obtain ⟨e,r⟩:=varL_cut (foldN_lt _ (hl' x (by simp))) (foldN_lt _ (hm' y (by simp))) k
   obtain ⟨e2,r2⟩:=ih (by simpa using hlen) r (fun n hn=>hl' n (List.mem_cons_of_mem _ hn)) fun n hn=>hm' n (List.mem_cons_of_mem _ hn)
   exact ⟨by rw [foldN_inj e,e2],r2⟩
theorem txts_inj:∀ {a b:List (List Int)},(∀ x∈a,OkS x)→(∀ x∈b,OkS x)→a.length=b.length→a.flatMap txt=b.flatMap txt→a=b
 | [],[],_,_,_,_=>rfl
 | [],_::_,_,_,h,_=>by simp at h
 | _::_,[],_,_,h,_=>by simp at h
 | x::a,y::b,ha,hb,hl,h=>by
  rw [List.flatMap_cons,List.flatMap_cons] at h
  obtain ⟨e,r⟩:=txt_cut (ha x (by simp)) (hb y (by simp)) h
  rw [e,txts_inj (fun z hz=>ha z (List.mem_cons_of_mem _ hz)) (fun z hz=>hb z (List.mem_cons_of_mem _ hz)) (by simpa using hl) r]
def spT(s:Sp):List UInt8:=s.done.map u8++s.st.flatMap txt
structure OkSp(p q:Nat)(s:Sp):Prop where
 dl:s.done.length=p
 sl:s.st.length=q
 small:∀ n∈s.done,n<256
 ok:∀ x∈s.st,OkS x
theorem u8_inj:∀ {a b:List Nat},(∀ n∈a,n<256)→(∀ n∈b,n<256)→a.map u8=b.map u8→a=b
 | [],[],_,_,_=>rfl
 | [],_::_,_,_,h=>by simp at h
 | _::_,[],_,_,h=>by simp at h
 | x::a,y::b,ha,hb,h=>by
  rw [List.map_cons,List.map_cons,List.cons.injEq] at h
  have e:=congrArg UInt8.toNat h.1
  have:=ha x (by simp)
  have:=hb y (by simp)
  simp [u8] at e
  rw [u8_inj (fun z hz=>ha z (List.mem_cons_of_mem _ hz)) (fun z hz=>hb z (List.mem_cons_of_mem _ hz)) h.2]
  congr 1
  omega
theorem spT_inj{p q:Nat}{a b:Sp}(ha:OkSp p q a)(hb:OkSp p q b)(h:spT a=spT b):a=b:=by
 unfold spT at h
 have hl:(a.done.map u8).length=(b.done.map u8).length:=by rw [List.length_map,List.length_map,ha.dl,hb.dl]
 obtain ⟨h1,h2⟩:=List.append_inj h hl
 have e1:=u8_inj ha.small hb.small h1
 have e2:=txts_inj ha.ok hb.ok (by rw [ha.sl,hb.sl]) h2
 cases a
 cases b
 simp only at e1 e2
 rw [e1,e2]
open Go Go.Ann Go.RowKit
def runP:List Int→List OpT→Option (List Int)
 | s,[]=>some s
 | s,o::r=>match stepP s o with
  | none=>none
  | some t=>runP t r
theorem getD_set_ne{α:Type}{l:List α}{i j:Nat}{a d:α}(h:i≠j):(l.set i a).getD j d=l.getD j d:=by
 rw [List.getD_eq_getElem?_getD,List.getD_eq_getElem?_getD,List.getElem?_set_ne h]
theorem getD_set_eq{α:Type}{l:List α}{i:Nat}{a d:α}(h:i<l.length):(l.set i a).getD i d=a:=by
 rw [List.getD_eq_getElem?_getD,List.getElem?_set_self h]
 rfl
theorem opAt_some{P:List (List OpT)}{d:List Nat}{k:Nat}{o:OpT}{r:List OpT}(hk:k<P.length)(hd:d.length=P.length)(h:(P.getD k []).drop (d.getD k 0)=o::r):opAt P d k=some o:=by
 unfold opAt
 rw [List.getElem?_eq_getElem hk,List.getElem?_eq_getElem (show k<d.length by omega)]
 have e1:P.getD k []=P[k]:=by rw [List.getD_eq_getElem?_getD,List.getElem?_eq_getElem hk]; rfl
 have e2:d.getD k 0=d[k]'(by omega):=by rw [List.getD_eq_getElem?_getD,List.getElem?_eq_getElem (show k<d.length by omega)]; rfl
 rw [e1,e2] at h
 simp only [Option.bind_some]
 have:=congrArg List.head? h
 rw [List.head?_drop] at this
 simpa using this
theorem drop_succ{l r:List OpT}{n:Nat}{o:OpT}(h:l.drop n=o::r):l.drop (n+1)=r:=by
 have:=congrArg (List.drop 1) h
 rw [List.drop_drop] at this
 simpa using this
theorem path_of{P:List (List OpT)}{obs:List Int}{pk:OpT→Nat}:∀ (G:List OpT) (s:Sp),s.done.length=P.length→s.st.length=obs.length→(∀ o∈G,pk o<P.length∧obs.idxOf o.Object<obs.length) →
  (∀ k,k<P.length→(G.filter fun o=>decide (pk o=k)) <+: (P.getD k []).drop (s.done.getD k 0)) →
  (∀ x,x<obs.length→(runP (s.st.getD x []) (G.filter fun o=>decide (obs.idxOf o.Object=x))).isSome=true) →
  (∀ k,k<P.length→∀ o∈((P.getD k []).drop (s.done.getD k 0)).drop (G.filter fun o=>decide (pk o=k)).length,o.Done=false)→PathR P obs s (G.map OpT.ID)
 | [],s,_,_,_,_,_,he=>by
  refine .nil ?_
  unfold endsP
  refine List.all_eq_true.2 fun k hk=>List.all_eq_true.2 fun o ho=>?_
  have:=he k (List.mem_range.1 hk) o (by simpa using ho)
  rw [this]
  rfl
 | o::G,s,hd,hs,hG,hp,hr,he=>by
  obtain ⟨h1,h2⟩:=hG o List.mem_cons_self
  have hp0:=hp (pk o) h1
  rw [List.filter_cons,if_pos (by simp)] at hp0
  obtain ⟨t,ht⟩:=hp0
  rw [List.cons_append] at ht
  have hop:=opAt_some h1 hd ht.symm
  have hr0:=hr _ h2
  rw [List.filter_cons,if_pos (by simp),runP] at hr0
  cases e:stepP (s.st.getD (obs.idxOf o.Object) []) o with
  | none=>rw [e] at hr0; cases hr0
  | some u =>
   rw [e] at hr0
   have hm:mvP P obs s (pk o)=some (o.ID,⟨s.done.set (pk o) (s.done.getD (pk o) 0+1),s.st.set (obs.idxOf o.Object) u⟩):=by
    unfold mvP
    rw [hop]
    simp only [e]
   rw [List.map_cons]
   refine .cons (m:=(o.ID,⟨s.done.set (pk o) (s.done.getD (pk o) 0+1),s.st.set (obs.idxOf o.Object) u⟩)) (List.mem_filterMap.2 ⟨pk o,List.mem_range.2 h1,hm⟩) ?_
   refine path_of G _ (by simp only [List.length_set]; exact hd) (by simp only [List.length_set]; exact hs) (fun x hx=>hG x (List.mem_cons_of_mem _ hx)) (fun k hk=>?_) (fun x hx=>?_) fun k hk x hx=>?_
   ·simp only
    by_cases e1:pk o=k
    ·subst e1
     rw [getD_set_eq (by omega),drop_succ ht.symm]
     exact ⟨t,rfl⟩
    ·rw [getD_set_ne e1]
     have:=hp k hk
     rwa [List.filter_cons,if_neg (by simpa using e1)] at this
   ·simp only
    by_cases e1:obs.idxOf o.Object=x
    ·subst e1
     rw [getD_set_eq (by omega)]
     exact hr0
    ·rw [getD_set_ne e1]
     have:=hr x hx
     rwa [List.filter_cons,if_neg (by simpa using e1)] at this
   ·simp only at hx
    have hx':=he k hk x
    by_cases e1:pk o=k
    ·subst e1
     rw [getD_set_eq (by omega),drop_succ ht.symm] at hx
     rw [List.filter_cons,if_pos (by simp),← ht,List.length_cons,List.drop_succ_cons] at hx'
     exact hx' hx
    ·rw [getD_set_ne e1] at hx
     rw [List.filter_cons,if_neg (by simpa using e1)] at hx'
     exact hx' hx
open Go Go.Ann Go.RowKit
def tauP:Int→List OpT→List (OpT × Int)
 | _,[]=>[]
 | m,o::r=>(o,max m o.Invoke)::tauP (max m o.Invoke) r
theorem tau_fst:∀ (A:List OpT) (m:Int),(tauP m A).map Prod.fst=A
 | [],_=>rfl
 | o::A,m=>by rw [tauP,List.map_cons,tau_fst A]
theorem tau_up:∀ (A:List OpT) (m:Int),(∀ p∈tauP m A,m≤p.2∧p.1.Invoke≤p.2)∧(tauP m A).Pairwise fun a b=>a.2≤b.2
 | [],_=>⟨fun p h=>(by cases h),List.Pairwise.nil⟩
 | o::A,m=>by
  obtain ⟨h1,h2⟩:=tau_up A (max m o.Invoke)
  rw [tauP]
  refine ⟨fun p hp=>?_,List.pairwise_cons.2 ⟨fun p hp=>(h1 p hp).1,h2⟩⟩
  rcases List.mem_cons.1 hp with rfl | hp
  ·simp only; omega
  ·have:=h1 p hp
   omega
theorem tau_ret:∀ (A:List OpT) (m:Int),(A.Pairwise fun a b=>before b a=false)→(∀ o∈A,o.Done=true→m≤o.Return∧o.Invoke≤o.Return)→∀ p∈tauP m A,p.1.Done=true→p.2≤p.1.Return
 | [],_,_,_,p,hp,_=>by cases hp
 | o::A,m,hb,hr,p,hp,hd=>by
  obtain ⟨hb1,hb2⟩:=List.pairwise_cons.1 hb
  rw [tauP] at hp
  rcases List.mem_cons.1 hp with rfl | hp
  ·have:=hr o List.mem_cons_self hd
   simp only
   omega
  ·refine tau_ret A _ hb2 (fun x hx hxd=>?_) p hp hd
   have h1:=hr x (List.mem_cons_of_mem _ hx) hxd
   have h2:=hb1 x hx
   unfold before at h2
   rw [hxd,Bool.true_and,decide_eq_false_iff_not] at h2
   exact ⟨by omega,h1.2⟩
theorem but_last{Q:List OpT}{c:OpT→Bool}:(Q.Pairwise fun a _=>c a=true)→(Q.filter c) <+: Q∧∀ o∈Q.drop (Q.filter c).length,c o=false:=by
 induction Q with
 | nil=>exact fun _=>⟨List.prefix_refl _,fun o h=>by simp at h⟩
 | cons a r ih =>
  intro h
  obtain ⟨h1,h2⟩:=List.pairwise_cons.1 h
  obtain ⟨h3,h4⟩:=ih h2
  rw [List.filter_cons]
  by_cases e:c a=true
  ·rw [if_pos e]
   exact ⟨(List.prefix_cons_inj a).2 h3,by simpa using h4⟩
  ·rw [if_neg e]
   cases r with
   | nil =>
    refine ⟨by simp,fun o ho=>?_⟩
    simp only [List.filter_nil,List.length_nil,List.drop_zero,List.mem_singleton] at ho
    subst ho
    simpa using e
   | cons b r=>exact absurd (h1 b List.mem_cons_self) e
theorem inv_eq{A B:List OpT}(ha:A.Pairwise fun a b=>a.Invoke<b.Invoke)(hb:B.Pairwise fun a b=>a.Invoke<b.Invoke)(h:∀ x,x∈A↔x∈B):A=B:=by
 have nd:∀ {L:List OpT},(L.Pairwise fun a b=>a.Invoke<b.Invoke)→L.Nodup:=fun h=>h.imp fun {a b} h e=>by rw [e] at h; omega
 exact List.Perm.eq_of_pairwise (fun x y _ _ h1 h2=>absurd h1 (by omega)) ha hb ((List.perm_ext_iff_of_nodup (nd ha) (nd hb)).2 h)
def mergeP(As:List (List OpT)):List (OpT × Int):=((As.map (tauP 0)).flatten).mergeSort fun a b=>decide (a.2≤b.2)
theorem merge_perm(As:List (List OpT)):((mergeP As).map Prod.fst).Perm As.flatten:=by
 have h:(mergeP As).Perm (As.map (tauP 0)).flatten:=List.mergeSort_perm _ _
 refine (h.map Prod.fst).trans ?_
 rw [List.map_flatten,List.map_map]
 have:(List.map Prod.fst ∘ tauP 0)=(id:List OpT→List OpT):=funext fun A=>tau_fst A 0
 rw [this,List.map_id]
theorem merge_up(As:List (List OpT)):(mergeP As).Pairwise fun a b=>a.2≤b.2:=by
 have:=List.pairwise_mergeSort (le:=fun a b:OpT × Int=>decide (a.2≤b.2)) (fun a b c h1 h2=>by simp only [decide_eq_true_eq] at *; omega) (fun a b=>by simp only [Bool.or_eq_true,decide_eq_true_eq]; omega) (As.map (tauP 0)).flatten
 exact this.imp fun h=>by simpa using h
theorem merge_mem{As:List (List OpT)}{p:OpT × Int}(h:p∈mergeP As):∃ A∈As,p∈tauP 0 A:=by
 have:=(List.mergeSort_perm (As.map (tauP 0)).flatten fun a b=>decide (a.2≤b.2)).mem_iff.1 h
 obtain ⟨T,hT,hp⟩:=List.mem_flatten.1 this
 obtain ⟨A,hA,rfl⟩:=List.mem_map.1 hT
 exact ⟨A,hA,hp⟩
theorem filter_parts{c:OpT→Bool}:∀ {As:List (List OpT)} {A:List OpT},A∈As→(As.Pairwise fun A B=>∀ a∈A,∀ b∈B,a.Object≠b.Object)→(∀ B∈As,∀ a∈B,∀ b∈B,a.Object=b.Object)→(∀ a∈A,c a=true)→(∀ b,c b=true→∃ a∈A,b.Object=a.Object)→(As.flatten.filter c)=A
 | [],_,h,_,_,_,_=>by cases h
 | B::As,A,h,hp,hs,h1,h2=>by
  obtain ⟨hp1,hp2⟩:=List.pairwise_cons.1 hp
  rw [List.flatten_cons,List.filter_append]
  rcases List.mem_cons.1 h with rfl | h
  ·have e1:A.filter c=A:=List.filter_eq_self.2 h1
   have e2:As.flatten.filter c=[]:=List.filter_eq_nil_iff.2 fun b hb hc=>by
    obtain ⟨B,hB,hbB⟩:=List.mem_flatten.1 hb
    obtain ⟨a,ha,e⟩:=h2 b hc
    exact hp1 B hB a ha b hbB e.symm
   rw [e1,e2,List.append_nil]
  ·have e1:B.filter c=[]:=List.filter_eq_nil_iff.2 fun b hb hc=>by
    obtain ⟨a,ha,e⟩:=h2 b hc
    exact hp1 A h b hb a ha e
   rw [e1,List.nil_append]
   exact filter_parts h hp2 (fun B hB=>hs B (List.mem_cons_of_mem _ hB)) h1 h2
theorem merge_obj{As:List (List OpT)}(hp:As.Pairwise fun A B=>∀ a∈A,∀ b∈B,a.Object≠b.Object)(hs:∀ B∈As,∀ a∈B,∀ b∈B,a.Object=b.Object){A:List OpT}(hA:A∈As){c:OpT→Bool}(h1:∀ a∈A,c a=true)(h2:∀ b,c b=true→∃ a∈A,b.Object=a.Object):((mergeP As).map Prod.fst).filter c=A:=by
 have hsub:(tauP 0 A).Sublist (mergeP As):=by
  refine List.sublist_mergeSort (fun a b c h1 h2=>by simp only [decide_eq_true_eq] at *; omega) (fun a b=>by simp only [Bool.or_eq_true,decide_eq_true_eq]; omega) ((tau_up A 0).2.imp fun h=>by simpa using h) ?_
  exact List.sublist_flatten_of_mem (List.mem_map_of_mem hA)
 have h3:A.Sublist (((mergeP As).map Prod.fst).filter c):=by
  have:=(hsub.map Prod.fst).filter c
  rw [tau_fst,List.filter_eq_self.2 h1] at this
  exact this
 refine (h3.eq_of_length ?_).symm
 have:=((merge_perm As).filter c).length_eq
 rw [this,filter_parts hA hp hs h1 h2]
theorem merge_path{P:List (List OpT)}{obs:List Int}{pk:OpT→Nat}{As:List (List OpT)}{L:List OpT}{st:List (List Int)}
  (hst:st.length=obs.length) (hA:∀ A∈As,A.Pairwise fun a b=>before b a=false) (hp:As.Pairwise fun A B=>∀ a∈A,∀ b∈B,a.Object≠b.Object) (hs:∀ B∈As,∀ a∈B,∀ b∈B,a.Object=b.Object)
  (hrun:∀ A∈As,∀ o∈A,(runP (st.getD (obs.idxOf o.Object) []) A).isSome=true) (hnd:As.flatten.Nodup) (hL:∀ o∈As.flatten,o∈L) (hdone:∀ o∈L,o.Done=true→o∈As.flatten)
  (htime:∀ o∈L,0≤o.Invoke∧(o.Done=true→o.Invoke<o.Return)) (hap:∀ a∈L,∀ b∈L,a≠b→pk a=pk b→before a b=true∨before b a=true)
  (hk:∀ o∈L,pk o<P.length∧obs.idxOf o.Object<obs.length) (hob:∀ a∈L,∀ b∈L,obs.idxOf a.Object=obs.idxOf b.Object→a.Object=b.Object)
  (hP:∀ k,k<P.length→((P.getD k []).Pairwise fun a b=>a.Invoke<b.Invoke)∧∀ o,o∈P.getD k []↔o∈L∧pk o=k) :
  PathR P obs ⟨List.replicate P.length 0,st⟩ (((mergeP As).map Prod.fst).map OpT.ID):=by
 have hperm:=merge_perm As
 have hmem:∀ o,o∈(mergeP As).map Prod.fst↔o∈As.flatten:=fun o=>hperm.mem_iff
 have hin:∀ o∈(mergeP As).map Prod.fst,o∈L:=fun o ho=>hL o ((hmem o).1 ho)
 have bef:∀ {a b:OpT},before a b=true→a.Done=true∧a.Return<b.Invoke:=fun h=>by
  unfold before at h
  rw [Bool.and_eq_true,decide_eq_true_eq] at h
  exact h
 -- a process's operations,as they stand
 have hinv:∀ k,(((mergeP As).map Prod.fst).filter fun o=>decide (pk o=k)).Pairwise fun a b=>a.Invoke<b.Invoke:=fun k=>by
  have nd:((mergeP As).map Prod.fst).Nodup:=hperm.nodup_iff.2 hnd
  have h1:((mergeP As).map Prod.fst).Pairwise fun a b=>pk a=pk b→a.Invoke<b.Invoke:=by
   unfold List.Nodup at nd
   rw [List.pairwise_map] at nd ⊢
   refine (nd.and (merge_up As)).imp_of_mem fun {p q} hp hq h e=>?_
   obtain ⟨hne,hle⟩:=h
   have hp1:=hin p.1 (List.mem_map_of_mem hp)
   have hq1:=hin q.1 (List.mem_map_of_mem hq)
   rcases hap p.1 hp1 q.1 hq1 hne e with h2 | h2
   ·obtain ⟨h3,h4⟩:=bef h2
    have:=(htime p.1 hp1).2 h3
    omega
   ·obtain ⟨h3,h4⟩:=bef h2
    obtain ⟨A,hA1,hpA⟩:=merge_mem hp
    obtain ⟨B,hB1,hqB⟩:=merge_mem hq
    have h5:=((tau_up A 0).1 p hpA).2
    have hBL:∀ o∈B,o∈L:=fun o ho=>hL o (List.mem_flatten.2 ⟨B,hB1,ho⟩)
    have h6:=tau_ret B 0 (hA B hB1) (fun o ho hd=>by have:=htime o (hBL o ho); have:=this.2 hd; omega) q hqB h3
    omega
  refine (h1.filter _).imp_of_mem fun {a b} ha hb h=>h ?_
  have h2:=(List.mem_filter.1 ha).2
  have h3:=(List.mem_filter.1 hb).2
  simp only [decide_eq_true_eq] at h2 h3
  rw [h2,h3]
 have hprog:∀ k,k<P.length→(((mergeP As).map Prod.fst).filter fun o=>decide (pk o=k))=(P.getD k []).filter fun o=>decide (o∈As.flatten):=fun k hk1=>by
  obtain ⟨h1,h2⟩:=hP k hk1
  refine inv_eq (hinv k) (h1.filter _) fun o=>?_
  rw [List.mem_filter,List.mem_filter,hmem,decide_eq_true_eq,decide_eq_true_eq,h2]
  exact ⟨fun h=>⟨⟨hL o h.1,h.2⟩,h.1⟩,fun h=>⟨h.2,h.1.2⟩⟩
 have hlast:∀ k,k<P.length→(P.getD k []).Pairwise fun a _=>decide (a∈As.flatten)=true:=fun k hk1=>by
  obtain ⟨h1,h2⟩:=hP k hk1
  refine h1.imp_of_mem fun {a b} ha hb h=>decide_eq_true ?_
  obtain ⟨a1,a2⟩:=(h2 a).1 ha
  obtain ⟨b1,b2⟩:=(h2 b).1 hb
  rcases hap a a1 b b1 (fun e=>by rw [e] at h; omega) (a2.trans b2.symm) with h3 | h3
  ·exact hdone a a1 (bef h3).1
  ·obtain ⟨h4,h5⟩:=bef h3
   have:=(htime b b1).2 h4
   omega
 have hrep:∀ k,(List.replicate P.length 0).getD k 0=0:=fun k=>by
  rw [List.getD_eq_getElem?_getD,List.getElem?_replicate]
  split <;> rfl
 refine path_of (pk:=pk) _ _ (by simp) hst (fun o ho=>hk o (hin o ho)) (fun k hk1=>?_) (fun x hx=>?_) fun k hk1 o ho=>?_
 ·simp only [hrep,List.drop_zero]
  rw [hprog k hk1]
  exact (but_last (hlast k hk1)).1
 ·by_cases e:∃ o∈As.flatten,obs.idxOf o.Object=x
  ·obtain ⟨o,ho,e⟩:=e
   obtain ⟨A,hA1,hoA⟩:=List.mem_flatten.1 ho
   have hall:∀ a∈A,decide (obs.idxOf a.Object=x)=true:=fun a ha=>decide_eq_true (by rw [hs A hA1 a ha o hoA,e])
   have:((mergeP As).map Prod.fst).filter (fun o=>decide (obs.idxOf o.Object=x))=A:=by
    have h1:=merge_obj hp hs hA1 (c:=fun b=>decide (b.Object=o.Object)) (fun a ha=>decide_eq_true (hs A hA1 a ha o hoA)) fun b hb=>⟨o,hoA,by simpa using hb⟩
    rw [← h1]
    refine List.filter_congr fun b hb=>?_
    rw [Bool.eq_iff_iff,decide_eq_true_eq,decide_eq_true_eq]
    exact ⟨fun h=>hob b (hin b hb) o (hL o ho) (h.trans e.symm),fun h=>by rw [h,e]⟩
   rw [this,← e]
   exact hrun A hA1 o hoA
  ·have:((mergeP As).map Prod.fst).filter (fun o=>decide (obs.idxOf o.Object=x))=[]:=List.filter_eq_nil_iff.2 fun o ho h=>e ⟨o,(hmem o).1 ho,by simpa using h⟩
   rw [this]
   rfl
 ·simp only [hrep,List.drop_zero] at ho
  rw [hprog k hk1] at ho
  have h1:=(but_last (hlast k hk1)).2 o ho
  have h2:=((hP k hk1).2 o).1 (List.mem_of_mem_drop ho)
  cases e:o.Done
  ·rfl
  ·have:=decide_eq_false_iff_not.1 h1
   exact absurd (hdone o h2.1 e) this
open Go Go.Ann Go.RowKit
theorem own_mono{w:World}{B B' e sz n:Nat}{v:Value}{xs:List Value}(h:w.ownsRow B e sz v n xs)(hb:B'≤B):w.ownsRow B' e sz v n xs:=by
 refine ⟨h.1,?_⟩
 rcases h.2 with h | ⟨g,c,cur,e1,hg,h2⟩
 ·exact .inl h
 ·exact .inr ⟨g,c,cur,e1,Nat.le_trans hb hg,h2⟩
theorem res_mono{w:World}{B B':Nat}{r:Res}(h:r.ok w B)(hb:B'≤B):r.ok w B':=by
 cases r with
 | blk b cs t=>exact ⟨h.1,Nat.le_trans hb h.2⟩
 | row v e sz n xs=>exact own_mono h hb
 | obj b o=>exact ⟨h.1,Nat.le_trans hb h.2⟩
theorem St.join{W0 w w':World}{F:Nat→Prop}{L L':List Res}{I:List Inv}(h:St W0 w F L I)(k:St w w' (fun _=>False) L' []):St W0 w' F (L'++L) I:=by
 have h':=h.call k.bel
 refine ⟨h'.bel,h'.foot,fun r hr=>?_,?_,fun a ha=>⟨(h'.inv a ha).1,fun j hj=>⟨((h'.inv a ha).2 j hj).1,((h'.inv a ha).2 j hj).2.1,fun r hr e=>?_⟩⟩⟩
 ·rcases List.mem_append.1 hr with hr | hr
  ·refine ⟨res_mono (k.res r hr).1 h.size,fun j hj hF=>?_⟩
   have:=((k.res r hr).1.lt j hj).1
   have:=(h.foot j hF).2
   omega
  ·exact h'.res r hr
 ·rw [List.filterMap_append]
  refine List.nodup_append.2 ⟨k.nd,h.nd,fun a ha b hb e=>?_⟩
  subst e
  obtain ⟨r,hr,hra⟩:=List.mem_filterMap.1 ha
  obtain ⟨q,hq,hqa⟩:=List.mem_filterMap.1 hb
  have:=((k.res r hr).1.lt a hra).1
  have:=((h.res q hq).1.lt a hqa).2
  omega
 ·rcases List.mem_append.1 hr with hr | hr
  ·have:=((k.res r hr).1.lt j e).1
   have:=((h.inv a ha).2 j hj).1
   omega
  ·exact ((h'.inv a ha).2 j hj).2.2 r hr e
def Inv.vs(D:List VS):Inv:=⟨fun w=>∀ p∈D,RdS w 1 intE p.1 p.2,fun k=>∃ p∈D,slFoot p.1 k,fun w w' h hk p hp=>RdS.loc (h p hp) fun k hf=>hk k ⟨p,hp,hf⟩⟩
abbrev PS:=Value × Nat × List Int
open Go Go.Ann Go.RowKit
abbrev VSpot:=Value × Spot
def ps(q:VSpot):PS:=(q.1,maskN q.2.1,q.2.2)
open Go Go.Ann Go.RowKit
def startP(n:Nat)(U:List (List Int)):List Spot:=U.map fun s=>(List.replicate n false,s)
theorem own_ptr{w:World}{B e sz n m c:Nat}{a:Option Addr}{xs:List Value}(h:w.ownsRow B e sz (.slice a n c) m xs)(h0:0<m):∃ g,a=some ⟨g,0,none⟩:=by
 rcases h.2 with ⟨_,h1⟩ | ⟨g,cap,cur,e,_⟩
 ·omega
 ·simp only [Value.slice.injEq] at e
  exact ⟨g,e.1⟩
theorem St.keepSub{W0 w:World}{F:Nat→Prop}{L:List Res}{I:List Inv}(h:St W0 w F L I){b:Inv}(hb:b∈I)(a:Inv)(ha:a.holds w)(hf:∀ k,a.foot k→b.foot k):St W0 w F L (a::I) :=
 h.keep a ha fun k hk=>(h.inv b hb).2 k (hf k hk)
def SearchV(w':World)(l:List OpT)(E:List (List Int))(U0:List (List Int))(r:Option (List Spot))(u:Value):Prop :=
 match r with
 | none=>u=.tuple #[.agg #[.slice none 0 0,.slice none 0 0,.int .i64 0],.int .i64 35]
 | some T=>∃ uv xv U X,u=.tuple #[.agg #[uv,xv,.int .i64 T.length],.int .i64 0]∧RowS w' uv U∧U.map Prod.snd=U0∧RowS w' xv X∧Uniq ((T.filter fun p=>fullP l p.1).map Prod.snd) (X.map Prod.snd)
theorem nodup_le{α:Type}[DecidableEq α]:∀ {u l:List α},u.Nodup→(∀ x∈u,x∈l)→u.length≤l.length
 | [],l,_,_=>by simp
 | x::u,l,hn,h=>by
  obtain ⟨h1,h2⟩:=List.nodup_cons.1 hn
  have hx:=h x (List.mem_cons_self ..)
  have:=nodup_le (l:=l.erase x) h2 fun y hy=>(List.mem_erase_of_ne (fun e=>h1 (by rw [← e]; exact hy))).2 (h y (List.mem_cons_of_mem _ hy))
  rw [List.length_erase_of_mem hx] at this
  have hp:0<l.length:=List.length_pos_of_mem hx
  rw [List.length_cons]; omega
theorem uniq_nodup{l u:List (List Int)}(h:Uniq l u):u.Nodup:=h.1.imp fun {a b} hab e=>by subst e; rw [ltS_irr] at hab; cases hab
theorem uniq_le{l u:List (List Int)}(h:Uniq l u):u.length≤l.length:=nodup_le (uniq_nodup h) fun x hx=>(h.2 x).1 hx
open Go Go.Ann Go.RowKit
def boolE(b:Bool):List Value:=[.bool b]
theorem RdS.bl{w:World}{ad:Addr}{n cap:Nat}{l:List Bool}(h:RdS w 1 boolE (.slice (some ad) n cap) l){k:Nat}(hk:k<l.length):w.cell? (ad.add k)=some (.bool l[k]) :=
 RdS.at1 (e1:=fun r=>.bool r) h hk
theorem zip_at{l:List OpT}{d:List Bool}{f:OpT→Bool}(hl:d.length=l.length):((l.map f).zip d).all (fun p=>p.2 || !p.1)=true↔∀ j,(h:j<l.length)→(h':j<d.length)→d[j]=true∨f l[j]=false:=by
 rw [List.all_eq_true]
 constructor
 ·intro h j h1 h2
  have:=h (f l[j],d[j]) (by
   rw [List.mem_iff_getElem]
   exact ⟨j,by simp; omega,by simp⟩)
  simpa using this
 ·rintro h ⟨x,y⟩ hp
  obtain ⟨j,hj,e⟩:=List.mem_iff_getElem.1 hp
  simp only [List.getElem_zip,List.getElem_map,Prod.mk.injEq] at e
  simp only [List.length_zip,List.length_map] at hj
  have:=h j (by omega) (by omega)
  rw [← e.1,← e.2]
  simpa using this
theorem rmay_ok{w:World}{lv dv:Value}{l:List OpT}{d:List Bool}{i:Nat}(h:RdS w 11 OpT.enc lv l)(hd:RdS w 1 boolE dv d)(hl:d.length=l.length)(hi:i<l.length)(hn:l.length≤16) :
  Ret Tryz.prog 76 [lv,dv,.int .i64 i] w fun u w'=>u=.bool (mayP l d i l[i])∧Below w.heap.size w w':=by
 obtain ⟨la,lc,rfl,_⟩:=h.form
 obtain ⟨da,dc,rfl,_⟩:=hd.form
 obtain ⟨p,rfl⟩:=h.ptr (by omega)
 obtain ⟨q,rfl⟩:=hd.ptr (by omega)
 have hid:i<d.length:=by omega
 refine ent76 _ _ _ _ _ ?_
 have ei:=RdS.bl hd hid
 have gd:d.getD i false=d[i]:=by rw [List.getD_eq_getElem?_getD,List.getElem?_eq_getElem hid]; rfl
 simp (disch:=first|omega|exact zF rfl|exact zG rfl|exact fun h=>h|(simp only[zA,zB,zC,zD,bytesW];omega)) only[go_sem,ei]
 refine ⟨⟨by omega,by omega⟩,fun ht=>⟨?_,Below.refl _ _⟩,fun ht=>?_⟩
 ·unfold mayP; rw [gd,ht]; rfl
 ·simp (disch:=first|omega|exact zF rfl|exact zG rfl|exact fun h=>h|(simp only[zA,zB,zC,zD,bytesW];omega)) only[go_sem,c76S4]
  refine W_loopU (fun j:Nat=>[(7,.int .i64 j)]) (fun j w'=>Below w.heap.size w w'∧j≤l.length∧∀ k,(h:k<l.length)→(h':k<d.length)→k<j→d[k]=true∨before l[k] l[i]=false) (fun j=>l.length - j) 0 rfl ⟨Below.refl _ _,Nat.zero_le _,fun k _ _ h=>by omega⟩ ?_
  rintro j w2 ⟨b2,hj,hall⟩
  by_cases hlt:j<l.length
  ·have hlt':(j:Int)<l.length:=by omega
   have hjd:j<d.length:=by omega
   have hb2:Below w.heap.size w w2.drew:=b2.drew
   have ej:=RdS.bl (hd.below b2 (by decide)) hjd
   have eo:=(h.below b2 (by decide)).at OpT.len hlt
   have eo2:=(h.below b2 (by decide)).at OpT.len hi
   have lp:=h.blt OpT.len (by decide) (by omega)
   have lq:=hd.blt (fun _=>rfl) (by decide) (by omega)
   have hsz:=b2.size
   simp (disch:=first|omega|exact zF rfl|exact zG rfl|exact fun h=>h|(simp only[zA,zB,zC,zD,bytesW];omega)) only[go_sem,c76S4,hlt']
   refine c76draw0 (Chg (fun _=>False) _) (Chg.refl _ _) ?_
   simp (disch:=first|omega|exact zF rfl|exact zG rfl|exact fun h=>h|(simp only[zA,zB,zC,zD,bytesW];omega)) only[go_sem,c76S4,c76D0,ej,eo,eo2,OpT.len]
   have nxt:d[j]=true∨before l[j] l[i]=false→∀ k,(h:k<l.length)→(h':k<d.length)→k<j+1→d[k]=true∨before l[k] l[i]=false:=fun hh k h1 h2 h3=>by
    rcases Nat.lt_or_ge k j with h4 | h4
    ·exact hall k h1 h2 h4
    ·obtain rfl:k=j:=by omega
     exact hh
   refine ⟨⟨by omega,by omega⟩,fun hdj=>⟨⟨by omega,by omega⟩,⟨by omega,by omega⟩,Ret.mono (rbefore_ok l[j] l[i] w2.drew) ?_⟩,fun hdj=>?_⟩
   ·rintro _ w3 ⟨rfl,b3⟩
    have b33:=Below.next hb2 b3
    cases hbf:before l[j] l[i] with
    | true =>
     simp (disch:=first|omega|exact zF rfl|exact zG rfl|exact fun h=>h|(simp only[zA,zB,zC,zD,bytesW];omega)) only[go_sem,c76S4,c76D0]
     refine ⟨?_,b33⟩
     cases hm:mayP l d i l[i] with
     | false=>rfl
     | true =>
      unfold mayP at hm
      rw [Bool.and_eq_true] at hm
      have:=(zip_at (f:=fun p=>before p l[i]) hl).1 hm.2 j hlt hjd
      rw [hdj,hbf] at this
      simp at this
    | false =>
     simp (disch:=first|omega|exact zF rfl|exact zG rfl|exact fun h=>h|(simp only[zA,zB,zC,zD,bytesW];omega)) only[go_sem,c76S4,c76D0]
     exact ⟨⟨by omega,by omega⟩,j+1,rfl,⟨b33,by omega,nxt (.inr hbf)⟩,by omega⟩
   ·exact ⟨⟨by omega,by omega⟩,j+1,rfl,⟨hb2,by omega,nxt (.inl hdj)⟩,by omega⟩
  ·have hlt':¬ (j:Int)<l.length:=by omega
   simp (disch:=first|omega|exact zF rfl|exact zG rfl|exact fun h=>h|(simp only[zA,zB,zC,zD,bytesW];omega)) only[go_sem,c76S4,hlt']
   refine ⟨?_,b2⟩
   have:mayP l d i l[i]=true:=by
    unfold mayP
    rw [gd,ht]
    exact (zip_at (f:=fun p=>before p l[i]) hl).2 fun k h1 h2=>hall k h1 h2 (by omega)
   rw [this]
theorem rfull_ok{w:World}{lv dv:Value}{l:List OpT}{d:List Bool}(h:RdS w 11 OpT.enc lv l)(hd:RdS w 1 boolE dv d)(hl:d.length=l.length)(hn:l.length≤16) :
  Ret Tryz.prog 47 [lv,dv] w fun u w'=>u=.bool (fullP l d)∧w'=w:=by
 obtain ⟨la,lc,rfl,_⟩:=h.form
 obtain ⟨da,dc,rfl,_⟩:=hd.form
 refine ent47 _ _ _ _ ?_
 simp (disch:=first|omega|exact zF rfl|exact zG rfl|exact fun h=>h|(simp only[zA,zB,zC,zD,bytesW];omega)) only[go_sem]
 refine W_loopU (fun j:Nat=>[(5,.int .i64 j)]) (fun j w'=>w'=w∧j≤l.length∧∀ k,(h:k<l.length)→(h':k<d.length)→k<j→d[k]=true∨l[k].Done=false) (fun j=>l.length - j) 0 rfl ⟨rfl,Nat.zero_le _,fun k _ _ h=>by omega⟩ ?_
 rintro j _ ⟨rfl,hj,hall⟩
 by_cases hlt:j<l.length
 ·have hlt':(j:Int)<l.length:=by omega
  have hjd:j<d.length:=by omega
  obtain ⟨p,rfl⟩:=h.ptr (by omega)
  obtain ⟨q,rfl⟩:=hd.ptr (by omega)
  have ej:=RdS.bl hd hjd
  have eo:=h.elt OpT.len (by decide) hlt
  have ho:=l[j].at
  simp (disch:=first|omega|exact zF rfl|exact zG rfl|exact fun h=>h|(simp only[zA,zB,zC,zD,bytesW];omega)) only[go_sem,hlt',ej,eo,ho]
  have nxt:d[j]=true∨l[j].Done=false→∀ k,(h:k<l.length)→(h':k<d.length)→k<j+1→d[k]=true∨l[k].Done=false:=fun hh k h1 h2 h3=>by
   rcases Nat.lt_or_ge k j with h4 | h4
   ·exact hall k h1 h2 h4
   ·obtain rfl:k=j:=by omega
    exact hh
  refine ⟨by omega,fun hD=>⟨⟨by omega,by omega⟩,fun hdj=>?_,fun hdj=>⟨⟨by omega,by omega⟩,j+1,rfl,⟨by omega,nxt (.inl hdj)⟩,by omega⟩⟩,fun hD=>⟨⟨by omega,by omega⟩,j+1,rfl,⟨by omega,nxt (.inr hD)⟩,by omega⟩⟩
  cases hm:fullP l d with
  | false=>rfl
  | true =>
   have:=(zip_at (f:=fun o=>o.Done) hl).1 hm j hlt hjd
   rw [hdj,hD] at this
   simp at this
 ·have hlt':¬ (j:Int)<l.length:=by omega
  simp (disch:=first|omega|exact zF rfl|exact zG rfl|exact fun h=>h|(simp only[zA,zB,zC,zD,bytesW];omega)) only[go_sem,hlt']
  have:fullP l d=true:=(zip_at (f:=fun o=>o.Done) hl).2 fun k h1 h2=>hall k h1 h2 (by omega)
  rw [this]
def keyL(d:List Bool)(s:List Int):List UInt8:=(d.map fun b=>if b then 49 else 48)++txt s
theorem keyL_inj{d e:List Bool}{s t:List Int}(hl:d.length=e.length)(hs:OkS s)(ht:OkS t)(h:keyL d s=keyL e t):d=e∧s=t:=by
 unfold keyL at h
 obtain ⟨h1,h2⟩:=List.append_inj h (by simp [hl])
 refine ⟨?_,hs.inj ht h2⟩
 refine List.map_inj_right (fun a b hab=>?_) |>.1 h1
 cases a <;> cases b <;> first | rfl | (simp at hab)
theorem txt_len{s:List Int}(h:OkS s):(txt s).length≤10000010:=by
 have h1:=flat_len h.1
 have h2:=varL_10 (show s.length<18446744073709551616 by have:=h.2; omega)
 have h3:=h.2
 unfold txt
 rw [List.length_append]; omega
theorem key_ok{w:World}{dv sv:Value}{d:List Bool}{s:List Int}(hd:RdS w 1 boolE dv d)(hs:RdS w 1 intE sv s)(hok:OkS s)(hn:d.length≤16) :
  Ret Tryz.prog 75 [.agg #[dv,sv]] w fun u w'=>u=.string (ofL (keyL d s))∧Below w.heap.size w w':=by
 obtain ⟨da,dc,rfl,_⟩:=hd.form
 obtain ⟨sa,sc,rfl,_⟩:=hs.form
 refine ent75 _ _ _ ?_
 have s1:=(St.start (W0:=w)).box #[.slice da d.length dc,.slice sa s.length sc] 90
 simp (disch:=first|omega|exact zF rfl|exact zG rfl|exact fun h=>h|(simp only[zA,zB,zC,zD,bytesW];omega)) only[go_sem]
 generalize w.alloc (.cells #[.slice da d.length dc,.slice sa s.length sc] 90)=w1 at s1 ⊢
 have r1:=s1.rules 0 rfl
 have hd1:=hd.below s1.bel (by decide)
 refine W_loopU (fun j:Nat=>[(3,.string (ofL ((d.take j).map fun b=>if b then 49 else 48))),(4,.int .i64 j)]) (fun j w'=>w'=w1∧j≤d.length) (fun j=>d.length - j) 0 rfl ⟨rfl,Nat.zero_le _⟩ ?_
 rintro j _ ⟨rfl,hj⟩
 by_cases hlt:j<d.length
 ·have hlt':(j:Int)<d.length:=by omega
  obtain ⟨q,rfl⟩:=hd1.ptr (by omega)
  have ej:=RdS.bl hd1 hlt
  simp (disch:=first|omega|exact zF rfl|exact zG rfl|exact fun h=>h|(simp only[zA,zB,zC,zD,bytesW];omega)) only[go_sem,c75S3,hlt',ej,r1]
  have et:d.take (j+1)=d.take j++[d[j]]:=List.take_succ_eq_append_getElem hlt
  have hln:((d.take j).map fun b=>if b=true then (49:UInt8) else 48).length≤16:=by simp; omega
  refine ⟨by omega,fun hb=>⟨by omega,⟨by omega,by omega⟩,j+1,?_,by omega,by omega⟩,fun hb=>⟨by omega,⟨by omega,by omega⟩,j+1,?_,by omega,by omega⟩⟩
  ·rw [et,List.map_append,hb]; rfl
  ·rw [et,List.map_append,hb]; rfl
 ·have hlt':¬ (j:Int)<d.length:=by omega
  simp (disch:=first|omega|exact zF rfl|exact zG rfl|exact fun h=>h|(simp only[zA,zB,zC,zD,bytesW];omega)) only[go_sem,c75S3,hlt',r1]
  refine Ret.mono (rtext_ok _ s _ (hs.below s1.bel (by decide)) hok.1 hok.2) ?_
  rintro _ w2 ⟨rfl,b2⟩
  simp (disch:=first|omega|exact zF rfl|exact zG rfl|exact fun h=>h|(simp only[zA,zB,zC,zD,bytesW];omega)) only[go_sem,c75S3]
  have hln:((d.take j).map fun b=>if b=true then (49:UInt8) else 48).length≤16:=by simp; omega
  have htl:=txt_len hok
  refine ⟨by omega,?_,Below.next s1.bel b2⟩
  rw [List.take_of_length_le (by omega)]; rfl
open Go Go.Ann Go.RowKit
def Inv.bs(B:List (Value × List Bool)):Inv:=⟨fun w=>∀ p∈B,RdS w 1 boolE p.1 p.2,fun k=>∃ p∈B,slFoot p.1 k,fun w w' h hk p hp=>RdS.loc (h p hp) fun k hf=>hk k ⟨p,hp,hf⟩⟩
theorem bs_seal{W0 w:World}{F:Nat→Prop}{L:List Res}{I:List Inv}{v:Value}{e sz n:Nat}{xs:List Value}{d:List Bool}{D:List VS}{B:List (Value × List Bool)}(h:St W0 w F (.row v e sz n xs::L) (Inv.vs D::Inv.bs B::I))(hr:RdS w 1 boolE v d):St W0 w F L (Inv.vs D::Inv.bs ((v,d)::B)::I):=by
 have h1:=h.seal (Inv.bs [(v,d)]) (fun p hp=>by rw [List.mem_singleton] at hp; subst hp; exact hr) (fun k hk=>by
  obtain ⟨p,hp,hk⟩:=hk
  rw [List.mem_singleton] at hp; subst hp
  exact slFoot_own hk)
 have i0:=h1.inv _ (List.mem_cons_self ..)
 have i1:=h1.inv (Inv.vs D) (List.mem_cons_of_mem _ (List.mem_cons_self ..))
 have i2:=h1.inv (Inv.bs B) (List.mem_cons_of_mem _ (List.mem_cons_of_mem _ (List.mem_cons_self ..)))
 refine ((h1.inv_sub (I':=I) fun a ha=>List.mem_cons_of_mem _ (List.mem_cons_of_mem _ (List.mem_cons_of_mem _ ha))).keep (Inv.bs ((v,d)::B)) (fun p hp=>?_) fun k hk=>?_).keep (Inv.vs D) i1.1 i1.2
 ·rcases List.mem_cons.1 hp with rfl | hp
  ·exact hr
  ·exact i2.1 p hp
 ·obtain ⟨p,hp,hk⟩:=hk
  rcases List.mem_cons.1 hp with rfl | hp
  ·exact i0.2 k ⟨_,List.mem_singleton.2 rfl,hk⟩
  ·exact i2.2 k ⟨p,hp,hk⟩
theorem vs_add2{W0 w w':World}{F:Nat→Prop}{L:List Res}{I:List Inv}{D:List VS}{v u:Value}{s t:List Int}(h:St W0 w F L (Inv.vs D::I))(hb:Below w.heap.size w w')(hr:RdS w' 1 intE v s)(hu:(u,t)∈D)(hf:∀ k,slFoot v k→slFoot u k∨w.heap.size≤k):St W0 w' F L (Inv.vs ((v,s)::D)::I):=by
 have h':=h.call hb
 have hD:=h'.inv _ (List.mem_cons_self ..)
 refine (h'.inv_sub (I':=I) fun a ha=>List.mem_cons_of_mem _ ha).keep (Inv.vs ((v,s)::D)) (fun p hp=>?_) fun k hk=>?_
 ·rcases List.mem_cons.1 hp with rfl | hp
  ·exact hr
  ·exact hD.1 p hp
 ·obtain ⟨p,hp,hk⟩:=hk
  rcases List.mem_cons.1 hp with rfl | hp
  ·rcases hf k hk with h1 | h1
   ·exact hD.2 k ⟨_,hu,h1⟩
   ·refine ⟨hr.footLt (by decide) hk,fun hF=>?_,fun r hr' e=>?_⟩
    ·have:=(h.foot k hF).2; omega
    ·have:=((h.res r hr').1.lt k e).2; omega
  ·exact hD.2 k ⟨p,hp,hk⟩
abbrev RS:=Value × Value × Spot
def rsE(q:RS):List Value:=[q.1,q.2.1]
def rsP(q:RS):Spot:=q.2.2
def rkey(q:RS):List UInt8:=keyL q.2.2.1 q.2.2.2
def strE(l:List UInt8):Value:=.string (ofL l)
def addR(Q:List RS)(q:RS):List RS:=if q.2.2∈Q.map rsP then Q else Q++[q]
theorem addR_snd(Q:List RS)(q:RS):(addR Q q).map rsP=addP (Q.map rsP) q.2.2:=by
 unfold addR addP
 split
 ·rfl
 ·simp [rsP]
theorem addR_mem{Q:List RS}{q p:RS}(h:p∈addR Q q):p∈Q∨p=q:=by
 unfold addR at h
 split at h
 ·exact .inl h
 ·rcases List.mem_append.1 h with h | h
  ·exact .inl h
  ·exact .inr (List.mem_singleton.1 h)
theorem addR_pre(Q:List RS)(q:RS):Q <+: addR Q q:=by
 unfold addR; split
 ·exact List.prefix_rfl
 ·exact List.prefix_append _ _
theorem rkey_iff{K:Int}{M n:Nat}{Q:List RS}{q:RS}(hM:M+n≤1000000)(hQ:∀ p∈Q,Good K M n (rsP p))(hq:Good K M n (rsP q)):rkey q∈Q.map rkey↔rsP q∈Q.map rsP:=by
 constructor
 ·intro h
  obtain ⟨p,hp,e⟩:=List.mem_map.1 h
  have g:=hQ p hp
  obtain ⟨e1,e2⟩:=keyL_inj (g.len.trans hq.len.symm) (g.okS hM) (hq.okS hM) e
  exact List.mem_map.2 ⟨p,hp,Prod.ext e1 e2⟩
 ·intro h
  obtain ⟨p,hp,e⟩:=List.mem_map.1 h
  refine List.mem_map.2 ⟨p,hp,?_⟩
  have e:p.2.2=q.2.2:=e
  unfold rkey
  rw [e]
def RL(m:Nat)(ov:Value)(Q:List RS):List Res:=[.row ov 90 2 Q.length (Q.flatMap rsE),.obj m (mapO strE (Q.map rkey))]
theorem bool_map(d:List Bool):d.flatMap boolE=d.map Value.bool:=by
 induction d with
 | nil=>rfl
 | cons x d ih=>rw [List.flatMap_cons,ih]; rfl
theorem keyT_s:KeyT Tryz.prog 9 strE .string:=keyT_str Tryz.underlying9
theorem own_cell{w:World}{B0 e sz n m c g:Nat}{xs:List Value}(h:w.ownsRow B0 e sz (.slice (some ⟨g,0,none⟩) n c) m xs):(∀ j u,xs[j]?=some u→w.cell? ⟨g,j,none⟩=some u)∧∀ j,w.frozen? ⟨g,j,none⟩=false:=by
 rcases h.2 with ⟨e,_⟩ | ⟨g',c',cur,e,hg,hb,_,_,_,ht⟩
 ·cases e
 ·simp only [Value.slice.injEq,Option.some.injEq,Addr.mk.injEq] at e
  obtain ⟨⟨rfl,_⟩,_⟩:=e
  have hB:Blk w g cur e:=hb
  refine ⟨fun j u hu=>?_,hB.frozen⟩
  rw [hB.cell,← Array.getElem?_toList]
  rw [← ht,List.getElem?_take] at hu
  split at hu
  ·exact hu
  ·cases hu
theorem rs_in{W0 w:World}{F:Nat→Prop}{L:List Res}{I:List Inv}{m i lc M:Nat}{la:Option Addr}{ov dv sv:Value}{l:List OpT}{d:List Bool}{s:List Int}{Q:List RS}{D:List VS}{B:List (Value × List Bool)}{b K:Int}{P:Post}
  (h:St W0 w F (RL m ov Q++L) (Inv.vs D::Inv.bs B::Inv.rd 11 OpT.enc (.slice la l.length lc) l::I)) (hq:Q[i]?=some (dv,sv,d,s))
  (hn:l.length≤16) (hK:∀ o∈l,o.Kind=K) (hw:∀ o∈l,o.wf) (hM:M≤100000) (hQ:∀ q∈Q,Good K M l.length (rsP q)) (hD:∀ q∈Q,(q.2.1,q.2.2.2)∈D∧(q.1,q.2.2.1)∈B) (hlen:Q.length≤200000)
  (hP:∀ (w':World) (Q':List RS) (D':List VS) (B':List (Value × List Bool)) (ov':Value),St W0 w' F (RL m ov' Q'++L) (Inv.vs D'::Inv.bs B'::Inv.rd 11 OpT.enc (.slice la l.length lc) l::I) →
   (∀ q∈Q',Good K M l.length (rsP q))→(∀ q∈Q',(q.2.1,q.2.2.2)∈D'∧(q.1,q.2.2.1)∈B')→Q'.map rsP=roundK l (d,s) (Q.map rsP) l.length→(∀ p∈D,p∈D')→Q <+: Q' →
   P .normal [(0,.slice la l.length lc),(2,.int .i64 b),(7,ov'),(8,.map (some m)),(12,.int .i64 (i+1))] w') :
  W Tryz.prog (sg c45S14) [(0,.slice la l.length lc),(2,.int .i64 b),(7,ov),(8,.map (some m)),(12,.int .i64 i)] w P:=by
 simp (disch:=first|omega|exact zF rfl|exact zG rfl|exact fun h=>h|(simp only[zA,zB,zC,zD,bytesW];omega)) only[go_sem,c45S1,c45S7,c45S14,c45S16]
 have hil:i<Q.length:=(List.getElem?_eq_some_iff.1 hq).1
 refine W_loopU (fun x:Nat × Value × List RS × List VS × List (Value × List Bool)=>[(7,x.2.1),(13,.int .i64 x.1)]) (fun z w'=>St W0 w' F (RL m z.2.1 z.2.2.1++L) (Inv.vs z.2.2.2.1::Inv.bs z.2.2.2.2::Inv.rd 11 OpT.enc (.slice la l.length lc) l::I)∧z.1≤l.length ∧
  (∀ q∈z.2.2.1,Good K M l.length (rsP q))∧(∀ q∈z.2.2.1,(q.2.1,q.2.2.2)∈z.2.2.2.1∧(q.1,q.2.2.1)∈z.2.2.2.2)∧z.2.2.1.map rsP=roundK l (d,s) (Q.map rsP) z.1∧(∀ p∈D,p∈z.2.2.2.1)∧Q <+: z.2.2.1) (fun z=>l.length - z.1) (0,ov,Q,D,B) rfl ⟨h,Nat.zero_le _,hQ,hD,rfl,(fun p hp=>hp),List.prefix_rfl⟩ ?_
 rintro ⟨k,ok,R,E,C⟩ w2 ⟨s2,hk,gR,dR,eR,sub,pre⟩
 simp only at s2 hk gR dR eR sub pre
 have hRl:R.length≤Q.length+k:=by
  have:=congrArg List.length eR
  have h2:=roundK_len l (d,s) (Q.map rsP) k
  simp only [List.length_map] at this h2
  omega
 have hiR:i<R.length:=Nat.lt_of_lt_of_le hil pre.length_le
 have hRi:R[i]=(dv,sv,d,s):=by
  obtain ⟨t,rfl⟩:=pre
  rw [List.getElem_append_left hil]
  exact (List.getElem?_eq_some_iff.1 hq).2
 obtain ⟨ra,rc,rfl,_⟩:=own_slice (s2.row 0 rfl)
 obtain ⟨g,rfl⟩:=own_ptr (s2.row 0 rfl) (by omega)
 by_cases hlt:k<l.length
 ·have hlt':(k:Int)<l.length:=by omega
  have hrd:=s2.rd 2 rfl
  obtain ⟨p,rfl⟩:=hrd.ptr (by omega)
  have eo:=hrd.at OpT.len hlt
  have ee:=(RdS.of_own' (enc:=rsE) (s2.row 0 rfl) R rfl rfl).elt (fun _=>rfl) (by decide) hiR
  rw [hRi,Addr.add_lit,Nat.zero_add] at ee
  have e0:w2.cell? ⟨g,i * 2,none⟩=some dv:=ee.1
  have e1:w2.cell? ⟨g,i * 2+1,none⟩=some sv:=by
   have:=ee.2 1 (by decide) (by decide)
   simp only [Nat.zero_add] at this
   exact this
  have hmemR:R[i]∈R:=List.getElem_mem hiR
  have gi:Good K M l.length (d,s):=by have:=gR _ hmemR; rw [hRi] at this; exact this
  have di:=dR _ hmemR
  rw [hRi] at di
  have hdv:RdS w2 1 boolE dv d:=(s2.inv (Inv.bs C) (List.mem_cons_of_mem _ (List.mem_cons_self ..))).1 _ di.2
  have hsv:RdS w2 1 intE sv s:=(s2.inv (Inv.vs E) (List.mem_cons_self ..)).1 _ di.1
  obtain ⟨da,dc,rfl,_⟩:=hdv.form
  obtain ⟨sa,sc,rfl,_⟩:=hsv.form
  simp (disch:=first|omega|exact zF rfl|exact zG rfl|exact fun h=>h|(simp only[zA,zB,zC,zD,bytesW];omega)) only[go_sem,c45S1,c45S7,c45S13,c45S14,c45S16,hlt',e0]
  refine ⟨⟨by omega,by omega⟩,Ret.mono (rmay_ok hrd hdv gi.len hlt hn) ?_⟩
  rintro _ w3 ⟨rfl,b3⟩
  have s3:=s2.call b3
  have go1:roundK l (d,s) (Q.map rsP) (k+1)=goP l (d,s) (R.map rsP) k:=by rw [roundK,← eR]
  have lk:l[k]?=some l[k]:=List.getElem?_eq_getElem hlt
  have hmem:=List.getElem_mem hlt
  have gd:d.length=l.length:=gi.len
  cases hmy:mayP l d k l[k] with
  | false =>
   simp (disch:=first|omega|exact zF rfl|exact zG rfl|exact fun h=>h|(simp only[zA,zB,zC,zD,bytesW];omega)) only[go_sem,c45S1,c45S7,c45S13,c45S14,c45S16]
   refine ⟨⟨by omega,by omega⟩,(k+1,.slice (some ⟨g,0,none⟩) R.length rc,R,E,C),rfl,⟨s3,by simp only; omega,gR,dR,?_,sub,pre⟩,by simp only; omega⟩
   simp only
   rw [go1]; unfold goP; rw [lk]; simp [hmy]
  | true =>
   have e0':w3.cell? ⟨g,i * 2,none⟩=some (.slice da d.length dc):=cell_below b3 e0
   have e1':w3.cell? ⟨g,i * 2+1,none⟩=some (.slice sa s.length sc):=cell_below b3 e1
   have eo':=cellsO_below b3 eo
   have lg:g<w3.heap.size:=World.block_lt_of_cell? w3 ⟨g,i * 2,none⟩ e0'
   have hsv3:RdS w3.drew 1 intE (.slice sa s.length sc) s:=(hsv.below b3 (by decide)).below (Below.refl _ w3).drew (by decide)
   have s4:=s3.drew
   simp (disch:=first|omega|exact zF rfl|exact zG rfl|exact fun h=>h|(simp only[zA,zB,zC,zD,bytesW];omega)) only[go_sem,c45S1,c45S7,c45S13,c45S14,c45S16]
   refine c45draw1 (Chg (fun _=>False) _) (Chg.refl _ _) ?_
   simp (disch:=first|omega|exact zF rfl|exact zG rfl|exact fun h=>h|(simp only[zA,zB,zC,zD,bytesW];omega)) only[go_sem,c45S1,c45S7,c45S13,c45S14,c45S16,c45D1,e1',eo',OpT.len]
   have hsl:s.length≤1000000:=(gi.okS (by omega)).2
   refine ⟨⟨by omega,by omega⟩,⟨by omega,by omega⟩,Ret.mono (rstep_ok _ s l[k] _ hsv3 hsl (fun e=>gi.ris ((hK _ hmem).symm.trans e))) ?_⟩
   rintro _ w5 ⟨⟨t,okk,rfl,hm⟩,b5⟩
   cases hst:stepP s l[k] with
   | none =>
    rw [hst] at hm
    have hm:okk=false:=hm
    subst hm
    have s5:=s4.call b5
    simp (disch:=first|omega|exact zF rfl|exact zG rfl|exact fun h=>h|(simp only[zA,zB,zC,zD,bytesW];omega)) only[go_sem,c45S1,c45S7,c45S13,c45S14,c45S16,c45D1]
    refine ⟨⟨by omega,by omega⟩,(k+1,.slice (some ⟨g,0,none⟩) R.length rc,R,E,C),rfl,⟨s5,by simp only; omega,gR,dR,?_,sub,pre⟩,by simp only; omega⟩
    simp only
    rw [go1]; unfold goP; rw [lk]; simp [hmy,hst]
   | some s' =>
    rw [hst] at hm
    obtain ⟨rfl,h5,f5⟩:=hm
    have s5:=vs_add2 s4 b5 h5 di.1 f5
    have gN:Good K M l.length (d.set k true,s'):=gi.go hlt hK hw hmy hst
    have e05:w5.cell? ⟨g,i * 2,none⟩=some (.slice da d.length dc):=cell_below b5 e0'
    obtain ⟨tb,tc,rfl,_⟩:=h5.form
    simp (disch:=first|omega|exact zF rfl|exact zG rfl|exact fun h=>h|(simp only[zA,zB,zC,zD,bytesW];omega)) only[go_sem,c45S1,c45S7,c45S13,c45S14,c45S16,c45D1]
    refine bsW_none ty88mkI ?_
    have lg5:g<w5.heap.size:=World.block_lt_of_cell? w5 ⟨g,i * 2,none⟩ e05
    simp (disch:=first|omega|exact zF rfl|exact zG rfl|exact fun h=>h|(simp only[zA,zB,zC,zD,bytesW];omega)) only[go_sem,c45S1,c45S7,c45S13,c45S14,c45S16,e05]
    have s6:=s5.emptyRow 4 1
    have hdv6:RdS (w5.alloc (.cells #[] 4)) 1 boolE (.slice da d.length dc) d:=(s6.inv (Inv.bs C) (by simp)).1 _ di.2
    refine ⟨⟨by omega,by omega⟩,s6.append 0 rfl ty88mkI rfl (by decide) hdv6 (by intro u hu; obtain ⟨x,_,hx⟩:=List.mem_flatMap.1 hu; simp only [boolE,List.mem_singleton] at hx; subst hx; rfl) (by omega) (by omega) ?_⟩
    intro v7 w7 s7 c7
    simp only [List.set_cons_zero,List.nil_append,Nat.zero_add] at s7
    obtain ⟨a7,d7,rfl,_⟩:=own_slice (s7.row 0 rfl)
    obtain ⟨g7,rfl⟩:=own_ptr (s7.row 0 rfl) (by omega)
    simp (disch:=first|omega|exact zF rfl|exact zG rfl|exact fun h=>h|(simp only[zA,zB,zC,zD,bytesW];omega)) only[go_sem,c45S1,c45S7,c45S13,c45S14,c45S16]
    refine bdW_built (cells:=#[.slice (some ⟨g7,0,none⟩) d.length d7,.slice tb s'.length tc]) (by kernel_rfl) ?_
    simp (disch:=first|omega|exact zF rfl|exact zG rfl|exact fun h=>h|(simp only[zA,zB,zC,zD,bytesW];omega)) only[go_sem,c45S1,c45S13,c45S14,c45S16]
    have s8:=s7.box #[.slice (some ⟨g7,0,none⟩) d.length d7,.slice tb s'.length tc] 90
    have n7:w7.heap.size=w7.heap.size:=rfl
    generalize w7.alloc (.cells #[.slice (some ⟨g7,0,none⟩) d.length d7,.slice tb s'.length tc] 90)=w8 at s8 ⊢
    generalize w7.heap.size=y at s8 ⊢
    have r8:=s8.rules 0 rfl
    have c8:=own_cell (s8.row 1 rfl)
    have dk:(d.flatMap boolE)[k]?=some (.bool (d[k]'(by omega))):=by
     rw [bool_map,List.getElem?_map,List.getElem?_eq_getElem (by omega)]; rfl
    have ck:=c8.1 k _ dk
    have fk:=c8.2 k
    have ny:g7≠y:=fun e=>s8.ne 0 1 rfl rfl (by decide) (k:=y) rfl (by rw [← e]; rfl)
    simp (disch:=first|omega|exact zF rfl|exact zG rfl|exact fun h=>h|(simp only[zA,zB,zC,zD,bytesW];omega)) only[go_sem,c45S1,c45S7,c45S13,c45S14,c45S16,r8,ck,fk]
    have s9:=bs_seal (d:=d.set k true) ((s8.put 1 rfl k (.bool true)).perm (List.Perm.swap _ _ _)) (by
     refine RdS.of_own' (((s8.put 1 rfl k (.bool true)).row 1 rfl)) (d.set k true) (by simp) ?_
     rw [bool_map,bool_map,List.map_set])
    refine ⟨⟨by omega,by omega⟩,?_⟩
    have ly:=(s9.low 0 rfl).2
    generalize w8.setCell ⟨g7,k,none⟩ (.bool true)=w9 at s9 ly ⊢
    have hdN:RdS w9 1 boolE (.slice (some ⟨g7,0,none⟩) d.length d7) (d.set k true):=(s9.inv (Inv.bs _) (List.mem_cons_of_mem _ (List.mem_cons_self ..))).1 _ (List.mem_cons_self ..)
    have hsN:RdS w9 1 intE (.slice tb s'.length tc) s':=(s9.inv (Inv.vs _) (List.mem_cons_self ..)).1 _ (List.mem_cons_self ..)
    have okN:=gN.okS (show M+l.length≤1000000 by omega)
    refine Ret.mono (key_ok hdN hsN okN (by simp; omega)) ?_
    rintro _ w10 ⟨rfl,b10⟩
    have s10:=s9.call b10
    simp (disch:=first|omega|exact zF rfl|exact zG rfl|exact fun h=>h|(simp only[zA,zB,zC,zD,bytesW];omega)) only[go_sem,c45S1,c45S7,c45S13,c45S14,c45S16]
    refine luW_map keyT_s Tryz.underlying73 (s10.obj 2 rfl) (keyL (d.set k true) s') (Tryz.zeroValue4 _) ?_
    have hmm:=rkey_iff (M:=M) (Q:=R) (q:=((Value.slice (some ⟨g7,0,none⟩) d.length d7:Value),(Value.slice tb s'.length tc:Value),(d.set k true,s'))) (by omega) gR gN
    simp (disch:=first|omega|exact zF rfl|exact zG rfl|exact fun h=>h|(simp only[zA,zB,zC,zD,bytesW];omega)) only[go_sem,c45S1,c45S7,c45S13,c45S14,c45S16]
    refine ⟨fun hno=>?_,fun hyes=>?_⟩
    ·have hnin:(d.set k true,s') ∉ R.map rsP:=fun h'=>hno (hmm.2 h')
     have r10:=s10.rules 0 rfl
     simp (disch:=first|omega|exact zF rfl|exact zG rfl|exact fun h=>h|(simp only[zA,zB,zC,zD,bytesW];omega)) only[go_sem,c45S1,c45S7,c45S13,c45S14,c45S16,r10]
     have hdN2:=hdN.below b10 (by decide)
     have hsN2:=hsN.below b10 (by decide)
     refine Ret.mono (key_ok hdN2 hsN2 okN (by simp; omega)) ?_
     rintro _ w11 ⟨rfl,b11⟩
     have s11:=s10.call b11
     simp (disch:=first|omega|exact zF rfl|exact zG rfl|exact fun h=>h|(simp only[zA,zB,zC,zD,bytesW];omega)) only[go_sem,c45S1,c45S7,c45S13,c45S14,c45S16]
     refine muW_map keyT_s Tryz.underlying73 (s11.obj 2 rfl) (keyL (d.set k true) s') hno ?_
     have s12:=s11.putObj 2 rfl (mapO strE (R.map rkey++[keyL (d.set k true) s']))
     simp only [List.set_cons_zero,List.set_cons_succ,RL,List.cons_append,List.nil_append] at s12
     generalize w11.putObj m (mapO strE (R.map rkey++[keyL (d.set k true) s']))=w12 at s12 ⊢
     have r12:=s12.rules 0 rfl
     simp (disch:=first|omega|exact zF rfl|exact zG rfl|exact fun h=>h|(simp only[zA,zB,zC,zD,bytesW];omega)) only[go_sem,c45S1,c45S7,c45S13,c45S14,c45S16,r12]
     refine bsW_agg ty84mkI rfl (by decide) (by decide) ?_
     simp (disch:=first|omega|exact zF rfl|exact zG rfl|exact fun h=>h|(simp only[zA,zB,zC,zD,bytesW];omega)) only[go_sem,c45S1,c45S7,c45S13,c45S14,c45S16]
     have hx:Rd (w12.alloc (.cells #[.slice (some ⟨g7,0,none⟩) d.length d7,.slice tb s'.length tc] 90)) 2 (.slice (some ⟨w12.heap.size,0,none⟩) 1 1) 1 [.slice (some ⟨g7,0,none⟩) d.length d7,.slice tb s'.length tc]:=rd_new (n:=1) (cs:=#[.slice (some ⟨g7,0,none⟩) d.length d7,.slice tb s'.length tc]) rfl
     refine (s12.alloc' (.cells #[.slice (some ⟨g7,0,none⟩) d.length d7,.slice tb s'.length tc] 90)).append 1 rfl ty84mkI rfl (by decide) hx (by intro u hu; simp only [List.mem_cons,List.not_mem_nil,or_false] at hu; rcases hu with rfl | rfl <;> rfl) (by omega) (by omega) ?_
     intro v13 w13 s13 c13
     simp only [List.set_cons_zero,List.set_cons_succ] at s13
     simp (disch:=first|omega|exact zF rfl|exact zG rfl|exact fun h=>h|(simp only[zA,zB,zC,zD,bytesW];omega)) only[go_sem,c45S1,c45S7,c45S13,c45S14,c45S16]
     have s14:=s13.sub (L':=RL m v13 (R++[((Value.slice (some ⟨g7,0,none⟩) d.length d7:Value),(Value.slice tb s'.length tc:Value),(d.set k true,s'))])++L) (by
      unfold RL
      rw [List.length_append,List.flatMap_append,List.map_append]
      exact List.sublist_cons_self _ _)
     have eA:addR R ((Value.slice (some ⟨g7,0,none⟩) d.length d7:Value),(Value.slice tb s'.length tc:Value),(d.set k true,s'))=R++[((Value.slice (some ⟨g7,0,none⟩) d.length d7:Value),(Value.slice tb s'.length tc:Value),(d.set k true,s'))]:=by
      unfold addR
      exact if_neg hnin
     rw [← eA] at s14
     refine ⟨⟨by omega,by omega⟩,(k+1,v13,addR R ((Value.slice (some ⟨g7,0,none⟩) d.length d7:Value),(Value.slice tb s'.length tc:Value),(d.set k true,s')),(.slice tb s'.length tc,s')::E,(.slice (some ⟨g7,0,none⟩) d.length d7,d.set k true)::C),rfl,⟨s14,by simp only; omega,fun q hq=>?_,fun q hq=>?_,?_,fun p hp=>List.mem_cons_of_mem _ (sub p hp),pre.trans (addR_pre _ _)⟩,by simp only; omega⟩
     ·rcases addR_mem hq with hq | rfl
      ·exact gR q hq
      ·exact gN
     ·rcases addR_mem hq with hq | rfl
      ·exact ⟨List.mem_cons_of_mem _ (dR q hq).1,List.mem_cons_of_mem _ (dR q hq).2⟩
      ·exact ⟨List.mem_cons_self ..,List.mem_cons_self ..⟩
     ·simp only
      rw [go1,addR_snd]; unfold goP; rw [lk]; simp only [hmy,hst,if_true]
    ·have hin:(d.set k true,s')∈R.map rsP:=hmm.1 hyes
     refine ⟨⟨by omega,by omega⟩,(k+1,.slice (some ⟨g,0,none⟩) R.length rc,R,(.slice tb s'.length tc,s')::E,(.slice (some ⟨g7,0,none⟩) d.length d7,d.set k true)::C),rfl,⟨s10.sub (List.sublist_cons_self _ _),by simp only; omega,gR,fun q hq=>⟨List.mem_cons_of_mem _ (dR q hq).1,List.mem_cons_of_mem _ (dR q hq).2⟩,?_,fun p hp=>List.mem_cons_of_mem _ (sub p hp),pre⟩,by simp only; omega⟩
     simp only
     rw [go1]; unfold goP; rw [lk]; simp only [hmy,hst,if_true]
     unfold addP
     rw [if_pos hin]
 ·have hlt':¬ (k:Int)<l.length:=by omega
  simp (disch:=first|omega|exact zF rfl|exact zG rfl|exact fun h=>h|(simp only[zA,zB,zC,zD,bytesW];omega)) only[go_sem,c45S1,c45S7,c45S13,c45S14,c45S16,hlt']
  have e:k=l.length:=by omega
  subst e
  refine ⟨⟨by omega,by omega⟩,?_⟩
  exact hP _ _ _ _ _ s2 gR dR eR sub pre
open Go Go.Ann Go.RowKit
def SpotsR(l:List OpT)(t0:List Spot)(b:Int)(Q:List RS):Prop :=
 (b<(Q.length:Int)∧SearchR l t0 b none)∨((Q.length:Int)≤b∧SearchR l t0 b (some (Q.map rsP)))
theorem rs_main{W0 w:World}{F:Nat→Prop}{L:List Res}{I:List Inv}{m lc M:Nat}{la:Option Addr}{ov:Value}{l:List OpT}{Q:List RS}{D:List VS}{B:List (Value × List Bool)}{b K:Int}{t0:List Spot}{P:Value→World→Prop}
  (h:St W0 w F (RL m ov Q++L) (Inv.vs D::Inv.bs B::Inv.rd 11 OpT.enc (.slice la l.length lc) l::I))
  (hn:l.length≤16) (hK:∀ o∈l,o.Kind=K) (hw:∀ o∈l,o.wf) (hM:M≤100000) (hQ:∀ q∈Q,Good K M l.length (rsP q)) (hD:∀ q∈Q,(q.2.1,q.2.2.2)∈D∧(q.1,q.2.2.1)∈B) (hlen:Q.length≤60000) (hb:b≤32768)
  (hover:b<(Q.length:Int)→b<(t0.length:Int)) (h0:(Q.length:Int)≤b→Q.map rsP=t0)
  (hP:∀ (w':World) (Q':List RS) (D':List VS) (B':List (Value × List Bool)) (ov':Value),St W0 w' F (RL m ov' Q'++L) (Inv.vs D'::Inv.bs B'::Inv.rd 11 OpT.enc (.slice la l.length lc) l::I) →
   (∀ q∈Q',Good K M l.length (rsP q))→(∀ q∈Q',(q.2.1,q.2.2.2)∈D'∧(q.1,q.2.2.1)∈B')→Q'.length≤60100→SpotsR l t0 b Q'→P ov' w') :
  W Tryz.prog (sg c45S16) [(0,.slice la l.length lc),(2,.int .i64 b),(7,ov),(8,.map (some m))] w (finQ Tryz.prog [.tmp 6] P):=by
 simp (disch:=first|omega|exact zF rfl|exact zG rfl|exact fun h=>h|(simp only[zA,zB,zC,zD,bytesW];omega)) only[go_sem,c45S1,c45S7,c45S13,c45S14,c45S16]
 by_cases hov:b<(Q.length:Int)
 ·refine W_loopU (fun x:Nat=>[(12,.int .i64 x)]) (fun x w'=>w'=w∧x=0) (fun x=>x) 0 rfl ⟨rfl,rfl⟩ ?_
  rintro x _ ⟨rfl,rfl⟩
  obtain ⟨oa,oc,rfl,_⟩:=own_slice (h.row 0 rfl)
  have hov':¬ (Q.length:Int)≤b:=by omega
  by_cases h0:(0:Int)<Q.length
  ·simp (disch:=first|omega|exact zF rfl|exact zG rfl|exact fun h=>h|(simp only[zA,zB,zC,zD,bytesW];omega)) only[go_sem,c45S1,c45S7,c45S13,c45S14,c45S16,h0,hov']
   exact hP _ Q D B _ h hQ hD (by omega) (.inl ⟨hov,0,hover hov⟩)
  ·simp (disch:=first|omega|exact zF rfl|exact zG rfl|exact fun h=>h|(simp only[zA,zB,zC,zD,bytesW];omega)) only[go_sem,c45S1,c45S7,c45S13,c45S14,c45S16,h0]
   exact hP _ Q D B _ h hQ hD (by omega) (.inl ⟨hov,0,hover hov⟩)
 have e0:=h0 (by omega)
 refine W_loopU (fun x:Nat × Value × List RS × List VS × List (Value × List Bool)=>[(7,x.2.1),(12,.int .i64 x.1)]) (fun z w'=>St W0 w' F (RL m z.2.1 z.2.2.1++L) (Inv.vs z.2.2.2.1::Inv.bs z.2.2.2.2::Inv.rd 11 OpT.enc (.slice la l.length lc) l::I)∧z.1≤32769∧z.1≤z.2.2.1.length∧z.2.2.1.length≤60100 ∧
  (∀ q∈z.2.2.1,Good K M l.length (rsP q))∧(∀ q∈z.2.2.1,(q.2.1,q.2.2.2)∈z.2.2.2.1∧(q.1,q.2.2.1)∈z.2.2.2.2)∧z.2.2.1.map rsP=bfsN l t0 z.1) (fun z=>32770 - z.1) (0,ov,Q,D,B) rfl ⟨h,by omega,Nat.zero_le _,by simp only; omega,hQ,hD,e0⟩ ?_
 rintro ⟨i,ok,R,E,C⟩ w2 ⟨s2,h32,hi,hRl,gR,dR,eR⟩
 simp only at s2 h32 hi hRl gR dR eR
 obtain ⟨ra,rc,rfl,_⟩:=own_slice (s2.row 0 rfl)
 by_cases hlt:i<R.length
 ·have hlt':(i:Int)<R.length:=by omega
  by_cases ho:(R.length:Int)≤b
  ·simp (disch:=first|omega|exact zF rfl|exact zG rfl|exact fun h=>h|(simp only[zA,zB,zC,zD,bytesW];omega)) only[go_sem,c45S1,c45S7,c45S13,c45S16,hlt',ho]
   obtain ⟨⟨dv,sv,d,s⟩,hri⟩:∃ q,R[i]=q:=⟨_,rfl⟩
   have hrq:R[i]?=some (dv,sv,d,s):=by rw [List.getElem?_eq_getElem hlt,hri]
   refine rs_in (K:=K) (M:=M) s2 hrq hn hK hw hM gR dR (by omega) ?_
   intro w3 R3 E3 C3 v3 s3 g3 d3 e3 sub3 pre3
   simp (disch:=first|omega|exact zF rfl|exact zG rfl|exact fun h=>h|(simp only[zA,zB,zC,zD,bytesW];omega)) only[go_sem,c45S1,c45S7,c45S13,c45S14,c45S16]
   have len3:R3.length≤R.length+l.length:=by
    have:=congrArg List.length e3
    have h2:=roundK_len l (d,s) (R.map rsP) l.length
    simp only [List.length_map] at this h2
    omega
   refine ⟨(i+1,v3,R3,E3,C3),rfl,⟨s3,by simp only; omega,by simp only; have:=pre3.length_le; omega,by simp only; omega,g3,d3,?_⟩,by simp only; omega⟩
   simp only
   rw [bfsN,← eR,List.getElem?_map,hrq]
   exact e3
  ·simp (disch:=first|omega|exact zF rfl|exact zG rfl|exact fun h=>h|(simp only[zA,zB,zC,zD,bytesW];omega)) only[go_sem,c45S1,c45S7,c45S13,c45S14,c45S16,hlt',ho]
   refine hP _ R E C _ s2 gR dR hRl (.inl ⟨by omega,i,?_⟩)
   rw [← eR,List.length_map]; omega
 ·have hlt':¬ (i:Int)<R.length:=by omega
  simp (disch:=first|omega|exact zF rfl|exact zG rfl|exact fun h=>h|(simp only[zA,zB,zC,zD,bytesW];omega)) only[go_sem,c45S1,c45S7,c45S13,c45S14,c45S16,hlt']
  refine hP _ R E C _ s2 gR dR hRl ?_
  by_cases ho:(R.length:Int)≤b
  ·exact .inr ⟨ho,⟨i,eR.symm,by rw [List.length_map]; omega⟩,by rw [List.length_map]; exact ho⟩
  ·refine .inl ⟨by omega,i,?_⟩
   rw [← eR,List.length_map]; omega
open Go Go.Ann Go.RowKit
theorem bs_seal2{W0 w:World}{F:Nat→Prop}{L:List Res}{I:List Inv}{v:Value}{r:Res}{d:List Bool}{D:List VS}{B:List (Value × List Bool)}(h:St W0 w F (r::L) (Inv.vs D::Inv.bs B::I))(hr:RdS w 1 boolE v d)(hf:∀ k,slFoot v k→r.own=some k):St W0 w F L (Inv.vs D::Inv.bs ((v,d)::B)::I):=by
 have h1:=h.seal (Inv.bs [(v,d)]) (fun p hp=>by rw [List.mem_singleton] at hp; subst hp; exact hr) (fun k hk=>by
  obtain ⟨p,hp,hk⟩:=hk
  rw [List.mem_singleton] at hp; subst hp
  exact hf k hk)
 have i0:=h1.inv _ (List.mem_cons_self ..)
 have i1:=h1.inv (Inv.vs D) (List.mem_cons_of_mem _ (List.mem_cons_self ..))
 have i2:=h1.inv (Inv.bs B) (List.mem_cons_of_mem _ (List.mem_cons_of_mem _ (List.mem_cons_self ..)))
 refine ((h1.inv_sub (I':=I) fun a ha=>List.mem_cons_of_mem _ (List.mem_cons_of_mem _ (List.mem_cons_of_mem _ ha))).keep (Inv.bs ((v,d)::B)) (fun p hp=>?_) fun k hk=>?_).keep (Inv.vs D) i1.1 i1.2
 ·rcases List.mem_cons.1 hp with rfl | hp
  ·exact hr
  ·exact i2.1 p hp
 ·obtain ⟨p,hp,hk⟩:=hk
  rcases List.mem_cons.1 hp with rfl | hp
  ·exact i0.2 k ⟨_,List.mem_singleton.2 rfl,hk⟩
  ·exact i2.2 k ⟨p,hp,hk⟩
theorem rd_false{w:World}{g n:Nat}{t:TypeId}(hB:Blk w g (zerosA (Value.bool false) n) t):RdS w 1 boolE (.slice (some ⟨g,0,none⟩) n n) (List.replicate n false):=by
 have e:(zerosA (Value.bool false) n).toList=(List.replicate n false).map Value.bool:=by simp [zerosA]
 refine ⟨by rw [bool_map]; simp,some ⟨g,0,none⟩,n,by simp,by simp,fun _=>⟨_,rfl,fun j u hu=>?_⟩⟩
 rw [bool_map,← e] at hu
 rw [Addr.add_lit,Nat.zero_add,hB.cell,← Array.getElem?_toList]
 exact hu
theorem rs_new{w:World}{ov mv sv:Value}{n lc k U fc:Nat}{la:Option Addr}{p:Addr}{b:Int}{Q:Post}(hn:n≤16)(hk:k<U)(hs:w.cell? (p.add k)=some sv)(h1:∃ a n c,sv=.slice a n c)
  (hQ:∀ w' y g,St w.drew w' (fun _=>False) [.blk y #[.slice (some ⟨g,0,none⟩) n n,sv] 90,.blk g (zerosA (.bool false) n) 4] [] →
   W Tryz.prog (sg c45S1) [(0,.slice la n lc),(2,.int .i64 b),(7,ov),(8,mv),(9,.slice (some p) U fc),(10,.int .i64 k),(11,.pointer (some ⟨y,0,none⟩))] w' Q) :
  drawW Tryz.prog (drawOps 0 c45code) [0,2,7,8,9,10,11] [(0,.slice la n lc),(2,.int .i64 b),(7,ov),(8,mv),(9,.slice (some p) U fc),(10,.int .i64 k)] w (thenQ Tryz.prog (sg c45S1) Q):=by
 obtain ⟨sa,sn,sc,rfl⟩:=h1
 have lp:p.block<w.heap.size:=by have:=World.block_lt_of_cell? w _ hs; rwa [add_block] at this
 have lp':p.block<w.drew.heap.size:=lp
 refine c45draw0 (Chg (fun _=>False) _) (Chg.refl _ _) ?_
 have t0:=St.start (W0:=w.drew)
 simp (disch:=first|omega|exact zF rfl|exact zG rfl|exact fun h=>h|(simp only[zA,zB,zC,zD,bytesW];omega)) only[go_sem,c45S7,c45S13,c45S14,c45S16,c45D0,hs]
 refine ⟨⟨by omega,by omega⟩,?_,?_⟩
 ·refine msW_one ty88mkI rfl (by omega) (by omega) (by omega) (by omega) ?_
  simp (disch:=first|omega|exact zF rfl|exact zG rfl|exact fun h=>h|(simp only[zA,zB,zC,zD,bytesW];omega)) only[go_sem,c45S7,c45S13,c45S14,c45S16]
  have t1:=t0.box (zerosA (.bool false) n) 4
  refine ⟨Chg.of_below t1.bel,?_,?_⟩
  ·refine bdW_built (cells:=#[.slice (some ⟨w.heap.size,0,none⟩) n n,.slice sa sn sc]) (by kernel_rfl) ?_
   simp (disch:=first|omega|exact zF rfl|exact zG rfl|exact fun h=>h|(simp only[zA,zB,zC,zD,bytesW];omega)) only[go_sem,c45S7,c45S13,c45S14,c45S16]
   have t2:=t1.box #[.slice none 0 0,.slice none 0 0] 90
   rw [World.size_alloc,World.size_drew] at t2
   have t3:=t2.fill 0 rfl (cs:=#[.slice (some ⟨w.heap.size,0,none⟩) n n,.slice sa sn sc]) rfl
   exact ⟨Chg.of_below t1.bel,Chg.of_below t2.bel,Chg.of_below t3.bel,hQ _ _ _ t3⟩
  ·have t2:=t1.box #[.slice none 0 0,.slice none 0 0] 90
   rw [World.size_alloc,World.size_drew] at t2
   refine ⟨Chg.of_below t2.bel,bdW_built (cells:=#[.slice (some ⟨w.heap.size,0,none⟩) n n,.slice sa sn sc]) (by kernel_rfl) ?_⟩
   simp (disch:=first|omega|exact zF rfl|exact zG rfl|exact fun h=>h|(simp only[zA,zB,zC,zD,bytesW];omega)) only[go_sem,c45S7,c45S13,c45S14,c45S16]
   have t3:=t2.fill 0 rfl (cs:=#[.slice (some ⟨w.heap.size,0,none⟩) n n,.slice sa sn sc]) rfl
   exact ⟨Chg.of_below t2.bel,Chg.of_below t3.bel,hQ _ _ _ t3⟩
 ·have t1:=t0.box #[.slice none 0 0,.slice none 0 0] 90
  refine ⟨Chg.of_below t1.bel,msW_one ty88mkI rfl (by omega) (by omega) (by omega) (by omega) ?_⟩
  simp (disch:=first|omega|exact zF rfl|exact zG rfl|exact fun h=>h|(simp only[zA,zB,zC,zD,bytesW];omega)) only[go_sem,c45S7,c45S13,c45S14,c45S16]
  have t2:=t1.box (zerosA (.bool false) n) 4
  rw [World.size_alloc,World.size_drew] at t2
  refine ⟨Chg.of_below t2.bel,bdW_built (cells:=#[.slice (some ⟨w.heap.size+1,0,none⟩) n n,.slice sa sn sc]) (by kernel_rfl) ?_⟩
  simp (disch:=first|omega|exact zF rfl|exact zG rfl|exact fun h=>h|(simp only[zA,zB,zC,zD,bytesW];omega)) only[go_sem,c45S7,c45S13,c45S14,c45S16]
  have t3:=t2.fill 1 rfl (cs:=#[.slice (some ⟨w.heap.size+1,0,none⟩) n n,.slice sa sn sc]) rfl
  exact ⟨Chg.of_below t2.bel,Chg.of_below t3.bel,hQ _ _ _ (t3.perm (List.Perm.swap _ _ _))⟩
theorem spots_ok{W0 w:World}{F:Nat→Prop}{L:List Res}{I:List Inv}{lc M:Nat}{la:Option Addr}{ev:Value}{l:List OpT}{E D:List VS}{b K:Int}
  (h:St W0 w F L (Inv.vs D::Inv.rd 11 OpT.enc (.slice la l.length lc) l::I)) (hE:RowS w ev E) (hED:∀ p∈E,p∈D)
  (hn:l.length≤16) (hK:∀ o∈l,o.Kind=K) (hw:∀ o∈l,o.wf) (hEl:E.length≤50000) (hM:M≤100000)
  (hEo:∀ p∈E,Ok64 p.2∧p.2.length≤M∧(K=5→p.2.Pairwise (· < ·))) (hb:b≤32768) :
  Ret Tryz.prog 45 [.slice la l.length lc,ev,.int .i64 b] w fun u w'=>∃ U0 Q D' B' m,Uniq (E.map Prod.snd) U0∧St W0 w' F (RL m u Q++L) (Inv.vs D'::Inv.bs B'::Inv.rd 11 OpT.enc (.slice la l.length lc) l::I) ∧
   (∀ q∈Q,Good K M l.length (rsP q))∧(∀ q∈Q,(q.2.1,q.2.2.2)∈D'∧(q.1,q.2.2.1)∈B')∧Q.length≤60100∧SpotsR l (startP l.length U0) b Q:=by
 refine ent45 _ _ _ _ _ ?_
 simp (disch:=first|omega|exact zF rfl|exact zG rfl|exact fun h=>h|(simp only[zA,zB,zC,zD,bytesW];omega)) only[go_sem,c45S1,c45S7,c45S13,c45S14,c45S16]
 refine mmW_map (κ:=List UInt8) (enc:=strE) ?_
 have s1:=h.lay (mapO strE [])
 have hE1:=hE.below ((Below.refl w.heap.size w).alloc (Nat.le_refl _) (mapO strE []))
 generalize w.alloc (mapO strE [])=w1 at s1 hE1 ⊢
 generalize w.heap.size=m at s1 ⊢
 simp (disch:=first|omega|exact zF rfl|exact zG rfl|exact fun h=>h|(simp only[zA,zB,zC,zD,bytesW];omega)) only[go_sem,c45S1,c45S7,c45S13,c45S14,c45S16]
 refine Ret.mono (sorted_ok _ E w1 hE1 (fun p hp=>⟨(hEo p hp).1,by have:=(hEo p hp).2.1; omega⟩) (by omega)) ?_
 rintro fv w2 ⟨⟨U,hU,hUE,hrow⟩,b2⟩
 have s2:=((s1.add b2 (.row fv 25 1 U.length (U.map Prod.fst)) (own_mono hrow s1.size) (fun k hk=>(World.ownsRow.lt hrow k hk).1)))
 have i2:=s2.inv _ (List.mem_cons_self ..)
 have s3:=(St.keepSub (s2.inv_sub (I':=Inv.rd 11 OpT.enc (.slice la l.length lc) l::I) fun a ha=>List.mem_cons_of_mem _ ha) (b:=Inv.rd 11 OpT.enc (.slice la l.length lc) l) (by simp) (Inv.bs []) (fun p hp=>by cases hp) (fun k hk=>by obtain ⟨p,hp,_⟩:=hk; cases hp)).keep (Inv.vs D) i2.1 i2.2
 have s4:=(s3.nilRow 90 2)
 have s5:=s4.perm (L':=RL m (.slice none 0 0) []++(.row fv 25 1 U.length (U.map Prod.fst)::L)) ((List.Perm.swap _ _ _).cons _)
 have hUl:U.length≤50000:=by
  have:=uniq_le hU
  simp only [List.length_map] at this
  omega
 have gU:∀ p∈U,Good K M l.length (List.replicate l.length false,p.2):=fun p hp=>by
  obtain ⟨h1,h2,h3⟩:=hEo p (hUE p hp)
  exact ⟨by simp,h1,by simp only; omega,h3⟩
 obtain ⟨fa,fc,rfl,_⟩:=own_slice hrow
 simp (disch:=first|omega|exact zF rfl|exact zG rfl|exact fun h=>h|(simp only[zA,zB,zC,zD,bytesW];omega)) only[go_sem,c45S1,c45S7,c45S13,c45S14]
 refine W_loopU (fun x:Nat × Value × List RS × List (Value × List Bool)=>[(7,x.2.1),(10,.int .i64 x.1)]) (fun z w'=>St W0 w' F (RL m z.2.1 z.2.2.1++(.row (.slice fa U.length fc) 25 1 U.length (U.map Prod.fst)::L)) (Inv.vs D::Inv.bs z.2.2.2::Inv.rd 11 OpT.enc (.slice la l.length lc) l::I)∧z.1≤U.length∧z.2.2.1.length=z.1∧(z.1=0∨(z.1:Int)≤b+1) ∧
  z.2.2.1.map rsP=startP l.length ((U.take z.1).map Prod.snd)∧(∀ q∈z.2.2.1,(q.2.1,q.2.2.2)∈D∧(q.1,q.2.2.1)∈z.2.2.2)) (fun z=>U.length - z.1) (0,.slice none 0 0,[],[]) rfl ⟨s5,Nat.zero_le _,rfl,.inl rfl,rfl,(fun q hq=>by cases hq)⟩ ?_
 rintro ⟨k,ok,R,C⟩ w6 ⟨s6,hk,hRk,hkb,eR,dR⟩
 simp only at s6 hk hRk hkb eR dR
 have gR:∀ q∈R,Good K M l.length (rsP q):=fun q hq=>by
  have:rsP q∈R.map rsP:=List.mem_map.2 ⟨q,hq,rfl⟩
  rw [eR] at this
  obtain ⟨t,ht,e⟩:=List.mem_map.1 this
  obtain ⟨p,hp,rfl⟩:=List.mem_map.1 ht
  rw [← e]
  exact gU p (List.mem_of_mem_take hp)
 have fin:∀ (c:¬ (k<U.length∧(R.length:Int)≤b)),W Tryz.prog (sg c45S16) [(0,.slice la l.length lc),(2,.int .i64 b),(7,ok),(8,.map (some m))] w6 (finQ Tryz.prog [.tmp 6] fun u w'=>∃ U0 Q D' B' m,Uniq (E.map Prod.snd) U0∧St W0 w' F (RL m u Q++L) (Inv.vs D'::Inv.bs B'::Inv.rd 11 OpT.enc (.slice la l.length lc) l::I) ∧
   (∀ q∈Q,Good K M l.length (rsP q))∧(∀ q∈Q,(q.2.1,q.2.2.2)∈D'∧(q.1,q.2.2.1)∈B')∧Q.length≤60100∧SpotsR l (startP l.length U0) b Q):=fun hc=>by
  refine rs_main (K:=K) (M:=M) (t0:=startP l.length (U.map Prod.snd)) s6 hn hK hw hM gR dR (by omega) hb (fun ho=>?_) (fun ho=>?_) ?_
  ·simp only [startP,List.length_map]; omega
  ·have:k=U.length:=by
    rcases Nat.lt_or_ge k U.length with hlt | hlt
    ·exact absurd ⟨hlt,ho⟩ hc
    ·omega
   rw [eR,this,List.take_length]
  ·intro w7 Q7 D7 B7 v7 s7 g7 d7 l7 r7
   exact ⟨_,Q7,D7,B7,m,hU,s7.sub ((List.Sublist.refl _).append (List.sublist_cons_self _ _)),g7,d7,l7,r7⟩
 obtain ⟨ra,rc,rfl,_⟩:=own_slice (s6.row 0 rfl)
 by_cases hlt:k<U.length
 ·have hlt':(k:Int)<U.length:=by omega
  by_cases ho:(R.length:Int)≤b
  ·obtain ⟨g,rfl⟩:=own_ptr (s6.row 2 rfl) (by omega)
   have ek:=(own_cell (s6.row 2 rfl)).1 k U[k].1 (by simp [hlt])
   have memU:=List.getElem_mem hlt
   have hDk:(U[k].1,U[k].2)∈D:=hED _ (hUE _ memU)
   have hsk:RdS w6 1 intE U[k].1 U[k].2:=(s6.inv (Inv.vs D) (List.mem_cons_self ..)).1 _ hDk
   obtain ⟨sa,sc,hsf,_⟩:=hsk.form
   have gk:=gU _ memU
   simp (disch:=first|omega|exact zF rfl|exact zG rfl|exact fun h=>h|(simp only[zA,zB,zC,zD,bytesW];omega)) only[go_sem,c45S1,c45S7,c45S13,c45S14,c45S16,hlt',ho]
   refine rs_new (sv:=U[k].1) hn hlt (by rw [Addr.add_lit,Nat.zero_add]; exact ek) ⟨_,_,_,hsf⟩ ?_
   intro w7 y g7 t7
   have s7:=St.join s6.drew t7
   have r7:=s7.rules 0 rfl
   rw [hsf] at r7
   have hd7:=rd_false (s7.blk 1 rfl)
   have hs7:RdS w7 1 intE (.slice sa U[k].2.length sc) U[k].2:=by rw [← hsf]; exact (s7.inv (Inv.vs D) (List.mem_cons_self ..)).1 _ hDk
   simp (disch:=first|omega|exact zF rfl|exact zG rfl|exact fun h=>h|(simp only[zA,zB,zC,zD,bytesW];omega)) only[go_sem,c45S1,c45S7,c45S13,c45S14,c45S16,r7]
   refine Ret.mono (key_ok hd7 hs7 (gk.okS (by omega)) (by simp; omega)) ?_
   rintro _ w8 ⟨rfl,b8⟩
   have s8:=s7.call b8
   simp (disch:=first|omega|exact zF rfl|exact zG rfl|exact fun h=>h|(simp only[zA,zB,zC,zD,bytesW];omega)) only[go_sem,c45S1,c45S7,c45S13,c45S14,c45S16]
   have hnk:keyL (List.replicate l.length false) U[k].2 ∉ R.map rkey:=fun hin=>by
    have:=(rkey_iff (M:=M) (Q:=R) (q:=((Value.slice none 0 0:Value),(Value.slice none 0 0:Value),(List.replicate l.length false,U[k].2))) (by omega) gR gk).1 hin
    rw [eR] at this
    obtain ⟨t,ht,e⟩:=List.mem_map.1 this
    simp only [rsP,Prod.mk.injEq,true_and] at e
    subst e
    have hnd:=uniq_nodup hU
    rw [← List.take_append_drop k U,List.map_append,List.nodup_append] at hnd
    refine hnd.2.2 _ ht _ (List.mem_map.2 ⟨U[k],?_,rfl⟩) rfl
    rw [List.drop_eq_getElem_cons hlt]; exact List.mem_cons_self ..
   refine muW_map keyT_s Tryz.underlying73 (s8.obj 3 rfl) (keyL (List.replicate l.length false) U[k].2) hnk ?_
   have s9:=s8.putObj 3 rfl (mapO strE (R.map rkey++[keyL (List.replicate l.length false) U[k].2]))
   simp only [List.set_cons_zero,List.set_cons_succ,RL,List.cons_append,List.nil_append] at s9
   generalize w8.putObj m (mapO strE (R.map rkey++[keyL (List.replicate l.length false) U[k].2]))=w9 at s9 ⊢
   have r9:=s9.rules 0 rfl
   rw [hsf] at r9
   simp (disch:=first|omega|exact zF rfl|exact zG rfl|exact fun h=>h|(simp only[zA,zB,zC,zD,bytesW];omega)) only[go_sem,c45S1,c45S7,c45S13,c45S14,c45S16,r9]
   refine bsW_agg ty84mkI rfl (by decide) (by decide) ?_
   simp (disch:=first|omega|exact zF rfl|exact zG rfl|exact fun h=>h|(simp only[zA,zB,zC,zD,bytesW];omega)) only[go_sem,c45S1,c45S7,c45S13,c45S14,c45S16]
   have hx:Rd (w9.alloc (.cells #[.slice (some ⟨g7,0,none⟩) l.length l.length,.slice sa U[k].2.length sc] 90)) 2 (.slice (some ⟨w9.heap.size,0,none⟩) 1 1) 1 [.slice (some ⟨g7,0,none⟩) l.length l.length,.slice sa U[k].2.length sc]:=rd_new (n:=1) (cs:=#[.slice (some ⟨g7,0,none⟩) l.length l.length,.slice sa U[k].2.length sc]) rfl
   refine (s9.alloc' (.cells #[.slice (some ⟨g7,0,none⟩) l.length l.length,.slice sa U[k].2.length sc] 90)).append 2 rfl ty84mkI rfl (by decide) hx (by intro u hu; simp only [List.mem_cons,List.not_mem_nil,or_false] at hu; rcases hu with rfl | rfl <;> rfl) (by omega) (by omega) ?_
   intro v10 w10 s10 c10
   simp only [List.set_cons_zero,List.set_cons_succ] at s10
   simp (disch:=first|omega|exact zF rfl|exact zG rfl|exact fun h=>h|(simp only[zA,zB,zC,zD,bytesW];omega)) only[go_sem,c45S1,c45S7,c45S13,c45S14,c45S16]
   have s11:=bs_seal2 (v:=.slice (some ⟨g7,0,none⟩) l.length l.length) (d:=List.replicate l.length false) (s10.sub (List.sublist_cons_self _ _)) (rd_false (s10.blk 1 rfl)) (fun k hk=>by have:=slFoot_own hk; exact this)
   have s12:=s11.sub (L':=RL m v10 (R++[((Value.slice (some ⟨g7,0,none⟩) l.length l.length:Value),U[k].1,(List.replicate l.length false,U[k].2))])++(.row (.slice (some ⟨g,0,none⟩) U.length fc) 25 1 U.length (U.map Prod.fst)::L)) (by
    unfold RL
    rw [List.length_append,List.flatMap_append,List.map_append,hsf]
    exact List.Sublist.refl _)
   refine ⟨⟨by omega,by omega⟩,(k+1,v10,R++[((Value.slice (some ⟨g7,0,none⟩) l.length l.length:Value),U[k].1,(List.replicate l.length false,U[k].2))],(.slice (some ⟨g7,0,none⟩) l.length l.length,List.replicate l.length false)::C),rfl,⟨s12,by simp only; omega,by simp [hRk],.inr (by simp only; omega),?_,fun q hq=>?_⟩,by simp only; omega⟩
   ·simp only
    rw [List.map_append,eR,List.take_succ_eq_append_getElem hlt]
    unfold startP
    rw [List.map_append,List.map_append]
    rfl
   ·rcases List.mem_append.1 hq with hq | hq
    ·exact ⟨(dR q hq).1,List.mem_cons_of_mem _ (dR q hq).2⟩
    ·rw [List.mem_singleton] at hq; subst hq
     exact ⟨hDk,List.mem_cons_self ..⟩
  ·simp (disch:=first|omega|exact zF rfl|exact zG rfl|exact fun h=>h|(simp only[zA,zB,zC,zD,bytesW];omega)) only[go_sem,c45S1,c45S7,c45S13,c45S14,hlt',ho]
   exact fin fun hc=>ho hc.2
 ·have hlt':¬ (k:Int)<U.length:=by omega
  simp (disch:=first|omega|exact zF rfl|exact zG rfl|exact fun h=>h|(simp only[zA,zB,zC,zD,bytesW];omega)) only[go_sem,c45S1,c45S7,c45S13,c45S14,hlt']
  exact fin fun hc=>hlt hc.1
open Go Go.Ann Go.RowKit
theorem vs_old{W0 w:World}{F:Nat→Prop}{L:List Res}{I:List Inv}{E:List VS}(h:St W0 w F L I)(hE:∀ p∈E,RdS W0 1 intE p.1 p.2):St W0 w F L (Inv.vs E::I) :=
 h.keep (Inv.vs E) (fun p hp=>(hE p hp).below h.bel (by decide)) fun k hk=>by
  obtain ⟨p,hp,hk⟩:=hk
  have hlt:=(hE p hp).footLt (by decide) hk
  have:=h.size
  exact ⟨by omega,fun hF=>by have:=(h.foot k hF).1; omega,fun r hr e=>by have:=((h.res r hr).1.lt k e).1; omega⟩
theorem rsearch_ok{w:World}{l:List OpT}{lv ev:Value}{ob kd budget K:Int}{E:List VS}{M:Nat}(h:RdS w 11 OpT.enc lv l)(hn:l.length≤16)(hK:∀ o∈l,o.Kind=K)(hw:∀ o∈l,o.wf)(hE:RowS w ev E)(hEl:E.length≤50000)(hM:M≤100000)
  (hEo:∀ p∈E,Ok64 p.2∧p.2.length≤M∧(K=5→p.2.Pairwise (· < ·))) (hb:I64 budget) :
  Ret Tryz.prog 21 [.agg #[.int .i64 ob,.int .i64 kd,lv],ev,.int .i64 budget] w fun u w'=>(∃ U0 r,Uniq (E.map Prod.snd) U0∧SearchR l (startP l.length U0) (min budget 32768) r∧SearchV w' l (E.map Prod.snd) U0 r u)∧Below w.heap.size w w':=by
 obtain ⟨la,lc,rfl,_⟩:=h.form
 refine ent21 _ _ _ _ _ ?_
 have s1:=((St.start (W0:=w)).box #[.int .i64 ob,.int .i64 kd,.slice la l.length lc] 47).box #[.slice none 0 0,.slice none 0 0,.int .i64 0] 43
 rw [World.size_alloc] at s1
 have hn':¬ (16:Int)<l.length:=by omega
 obtain ⟨b,hbd⟩:∃ b:Int,b=if budget<0 then -1 else min budget 32768:=⟨_,rfl⟩
 have hb32:b≤32768:=by rw [hbd]; split <;> omega
 have s2:=vs_old (s1.old h (by decide)) hE.rd
 have r2:=s2.rules 1 rfl
 have key:W Tryz.prog (sg c21S8) [(1,ev),(2,.int .i64 b),(3,.pointer (some ⟨w.heap.size,0,none⟩)),(6,.pointer (some ⟨w.heap.size+1,0,none⟩))]
   ((w.alloc (.cells #[.int .i64 ob,.int .i64 kd,.slice la l.length lc] 47)).alloc (.cells #[.slice none 0 0,.slice none 0 0,.int .i64 0] 43))
   (finQ Tryz.prog [.cell 6 43,.tmp 7] fun u w'=>(∃ U0 r,Uniq (E.map Prod.snd) U0∧SearchR l (startP l.length U0) (min budget 32768) r∧SearchV w' l (E.map Prod.snd) U0 r u)∧Below w.heap.size w w'):=by
  generalize (w.alloc (.cells #[.int .i64 ob,.int .i64 kd,.slice la l.length lc] 47)).alloc (.cells #[.slice none 0 0,.slice none 0 0,.int .i64 0] 43)=w2 at s2 r2 ⊢
  clear s1
  generalize hrr:w.heap.size+1=rr at s2 ⊢
  simp (disch:=first|omega|exact zF rfl|exact zG rfl|exact fun h=>h|(simp only[zA,zB,zC,zD,bytesW];omega)) only[go_sem,c21S4,c21S6,c21S8,r2]
  refine Ret.mono (spots_ok (K:=K) (M:=M) s2 (hE.below s2.bel) (fun p hp=>hp) hn hK hw hEl hM hEo hb32) ?_
  rintro ov w3 ⟨U0,Q,D,B,m,hU0,s3,gQ,dQ,hQl,hQR⟩
  obtain ⟨oa,oc,rfl,_⟩:=own_slice (s3.row 0 rfl)
  simp (disch:=first|omega|exact zF rfl|exact zG rfl|exact fun h=>h|(simp only[zA,zB,zC,zD,bytesW];omega)) only[go_sem,c21S4,c21S8]
  have q3:=s3.rules 2 rfl
  refine ⟨fun ho=>?_,fun ho=>?_⟩
  ·refine bdW_built (cells:=#[.slice none 0 0,.slice none 0 0,.int .i64 0]) (by kernel_rfl) ?_
   simp (disch:=first|omega|exact zF rfl|exact zG rfl|exact fun h=>h|(simp only[zA,zB,zC,zD,bytesW];omega)) only[go_sem,c21S4,c21S6,c21S8,q3]
   refine ⟨⟨U0,none,hU0,?_,rfl⟩,(s3.fill 2 rfl (cs:=#[.slice none 0 0,.slice none 0 0,.int .i64 0]) rfl).bel⟩
   rcases hQR with ⟨h1,N,h2⟩ | ⟨h1,h2⟩
   ·refine ⟨N,?_⟩
    rw [hbd] at h2
    split at h2 <;> omega
   ·omega
  ·have hR:SearchR l (startP l.length U0) (min budget 32768) (some (Q.map rsP)):=by
    rcases hQR with ⟨h1,_⟩ | ⟨h1,h2,h3⟩
    ·omega
    ·refine ⟨h2,?_⟩
     rw [hbd] at h3
     split at h3
     ·rw [List.length_map] at h3; omega
     ·exact h3
   simp (disch:=first|omega|exact zF rfl|exact zG rfl|exact fun h=>h|(simp only[zA,zB,zC,zD,bytesW];omega)) only[go_sem,c21S4,c21S6,c21S8]
   refine Ret.mono (sorted_ok _ E w3 (hE.below s3.bel) (fun p hp=>⟨(hEo p hp).1,by have:=(hEo p hp).2.1; omega⟩) (by omega)) ?_
   rintro uv w4 ⟨⟨U,hU,hUE,hrow⟩,b4⟩
   have s4:=s3.add b4 (.row uv 25 1 U.length (U.map Prod.fst)) (own_mono hrow s3.size) (fun k hk=>(World.ownsRow.lt hrow k hk).1)
   obtain ⟨ua,uc,rfl,_⟩:=own_slice hrow
   simp (disch:=first|omega|exact zF rfl|exact zG rfl|exact fun h=>h|(simp only[zA,zB,zC,zD,bytesW];omega)) only[go_sem,c21S4,c21S6,c21S8]
   refine bdW_built (cells:=#[.slice ua U.length uc,.slice none 0 0,.int .i64 Q.length]) (by kernel_rfl) ?_
   simp (disch:=first|omega|exact zF rfl|exact zG rfl|exact fun h=>h|(simp only[zA,zB,zC,zD,bytesW];omega)) only[go_sem,c21S6,c21S8]
   have s5:=(s4.box #[.slice ua U.length uc,.slice none 0 0,.int .i64 Q.length] 43).nilRow 25 1
   generalize w4.alloc (.cells #[.slice ua U.length uc,.slice none 0 0,.int .i64 Q.length] 43)=w5 at s5 ⊢
   generalize w4.heap.size=z at s5 ⊢
   refine W_loopU (fun x:Nat × Value × List VS=>[(10,.int .i64 x.1)]) (fun x w'=>St w w' (fun _=>False) (.row x.2.1 25 1 x.2.2.length (x.2.2.map Prod.fst)::.blk z #[.slice ua U.length uc,x.2.1,.int .i64 Q.length] 43::.row (.slice ua U.length uc) 25 1 U.length (U.map Prod.fst)::(RL m (.slice oa Q.length oc) Q++[Res.blk rr #[.slice none 0 0,.slice none 0 0,.int .i64 0] 43,Res.blk w.heap.size #[.int .i64 ob,.int .i64 kd,.slice la l.length lc] 47])) [Inv.vs D,Inv.bs B,Inv.rd 11 OpT.enc (.slice la l.length lc) l]∧x.1≤Q.length∧(∀ p∈x.2.2,p∈D)∧x.2.2.map Prod.snd=(((Q.map rsP).take x.1).filter fun p=>fullP l p.1).map Prod.snd) (fun x=>Q.length - x.1) (0,.slice none 0 0,[]) rfl ⟨s5,Nat.zero_le _,(fun p hp=>by cases hp),by simp⟩ ?_
   rintro ⟨i,xv,X⟩ w6 ⟨s6,hi,hX,eX⟩
   simp only at s6 hi hX eX
   obtain ⟨xa,xc,rfl,_⟩:=own_slice (s6.row 0 rfl)
   have hXl:X.length≤i:=by
    have e1:=congrArg List.length eX
    have e2:=List.length_filter_le (fun p:Spot=>fullP l p.1) ((Q.map rsP).take i)
    simp only [List.length_map,List.length_take] at e1 e2
    omega
   by_cases hlt:i<Q.length
   ·have hlt':(i:Int)<Q.length:=by omega
    obtain ⟨g,rfl⟩:=own_ptr (s6.row 3 rfl) (by omega)
    have ee:=(RdS.of_own' (enc:=rsE) (s6.row 3 rfl) Q rfl rfl).elt (fun _=>rfl) (by decide) hlt
    have hmemQ:Q[i]∈Q:=List.getElem_mem hlt
    have gi:=gQ _ hmemQ
    have di:=dQ _ hmemQ
    obtain ⟨⟨dv,sv,d,s⟩,hri⟩:∃ q,Q[i]=q:=⟨_,rfl⟩
    rw [hri,Addr.add_lit,Nat.zero_add] at ee
    rw [hri] at gi di
    have e0:w6.cell? ⟨g,i * 2,none⟩=some dv:=ee.1
    have e1:w6.cell? ⟨g,i * 2+1,none⟩=some sv:=by
     have:=ee.2 1 (by decide) (by decide)
     simp only [Nat.zero_add] at this
     exact this
    have hdv:RdS w6 1 boolE dv d:=(s6.inv (Inv.bs B) (by simp)).1 _ di.2
    have hsv:RdS w6 1 intE sv s:=(s6.inv (Inv.vs D) (by simp)).1 _ di.1
    obtain ⟨da,dc,rfl,_⟩:=hdv.form
    obtain ⟨sa,sc,rfl,_⟩:=hsv.form
    have lg:g<w6.heap.size:=World.block_lt_of_cell? w6 ⟨g,i * 2,none⟩ e0
    have rs:=s6.rules 6 rfl
    have ls:=(s6.low 6 rfl).2
    have hl6:RdS w6 11 OpT.enc (.slice la l.length lc) l:=s6.rd 2 rfl
    simp (disch:=first|omega|exact zF rfl|exact zG rfl|exact fun h=>h|(simp only[zA,zB,zC,zD,bytesW];omega)) only[go_sem,c21S4,c21S6,c21S8,hlt']
    refine c21draw0 (Chg (fun _=>False) _) (Chg.refl _ _) ?_
    simp (disch:=first|omega|exact zF rfl|exact zG rfl|exact fun h=>h|(simp only[zA,zB,zC,zD,bytesW];omega)) only[go_sem,c21S4,c21S6,c21S8,c21D0,e0,rs]
    have hb6:Below w6.heap.size w6 w6.drew:=(Below.refl _ w6).drew
    refine ⟨⟨by omega,by omega⟩,Ret.mono (rfull_ok (hl6.below hb6 (by decide)) (hdv.below hb6 (by decide)) gi.len hn) ?_⟩
    rintro _ _ ⟨rfl,rfl⟩
    have s7:=s6.drew
    have tk7:(Q.map rsP).take (i+1)=(Q.map rsP).take i++[(d,s)]:=by
     rw [List.take_succ_eq_append_getElem (by rw [List.length_map]; exact hlt),List.getElem_map,hri]; rfl
    cases hfu:fullP l d with
    | false =>
     simp (disch:=first|omega|exact zF rfl|exact zG rfl|exact fun h=>h|(simp only[zA,zB,zC,zD,bytesW];omega)) only[go_sem,c21S4,c21S6,c21S8,c21D0]
     refine ⟨⟨by omega,by omega⟩,(i+1,.slice xa X.length xc,X),rfl,⟨s7,by simp only; omega,hX,?_⟩,by simp only; omega⟩
     simp only
     rw [tk7,List.filter_append,List.map_append,eX]
     simp [hfu]
    | true =>
     have e1':w6.drew.cell? ⟨g,i * 2+1,none⟩=some (.slice sa s.length sc):=e1
     have z6:=s6.rules 1 rfl
     have lz:=(s6.low 1 rfl).2
     have lg':g<w6.drew.heap.size:=lg
     simp (disch:=first|omega|exact zF rfl|exact zG rfl|exact fun h=>h|(simp only[zA,zB,zC,zD,bytesW];omega)) only[go_sem,c21S4,c21S6,c21S8,c21D0]
     refine c21draw1 (Chg (fun _=>False) _) (Chg.refl _ _) ?_
     have hgz:g≠z:=fun e=>s6.ne 1 3 rfl rfl (by decide) (k:=z) rfl (by rw [e]; rfl)
     simp (disch:=first|omega|exact zF rfl|exact zG rfl|exact fun h=>h|(simp only[zA,zB,zC,zD,bytesW];omega)) only[go_sem,c21S4,c21S6,c21S8,c21D1,e1,z6]
     refine ⟨⟨by omega,by omega⟩,?_⟩
     refine bsW_ones ty41mkI rfl rfl (by decide) (by decide) (by intro v hv; rw [List.mem_singleton] at hv; subst hv; rfl) ?_
     simp (disch:=first|omega|exact zF rfl|exact zG rfl|exact fun h=>h|(simp only[zA,zB,zC,zD,bytesW];omega)) only[go_sem,c21S4,c21S6,c21S8,c21D1]
     have hx:Rd (w6.drew.drew.alloc (.cells #[.slice sa s.length sc] 25)) 1 (.slice (some ⟨w6.drew.drew.heap.size,0,none⟩) 1 1) 1 [.slice sa s.length sc]:=rd_new (n:=1) (cs:=#[.slice sa s.length sc]) rfl
     have s8:=(s7.drew.alloc' (.cells #[.slice sa s.length sc] 25))
     refine ⟨Chg.of_below ((Below.refl _ _).alloc (Nat.le_refl _) _),s8.append 0 rfl ty41mkI rfl (by decide) hx (by intro v hv; rw [List.mem_singleton] at hv; subst hv; rfl) (by omega) (by omega) ?_⟩
     intro v9 w9 s9 c9
     simp only [List.set_cons_zero] at s9
     obtain ⟨a9,d9,rfl,_⟩:=own_slice (s9.row 0 rfl)
     have z9:=s9.rules 1 rfl
     simp (disch:=first|omega|exact zF rfl|exact zG rfl|exact fun h=>h|(simp only[zA,zB,zC,zD,bytesW];omega)) only[go_sem,c21S4,c21S6,c21S8,c21D1,z9]
     have s10:=s9.set 1 rfl 1 (.slice a9 (X.length+1) d9)
     simp only [List.set_cons_zero,List.set_cons_succ] at s10
     have ex:X.length+1=(X++[((Value.slice sa s.length sc:Value),s)]).length:=by simp
     have ey:X.map Prod.fst++[Value.slice sa s.length sc]=(X++[((Value.slice sa s.length sc:Value),s)]).map Prod.fst:=by simp
     rw [ex,ey] at s10
     rw [ex]
     refine ⟨⟨by omega,by omega⟩,(i+1,.slice a9 (X++[((Value.slice sa s.length sc:Value),s)]).length d9,X++[((Value.slice sa s.length sc:Value),s)]),rfl,⟨s10,by simp only; omega,fun p hp=>?_,?_⟩,by simp only; omega⟩
     ·rcases List.mem_append.1 hp with hp | hp
      ·exact hX p hp
      ·rw [List.mem_singleton] at hp; subst hp; exact di.1
     ·simp only
      rw [tk7,List.filter_append,List.map_append,List.map_append,eX]
      simp [hfu]
   ·have hlt':¬ (i:Int)<Q.length:=by omega
    simp (disch:=first|omega|exact zF rfl|exact zG rfl|exact fun h=>h|(simp only[zA,zB,zC,zD,bytesW];omega)) only[go_sem,c21S6,c21S8,hlt']
    have hD6:=s6.inv (Inv.vs D) (by simp)
    have hXr:RowS w6 (.slice xa X.length xc) X:=⟨Rd.of_own (s6.row 0 rfl),fun p hp=>hD6.1 p (hX p hp)⟩
    have eX':X.map Prod.snd=((Q.map rsP).filter fun p=>fullP l p.1).map Prod.snd:=by
     rw [eX,List.take_of_length_le (by rw [List.length_map]; omega)]
    have hXo:∀ p∈X,OkS p.2:=fun p hp=>by
     have:p.2∈X.map Prod.snd:=List.mem_map.2 ⟨p,hp,rfl⟩
     rw [eX'] at this
     obtain ⟨q,hq,e⟩:=List.mem_map.1 this
     obtain ⟨t,ht,rfl⟩:=List.mem_map.1 (List.mem_filter.1 hq).1
     rw [← e]
     exact (gQ t ht).okS (by omega)
    have z6:=s6.rules 1 rfl
    simp (disch:=first|omega|exact zF rfl|exact zG rfl|exact fun h=>h|(simp only[zA,zB,zC,zD,bytesW];omega)) only[go_sem,c21S4,c21S6,c21S8,z6]
    refine Ret.mono (sorted_ok _ X w6 hXr hXo (by omega)) ?_
    rintro xv w7 ⟨⟨V,hV,hVX,hrowV⟩,b7⟩
    have s7:=s6.add b7 (.row xv 25 1 V.length (V.map Prod.fst)) (own_mono hrowV s6.size) (fun k hk=>(World.ownsRow.lt hrowV k hk).1)
    obtain ⟨va,vc,rfl,_⟩:=own_slice hrowV
    have z7:=s7.rules 2 rfl
    have q7:=s7.rules 6 rfl
    have lzr:z≠rr:=fun e=>s7.ne 2 6 rfl rfl (by decide) (k:=z) rfl (by rw [e]; rfl)
    simp (disch:=first|omega|exact zF rfl|exact zG rfl|exact fun h=>h|(simp only[zA,zB,zC,zD,bytesW];omega)) only[go_sem,c21S4,c21S6,c21S8,z7,q7]
    have s8:=(s7.set 2 rfl 1 (.slice va V.length vc)).fill 6 rfl (cs:=#[.slice ua U.length uc,.slice va V.length vc,.int .i64 Q.length]) rfl
    have eQ:Q.length=(Q.map rsP).length:=by simp
    have hD8:=s8.inv (Inv.vs D) (by simp)
    refine ⟨⟨U.map Prod.snd,some (Q.map rsP),hU,by rw [hU.one hU0]; exact hR,.slice ua U.length uc,.slice va V.length vc,U,V,by rw [← eQ],⟨Rd.of_own (s8.row 3 rfl),fun p hp=>(hE.rd p (hUE p hp)).below s8.bel (by decide)⟩,rfl,⟨Rd.of_own (s8.row 0 rfl),fun p hp=>hD8.1 p (hX p (hVX p hp))⟩,?_⟩,s8.bel⟩
    rw [← eX']; exact hV
 simp (disch:=first|omega|exact zF rfl|exact zG rfl|exact fun h=>h|(simp only[zA,zB,zC,zD,bytesW];omega)) only[go_sem,c21S4,c21S6,hn']
 refine ⟨fun h0=>?_,fun h0=>⟨fun h1=>?_,fun h1=>?_⟩⟩
 ·have e:b = -1:=by rw [hbd,if_pos h0]
  rw [e] at key; exact key
 ·have e:b=32768:=by rw [hbd,if_neg (by omega)]; omega
  rw [e] at key; exact key
 ·have e:b=budget:=by rw [hbd,if_neg (by omega)]; omega
  rw [e] at key; exact key
open Go Go.Ann Go.RowKit Go.WideShapes
structure Seg where
 obj:Int
 kind:Int
 ops:List OpT
open Go Go.Ann Go.RowKit
def Tells(u:Value)(p:Prop):Prop:=∃ b,u=.bool b∧(b=true→p)
open Go Go.Ann Go.RowKit
def newAt(l:List OpT)(p:Spot)(k:Nat):List Spot :=
 match l[k]? with
 | none=>[]
 | some o=>if mayP l p.1 k o then (match stepP p.2 o with
  | some s=>[(p.1.set k true,s)]
  | none=>[]) else []
def nextL(l:List OpT)(p:Spot):Nat→List Spot
 | 0=>[]
 | k+1=>nextL l p k++newAt l p k
theorem goP_eq(l:List OpT)(p:Spot)(t:List Spot)(k:Nat):goP l p t k=(match newAt l p k with | []=>t | q::_=>addP t q):=by
 unfold goP newAt
 cases l[k]? with
 | none=>rfl
 | some o =>
  simp only
  cases mayP l p.1 k o with
  | false=>rfl
  | true =>
   simp only [if_true]
   cases stepP p.2 o <;> rfl
theorem newAt_one(l:List OpT)(p:Spot)(k:Nat):newAt l p k=[]∨∃ q,newAt l p k=[q]:=by
 unfold newAt
 split
 ·exact .inl rfl
 ·split
  ·split
   ·exact .inr ⟨_,rfl⟩
   ·exact .inl rfl
  ·exact .inl rfl
theorem addP_mem{t:List Spot}{p q:Spot}:q∈addP t p↔q∈t∨q=p:=by
 unfold addP
 split
 ·rename_i h
  exact ⟨.inl,fun h'=>h'.elim id fun e=>by rw [e]; exact h⟩
 ·rw [List.mem_append,List.mem_singleton]
theorem roundK_mem{l:List OpT}{p:Spot}{t:List Spot}{q:Spot}:∀ k,q∈roundK l p t k↔q∈t∨q∈nextL l p k
 | 0=>by simp [roundK,nextL]
 | k+1=>by
  have ih:=roundK_mem (l:=l) (p:=p) (t:=t) (q:=q) k
  rw [roundK,nextL,List.mem_append,goP_eq]
  rcases newAt_one l p k with e | ⟨r,e⟩
  ·rw [e,ih]; simp
  ·rw [e]
   simp only
   rw [addP_mem,ih,List.mem_singleton,or_assoc]
inductive Rch(l:List OpT):Spot→Spot→Prop
 | refl (p:Spot):Rch l p p
 | step {p q r:Spot}:Rch l p q→r∈nextL l q l.length→Rch l p r
theorem bfsN_rch{l:List OpT}{t0:List Spot}:∀ N,∀ q∈bfsN l t0 N,∃ p∈t0,Rch l p q
 | 0=>fun q hq=>⟨q,hq,.refl q⟩
 | N+1=>by
  intro q hq
  rw [bfsN] at hq
  split at hq
  ·rename_i p hp
   rcases (roundK_mem _).1 hq with hq | hq
   ·exact bfsN_rch N q hq
   ·obtain ⟨p0,h0,hr⟩:=bfsN_rch N p (List.mem_of_getElem? hp)
    exact ⟨p0,h0,.step hr hq⟩
  ·exact bfsN_rch N q hq
theorem bfsN_done{l:List OpT}{t0:List Spot}:∀ {N i:Nat} {p:Spot},i<N→(bfsN l t0 N)[i]?=some p→∀ q∈nextL l p l.length,q∈bfsN l t0 N
 | 0,i,p,h,_=>by omega
 | N+1,i,p,h,hp=>by
  intro q hq
  have hpre:=bfsN_step l t0 N
  rcases Nat.lt_or_ge i N with hi | hi
  ·by_cases hl:i<(bfsN l t0 N).length
   ·have hp':(bfsN l t0 N)[i]?=some p:=by
     obtain ⟨t,ht⟩:=hpre
     rw [← ht,List.getElem?_append_left hl] at hp
     exact hp
    exact hpre.subset (bfsN_done hi hp' q hq)
   ·have hc:bfsN l t0 (N+1)=bfsN l t0 N:=bfsN_closed (by omega) (by omega)
    rw [hc,List.getElem?_eq_none (by omega)] at hp
    cases hp
  ·obtain rfl:i=N:=by omega
   by_cases hl:i<(bfsN l t0 i).length
   ·have hp':(bfsN l t0 i)[i]?=some p:=by
     obtain ⟨t,ht⟩:=hpre
     rw [← ht,List.getElem?_append_left hl] at hp
     exact hp
    rw [bfsN,hp']
    exact (roundK_mem _).2 (.inr hq)
   ·have hc:bfsN l t0 (i+1)=bfsN l t0 i:=bfsN_closed (by omega) (by omega)
    rw [hc,List.getElem?_eq_none (by omega)] at hp
    cases hp
theorem closed_mem{l:List OpT}{t0 T:List Spot}(h:∃ N,bfsN l t0 N=T∧T.length≤N)(q:Spot):q∈T↔∃ p∈t0,Rch l p q:=by
 obtain ⟨N,rfl,hN⟩:=h
 refine ⟨bfsN_rch N q,?_⟩
 rintro ⟨p,hp,hr⟩
 induction hr with
 | refl=>exact (bfsN_mono l t0 (Nat.zero_le N)).subset hp
 | step _ hs ih =>
  obtain ⟨i,hi,e⟩:=List.mem_iff_getElem.1 ih
  exact bfsN_done (i:=i) (N:=N) (Nat.lt_of_lt_of_le hi hN) (by rw [List.getElem?_eq_getElem hi,e]) _ hs
theorem exits_mem{l:List OpT}{T:List Spot}{X:List (List Int)}(h:Uniq ((T.filter fun p=>fullP l p.1).map Prod.snd) X)(s:List Int):s∈X↔∃ d,(d,s)∈T∧fullP l d=true:=by
 rw [h.2 s,List.mem_map]
 constructor
 ·rintro ⟨⟨d,s'⟩,hp,rfl⟩
  obtain ⟨h1,h2⟩:=List.mem_filter.1 hp
  exact ⟨d,h1,h2⟩
 ·rintro ⟨d,h1,h2⟩
  exact ⟨(d,s),List.mem_filter.2 ⟨h1,h2⟩,rfl⟩
theorem RowS.ones{w:World}{v:Value}{D:List VS}(h:RowS w v D):∀ u∈D.map Prod.fst,u.oneCell'=true:=fun u hu=>by
 obtain ⟨p,hp,rfl⟩:=List.mem_map.1 hu
 obtain ⟨a,c,e,_⟩:=(h.rd p hp).form
 rw [e]; rfl
theorem SearchV.form{w':World}{l:List OpT}{E U0:List (List Int)}{r:Option (List Spot)}{u:Value}(h:SearchV w' l E U0 r u):∃ ya yn yc xa xn xc nn ue,u=.tuple #[.agg #[.slice ya yn yc,.slice xa xn xc,.int .i64 nn],.int .i64 ue]∧(ue=if r.isSome then 0 else 35):=by
 cases r with
 | none=>exact ⟨_,_,_,_,_,_,_,_,h,rfl⟩
 | some T =>
  obtain ⟨_,_,_,_,e,g1,_,g2,_⟩:=h
  obtain ⟨_,_,rfl,_⟩:=g1.form
  obtain ⟨_,_,rfl,_⟩:=g2.form
  exact ⟨_,_,_,_,_,_,_,_,e,rfl⟩
theorem SearchV.some{w':World}{l:List OpT}{E U0:List (List Int)}{T:List Spot}{ya xa:Option Addr}{yn yc xn xc:Nat}{nn ue:Int}(h:SearchV w' l E U0 (some T) (.tuple #[.agg #[.slice ya yn yc,.slice xa xn xc,.int .i64 nn],.int .i64 ue])) :
  ue=0∧nn=T.length∧∃ U X,RowS w' (.slice ya yn yc) U∧U.map Prod.snd=U0∧RowS w' (.slice xa xn xc) X∧Uniq ((T.filter fun p=>fullP l p.1).map Prod.snd) (X.map Prod.snd):=by
 obtain ⟨uv,xv,U,X,e,h1,h2,h3,h4⟩:=h
 simp only [Value.tuple.injEq,Array.mk.injEq,List.cons.injEq,Value.agg.injEq,Value.int.injEq,true_and,and_true] at e
 obtain ⟨⟨rfl,rfl,rfl⟩,rfl⟩:=e
 exact ⟨rfl,rfl,U,X,h1,h2,h3,h4⟩
theorem row1{w:World}{ev:Value}{s:List Int}{t:TypeId}(h:RdS w 1 intE ev s):RowS (w.alloc (.cells #[ev] t)) (.slice (some ⟨w.heap.size,0,none⟩) 1 1) [(ev,s)] :=
 ⟨rd_new (sz:=1) (n:=1) rfl,fun p hp=>by
  rw [List.mem_singleton] at hp; subst hp
  exact h.below ((Below.refl _ w).alloc (Nat.le_refl _) _) (by decide)⟩
open Go Go.Ann Go.RowKit
theorem runP_snoc:∀ (A:List OpT) (s t u:List Int) (o:OpT),runP s A=some t→stepP t o=some u→runP s (A++[o])=some u
 | [],s,t,u,o,h,h2=>by
  cases h
  rw [List.nil_append,runP,h2]
  rfl
 | a::A,s,t,u,o,h,h2=>by
  rw [List.cons_append,runP]
  rw [runP] at h
  cases e:stepP s a with
  | none=>rw [e] at h; cases h
  | some v =>
   rw [e] at h
   exact runP_snoc A v t u o h h2
theorem mayP_bef{l:List OpT}{d:List Bool}{k:Nat}{o:OpT}(hl:d.length=l.length)(h:mayP l d k o=true):d.getD k false=false∧∀ j,(hj:j<l.length)→before l[j] o=true→d.getD j false=true:=by
 unfold mayP at h
 rw [Bool.and_eq_true,List.all_eq_true] at h
 refine ⟨by simpa using h.1,fun j hj hb=>?_⟩
 have:=h.2 (before l[j] o,d[j]'(by omega)) (by
  refine List.mem_iff_getElem.2 ⟨j,by simp; omega,?_⟩
  rw [List.getElem_zip,List.getElem_map])
 simp only [hb,Bool.not_true,Bool.or_false] at this
 rw [List.getD_eq_getElem?_getD,List.getElem?_eq_getElem (show j<d.length by omega),this]
 rfl
structure Took(l:List OpT)(p q:Spot)(ks:List Nat):Prop where
 len:q.1.length=p.1.length
 lt:∀ k∈ks,k<l.length
 marks:∀ k,q.1.getD k false=true↔p.1.getD k false=true∨k∈ks
 nd:ks.Nodup
 run:∃ A,A.length=ks.length∧(∀ i,(h:i<ks.length)→A[i]?=l[ks[i]]?)∧runP p.2 A=some q.2∧A.Pairwise fun a b=>before b a=false
 bef:∀ i∈ks,∀ j,(hj:j<l.length)→(hi:i<l.length)→before l[j] l[i]=true→q.1.getD j false=true
theorem rch_took{l:List OpT}{p q:Spot}(hp:p.1.length=l.length)(h:Rch l p q):∃ ks,Took l p q ks:=by
 induction h with
 | refl=>exact ⟨[],rfl,fun k h=>(by cases h),fun k=>by simp,List.nodup_nil,⟨[],rfl,fun i h=>by simp at h,rfl,List.Pairwise.nil⟩,fun i h=>by cases h⟩
 | step h1 hs ih =>
  rename_i q r
  obtain ⟨ks,hk⟩:=ih
  have hql:q.1.length=l.length:=by rw [hk.len,hp]
  obtain ⟨k,hkl,hf,e1,hm,hst⟩:∃ k,∃ h:k<l.length,q.1.getD k false=false∧r.1=q.1.set k true∧mayP l q.1 k l[k]=true∧stepP q.2 l[k]=some r.2:=by
   have hs':∀ n,r∈nextL l q n→∃ k,r∈newAt l q k:=by
    intro n
    induction n with
    | zero=>intro h; simp [nextL] at h
    | succ n ih =>
     intro h
     rw [nextL,List.mem_append] at h
     rcases h with h | h
     ·exact ih h
     ·exact ⟨n,h⟩
   obtain ⟨k,hk2⟩:=hs' _ hs
   unfold newAt at hk2
   cases e:l[k]? with
   | none=>rw [e] at hk2; simp at hk2
   | some o =>
    obtain ⟨hkl,rfl⟩:=List.getElem?_eq_some_iff.1 e
    rw [e] at hk2
    simp only at hk2
    cases hm:mayP l q.1 k l[k] with
    | false=>rw [hm] at hk2; simp at hk2
    | true =>
     rw [hm] at hk2
     cases hst:stepP q.2 l[k] with
     | none=>rw [hst] at hk2; simp at hk2
     | some u =>
      rw [hst] at hk2
      simp only [if_true,List.mem_singleton] at hk2
      subst hk2
      exact ⟨k,hkl,(mayP_bef hql hm).1,rfl,hm,hst⟩
  obtain ⟨_,hb⟩:=mayP_bef hql hm
  obtain ⟨A,a1,a2,a3,a4⟩:=hk.run
  have hget:∀ j,r.1.getD j false=true↔q.1.getD j false=true∨j=k:=fun j=>by
   rw [e1]
   by_cases e:k=j
   ·subst e
    rw [getD_set_eq (by omega)]
    simp
   ·rw [getD_set_ne e]
    constructor
    ·exact .inl
    ·rintro (h | h)
     ·exact h
     ·exact absurd h.symm e
  have hkn:k ∉ ks:=fun h=>by
   have:=(hk.marks k).2 (.inr h)
   rw [hf] at this
   cases this
  refine ⟨ks++[k],by rw [e1,List.length_set,hk.len],fun j hj=>?_,fun j=>?_,?_,⟨A++[l[k]],by simp [a1],fun i hi=>?_,runP_snoc A _ _ _ _ a3 hst,?_⟩,fun i hi j hj hil hbj=>?_⟩
  ·rcases List.mem_append.1 hj with hj | hj
   ·exact hk.lt j hj
   ·rw [List.mem_singleton] at hj
    omega
  ·rw [hget,hk.marks,List.mem_append,List.mem_singleton,or_assoc]
  ·exact List.nodup_append.2 ⟨hk.nd,by simp,fun a ha b hb e=>by rw [List.mem_singleton] at hb; subst hb e; exact hkn ha⟩
  ·by_cases hi2:i<ks.length
   ·rw [List.getElem?_append_left (by omega),List.getElem_append_left hi2]
    exact a2 i hi2
   ·rw [List.length_append,List.length_singleton] at hi
    obtain rfl:i=ks.length:=by omega
    rw [List.getElem?_append_right (by omega),a1,Nat.sub_self,List.getElem_append_right (Nat.le_refl _)]
    simp
  ·refine List.pairwise_append.2 ⟨a4,List.pairwise_singleton _ _,fun a ha b hb=>?_⟩
   rw [List.mem_singleton] at hb
   subst hb
   obtain ⟨i,hi,rfl⟩:=List.mem_iff_getElem.1 ha
   have e2:=a2 i (by omega)
   rw [List.getElem?_eq_getElem hi] at e2
   have hil:=hk.lt (ks[i]'(by omega)) (List.getElem_mem _)
   rw [List.getElem?_eq_getElem hil] at e2
   cases e3:before l[k] A[i]
   ·rfl
   ·rw [Option.some.inj e2] at e3
    have:=hk.bef _ (List.getElem_mem _) k hkl hil e3
    rw [hf] at this
    cases this
  ·rcases List.mem_append.1 hi with hi | hi
   ·exact (hget j).2 (.inl (hk.bef i hi j hj hil hbj))
   ·rw [List.mem_singleton] at hi
    subst hi
    exact (hget j).2 (.inl (hb j hj hbj))
theorem order_of{l:List OpT}(hn:l.Nodup){d:List Bool}{s t:List Int}(h:Rch l (List.replicate l.length false,s) (d,t))(hf:fullP l d=true):∃ A,A.Nodup∧(∀ o∈A,o∈l)∧(∀ o∈l,o.Done=true→o∈A)∧(A.Pairwise fun a b=>before b a=false)∧runP s A=some t:=by
 obtain ⟨ks,hk⟩:=rch_took (by simp) h
 obtain ⟨A,a1,a2,a3,a4⟩:=hk.run
 have hget:∀ i,(h:i<A.length)→∃ h2:ks[i]'(by omega)<l.length,A[i]=l[ks[i]'(by omega)]:=fun i hi=>by
  have e2:=a2 i (by omega)
  rw [List.getElem?_eq_getElem hi] at e2
  have hil:=hk.lt (ks[i]'(by omega)) (List.getElem_mem _)
  rw [List.getElem?_eq_getElem hil] at e2
  exact ⟨hil,Option.some.inj e2⟩
 refine ⟨A,?_,fun o ho=>?_,fun o ho hd=>?_,a4,a3⟩
 ·unfold List.Nodup
  refine List.pairwise_iff_getElem.2 fun i j hi hj hij e=>?_
  obtain ⟨h1,e1⟩:=hget i hi
  obtain ⟨h2,e2⟩:=hget j hj
  rw [e1,e2] at e
  have:=(List.getElem_inj hn).1 e
  have h3:=List.pairwise_iff_getElem.1 hk.nd i j (by omega) (by omega) hij
  exact h3 this
 ·obtain ⟨i,hi,rfl⟩:=List.mem_iff_getElem.1 ho
  obtain ⟨h1,e1⟩:=hget i hi
  rw [e1]
  exact List.getElem_mem h1
 ·obtain ⟨j,hj,rfl⟩:=List.mem_iff_getElem.1 ho
  have hlen:d.length=l.length:=by have:=hk.len; simpa using this
  unfold fullP at hf
  rw [List.all_eq_true] at hf
  have:=hf (l[j].Done,d[j]'(by omega)) (List.mem_iff_getElem.2 ⟨j,by simp; omega,by rw [List.getElem_zip,List.getElem_map]⟩)
  simp only [hd,Bool.not_true,Bool.or_false] at this
  have hm:=(hk.marks j).1 (by
   show d.getD j false=true
   rw [List.getD_eq_getElem?_getD,List.getElem?_eq_getElem (show j<d.length by omega),this]
   rfl)
  rcases hm with hm | hm
  ·rw [List.getD_eq_getElem?_getD,List.getElem?_replicate] at hm
   split at hm <;> simp at hm
  ·obtain ⟨i,hi,rfl⟩:=List.mem_iff_getElem.1 hm
   obtain ⟨h1,e1⟩:=hget i (by omega)
   rw [← e1]
   exact List.getElem_mem _
open Go Go.Ann Go.RowKit
section
variable {α:Type} (key:α→Int)
def Ordd(l:List α):Prop:=l.Pairwise fun a b=>key a≤key b
variable {key}
theorem Ordd.app{a b:List α}(ha:Ordd key a)(hb:Ordd key b)(h:∀ x∈a,∀ y∈b,key x≤key y):Ordd key (a++b):=List.pairwise_append.2 ⟨ha,hb,h⟩
theorem Ordd.left{a b:List α}(h:Ordd key (a++b)):Ordd key a:=(List.pairwise_append.1 h).1
theorem Ordd.right{a b:List α}(h:Ordd key (a++b)):Ordd key b:=(List.pairwise_append.1 h).2.1
theorem Ordd.mid{a b:List α}(h:Ordd key (a++b)):∀ x∈a,∀ y∈b,key x≤key y:=(List.pairwise_append.1 h).2.2
theorem ends_le{a b:List α}(ha:Ordd key a)(hb:Ordd key b)(h:∀ (h1:0<a.length) (h2:0<b.length),key (a[a.length - 1]'(by omega))≤key b[0]):∀ x∈a,∀ y∈b,key x≤key y:=by
 intro x hx y hy
 obtain ⟨i,hi,rfl⟩:=List.mem_iff_getElem.1 hx
 obtain ⟨j,hj,rfl⟩:=List.mem_iff_getElem.1 hy
 have h1:key a[i]≤key (a[a.length - 1]'(by omega)):=by
  rcases Nat.lt_or_ge i (a.length - 1) with h' | h'
  ·exact List.pairwise_iff_getElem.1 ha i (a.length - 1) hi (by omega) h'
  ·obtain rfl:i=a.length - 1:=by omega
   exact Int.le_refl _
 have h2:key b[0]≤key b[j]:=by
  rcases Nat.eq_zero_or_pos j with rfl | h'
  ·exact Int.le_refl _
  ·exact List.pairwise_iff_getElem.1 hb 0 j (by omega) hj h'
 have:=h (by omega) (by omega)
 omega
theorem sym_split{U1 U2 V1 V2 W1 W2:List α}(hU:Ordd key (U1++U2))(hV:Ordd key (V1++V2))(h1:∀ x∈U1,∀ y∈V2,key x≤key y)(h2:∀ x∈V1,∀ y∈U2,key x≤key y)
  (p1:W1.Perm (U1++V1)) (s1:Ordd key W1) (p2:W2.Perm (U2++V2)) (s2:Ordd key W2):(W1++W2).Perm (U1++U2++(V1++V2))∧Ordd key (W1++W2):=by
 refine ⟨?_,s1.app s2 fun x hx y hy=>?_⟩
 ·refine (p1.append p2).trans ?_
  rw [List.append_assoc,List.append_assoc]
  refine List.Perm.append_left U1 ?_
  rw [← List.append_assoc,← List.append_assoc]
  exact List.Perm.append_right V2 List.perm_append_comm
 ·rcases List.mem_append.1 (p1.mem_iff.1 hx) with hx | hx <;> rcases List.mem_append.1 (p2.mem_iff.1 hy) with hy | hy
  ·exact hU.mid x hx y hy
  ·exact h1 x hx y hy
  ·exact h2 x hx y hy
  ·exact hV.mid x hx y hy
theorem put_in{V1 V2:List α}{u:α}(hV:Ordd key (V1++V2))(h1:∀ x∈V1,key x≤key u)(h2:∀ y∈V2,key u≤key y):(V1++u::V2).Perm (u::(V1++V2))∧Ordd key (V1++u::V2):=by
 refine ⟨List.perm_middle,Ordd.app hV.left (List.pairwise_cons.2 ⟨h2,hV.right⟩) fun x hx y hy=>?_⟩
 rcases List.mem_cons.1 hy with rfl | hy
 ·exact h1 x hx
 ·exact hV.mid x hx y hy
end
theorem BfsR.pre{P:List (List OpT)}{obs:List Int}{most:Int}{L r:List Sp}{i:Nat}(h:BfsR P obs most L i r):L <+: r:=by
 induction h with
 | full=>exact List.prefix_refl _
 | last=>exact List.prefix_refl _
 | go h hm k ih =>
  obtain ⟨t,h1,_⟩:=roundW_out P obs _ _
  rw [h1] at ih
  exact (List.prefix_append _ _).trans ih
end Go.Proofs.YtoadmihnihfjkaaGreat

namespace Go.Proofs.YtoadmihnihfjkaaGreat.Cut
open Go Go.Ann Go.RowKit
def Pure(l:List OpT):Prop:=∀ a∈l,∀ b∈l,a.ID=b.ID→a=b
def segR(w:World)(s:Seg)(c:List Value):Prop:=∃ v,c=[.int .i64 s.obj,.int .i64 s.kind,v]∧RdS w 11 OpT.enc v s.ops∧(s.ops.length:Int)≤9223372036854775806
theorem segR.below{w w':World}(hb:Below w.heap.size w w')(s:Seg)(c:List Value)(h:segR w s c):segR w' s c:=by
 obtain ⟨v,rfl,h1,h2⟩:=h
 exact ⟨v,rfl,h1.below hb (by decide),h2⟩
end Go.Proofs.YtoadmihnihfjkaaGreat.Cut

namespace Go.Proofs.YtoadmihnihfjkaaGreat.Cut
open Go Go.Ann Go.RowKit
def cmpI(a b:Int):Int:=if a<b then -1 else if b<a then 1 else 0
end Go.Proofs.YtoadmihnihfjkaaGreat.Cut

namespace Go.Proofs.YtoadmihnihfjkaaGreat.Cut
open Go Go.Ann Go.RowKit
def orI(l:List Int):Int:=(l.find? fun x=>!decide (x=0)).getD 0
def earI(a b:OpT):Int:=orI [cmpI a.Invoke b.Invoke,cmpI a.ID b.ID]
def objI(a b:OpT):Int:=orI [cmpI a.Object b.Object,earI a b]
theorem chg_da{S:Nat→Prop}{w:World}{o:Obj}:Chg S w.drew (w.alloc o).drew:=(Chg.refl S w.drew).alloc o
end Go.Proofs.YtoadmihnihfjkaaGreat.Cut

namespace Go.Proofs.YtoadmihnihfjkaaGreat.Cut
open Go Go.Ann Go.RowKit
instance:Inhabited OpT:=⟨⟨0,0,0,0,0,0,0,false,0,0,0⟩⟩
def Sorts(cf:OpT→OpT→Int)(l l':List OpT):Prop:=l'.Perm l∧l'.Pairwise fun a b=>¬ cf b a<0
end Go.Proofs.YtoadmihnihfjkaaGreat.Cut

namespace Go.Proofs.YtoadmihnihfjkaaGreat.Cut
open Go Go.Ann Go.RowKit
theorem orI2_neg(x y:Int):decide (orI [x,y]<0)=decide (x<0∨x=0∧y<0):=by
 unfold orI
 by_cases hx:x=0
 ·subst hx
  by_cases hy:y=0
  ·subst hy; simp
  ·simp [List.find?_cons,hy]
 ·simp [List.find?_cons,hx]
theorem cmpI_neg(a b:Int):(cmpI a b<0)=(a<b):=by
 unfold cmpI
 apply propext
 split
 ·omega
 ·split <;> omega
theorem cmpI_zero(a b:Int):(cmpI a b=0)=(a=b):=by
 unfold cmpI
 apply propext
 split
 ·omega
 ·split <;> omega
theorem lt_ear(a b:OpT):ltOf earI a b=decide (a.Invoke<b.Invoke∨a.Invoke=b.Invoke∧a.ID<b.ID):=by
 unfold ltOf earI
 rw [orI2_neg]
 simp only [cmpI_neg,cmpI_zero]
theorem ear_neg(a b:OpT):(earI a b<0)=(a.Invoke<b.Invoke∨a.Invoke=b.Invoke∧a.ID<b.ID):=by
 have:=lt_ear a b
 unfold ltOf at this
 exact propext (decide_eq_decide.1 this)
theorem lt_obj(a b:OpT):ltOf objI a b=decide (a.Object<b.Object∨a.Object=b.Object∧(a.Invoke<b.Invoke∨a.Invoke=b.Invoke∧a.ID<b.ID)):=by
 unfold ltOf objI
 rw [orI2_neg]
 simp only [cmpI_neg,cmpI_zero,ear_neg]
theorem obj_neg(a b:OpT):(objI a b<0)=(a.Object<b.Object∨a.Object=b.Object∧(a.Invoke<b.Invoke∨a.Invoke=b.Invoke∧a.ID<b.ID)):=by
 have:=lt_obj a b
 unfold ltOf at this
 exact propext (decide_eq_decide.1 this)
def cutStep(q:Seg→OpT→Bool)(mk:OpT→Int × Int)(acc:List Seg)(o:OpT):List Seg :=
 match acc.getLast? with
 | some s=>if q s o then acc++[⟨(mk o).1,(mk o).2,[o]⟩] else acc.dropLast++[⟨s.obj,s.kind,s.ops++[o]⟩]
 | none=>[⟨(mk o).1,(mk o).2,[o]⟩]
def segC(s:Seg)(v:Value):List Value:=[.int .i64 s.obj,.int .i64 s.kind,v]
def segCells:List Seg→List Value→List Value
 | s::l,v::vs=>segC s v++segCells l vs
 | _,_=>[]
def segInvs:List Seg→List Value→List Inv
 | s::l,v::vs=>.rd 11 OpT.enc v s.ops::segInvs l vs
 | _,_=>[]
theorem segCells_snoc:∀ (l:List Seg) (vs:List Value) (s:Seg) (v:Value),vs.length=l.length→segCells (l++[s]) (vs++[v])=segCells l vs++segC s v
 | [],[],s,v,_=>by simp [segCells]
 | a::l,b::vs,s,v,h=>by simp only [List.cons_append,segCells,List.append_assoc]; rw [segCells_snoc l vs s v (by simpa using h)]
theorem segInvs_mem:∀ (l:List Seg) (vs:List Value) (i:Nat) (s:Seg) (v:Value),l[i]?=some s→vs[i]?=some v→Inv.rd 11 OpT.enc v s.ops∈segInvs l vs
 | a::l,b::vs,0,s,v,h1,h2=>by
  simp only [List.getElem?_cons_zero,Option.some.injEq] at h1 h2; subst h1; subst h2
  exact List.mem_cons_self
 | a::l,b::vs,i+1,s,v,h1,h2=>List.mem_cons_of_mem _ (segInvs_mem l vs i s v (by simpa using h1) (by simpa using h2))
theorem segInvs_snoc:∀ (l:List Seg) (vs:List Value) (s:Seg) (v:Value),vs.length=l.length→∀ a,a∈segInvs (l++[s]) (vs++[v])↔a=Inv.rd 11 OpT.enc v s.ops∨a∈segInvs l vs
 | [],[],s,v,_,a=>by simp [segInvs]
 | x::l,b::vs,s,v,h,a=>by simp only [List.cons_append,segInvs,List.mem_cons,segInvs_snoc l vs s v (by simpa using h)]; exact ⟨fun h=>h.elim (fun h=>.inr (.inl h)) fun h=>h.elim .inl fun h=>.inr (.inr h),fun h=>h.elim (fun h=>.inr (.inl h)) fun h=>h.elim .inl fun h=>.inr (.inr h)⟩
theorem cutStep_new{q:Seg→OpT→Bool}(mk:OpT→Int × Int)(ini:List Seg){s:Seg}{o:OpT}(h:q s o=true):cutStep q mk (ini++[s]) o=ini++[s]++[⟨(mk o).1,(mk o).2,[o]⟩]:=by
 unfold cutStep
 rw [List.getLast?_concat]
 simp only [h,if_true]
theorem cutStep_old{q:Seg→OpT→Bool}(mk:OpT→Int × Int)(ini:List Seg){s:Seg}{o:OpT}(h:q s o=false):cutStep q mk (ini++[s]) o=ini++[⟨s.obj,s.kind,s.ops++[o]⟩]:=by
 unfold cutStep
 rw [List.getLast?_concat,List.dropLast_concat]
 simp only [h]
 rfl
theorem segCells_flat:∀ (l:List Seg) (vs:List Value),(List.zipWith segC l vs).flatten=segCells l vs
 | [],vs=>by cases vs <;> rfl
 | a::l,[]=>rfl
 | a::l,b::vs=>by rw [List.zipWith_cons_cons,List.flatten_cons,segCells_flat l vs]; rfl
end Go.Proofs.YtoadmihnihfjkaaGreat.Cut

namespace Go.Proofs.YtoadmihnihfjkaaGreat.Cut
open Go Go.Ann Go.RowKit
def leq(a b:OpT):Bool:=decide (a.Invoke<b.Invoke∨a.Invoke=b.Invoke∧a.ID≤b.ID)
theorem leq_ear(a b:OpT):leq a b=true↔¬ earI b a<0:=by
 unfold leq
 rw [ear_neg,decide_eq_true_eq]
 omega
theorem sorts_ins{r:List OpT}{o:OpT}{n:Nat}(hs:r.Pairwise fun a b=>¬ earI b a<0)(h1:∀ j,(h:j<r.length)→j<n→leq r[j] o=true)(h2:(h:n<r.length)→leq r[n] o=false):(r.take n++[o]++r.drop n).Pairwise fun a b=>¬ earI b a<0:=by
 have tr:∀ x y z:OpT,¬ earI y x<0→¬ earI z y<0→¬ earI z x<0:=fun x y z a b=>by rw [ear_neg] at *; omega
 rw [List.append_assoc,List.pairwise_append]
 have hpre:∀ a∈r.take n,leq a o=true:=fun a ha=>by
  obtain ⟨j,hj,rfl⟩:=List.mem_iff_getElem.1 ha
  rw [List.length_take] at hj
  rw [List.getElem_take]
  exact h1 j (by omega) (by omega)
 have hpost:∀ b∈r.drop n,¬ earI b o<0:=fun b hb=>by
  obtain ⟨j,hj,rfl⟩:=List.mem_iff_getElem.1 hb
  rw [List.length_drop] at hj
  rw [List.getElem_drop]
  have e:=h2 (by omega)
  have e':¬ leq r[n] o=true:=by rw [e]; decide
  rw [leq_ear] at e'
  have e2:¬ earI r[n] o<0:=by rw [ear_neg] at *; omega
  rcases Nat.eq_zero_or_pos j with rfl | hj0
  ·exact e2
  ·exact tr _ _ _ e2 (List.pairwise_iff_getElem.1 hs n (n+j) (by omega) (by omega) (by omega))
 refine ⟨hs.sublist (List.take_sublist _ _),?_,fun a ha b hb=>?_⟩
 ·rw [List.singleton_append,List.pairwise_cons]
  exact ⟨hpost,hs.sublist (List.drop_sublist _ _)⟩
 ·have ha':=(leq_ear _ _).1 (hpre a ha)
  rcases List.mem_append.1 hb with hb | hb
  ·simp only [List.mem_singleton] at hb; subst hb; exact ha'
  ·exact tr _ _ _ ha' (hpost b hb)
theorem perm_ins{l r:List OpT}{i n:Nat}(hp:r.Perm (l.take i))(hi:i<l.length):(r.take n++[l[i]]++r.drop n).Perm (l.take (i+1)):=by
 rw [List.take_succ_eq_append_getElem hi]
 have h1:(r.take n++[l[i]]++r.drop n).Perm (l[i]::(r.take n++r.drop n)):=by
  rw [List.append_assoc]; exact List.perm_middle
 rw [List.take_append_drop] at h1
 exact h1.trans ((hp.cons _).trans (List.perm_append_singleton _ _).symm)
theorem offA_zero{a:Option Addr}{c sz:Nat}:offA a c 0 sz=a:=by
 unfold offA
 rw [Nat.zero_mul]
 split
 ·rfl
 ·cases a with
  | none=>rfl
  | some a=>exact congrArg some (by unfold Addr.add; rfl)
theorem rd_take{w:World}{sz n k cap:Nat}{a:Option Addr}{xs:List Value}(h:Rd w sz (.slice a n cap) n xs)(hk:k≤n):Rd w sz (.slice (offA a cap 0 sz) k cap) k (xs.take (k * sz)):=by
 rw [offA_zero]; exact h.take hk
theorem rd_drop{w:World}{sz n k cap:Nat}{a:Option Addr}{xs:List Value}(h:Rd w sz (.slice a n cap) n xs)(hk:k≤n):Rd w sz (.slice (offA a cap k sz) (n - k) (cap - k)) (n - k) (xs.drop (k * sz)):=by
 obtain ⟨h1,a',cap',he,h2,h3⟩:=h
 simp only [Value.slice.injEq,true_and] at he
 obtain ⟨rfl,rfl⟩:=he
 refine ⟨by rw [List.length_drop,h1,Nat.sub_mul],_,_,rfl,by omega,fun h=>?_⟩
 obtain ⟨ad,rfl,h4⟩:=h3 (by omega)
 refine ⟨ad.add (k * sz),by unfold offA; rw [if_neg (by omega)]; rfl,fun j u hu=>?_⟩
 rw [add_add]
 rw [List.getElem?_drop] at hu
 exact h4 _ u hu
theorem take_flat{l:List OpT}{k:Nat}:(l.flatMap OpT.enc).take (k * 11)=(l.take k).flatMap OpT.enc:=by
 induction l generalizing k with
 | nil=>simp
 | cons a l ih =>
  cases k with
  | zero=>simp
  | succ k=>rw [List.flatMap_cons,List.take_succ_cons,List.flatMap_cons,show (k+1) * 11=a.enc.length+k * 11 by rw [OpT.len]; omega,List.take_length_add_append,ih]
theorem drop_flat{l:List OpT}{k:Nat}:(l.flatMap OpT.enc).drop (k * 11)=(l.drop k).flatMap OpT.enc:=by
 induction l generalizing k with
 | nil=>simp
 | cons a l ih =>
  cases k with
  | zero=>simp
  | succ k=>rw [List.flatMap_cons,List.drop_succ_cons,show (k+1) * 11=a.enc.length+k * 11 by rw [OpT.len]; omega,List.drop_length_add_append,ih]
theorem ins38{W0 w:World}{Q:Post}{q:Addr}{c i n co:Nat}{ao:Option Addr}{l r:List OpT}(h:RdS W0 11 OpT.enc (.slice (some q) l.length c) l)(hl:l.length≤1048576)(hr:r.length≤1048576)(hi:i<l.length)(hn:n≤r.length)
  (s:St W0 w (fun _=>False) [.row (.slice ao r.length co) 52 11 r.length (r.flatMap OpT.enc)] [])
  (hQ:∀ v' w',St W0 w' (fun _=>False) [.row v' 52 11 (r.take n++[l[i]]++r.drop n).length ((r.take n++[l[i]]++r.drop n).flatMap OpT.enc)] []→Q .normal [(0,.slice (some q) l.length c),(3,v'),(4,.int .i64 i)] w') :
  W Tryz.prog (c36S4 ()) [(0,.slice (some q) l.length c),(3,.slice ao r.length co),(4,.int .i64 i),(5,.int .i64 n)] w Q:=by
 simp (disch:=first|omega|exact zF rfl|exact zG rfl|exact fun h=>h|(simp only[zA,zB,zC,zD,bytesW];omega)) only[go_sem,c36S4]
 refine bsW_none ty22mkI ?_
 have s2:=s.emptyRow 52 11
 generalize w.alloc (.cells #[] 52)=w2 at s2 ⊢
 simp (disch:=first|omega|exact zF rfl|exact zG rfl|exact fun h=>h|(simp only[zA,zB,zC,zD,bytesW];omega)) only[go_sem,c36S4]
 have hco:r.length≤co:=by
  obtain ⟨a',c',e,h⟩:=own_slice (s2.row 1 rfl)
  cases e; exact h
 have e1:(r.take n).length=n:=by rw [List.length_take]; omega
 refine ⟨⟨by omega,by omega⟩,?_⟩
 refine s2.append 0 rfl ty22mkI rfl (by decide) (rd_take (Rd.of_own (s2.row 1 rfl)) hn) (by rw [take_flat]; exact OpT.ones _) (by omega) (by omega) ?_
 intro v3 w3 s3 _
 simp only [List.set_cons_zero,List.nil_append,take_flat,Nat.zero_add] at s3
 obtain ⟨a3,c3,rfl,_⟩:=own_slice (s3.row 0 rfl)
 have eo:=h.eltB s3.bel OpT.len (by decide) hi
 have ato:=l[i].at
 have ci:=cellsO_below s3.bel (h.at OpT.len hi)
 simp (disch:=first|omega|exact zF rfl|exact zG rfl|exact fun h=>h|(simp only[zA,zB,zC,zD,bytesW];omega)) only[go_sem,c36S4,ci]
 refine ⟨⟨by omega,by omega⟩,bsW_agg ty22mkI rfl (by decide) (by decide) ?_⟩
 have hrd:Rd (w3.alloc (.cells l[i].enc.toArray 52)) 11 (.slice (some ⟨w3.heap.size,0,none⟩) 1 1) 1 l[i].enc:=rd_new (t:=52) (sz:=11) (n:=1) (cs:=l[i].enc.toArray) rfl
 have s4:=s3.alloc' (.cells l[i].enc.toArray 52)
 generalize w3.alloc (.cells l[i].enc.toArray 52)=w4 at s4 hrd ⊢
 simp (disch:=first|omega|exact zF rfl|exact zG rfl|exact fun h=>h|(simp only[zA,zB,zC,zD,bytesW];omega)) only[go_sem,c36S4,ci]
 refine s4.append 0 rfl ty22mkI rfl (by decide) hrd l[i].one (by omega) (by omega) ?_
 intro v5 w5 s5 _
 simp only [List.set_cons_zero] at s5
 obtain ⟨a5,c5,rfl,_⟩:=own_slice (s5.row 0 rfl)
 simp (disch:=first|omega|exact zF rfl|exact zG rfl|exact fun h=>h|(simp only[zA,zB,zC,zD,bytesW];omega)) only[go_sem,c36S4]
 refine ⟨⟨by omega,by omega⟩,?_⟩
 refine s5.append 0 rfl ty22mkI rfl (by decide) (rd_drop (Rd.of_own (s5.row 1 rfl)) hn) (by rw [drop_flat]; exact OpT.ones _) (by omega) (by omega) ?_
 intro v6 w6 s6 _
 simp only [List.set_cons_zero,drop_flat] at s6
 simp (disch:=first|omega|exact zF rfl|exact zG rfl|exact fun h=>h|(simp only[zA,zB,zC,zD,bytesW];omega)) only[go_sem,c36S4]
 refine hQ _ _ ?_
 have s7:=s6.sub (L':=[_]) ((List.nil_sublist _).cons_cons _)
 have el:(r.take n++[l[i]]++r.drop n).length=n+1+(r.length - n):=by
  rw [List.length_append,List.length_append,e1,List.length_drop]; rfl
 have ef:(r.take n++[l[i]]++r.drop n).flatMap OpT.enc=(r.take n).flatMap OpT.enc++l[i].enc++(r.drop n).flatMap OpT.enc:=by
  rw [List.flatMap_append,List.flatMap_append]; simp
 rw [el,ef]
 exact s7
theorem sorted_ok(v:Value)(l:List OpT)(w:World)(h:RdS w 11 OpT.enc v l)(hl:l.length≤1048576) :
  Ret Tryz.prog 36 [v] w fun u w'=>(∃ r,Sorts earI l r∧w'.ownsRow w.heap.size 52 11 u r.length (r.flatMap OpT.enc))∧Below w.heap.size w w':=by
 obtain ⟨a,c,rfl,_⟩:=h.form
 refine ent36 _ _ _ ?_
 simp (disch:=first|omega|exact zF rfl|exact zG rfl|exact fun h=>h|(simp only[zA,zB,zC,zD,bytesW];omega)) only[go_sem,c36S4]
 refine W_loopU (fun x:Nat × Value=>[(3,x.2),(4,.int .i64 x.1)]) (fun x w'=>x.1≤l.length∧∃ r,Sorts earI (l.take x.1) r∧St w w' (fun _=>False) [.row x.2 52 11 r.length (r.flatMap OpT.enc)] []) (fun x=>l.length - x.1) (0,.slice none 0 0) rfl ⟨Nat.zero_le _,[],⟨List.Perm.refl _,List.Pairwise.nil⟩,(St.start (W0:=w)).nilRow 52 11⟩ ?_
 rintro ⟨i,vo⟩ w1 ⟨hi,r,⟨hp,hs⟩,s1⟩
 simp only at hi hp s1
 have hrl:r.length=i:=by rw [hp.length_eq,List.length_take]; omega
 obtain ⟨ao,co,rfl,_⟩:=own_slice (s1.row 0 rfl)
 by_cases hlt:i<l.length
 ·have hlt':(i:Int)<l.length:=by omega
  obtain ⟨q,rfl⟩:=h.ptr (by omega)
  simp (disch:=first|omega|exact zF rfl|exact zG rfl|exact fun h=>h|(simp only[zA,zB,zC,zD,bytesW];omega)) only[go_sem,hlt']
  refine W_loopU (fun n:Nat=>[(5,.int .i64 n)]) (fun n w'=>n≤r.length∧(∀ j,(h:j<r.length)→j<n→leq r[j] l[i]=true)∧St w w' (fun _=>False) [.row (.slice ao r.length co) 52 11 r.length (r.flatMap OpT.enc)] []) (fun n=>r.length - n) 0 rfl ⟨Nat.zero_le _,fun j _ h=>by omega,s1⟩ ?_
  rintro n w2 ⟨hn,hle,s2⟩
  have eo:=h.eltB s2.bel OpT.len (by decide) hlt
  have ato:=l[i].at
  by_cases hnr:n<r.length
  ·have hnr':(n:Int)<r.length:=by omega
   have hro:RdS w2 11 OpT.enc (.slice ao r.length co) r:=RdS.of_own (s2.row 0 rfl)
   obtain ⟨p,rfl⟩:=hro.ptr (by omega)
   have er:=hro.elt OpT.len (by decide) hnr
   have atr:=r[n].at
   simp (disch:=first|omega|exact zF rfl|exact zG rfl|exact fun h=>h|(simp only[zA,zB,zC,zD,bytesW];omega)) only[go_sem]
   refine c36draw0 ?_
   simp (disch:=first|omega|exact zF rfl|exact zG rfl|exact fun h=>h|(simp only[zA,zB,zC,zD,bytesW];omega)) only[go_sem,c36D0,eo,ato,er,atr,hnr']
   have stp:leq r[n] l[i]=true→(n+1≤r.length∧(∀ (j:Nat) (h:j<r.length),j<n+1→leq r[j] l[i]=true)∧St w w2.drew (fun _=>False) [.row (.slice (some p) r.length co) 52 11 r.length (r.flatMap OpT.enc)] []):=fun hy=>⟨by omega,fun j h1 h2=>by
    rcases Nat.lt_or_ge j n with h' | h'
    ·exact hle j h1 h'
    ·obtain rfl:j=n:=by omega
     exact hy,s2.drew⟩
   have hy:leq r[n] l[i]=decide (r[n].Invoke<l[i].Invoke∨r[n].Invoke=l[i].Invoke∧r[n].ID≤l[i].ID):=rfl
   refine ⟨by omega,⟨by omega,by omega⟩,fun e1=>⟨by omega,⟨by omega,by omega⟩,fun e2=>⟨by omega,⟨by omega,by omega⟩,fun e3=>⟨⟨by omega,by omega⟩,n+1,rfl,stp (by rw [hy]; exact decide_eq_true (by omega)),by omega⟩,fun e3=>?_⟩,fun e2=>?_⟩,fun e1=>⟨⟨by omega,by omega⟩,n+1,rfl,stp (by rw [hy]; exact decide_eq_true (by omega)),by omega⟩⟩
   ·have hno:leq r[n] l[i]=false:=by rw [hy]; exact decide_eq_false (by omega)
    refine ins38 h hl (by omega) hlt hn s2.drew ?_
    intro v9 w9 s9
    simp (disch:=first|omega|exact zF rfl|exact zG rfl|exact fun h=>h|(simp only[zA,zB,zC,zD,bytesW];omega)) only[go_sem,c36S4]
    refine ⟨⟨by omega,by omega⟩,(i+1,_),rfl,⟨by simp only; omega,_,⟨?_,sorts_ins hs hle fun _=>hno⟩,s9⟩,by simp only; omega⟩
    exact perm_ins hp hlt
   ·have hno:leq r[n] l[i]=false:=by rw [hy]; exact decide_eq_false (by omega)
    refine ins38 h hl (by omega) hlt hn s2.drew ?_
    intro v9 w9 s9
    simp (disch:=first|omega|exact zF rfl|exact zG rfl|exact fun h=>h|(simp only[zA,zB,zC,zD,bytesW];omega)) only[go_sem,c36S4]
    refine ⟨⟨by omega,by omega⟩,(i+1,_),rfl,⟨by simp only; omega,_,⟨?_,sorts_ins hs hle fun _=>hno⟩,s9⟩,by simp only; omega⟩
    exact perm_ins hp hlt
  ·have hnr':¬ (n:Int)<r.length:=by omega
   simp (disch:=first|omega|exact zF rfl|exact zG rfl|exact fun h=>h|(simp only[zA,zB,zC,zD,bytesW];omega)) only[go_sem]
   refine c36draw0 ?_
   simp (disch:=first|omega|exact zF rfl|exact zG rfl|exact fun h=>h|(simp only[zA,zB,zC,zD,bytesW];omega)) only[go_sem,c36D0,hnr']
   refine ins38 h hl (by omega) hlt hn s2.drew ?_
   intro v9 w9 s9
   simp (disch:=first|omega|exact zF rfl|exact zG rfl|exact fun h=>h|(simp only[zA,zB,zC,zD,bytesW];omega)) only[go_sem,c36S4]
   refine ⟨⟨by omega,by omega⟩,(i+1,_),rfl,⟨by simp only; omega,_,⟨?_,sorts_ins hs hle fun h=>absurd h (by omega)⟩,s9⟩,by simp only; omega⟩
   exact perm_ins hp hlt
 ·have hlt':¬ (i:Int)<l.length:=by omega
  simp (disch:=first|omega|exact zF rfl|exact zG rfl|exact fun h=>h|(simp only[zA,zB,zC,zD,bytesW];omega)) only[go_sem,c36S4,hlt']
  have hil:i=l.length:=by omega
  subst hil
  rw [List.take_length] at hp
  exact ⟨⟨r,⟨hp,hs⟩,s1.row 0 rfl⟩,s1.bel⟩
end Go.Proofs.YtoadmihnihfjkaaGreat.Cut

namespace Go.Proofs.YtoadmihnihfjkaaGreat.Cut
open Go Go.Ann Go.RowKit
def Piece(r:List OpT)(al:Option Addr)(cl:Nat)(s:Seg)(v:Value):Prop:=∃ f t,f≤t∧t≤r.length∧v=.slice (offA al cl f 11) (t - f) (cl - f)∧s.ops=(r.take t).drop f
theorem Piece.rd{w:World}{r:List OpT}{al:Option Addr}{cl:Nat}{s:Seg}{v:Value}(h:Piece r al cl s v)(hr:RdS w 11 OpT.enc (.slice al r.length cl) r):RdS w 11 OpT.enc v s.ops:=by
 obtain ⟨f,t,h1,h2,rfl,h3⟩:=h
 have e1:=rd_drop (Rd.take (k:=t) hr h2) h1
 rw [take_flat,drop_flat] at e1
 have e2:s.ops.length=t - f:=by rw [h3,List.length_drop,List.length_take]; omega
 unfold RdS
 rw [e2,h3]
 exact e1
end Go.Proofs.YtoadmihnihfjkaaGreat.Cut

namespace Go.Proofs.YtoadmihnihfjkaaGreat.Cut
open Go Go.Ann Go.RowKit
def ofObj(x:Int)(l:List OpT):List OpT:=l.filter fun o=>decide (o.Object=x)
structure ByObj(l:List OpT)(acc:List Seg):Prop where
 up:acc.Pairwise fun a b=>a.obj<b.obj
 sorts:∀ s∈acc,Sorts earI (ofObj s.obj l) s.ops
 kind:∀ s∈acc,∃ o r,s.ops=o::r∧s.kind=o.Kind
 all:∀ o∈l,∃ s∈acc,s.obj=o.Object
def Next(l:List OpT)(any:Bool)(last:Int)(k:Nat)(found:Bool)(next:Int):Prop :=
 (found=false∧∀ o∈l.take k,any=true∧o.Object≤last)∨(found=true∧(∃ o∈l.take k,o.Object=next)∧(any=true→last<next)∧∀ o∈l.take k,(any=true→last<o.Object)→next≤o.Object)
def left(l:List OpT)(any:Bool)(last:Int):List OpT:=l.filter fun o=>!any || decide (last<o.Object)
structure Part(l:List OpT)(acc:List Seg)(any:Bool)(last:Int):Prop where
 up:acc.Pairwise fun a b=>a.obj<b.obj
 sorts:∀ s∈acc,Sorts earI (ofObj s.obj l) s.ops
 kind:∀ s∈acc,∃ o r,s.ops=o::r∧s.kind=o.Kind
 low:∀ s∈acc,any=true∧s.obj≤last
 all:∀ o∈l,o∈left l any last∨∃ s∈acc,s.obj=o.Object
theorem Part.nil(l:List OpT)(x:Int):Part l [] false x:=⟨List.Pairwise.nil,(fun s h=>by cases h),(fun s h=>by cases h),(fun s h=>by cases h),fun o h=>.inl (by unfold left; simpa using h)⟩
theorem mem_take_succ{l:List OpT}{k:Nat}(hk:k<l.length){o:OpT}:o∈l.take (k+1)↔o∈l.take k∨o=l[k]:=by
 rw [List.take_succ_eq_append_getElem hk,List.mem_append,List.mem_singleton]
theorem Next.take{l:List OpT}{any found:Bool}{last next:Int}{k:Nat}(h:Next l any last k found next)(hk:k<l.length)(h1:any=true→last<l[k].Object)(h2:found=true→l[k].Object<next):Next l any last (k+1) true l[k].Object:=by
 refine .inr ⟨rfl,⟨_,(mem_take_succ hk).2 (.inr rfl),rfl⟩,h1,fun o ho hlo=>?_⟩
 rcases (mem_take_succ hk).1 ho with ho | rfl
 ·rcases h with ⟨_,h⟩ | ⟨hf,_,_,h⟩
  ·have:=h o ho; have:=hlo this.1; omega
  ·have:=h o ho hlo; have:=h2 hf; omega
 ·exact Int.le_refl _
theorem Next.skip{l:List OpT}{any found:Bool}{last next:Int}{k:Nat}(h:Next l any last k found next)(hk:k<l.length)(h1:(any=true∧l[k].Object≤last)∨(found=true∧next≤l[k].Object)):Next l any last (k+1) found next:=by
 rcases h with ⟨hf,h⟩ | ⟨hf,⟨x,hx,hxe⟩,h2,h⟩
 ·subst hf
  refine .inl ⟨rfl,fun o ho=>?_⟩
  rcases (mem_take_succ hk).1 ho with ho | rfl
  ·exact h o ho
  ·rcases h1 with h1 | h1
   ·exact h1
   ·cases h1.1
 ·refine .inr ⟨hf,⟨x,(mem_take_succ hk).2 (.inl hx),hxe⟩,h2,fun o ho hlo=>?_⟩
  rcases (mem_take_succ hk).1 ho with ho | rfl
  ·exact h o ho hlo
  ·rcases h1 with h1 | h1
   ·have:=hlo h1.1; omega
   ·exact h1.2
theorem segs_rd{W0 w:World}{F:Nat→Prop}{L:List Res}{I:List Inv}{vo:Value}{acc:List Seg}{vs:List Value}(hvs:vs.length=acc.length)(h:St W0 w F (.row vo 47 3 acc.length (segCells acc vs)::L) I)
  (hr:∀ (j:Nat) (s:Seg) (v:Value),acc[j]?=some s→vs[j]?=some v→RdS w 11 OpT.enc v s.ops) (hl:∀ s∈acc,(s.ops.length:Int)≤9223372036854775806):RdR w 3 segR vo acc:=by
 refine ⟨List.zipWith segC acc vs,by simp [hvs],?_,?_⟩
 ·intro j c x hc hx
  rw [List.getElem?_zipWith,hx] at hc
  cases hv:vs[j]? with
  | none=>rw [hv] at hc; cases hc
  | some v =>
   rw [hv] at hc
   simp only [Option.some.injEq] at hc
   subst hc
   exact ⟨rfl,v,rfl,hr j x v hx hv,hl x (List.mem_of_getElem? hx)⟩
 ·rw [segCells_flat]
  exact Rd.of_own (h.row 0 rfl)
theorem ofObj_len(x:Int)(l:List OpT):(ofObj x l).length≤l.length:=List.length_filter_le _ _
theorem ofObj_snoc(x:Int){l:List OpT}{k:Nat}(hk:k<l.length):ofObj x (l.take (k+1))=ofObj x (l.take k)++if l[k].Object=x then [l[k]] else []:=by
 rw [List.take_succ_eq_append_getElem hk]
 unfold ofObj
 rw [List.filter_append]
 by_cases h:l[k].Object=x
 ·rw [if_pos h]; simp [h]
 ·rw [if_neg h]; simp [h]
theorem Part.step{l:List OpT}{acc:List Seg}{any:Bool}{last next:Int}{x o:OpT}{r':List OpT}(h:Part l acc any last)(hx:x∈l)(hxe:x.Object=next)(hlo:any=true→last<next)(hmin:∀ o∈l,(any=true→last<o.Object)→next≤o.Object)(hs:Sorts earI (ofObj next l) (o::r')) :
  Part l (acc++[⟨next,o.Kind,o::r'⟩]) true next∧(left l true next).length<(left l any last).length:=by
 refine ⟨⟨?_,fun s hm=>?_,fun s hm=>?_,fun s hm=>?_,fun y hy=>?_⟩,?_⟩
 ·rw [List.pairwise_append]
  refine ⟨h.up,List.pairwise_singleton _ _,fun a ha b hb=>?_⟩
  simp only [List.mem_singleton] at hb; subst hb
  obtain ⟨a1,a2⟩:=h.low a ha
  have:=hlo a1
  simp only; omega
 ·rcases List.mem_append.1 hm with hm | hm
  ·exact h.sorts s hm
  ·simp only [List.mem_singleton] at hm; subst hm; exact hs
 ·rcases List.mem_append.1 hm with hm | hm
  ·exact h.kind s hm
  ·simp only [List.mem_singleton] at hm; subst hm; exact ⟨o,r',rfl,rfl⟩
 ·refine ⟨rfl,?_⟩
  rcases List.mem_append.1 hm with hm | hm
  ·obtain ⟨a1,a2⟩:=h.low s hm
   have:=hlo a1; omega
  ·simp only [List.mem_singleton] at hm; subst hm; exact Int.le_refl _
 ·rcases h.all y hy with hl | ⟨s,hm,he⟩
  ·by_cases hn:y.Object=next
   ·exact .inr ⟨_,List.mem_append_right _ (List.mem_singleton_self _),hn.symm⟩
   ·unfold left at hl ⊢
    rw [List.mem_filter] at hl ⊢
    have:=hmin y hy fun ha=>by have:=hl.2; rw [ha] at this; simpa using this
    exact .inl ⟨hy,by simp; omega⟩
  ·exact .inr ⟨s,List.mem_append_left _ hm,he⟩
 ·have hsub:(left l true next)=(left l any last).filter fun o=>decide (next<o.Object):=by
   unfold left
   rw [List.filter_filter]
   apply List.filter_congr
   intro y hy
   cases any with
   | false=>simp
   | true=>have:=hlo rfl; simp; omega
  rw [hsub]
  refine List.length_filter_lt_length_iff_exists.2 ⟨x,?_,?_⟩
  ·unfold left
   rw [List.mem_filter]
   refine ⟨hx,?_⟩
   cases any with
   | false=>rfl
   | true=>have:=hlo rfl; simp; omega
  ·simp; omega
theorem robjects_ok(v:Value)(l:List OpT)(w:World)(h:RdS w 11 OpT.enc v l)(hl:l.length≤1048576) :
  Ret Tryz.prog 20 [v] w fun u w'=>(∃ acc,ByObj l acc∧RdR w' 3 segR u acc)∧Below w.heap.size w w':=by
 obtain ⟨a,c,rfl,_⟩:=h.form
 refine ent20 _ _ _ ?_
 simp (disch:=first|omega|exact zF rfl|exact zG rfl|exact fun h=>h|(simp only[zA,zB,zC,zD,bytesW];omega)) only[go_sem,c20S6,c20S7,c20S8]
 refine W_loopU (fun x:Value × Int × Bool=>[(3,x.1),(4,.int .i64 x.2.1),(5,.bool x.2.2)]) (fun x w'=>∃ acc vs,vs.length=acc.length∧acc.length+(left l x.2.2 x.2.1).length≤l.length∧St w w' (fun _=>False) [.row x.1 47 3 acc.length (segCells acc vs)] (segInvs acc vs)∧Part l acc x.2.2 x.2.1) (fun x=>(left l x.2.2 x.2.1).length) (.slice none 0 0,0,false) rfl ⟨[],[],rfl,by rw [List.length_nil,Nat.zero_add]; exact List.length_filter_le _ _,(St.start (W0:=w)).nilRow 47 3,Part.nil l 0⟩ ?_
 rintro ⟨vo,last,any⟩ w1 ⟨acc,vs,hvs,hlen,s1,hp⟩
 simp only at hlen s1 hp
 simp (disch:=first|omega|exact zF rfl|exact zG rfl|exact fun h=>h|(simp only[zA,zB,zC,zD,bytesW];omega)) only[go_sem,c20S6,c20S7]
 refine W_loopU (fun x:Int × Bool × Nat=>[(6,.int .i64 x.1),(7,.bool x.2.1),(8,.int .i64 x.2.2)]) (fun x w'=>w'=w1∧x.2.2≤l.length∧Next l any last x.2.2 x.2.1 x.1) (fun x=>l.length - x.2.2) (0,false,0) rfl ⟨rfl,Nat.zero_le _,.inl ⟨rfl,fun o h=>by simp at h⟩⟩ ?_
 rintro ⟨next,found,k⟩ _ ⟨rfl,hk,hn⟩
 simp only at hk hn
 by_cases hkl:k<l.length
 ·have hkl':(k:Int)<l.length:=by omega
  obtain ⟨q,rfl⟩:=h.ptr (by omega)
  have ek:=h.eltB s1.bel OpT.len (by decide) hkl
  have ak:=l[k].at
  simp (disch:=first|omega|exact zF rfl|exact zG rfl|exact fun h=>h|(simp only[zA,zB,zC,zD,bytesW];omega)) only[go_sem,c20S6,c20S7,hkl',ek,ak]
  have tk:(any=true→last<l[k].Object)→(found=true→l[k].Object<next)→k+1≤l.length∧Next l any last (k+1) true l[k].Object:=fun a b=>⟨hkl,hn.take hkl a b⟩
  have sk:((any=true∧l[k].Object≤last)∨(found=true∧next≤l[k].Object))→k+1≤l.length∧Next l any last (k+1) found next:=fun a=>⟨hkl,hn.skip hkl a⟩
  refine ⟨fun ha=>⟨by omega,fun h1=>⟨fun hf=>⟨by omega,fun h2=>⟨by omega,⟨by omega,by omega⟩,(_,_,k+1),rfl,tk (fun _=>h1) (fun _=>h2),by simp only; omega⟩,fun h2=>⟨⟨by omega,by omega⟩,(_,_,k+1),rfl,sk (.inr ⟨hf,h2⟩),by simp only; omega⟩⟩,fun hf=>⟨by omega,⟨by omega,by omega⟩,(_,_,k+1),rfl,tk (fun _=>h1) (fun h=>by rw [hf] at h; cases h),by simp only; omega⟩⟩,fun h1=>⟨⟨by omega,by omega⟩,(_,_,k+1),rfl,sk (.inl ⟨ha,h1⟩),by simp only; omega⟩⟩,fun ha=>⟨fun hf=>⟨by omega,fun h2=>⟨by omega,⟨by omega,by omega⟩,(_,_,k+1),rfl,tk (fun h=>by rw [ha] at h; cases h) (fun _=>h2),by simp only; omega⟩,fun h2=>⟨⟨by omega,by omega⟩,(_,_,k+1),rfl,sk (.inr ⟨hf,h2⟩),by simp only; omega⟩⟩,fun hf=>⟨by omega,⟨by omega,by omega⟩,(_,_,k+1),rfl,tk (fun h=>by rw [ha] at h; cases h) (fun h=>by rw [hf] at h; cases h),by simp only; omega⟩⟩⟩
 ·have hkl':¬ (k:Int)<l.length:=by omega
  simp (disch:=first|omega|exact zF rfl|exact zG rfl|exact fun h=>h|(simp only[zA,zB,zC,zD,bytesW];omega)) only[go_sem,c20S6,c20S8,hkl']
  have hkk:k=l.length:=by omega
  subst hkk
  unfold Next at hn
  rw [List.take_length] at hn
  refine ⟨fun hf=>⟨⟨acc,⟨hp.up,hp.sorts,hp.kind,fun o ho=>?_⟩,segs_rd hvs s1 (fun j s v hs hv=>?_) fun s hs=>?_⟩,s1.bel⟩,fun hf=>?_⟩
  ·rcases hn with ⟨_,hn⟩ | ⟨hn,_⟩
   ·rcases hp.all o ho with h' | h'
    ·unfold left at h'
     rw [List.mem_filter] at h'
     obtain ⟨a1,a2⟩:=hn o ho
     rw [a1] at h'
     have:=h'.2
     simp at this
     omega
    ·exact h'
   ·rw [hf] at hn; cases hn
  ·exact (s1.inv _ (segInvs_mem acc vs j s v hs hv)).1
  ·have e1:=(hp.sorts s hs).1.length_eq
   have e2:=ofObj_len s.obj l
   omega
  ·rcases hn with ⟨hn,_⟩ | ⟨_,⟨x,hx,hxe⟩,hlo,hmin⟩
   ·rw [hf] at hn; cases hn
   simp (disch:=first|omega|exact zF rfl|exact zG rfl|exact fun h=>h|(simp only[zA,zB,zC,zD,bytesW];omega)) only[go_sem,c20S7,c20S8]
   refine W_loopU (fun y:Value × Nat=>[(9,y.1),(10,.int .i64 y.2)]) (fun y w'=>y.2≤l.length∧St w w' (fun _=>False) [.row y.1 52 11 (ofObj next (l.take y.2)).length ((ofObj next (l.take y.2)).flatMap OpT.enc),.row vo 47 3 acc.length (segCells acc vs)] (segInvs acc vs)) (fun y=>l.length - y.2) (.slice none 0 0,0) rfl ⟨Nat.zero_le _,s1.nilRow 52 11⟩ ?_
   rintro ⟨v2,k⟩ w2 ⟨hk2,s2⟩
   simp only at hk2 s2
   by_cases hkl2:k<l.length
   ·have hkl2':(k:Int)<l.length:=by omega
    obtain ⟨q,rfl⟩:=h.ptr (by omega)
    have ek:=h.eltB s2.bel OpT.len (by decide) hkl2
    have ck:=cellsO_below s2.bel (h.at OpT.len hkl2)
    have ak:=l[k].at
    have hf1:=ofObj_len next (l.take k)
    rw [List.length_take] at hf1
    have hsn:=ofObj_snoc next hkl2
    simp (disch:=first|omega|exact zF rfl|exact zG rfl|exact fun h=>h|(simp only[zA,zB,zC,zD,bytesW];omega)) only[go_sem,c20S7,c20S8,hkl2',ek,ak,ck]
    refine ⟨by omega,fun he=>⟨by omega,bsW_agg ty22mkI rfl (by decide) (by decide) ?_⟩,fun he=>⟨⟨by omega,by omega⟩,(v2,k+1),rfl,⟨hkl2,?_⟩,by simp only; omega⟩⟩
    ·have hrd:Rd (w2.alloc (.cells l[k].enc.toArray 52)) 11 (.slice (some ⟨w2.heap.size,0,none⟩) 1 1) 1 l[k].enc:=rd_new (t:=52) (sz:=11) (n:=1) (cs:=l[k].enc.toArray) rfl
     have s3:=s2.alloc' (.cells l[k].enc.toArray 52)
     generalize w2.alloc (.cells l[k].enc.toArray 52)=w3 at s3 hrd ⊢
     simp (disch:=first|omega|exact zF rfl|exact zG rfl|exact fun h=>h|(simp only[zA,zB,zC,zD,bytesW];omega)) only[go_sem,c20S7,c20S8]
     refine s3.append 0 rfl ty22mkI rfl (by decide) hrd l[k].one (by omega) (by omega) ?_
     intro v4 w4 s4 _
     simp only [List.set_cons_zero] at s4
     simp (disch:=first|omega|exact zF rfl|exact zG rfl|exact fun h=>h|(simp only[zA,zB,zC,zD,bytesW];omega)) only[go_sem,c20S7,c20S8]
     refine ⟨⟨by omega,by omega⟩,(v4,k+1),rfl,⟨hkl2,?_⟩,by simp only; omega⟩
     simp only
     have e2:(ofObj next (l.take k)++[l[k]]).length=(ofObj next (l.take k)).length+1:=by simp
     have e3:(ofObj next (l.take k)++[l[k]]).flatMap OpT.enc=(ofObj next (l.take k)).flatMap OpT.enc++l[k].enc:=by rw [List.flatMap_append]; simp
     rw [hsn,if_pos he,e2,e3]
     exact s4
    ·simp only
     rw [hsn,if_neg he,List.append_nil]
     exact s2
   ·have hkl2':¬ (k:Int)<l.length:=by omega
    simp (disch:=first|omega|exact zF rfl|exact zG rfl|exact fun h=>h|(simp only[zA,zB,zC,zD,bytesW];omega)) only[go_sem,c20S7,c20S8,hkl2']
    have hkk:k=l.length:=by omega
    subst hkk
    rw [List.take_length] at s2
    simp (disch:=first|omega|exact zF rfl|exact zG rfl|exact fun h=>h|(simp only[zA,zB,zC,zD,bytesW];omega)) only[go_sem,c20S6,c20S7,c20S8]
    refine Ret.mono (sorted_ok _ _ _ (RdS.of_own (s2.row 0 rfl)) (by have:=ofObj_len next l; omega)) ?_
    rintro v3 w3 ⟨⟨r,hs,o3⟩,b3⟩
    have s3:=(s2.sub (List.sublist_cons_self _ _)).add b3 (.row v3 52 11 r.length (r.flatMap OpT.enc)) (own_mono o3 s2.size) fun k hk=>(o3.lt k hk).1
    have hrx:r≠[]:=fun e=>by
     have hm:x∈ofObj next l:=by unfold ofObj; rw [List.mem_filter]; exact ⟨hx,by simpa using hxe⟩
     have:=hs.1.length_eq
     rw [e] at this
     rw [List.eq_nil_of_length_eq_zero this.symm] at hm
     cases hm
    obtain ⟨o,r',rfl⟩:=List.exists_cons_of_ne_nil hrx
    have hro:RdS w3 11 OpT.enc v3 (o::r'):=RdS.of_own o3
    obtain ⟨p,cp,rfl,_⟩:=hro.form
    obtain ⟨p,rfl⟩:=hro.ptr (by simp)
    have er:=hro.elt OpT.len (by decide) (show 0<(o::r').length by simp)
    have ar:=o.at
    have e3:w3.cell? ⟨p.block,p.off+3,none⟩=some (.int .i64 o.Kind):=by
     have:=er.2 3 (by decide) (by decide)
     simpa [ar] using this
    simp (disch:=first|omega|exact zF rfl|exact zG rfl|exact fun h=>h|(simp only[zA,zB,zC,zD,bytesW];omega)) only[go_sem,c20S6,c20S7,c20S8,er,ar,e3]
    refine ⟨by omega,bdW_built (cells:=(segC ⟨next,o.Kind,[]⟩ (.slice (some p) (r'.length+1) cp)).toArray) (by kernel_rfl) ?_⟩
    simp (disch:=first|omega|exact zF rfl|exact zG rfl|exact fun h=>h|(simp only[zA,zB,zC,zD,bytesW];omega)) only[go_sem,c20S6,c20S7,c20S8]
    refine bsW_agg ty39mkI rfl (by decide) (by decide) ?_
    have s4:=(s3.seal (.rd 11 OpT.enc (.slice (some p) (r'.length+1) cp) (o::r')) hro fun k hk=>slFoot_own hk).alloc' (.cells (segC ⟨next,o.Kind,[]⟩ (.slice (some p) (r'.length+1) cp)).toArray 47)
    have hrd:Rd (w3.alloc (.cells (segC ⟨next,o.Kind,[]⟩ (.slice (some p) (r'.length+1) cp)).toArray 47)) 3 (.slice (some ⟨w3.heap.size,0,none⟩) 1 1) 1 (segC ⟨next,o.Kind,[]⟩ (.slice (some p) (r'.length+1) cp)):=rd_new (t:=47) (sz:=3) (n:=1) (cs:=(segC ⟨next,o.Kind,[]⟩ (.slice (some p) (r'.length+1) cp)).toArray) rfl
    generalize w3.alloc (.cells (segC ⟨next,o.Kind,[]⟩ (.slice (some p) (r'.length+1) cp)).toArray 47)=w4 at s4 hrd ⊢
    simp (disch:=first|omega|exact zF rfl|exact zG rfl|exact fun h=>h|(simp only[zA,zB,zC,zD,bytesW];omega)) only[go_sem,c20S6,c20S7,c20S8]
    refine s4.append 0 rfl ty39mkI rfl (by decide) hrd (by intro u hu; simp only [segC,List.mem_cons,List.not_mem_nil,or_false] at hu; rcases hu with rfl | rfl | rfl <;> rfl) (by omega) (by omega) ?_
    intro v5 w5 s5 _
    simp only [List.set_cons_zero] at s5
    simp (disch:=first|omega|exact zF rfl|exact zG rfl|exact fun h=>h|(simp only[zA,zB,zC,zD,bytesW];omega)) only[go_sem,c20S6,c20S7,c20S8]
    obtain ⟨p1,p2⟩:=hp.step hx hxe hlo hmin hs
    refine ⟨(v5,next,true),rfl,⟨acc++[⟨next,o.Kind,o::r'⟩],vs++[.slice (some p) (r'.length+1) cp],by simp [hvs],by simp only; rw [List.length_append,List.length_singleton]; omega,?_,p1⟩,p2⟩
    rw [List.length_append,List.length_singleton,segCells_snoc _ _ _ _ hvs]
    refine St.inv_sub s5 fun a ha=>?_
    rcases (segInvs_snoc acc vs _ _ hvs a).1 ha with rfl | ha
    ·exact List.mem_cons_self
    ·exact List.mem_cons_of_mem _ ha
end Go.Proofs.YtoadmihnihfjkaaGreat.Cut

namespace Go.Proofs.YtoadmihnihfjkaaGreat.Cut
open Go Go.Ann Go.RowKit
theorem sorts_unique{l a b:List OpT}(hp:Pure l)(ha:Sorts earI l a)(hb:Sorts earI l b):a=b:=by
 refine List.Perm.eq_of_pairwise ?_ ha.2 hb.2 (ha.1.trans hb.1.symm)
 intro x y hx hy h1 h2
 refine hp x (ha.1.mem_iff.1 hx) y (hb.1.mem_iff.1 hy) ?_
 rw [ear_neg] at h1 h2
 omega
theorem byObj_unique{l:List OpT}(hp:Pure l):∀ {a b:List Seg},ByObj l a→ByObj l b→a=b:=by
 intro a b ha hb
 have mem:∀ {a b:List Seg},ByObj l a→ByObj l b→∀ s∈a,s∈b:=by
  intro a b ha hb s hs
  obtain ⟨o,r,e,hk⟩:=ha.kind s hs
  have ho:o∈ofObj s.obj l:=(ha.sorts s hs).1.mem_iff.1 (by rw [e]; exact List.mem_cons_self)
  unfold ofObj at ho
  rw [List.mem_filter,decide_eq_true_eq] at ho
  obtain ⟨t,ht,hto⟩:=hb.all o ho.1
  have heq:t.obj=s.obj:=hto.trans ho.2
  have hops:t.ops=s.ops:=by
   have h1:=hb.sorts t ht
   rw [heq] at h1
   refine sorts_unique (l:=ofObj s.obj l) (fun x hx y hy=>hp x ?_ y ?_) h1 (ha.sorts s hs)
   ·exact (List.mem_filter.1 hx).1
   ·exact (List.mem_filter.1 hy).1
  obtain ⟨o2,r2,e2,hk2⟩:=hb.kind t ht
  have:t=s:=by
   rw [hops,e] at e2
   cases t; cases s
   simp only at heq hops hk hk2 e2 ⊢
   simp only [List.cons.injEq] at e2
   subst heq; subst hops
   rw [hk,hk2,e2.1]
  rw [← this]; exact ht
 have nd:∀ {a:List Seg},ByObj l a→a.Nodup:=fun h=>h.up.imp fun h e=>by rw [e] at h; omega
 have hperm:a.Perm b:=(List.perm_ext_iff_of_nodup (nd ha) (nd hb)).2 fun s=>⟨mem ha hb s,mem hb ha s⟩
 exact List.Perm.eq_of_pairwise (le:=fun x y:Seg=>x.obj<y.obj) (fun x y _ _ h1 h2=>by omega) ha.up hb.up hperm
end Go.Proofs.YtoadmihnihfjkaaGreat.Cut

namespace Go.Proofs.YtoadmihnihfjkaaGreat.Cut
open Go Go.Ann Go.RowKit
theorem blk_okSt{w:World}{b:Nat}{cs:Array Value}{t:TypeId}(h:Blk w b cs t){vs:List Value}(h1:∀ u∈vs,u.oneCell'=true)(h2:vs.length≤cs.size):okSt w b 0 vs:=by
 rw [okSt_iff]
 refine ⟨h1,fun j hj=>⟨⟨cs[j]'(by omega),?_⟩,?_⟩⟩
 ·rw [h.rules.1,Nat.zero_add]; exact Array.getElem?_eq_getElem (by omega)
 ·exact h.rules.2.1 _
structure Row4 where
 kind:Int
 method:Int
 args:Int
 how:Int
def Row4.enc(r:Row4):List Value:=[.int .i64 r.kind,.int .i64 r.method,.int .i64 r.args,.int .i64 r.how]
theorem Row4.len(r:Row4):r.enc.length=4:=rfl
theorem Row4.one(r:Row4):∀ u∈r.enc,u.oneCell'=true:=by intro u hu; simp only [Row4.enc,List.mem_cons,List.not_mem_nil,or_false] at hu; rcases hu with rfl | rfl | rfl | rfl <;> rfl
theorem Row4.at(r:Row4):r.enc[0]?=some (.int .i64 r.kind)∧r.enc[1]?=some (.int .i64 r.method)∧r.enc[2]?=some (.int .i64 r.args)∧r.enc[3]?=some (.int .i64 r.how):=⟨rfl,rfl,rfl,rfl⟩
def rowsTable:List Row4:=[⟨1,1,0,2⟩,⟨1,2,1,0⟩,⟨1,3,2,1⟩,⟨2,1,0,3⟩,⟨2,4,0,0⟩,⟨2,5,0,0⟩,⟨3,6,1,0⟩,⟨3,7,0,4⟩,⟨4,8,1,0⟩,⟨4,9,0,4⟩,⟨5,10,1,1⟩,⟨5,11,1,1⟩,⟨5,12,1,1⟩,⟨6,13,0,0⟩,⟨6,14,0,0⟩]
theorem rows_ok(w:World):Ret Tryz.prog 92 [] w fun v w'=>RdS w' 4 Row4.enc v rowsTable∧Below w.heap.size w w':=by
 refine ent92 _ _ ?_
 simp (disch:=first|omega|exact zF rfl|exact zG rfl|exact fun h=>h|(simp only[zA,zB,zC,zD,bytesW];omega)) only[go_sem]
 refine bdW_built (cells:=(Row4.enc ⟨1,1,0,2⟩).toArray) (by kernel_rfl) ?_
 simp (disch:=first|omega|exact zF rfl|exact zG rfl|exact fun h=>h|(simp only[zA,zB,zC,zD,bytesW];omega)) only[go_sem]
 refine bdW_built (cells:=(Row4.enc ⟨1,2,1,0⟩).toArray) (by kernel_rfl) ?_
 simp (disch:=first|omega|exact zF rfl|exact zG rfl|exact fun h=>h|(simp only[zA,zB,zC,zD,bytesW];omega)) only[go_sem]
 refine bdW_built (cells:=(Row4.enc ⟨1,3,2,1⟩).toArray) (by kernel_rfl) ?_
 simp (disch:=first|omega|exact zF rfl|exact zG rfl|exact fun h=>h|(simp only[zA,zB,zC,zD,bytesW];omega)) only[go_sem]
 refine bdW_built (cells:=(Row4.enc ⟨2,1,0,3⟩).toArray) (by kernel_rfl) ?_
 simp (disch:=first|omega|exact zF rfl|exact zG rfl|exact fun h=>h|(simp only[zA,zB,zC,zD,bytesW];omega)) only[go_sem]
 refine bdW_built (cells:=(Row4.enc ⟨2,4,0,0⟩).toArray) (by kernel_rfl) ?_
 simp (disch:=first|omega|exact zF rfl|exact zG rfl|exact fun h=>h|(simp only[zA,zB,zC,zD,bytesW];omega)) only[go_sem]
 refine bdW_built (cells:=(Row4.enc ⟨2,5,0,0⟩).toArray) (by kernel_rfl) ?_
 simp (disch:=first|omega|exact zF rfl|exact zG rfl|exact fun h=>h|(simp only[zA,zB,zC,zD,bytesW];omega)) only[go_sem]
 refine bdW_built (cells:=(Row4.enc ⟨3,6,1,0⟩).toArray) (by kernel_rfl) ?_
 simp (disch:=first|omega|exact zF rfl|exact zG rfl|exact fun h=>h|(simp only[zA,zB,zC,zD,bytesW];omega)) only[go_sem]
 refine bdW_built (cells:=(Row4.enc ⟨3,7,0,4⟩).toArray) (by kernel_rfl) ?_
 simp (disch:=first|omega|exact zF rfl|exact zG rfl|exact fun h=>h|(simp only[zA,zB,zC,zD,bytesW];omega)) only[go_sem]
 refine bdW_built (cells:=(Row4.enc ⟨4,8,1,0⟩).toArray) (by kernel_rfl) ?_
 simp (disch:=first|omega|exact zF rfl|exact zG rfl|exact fun h=>h|(simp only[zA,zB,zC,zD,bytesW];omega)) only[go_sem]
 refine bdW_built (cells:=(Row4.enc ⟨4,9,0,4⟩).toArray) (by kernel_rfl) ?_
 simp (disch:=first|omega|exact zF rfl|exact zG rfl|exact fun h=>h|(simp only[zA,zB,zC,zD,bytesW];omega)) only[go_sem]
 refine bdW_built (cells:=(Row4.enc ⟨5,10,1,1⟩).toArray) (by kernel_rfl) ?_
 simp (disch:=first|omega|exact zF rfl|exact zG rfl|exact fun h=>h|(simp only[zA,zB,zC,zD,bytesW];omega)) only[go_sem]
 refine bdW_built (cells:=(Row4.enc ⟨5,11,1,1⟩).toArray) (by kernel_rfl) ?_
 simp (disch:=first|omega|exact zF rfl|exact zG rfl|exact fun h=>h|(simp only[zA,zB,zC,zD,bytesW];omega)) only[go_sem]
 refine bdW_built (cells:=(Row4.enc ⟨5,12,1,1⟩).toArray) (by kernel_rfl) ?_
 simp (disch:=first|omega|exact zF rfl|exact zG rfl|exact fun h=>h|(simp only[zA,zB,zC,zD,bytesW];omega)) only[go_sem]
 refine bdW_built (cells:=(Row4.enc ⟨6,13,0,0⟩).toArray) (by kernel_rfl) ?_
 simp (disch:=first|omega|exact zF rfl|exact zG rfl|exact fun h=>h|(simp only[zA,zB,zC,zD,bytesW];omega)) only[go_sem]
 refine bdW_built (cells:=(Row4.enc ⟨6,14,0,0⟩).toArray) (by kernel_rfl) ?_
 simp (disch:=first|omega|exact zF rfl|exact zG rfl|exact fun h=>h|(simp only[zA,zB,zC,zD,bytesW];omega)) only[go_sem]
 refine bsW_cells (cells:=(rowsTable.flatMap Row4.enc).toArray) ty144mkI (by decide) (by decide) (by kernel_rfl) ?_
 simp (disch:=first|omega|exact zF rfl|exact zG rfl|exact fun h=>h|(simp only[zA,zB,zC,zD,bytesW];omega)) only[go_sem]
 exact ⟨rd_new (w:=w) (sz:=4) (n:=15) (cs:=(rowsTable.flatMap Row4.enc).toArray) rfl,by (repeat' (first | with_reducible exact Below.refl _ _ | with_reducible assumption | (with_reducible refine Below.drew ?_) | (with_reducible refine Below.alloc ?_ ?_ _) | (with_reducible refine Below.setCell ?_ ?_ _) | (with_reducible refine Below.fill ?_ ?_) | (with_reducible refine Below.via (by assumption) ?_ ?_) | omega | (simp only [World.size_alloc,World.size_drew,World.size_setCell,size_fill,bytesW]; omega)))⟩
theorem rising_pairwise{l:List OpT}(h:∀ j,(h:j+1<l.length)→l[j].ID<l[j+1].ID):l.Pairwise fun a b=>a.ID<b.ID:=by
 rw [List.pairwise_iff_getElem]
 intro i j hi hj hij
 induction j with
 | zero=>omega
 | succ j ih =>
  rcases Nat.lt_or_ge i j with h1 | h1
  ·exact Int.lt_trans (ih (by omega) h1) (h j hj)
  ·obtain rfl:i=j:=by omega
   exact h i hj
theorem pair_id{l:List OpT}(hp:l.Pairwise fun a b=>a.ID<b.ID):Pure l:=fun a ha b hb e=>by
 obtain ⟨i,hi,rfl⟩:=List.mem_iff_getElem.1 ha
 obtain ⟨j,hj,rfl⟩:=List.mem_iff_getElem.1 hb
 rw [List.pairwise_iff_getElem] at hp
 rcases Nat.lt_trichotomy i j with h | rfl | h
 ·have:=hp i j hi hj h; omega
 ·rfl
 ·have:=hp j i hj hi h; omega
end Go.Proofs.YtoadmihnihfjkaaGreat.Cut

namespace Go.Proofs.YtoadmihnihfjkaaGreat.Cut
open Go Go.Ann Go.RowKit
def Tells(w:World)(fv:Value)(p:OpT→Bool):Prop:=∀ x w',Below w.heap.size w w'→callW Tryz.prog fv [.agg x.enc.toArray] w' fun u w''=>u=.bool (p x)∧Below w'.heap.size w' w''
def firstI(p:OpT→Bool)(l:List OpT):Int:=match l.findIdx? p with | some i=>i | none => -1
theorem firstI_at{p:OpT→Bool}{l:List OpT}{k:Nat}(h:k<l.length)(hp:p l[k]=true)(hb:∀ j,(h:j<l.length)→j<k→p l[j]=false):firstI p l=k:=by
 unfold firstI
 rw [List.findIdx?_eq_some_iff_getElem.2 ⟨h,hp,fun j hj=>by rw [hb j (by omega) hj]; decide⟩]
theorem firstI_none{p:OpT→Bool}{l:List OpT}(hb:∀ j,(h:j<l.length)→p l[j]=false):firstI p l = -1:=by
 unfold firstI
 rw [List.findIdx?_eq_none_iff.2 fun x hx=>by obtain ⟨j,hj,rfl⟩:=List.mem_iff_getElem.1 hx; exact hb j hj]
theorem firstI_any{p:OpT→Bool}{l:List OpT}:decide (0≤firstI p l)=l.any p:=by
 rcases h:l.any p with _ | _
 ·rw [firstI_none fun j hj=>by simpa using (List.any_eq_false.1 h) _ (List.getElem_mem hj)]; decide
 ·unfold firstI
  cases e:l.findIdx? p with
  | none=>rw [List.findIdx?_eq_none_iff] at e; obtain ⟨x,hx,hp⟩:=List.any_eq_true.1 h; rw [e x hx] at hp; cases hp
  | some i=>exact decide_eq_true (by show (0:Int)≤(i:Int); omega)
theorem indexFunc_ok(fv:Value)(p:OpT→Bool)(v:Value)(l:List OpT)(w:World)(h:RdS w 11 OpT.enc v l)(hf:Tells w fv p)(hl:(l.length:Int)≤9223372036854775806) :
  Ret Tryz.prog 38 [v,fv] w fun u w'=>u=.int .i64 (firstI p l)∧Below w.heap.size w w':=by
 obtain ⟨a,c,rfl,_⟩:=h.form
 refine ent38 _ _ _ _ ?_
 simp (disch:=first|omega|exact zF rfl|exact zG rfl|exact fun h=>h|(simp only[zA,zB,zC,zD,bytesW];omega)) only[go_sem]
 refine W_loopU (fun k:Nat=>[(8,.int .i64 k)]) (fun k w'=>Below w.heap.size w w'∧k≤l.length∧∀ j,(h:j<l.length)→j<k→p l[j]=false) (fun k=>l.length - k) 0 rfl ⟨Below.refl _ _,Nat.zero_le _,fun j _ h=>by omega⟩ ?_
 rintro k w1 ⟨hw,hk,he⟩
 by_cases hlt:k<l.length
 ·obtain ⟨q,rfl⟩:=h.ptr (by omega)
  have ek:=h.eltB hw OpT.len (by decide) hlt
  have ck:=cellsO_below hw (h.at OpT.len hlt)
  have hlt':(k:Int)<l.length:=by omega
  simp (disch:=first|omega|exact zF rfl|exact zG rfl|exact fun h=>h|(simp only[zA,zB,zC,zD,bytesW];omega)) only[go_sem,hlt',ck,ek]
  refine ⟨by omega,callW_mono (hf _ _ hw) ?_⟩
  rintro _ w2 ⟨rfl,hb⟩
  simp (disch:=first|omega|exact zF rfl|exact zG rfl|exact fun h=>h|(simp only[zA,zB,zC,zD,bytesW];omega)) only[go_sem,hlt']
  have hwt:=hw.trans (hb.mono hw.size)
  refine ⟨fun hp=>⟨(firstI_at hlt hp he).symm,hwt⟩,fun hp=>⟨⟨by omega,by omega⟩,k+1,rfl,⟨hwt,by omega,fun j h1 h2=>?_⟩,by omega⟩⟩
  rcases Nat.lt_or_ge j k with h' | h'
  ·exact he j h1 h'
  ·obtain rfl:j=k:=by omega
   exact hp
 ·have hlt':¬ (k:Int)<l.length:=by omega
  simp (disch:=first|omega|exact zF rfl|exact zG rfl|exact fun h=>h|(simp only[zA,zB,zC,zD,bytesW];omega)) only[go_sem,hlt']
  exact ⟨(firstI_none fun j h=>he j h (by omega)).symm,hw⟩
theorem containsFunc_ok(fv:Value)(p:OpT→Bool)(v:Value)(l:List OpT)(w:World)(h:RdS w 11 OpT.enc v l)(hf:Tells w fv p)(hl:(l.length:Int)≤9223372036854775806) :
  Ret Tryz.prog 42 [v,fv] w fun u w'=>u=.bool (l.any p)∧Below w.heap.size w w':=by
 refine ent42 _ _ _ _ ?_
 simp (disch:=first|omega|exact zF rfl|exact zG rfl|exact fun h=>h|(simp only[zA,zB,zC,zD,bytesW];omega)) only[go_sem]
 refine Ret.mono (indexFunc_ok _ p _ _ _ h hf hl) ?_
 rintro _ w1 ⟨rfl,hb⟩
 simp (disch:=first|omega|exact zF rfl|exact zG rfl|exact fun h=>h|(simp only[zA,zB,zC,zD,bytesW];omega)) only[go_sem]
 exact ⟨firstI_any,hb⟩
theorem isNaN_ok(a:Int)(w:World):Ret Tryz.prog 82 [.int .i64 a] w fun u w'=>u=.bool false∧w'=w:=by
 refine ent82 _ _ _ ?_
 simp (disch:=first|omega|exact zF rfl|exact zG rfl|exact fun h=>h|(simp only[zA,zB,zC,zD,bytesW];omega)) only[go_sem]
theorem compare_ok(a b:Int)(w:World):Ret Tryz.prog 53 [.int .i64 a,.int .i64 b] w fun u w'=>u=.int .i64 (cmpI a b)∧w'=w:=by
 refine ent53 _ _ _ _ ?_
 simp (disch:=first|omega|exact zF rfl|exact zG rfl|exact fun h=>h|(simp only[zA,zB,zC,zD,bytesW];omega)) only[go_sem]
 refine Ret.mono (isNaN_ok _ _) ?_
 rintro _ _ ⟨rfl,rfl⟩
 simp (disch:=first|omega|exact zF rfl|exact zG rfl|exact fun h=>h|(simp only[zA,zB,zC,zD,bytesW];omega)) only[go_sem]
 refine Ret.mono (isNaN_ok _ _) ?_
 rintro _ _ ⟨rfl,rfl⟩
 simp (disch:=first|omega|exact zF rfl|exact zG rfl|exact fun h=>h|(simp only[zA,zB,zC,zD,bytesW];omega)) only[go_sem]
 unfold cmpI
 refine ⟨fun h=>by rw [if_pos h],fun h=>⟨fun h2=>by rw [if_neg (by omega),if_pos h2],fun h2=>by rw [if_neg (by omega),if_neg (by omega)]⟩⟩
theorem find_at{α:Type}{p:α→Bool}:∀ {l:List α} {k:Nat} (h:k<l.length),p l[k]=true→(∀ j,(h:j<l.length)→j<k→p l[j]=false)→l.find? p=some l[k]
 | a::l,0,h,hp,_=>by rw [List.find?_cons_of_pos (by exact hp)]; rfl
 | a::l,k+1,h,hp,hb=>by
  rw [List.find?_cons_of_neg (by have:=hb 0 (by simp) (by omega); exact Bool.eq_false_iff.1 this)]
  exact find_at (l:=l) (k:=k) (by simpa using h) hp fun j h1 h2=>hb (j+1) (by simpa using h1) (by omega)
theorem or_ok(v:Value)(l:List Int)(w:World)(h:RdS w 1 (fun n=>[.int .i64 n]) v l)(hl:(l.length:Int)≤9223372036854775806) :
  Ret Tryz.prog 52 [v] w fun u w'=>u=.int .i64 ((l.find? (·≠0)).getD 0)∧w'=w:=by
 obtain ⟨a,c,rfl,_⟩:=h.form
 refine ent52 _ _ _ ?_
 simp (disch:=first|omega|exact zF rfl|exact zG rfl|exact fun h=>h|(simp only[zA,zB,zC,zD,bytesW];omega)) only[go_sem]
 refine W_loopU (fun k:Nat=>[(8,.int .i64 k)]) (fun k w'=>w'=w∧k≤l.length∧∀ j,(h:j<l.length)→j<k→l[j]=0) (fun k=>l.length - k) 0 rfl ⟨rfl,Nat.zero_le _,fun j _ h=>by omega⟩ ?_
 rintro k _ ⟨rfl,hk,he⟩
 by_cases hlt:k<l.length
 ·obtain ⟨q,rfl⟩:=h.ptr (by omega)
  have ck:=h.at1 (e1:=fun n=>.int .i64 n) hlt
  have hlt':(k:Int)<l.length:=by omega
  simp (disch:=first|omega|exact zF rfl|exact zG rfl|exact fun h=>h|(simp only[zA,zB,zC,zD,bytesW];omega)) only[go_sem,hlt',ck]
  refine ⟨by omega,fun hne=>?_,fun h0=>⟨⟨by omega,by omega⟩,k+1,rfl,⟨by omega,fun j h1 h2=>?_⟩,by omega⟩⟩
  ·rw [find_at hlt (by simpa using hne) fun j h h2=>by simpa using he j h h2]; rfl
  ·rcases Nat.lt_or_ge j k with h' | h'
   ·exact he j h1 h'
   ·obtain rfl:j=k:=by omega
    exact h0
 ·have hlt':¬ (k:Int)<l.length:=by omega
  simp (disch:=first|omega|exact zF rfl|exact zG rfl|exact fun h=>h|(simp only[zA,zB,zC,zD,bytesW];omega)) only[go_sem,hlt']
  rw [List.find?_eq_none.2 fun x hx=>by obtain ⟨j,hj,rfl⟩:=List.mem_iff_getElem.1 hx; simpa using he j hj (by omega)]
  rfl
end Go.Proofs.YtoadmihnihfjkaaGreat.Cut

namespace Go.Proofs.YtoadmihnihfjkaaGreat.Cut
open Go Go.Ann Go.RowKit
def Gr(w w':World):Prop:=∃ q os,w'=Go.Sort.grow (w.drewN q) os
theorem Gr.refl(w:World):Gr w w:=⟨0,#[],by rw [Go.Sort.grow_empty]; rfl⟩
theorem Gr.alloc{w w':World}(h:Gr w w')(o:Obj):Gr w (w'.alloc o):=by
 obtain ⟨q,os,rfl⟩:=h
 exact ⟨q,os++#[o],by rw [Go.Sort.alloc_eq_grow,Go.Sort.grow_grow]⟩
theorem Gr.drew{w w':World}(h:Gr w w'):Gr w w'.drew:=by
 obtain ⟨q,os,rfl⟩:=h
 exact ⟨q+1,os,rfl⟩
theorem Gr.trans{a b c:World}(h:Gr a b)(k:Gr b c):Gr a c:=by
 obtain ⟨q,os,rfl⟩:=h
 obtain ⟨r,ps,rfl⟩:=k
 exact ⟨q+r,os++ps,by rw [← Go.Sort.grow_grow]; show Go.Sort.grow (Go.Sort.grow ((a.drewN q).drewN r) os) ps=_; rw [World.drewN_drewN]⟩
theorem Gr.below{w w':World}(h:Gr w w'):Below w.heap.size w w':=by
 obtain ⟨q,os,rfl⟩:=h
 refine ⟨rfl,rfl,rfl,?_,fun k hk=>?_⟩
 ·show w.heap.size≤(w.heap++os).size
  rw [Array.size_append]; omega
 ·show (w.heap++os)[k]?=_
  rw [Array.getElem?_append_left hk]
theorem ints2_new{w:World}{b:Nat}{t:TypeId}(x y:Int)(hb:b=w.heap.size):RdS (w.alloc (.cells #[.int .i64 x,.int .i64 y] t)) 1 (fun n=>[.int .i64 n]) (.slice (some ⟨b,0,none⟩) 2 2) [x,y]:=by
 subst hb
 exact rd_new (n:=2) (cs:=#[.int .i64 x,.int .i64 y]) rfl
end Go.Proofs.YtoadmihnihfjkaaGreat.Cut

namespace Go.Proofs.YtoadmihnihfjkaaGreat.Cut
open Go Go.Ann Go.RowKit
theorem sortnil1(fv:Value)(w:World):Ret Tryz.prog 102 [.slice none 0 0,.int .i64 0,.int .i64 0,fv] w fun u w'=>w'=w:=by
 refine ent102 _ _ _ _ _ _ ?_
 simp (disch:=first|omega|exact zF rfl|exact zG rfl|exact fun h=>h|(simp only[zA,zB,zC,zD,bytesW];omega)) only[go_sem]
 refine ⟨⟨by decide,by decide⟩,?_⟩
 refine W_loopU (fun _:Unit=>[]) (fun _ w'=>w'=w) (fun _=>0) () rfl rfl ?_
 rintro _ _ rfl
 simp (disch:=first|omega|exact zF rfl|exact zG rfl|exact fun h=>h|(simp only[zA,zB,zC,zD,bytesW];omega)) only[go_sem]
theorem sortnil2(fv:Value)(l:Int)(w:World):Ret Tryz.prog 80 [.slice none 0 0,.int .i64 0,.int .i64 0,.int .i64 l,fv] w fun u w'=>w'=w:=by
 refine ent80 _ _ _ _ _ _ _ ?_
 simp (disch:=first|omega|exact zF rfl|exact zG rfl|exact fun h=>h|(simp only[zA,zB,zC,zD,bytesW];omega)) only[go_sem]
 refine W_loopU (fun _:Unit=>[]) (fun _ w'=>w'=w) (fun _=>0) () rfl rfl ?_
 rintro _ _ rfl
 simp (disch:=first|omega|exact zF rfl|exact zG rfl|exact fun h=>h|(simp only[zA,zB,zC,zD,bytesW];omega)) only[go_sem]
 refine ⟨⟨by decide,by decide⟩,Ret.mono (sortnil1 _ _) ?_⟩
 rintro _ _ rfl
 simp (disch:=first|omega|exact zF rfl|exact zG rfl|exact fun h=>h|(simp only[zA,zB,zC,zD,bytesW];omega)) only[go_sem]
theorem sortnil(fv:Value)(w:World):Ret Tryz.prog 50 [.slice none 0 0,fv] w fun u w'=>w'=w:=by
 refine ent50 _ _ _ _ ?_
 simp (disch:=first|omega|exact zF rfl|exact zG rfl|exact fun h=>h|(simp only[zA,zB,zC,zD,bytesW];omega)) only[go_sem]
 have hb:=Any.bits_Len (SlLaysF0.n15.bits (P:=Tryz.prog) (ρ:=laySortOps_ren) { laySortOps with }) 0 w (by omega) (by omega)
 have hb':Ret Tryz.prog 81 [.int .u64 (IntKind.u64.wrap 0)] w fun u w'=>u=.int .i64 (Lib.bitLen 0:Nat)∧w'=w:=hb.mono fun e w' ⟨h1,h2⟩=>⟨_,h1,rfl,h2⟩
 refine Ret.mono hb' ?_
 rintro _ _ ⟨rfl,rfl⟩
 simp (disch:=first|omega|exact zF rfl|exact zG rfl|exact fun h=>h|(simp only[zA,zB,zC,zD,bytesW];omega)) only[go_sem]
 refine Ret.mono (sortnil2 _ _ _) ?_
 rintro _ _ rfl
 simp (disch:=first|omega|exact zF rfl|exact zG rfl|exact fun h=>h|(simp only[zA,zB,zC,zD,bytesW];omega)) only[go_sem]
theorem flatK_eq{α:Type}[Inhabited α]{enc:α→List Value}{k:Nat}(hk:∀ x,(enc x).length=k)(d:Array α):(Go.Sort.flatK enc k d).toList=d.toList.flatMap enc:=by
 have hl:(d.toList.flatMap enc).length=d.size * k:=by
  rw [List.length_flatMap,← Array.length_toList]
  generalize d.toList=l
  induction l with
  | nil=>simp
  | cons a l ih=>rw [List.map_cons,List.sum_cons,ih,hk,List.length_cons,Nat.add_mul]; omega
 refine List.ext_getElem (by rw [hl,Array.length_toList,Go.Sort.size_flatK]) fun t h1 h2=>?_
 have ht:t<d.size * k:=by omega
 have hk0:0<k:=Nat.pos_of_ne_zero fun h=>by subst h; omega
 have hi:t / k<d.size:=(Nat.div_lt_iff_lt_mul hk0).2 ht
 have hj:t % k<k:=Nat.mod_lt _ hk0
 have a:=Go.Sort.get_flatK enc k d t ht
 rw [getElem!_pos d _ hi,getElem!_pos (enc _) _ (by rw [hk]; exact hj),getElem!_pos _ _ (by rw [Go.Sort.size_flatK]; exact ht)] at a
 rw [Array.getElem_toList,a]
 have b:=flatten_at (sz:=k) (d.toList.map enc) (t / k) (t % k) (enc d[t / k]) ((enc d[t / k])[t % k]'(by rw [hk]; exact hj)) (fun c hc=>by obtain ⟨x,_,rfl⟩:=List.mem_map.1 hc; exact hk x) (by rw [List.getElem?_map,List.getElem?_eq_getElem (by simpa using hi)]; rfl) (List.getElem?_eq_getElem _)
 rw [show t / k * k+t % k=t by rw [Nat.mul_comm]; exact Nat.div_add_mod t k] at b
 have c:(d.toList.flatMap enc)[t]?=some ((enc d[t / k])[t % k]'(by rw [hk]; exact hj)):=b
 rw [List.getElem?_eq_getElem h2] at c
 exact (Option.some.inj c).symm
theorem own_holdsK{α:Type}[Inhabited α]{enc:α→List Value}{k B e g n cap:Nat}{w:World}{d:Array α}(hk:∀ x,(enc x).length=k)(hd:d.size=n)(h:w.ownsRow B e k (.slice (some ⟨g,0,none⟩) n cap) n (d.toList.flatMap enc)) :
  Go.Sort.HoldsK enc k w g 0 d:=by
 obtain ⟨hl,⟨h0,_⟩ | ⟨g',cap',cur,he,hB,hb,hc,hm,hs,hx⟩⟩:=h
 ·cases h0
 cases he
 have hblk:Blk w g cur e:=hb
 intro j hj
 rw [Go.Sort.size_flatK] at hj
 have hj':j<(Go.Sort.flatK enc k d).size:=by rw [Go.Sort.size_flatK]; exact hj
 refine ⟨?_,hblk.frozen _⟩
 rw [hblk.cell,Nat.zero_add,getElem!_pos (Go.Sort.flatK enc k d) j hj']
 have e1:=flatK_eq hk d
 rw [← hx] at e1
 have e2:(Go.Sort.flatK enc k d).toList[j]?=(cur.toList.take (n * k))[j]?:=by rw [e1]
 rw [List.getElem?_take_of_lt (by rw [← hd]; exact hj),Array.getElem?_toList,Array.getElem?_toList,Array.getElem?_eq_getElem hj'] at e2
 exact e2.symm
theorem own_sorted{α:Type}[Inhabited α]{enc:α→List Value}{k B e g n cap:Nat}{w:World}{d:Array α}(hk:∀ x,(enc x).length=k)(hd:d.size=n)(h:w.ownsRow B e k (.slice (some ⟨g,0,none⟩) n cap) n (d.toList.flatMap enc))
  (m:Nat) (d':Array α) (os:Array Obj) (hd':d'.size=n):(sortWorldK enc k w g 0 m d' os).ownsRow B e k (.slice (some ⟨g,0,none⟩) n cap) n (d'.toList.flatMap enc)∧Chg (fun k=>k=g) w (sortWorldK enc k w g 0 m d' os):=by
 obtain ⟨hl,⟨h0,_⟩ | ⟨g',cap',cur,he,hB,hb,hc,hm,hs,hx⟩⟩:=h
 ·cases h0
 cases he
 have hg:g<w.heap.size:=(Array.getElem?_eq_some_iff.1 hb).1
 have hh:(sortWorldK enc k w g 0 m d' os).heap=w.heap.modify g (Go.Sort.onCells (Go.Sort.putCells id 0 (Go.Sort.flatK enc k d')))++os:=rfl
 have hgb:(sortWorldK enc k w g 0 m d' os).heap[g]?=some (.cells (Go.Sort.putCells id 0 (Go.Sort.flatK enc k d') cur) e (0,0)):=by
  rw [hh,Array.getElem?_append_left (by rw [Array.size_modify]; exact hg),Array.getElem?_modify,if_pos rfl,hb]
  rfl
 have e1:=flatK_eq hk d'
 have hle:n * k≤cap * k:=Nat.mul_le_mul_right _ hc
 refine ⟨⟨by rw [← e1,Array.length_toList,Go.Sort.size_flatK,hd'],.inr ⟨g,cap,_,rfl,hB,hgb,hc,hm,by unfold Go.Sort.putCells; rw [Array.size_mapIdx]; exact hs,?_⟩⟩,rfl,rfl,rfl,?_,fun j hj hne=>?_⟩
 ·rw [← e1]
  refine List.ext_getElem (by simp only [Go.Sort.putCells,List.length_take,Array.length_toList,Array.size_mapIdx,Go.Sort.size_flatK,hs,hd']; omega) fun t h1 h2=>?_
  rw [Array.length_toList,Go.Sort.size_flatK,hd'] at h2
  rw [List.getElem_take,Array.getElem_toList,Array.getElem_toList]
  unfold Go.Sort.putCells
  rw [Array.getElem_mapIdx,if_pos ⟨Nat.zero_le _,by rw [Go.Sort.size_flatK,hd']; omega⟩,Nat.sub_zero,getElem!_pos (Go.Sort.flatK enc k d') t (by rw [Go.Sort.size_flatK,hd']; exact h2)]
  rfl
 ·rw [hh,Array.size_append,Array.size_modify]; omega
 ·rw [hh,Array.getElem?_append_left (by rw [Array.size_modify]; exact hj),Array.getElem?_modify,if_neg (fun e=>hne e.symm)]
theorem sort_ok(cf:OpT→OpT→Int)(g:Nat)(eg:∀ args w,(callFunc g args).run Tryz.prog w=.ok (.enter g args) w)(hO:Go.Sort.SWO (ltOf cf))(hf:∀ a b w,Ret Tryz.prog g [.agg a.enc.toArray,.agg b.enc.toArray] w fun u w'=>u=.int .i64 (cf a b)∧Gr w w')
  (v:Value) (l:List OpT) (w:World) (B:Nat) (h:w.ownsRow B 52 11 v l.length (l.flatMap OpT.enc)) (hl:l.length≤100) :
  Ret Tryz.prog 50 [v,.func (.func g) #[] #[]] w fun _ w'=>∃ l',Sorts cf l l'∧w'.ownsRow B 52 11 v l.length (l'.flatMap OpT.enc)∧Chg (fun k=>v.ownBlock=some k) w w':=by
 obtain ⟨hlen,⟨rfl,h0⟩ | ⟨g',cap,cur,rfl,hB,hb,hc,hm,hs,hx⟩⟩:=id h
 ·refine Ret.mono (sortnil _ _) ?_
  rintro _ _ rfl
  have hl0:l=[]:=List.eq_nil_of_length_eq_zero h0
  subst hl0
  exact ⟨[],⟨List.Perm.refl _,List.Pairwise.nil⟩,h,Chg.refl _ _⟩
 have hcl:CmpLays Tryz.prog g #[] OpT.enc 11 cf g' 0 l.toArray.size w:=fun m os dk hdk x y=>by
  have e:=hf x y (sortWorldK OpT.enc 11 w g' 0 m dk os)
  unfold Ret at e
  rw [Array.append_empty]
  exact e.mono fun e w' ⟨u,h1,h2,h3⟩=>⟨by rw [h1,h2],h3⟩
 have hH:Go.Sort.HoldsK OpT.enc 11 w g' 0 l.toArray:=own_holdsK OpT.len (by simp) h
 have hs:=AnyQ.slices_SortFunc laySortOps 11 Tryz.isAgg52 Tryz.sizeOf52 OpT.enc OpT.len OpT.one cf hO g #[] g' 0 cap l.toArray w eg hcl hH (Array.getElem?_eq_some_iff.1 hb).1 (by simp; omega)
 refine hs.mono ?_
 rintro e w' ⟨rfl,d',n,os,hp,hs,rfl⟩
 have hsz:d'.size=l.length:=hp.1
 obtain ⟨o1,o2⟩:=own_sorted OpT.len (by simp) (show w.ownsRow B 52 11 (.slice (some ⟨g',0,none⟩) l.length cap) l.length (l.toArray.toList.flatMap OpT.enc) from h) n d' os hsz
 refine ⟨_,rfl,d'.toList,⟨?_,?_⟩,o1,o2.mono fun k _ e=>by rw [e]; rfl⟩
 ·have:=hp.2.2
  simp only [List.size_toArray] at this
  rw [Array.extract_eq_self_of_le (by omega),Array.extract_eq_self_of_le (by simp)] at this
  exact this
 ·rw [List.pairwise_iff_getElem]
  intro i j hi hj hij
  have:=hs i j (Nat.zero_le _) hij (by simpa [hsz] using hj)
  rw [getElem!_pos d' i (by simpa using hi),getElem!_pos d' j (by simpa using hj)] at this
  simpa [ltOf] using this
end Go.Proofs.YtoadmihnihfjkaaGreat.Cut

namespace Go.Proofs.YtoadmihnihfjkaaGreat.Cut
open Go Go.Ann Go.RowKit
theorem swo_ear:Go.Sort.SWO (ltOf earI) where
 irrefl x:=by rw [lt_ear]; exact decide_eq_false (by omega)
 trans x y z h1 h2:=by rw [lt_ear,decide_eq_true_eq] at *; omega
 ntrans x y z h1 h2:=by rw [lt_ear,decide_eq_false_iff_not] at *; omega
def Cuts(W0 w:World)(more:List Res)(I0:List Inv)(vo:Value)(acc:List Seg):Prop :=
 (acc=[]∧vo=.slice none 0 0∧St W0 w (fun _=>False) more I0) ∨
 ∃ ini s vs vl,acc=ini++[s]∧vs.length=ini.length∧(∀ v∈vs,∀ k,slFoot v k→W0.heap.size≤k)∧St W0 w (fun _=>False) (.row vl 52 11 s.ops.length (s.ops.flatMap OpT.enc)::.row vo 47 3 (ini.length+1) (segCells ini vs++segC s vl)::more) (segInvs ini vs++I0)
theorem Cuts.form{W0 w:World}{more:List Res}{I0:List Inv}{vo:Value}{acc:List Seg}(h:Cuts W0 w more I0 vo acc):∃ a c,vo=.slice a acc.length c:=by
 rcases h with ⟨rfl,rfl,_⟩ | ⟨ini,s,vs,vl,rfl,_,_,h⟩
 ·exact ⟨_,_,rfl⟩
 ·obtain ⟨a,c,rfl,_⟩:=own_slice (h.row 1 rfl)
  exact ⟨a,c,by rw [List.length_append]; rfl⟩
theorem own_mono{w:World}{B B' e sz n:Nat}{v:Value}{xs:List Value}(h:w.ownsRow B e sz v n xs)(hb:B'≤B):w.ownsRow B' e sz v n xs:=by
 obtain ⟨h1,h2 | ⟨g,cap,cur,h3,h4,h5⟩⟩:=h
 ·exact ⟨h1,.inl h2⟩
 ·exact ⟨h1,.inr ⟨g,cap,cur,h3,by omega,h5⟩⟩
end Go.Proofs.YtoadmihnihfjkaaGreat.Cut

namespace Go.Proofs.YtoadmihnihfjkaaGreat.Cut
open Go Go.Ann Go.RowKit
def objQ(s:Seg)(o:OpT):Bool:=!decide (s.obj=o.Object)
def objMk(o:OpT):Int × Int:=(o.Object,o.Kind)
structure Seen(r:List OpT)(acc:List Seg):Prop where
 up:acc.Pairwise fun a b=>a.obj<b.obj
 ops:∀ s∈acc,s.ops=ofObj s.obj r
 kind:∀ s∈acc,∃ o r,s.ops=o::r∧s.kind=o.Kind
 all:∀ o∈r,∃ s∈acc,s.obj=o.Object
 top:∀ s∈acc,∃ o∈r,s.obj=o.Object
theorem ofObj_append(x:Int)(a b:List OpT):ofObj x (a++b)=ofObj x a++ofObj x b:=List.filter_append ..
theorem ofObj_one(x:Int)(o:OpT):ofObj x [o]=if o.Object=x then [o] else []:=by unfold ofObj; by_cases h:o.Object=x <;> simp [h]
theorem Seen.step{r:List OpT}{acc:List Seg}(h:Seen r acc)(o:OpT)(hle:∀ x∈r,x.Object≤o.Object):Seen (r++[o]) (cutStep objQ objMk acc o):=by
 have low:∀ s∈acc,s.obj≤o.Object:=fun s hs=>by obtain ⟨x,hx,e⟩:=h.top s hs; rw [e]; exact hle x hx
 have fresh:(∀ s∈acc,s.obj<o.Object)→Seen (r++[o]) (acc++[⟨o.Object,o.Kind,[o]⟩]):=by
  intro hlt
  have hno:ofObj o.Object r=[]:=by
   unfold ofObj
   rw [List.filter_eq_nil_iff]
   intro x hx
   obtain ⟨s,hs,e⟩:=h.all x hx
   have:=hlt s hs
   simp; omega
  refine ⟨?_,fun s hs=>?_,fun s hs=>?_,fun x hx=>?_,fun s hs=>?_⟩
  ·rw [List.pairwise_append]
   refine ⟨h.up,List.pairwise_singleton _ _,fun a ha b hb=>?_⟩
   simp only [List.mem_singleton] at hb; subst hb
   exact hlt a ha
  ·rcases List.mem_append.1 hs with hs | hs
   ·rw [ofObj_append,← h.ops s hs,ofObj_one,if_neg (by have:=hlt s hs; omega),List.append_nil]
   ·simp only [List.mem_singleton] at hs; subst hs
    rw [ofObj_append,hno,ofObj_one,if_pos rfl]; rfl
  ·rcases List.mem_append.1 hs with hs | hs
   ·exact h.kind s hs
   ·simp only [List.mem_singleton] at hs; subst hs; exact ⟨o,[],rfl,rfl⟩
  ·rcases List.mem_append.1 hx with hx | hx
   ·obtain ⟨s,hs,e⟩:=h.all x hx
    exact ⟨s,List.mem_append_left _ hs,e⟩
   ·simp only [List.mem_singleton] at hx; subst hx
    exact ⟨_,List.mem_append_right _ (List.mem_singleton_self _),rfl⟩
  ·rcases List.mem_append.1 hs with hs | hs
   ·obtain ⟨x,hx,e⟩:=h.top s hs
    exact ⟨x,List.mem_append_left _ hx,e⟩
   ·simp only [List.mem_singleton] at hs; subst hs
    exact ⟨o,List.mem_append_right _ (List.mem_singleton_self _),rfl⟩
 rcases List.eq_nil_or_concat acc with rfl | ⟨ini,s,he⟩
 ·exact fresh fun s hs=>by cases hs
 ·rw [List.concat_eq_append] at he
  subst he
  have hup:=List.pairwise_append.1 h.up
  have hslow:=low s (by simp)
  by_cases hso:s.obj=o.Object
  ·rw [cutStep_old _ _ (by unfold objQ; simp [hso])]
   have hini:∀ t∈ini,t.obj<s.obj:=fun t ht=>hup.2.2 t ht s (by simp)
   refine ⟨?_,fun t ht=>?_,fun t ht=>?_,fun x hx=>?_,fun t ht=>?_⟩
   ·rw [List.pairwise_append]
    refine ⟨hup.1,List.pairwise_singleton _ _,fun a ha b hb=>?_⟩
    simp only [List.mem_singleton] at hb; subst hb
    exact hini a ha
   ·rcases List.mem_append.1 ht with ht | ht
    ·rw [ofObj_append,← h.ops t (List.mem_append_left _ ht),ofObj_one,if_neg (by have:=hini t ht; omega),List.append_nil]
    ·simp only [List.mem_singleton] at ht; subst ht
     simp only
     rw [ofObj_append,← h.ops s (by simp),ofObj_one,if_pos hso.symm]
   ·rcases List.mem_append.1 ht with ht | ht
    ·exact h.kind t (List.mem_append_left _ ht)
    ·simp only [List.mem_singleton] at ht; subst ht
     obtain ⟨x,y,e,hk⟩:=h.kind s (by simp)
     exact ⟨x,y++[o],by simp only; rw [e]; rfl,hk⟩
   ·rcases List.mem_append.1 hx with hx | hx
    ·obtain ⟨t,ht,e⟩:=h.all x hx
     rcases List.mem_append.1 ht with ht | ht
     ·exact ⟨t,List.mem_append_left _ ht,e⟩
     ·simp only [List.mem_singleton] at ht; subst ht
      exact ⟨_,List.mem_append_right _ (List.mem_singleton_self _),e⟩
    ·simp only [List.mem_singleton] at hx; subst hx
     exact ⟨_,List.mem_append_right _ (List.mem_singleton_self _),hso⟩
   ·rcases List.mem_append.1 ht with ht | ht
    ·obtain ⟨x,hx,e⟩:=h.top t (List.mem_append_left _ ht)
     exact ⟨x,List.mem_append_left _ hx,e⟩
    ·simp only [List.mem_singleton] at ht; subst ht
     exact ⟨o,List.mem_append_right _ (List.mem_singleton_self _),hso⟩
  ·rw [cutStep_new _ _ (by unfold objQ; simp [hso])]
   refine fresh fun t ht=>?_
   rcases List.mem_append.1 ht with ht | ht
   ·have:=hup.2.2 t ht s (by simp); omega
   ·simp only [List.mem_singleton] at ht; subst ht; omega
theorem seen_fold:∀ (b a:List OpT) (acc:List Seg),Seen a acc→(a++b).Pairwise (fun x y=>x.Object≤y.Object)→Seen (a++b) (b.foldl (cutStep objQ objMk) acc)
 | [],a,acc,h,_=>by rw [List.append_nil]; exact h
 | o::b,a,acc,h,hp=>by
  have:=seen_fold b (a++[o]) _ (h.step o fun x hx=>(List.pairwise_append.1 hp).2.2 x hx o List.mem_cons_self) (by rw [List.append_assoc]; exact hp)
  rw [List.append_assoc] at this
  exact this
theorem objects_by{l r:List OpT}(h:Sorts objI l r):ByObj l (r.foldl (cutStep objQ objMk) []):=by
 have hp:r.Pairwise fun x y=>x.Object≤y.Object:=h.2.imp fun {a b} e=>by rw [obj_neg] at e; omega
 have s:=seen_fold r [] [] ⟨List.Pairwise.nil,(fun s h=>by cases h),(fun s h=>by cases h),(fun s h=>by cases h),(fun s h=>by cases h)⟩ hp
 rw [List.nil_append] at s
 refine ⟨s.up,fun t ht=>⟨?_,?_⟩,s.kind,fun o ho=>s.all o (h.1.mem_iff.2 ho)⟩
 ·rw [s.ops t ht]; exact h.1.filter _
 ·rw [s.ops t ht]
  have h2:(ofObj t.obj r).Pairwise fun a b=>¬ objI b a<0:=h.2.sublist List.filter_sublist
  refine List.Pairwise.imp_of_mem ?_ h2
  intro a b ha hb e
  have ea:=(List.mem_filter.1 ha).2
  have eb:=(List.mem_filter.1 hb).2
  rw [decide_eq_true_eq] at ea eb
  rw [obj_neg] at e
  rw [ear_neg]
  omega
end Go.Proofs.YtoadmihnihfjkaaGreat.Cut

namespace Go.Proofs.YtoadmihnihfjkaaGreat.Cut
open Go Go.Ann Go.RowKit Go.WideShapes
def ofProc(x:Int)(l:List OpT):List OpT:=l.filter fun o=>decide (o.Proc=x)
structure ByProc(l:List OpT)(acc:List Seg):Prop where
 up:acc.Pairwise fun a b=>a.obj<b.obj
 sorts:∀ s∈acc,Sorts earI (ofProc s.obj l) s.ops
 kind:∀ s∈acc,∃ o r,s.ops=o::r∧s.kind=o.Kind
 all:∀ o∈l,∃ s∈acc,s.obj=o.Proc
def NextP(l:List OpT)(any:Bool)(last:Int)(k:Nat)(found:Bool)(next:Int):Prop :=
 (found=false∧∀ o∈l.take k,any=true∧o.Proc≤last)∨(found=true∧(∃ o∈l.take k,o.Proc=next)∧(any=true→last<next)∧∀ o∈l.take k,(any=true→last<o.Proc)→next≤o.Proc)
def leftP(l:List OpT)(any:Bool)(last:Int):List OpT:=l.filter fun o=>!any || decide (last<o.Proc)
structure PartP(l:List OpT)(acc:List Seg)(any:Bool)(last:Int):Prop where
 up:acc.Pairwise fun a b=>a.obj<b.obj
 sorts:∀ s∈acc,Sorts earI (ofProc s.obj l) s.ops
 kind:∀ s∈acc,∃ o r,s.ops=o::r∧s.kind=o.Kind
 low:∀ s∈acc,any=true∧s.obj≤last
 all:∀ o∈l,o∈leftP l any last∨∃ s∈acc,s.obj=o.Proc
theorem PartP.nil(l:List OpT)(x:Int):PartP l [] false x:=⟨List.Pairwise.nil,(fun s h=>by cases h),(fun s h=>by cases h),(fun s h=>by cases h),fun o h=>.inl (by unfold leftP; simpa using h)⟩
theorem NextP.take{l:List OpT}{any found:Bool}{last next:Int}{k:Nat}(h:NextP l any last k found next)(hk:k<l.length)(h1:any=true→last<l[k].Proc)(h2:found=true→l[k].Proc<next):NextP l any last (k+1) true l[k].Proc:=by
 refine .inr ⟨rfl,⟨_,(mem_take_succ hk).2 (.inr rfl),rfl⟩,h1,fun o ho hlo=>?_⟩
 rcases (mem_take_succ hk).1 ho with ho | rfl
 ·rcases h with ⟨_,h⟩ | ⟨hf,_,_,h⟩
  ·have:=h o ho; have:=hlo this.1; omega
  ·have:=h o ho hlo; have:=h2 hf; omega
 ·exact Int.le_refl _
theorem NextP.skip{l:List OpT}{any found:Bool}{last next:Int}{k:Nat}(h:NextP l any last k found next)(hk:k<l.length)(h1:(any=true∧l[k].Proc≤last)∨(found=true∧next≤l[k].Proc)):NextP l any last (k+1) found next:=by
 rcases h with ⟨hf,h⟩ | ⟨hf,⟨x,hx,hxe⟩,h2,h⟩
 ·subst hf
  refine .inl ⟨rfl,fun o ho=>?_⟩
  rcases (mem_take_succ hk).1 ho with ho | rfl
  ·exact h o ho
  ·rcases h1 with h1 | h1
   ·exact h1
   ·cases h1.1
 ·refine .inr ⟨hf,⟨x,(mem_take_succ hk).2 (.inl hx),hxe⟩,h2,fun o ho hlo=>?_⟩
  rcases (mem_take_succ hk).1 ho with ho | rfl
  ·exact h o ho hlo
  ·rcases h1 with h1 | h1
   ·have:=hlo h1.1; omega
   ·exact h1.2
theorem ofProc_len(x:Int)(l:List OpT):(ofProc x l).length≤l.length:=List.length_filter_le _ _
theorem ofProc_snoc(x:Int){l:List OpT}{k:Nat}(hk:k<l.length):ofProc x (l.take (k+1))=ofProc x (l.take k)++if l[k].Proc=x then [l[k]] else []:=by
 rw [List.take_succ_eq_append_getElem hk]
 unfold ofProc
 rw [List.filter_append]
 by_cases h:l[k].Proc=x
 ·rw [if_pos h]; simp [h]
 ·rw [if_neg h]; simp [h]
theorem PartP.step{l:List OpT}{acc:List Seg}{any:Bool}{last next:Int}{x o:OpT}{r':List OpT}(h:PartP l acc any last)(hx:x∈l)(hxe:x.Proc=next)(hlo:any=true→last<next)(hmin:∀ o∈l,(any=true→last<o.Proc)→next≤o.Proc)(hs:Sorts earI (ofProc next l) (o::r')) :
  PartP l (acc++[⟨next,o.Kind,o::r'⟩]) true next∧(leftP l true next).length<(leftP l any last).length:=by
 refine ⟨⟨?_,fun s hm=>?_,fun s hm=>?_,fun s hm=>?_,fun y hy=>?_⟩,?_⟩
 ·rw [List.pairwise_append]
  refine ⟨h.up,List.pairwise_singleton _ _,fun a ha b hb=>?_⟩
  simp only [List.mem_singleton] at hb; subst hb
  obtain ⟨a1,a2⟩:=h.low a ha
  have:=hlo a1
  simp only; omega
 ·rcases List.mem_append.1 hm with hm | hm
  ·exact h.sorts s hm
  ·simp only [List.mem_singleton] at hm; subst hm; exact hs
 ·rcases List.mem_append.1 hm with hm | hm
  ·exact h.kind s hm
  ·simp only [List.mem_singleton] at hm; subst hm; exact ⟨o,r',rfl,rfl⟩
 ·refine ⟨rfl,?_⟩
  rcases List.mem_append.1 hm with hm | hm
  ·obtain ⟨a1,a2⟩:=h.low s hm
   have:=hlo a1; omega
  ·simp only [List.mem_singleton] at hm; subst hm; exact Int.le_refl _
 ·rcases h.all y hy with hl | ⟨s,hm,he⟩
  ·by_cases hn:y.Proc=next
   ·exact .inr ⟨_,List.mem_append_right _ (List.mem_singleton_self _),hn.symm⟩
   ·unfold leftP at hl ⊢
    rw [List.mem_filter] at hl ⊢
    have:=hmin y hy fun ha=>by have:=hl.2; rw [ha] at this; simpa using this
    exact .inl ⟨hy,by simp; omega⟩
  ·exact .inr ⟨s,List.mem_append_left _ hm,he⟩
 ·have hsub:(leftP l true next)=(leftP l any last).filter fun o=>decide (next<o.Proc):=by
   unfold leftP
   rw [List.filter_filter]
   apply List.filter_congr
   intro y hy
   cases any with
   | false=>simp
   | true=>have:=hlo rfl; simp; omega
  rw [hsub]
  refine List.length_filter_lt_length_iff_exists.2 ⟨x,?_,?_⟩
  ·unfold leftP
   rw [List.mem_filter]
   refine ⟨hx,?_⟩
   cases any with
   | false=>rfl
   | true=>have:=hlo rfl; simp; omega
  ·simp; omega
theorem byProc_unique{l:List OpT}(hp:Pure l):∀ {a b:List Seg},ByProc l a→ByProc l b→a=b:=by
 intro a b ha hb
 have mem:∀ {a b:List Seg},ByProc l a→ByProc l b→∀ s∈a,s∈b:=by
  intro a b ha hb s hs
  obtain ⟨o,r,e,hk⟩:=ha.kind s hs
  have ho:o∈ofProc s.obj l:=(ha.sorts s hs).1.mem_iff.1 (by rw [e]; exact List.mem_cons_self)
  unfold ofProc at ho
  rw [List.mem_filter,decide_eq_true_eq] at ho
  obtain ⟨t,ht,hto⟩:=hb.all o ho.1
  have heq:t.obj=s.obj:=hto.trans ho.2
  have hops:t.ops=s.ops:=by
   have h1:=hb.sorts t ht
   rw [heq] at h1
   refine sorts_unique (l:=ofProc s.obj l) (fun x hx y hy=>hp x ?_ y ?_) h1 (ha.sorts s hs)
   ·exact (List.mem_filter.1 hx).1
   ·exact (List.mem_filter.1 hy).1
  obtain ⟨o2,r2,e2,hk2⟩:=hb.kind t ht
  have:t=s:=by
   rw [hops,e] at e2
   cases t; cases s
   simp only at heq hops hk hk2 e2 ⊢
   simp only [List.cons.injEq] at e2
   subst heq; subst hops
   rw [hk,hk2,e2.1]
  rw [← this]; exact ht
 have nd:∀ {a:List Seg},ByProc l a→a.Nodup:=fun h=>h.up.imp fun h e=>by rw [e] at h; omega
 have hperm:a.Perm b:=(List.perm_ext_iff_of_nodup (nd ha) (nd hb)).2 fun s=>⟨mem ha hb s,mem hb ha s⟩
 exact List.Perm.eq_of_pairwise (le:=fun x y:Seg=>x.obj<y.obj) (fun x y _ _ h1 h2=>by omega) ha.up hb.up hperm
end Go.Proofs.YtoadmihnihfjkaaGreat.Cut

namespace Go.Proofs.YtoadmihnihfjkaaGreat
open Go Go.Ann Go.RowKit
def fitsP(k m:Int):Bool :=
 if k=1 then decide (1≤m) && decide (m≤3) else if k=2 then decide (m=1) || decide (m=4) || decide (m=5) else if k=3 then decide (m=6) || decide (m=7) else if k=4 then decide (m=8) || decide (m=9) else if k=5 then decide (10≤m) && decide (m≤12) else if k=6 then decide (m=13) || decide (m=14) else false
theorem fits_ok(k m:Int)(w:World):Ret Tryz.prog 54 [.int .i64 k,.int .i64 m] w fun u w'=>u=.bool (fitsP k m)∧w'=w:=by
 refine ent54 _ _ _ _ ?_
 unfold fitsP
 by_cases h1:k=1
 ·simp (disch:=first|omega|exact zF rfl|exact zG rfl|exact fun h=>h|(simp only[zA,zB,zC,zD,bytesW];omega)) only[go_sem,h1]
  refine ⟨fun h=>?_,fun h=>?_⟩ <;> simp [h] <;> omega
 by_cases h2:k=2
 ·simp (disch:=first|omega|exact zF rfl|exact zG rfl|exact fun h=>h|(simp only[zA,zB,zC,zD,bytesW];omega)) only[go_sem,h1,h2]
  refine ⟨fun h=>?_,fun h=>?_⟩ <;> simp [*] <;> omega
 by_cases h3:k=3
 ·simp (disch:=first|omega|exact zF rfl|exact zG rfl|exact fun h=>h|(simp only[zA,zB,zC,zD,bytesW];omega)) only[go_sem,h1,h2,h3]
  refine ⟨fun h=>?_,fun h=>?_⟩ <;> simp [*]
 by_cases h4:k=4
 ·simp (disch:=first|omega|exact zF rfl|exact zG rfl|exact fun h=>h|(simp only[zA,zB,zC,zD,bytesW];omega)) only[go_sem,h1,h2,h3,h4]
  refine ⟨fun h=>?_,fun h=>?_⟩ <;> simp [*]
 by_cases h5:k=5
 ·simp (disch:=first|omega|exact zF rfl|exact zG rfl|exact fun h=>h|(simp only[zA,zB,zC,zD,bytesW];omega)) only[go_sem,h1,h2,h3,h4,h5]
  refine ⟨fun h=>?_,fun h=>?_⟩ <;> simp [h] <;> omega
 by_cases h6:k=6
 ·simp (disch:=first|omega|exact zF rfl|exact zG rfl|exact fun h=>h|(simp only[zA,zB,zC,zD,bytesW];omega)) only[go_sem,h1,h2,h3,h4,h5,h6]
  refine ⟨fun h=>?_,fun h=>?_⟩ <;> simp [*]
 simp (disch:=first|omega|exact zF rfl|exact zG rfl|exact fun h=>h|(simp only[zA,zB,zC,zD,bytesW];omega)) only[go_sem,h1,h2,h3,h4,h5,h6]
def valP(n:Int):Bool:=decide (0≤n) && decide (n≤1073741824)
theorem value_ok(n:Int)(w:World):Ret Tryz.prog 83 [.int .i64 n] w fun u w'=>u=.bool (valP n)∧w'=w:=by
 refine ent83 _ _ _ ?_
 unfold valP
 simp (disch:=first|omega|exact zF rfl|exact zG rfl|exact fun h=>h|(simp only[zA,zB,zC,zD,bytesW];omega)) only[go_sem]
 refine ⟨fun h=>?_,fun h=>?_⟩ <;> simp [h] <;> omega
def argsP(o:OpT):Bool :=
 if o.Method=3 then valP o.Arg && valP o.Second else if o.Method=2∨o.Method=6∨o.Method=8∨o.Method=10∨o.Method=11∨o.Method=12 then valP o.Arg && decide (o.Second=0) else decide (o.Arg=0) && decide (o.Second=0)
theorem args_one{o:OpT}{w:World}{g:Nat}{K:Value→World→Prop}(h:Blk w g o.enc.toArray 52)(hK:K (.bool (valP o.Arg && decide (o.Second=0))) w):W Tryz.prog (c55S2 ()) [(1,.pointer (some ⟨g,0,none⟩)),(15,.bool true)] w (blockQ 0 (thenQ Tryz.prog (sg c55S3) (finQ Tryz.prog [.tmp 2] K))):=by
 have ao:=o.at
 have r:=h.rules
 simp (disch:=first|omega|exact zF rfl|exact zG rfl|exact fun h=>h|(simp only[zA,zB,zC,zD,bytesW];omega)) only[go_sem,c55S2,r,ao]
 refine Ret.mono (value_ok _ _) ?_
 rintro _ _ ⟨rfl,rfl⟩
 cases e:valP o.Arg <;> rw [e] at hK <;> simp (disch:=first|omega|exact zF rfl|exact zG rfl|exact fun h=>h|(simp only[zA,zB,zC,zD,bytesW];omega)) only[go_sem,c55S2,r,ao] <;> exact hK
theorem args_ok(o:OpT)(w:World):Ret Tryz.prog 55 [.agg o.enc.toArray] w fun u w'=>u=.bool (argsP o)∧Below w.heap.size w w':=by
 refine ent55 _ _ _ ?_
 have s1:=(St.start (W0:=w)).box o.enc.toArray 52
 have r1:=s1.rules 0 rfl
 have ao:=o.at
 unfold argsP
 by_cases h1:o.Method=3
 ·simp (disch:=first|omega|exact zF rfl|exact zG rfl|exact fun h=>h|(simp only[zA,zB,zC,zD,bytesW];omega)) only[go_sem,c55S2,r1,ao,h1]
  refine Ret.mono (value_ok _ _) ?_
  rintro _ _ ⟨rfl,rfl⟩
  cases e:valP o.Arg
  ·simp (disch:=first|omega|exact zF rfl|exact zG rfl|exact fun h=>h|(simp only[zA,zB,zC,zD,bytesW];omega)) only[go_sem,c55S2,r1,ao,h1]
   exact ⟨rfl,s1.bel⟩
  ·simp (disch:=first|omega|exact zF rfl|exact zG rfl|exact fun h=>h|(simp only[zA,zB,zC,zD,bytesW];omega)) only[go_sem,c55S2,r1,ao,h1]
   refine Ret.mono (value_ok _ _) ?_
   rintro _ _ ⟨rfl,rfl⟩
   simp (disch:=first|omega|exact zF rfl|exact zG rfl|exact fun h=>h|(simp only[zA,zB,zC,zD,bytesW];omega)) only[go_sem,c55S2]
   exact ⟨rfl,s1.bel⟩
 have hb:=s1.blk 0 rfl
 by_cases h2:o.Method=2
 ·simp (disch:=first|omega|exact zF rfl|exact zG rfl|exact fun h=>h|(simp only[zA,zB,zC,zD,bytesW];omega)) only[go_sem,r1,ao,h1,h2]
  exact args_one hb ⟨rfl,s1.bel⟩
 by_cases h3:o.Method=6
 ·simp (disch:=first|omega|exact zF rfl|exact zG rfl|exact fun h=>h|(simp only[zA,zB,zC,zD,bytesW];omega)) only[go_sem,r1,ao,h1,h2,h3]
  exact args_one hb ⟨rfl,s1.bel⟩
 by_cases h4:o.Method=8
 ·simp (disch:=first|omega|exact zF rfl|exact zG rfl|exact fun h=>h|(simp only[zA,zB,zC,zD,bytesW];omega)) only[go_sem,r1,ao,h1,h2,h3,h4]
  exact args_one hb ⟨rfl,s1.bel⟩
 by_cases h5:o.Method=10
 ·simp (disch:=first|omega|exact zF rfl|exact zG rfl|exact fun h=>h|(simp only[zA,zB,zC,zD,bytesW];omega)) only[go_sem,r1,ao,h1,h2,h3,h4,h5]
  exact args_one hb ⟨rfl,s1.bel⟩
 by_cases h6:o.Method=11
 ·simp (disch:=first|omega|exact zF rfl|exact zG rfl|exact fun h=>h|(simp only[zA,zB,zC,zD,bytesW];omega)) only[go_sem,r1,ao,h1,h2,h3,h4,h5,h6]
  exact args_one hb ⟨rfl,s1.bel⟩
 by_cases h7:o.Method=12
 ·simp (disch:=first|omega|exact zF rfl|exact zG rfl|exact fun h=>h|(simp only[zA,zB,zC,zD,bytesW];omega)) only[go_sem,r1,ao,h1,h2,h3,h4,h5,h6,h7]
  exact args_one hb ⟨rfl,s1.bel⟩
 simp (disch:=first|omega|exact zF rfl|exact zG rfl|exact fun h=>h|(simp only[zA,zB,zC,zD,bytesW];omega)) only[go_sem,c55S2,r1,ao,h1,h2,h3,h4,h5,h6,h7]
 refine ⟨fun h=>?_,fun h=>?_⟩ <;> simp [h,s1.bel]
def bitP(n:Int):Bool:=decide (n=0) || decide (n=1)
def resP(o:OpT):Bool :=
 if o.Method=1 then valP o.Result || decide (o.Kind=2) && valP (0 - o.Result) else if o.Method=3∨o.Method=10∨o.Method=11∨o.Method=12 then bitP o.Result else if o.Method=7∨o.Method=9 then decide (o.Result = -1) || valP o.Result else decide (o.Result=0)
theorem res_bit{o:OpT}{w:World}{g:Nat}{K:Value→World→Prop}{n:Int}(h:Blk w g o.enc.toArray 52)(hK:K (.bool (bitP o.Result)) w):W Tryz.prog (c56S3 ()) [(1,.pointer (some ⟨g,0,none⟩)),(4,.int .i64 n),(21,.bool true)] w (blockQ 0 (thenQ Tryz.prog (sg c56S4) (finQ Tryz.prog [.tmp 2] K))):=by
 have ao:=o.at
 have r:=h.rules
 unfold bitP at hK
 simp (disch:=first|omega|exact zF rfl|exact zG rfl|exact fun h=>h|(simp only[zA,zB,zC,zD,bytesW];omega)) only[go_sem,c56S2,c56S3,r,ao]
 refine ⟨fun h=>?_,fun h=>?_⟩
 ·rw [decide_eq_false h] at hK; exact hK
 ·rw [decide_eq_true h] at hK; exact hK
theorem res_val{o:OpT}{w:World}{g:Nat}{K:Value→World→Prop}(h:Blk w g o.enc.toArray 52)(hK:K (.bool (decide (o.Result = -1) || valP o.Result)) w):W Tryz.prog (c56S2 ()) [(1,.pointer (some ⟨g,0,none⟩)),(34,.bool true)] w (blockQ 0 (thenQ Tryz.prog (sg c56S4) (finQ Tryz.prog [.tmp 2] K))):=by
 have ao:=o.at
 have r:=h.rules
 by_cases h1:o.Result = -1
 ·rw [decide_eq_true h1] at hK
  simp (disch:=first|omega|exact zF rfl|exact zG rfl|exact fun h=>h|(simp only[zA,zB,zC,zD,bytesW];omega)) only[go_sem,c56S2,c56S3,r,ao,h1]
  exact hK
 ·rw [decide_eq_false h1] at hK
  simp (disch:=first|omega|exact zF rfl|exact zG rfl|exact fun h=>h|(simp only[zA,zB,zC,zD,bytesW];omega)) only[go_sem,c56S2,c56S3,r,ao,h1]
  refine Ret.mono (value_ok _ _) ?_
  rintro _ _ ⟨rfl,rfl⟩
  simp (disch:=first|omega|exact zF rfl|exact zG rfl|exact fun h=>h|(simp only[zA,zB,zC,zD,bytesW];omega)) only[go_sem,c56S2,c56S3]
  exact hK
theorem valP_neg{r:Int}(h:I64 r):valP (IntKind.i64.wrap (0 - r))=valP (0 - r):=by
 by_cases e:r = -9223372036854775808
 ·subst e; decide
 ·have h1:-9223372036854775808≤r∧r≤9223372036854775807:=h
  congr 1
  simp [IntKind.wrap,IntKind.bits,IntKind.signed]
  omega
theorem result_ok(o:OpT)(hw:o.wf)(w:World):Ret Tryz.prog 56 [.agg o.enc.toArray] w fun u w'=>u=.bool (resP o)∧Below w.heap.size w w':=by
 refine ent56 _ _ _ ?_
 have s1:=(St.start (W0:=w)).box o.enc.toArray 52
 have r1:=s1.rules 0 rfl
 have hb:=s1.blk 0 rfl
 have ao:=o.at
 have hr:I64 o.Result:=by
  have h:=hw.2.2.2.2.2.2.2.1
  unfold kOk at h
  simp [Lit.wf,IntKind.min,IntKind.max,IntKind.signed,IntKind.bits] at h
  exact h
 unfold resP
 by_cases h1:o.Method=1
 ·simp (disch:=first|omega|exact zF rfl|exact zG rfl|exact fun h=>h|(simp only[zA,zB,zC,zD,bytesW];omega)) only[go_sem,c56S2,c56S3,r1,ao,h1]
  refine Ret.mono (value_ok _ _) ?_
  rintro _ _ ⟨rfl,rfl⟩
  cases e:valP o.Result
  ·by_cases h2:o.Kind=2
   ·simp (disch:=first|omega|exact zF rfl|exact zG rfl|exact fun h=>h|(simp only[zA,zB,zC,zD,bytesW];omega)) only[go_sem,c56S2,c56S3,r1,ao,h1,h2]
    refine Ret.mono (value_ok _ _) ?_
    rintro _ _ ⟨rfl,rfl⟩
    simp (disch:=first|omega|exact zF rfl|exact zG rfl|exact fun h=>h|(simp only[zA,zB,zC,zD,bytesW];omega)) only[go_sem,c56S2,c56S3]
    rw [valP_neg hr]
    exact ⟨by simp,s1.bel⟩
   ·simp (disch:=first|omega|exact zF rfl|exact zG rfl|exact fun h=>h|(simp only[zA,zB,zC,zD,bytesW];omega)) only[go_sem,c56S2,c56S3,r1,ao,h1,h2]
    exact ⟨by simp [h2],s1.bel⟩
  ·simp (disch:=first|omega|exact zF rfl|exact zG rfl|exact fun h=>h|(simp only[zA,zB,zC,zD,bytesW];omega)) only[go_sem,c56S2,c56S3,r1,ao,h1]
   exact ⟨by simp,s1.bel⟩
 by_cases h2:o.Method=3
 ·simp (disch:=first|omega|exact zF rfl|exact zG rfl|exact fun h=>h|(simp only[zA,zB,zC,zD,bytesW];omega)) only[go_sem,c56S2,r1,ao,h1,h2]
  exact res_bit hb ⟨rfl,s1.bel⟩
 by_cases h3:o.Method=10
 ·simp (disch:=first|omega|exact zF rfl|exact zG rfl|exact fun h=>h|(simp only[zA,zB,zC,zD,bytesW];omega)) only[go_sem,c56S2,r1,ao,h1,h2,h3]
  exact res_bit hb ⟨rfl,s1.bel⟩
 by_cases h4:o.Method=11
 ·simp (disch:=first|omega|exact zF rfl|exact zG rfl|exact fun h=>h|(simp only[zA,zB,zC,zD,bytesW];omega)) only[go_sem,c56S2,r1,ao,h1,h2,h3,h4]
  exact res_bit hb ⟨rfl,s1.bel⟩
 by_cases h5:o.Method=12
 ·simp (disch:=first|omega|exact zF rfl|exact zG rfl|exact fun h=>h|(simp only[zA,zB,zC,zD,bytesW];omega)) only[go_sem,c56S2,r1,ao,h1,h2,h3,h4,h5]
  exact res_bit hb ⟨rfl,s1.bel⟩
 by_cases h6:o.Method=7
 ·simp (disch:=first|omega|exact zF rfl|exact zG rfl|exact fun h=>h|(simp only[zA,zB,zC,zD,bytesW];omega)) only[go_sem,c56S3,r1,ao,h1,h2,h3,h4,h5,h6]
  exact res_val hb ⟨rfl,s1.bel⟩
 by_cases h7:o.Method=9
 ·simp (disch:=first|omega|exact zF rfl|exact zG rfl|exact fun h=>h|(simp only[zA,zB,zC,zD,bytesW];omega)) only[go_sem,c56S3,r1,ao,h1,h2,h3,h4,h5,h6,h7]
  exact res_val hb ⟨rfl,s1.bel⟩
 simp (disch:=first|omega|exact zF rfl|exact zG rfl|exact fun h=>h|(simp only[zA,zB,zC,zD,bytesW];omega)) only[go_sem,c56S2,c56S3,r1,ao,h1,h2,h3,h4,h5,h6,h7]
 exact s1.bel
def chkP(o:OpT):Int :=
 if o.ID<1∨o.ID > 1073741824∨o.Proc<0∨o.Proc > 1023∨o.Object<0∨o.Object > 1023 then 30
 else if fitsP o.Kind o.Method=false∨argsP o=false∨(o.Done=true∧resP o=false)∨(o.Done=false∧o.Result≠0) then 33
 else if o.Invoke<0∨o.Invoke > 1099511627776∨(o.Done=true∧(o.Return≤o.Invoke∨o.Return > 1099511627776))∨(o.Done=false∧o.Return≠0) then 31 else 0
theorem opCheck_ok(o:OpT)(hw:o.wf)(w:World):Ret Tryz.prog 28 [.agg o.enc.toArray] w fun u w'=>u=.int .i64 (chkP o)∧Below w.heap.size w w':=by
 refine ent28 _ _ _ ?_
 have s1:=(St.start (W0:=w)).box o.enc.toArray 52
 have r1:=s1.rules 0 rfl
 have ao:=o.at
 unfold chkP
 by_cases h1:o.ID<1∨o.ID > 1073741824∨o.Proc<0∨o.Proc > 1023∨o.Object<0∨o.Object > 1023
 ·rw [if_pos h1]
  by_cases a1:o.ID<1
  ·simp (disch:=first|omega|exact zF rfl|exact zG rfl|exact fun h=>h|(simp only[zA,zB,zC,zD,bytesW];omega)) only[go_sem,c28S0,r1,ao,a1]
   exact s1.bel
  by_cases a2:o.ID > 1073741824
  ·simp (disch:=first|omega|exact zF rfl|exact zG rfl|exact fun h=>h|(simp only[zA,zB,zC,zD,bytesW];omega)) only[go_sem,c28S0,r1,ao,a1,a2]
   exact s1.bel
  by_cases a3:o.Proc<0
  ·simp (disch:=first|omega|exact zF rfl|exact zG rfl|exact fun h=>h|(simp only[zA,zB,zC,zD,bytesW];omega)) only[go_sem,c28S0,r1,ao,a1,a2,a3]
   exact s1.bel
  by_cases a4:o.Proc > 1023
  ·simp (disch:=first|omega|exact zF rfl|exact zG rfl|exact fun h=>h|(simp only[zA,zB,zC,zD,bytesW];omega)) only[go_sem,c28S0,r1,ao,a1,a2,a3,a4]
   exact s1.bel
  by_cases a5:o.Object<0
  ·simp (disch:=first|omega|exact zF rfl|exact zG rfl|exact fun h=>h|(simp only[zA,zB,zC,zD,bytesW];omega)) only[go_sem,c28S0,r1,ao,a1,a2,a3,a4,a5]
   exact s1.bel
  have a6:o.Object > 1023:=by omega
  simp (disch:=first|omega|exact zF rfl|exact zG rfl|exact fun h=>h|(simp only[zA,zB,zC,zD,bytesW];omega)) only[go_sem,c28S0,r1,ao,a1,a2,a3,a4,a5,a6]
  exact s1.bel
 rw [if_neg h1]
 have a1:¬ o.ID<1:=by omega
 have a2:¬ o.ID > 1073741824:=by omega
 have a3:¬ o.Proc<0:=by omega
 have a4:¬ o.Proc > 1023:=by omega
 have a5:¬ o.Object<0:=by omega
 have a6:¬ o.Object > 1023:=by omega
 simp (disch:=first|omega|exact zF rfl|exact zG rfl|exact fun h=>h|(simp only[zA,zB,zC,zD,bytesW];omega)) only[go_sem,r1,ao,a1,a2,a3,a4,a5,a6]
 refine Ret.mono (fits_ok _ _ _) ?_
 rintro _ _ ⟨rfl,rfl⟩
 have bad:∀ w',Below w.heap.size w w'→W Tryz.prog (c28S0 ()) [(1,.pointer (some ⟨w.heap.size,0,none⟩)),(32,.bool true)] w' (blockQ 0 (thenQ Tryz.prog (sg c28S1) (finQ Tryz.prog [.tmp 2] fun u w'=>u=.int .i64 33∧Below w.heap.size w w'))):=fun w' hb=>by
  simp (disch:=first|omega|exact zF rfl|exact zG rfl|exact fun h=>h|(simp only[zA,zB,zC,zD,bytesW];omega)) only[go_sem,c28S0]
  exact hb
 have good:∀ w',Blk w' w.heap.size o.enc.toArray 52→Below w.heap.size w w'→W Tryz.prog (c28S0 ()) [(1,.pointer (some ⟨w.heap.size,0,none⟩)),(32,.bool false)] w' (blockQ 0 (thenQ Tryz.prog (sg c28S1) (finQ Tryz.prog [.tmp 2] fun u w'=>u=.int .i64 (if o.Invoke<0∨o.Invoke > 1099511627776∨(o.Done=true∧(o.Return≤o.Invoke∨o.Return > 1099511627776))∨(o.Done=false∧o.Return≠0) then 31 else 0)∧Below w.heap.size w w'))):=fun w' hB hb=>by
  have r:=hB.rules
  by_cases t1:o.Invoke<0
  ·simp (disch:=first|omega|exact zF rfl|exact zG rfl|exact fun h=>h|(simp only[zA,zB,zC,zD,bytesW];omega)) only[go_sem,c28S0,r,ao,t1]
   exact ⟨by simp,hb⟩
  by_cases t2:o.Invoke > 1099511627776
  ·simp (disch:=first|omega|exact zF rfl|exact zG rfl|exact fun h=>h|(simp only[zA,zB,zC,zD,bytesW];omega)) only[go_sem,c28S0,r,ao,t1,t2]
   exact ⟨by simp,hb⟩
  cases d:o.Done
  ·by_cases t3:o.Return=0
   ·simp (disch:=first|omega|exact zF rfl|exact zG rfl|exact fun h=>h|(simp only[zA,zB,zC,zD,bytesW];omega)) only[go_sem,c28S0,r,ao,t1,t2,d,t3]
    exact hb
   ·simp (disch:=first|omega|exact zF rfl|exact zG rfl|exact fun h=>h|(simp only[zA,zB,zC,zD,bytesW];omega)) only[go_sem,c28S0,r,ao,t1,t2,d,t3]
    exact hb
  ·by_cases t3:o.Return≤o.Invoke
   ·simp (disch:=first|omega|exact zF rfl|exact zG rfl|exact fun h=>h|(simp only[zA,zB,zC,zD,bytesW];omega)) only[go_sem,c28S0,r,ao,t1,t2,d,t3]
    exact ⟨by simp,hb⟩
   by_cases t4:o.Return > 1099511627776
   ·simp (disch:=first|omega|exact zF rfl|exact zG rfl|exact fun h=>h|(simp only[zA,zB,zC,zD,bytesW];omega)) only[go_sem,c28S0,r,ao,t1,t2,d,t3,t4]
    exact hb
   ·simp (disch:=first|omega|exact zF rfl|exact zG rfl|exact fun h=>h|(simp only[zA,zB,zC,zD,bytesW];omega)) only[go_sem,c28S0,r,ao,t1,t2,d,t3,t4]
    exact hb
 cases e1:fitsP o.Kind o.Method
 ·rw [if_pos (.inl rfl)]
  simp (disch:=first|omega|exact zF rfl|exact zG rfl|exact fun h=>h|(simp only[zA,zB,zC,zD,bytesW];omega)) only[go_sem,r1,ao]
  exact bad _ s1.bel
 simp (disch:=first|omega|exact zF rfl|exact zG rfl|exact fun h=>h|(simp only[zA,zB,zC,zD,bytesW];omega)) only[go_sem,r1,ao]
 refine Ret.mono (args_ok o _) ?_
 rintro _ w2 ⟨rfl,b2⟩
 have s2:=s1.call b2
 have r2:=s2.rules 0 rfl
 cases e2:argsP o
 ·rw [if_pos (.inl rfl)]
  simp (disch:=first|omega|exact zF rfl|exact zG rfl|exact fun h=>h|(simp only[zA,zB,zC,zD,bytesW];omega)) only[go_sem,r2,ao]
  exact bad _ s2.bel
 cases d:o.Done
 ·by_cases e3:o.Result=0
  ·simp (disch:=first|omega|exact zF rfl|exact zG rfl|exact fun h=>h|(simp only[zA,zB,zC,zD,bytesW];omega)) only[go_sem,r2,ao,d,e3]
   have:=good _ (s2.blk 0 rfl) s2.bel
   simp only [d,e3] at this
   simpa using this
  ·simp (disch:=first|omega|exact zF rfl|exact zG rfl|exact fun h=>h|(simp only[zA,zB,zC,zD,bytesW];omega)) only[go_sem,r2,ao,d,e3]
   exact bad _ s2.bel
 ·simp (disch:=first|omega|exact zF rfl|exact zG rfl|exact fun h=>h|(simp only[zA,zB,zC,zD,bytesW];omega)) only[go_sem,r2,ao,d]
  refine Ret.mono (result_ok o hw _) ?_
  rintro _ w3 ⟨rfl,b3⟩
  have s3:=s2.call b3
  have r3:=s3.rules 0 rfl
  cases e3:resP o
  ·simp (disch:=first|omega|exact zF rfl|exact zG rfl|exact fun h=>h|(simp only[zA,zB,zC,zD,bytesW];omega)) only[go_sem,r3,ao,d]
   exact bad _ s3.bel
  ·simp (disch:=first|omega|exact zF rfl|exact zG rfl|exact fun h=>h|(simp only[zA,zB,zC,zD,bytesW];omega)) only[go_sem,r3,ao,d]
   have:=good _ (s3.blk 0 rfl) s3.bel
   simp only [d] at this
   simpa using this
open Go Go.Ann Go.RowKit
open Cut (Row4 rowsTable rows_ok)
def btw(n a b:Int):Bool:=decide (a≤n) && decide (n≤b)
theorem between_x(n a b:Int)(w:World):Ret Tryz.prog 67 [.int .i64 n,.int .i64 a,.int .i64 b] w fun u w'=>u=.bool (btw n a b)∧w'=w:=by
 refine ent67 _ _ _ _ _ ?_
 unfold btw
 simp (disch:=first|omega|exact zF rfl|exact zG rfl|exact fun h=>h|(simp only[zA,zB,zC,zD,bytesW];omega)) only[go_sem]
 refine ⟨fun h=>?_,fun h=>?_⟩ <;> simp [h] <;> omega
def ansR(n how:Int):Bool:=if how=0 then decide (n=0) else if how=1 then bitP n else if how=2 then btw n 0 1073741824 else if how=3 then btw n (-1073741824) 1073741824 else btw n (-1) 1073741824
theorem answer_x(n how:Int)(w:World):Ret Tryz.prog 69 [.int .i64 n,.int .i64 how] w fun u w'=>u=.bool (ansR n how)∧w'=w:=by
 refine ent69 _ _ _ _ ?_
 unfold ansR bitP
 by_cases h0:how=0
 ·simp (disch:=first|omega|exact zF rfl|exact zG rfl|exact fun h=>h|(simp only[zA,zB,zC,zD,bytesW];omega)) only[go_sem,h0]
 by_cases h1:how=1
 ·simp (disch:=first|omega|exact zF rfl|exact zG rfl|exact fun h=>h|(simp only[zA,zB,zC,zD,bytesW];omega)) only[go_sem,h0,h1]
  refine ⟨fun h=>?_,fun h=>?_⟩ <;> simp [h]
 by_cases h2:how=2
 ·simp (disch:=first|omega|exact zF rfl|exact zG rfl|exact fun h=>h|(simp only[zA,zB,zC,zD,bytesW];omega)) only[go_sem,h0,h1,h2]
  refine Ret.mono (between_x _ _ _ _) ?_
  rintro _ _ ⟨rfl,rfl⟩
  simp (disch:=first|omega|exact zF rfl|exact zG rfl|exact fun h=>h|(simp only[zA,zB,zC,zD,bytesW];omega)) only[go_sem]
 by_cases h3:how=3
 ·simp (disch:=first|omega|exact zF rfl|exact zG rfl|exact fun h=>h|(simp only[zA,zB,zC,zD,bytesW];omega)) only[go_sem,h0,h1,h2,h3]
  refine Ret.mono (between_x _ _ _ _) ?_
  rintro _ _ ⟨rfl,rfl⟩
  simp (disch:=first|omega|exact zF rfl|exact zG rfl|exact fun h=>h|(simp only[zA,zB,zC,zD,bytesW];omega)) only[go_sem]
 simp (disch:=first|omega|exact zF rfl|exact zG rfl|exact fun h=>h|(simp only[zA,zB,zC,zD,bytesW];omega)) only[go_sem,h0,h1,h2,h3]
 refine Ret.mono (between_x _ _ _ _) ?_
 rintro _ _ ⟨rfl,rfl⟩
 simp (disch:=first|omega|exact zF rfl|exact zG rfl|exact fun h=>h|(simp only[zA,zB,zC,zD,bytesW];omega)) only[go_sem]
def rowOf(k m:Int):Option Row4:=rowsTable.find? fun r=>decide (r.kind=k) && decide (r.method=m)
theorem find_atG{α:Type}{p:α→Bool}{l:List α}{k:Nat}(h:k<l.length)(hp:p l[k]=true)(hb:∀ j,(h:j<l.length)→j<k→p l[j]=false):l.find? p=some l[k]:=by
 rw [List.find?_eq_some_iff_append]
 refine ⟨hp,l.take k,l.drop (k+1),?_,fun a ha=>?_⟩
 ·rw [← List.drop_eq_getElem_cons h,List.take_append_drop]
 ·obtain ⟨j,hj,rfl⟩:=List.mem_iff_getElem.1 ha
  rw [List.length_take] at hj
  rw [List.getElem_take,hb j (by omega) (by omega)]
  rfl
theorem find_x(a b:Int)(w:World):Ret Tryz.prog 68 [.int .i64 a,.int .i64 b] w fun v w'=>(∃ r:Row4,v=.tuple #[.agg r.enc.toArray,.bool (rowOf a b).isSome]∧(∀ x,rowOf a b=some x→x=r))∧Below w.heap.size w w':=by
 refine ent68 _ _ _ _ ?_
 simp (disch:=first|omega|exact zF rfl|exact zG rfl|exact fun h=>h|(simp only[zA,zB,zC,zD,bytesW];omega)) only[go_sem]
 obtain ⟨z,hz⟩:∃ z:Row4,z=⟨0,0,0,0⟩:=⟨_,rfl⟩
 have s1:=(St.start (W0:=w)).box z.enc.toArray 117
 have hzz:#[Value.int .i64 0,.int .i64 0,.int .i64 0,.int .i64 0]=z.enc.toArray:=by rw [hz]; rfl
 rw [hzz]
 generalize w.alloc (.cells z.enc.toArray 117)=w1 at s1 ⊢
 obtain ⟨b0,hb0⟩:∃ b,b=w.heap.size:=⟨_,rfl⟩
 have hbb:∀ w',Below w.heap.size w w'→Below b0 w w':=fun _ h=>by rw [hb0]; exact h
 rw [← hb0] at s1 ⊢
 have az:=z.at
 refine Ret.mono (rows_ok _) ?_
 rintro vt w2 ⟨ht,b2⟩
 obtain ⟨pt,ct,rfl,_⟩:=ht.form
 have s2:=s1.call b2
 simp (disch:=first|omega|exact zF rfl|exact zG rfl|exact fun h=>h|(simp only[zA,zB,zC,zD,bytesW];omega)) only[go_sem]
 refine W_loopU (fun k:Nat=>[(7,.int .i64 k)]) (fun k w'=>Below w2.heap.size w2 w'∧k≤rowsTable.length∧∀ j,(h:j<rowsTable.length)→j<k→(decide (rowsTable[j].kind=a) && decide (rowsTable[j].method=b))=false) (fun k=>rowsTable.length - k) 0 rfl ⟨Below.refl _ _,Nat.zero_le _,fun j _ h=>by omega⟩ ?_
 rintro k w3 ⟨b3,hk,hall⟩
 have s3:=s2.call b3
 have r3:=s3.rules 0 rfl
 have h3:=ht.below b3 (by decide)
 have b03:=s3.bel
 have hsz:rowsTable.length=15:=rfl
 unfold rowOf at *
 generalize rowsTable=tb at *
 by_cases hlt:k<tb.length
 ·have hlt':(k:Int)<tb.length:=by omega
  obtain ⟨p,rfl⟩:=ht.ptr (by omega)
  have ek:=h3.eltB (Below.refl _ _) Row4.len (by decide) hlt
  have ck:=h3.at Row4.len hlt
  have ak:=tb[k].at
  have nxt:¬ (tb[k].kind=a∧tb[k].method=b)→∀ j,(h:j<tb.length)→j<k+1→(decide (tb[j].kind=a) && decide (tb[j].method=b))=false:=fun hn j hj hjk=>by
   rcases Nat.lt_or_ge j k with h | h
   ·exact hall j hj h
   ·obtain rfl:j=k:=by omega
    rw [Bool.and_eq_false_iff,decide_eq_false_iff_not,decide_eq_false_iff_not]
    omega
  simp (disch:=first|omega|exact zF rfl|exact zG rfl|exact fun h=>h|(simp only[zA,zB,zC,zD,bytesW];omega)) only[go_sem,hlt',ek,ak,ck,r3,az]
  refine ⟨by omega,fun e1=>⟨by omega,fun e2=>⟨by omega,tb[k].len.symm,Cut.blk_okSt (s3.blk 0 rfl) tb[k].one (Nat.le_refl _),⟨tb[k],?_⟩,hbb _ ((s3.fill 0 rfl (cs:=tb[k].enc.toArray) rfl).bel)⟩,fun e2=>⟨⟨by omega,by omega⟩,k+1,rfl,⟨b3,by omega,nxt (fun h=>e2 h.2)⟩,by omega⟩⟩,fun e1=>⟨⟨by omega,by omega⟩,k+1,rfl,⟨b3,by omega,nxt (fun h=>e1 h.1)⟩,by omega⟩⟩
  have e:tb.find? (fun r=>decide (r.kind=a) && decide (r.method=b))=some tb[k]:=find_atG hlt (by simp [e1,e2]) fun j hj hjk=>hall j hj hjk
  rw [e]
  exact ⟨rfl,fun x hx=>(Option.some.inj hx).symm⟩
 ·have hlt':¬ (k:Int)<tb.length:=by omega
  simp (disch:=first|omega|exact zF rfl|exact zG rfl|exact fun h=>h|(simp only[zA,zB,zC,zD,bytesW];omega)) only[go_sem,hlt',r3]
  refine bdW_built (cells:=z.enc.toArray) (by rw [hz]; kernel_rfl) ?_
  simp (disch:=first|omega|exact zF rfl|exact zG rfl|exact fun h=>h|(simp only[zA,zB,zC,zD,bytesW];omega)) only[go_sem,hlt',r3,az]
  have e:tb.find? (fun r=>decide (r.kind=a) && decide (r.method=b))=none:=List.find?_eq_none.2 fun x hx=>by
   obtain ⟨j,hj,rfl⟩:=List.mem_iff_getElem.1 hx
   rw [hall j hj (by omega)]
   exact Bool.false_ne_true
  rw [e]
  exact ⟨z.len.symm,Cut.blk_okSt (s3.blk 0 rfl) z.one (Nat.le_refl _),⟨z,rfl,fun x hx=>by cases hx⟩,hbb _ ((s3.fill 0 rfl (cs:=z.enc.toArray) rfl).bel)⟩
def timeR(o:OpT):Int :=
 if btw o.Invoke 0 1099511627776=false∨(o.Done=false∧o.Return≠0) then 31 else if o.Done=true∧(o.Return≤o.Invoke∨o.Return > 1099511627776) then 31 else 0
theorem chk6{o:OpT}{w:World}{K:Value→World→Prop}{b0:Nat}(h0:Blk w b0 o.enc.toArray 52)(hK:K (.int .i64 (timeR o)) w) :
  W Tryz.prog (c33S6 ()) [(1,.pointer (some ⟨b0,0,none⟩))] w (finQ Tryz.prog [.tmp 2] K):=by
 have r0:=h0.rules
 have ao:=o.at
 unfold timeR at hK
 simp (disch:=first|omega|exact zF rfl|exact zG rfl|exact fun h=>h|(simp only[zA,zB,zC,zD,bytesW];omega)) only[go_sem,c33S6,c33S8,c33S11,c33S12,r0,ao]
 refine Ret.mono (between_x _ _ _ _) ?_
 rintro _ _ ⟨rfl,rfl⟩
 cases e1:btw o.Invoke 0 1099511627776
 ·rw [e1,if_pos (.inl rfl)] at hK
  simp (disch:=first|omega|exact zF rfl|exact zG rfl|exact fun h=>h|(simp only[zA,zB,zC,zD,bytesW];omega)) only[go_sem,c33S6,c33S8,c33S11,c33S12,r0,ao]
  exact hK
 cases d:o.Done
 ·by_cases e2:o.Return=0
  ·rw [if_neg (by simp [e1,e2]),if_neg (by simp [d])] at hK
   simp (disch:=first|omega|exact zF rfl|exact zG rfl|exact fun h=>h|(simp only[zA,zB,zC,zD,bytesW];omega)) only[go_sem,c33S6,c33S8,c33S11,c33S12,r0,ao,d,e2]
   exact hK
  ·rw [if_pos (.inr ⟨d,e2⟩)] at hK
   simp (disch:=first|omega|exact zF rfl|exact zG rfl|exact fun h=>h|(simp only[zA,zB,zC,zD,bytesW];omega)) only[go_sem,c33S6,c33S8,c33S11,c33S12,r0,ao,d,e2]
   exact hK
 ·rw [if_neg (by simp [e1,d])] at hK
  by_cases e2:o.Return≤o.Invoke
  ·rw [if_pos ⟨d,.inl e2⟩] at hK
   simp (disch:=first|omega|exact zF rfl|exact zG rfl|exact fun h=>h|(simp only[zA,zB,zC,zD,bytesW];omega)) only[go_sem,c33S6,c33S8,c33S11,c33S12,r0,ao,d,e2]
   exact hK
  by_cases e3:o.Return > 1099511627776
  ·rw [if_pos ⟨d,.inr e3⟩] at hK
   simp (disch:=first|omega|exact zF rfl|exact zG rfl|exact fun h=>h|(simp only[zA,zB,zC,zD,bytesW];omega)) only[go_sem,c33S6,c33S8,c33S11,c33S12,r0,ao,d,e2,e3]
   exact hK
  ·rw [if_neg (by simp only [d,true_and]; omega)] at hK
   simp (disch:=first|omega|exact zF rfl|exact zG rfl|exact fun h=>h|(simp only[zA,zB,zC,zD,bytesW];omega)) only[go_sem,c33S6,c33S8,c33S11,c33S12,r0,ao,d,e2,e3]
   exact hK
def rowR(o:OpT)(x:Row4)(a b:Int):Int :=
 if btw o.Arg 0 a=false∨btw o.Second 0 b=false then 33 else if (o.Done=true∧ansR o.Result x.how=false)∨(o.Done=false∧o.Result≠0) then 33 else timeR o
theorem chk8{o:OpT}{r:Row4}{w:World}{K:Value→World→Prop}{b0 b1:Nat}(m n:Int)(h0:Blk w b0 o.enc.toArray 52)(h1:Blk w b1 r.enc.toArray 117)
  (hK:K (.int .i64 (rowR o r m n)) w) :
  W Tryz.prog (c33S8 ()) [(1,.pointer (some ⟨b0,0,none⟩)),(3,.pointer (some ⟨b1,0,none⟩)),(5,.int .i64 m),(6,.int .i64 n)] w (finQ Tryz.prog [.tmp 2] K):=by
 have r0:=h0.rules
 have r1:=h1.rules
 have ao:=o.at
 have ar:=r.at
 unfold rowR at hK
 simp (disch:=first|omega|exact zF rfl|exact zG rfl|exact fun h=>h|(simp only[zA,zB,zC,zD,bytesW];omega)) only[go_sem,c33S8,c33S11,c33S12,r0,r1,ao,ar]
 refine Ret.mono (between_x _ _ _ _) ?_
 rintro _ _ ⟨rfl,rfl⟩
 cases e1:btw o.Arg 0 m
 ·rw [if_pos (.inl e1)] at hK
  simp (disch:=first|omega|exact zF rfl|exact zG rfl|exact fun h=>h|(simp only[zA,zB,zC,zD,bytesW];omega)) only[go_sem,c33S8,c33S11,c33S12,r0,r1,ao,ar]
  exact hK
 simp (disch:=first|omega|exact zF rfl|exact zG rfl|exact fun h=>h|(simp only[zA,zB,zC,zD,bytesW];omega)) only[go_sem,c33S8,c33S11,c33S12,r0,r1,ao,ar]
 refine Ret.mono (between_x _ _ _ _) ?_
 rintro _ _ ⟨rfl,rfl⟩
 cases e2:btw o.Second 0 n
 ·rw [if_pos (.inr e2)] at hK
  simp (disch:=first|omega|exact zF rfl|exact zG rfl|exact fun h=>h|(simp only[zA,zB,zC,zD,bytesW];omega)) only[go_sem,c33S8,c33S11,c33S12,r0,r1,ao,ar]
  exact hK
 rw [if_neg (by simp [e1,e2])] at hK
 cases d:o.Done
 ·by_cases e3:o.Result=0
  ·rw [if_neg (by simp [d,e3])] at hK
   simp (disch:=first|omega|exact zF rfl|exact zG rfl|exact fun h=>h|(simp only[zA,zB,zC,zD,bytesW];omega)) only[go_sem,c33S8,c33S11,c33S12,r0,r1,ao,ar,d,e3]
   exact chk6 h0 hK
  ·rw [if_pos (.inr ⟨d,e3⟩)] at hK
   simp (disch:=first|omega|exact zF rfl|exact zG rfl|exact fun h=>h|(simp only[zA,zB,zC,zD,bytesW];omega)) only[go_sem,c33S8,c33S11,c33S12,r0,r1,ao,ar,d,e3]
   exact hK
 ·simp (disch:=first|omega|exact zF rfl|exact zG rfl|exact fun h=>h|(simp only[zA,zB,zC,zD,bytesW];omega)) only[go_sem,c33S8,c33S11,c33S12,r0,r1,ao,ar,d]
  refine Ret.mono (answer_x _ _ _) ?_
  rintro _ _ ⟨rfl,rfl⟩
  cases e3:ansR o.Result r.how
  ·rw [if_pos (.inl ⟨d,e3⟩)] at hK
   simp (disch:=first|omega|exact zF rfl|exact zG rfl|exact fun h=>h|(simp only[zA,zB,zC,zD,bytesW];omega)) only[go_sem,c33S8,c33S11,c33S12,r0,r1,ao,ar,d]
   exact hK
  ·rw [if_neg (by simp [d,e3])] at hK
   simp (disch:=first|omega|exact zF rfl|exact zG rfl|exact fun h=>h|(simp only[zA,zB,zC,zD,bytesW];omega)) only[go_sem,c33S8,c33S11,c33S12,r0,r1,ao,ar,d]
   exact chk6 h0 hK
def chkR(o:OpT):Int :=
 if btw o.ID 1 1073741824=false∨btw o.Proc 0 1023=false∨btw o.Object 0 1023=false then 30 else match rowOf o.Kind o.Method with
  | none=>33
  | some x=>rowR o x (if 1≤x.args then 1073741824 else 0) (if 2≤x.args then 1073741824 else 0)
theorem checkOp_x(o:OpT)(w:World):Ret Tryz.prog 33 [.agg o.enc.toArray] w fun v w'=>v=.int .i64 (chkR o)∧Below w.heap.size w w':=by
 refine ent33 _ _ _ ?_
 simp (disch:=first|omega|exact zF rfl|exact zG rfl|exact fun h=>h|(simp only[zA,zB,zC,zD,bytesW];omega)) only[go_sem,c33S6,c33S8,c33S11,c33S12]
 have s1:=(St.start (W0:=w)).box o.enc.toArray 52
 generalize w.alloc (.cells o.enc.toArray 52)=w1 at s1 ⊢
 obtain ⟨b0,hb0⟩:∃ b,b=w.heap.size:=⟨_,rfl⟩
 have hbb:∀ w',Below w.heap.size w w'→Below b0 w w':=fun _ h=>by rw [hb0]; exact h
 rw [← hb0] at s1 ⊢
 have ao:=o.at
 have r1:=s1.rules 0 rfl
 unfold chkR
 simp (disch:=first|omega|exact zF rfl|exact zG rfl|exact fun h=>h|(simp only[zA,zB,zC,zD,bytesW];omega)) only[go_sem,c33S6,c33S8,c33S11,ao,r1]
 refine Ret.mono (between_x _ _ _ _) ?_
 rintro _ _ ⟨rfl,rfl⟩
 cases e1:btw o.ID 1 1073741824
 ·rw [if_pos (.inl rfl)]
  simp (disch:=first|omega|exact zF rfl|exact zG rfl|exact fun h=>h|(simp only[zA,zB,zC,zD,bytesW];omega)) only[go_sem,c33S6,c33S8,c33S11,c33S12,ao,r1]
  exact hbb _ s1.bel
 simp (disch:=first|omega|exact zF rfl|exact zG rfl|exact fun h=>h|(simp only[zA,zB,zC,zD,bytesW];omega)) only[go_sem,c33S6,c33S8,c33S11,ao,r1]
 refine Ret.mono (between_x _ _ _ _) ?_
 rintro _ _ ⟨rfl,rfl⟩
 cases e2:btw o.Proc 0 1023
 ·simp (disch:=first|omega|exact zF rfl|exact zG rfl|exact fun h=>h|(simp only[zA,zB,zC,zD,bytesW];omega)) only[go_sem,c33S6,c33S8,c33S11,c33S12,ao,r1]
  exact ⟨by simp,hbb _ s1.bel⟩
 simp (disch:=first|omega|exact zF rfl|exact zG rfl|exact fun h=>h|(simp only[zA,zB,zC,zD,bytesW];omega)) only[go_sem,c33S6,c33S8,c33S11,ao,r1]
 refine Ret.mono (between_x _ _ _ _) ?_
 rintro _ _ ⟨rfl,rfl⟩
 cases e3:btw o.Object 0 1023
 ·simp (disch:=first|omega|exact zF rfl|exact zG rfl|exact fun h=>h|(simp only[zA,zB,zC,zD,bytesW];omega)) only[go_sem,c33S6,c33S8,c33S11,c33S12,ao,r1]
  exact hbb _ s1.bel
 simp (disch:=first|omega|exact zF rfl|exact zG rfl|exact fun h=>h|(simp only[zA,zB,zC,zD,bytesW];omega)) only[go_sem,c33S6,c33S8,c33S12,ao,r1]
 refine Ret.mono (find_x _ _ _) ?_
 rintro _ w5 ⟨⟨r,rfl,hr⟩,b5⟩
 have s5:=s1.call b5
 have ar:=r.at
 have r5:=s5.rules 0 rfl
 simp (disch:=first|omega|exact zF rfl|exact zG rfl|exact fun h=>h|(simp only[zA,zB,zC,zD,bytesW];omega)) only[go_sem,c33S6,c33S8,c33S12,ao,ar,r5]
 have s6:=s5.box r.enc.toArray 117
 generalize w5.alloc (.cells r.enc.toArray 117)=w6 at s6 ⊢
 have r6:=s6.rules 0 rfl
 refine ⟨r.len.symm,?_⟩
 cases e4:rowOf o.Kind o.Method with
 | none =>
  simp (disch:=first|omega|exact zF rfl|exact zG rfl|exact fun h=>h|(simp only[zA,zB,zC,zD,bytesW];omega)) only[go_sem,c33S6,c33S8,c33S11,c33S12,Option.isSome_none]
  exact hbb _ s6.bel
 | some x =>
  obtain rfl:=hr x e4
  rw [Option.isSome_some]
  by_cases g1:1≤x.args
  ·by_cases g2:2≤x.args
   ·simp (disch:=first|omega|exact zF rfl|exact zG rfl|exact fun h=>h|(simp only[zA,zB,zC,zD,bytesW];omega)) only[go_sem,c33S6,c33S11,c33S12,r6,ar,g1,g2]
    refine chk8 _ _ (s6.blk 1 rfl) (s6.blk 0 rfl) ?_
    exact ⟨rfl,hbb _ s6.bel⟩
   ·simp (disch:=first|omega|exact zF rfl|exact zG rfl|exact fun h=>h|(simp only[zA,zB,zC,zD,bytesW];omega)) only[go_sem,c33S6,c33S11,c33S12,r6,ar,g1,g2]
    refine chk8 _ _ (s6.blk 1 rfl) (s6.blk 0 rfl) ?_
    exact ⟨rfl,hbb _ s6.bel⟩
  ·have g2:¬ 2≤x.args:=by omega
   simp (disch:=first|omega|exact zF rfl|exact zG rfl|exact fun h=>h|(simp only[zA,zB,zC,zD,bytesW];omega)) only[go_sem,c33S6,c33S11,c33S12,r6,ar,g1,g2]
   refine chk8 _ _ (s6.blk 1 rfl) (s6.blk 0 rfl) ?_
   exact ⟨rfl,hbb _ s6.bel⟩
theorem rowOf_eq(k m:Int):rowOf k m=if k=1∧m=1 then some ⟨1,1,0,2⟩ else if k=1∧m=2 then some ⟨1,2,1,0⟩ else if k=1∧m=3 then some ⟨1,3,2,1⟩ else if k=2∧m=1 then some ⟨2,1,0,3⟩ else if k=2∧m=4 then some ⟨2,4,0,0⟩ else if k=2∧m=5 then some ⟨2,5,0,0⟩ else if k=3∧m=6 then some ⟨3,6,1,0⟩ else if k=3∧m=7 then some ⟨3,7,0,4⟩ else if k=4∧m=8 then some ⟨4,8,1,0⟩ else if k=4∧m=9 then some ⟨4,9,0,4⟩ else if k=5∧m=10 then some ⟨5,10,1,1⟩ else if k=5∧m=11 then some ⟨5,11,1,1⟩ else if k=5∧m=12 then some ⟨5,12,1,1⟩ else if k=6∧m=13 then some ⟨6,13,0,0⟩ else if k=6∧m=14 then some ⟨6,14,0,0⟩ else none:=by
 unfold rowOf rowsTable
 have st:∀ (x:Row4) (l:List Row4),(x::l).find? (fun r=>decide (r.kind=k) && decide (r.method=m))=if k=x.kind∧m=x.method then some x else l.find? (fun r=>decide (r.kind=k) && decide (r.method=m)):=fun x l=>by
  rw [List.find?_cons]
  by_cases h:k=x.kind∧m=x.method
  ·rw [if_pos h,h.1,h.2]; simp
  ·rw [if_neg h]
   have:(decide (x.kind=k) && decide (x.method=m))=false:=by
    rw [Bool.and_eq_false_iff,decide_eq_false_iff_not,decide_eq_false_iff_not]
    omega
   rw [this]
 simp only [st,List.find?_nil]
theorem fits_row(k m:Int):fitsP k m=(rowOf k m).isSome:=by
 rw [rowOf_eq]
 unfold fitsP
 by_cases h1:k=1
 ·subst h1
  by_cases a1:m=1
  ·subst a1; rfl
  by_cases a2:m=2
  ·subst a2; rfl
  by_cases a3:m=3
  ·subst a3; rfl
  simp [a1,a2,a3]
  omega
 by_cases h2:k=2
 ·subst h2
  by_cases a1:m=1
  ·subst a1; rfl
  by_cases a2:m=4
  ·subst a2; rfl
  by_cases a3:m=5
  ·subst a3; rfl
  simp [a1,a2,a3]
 by_cases h3:k=3
 ·subst h3
  by_cases a1:m=6
  ·subst a1; rfl
  by_cases a2:m=7
  ·subst a2; rfl
  simp [a1,a2]
 by_cases h4:k=4
 ·subst h4
  by_cases a1:m=8
  ·subst a1; rfl
  by_cases a2:m=9
  ·subst a2; rfl
  simp [a1,a2]
 by_cases h5:k=5
 ·subst h5
  by_cases a1:m=10
  ·subst a1; rfl
  by_cases a2:m=11
  ·subst a2; rfl
  by_cases a3:m=12
  ·subst a3; rfl
  simp [a1,a2,a3]
  omega
 by_cases h6:k=6
 ·subst h6
  by_cases a1:m=13
  ·subst a1; rfl
  by_cases a2:m=14
  ·subst a2; rfl
  simp [a1,a2]
 simp [h1,h2,h3,h4,h5,h6]
theorem btw_f{n a b:Int}:btw n a b=false↔n<a∨n > b:=by
 unfold btw
 rw [Bool.and_eq_false_iff,decide_eq_false_iff_not,decide_eq_false_iff_not]
 omega
theorem val_btw(n:Int):valP n=btw n 0 1073741824:=rfl
theorem btw_zero(n:Int):btw n 0 0=decide (n=0):=by
 unfold btw
 rw [← Bool.decide_and]
 congr 1
 exact propext (by omega)
theorem rowOf_some{k m:Int}{x:Row4}(h:rowOf k m=some x):x∈rowsTable∧x.kind=k∧x.method=m :=
 ⟨List.mem_of_find?_eq_some h,by have:=List.find?_some h; simpa using this⟩
theorem args_row{o:OpT}{x:Row4}(h:rowOf o.Kind o.Method=some x):argsP o=false↔btw o.Arg 0 (if 1≤x.args then 1073741824 else 0)=false∨btw o.Second 0 (if 2≤x.args then 1073741824 else 0)=false:=by
 obtain ⟨hx,hk,hm⟩:=rowOf_some h
 unfold argsP
 simp only [rowsTable,List.mem_cons,List.not_mem_nil,or_false] at hx
 rcases hx with rfl | rfl | rfl | rfl | rfl | rfl | rfl | rfl | rfl | rfl | rfl | rfl | rfl | rfl | rfl <;> simp only at hk hm <;> simp [← hm,val_btw,btw_zero]
 all_goals first
  | omega
  | (cases btw o.Arg 0 1073741824 <;> simp; done)
  | (cases btw o.Arg 0 1073741824 <;> cases btw o.Second 0 1073741824 <;> simp; done)
theorem res_row{o:OpT}{x:Row4}(h:rowOf o.Kind o.Method=some x):resP o=ansR o.Result x.how:=by
 obtain ⟨hx,hk,hm⟩:=rowOf_some h
 unfold resP ansR
 simp only [rowsTable,List.mem_cons,List.not_mem_nil,or_false] at hx
 rcases hx with rfl | rfl | rfl | rfl | rfl | rfl | rfl | rfl | rfl | rfl | rfl | rfl | rfl | rfl | rfl <;> simp only at hk hm <;> rw [Bool.eq_iff_iff] <;> simp [← hm,← hk,bitP,valP,btw] <;> try omega
theorem chk_eq(o:OpT):chkP o=chkR o:=by
 unfold chkP chkR
 simp only [btw_f]
 by_cases h1:o.ID<1∨o.ID > 1073741824∨o.Proc<0∨o.Proc > 1023∨o.Object<0∨o.Object > 1023
 ·rw [if_pos h1,if_pos (by omega)]
 rw [if_neg h1,if_neg (show ¬ ((o.ID<1∨o.ID > 1073741824)∨(o.Proc<0∨o.Proc > 1023)∨(o.Object<0∨o.Object > 1023)) from by omega),fits_row]
 cases e:rowOf o.Kind o.Method with
 | none=>rw [if_pos (.inl rfl)]
 | some x =>
  unfold rowR timeR
  rw [Option.isSome_some]
  dsimp only
  by_cases a1:argsP o=false
  ·rw [if_pos (.inr (.inl a1)),if_pos ((args_row e).1 a1)]
  by_cases a2:(o.Done=true∧resP o=false)∨(o.Done=false∧o.Result≠0)
  ·rw [if_pos (.inr (.inr a2)),if_neg (fun h=>a1 ((args_row e).2 h)),if_pos (by rw [← res_row e]; exact a2)]
  rw [if_neg (by
   rintro (h | h | h)
   ·cases h
   ·exact a1 h
   ·exact a2 h),if_neg (fun h=>a1 ((args_row e).2 h)),if_neg (show ¬ (o.Done=true∧ansR o.Result x.how=false∨o.Done=false∧o.Result≠0) from by rw [← res_row e]; exact a2)]
  simp only [btw_f]
  by_cases t1:(o.Invoke<0∨o.Invoke > 1099511627776)∨(o.Done=false∧o.Return≠0)
  ·rw [if_pos t1,if_pos]
   rcases t1 with (t | t) | t
   ·exact .inl t
   ·exact .inr (.inl t)
   ·exact .inr (.inr (.inr t))
  ·rw [if_neg t1]
   by_cases t2:o.Done=true∧(o.Return≤o.Invoke∨o.Return > 1099511627776)
   ·rw [if_pos t2,if_pos (.inr (.inr (.inl t2)))]
   ·rw [if_neg t2,if_neg]
    rintro (t | t | t | t)
    ·exact t1 (.inl (.inl t))
    ·exact t1 (.inl (.inr t))
    ·exact t2 t
    ·exact t1 (.inr t)
open Go Go.Ann Go.RowKit
open Cut (containsFunc_ok)
def nz:List Int→Int
 | []=>0
 | x::r=>if x=0 then nz r else x
def badK(o p:OpT):Bool:=decide (p.Object=o.Object) && decide (p.Kind≠o.Kind)
def badP(o p:OpT):Bool:=decide (p.Proc=o.Proc) && (!before p o && !before o p)
def bes(l:List OpT)(o:OpT):Int:=if l.any (fun p=>!decide (p.ID=o.ID) && badK o p) then 33 else if l.any (fun p=>!decide (p.ID=o.ID) && badP o p) then 32 else 0
theorem rbeside_ok(va:Value)(l:List OpT)(o:OpT)(w:World)(ha:RdS w 11 OpT.enc va l)(hl:(l.length:Int)≤9223372036854775806) :
  Ret Tryz.prog 74 [va,.agg o.enc.toArray] w fun v w'=>v=.int .i64 (bes l o)∧Below w.heap.size w w':=by
 obtain ⟨pa,ca,rfl,_⟩:=ha.form
 refine ent74 _ _ _ _ ?_
 simp (disch:=first|omega|exact zF rfl|exact zG rfl|exact fun h=>h|(simp only[zA,zB,zC,zD,bytesW];omega)) only[go_sem]
 have s1:=(St.start (W0:=w)).box o.enc.toArray 52
 have h1:=ha.below s1.bel (by decide)
 generalize w.alloc (.cells o.enc.toArray 52)=w1 at s1 h1 ⊢
 obtain ⟨b0,hb0⟩:∃ b,b=w.heap.size:=⟨_,rfl⟩
 have hbb:∀ w',Below w.heap.size w w'→Below b0 w w':=fun _ h=>by rw [hb0]; exact h
 rw [← hb0] at s1 ⊢
 have ao:=o.at
 refine W_loopU (fun k:Nat=>[(5,.int .i64 k)]) (fun k w'=>Below w1.heap.size w1 w'∧k≤l.length∧∀ j,(h:j<l.length)→j<k→(!decide (l[j].ID=o.ID) && badK o l[j])=false) (fun k=>l.length - k) 0 rfl ⟨Below.refl _ _,Nat.zero_le _,fun j _ h=>by omega⟩ ?_
 rintro k w2 ⟨b2,hk,he⟩
 have s2:=s1.call b2
 have r2:=s2.rules 0 rfl
 have h2:=h1.below b2 (by decide)
 by_cases hlt:k<l.length
 ·have hlt':(k:Int)<l.length:=by omega
  obtain ⟨p,rfl⟩:=ha.ptr (by omega)
  have ek:=h2.eltB (Below.refl _ _) OpT.len (by decide) hlt
  have ak:=l[k].at
  simp (disch:=first|omega|exact zF rfl|exact zG rfl|exact fun h=>h|(simp only[zA,zB,zC,zD,bytesW];omega)) only[go_sem,hlt']
  refine c74draw0 ?_
  simp (disch:=first|omega|exact zF rfl|exact zG rfl|exact fun h=>h|(simp only[zA,zB,zC,zD,bytesW];omega)) only[go_sem,c74D0,r2,ek,ak,ao]
  have b02:Below w.heap.size w w2.drew:=(s1.bel.trans (b2.mono s1.size)).drew
  have go:(!decide (l[k].ID=o.ID) && badK o l[k])=false→∀ j,(h:j<l.length)→j<k+1→(!decide (l[j].ID=o.ID) && badK o l[j])=false:=fun hx j h1 h3=>by
   rcases Nat.lt_or_ge j k with h' | h'
   ·exact he j h1 h'
   ·obtain rfl:j=k:=by omega
    exact hx
  refine ⟨⟨by omega,by omega⟩,fun e1=>⟨⟨by omega,by omega⟩,fun e2=>⟨⟨by omega,by omega⟩,fun e3=>⟨?_,hbb _ (b02)⟩,fun e3=>⟨⟨by omega,by omega⟩,k+1,rfl,⟨b2.drew,by omega,go (by simp [badK,e3])⟩,by omega⟩⟩,fun e2=>⟨⟨by omega,by omega⟩,k+1,rfl,⟨b2.drew,by omega,go (by simp [badK,e2])⟩,by omega⟩⟩,fun e1=>⟨⟨by omega,by omega⟩,k+1,rfl,⟨b2.drew,by omega,go (by simp [e1])⟩,by omega⟩⟩
  unfold bes
  rw [if_pos (List.any_eq_true.2 ⟨l[k],List.getElem_mem hlt,by simp [badK,e1,e2,e3]⟩)]
 ·have hlt':¬ (k:Int)<l.length:=by omega
  simp (disch:=first|omega|exact zF rfl|exact zG rfl|exact fun h=>h|(simp only[zA,zB,zC,zD,bytesW];omega)) only[go_sem,hlt']
  have hall:(l.any fun p=>!decide (p.ID=o.ID) && badK o p)=false:=List.any_eq_false.2 fun x hx=>by
   obtain ⟨j,hj,rfl⟩:=List.mem_iff_getElem.1 hx
   rw [he j hj (by omega)]
   exact Bool.false_ne_true
  clear he
  unfold bes
  rw [if_neg (by rw [hall]; exact Bool.false_ne_true)]
  refine W_loopU (fun k:Nat=>[(6,.int .i64 k)]) (fun k w'=>Below w1.heap.size w1 w'∧k≤l.length∧∀ j,(h:j<l.length)→j<k→(!decide (l[j].ID=o.ID) && badP o l[j])=false) (fun k=>l.length - k) 0 rfl ⟨b2,Nat.zero_le _,fun j _ h=>by omega⟩ ?_
  clear r2 h2 s2 b2
  rintro k w3 ⟨b3,hk,he⟩
  have s3:=s1.call b3
  have r3:=s3.rules 0 rfl
  have h3:=h1.below b3 (by decide)
  by_cases hlt:k<l.length
  ·have hlt':(k:Int)<l.length:=by omega
   obtain ⟨p,rfl⟩:=ha.ptr (by omega)
   have ek:=h3.eltB (Below.refl _ _) OpT.len (by decide) hlt
   have ck:=h3.at OpT.len hlt
   have ak:=l[k].at
   have go:(!decide (l[k].ID=o.ID) && badP o l[k])=false→∀ j,(h:j<l.length)→j<k+1→(!decide (l[j].ID=o.ID) && badP o l[j])=false:=fun hx j h1 h3=>by
    rcases Nat.lt_or_ge j k with h' | h'
    ·exact he j h1 h'
    ·obtain rfl:j=k:=by omega
     exact hx
   have bad:(!decide (l[k].ID=o.ID) && badP o l[k])=true→32=(if (l.any fun p=>!decide (p.ID=o.ID) && badP o p)=true then (32:Int) else 0):=fun h=>by
    rw [if_pos (List.any_eq_true.2 ⟨l[k],List.getElem_mem hlt,h⟩)]
   simp (disch:=first|omega|exact zF rfl|exact zG rfl|exact fun h=>h|(simp only[zA,zB,zC,zD,bytesW];omega)) only[go_sem,hlt']
   have hp3:=h3.blt OpT.len (by decide) (by omega)
   have hb3:=s3.low 0 rfl
   have hd3:w3.drew.heap.size=w3.heap.size:=rfl
   refine c74draw1 (Chg (fun _=>False) _) (Chg.refl _ _) ?_
   simp (disch:=first|omega|exact zF rfl|exact zG rfl|exact fun h=>h|(simp only[zA,zB,zC,zD,bytesW];omega)) only[go_sem,c74D1,r3,ek,ak,ao,ck]
   have b03:Below w1.heap.size w1 w3.drew:=b3.drew
   refine ⟨⟨by omega,by omega⟩,fun e1=>⟨⟨by omega,by omega⟩,fun e2=>⟨⟨by omega,by omega⟩,Ret.mono (rbefore_ok _ _ _) ?_⟩,fun e2=>⟨⟨by omega,by omega⟩,k+1,rfl,⟨b03,by omega,go (by simp [badP,e2])⟩,by omega⟩⟩,fun e1=>⟨⟨by omega,by omega⟩,k+1,rfl,⟨b03,by omega,go (by simp [e1])⟩,by omega⟩⟩
   rintro _ w4 ⟨rfl,b4⟩
   have b34:Below w3.heap.size w3 w4:=(Below.refl _ w3).drew.trans b4
   have h4:=h3.below b34 (by decide)
   have ck4:=h4.at OpT.len hlt
   have s4:=s3.call b34
   have r4:=s4.rules 0 rfl
   have b04:Below w1.heap.size w1 w4:=b3.trans (b34.mono b3.size)
   simp (disch:=first|omega|exact zF rfl|exact zG rfl|exact fun h=>h|(simp only[zA,zB,zC,zD,bytesW];omega)) only[go_sem,c74D1,r3,r4,ek,ak,ao,ck,ck4]
   refine ⟨Chg.of_below b4,fun e3=>⟨⟨by omega,by omega⟩,Chg.of_below b4,Ret.mono (rbefore_ok _ _ _) ?_⟩,fun e3=>⟨⟨by omega,by omega⟩,k+1,rfl,⟨b04,by omega,go (by simp [badP,e3])⟩,by omega⟩⟩
   rintro _ w5 ⟨rfl,b5⟩
   have b05:Below w1.heap.size w1 w5:=b04.trans (b5.mono b04.size)
   simp (disch:=first|omega|exact zF rfl|exact zG rfl|exact fun h=>h|(simp only[zA,zB,zC,zD,bytesW];omega)) only[go_sem,c74D1,r3,r4,ek,ak,ao,ck,ck4]
   exact ⟨(Chg.of_below b4).trans (Chg.of_below b5),fun e4=>⟨bad (by simp [badP,e1,e2,e3,e4]),hbb _ (s1.bel.trans (b05.mono s1.size))⟩,fun e4=>⟨⟨by omega,by omega⟩,k+1,rfl,⟨b05,by omega,go (by simp [badP,e4])⟩,by omega⟩⟩
  ·have hlt':¬ (k:Int)<l.length:=by omega
   simp (disch:=first|omega|exact zF rfl|exact zG rfl|exact fun h=>h|(simp only[zA,zB,zC,zD,bytesW];omega)) only[go_sem,hlt']
   rw [if_neg (by
    rw [List.any_eq_false.2 fun x hx=>by
     obtain ⟨j,hj,rfl⟩:=List.mem_iff_getElem.1 hx
     rw [he j hj (by omega)]
     exact Bool.false_ne_true]
    exact Bool.false_ne_true)]
   exact ⟨rfl,hbb _ ((s1.bel.trans (b3.mono s1.size)))⟩
open Go Go.Ann Go.RowKit
def fAt(l:List OpT)(k:Nat):Int:=match l[k]? with
 | none=>0
 | some o=>if chkP o=0 then (if k=0 then 0 else match l[k - 1]? with
  | none=>0
  | some p=>if o.ID≤p.ID then 7 else 0) else chkP o
def fsAll(l:List OpT):List Int:=(List.range l.length).map (fAt l)
def histP(l:List OpT):Int:=if 64<l.length then 34 else nz (fsAll l++l.map (bes l))
theorem fs_drop{l:List OpT}{k:Nat}(h:k<l.length):(fsAll l).drop k=fAt l k::(fsAll l).drop (k+1):=by
 have hl:k<(fsAll l).length:=by unfold fsAll; simpa using h
 rw [List.drop_eq_getElem_cons hl]
 congr 1
 simp [fsAll]
theorem fAt_chk{l:List OpT}{k:Nat}(h:k<l.length)(he:¬ chkP l[k]=0):fAt l k=chkP l[k]:=by
 unfold fAt
 rw [List.getElem?_eq_getElem h]
 simp only
 rw [if_neg he]
theorem fAt_zero{l:List OpT}(h:0<l.length)(he:chkP l[0]=0):fAt l 0=0:=by
 unfold fAt
 rw [List.getElem?_eq_getElem h]
 simp only
 rw [if_pos he]
 simp
theorem fAt_id{l:List OpT}{k:Nat}(h:k<l.length)(hk:0<k)(he:chkP l[k]=0):fAt l k=if l[k].ID≤(l[k - 1]'(by omega)).ID then 7 else 0:=by
 unfold fAt
 rw [List.getElem?_eq_getElem h,List.getElem?_eq_getElem (show k - 1<l.length by omega)]
 simp only
 rw [if_pos he,if_neg (by omega)]
theorem nz_cons(x:Int)(r:List Int):nz (x::r)=if x=0 then nz r else x:=rfl
theorem rcheck_ok(va:Value)(l:List OpT)(w:World)(ha:RdS w 11 OpT.enc va l)(hl:(l.length:Int)≤9223372036854775807) :
  Ret Tryz.prog 44 [va] w fun v w'=>v=.int .i64 (histP l)∧Below w.heap.size w w':=by
 obtain ⟨pa,ca,rfl,_⟩:=ha.form
 refine ent44 _ _ _ ?_
 unfold histP
 by_cases h64:64<l.length
 ·have h64':64<(l.length:Int):=by omega
  rw [if_pos h64]
  simp (disch:=first|omega|exact zF rfl|exact zG rfl|exact fun h=>h|(simp only[zA,zB,zC,zD,bytesW];omega)) only[go_sem,h64']
  exact Below.refl _ _
 have h64':¬ 64<(l.length:Int):=by omega
 rw [if_neg h64]
 simp (disch:=first|omega|exact zF rfl|exact zG rfl|exact fun h=>h|(simp only[zA,zB,zC,zD,bytesW];omega)) only[go_sem,h64']
 generalize hN:nz (fsAll l++l.map (bes l))=N
 refine W_loopU (fun k:Nat=>[(3,.int .i64 k)]) (fun k w'=>Below w.heap.size w w'∧k≤l.length∧nz ((fsAll l).drop k++l.map (bes l))=N) (fun k=>l.length - k) 0 rfl ⟨Below.refl _ _,Nat.zero_le _,by rw [List.drop_zero]; exact hN⟩ ?_
 rintro k w2 ⟨b2,hk,he⟩
 have h2:=ha.below b2 (by decide)
 by_cases hlt:k<l.length
 ·have hlt':(k:Int)<l.length:=by omega
  obtain ⟨p,rfl⟩:=ha.ptr (by omega)
  have ek:=h2.at OpT.len hlt
  rw [fs_drop hlt,List.cons_append,nz_cons] at he
  simp (disch:=first|omega|exact zF rfl|exact zG rfl|exact fun h=>h|(simp only[zA,zB,zC,zD,bytesW];omega)) only[go_sem,hlt',ek]
  refine ⟨by omega,Ret.mono (checkOp_x _ _) ?_⟩
  rintro _ w3 ⟨rfl,b3⟩
  rw [← chk_eq]
  have b03:=b2.trans (b3.mono b2.size)
  by_cases e0:chkP l[k]=0
  ·simp (disch:=first|omega|exact zF rfl|exact zG rfl|exact fun h=>h|(simp only[zA,zB,zC,zD,bytesW];omega)) only[go_sem,e0]
   have h3:=ha.below b03 (by decide)
   have ek3:=h3.eltB (Below.refl _ _) OpT.len (by decide) hlt
   have ak:=l[k].at
   rcases Nat.eq_zero_or_pos k with rfl | hk0
   ·rw [fAt_zero hlt e0,if_pos rfl] at he
    refine c44draw0 ?_
    simp (disch:=first|omega|exact zF rfl|exact zG rfl|exact fun h=>h|(simp only[zA,zB,zC,zD,bytesW];omega)) only[go_sem,c44D0,hlt',ek3,ak]
    exact ⟨⟨by omega,by omega⟩,1,rfl,⟨b03.drew,by omega,he⟩,by omega⟩
   ·have ej3:=h3.eltB (Below.refl _ _) OpT.len (by decide) (show k - 1<l.length by omega)
    have aj:=l[k - 1].at
    have hk1:(k:Int) - 1=(k - 1:Nat):=by omega
    have hk2:0<(k:Int):=by omega
    rw [fAt_id hlt hk0 e0] at he
    refine c44draw0 ?_
    by_cases e1:l[k].ID≤l[k - 1].ID
    ·rw [if_pos e1,if_neg (by decide)] at he
     simp (disch:=first|omega|exact zF rfl|exact zG rfl|exact fun h=>h|(simp only[zA,zB,zC,zD,bytesW];omega)) only[go_sem,c44D0,hlt',ek3,ak,hk1,hk2,ej3,aj,e1]
     exact ⟨by omega,⟨by omega,by omega⟩,⟨by omega,by omega⟩,he,b03.drew⟩
    ·rw [if_neg e1,if_pos rfl] at he
     simp (disch:=first|omega|exact zF rfl|exact zG rfl|exact fun h=>h|(simp only[zA,zB,zC,zD,bytesW];omega)) only[go_sem,c44D0,hlt',ek3,ak,hk1,hk2,ej3,aj,e1]
     exact ⟨by omega,⟨by omega,by omega⟩,⟨by omega,by omega⟩,⟨by omega,by omega⟩,k+1,rfl,⟨b03.drew,by omega,he⟩,by omega⟩
  ·rw [fAt_chk hlt e0,if_neg e0] at he
   simp (disch:=first|omega|exact zF rfl|exact zG rfl|exact fun h=>h|(simp only[zA,zB,zC,zD,bytesW];omega)) only[go_sem,e0]
   exact ⟨he,b03⟩
 ·have hlt':¬ (k:Int)<l.length:=by omega
  obtain rfl:k=l.length:=by omega
  rw [List.drop_of_length_le (by unfold fsAll; simp),List.nil_append] at he
  simp (disch:=first|omega|exact zF rfl|exact zG rfl|exact fun h=>h|(simp only[zA,zB,zC,zD,bytesW];omega)) only[go_sem,hlt']
  refine W_loopU (fun k:Nat=>[(5,.int .i64 k)]) (fun k w'=>Below w.heap.size w w'∧k≤l.length∧nz ((l.drop k).map (bes l))=N) (fun k=>l.length - k) 0 rfl ⟨b2,Nat.zero_le _,by rw [List.drop_zero]; exact he⟩ ?_
  clear h2 b2 he
  rintro k w3 ⟨b3,hk,he⟩
  have h3:=ha.below b3 (by decide)
  by_cases hlt:k<l.length
  ·have hlt':(k:Int)<l.length:=by omega
   obtain ⟨p,rfl⟩:=ha.ptr (by omega)
   have ek:=h3.at OpT.len hlt
   rw [List.drop_eq_getElem_cons hlt,List.map_cons,nz_cons] at he
   simp (disch:=first|omega|exact zF rfl|exact zG rfl|exact fun h=>h|(simp only[zA,zB,zC,zD,bytesW];omega)) only[go_sem,hlt',ek]
   refine ⟨by omega,Ret.mono (rbeside_ok _ _ _ _ h3 (by omega)) ?_⟩
   rintro _ w4 ⟨rfl,b4⟩
   have b04:=b3.trans (b4.mono b3.size)
   by_cases e0:bes l l[k]=0
   ·rw [if_pos e0] at he
    simp (disch:=first|omega|exact zF rfl|exact zG rfl|exact fun h=>h|(simp only[zA,zB,zC,zD,bytesW];omega)) only[go_sem,e0]
    exact ⟨⟨by omega,by omega⟩,k+1,rfl,⟨b04,by omega,he⟩,by omega⟩
   ·rw [if_neg e0] at he
    simp (disch:=first|omega|exact zF rfl|exact zG rfl|exact fun h=>h|(simp only[zA,zB,zC,zD,bytesW];omega)) only[go_sem,e0]
    exact ⟨he,b04⟩
  ·have hlt':¬ (k:Int)<l.length:=by omega
   obtain rfl:k=l.length:=by omega
   rw [List.drop_length] at he
   simp (disch:=first|omega|exact zF rfl|exact zG rfl|exact fun h=>h|(simp only[zA,zB,zC,zD,bytesW];omega)) only[go_sem,hlt']
   exact ⟨he,b3⟩
open Go Go.Ann Go.RowKit
def firstP(k:Int):List Int:=if k=1∨k=2 then [0] else []
theorem mfirst_ok(k:Int)(w:World):Ret Tryz.prog 40 [.int .i64 k] w fun u w'=>(RdS w' 1 intE u (firstP k)∧∀ j,slFoot u j→w.heap.size≤j)∧Below w.heap.size w w':=by
 refine ent40 _ _ _ ?_
 by_cases h:k=1∨k=2
 ·have e:firstP k=[0]:=if_pos h
  rw [e]
  have fin:∀ {K:Value→World→Prop},K (.slice (some ⟨w.heap.size,0,none⟩) 1 1) (w.alloc (.cells #[.int .i64 0] 3))→bsW Tryz.prog 25 1 [0] [.int .i64 0] w K:=fun hK=>bsW_ones ty25mkI rfl rfl (by decide) (by decide) (fun u hu=>by rw [List.mem_singleton] at hu; subst hu; rfl) hK
  have res:(RdS (w.alloc (.cells #[.int .i64 0] 3)) 1 intE (.slice (some ⟨w.heap.size,0,none⟩) 1 1) [0]∧∀ j,slFoot (.slice (some ⟨w.heap.size,0,none⟩) 1 1) j→w.heap.size≤j)∧Below w.heap.size w (w.alloc (.cells #[.int .i64 0] 3)):=by
   refine ⟨⟨rd_new (sz:=1) (n:=1) rfl,fun j hj=>?_⟩,(Below.refl _ _).alloc (Nat.le_refl _) _⟩
   have:=slFoot_own hj
   simp only [Value.ownBlock,Option.some.injEq] at this
   omega
  rcases h with rfl | rfl
  ·simp (disch:=first|omega|exact zF rfl|exact zG rfl|exact fun h=>h|(simp only[zA,zB,zC,zD,bytesW];omega)) only[go_sem]
   refine fin ?_
   simp (disch:=first|omega|exact zF rfl|exact zG rfl|exact fun h=>h|(simp only[zA,zB,zC,zD,bytesW];omega)) only[go_sem]
   exact res
  ·simp (disch:=first|omega|exact zF rfl|exact zG rfl|exact fun h=>h|(simp only[zA,zB,zC,zD,bytesW];omega)) only[go_sem]
   refine fin ?_
   simp (disch:=first|omega|exact zF rfl|exact zG rfl|exact fun h=>h|(simp only[zA,zB,zC,zD,bytesW];omega)) only[go_sem]
   exact res
 ·have e:firstP k=[]:=if_neg h
  rw [e]
  have h1:¬ k=1:=fun e=>h (.inl e)
  have h2:¬ k=2:=fun e=>h (.inr e)
  simp (disch:=first|omega|exact zF rfl|exact zG rfl|exact fun h=>h|(simp only[zA,zB,zC,zD,bytesW];omega)) only[go_sem,h1,h2]
  refine ⟨⟨⟨by simp,none,0,rfl,Nat.le_refl _,fun h=>absurd rfl h⟩,fun j hj=>?_⟩,Below.refl _ _⟩
  have:=slFoot_own hj
  simp [Value.ownBlock] at this
theorem rfirst_ok(k:Int)(w:World):Ret Tryz.prog 22 [.int .i64 k] w fun u w'=>(RdS w' 1 intE u (firstP k)∧∀ j,slFoot u j→w.heap.size≤j)∧Below w.heap.size w w':=by
 refine ent22 _ _ _ ?_
 by_cases h:k=1∨k=2
 ·have e:firstP k=[0]:=if_pos h
  rw [e]
  have fin:∀ {K:Value→World→Prop},K (.slice (some ⟨w.heap.size,0,none⟩) 1 1) (w.alloc (.cells #[.int .i64 0] 3))→bsW Tryz.prog 25 1 [0] [.int .i64 0] w K:=fun hK=>bsW_ones ty25mkI rfl rfl (by decide) (by decide) (intE_one 0) hK
  have res:(RdS (w.alloc (.cells #[.int .i64 0] 3)) 1 intE (.slice (some ⟨w.heap.size,0,none⟩) 1 1) [0]∧∀ j,slFoot (.slice (some ⟨w.heap.size,0,none⟩) 1 1) j→w.heap.size≤j)∧Below w.heap.size w (w.alloc (.cells #[.int .i64 0] 3)):=by
   refine ⟨⟨rd_new (sz:=1) (n:=1) rfl,fun j hj=>?_⟩,(Below.refl _ _).alloc (Nat.le_refl _) _⟩
   have:=slFoot_own hj
   simp only [Value.ownBlock,Option.some.injEq] at this
   omega
  rcases h with rfl | rfl
  ·simp (disch:=first|omega|exact zF rfl|exact zG rfl|exact fun h=>h|(simp only[zA,zB,zC,zD,bytesW];omega)) only[go_sem]
   refine fin ?_
   simp (disch:=first|omega|exact zF rfl|exact zG rfl|exact fun h=>h|(simp only[zA,zB,zC,zD,bytesW];omega)) only[go_sem]
   exact res
  ·simp (disch:=first|omega|exact zF rfl|exact zG rfl|exact fun h=>h|(simp only[zA,zB,zC,zD,bytesW];omega)) only[go_sem]
   refine fin ?_
   simp (disch:=first|omega|exact zF rfl|exact zG rfl|exact fun h=>h|(simp only[zA,zB,zC,zD,bytesW];omega)) only[go_sem]
   exact res
 ·have e:firstP k=[]:=if_neg h
  rw [e]
  have h1:¬ k=1:=fun e=>h (.inl e)
  have h2:¬ k=2:=fun e=>h (.inr e)
  simp (disch:=first|omega|exact zF rfl|exact zG rfl|exact fun h=>h|(simp only[zA,zB,zC,zD,bytesW];omega)) only[go_sem,h1,h2]
  refine ⟨⟨⟨by simp,none,0,rfl,Nat.le_refl _,fun h=>absurd rfl h⟩,fun j hj=>?_⟩,Below.refl _ _⟩
  have:=slFoot_own hj
  simp [Value.ownBlock] at this
theorem pure_nodup{l:List OpT}(h:(l.map OpT.ID).Nodup):Cut.Pure l:=by
 induction l with
 | nil=>exact fun a ha=>by cases ha
 | cons x r ih =>
  rw [List.map_cons,List.nodup_cons] at h
  intro a ha b hb e
  rcases List.mem_cons.1 ha with e1 | ha1
  ·rcases List.mem_cons.1 hb with e2 | hb1
   ·rw [e1,e2]
   ·exact absurd (by rw [← e1,e]; exact List.mem_map_of_mem hb1) h.1
  ·rcases List.mem_cons.1 hb with e2 | hb1
   ·exact absurd (by rw [← e2,← e]; exact List.mem_map_of_mem ha1) h.1
   ·exact ih h.2 a ha1 b hb1 e
theorem nz_zero{l:List Int}(h:nz l=0):∀ x∈l,x=0:=by
 induction l with
 | nil=>intro x hx; cases hx
 | cons y r ih =>
  rw [nz_cons] at h
  by_cases e:y=0
  ·rw [if_pos e] at h
   intro x hx
   rcases List.mem_cons.1 hx with rfl | hx
   ·exact e
   ·exact ih h x hx
  ·rw [if_neg e] at h
   exact absurd h e
theorem hist_good{l:List OpT}(h:histP l=0):l.length≤64∧l.Pairwise (fun a b=>a.ID<b.ID)∧∀ a∈l,∀ b∈l,a.Object=b.Object→a.Kind=b.Kind:=by
 unfold histP at h
 by_cases h64:64<l.length
 ·rw [if_pos h64] at h; cases h
 rw [if_neg h64] at h
 have hz:=nz_zero h
 refine ⟨by omega,Cut.rising_pairwise fun j hj=>?_,fun a ha b hb e=>?_⟩
 ·have h1:=hz (fAt l (j+1)) (List.mem_append_left _ (by unfold fsAll; exact List.mem_map_of_mem (List.mem_range.2 hj)))
  by_cases e0:chkP l[j+1]=0
  ·rw [fAt_id hj (by omega) e0] at h1
   have e2:l[j+1 - 1]'(by omega)=l[j]:=by congr 1
   rw [e2] at h1
   by_cases e1:l[j+1].ID≤l[j].ID
   ·rw [if_pos e1] at h1; cases h1
   ·omega
  ·rw [fAt_chk hj e0] at h1
   exact absurd h1 e0
 ·have h1:=hz (bes l b) (List.mem_append_right _ (List.mem_map_of_mem hb))
  unfold bes at h1
  by_cases hk:a.Kind=b.Kind
  ·exact hk
  ·by_cases hi:a.ID=b.ID
   ·have hp:l.Pairwise fun a b=>a.ID<b.ID:=Cut.rising_pairwise fun j hj=>by
     have h1:=hz (fAt l (j+1)) (List.mem_append_left _ (by unfold fsAll; exact List.mem_map_of_mem (List.mem_range.2 hj)))
     by_cases e0:chkP l[j+1]=0
     ·rw [fAt_id hj (by omega) e0] at h1
      have e2:l[j+1 - 1]'(by omega)=l[j]:=by congr 1
      rw [e2] at h1
      by_cases e1:l[j+1].ID≤l[j].ID
      ·rw [if_pos e1] at h1; cases h1
      ·omega
     ·rw [fAt_chk hj e0] at h1
      exact absurd h1 e0
    rw [Cut.pair_id hp a ha b hb hi]
   ·rw [if_pos (List.any_eq_true.2 ⟨a,ha,by simp [badK,hi,e,hk]⟩)] at h1
    cases h1
theorem nodup_sub_len:∀ {a b:List Int},a.Nodup→(∀ x∈a,x∈b)→a.length≤b.length
 | [],_,_,_=>Nat.zero_le _
 | x::r,b,h,hs=>by
  rw [List.nodup_cons] at h
  have hx:=hs x List.mem_cons_self
  have:=nodup_sub_len (a:=r) (b:=b.erase x) h.2 fun y hy=>(List.mem_erase_of_ne (fun e=>h.1 (by rw [← e]; exact hy))).2 (hs y (List.mem_cons_of_mem _ hy))
  rw [List.length_erase_of_mem hx] at this
  have:=List.length_pos_of_mem hx
  rw [List.length_cons]
  omega
theorem byObj_len{l:List OpT}{segs:List Seg}(h:Cut.ByObj l segs):segs.length≤l.length:=by
 have:=nodup_sub_len (a:=segs.map Seg.obj) (b:=l.map OpT.Object) (by
  unfold List.Nodup
  rw [List.pairwise_map]
  exact h.up.imp fun h=>Int.ne_of_lt h) (fun x hx=>by
  obtain ⟨s,hs,rfl⟩:=List.mem_map.1 hx
  obtain ⟨o,r,e,_⟩:=h.kind s hs
  have ho:o∈s.ops:=by rw [e]; exact List.mem_cons_self
  have:=(h.sorts s hs).1.mem_iff.1 ho
  unfold Cut.ofObj at this
  obtain ⟨a,b⟩:=List.mem_filter.1 this
  exact List.mem_map.2 ⟨o,a,by simpa using b⟩)
 simpa using this
theorem st_recast{W0 w:World}{F:Nat→Prop}{L L':List Res}{I:List Inv}(h:St W0 w F L I)(e:L=L'):St W0 w F L' I:=e ▸ h
theorem St.front{W0 w:World}{F:Nat→Prop}{A D L:List Res}{I:List Inv}(h:St W0 w F (A++(D++L)) I):St W0 w F (D++(A++L)) I :=
 h.perm (by rw [← List.append_assoc,← List.append_assoc]; exact List.perm_append_comm.append_right L)
open Go Go.Ann Go.RowKit
theorem idx_mem{l:List Int}{x:Int}(h:x∈l):∃ h1:l.idxOf x<l.length,l[l.idxOf x]=x:=⟨List.idxOf_lt_length_iff.2 h,List.getElem_idxOf (List.idxOf_lt_length_iff.2 h)⟩
theorem idx_inj{l:List Int}{x y:Int}(hx:x∈l)(hy:y∈l)(h:l.idxOf x=l.idxOf y):x=y:=by
 obtain ⟨h1,e1⟩:=idx_mem hx
 obtain ⟨h2,e2⟩:=idx_mem hy
 rw [← e1,← e2]
 congr 1
theorem idx_getD{β:Type}{g:Seg→β}{z:β}:∀ {acc:List Seg},(acc.Pairwise fun a b=>a.obj<b.obj)→∀ s∈acc,(acc.map g).getD ((acc.map Seg.obj).idxOf s.obj) z=g s
 | [],_,s,h=>by cases h
 | a::acc,hp,s,h=>by
  obtain ⟨h1,h2⟩:=List.pairwise_cons.1 hp
  rw [List.map_cons,List.map_cons,List.idxOf_cons]
  rcases List.mem_cons.1 h with rfl | h
  ·simp
  ·have:=h1 s h
   have e:(a.obj == s.obj)=false:=by rw [beq_eq_false_iff_ne]; omega
   rw [e]
   simp only [cond_false,List.getD_cons_succ]
   exact idx_getD h2 s h
theorem hist_more{l:List OpT}(h:histP l=0):(∀ o∈l,chkP o=0)∧∀ a∈l,∀ b∈l,a.ID≠b.ID→a.Proc=b.Proc→before a b=true∨before b a=true:=by
 obtain ⟨_,hup,_⟩:=hist_good h
 unfold histP at h
 by_cases h64:64<l.length
 ·rw [if_pos h64] at h; cases h
 rw [if_neg h64] at h
 have hz:=nz_zero h
 refine ⟨fun o ho=>?_,fun a ha b hb hi hp=>?_⟩
 ·obtain ⟨k,hk,rfl⟩:=List.mem_iff_getElem.1 ho
  have h1:=hz (fAt l k) (List.mem_append_left _ (by unfold fsAll; exact List.mem_map_of_mem (List.mem_range.2 hk)))
  by_cases e0:chkP l[k]=0
  ·exact e0
  ·rw [fAt_chk hk e0] at h1
   exact absurd h1 e0
 ·have h1:=hz (bes l b) (List.mem_append_right _ (List.mem_map_of_mem hb))
  unfold bes at h1
  split at h1
  ·cases h1
  ·split at h1
   ·cases h1
   ·rename_i h2
    cases e1:before a b
    ·cases e2:before b a
     ·exfalso
      exact h2 (List.any_eq_true.2 ⟨a,ha,by simp [badP,hi,hp,e1,e2]⟩)
     ·exact .inr rfl
    ·exact .inl rfl
theorem chk_times{o:OpT}(h:chkP o=0):0≤o.Invoke∧(o.Done=true→o.Invoke<o.Return):=by
 unfold chkP at h
 split at h
 ·cases h
 ·split at h
  ·cases h
  ·split at h
   ·cases h
   ·rename_i h1
    refine ⟨?_,fun hd=>?_⟩
    ·rcases Int.lt_or_le o.Invoke 0 with h2 | h2
     ·exact absurd (.inl h2) h1
     ·exact h2
    ·rcases Int.lt_or_le o.Invoke o.Return with h2 | h2
     ·exact h2
     ·exact absurd (.inr (.inr (.inl ⟨hd,.inl h2⟩))) h1
theorem nodup_ids{l:List OpT}(h:l.Pairwise fun a b=>a.ID<b.ID):(l.map OpT.ID).Nodup:=by
 unfold List.Nodup
 rw [List.pairwise_map]
 exact h.imp fun h=>Int.ne_of_lt h
def startW(accP accO:List Seg):Sp:=⟨List.replicate accP.length 0,accO.map fun s=>firstP s.kind⟩
def progsW(accP:List Seg):List (List OpT):=accP.map Seg.ops
def objsW(accO:List Seg):List Int:=accO.map Seg.obj
theorem byProc_mem{l:List OpT}{acc:List Seg}(h:Cut.ByProc l acc){s:Seg}(hs:s∈acc)(o:OpT):o∈s.ops↔o∈l∧o.Proc=s.obj:=by
 rw [(h.sorts s hs).1.mem_iff]
 unfold Cut.ofProc
 rw [List.mem_filter,decide_eq_true_eq]
theorem byObj_mem{l:List OpT}{acc:List Seg}(h:Cut.ByObj l acc){s:Seg}(hs:s∈acc)(o:OpT):o∈s.ops↔o∈l∧o.Object=s.obj:=by
 rw [(h.sorts s hs).1.mem_iff]
 unfold Cut.ofObj
 rw [List.mem_filter,decide_eq_true_eq]
theorem follows_plain{l:List OpT}{accO accP:List Seg}(hg:histP l=0)(ho:Cut.ByObj l accO)(hp:Cut.ByProc l accP)
  (hex:∀ s∈accO,∃ d t,Rch s.ops (List.replicate s.ops.length false,firstP s.kind) (d,t)∧fullP s.ops d=true):∃ y,PathR (progsW accP) (objsW accO) (startW accP accO) y:=by
 obtain ⟨hchk,hbes⟩:=hist_more hg
 obtain ⟨_,hup,hkd⟩:=hist_good hg
 have hnl:l.Nodup:=hup.imp fun {a b} h e=>by rw [e] at h; omega
 have hid:∀ a∈l,∀ b∈l,a≠b→a.ID≠b.ID:=fun a ha b hb h e=>h (Cut.pair_id hup a ha b hb e)
 have hch:∀ s:Seg,∃ A:List OpT,s∈accO→A.Nodup∧(∀ o∈A,o∈s.ops)∧(∀ o∈s.ops,o.Done=true→o∈A)∧(A.Pairwise fun a b=>before b a=false)∧(runP (firstP s.kind) A).isSome=true:=fun s=>by
  by_cases hs:s∈accO
  ·obtain ⟨d,t,h1,h2⟩:=hex s hs
   have hns:s.ops.Nodup:=((ho.sorts s hs).1.nodup_iff).2 (hnl.filter _)
   obtain ⟨A,a1,a2,a3,a4,a5⟩:=order_of hns h1 h2
   exact ⟨A,fun _=>⟨a1,a2,a3,a4,by rw [a5]; rfl⟩⟩
  ·exact ⟨[],fun h=>absurd h hs⟩
 obtain ⟨f,hf⟩:=Classical.axiomOfChoice hch
 have hin:∀ s∈accO,∀ o∈f s,o∈l∧o.Object=s.obj:=fun s hs o hof=>(byObj_mem ho hs o).1 ((hf s hs).2.1 o hof)
 have hmem:∀ o,o∈(accO.map f).flatten↔∃ s∈accO,o∈f s:=fun o=>by
  rw [List.mem_flatten]
  constructor
  ·rintro ⟨A,hA,h⟩
   obtain ⟨s,hs,rfl⟩:=List.mem_map.1 hA
   exact ⟨s,hs,h⟩
  ·rintro ⟨s,hs,h⟩
   exact ⟨f s,List.mem_map_of_mem hs,h⟩
 have hpw:(accO.map f).Pairwise fun A B=>∀ a∈A,∀ b∈B,a.Object≠b.Object:=by
  rw [List.pairwise_map]
  refine ho.up.imp_of_mem fun {s t} hs ht h a ha b hb e=>?_
  rw [(hin s hs a ha).2,(hin t ht b hb).2] at e
  omega
 have hobj:∀ o∈l,o.Object∈objsW accO:=fun o hol=>by
  obtain ⟨s,hs,e⟩:=ho.all o hol
  exact List.mem_map.2 ⟨s,hs,e⟩
 have hprc:∀ o∈l,o.Proc∈accP.map Seg.obj:=fun o hol=>by
  obtain ⟨s,hs,e⟩:=hp.all o hol
  exact List.mem_map.2 ⟨s,hs,e⟩
 have hgetP:∀ k,(hk:k<accP.length)→(progsW accP).getD k []=accP[k].ops:=fun k hk=>by
  unfold progsW
  rw [List.getD_eq_getElem?_getD,List.getElem?_map,List.getElem?_eq_getElem hk]
  rfl
 have hlen:(progsW accP).length=accP.length:=List.length_map ..
 have hst:startW accP accO=⟨List.replicate (progsW accP).length 0,accO.map fun s=>firstP s.kind⟩:=by unfold startW; rw [hlen]
 rw [hst]
 refine ⟨_,merge_path (pk:=fun o=>(accP.map Seg.obj).idxOf o.Proc) (As:=accO.map f) (L:=l) (by unfold objsW; simp) (fun A hA=>?_) hpw (fun B hB a ha b hb=>?_) (fun A hA o hoA=>?_) ?_ (fun o hof=>?_) (fun o hol hd=>?_) (fun o hol=>chk_times (hchk o hol)) (fun a ha b hb hne e=>?_) (fun o hol=>⟨?_,?_⟩) (fun a ha b hb e=>idx_inj (hobj a ha) (hobj b hb) e) fun k hk=>?_⟩
 ·obtain ⟨s,hs,rfl⟩:=List.mem_map.1 hA
  exact (hf s hs).2.2.2.1
 ·obtain ⟨s,hs,rfl⟩:=List.mem_map.1 hB
  rw [(hin s hs a ha).2,(hin s hs b hb).2]
 ·obtain ⟨s,hs,rfl⟩:=List.mem_map.1 hA
  have e:=(hin s hs o hoA).2
  unfold objsW
  rw [e,idx_getD (g:=fun s=>firstP s.kind) ho.up s hs]
  exact (hf s hs).2.2.2.2
 ·unfold List.Nodup
  refine List.pairwise_flatten.2 ⟨fun A hA=>?_,hpw.imp fun {A B} h a ha b hb e=>h a ha b hb (by rw [e])⟩
  obtain ⟨s,hs,rfl⟩:=List.mem_map.1 hA
  exact (hf s hs).1
 ·obtain ⟨s,hs,h⟩:=(hmem o).1 hof
  exact (hin s hs o h).1
 ·obtain ⟨s,hs,e⟩:=ho.all o hol
  exact (hmem o).2 ⟨s,hs,(hf s hs).2.2.1 o ((byObj_mem ho hs o).2 ⟨hol,e.symm⟩) hd⟩
 ·exact hbes a ha b hb (hid a ha b hb hne) (idx_inj (hprc a ha) (hprc b hb) e)
 ·rw [hlen,← List.length_map (f:=Seg.obj)]
  exact List.idxOf_lt_length_iff.2 (hprc o hol)
 ·exact List.idxOf_lt_length_iff.2 (hobj o hol)
 ·rw [hlen] at hk
  rw [hgetP k hk]
  have hs:accP[k]∈accP:=List.getElem_mem hk
  have hmo:=byProc_mem hp hs
  refine ⟨?_,fun o=>?_⟩
  ·have hnd:accP[k].ops.Nodup:=((hp.sorts _ hs).1.nodup_iff).2 (hnl.filter _)
   have hso:=(hp.sorts _ hs).2
   unfold List.Nodup at hnd
   refine (hnd.and hso).imp_of_mem fun {a b} ha hb h=>?_
   obtain ⟨h1,h2⟩:=h
   obtain ⟨a1,a2⟩:=(hmo a).1 ha
   obtain ⟨b1,b2⟩:=(hmo b).1 hb
   have h3:=(Cut.leq_ear a b).2 h2
   unfold Cut.leq at h3
   rw [decide_eq_true_eq] at h3
   have ta:=chk_times (hchk a a1)
   have tb:=chk_times (hchk b b1)
   rcases hbes a a1 b b1 (hid a a1 b b1 h1) (a2.trans b2.symm) with h4 | h4
   ·unfold before at h4
    rw [Bool.and_eq_true,decide_eq_true_eq] at h4
    have:=ta.2 h4.1
    omega
   ·unfold before at h4
    rw [Bool.and_eq_true,decide_eq_true_eq] at h4
    have:=tb.2 h4.1
    omega
  ·rw [hmo o]
   constructor
   ·rintro ⟨h1,h2⟩
    refine ⟨h1,?_⟩
    have:=idx_getD (g:=fun s=>s) (z:=accP[k]) hp.up accP[k] hs
    have h3:=List.idxOf_lt_length_iff.2 (hprc o h1)
    have h4:(accP.map Seg.obj)[(accP.map Seg.obj).idxOf o.Proc]=(accP.map Seg.obj)[k]'(by simpa using hk):=by
     rw [List.getElem_idxOf h3,List.getElem_map,h2]
    have hnd:(accP.map Seg.obj).Nodup:=by
     unfold List.Nodup
     rw [List.pairwise_map]
     exact hp.up.imp fun h=>Int.ne_of_lt h
    exact (List.getElem_inj hnd).1 h4
   ·rintro ⟨h1,h2⟩
    refine ⟨h1,?_⟩
    obtain ⟨h3,e3⟩:=idx_mem (hprc o h1)
    rw [← e3]
    simp only [h2,List.getElem_map]
open Go Go.Ann Go.RowKit
theorem mem_opAt{P:List (List OpT)}{d:List Nat}{k:Nat}{o:OpT}(h:opAt P d k=some o):k<P.length∧o∈P.getD k []:=by
 have hk:=opAt_lt h
 refine ⟨hk,?_⟩
 unfold opAt at h
 rw [List.getElem?_eq_getElem hk] at h
 rw [List.getD_eq_getElem?_getD,List.getElem?_eq_getElem hk]
 simp only [Option.bind_some] at h
 cases e:d[k]? with
 | none=>rw [e] at h; cases h
 | some n =>
  rw [e] at h
  exact List.mem_of_getElem? h
theorem progs_getD{accP:List Seg}{k:Nat}(hk:k<accP.length):(progsW accP).getD k []=accP[k].ops:=by
 unfold progsW
 rw [List.getD_eq_getElem?_getD,List.getElem?_map,List.getElem?_eq_getElem hk]
 rfl
theorem progs_one{l:List OpT}{accP:List Seg}(hp:Cut.ByProc l accP)(hl:Cut.Pure l):∀ d k k' o o',opAt (progsW accP) d k=some o→opAt (progsW accP) d k'=some o'→o.ID=o'.ID→k=k':=by
 intro d k k' o o' h h' e
 obtain ⟨h1,h2⟩:=mem_opAt h
 obtain ⟨h3,h4⟩:=mem_opAt h'
 have hlen:(progsW accP).length=accP.length:=List.length_map ..
 rw [hlen] at h1 h3
 rw [progs_getD h1] at h2
 rw [progs_getD h3] at h4
 obtain ⟨a1,a2⟩:=(byProc_mem hp (List.getElem_mem h1) o).1 h2
 obtain ⟨b1,b2⟩:=(byProc_mem hp (List.getElem_mem h3) o').1 h4
 rw [hl o a1 o' b1 e] at a2
 have hnd:(accP.map Seg.obj).Nodup:=by
  unfold List.Nodup
  rw [List.pairwise_map]
  exact hp.up.imp fun h=>Int.ne_of_lt h
 have h5:(accP.map Seg.obj)[k]'(by simpa using h1)=(accP.map Seg.obj)[k']'(by simpa using h3):=by
  rw [List.getElem_map,List.getElem_map,← a2,← b2]
 exact (List.getElem_inj hnd).1 h5
theorem rem_zero:∀ (P:List (List OpT)),remP P (List.replicate P.length 0)=(P.map List.length).sum
 | []=>rfl
 | p::P=>by rw [List.length_cons,List.replicate_succ,remP,rem_zero P,List.map_cons,List.sum_cons]; omega
theorem rem_start{l:List OpT}{accP accO:List Seg}(hp:Cut.ByProc l accP)(hl:(l.map OpT.ID).Nodup):remP (progsW accP) (startW accP accO).done≤l.length:=by
 have hlen:(progsW accP).length=accP.length:=List.length_map ..
 have e:(startW accP accO).done=List.replicate (progsW accP).length 0:=by rw [hlen]; rfl
 rw [e,rem_zero]
 have h1:((progsW accP).map List.length).sum=(progsW accP).flatten.length:=(List.length_flatten ..).symm
 rw [h1]
 have hpure:=pure_nodup hl
 have hnl:l.Nodup:=by
  unfold List.Nodup at hl ⊢
  rw [List.pairwise_map] at hl
  exact hl.imp fun h e=>h (by rw [e])
 have h2:((progsW accP).flatten.map OpT.ID).Nodup:=by
  have h3:(progsW accP).flatten.Pairwise fun a b=>a.ID≠b.ID:=by
   refine List.pairwise_flatten.2 ⟨fun Q hQ=>?_,?_⟩
   ·obtain ⟨s,hs,rfl⟩:=List.mem_map.1 hQ
    have:s.ops.Nodup:=((hp.sorts s hs).1.nodup_iff).2 (hnl.filter _)
    unfold List.Nodup at this
    refine this.imp_of_mem fun {a b} ha hb h e=>h (hpure a ((byProc_mem hp hs a).1 ha).1 b ((byProc_mem hp hs b).1 hb).1 e)
   ·unfold progsW
    rw [List.pairwise_map]
    refine hp.up.imp_of_mem fun {s t} hs ht h a ha b hb e=>?_
    obtain ⟨a1,a2⟩:=(byProc_mem hp hs a).1 ha
    obtain ⟨b1,b2⟩:=(byProc_mem hp ht b).1 hb
    rw [hpure a a1 b b1 e] at a2
    omega
  unfold List.Nodup
  rw [List.pairwise_map]
  exact h3
 have:=nodup_sub_len h2 (b:=l.map OpT.ID) fun x hx=>by
  obtain ⟨o,ho,rfl⟩:=List.mem_map.1 hx
  obtain ⟨Q,hQ,hoQ⟩:=List.mem_flatten.1 ho
  obtain ⟨s,hs,rfl⟩:=List.mem_map.1 hQ
  exact List.mem_map_of_mem ((byProc_mem hp hs o).1 hoQ).1
 rw [List.length_map,List.length_map] at this
 exact this
structure SpOk(P:List (List OpT))(accO:List Seg)(M:Nat)(s:Sp):Prop where
 dl:s.done.length=P.length
 sl:s.st.length=accO.length
 le:∀ k,s.done.getD k 0≤(P.getD k []).length
 ok:∀ x,(h:x<accO.length)→Ok64 (s.st.getD x [])∧(s.st.getD x []).length+remP P s.done≤M∧(accO[x].kind=5→(s.st.getD x []).Pairwise (· < ·))
theorem firstP_ok(k:Int):Ok64 (firstP k)∧(firstP k).length≤1∧(k=5→(firstP k).Pairwise (· < ·)):=by
 unfold firstP
 split
 ·exact ⟨fun n hn=>by rw [List.mem_singleton] at hn; subst hn; exact ⟨by decide,by decide⟩,Nat.le_refl _,fun _=>by simp⟩
 ·exact ⟨fun n hn=>(by cases hn),Nat.zero_le _,fun _=>List.Pairwise.nil⟩
theorem start_ok{accP accO:List Seg}{M:Nat}(h:remP (progsW accP) (startW accP accO).done+1≤M):SpOk (progsW accP) accO M (startW accP accO):=by
 refine ⟨by simp [startW,progsW],by simp [startW],fun k=>?_,fun x hx=>?_⟩
 ·have:(startW accP accO).done.getD k 0=0:=by
   unfold startW
   simp only
   rw [List.getD_eq_getElem?_getD,List.getElem?_replicate]
   split <;> rfl
  omega
 ·have e:(startW accP accO).st.getD x []=firstP accO[x].kind:=by
   unfold startW
   simp only
   rw [List.getD_eq_getElem?_getD,List.getElem?_map,List.getElem?_eq_getElem hx]
   rfl
  rw [e]
  obtain ⟨h1,h2,h3⟩:=firstP_ok accO[x].kind
  exact ⟨h1,by omega,h3⟩
structure PrOk(P:List (List OpT))(accO:List Seg):Prop where
 wf:∀ k,∀ o∈P.getD k [],o.wf
 ob:∀ k,∀ o∈P.getD k [],∃ h:(objsW accO).idxOf o.Object<accO.length,accO[(objsW accO).idxOf o.Object].kind=o.Kind
theorem mv_ok{P:List (List OpT)}{accO:List Seg}{M:Nat}{s:Sp}{k:Nat}{m:Int × Sp}(hP:PrOk P accO)(h:SpOk P accO M s)(hm:mvP P (objsW accO) s k=some m):SpOk P accO M m.2:=by
 have hrem:=mvP_rem hm
 unfold mvP at hm
 cases ho:opAt P s.done k with
 | none=>rw [ho] at hm; cases hm
 | some o =>
  rw [ho] at hm
  simp only at hm
  cases ht:stepP (s.st.getD ((objsW accO).idxOf o.Object) []) o with
  | none=>rw [ht] at hm; cases hm
  | some t =>
   rw [ht] at hm
   cases hm
   obtain ⟨hk,hmem⟩:=mem_opAt ho
   obtain ⟨hx,hkind⟩:=hP.ob k o hmem
   obtain ⟨a1,a2,a3⟩:=h.ok _ hx
   obtain ⟨b1,b2,b3⟩:=stepP_ok (hP.wf k o hmem) a1 (fun e=>a3 (hkind.trans e)) ht
   simp only at hrem
   refine ⟨by simp only [List.length_set]; exact h.dl,by simp only [List.length_set]; exact h.sl,fun j=>?_,fun x hxl=>?_⟩
   ·simp only
    by_cases e:k=j
    ·subst e
     rw [getD_set_eq (by rw [h.dl]; exact hk)]
     unfold opAt at ho
     rw [List.getElem?_eq_getElem hk,List.getElem?_eq_getElem (show k<s.done.length by rw [h.dl]; exact hk)] at ho
     simp only [Option.bind_some] at ho
     have:=(List.getElem?_eq_some_iff.1 ho).choose
     have e2:s.done.getD k 0=s.done[k]'(by rw [h.dl]; exact hk):=by rw [List.getD_eq_getElem?_getD,List.getElem?_eq_getElem]; rfl
     have e3:P.getD k []=P[k]:=by rw [List.getD_eq_getElem?_getD,List.getElem?_eq_getElem hk]; rfl
     rw [e2,e3]
     omega
    ·rw [getD_set_ne e]
     exact h.le j
   ·simp only
    by_cases e:(objsW accO).idxOf o.Object=x
    ·subst e
     rw [getD_set_eq (by rw [h.sl]; exact hx)]
     exact ⟨b1,by omega,fun e=>b3 (hkind.symm.trans e)⟩
    ·rw [getD_set_ne e]
     obtain ⟨c1,c2,c3⟩:=h.ok x hxl
     exact ⟨c1,by omega,c3⟩
theorem SpOk.text{P:List (List OpT)}{accO:List Seg}{M:Nat}{s:Sp}(h:SpOk P accO M s)(hM:M≤1000)(hP:∀ k,(P.getD k []).length≤200):OkSp P.length accO.length s:=by
 refine ⟨h.dl,h.sl,fun n hn=>?_,fun x hx=>?_⟩
 ·obtain ⟨k,hk,rfl⟩:=List.mem_iff_getElem.1 hn
  have:=h.le k
  have e:s.done.getD k 0=s.done[k]:=by rw [List.getD_eq_getElem?_getD,List.getElem?_eq_getElem hk]; rfl
  have:=hP k
  omega
 ·obtain ⟨k,hk,rfl⟩:=List.mem_iff_getElem.1 hx
  have e:s.st.getD k []=s.st[k]:=by rw [List.getD_eq_getElem?_getD,List.getElem?_eq_getElem hk]; rfl
  obtain ⟨a,b,_⟩:=h.ok k (by rw [← h.sl]; exact hk)
  rw [e] at a b
  exact ⟨a,by omega⟩
theorem prok_of{l:List OpT}{accP accO:List Seg}(hp:Cut.ByProc l accP)(ho:Cut.ByObj l accO)(hw:∀ o∈l,o.wf)(hk:∀ a∈l,∀ b∈l,a.Object=b.Object→a.Kind=b.Kind):PrOk (progsW accP) accO:=by
 have hin:∀ k,∀ o∈(progsW accP).getD k [],o∈l:=fun k o h=>by
  by_cases hkl:k<accP.length
  ·rw [progs_getD hkl] at h
   exact ((byProc_mem hp (List.getElem_mem hkl) o).1 h).1
  ·rw [List.getD_eq_getElem?_getD,List.getElem?_eq_none (by unfold progsW; simpa using hkl)] at h
   cases h
 refine ⟨fun k o h=>hw o (hin k o h),fun k o h=>?_⟩
 obtain ⟨s,hs,e⟩:=ho.all o (hin k o h)
 have hmem:o.Object∈objsW accO:=List.mem_map.2 ⟨s,hs,e⟩
 obtain ⟨h1,h2⟩:=idx_mem hmem
 have hlt:(objsW accO).idxOf o.Object<accO.length:=by simpa [objsW] using h1
 refine ⟨hlt,?_⟩
 have h3:accO[(objsW accO).idxOf o.Object].obj=o.Object:=by
  have:(objsW accO)[(objsW accO).idxOf o.Object]=accO[(objsW accO).idxOf o.Object].obj:=List.getElem_map ..
  rw [← this,h2]
 obtain ⟨o1,r,e1,e2⟩:=ho.kind _ (List.getElem_mem hlt)
 have ho1:o1∈accO[(objsW accO).idxOf o.Object].ops:=by rw [e1]; exact List.mem_cons_self
 obtain ⟨b1,b2⟩:=(byObj_mem ho (List.getElem_mem hlt) o1).1 ho1
 rw [e2]
 exact hk o1 b1 o (hin k o h) (by rw [b2,h3])
open Go Go.Ann Go.RowKit
theorem sum_set:∀ {d:List Nat} {k:Nat},k<d.length→(d.set k (d.getD k 0+1)).sum=d.sum+1
 | [],_,h=>by simp at h
 | n::d,0,_=>by simp only [List.set_cons_zero,List.getD_cons_zero,List.sum_cons]; omega
 | n::d,k+1,h=>by
  have:=sum_set (d:=d) (k:=k) (by simpa using h)
  simp only [List.set_cons_succ,List.getD_cons_succ,List.sum_cons]
  omega
theorem mv_sum{P:List (List OpT)}{obs:List Int}{s:Sp}{m:Int × Sp}(hd:s.done.length=P.length)(h:m∈mvsP P obs s):m.2.done.sum=s.done.sum+1:=by
 obtain ⟨k,hk,hm⟩:=List.mem_filterMap.1 h
 unfold mvP at hm
 split at hm
 ·cases hm
 ·rename_i o ho
  split at hm
  ·cases hm
  ·cases hm
   exact sum_set (by rw [hd]; exact opAt_lt ho)
inductive SeqR(P:List (List OpT))(obs:List Int)(s:Sp)(most:Int):Int→Int→Option (List Int)→Prop
 | over {r:List Sp} (h:BfsR P obs most [s] 0 r) (hr:most<r.length):SeqR P obs s most 35 0 none
 | all {r:List Sp} (h:BfsR P obs most [s] 0 r) (hr:(r.length:Int)≤most):SeqR P obs s most 0 r.length (bestS P obs s)
theorem SeqR.one{P:List (List OpT)}{obs:List Int}{s:Sp}{most e e' n n':Int}{x x':Option (List Int)}(h:SeqR P obs s most e n x)(k:SeqR P obs s most e' n' x'):e=e'∧n=n'∧x=x':=by
 cases h with
 | over h hr =>
  cases k with
  | over=>exact ⟨rfl,rfl,rfl⟩
  | all h' hr'=>cases h.one h'; omega
 | all h hr =>
  cases k with
  | over h' hr'=>cases h.one h'; omega
  | all h'=>cases h.one h'; exact ⟨rfl,rfl,rfl⟩
open Go Go.Ann Go.RowKit
abbrev ObS:=Int × List Int
def posD(SL:List ObS)(x:Int):Option Nat:=SL.findIdx? fun p=>decide (p.1=x)
def findD(SL:List ObS)(x k:Int):List Int:=match posD SL x with
 | some i=>(SL.getD i (0,[])).2
 | none=>firstP k
def putD(SL:List ObS)(x:Int)(t:List Int):List ObS:=match posD SL x with
 | some i=>SL.set i ((SL.getD i (0,[])).1,t)
 | none=>SL++[(x,t)]
theorem posD_some{SL:List ObS}{x:Int}{i:Nat}(h:posD SL x=some i):∃ hi:i<SL.length,SL[i].1=x:=by
 obtain ⟨h1,h2,_⟩:=List.findIdx?_eq_some_iff_getElem.1 h
 exact ⟨h1,by simpa using h2⟩
theorem posD_none{SL:List ObS}{x:Int}(h:posD SL x=none):∀ p∈SL,p.1≠x:=fun p hp=>by
 have:=List.findIdx?_eq_none_iff.1 h p hp
 simpa using this
theorem posD_keys{A B:List ObS}(h:A.map Prod.fst=B.map Prod.fst)(x:Int):posD A x=posD B x:=by
 unfold posD
 have e:∀ L:List ObS,L.findIdx? (fun p=>decide (p.1=x))=(L.map Prod.fst).findIdx? fun y=>decide (y=x):=fun L=>by
  rw [List.findIdx?_map]
  rfl
 rw [e,e,h]
theorem putD_find{SL:List ObS}{x y k:Int}{t:List Int}:findD (putD SL x t) y k=if y=x then t else findD SL y k:=by
 unfold putD
 cases e:posD SL x with
 | some i =>
  obtain ⟨hi,hx⟩:=posD_some e
  have hkeys:(SL.set i ((SL.getD i (0,[])).1,t)).map Prod.fst=SL.map Prod.fst:=by
   rw [List.map_set]
   refine List.ext_getElem (by simp) fun j h1 h2=>?_
   rw [List.getElem_set]
   split
   ·rename_i ej
    subst ej
    rw [List.getElem_map,List.getD_eq_getElem?_getD,List.getElem?_eq_getElem hi]
    rfl
   ·rfl
  simp only
  unfold findD
  rw [posD_keys hkeys]
  by_cases ey:y=x
  ·subst ey
   rw [e,if_pos rfl]
   simp only
   rw [getD_set_eq hi]
  ·rw [if_neg ey]
   cases e2:posD SL y with
   | none=>rfl
   | some j =>
    obtain ⟨hj,hy⟩:=posD_some e2
    simp only
    rw [getD_set_ne fun ej=>ey (by subst ej; rw [← hx,← hy])]
 | none =>
  have hno:=posD_none e
  simp only
  unfold findD
  by_cases ey:y=x
  ·subst ey
   have:posD (SL++[(y,t)]) y=some SL.length:=by
    unfold posD
    refine List.findIdx?_eq_some_iff_getElem.2 ⟨by simp,by simp,fun j hj=>?_⟩
    rw [List.getElem_append_left hj]
    have:=hno _ (List.getElem_mem hj)
    simpa using this
   rw [this,if_pos rfl]
   simp only
   rw [List.getD_eq_getElem?_getD,List.getElem?_append_right (Nat.le_refl _),Nat.sub_self]
   rfl
  ·rw [if_neg ey]
   cases e2:posD SL y with
   | none =>
    have:posD (SL++[(x,t)]) y=none:=by
     unfold posD
     refine List.findIdx?_eq_none_iff.2 fun p hp=>?_
     rcases List.mem_append.1 hp with hp | hp
     ·have:=posD_none e2 p hp
      simpa using this
     ·rw [List.mem_singleton] at hp
      subst hp
      simpa using fun h=>ey h.symm
    rw [this]
   | some j =>
    obtain ⟨hj,hy⟩:=posD_some e2
    have:posD (SL++[(x,t)]) y=some j:=by
     unfold posD at e2 ⊢
     obtain ⟨h1,h2,h3⟩:=List.findIdx?_eq_some_iff_getElem.1 e2
     refine List.findIdx?_eq_some_iff_getElem.2 ⟨by simp; omega,by rw [List.getElem_append_left h1]; exact h2,fun i hi=>?_⟩
     rw [List.getElem_append_left (by omega)]
     exact h3 i hi
    rw [this]
    simp only
    rw [List.getD_eq_getElem?_getD,List.getElem?_append_left hj,← List.getD_eq_getElem?_getD]
def StD(accO:List Seg)(SL:List ObS)(st:List (List Int)):Prop:=∀ x,(h:x<accO.length)→findD SL accO[x].obj accO[x].kind=st.getD x []
theorem StD.start{accP accO:List Seg}:StD accO [] (startW accP accO).st:=fun x hx=>by
 unfold startW findD posD
 simp only [List.findIdx?_nil]
 rw [List.getD_eq_getElem?_getD,List.getElem?_map,List.getElem?_eq_getElem hx]
 rfl
theorem StD.put{accO:List Seg}{SL:List ObS}{st:List (List Int)}(h:StD accO SL st)(hst:st.length=accO.length)(hu:accO.Pairwise fun a b=>a.obj<b.obj){o:OpT}(ho:(objsW accO).idxOf o.Object<accO.length)(t:List Int):StD accO (putD SL o.Object t) (st.set ((objsW accO).idxOf o.Object) t):=fun x hx=>by
 rw [putD_find]
 have hob:accO[(objsW accO).idxOf o.Object].obj=o.Object:=by
  have h1:(objsW accO).idxOf o.Object<(objsW accO).length:=by simpa [objsW] using ho
  have:=List.getElem_idxOf h1
  have e:(objsW accO)[(objsW accO).idxOf o.Object]=accO[(objsW accO).idxOf o.Object].obj:=List.getElem_map ..
  rw [← e,this]
 by_cases e:(objsW accO).idxOf o.Object=x
 ·subst e
  rw [hob,if_pos rfl,getD_set_eq (by omega)]
 ·rw [getD_set_ne e,if_neg,h x hx]
  intro e2
  apply e
  have hnd:(accO.map Seg.obj).Nodup:=by
   unfold List.Nodup
   rw [List.pairwise_map]
   exact hu.imp fun h=>Int.ne_of_lt h
  have h3:(accO.map Seg.obj)[(objsW accO).idxOf o.Object]'(by simpa using ho)=(accO.map Seg.obj)[x]'(by simpa using hx):=by
   rw [List.getElem_map,List.getElem_map,hob,e2]
  exact (List.getElem_inj hnd).1 h3
end Go.Proofs.YtoadmihnihfjkaaGreat

namespace Go.Proofs.YtoadmihnihfjkaaGreat.Cut
open Go Go.Ann Go.RowKit Go.WideShapes
def progR(w:World)(s:Seg)(c:List Value):Prop:=∃ v,c=[v]∧RdS w 11 OpT.enc v s.ops∧(s.ops.length:Int)≤9223372036854775806
theorem progR.below{w w':World}(hb:Below w.heap.size w w')(s:Seg)(c:List Value)(h:progR w s c):progR w' s c:=by
 obtain ⟨v,rfl,h1,h2⟩:=h
 exact ⟨v,rfl,h1.below hb (by decide),h2⟩
end Go.Proofs.YtoadmihnihfjkaaGreat.Cut

namespace Go.Ann
open Go Go.RowKit
section
variable {P:Program} {N:Nat}
theorem RangeW_any{g:Operand}{ps:List Nat}{A B:Cmd}{ρ:Env}{w W0:World}{Q:Post}{F:Nat→Prop}{L0:List Res}{I:List Inv}{α β:Type}{gf:Nat}{lb:Array Value}
  (encs:α→List Value) (E:List α→α→Prop) (G:List α→Prop) (L:β→List α→List Res) (y0:β)
  (hg:ev ρ g=some (.func (.func gf) #[] lb)) (hgo:goFunc P gf=true) (s:St W0 w F L0 I) (hL:L y0 []=L0) (hlen:∀ x,(encs x).length=ps.length)
  (hit:∀ (fv:Value) (J:List Res→List α→World→Prop) (w1:World),(∀ R pre w',J R pre w'→∃ l D o y,St W0 w' F (.obj l o::.obj D (.deferred (some []))::(L y pre++R)) I)→(∀ R R' pre w' w'',J R pre w'→(∀ X,St W0 w' F (X++R) I→St W0 w'' F (X++R') I)→J R' pre w'') →
   (∀ R pre x w',J R pre w'→E pre x→callW P fv (encs x) w' fun v w''=>v=.bool true∧J R (pre++[x]) w'')→J [] [] w1→Ret P gf (fv::lb.toList) w1 fun _ w'=>∃ xs,G xs∧J [] xs w')
  (hbody:∀ R y pre x w' l D o o2,E pre x→St W0 w' F (.obj l o::.obj D (.deferred (some []))::(L y pre++R)) I→W P A (zipE ps (encs x) (lowE ρ)) w' fun e ρ1 w1=>match e with
   | .normal=>∃ M,St W0 w1 F (.obj l o::.obj D (.deferred (some []))::(M++R)) I∧∀ w2,St W0 w2 F (.obj l o2::.obj D (.deferred (some []))::(M++R)) I→W P B ρ1 w2 fun e2 _ w3=>match e2 with
    | .normal=>∃ y',St W0 w3 F (.obj l o2::.obj D (.deferred (some []))::(L y' (pre++[x])++R)) I
    | _=>False
   | _=>False)
  (hdone:∀ xs y D w',G xs→St W0 w' F (.obj D (.deferred (some []))::L y xs) I→Q .normal ((D+1000000,undef)::ρ) w'):RangeW P g ps A B ρ w Q:=by
 intro N a ca cb hca hcb hra hrb hps hs
 refine wpIn_rangeFunc fun fn _=>?_
 obtain ⟨rec,hrec⟩:∃ rec:LoopState→Option Code→Loop,rec=fun st pe=>{ state:=st,pending:=pe,fn,tmps:=a.tmps,params:=ps.toArray,assign:=ca,body:=cb,defers:=w.heap.size }:=⟨_,rfl⟩
 have hs1:St W0 ((w.alloc (.deferred (some []))).alloc (.loop (rec .ready none))) F (.obj (w.heap.size+1) (.loop (rec .ready none))::.obj w.heap.size (.deferred (some []))::L y0 []) I:=by
  rw [hL]
  have:=(s.lay (.deferred (some []))).lay (.loop (rec .ready none))
  rw [World.size_alloc] at this
  exact this
 generalize hw1:(w.alloc (.deferred (some []))).alloc (.loop (rec .ready none))=w1 at hs1
 refine ⟨w.heap.size+1,[{ target:=.collected w.heap.size,args:=#[] }],w1,{ target:=.fn (.func gf) lb,args:=#[.func (.yield (w.heap.size+1)) #[] #[]] },w1,gf,
  #[.func (.yield (w.heap.size+1)) #[] #[]]++lb,w1,?_,?_,?_,?_,fun _=>by decide,?_⟩
 ·rw [← hw1,hrec]; exact run_enterLoop_outer _ _ _ _ _
 ·simp only [resolve,hs.eval _ _ hg]
  simp [go_sem]
 ·intro f' _; exact trivial
 ·simp [invoke,go_sem,callFunc_run hgo]
 ·generalize w.heap.size+1=l at hs1 ⊢
  generalize w.heap.size=D at hrec hs1 ⊢
  have key:=hit (.func (.yield l) #[] #[]) (fun R pre w'=>∃ y,St W0 w' F (.obj l (.loop (rec .ready none))::.obj D (.deferred (some []))::(L y pre++R)) I) w1 (fun R pre w' ⟨y,h⟩=>⟨_,_,_,y,h⟩) (fun R R' pre w' w'' ⟨y,h⟩ hX=>⟨y,hX (.obj l (.loop (rec .ready none))::.obj D (.deferred (some []))::L y pre) h⟩) ?_ ⟨y0,by rw [List.append_nil]; exact hs1⟩
  ·have e:#[Value.func (.yield l) #[] #[]]++lb=(Value.func (.yield l) #[] #[]::lb.toList).toArray:=by simp
   rw [e]
   refine CallsIn.mono (callsIn_wide.2 key) fun e w2 ⟨v,he,xs,hG,y,h2⟩=>?_
   subst he
   simp only [List.append_nil] at h2
   have hl:=h2.obj 0 rfl
   refine ⟨none,w2.putObj l (.loop { rec .ready none with state:=.exhausted }),?_,?_⟩
   ·have:=run_endLoop (P:=P) hl (by rw [hrec]; simp)
    rw [hrec] at this ⊢
    exact this
   ·have h3:=(h2.putObj 0 rfl (.loop { rec .ready none with state:=.exhausted })).sub (L':=.obj D (.deferred (some []))::L y xs) (by simp)
    exact ⟨_,hs.mark D,hdone xs y D _ hG h3⟩
  ·rintro R pre x w' ⟨y,h⟩ hx
   have hl:=h.obj 0 rfl
   have hsz:(encs x).toArray.size=(rec .ready none).params.size:=by rw [hrec]; simp [hlen]
   have hy:=run_yield (P:=P) hl hsz
   rw [hrec] at hy
   refine ⟨rfl,rfl,fn,_,ca,cb,hy,?_⟩
   refine roundIn_of_wpIn trivial ?_
   have hsim:Sim N { tmps:=((ps.toArray.zip (encs x).toArray).foldl (fun t (p,v)=>t.setIfInBounds p v) a.tmps),defers:=[] } (zipE ps (encs x) (lowE ρ)):=by
    have:=Sim.zipE (a:={ tmps:=a.tmps,defers:=[] }) ps (encs x) (lowE ρ) a.tmps hps hs.lowE
    rw [← Array.foldl_toList,Array.toList_zip]
    exact this
   have hA:=W_sound (r:=some l) (n:=0) ca A hca (.inl hra) _ w' _ _ hsim (hbody R y pre x w' l D _ (.loop { rec .ready none with state:=.busy }) hx h)
   refine wpIn_mono hA fun e a1 w1 hh=>?_
   obtain ⟨ρ1,hs1,hq⟩:=hh
   cases e with
   | normal =>
    obtain ⟨M,hM,hB⟩:=hq
    have hl1:=hM.obj 0 rfl
    refine ⟨_,run_beginRound hl1 (by rw [hrec]),?_⟩
    have hB':=W_sound (r:=some l) (n:=0) cb B hcb (.inl hrb) _ _ _ a1 hs1 (hB _ (hM.putObj 0 rfl _))
    refine wpIn_mono hB' fun e2 a2 w2 hh=>?_
    obtain ⟨ρ2,hs2,hq2⟩:=hh
    cases e2 with
    | normal =>
     obtain ⟨y',hq2⟩:=hq2
     have hl2:=St.obj hq2 0 rfl
     have he:=run_endRound (P:=P) none hl2
     refine ⟨.bool true,w2.putObj l (.loop (rec .ready none)),?_,.bool true,rfl,rfl,?_⟩
     ·rw [hrec] at he ⊢; exact he
     ·exact ⟨y',St.putObj hq2 0 rfl _⟩
    | _=>exact hq2.elim
   | _=>exact hq.elim
end
end Go.Ann

end
