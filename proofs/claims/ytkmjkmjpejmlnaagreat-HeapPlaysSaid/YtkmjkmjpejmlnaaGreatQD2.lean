/- Texts put together by program. -/
import Derived.Test.YtkmjkmjpejmlnaaGreatQD1
set_option linter.unusedSimpArgs false
set_option linter.unusedVariables false
set_option maxRecDepth 100000
noncomputable section

namespace Go.Ann
open Go Go.RowKit
attribute [go_sem_proc] reduceCtorEq Nat.reduceBEq Nat.reduceEqDiff Nat.reduceAdd Nat.reduceMul Int.reduceNe Int.reduceEq Int.reduceLT Int.reduceLE Int.reduceNeg Int.reduceAdd Int.reduceSub Int.reduceMul Int.reduceToNat
attribute [go_sem_proc ↓] reduceIte
attribute [go_sem] beq_self_eq_true
section
variable {κ ν:Type} {P:Program} {ek:κ→Value} {ev:ν→Value} {t:TypeId}
def entG(ek:κ→Value)(ev:ν→Value)(x:κ × ν × Nat):MapEntry:={ key:=ek x.1,val:=ev x.2.1,born:=x.2.2 }
def mapG(ek:κ→Value)(ev:ν→Value)(l:List (κ × ν × Nat))(c:Nat):Obj:=.map (l.map (entG ek ev)).toArray c
theorem mmG{m:TypeId}{w:World}{K:Value→World→Prop}(hK:K (.map (some w.heap.size)) (w.alloc (mapG ek ev [] 0))):mmW P m w K:=by
 refine ⟨_,_,?_,hK⟩
 unfold Instr.makeMap
 simp [Sem.run_bind,Result.andThen,run_newObj_alloc]
 rfl
variable [DecidableEq κ]
def getM(a:κ):List (κ × ν × Nat)→Option ν
 | []=>none
 | x::l=>if a=x.1 then some x.2.1 else getM a l
def setM(a:κ)(v:ν)(c:Nat):List (κ × ν × Nat)→List (κ × ν × Nat)
 | []=>[(a,v,c)]
 | x::l=>if a=x.1 then (x.1,v,x.2.2)::l else x::setM a v c l
def whereM(ev:ν→Value)(a:κ):List (κ × ν × Nat)→Nat→Option (Nat × Value)
 | [],_=>none
 | x::l,i=>if a=x.1 then some (i,ev x.2.1) else whereM ev a l (i+1)
theorem whereM_get(a:κ):∀ (l:List (κ × ν × Nat)) (i:Nat),(whereM ev a l i).map Prod.snd=(getM a l).map ev
 | [],_=>rfl
 | x::l,i=>by
  simp only [whereM,getM]
  split
  ·rfl
  ·exact whereM_get a l (i+1)
variable {d:TypeDesc}
theorem findNow_G(hk:KeyT P t ek d)(a:κ):∀ (l:List (κ × ν × Nat)) (i:Nat),Instr.findNow d (ek a) (l.map (entG ek ev)) i=none∨Instr.findNow d (ek a) (l.map (entG ek ev)) i=some (whereM ev a l i)
 | [],i=>.inr rfl
 | b::l,i=>by
  simp only [List.map_cons,entG,Instr.findNow,whereM]
  rcases hk.now a b.1 with h | h
  ·exact .inl (by rw [h])
  ·rw [h]
   by_cases e:a=b.1
   ·rw [decide_eq_true e,if_pos e]; exact .inr rfl
   ·rw [decide_eq_false e,if_neg e]; exact findNow_G hk a l _
theorem findAsk_G(hk:KeyT P t ek d)(w:World)(a:κ):∀ (l:List (κ × ν × Nat)) (i:Nat),(Instr.findAsking t (ek a) (l.map (entG ek ev)) i).run P w=.ok (whereM ev a l i) w
 | [],i=>rfl
 | b::l,i=>by
  simp only [List.map_cons,entG,Instr.findAsking,whereM,Sem.run_bind,hk.eq w a b.1,Result.andThen_ok]
  by_cases e:a=b.1
  ·rw [decide_eq_true e,if_pos e]; rfl
  ·rw [decide_eq_false e,if_neg e]
   simp only [Bool.false_eq_true,if_false]
   exact findAsk_G hk w a l _
theorem findKey_G(hk:KeyT P t ek d)(w:World)(a:κ)(l:List (κ × ν × Nat)):(Instr.findKey t (ek a) (l.map (entG ek ev))).run P w=.ok (whereM ev a l 0) w:=by
 unfold Instr.findKey
 simp only [Sem.run_bind,run_underlying hk.und,Result.andThen_ok]
 rcases findNow_G (ev:=ev) hk a l 0 with h | h
 ·rw [h]; exact findAsk_G hk w a l 0
 ·rw [h]; rfl
def luG(ev:ν→Value)(z:Value):Option ν→Bool→Value
 | some v,true=>.tuple #[ev v,.bool true]
 | none,true=>.tuple #[z,.bool false]
 | some v,false=>ev v
 | none,false=>z
theorem luG_map{m e:TypeId}{w:World}{K:Value→World→Prop}{r c:Nat}{ok:Bool}{z:Value}(hk:KeyT P t ek d)(hm:P.underlying m=some (.map t e)){l:List (κ × ν × Nat)}(hr:w.heap[r]?=some (mapG ek ev l c))(a:κ)
  (hz:(zeroValue e).run P w=.ok z w) (hK:K (luG ev z (getM a l) ok) w):luW P m (.map (some r)) (ek a) ok w K:=by
 refine ⟨_,_,?_,hK⟩
 unfold Instr.lookup
 have hg:(getObj r).run P w=.ok (.map (l.map (entG ek ev)).toArray c) w:=run_getObj_map w r _ _ hr
 simp only [Sem.run_bind,run_underlying hm,Result.andThen_ok,hg,Sem.run_pure,hk.chk,findKey_G hk,List.toList_toArray]
 have h:=whereM_get (ev:=ev) a l 0
 cases hw:whereM ev a l 0 with
 | some p =>
  rw [hw] at h
  cases hg2:getM a l with
  | none=>rw [hg2] at h; cases h
  | some v =>
   rw [hg2] at h
   obtain ⟨pj,pv⟩:=p
   simp only [Option.map_some,Option.some.injEq] at h
   subst h
   cases ok <;> rfl
 | none =>
  rw [hw] at h
  cases hg2:getM a l with
  | some v=>rw [hg2] at h; cases h
  | none =>
   simp only [Sem.run_bind,hz,Result.andThen_ok]
   cases ok <;> rfl
theorem whereM_set(a:κ)(v:ν)(c:Nat):∀ (l:List (κ × ν × Nat)) (i j:Nat) (u:Value),whereM ev a l i=some (j,u)→i≤j∧j - i<l.length∧(∃ x,(l.map (entG ek ev))[j - i]?=some (entG ek ev x)∧x.1=a)∧(setM a v c l).map (entG ek ev)=(l.map (entG ek ev)).modify (j - i) (fun e=>{ e with key:=ek a,val:=ev v })
 | [],_,_,_,h=>by cases h
 | x::l,i,j,u,h=>by
  simp only [whereM] at h
  split at h
  ·rename_i e
   simp only [Option.some.injEq,Prod.mk.injEq] at h
   obtain ⟨rfl,rfl⟩:=h
   refine ⟨Nat.le_refl _,by simp,⟨x,by simp,e.symm⟩,?_⟩
   rw [show setM a v c (x::l)=(x.1,v,x.2.2)::l from if_pos e]
   simp only [Nat.sub_self,List.map_cons,List.modify_zero_cons,entG,e]
  ·rename_i e
   obtain ⟨h1,h2,⟨y,h3,h4⟩,h5⟩:=whereM_set a v c l (i+1) j u h
   have e1:j - i=(j - (i+1))+1:=by omega
   refine ⟨by omega,by simp only [List.length_cons]; omega,⟨y,?_,h4⟩,?_⟩
   ·rw [e1,List.map_cons,List.getElem?_cons_succ]; exact h3
   ·rw [e1]
    simp only [setM,if_neg e,List.map_cons,List.modify_succ_cons,h5]
theorem whereM_none{a:κ}(v:ν)(c:Nat):∀ {l:List (κ × ν × Nat)} {i:Nat},whereM ev a l i=none→setM a v c l=l++[(a,v,c)]∧getM a l=none
 | [],_,_=>⟨rfl,rfl⟩
 | x::l,i,h=>by
  simp only [whereM] at h
  split at h
  ·cases h
  ·rename_i e
   obtain ⟨h1,h2⟩:=whereM_none v c h
   exact ⟨by simp only [setM,if_neg e,h1,List.cons_append],by simp only [getM,if_neg e,h2]⟩
theorem muG_map{m e:TypeId}{w:World}{K:Value→World→Prop}{r c:Nat}(hk:KeyT P t ek d)(hm:P.underlying m=some (.map t e))(hs:∀ a:κ,Instr.sameBits 10000 (ek a) (ek a)=true){l:List (κ × ν × Nat)}(hr:w.heap[r]?=some (mapG ek ev l c))(a:κ)(v:ν)
  (hK:K undef (w.putObj r (mapG ek ev (setM a v c l) (if (getM a l).isSome then c else c+1)))):muW P m (.map (some r)) (ek a) (ev v) w K:=by
 have hg:(getObj r).run P w=.ok (.map (l.map (entG ek ev)).toArray c) w:=run_getObj_map w r _ _ hr
 have hs':∀ o,(setObj r o).run P w=.ok () (w.putObj r o):=fun o=>by simp [setObj,Sem.run,hr,mapG,World.putObj]
 cases hw:whereM ev a l 0 with
 | none =>
  obtain ⟨h1,h2⟩:=whereM_none v c hw
  refine ⟨_,?_,hK⟩
  unfold Instr.mapUpdate
  simp only [Sem.run_bind,run_underlying hm,Result.andThen_ok,hg,Sem.run_pure,hk.chk,findKey_G hk,List.toList_toArray,hw]
  rw [hs',h1]
  have e:(l.map (entG ek ev)).toArray.push { key:=ek a,val:=ev v,born:=c }=((l++[(a,v,c)]).map (entG ek ev)).toArray:=by
   rw [List.map_append]; simp [entG]
  rw [e,h2]; rfl
 | some p =>
  obtain ⟨j,u⟩:=p
  obtain ⟨_,h2,⟨x,h3,h4⟩,h5⟩:=whereM_set (ek:=ek) a v c l 0 j u hw
  rw [Nat.sub_zero] at h2 h3 h5
  have hsome:(getM a l).isSome=true:=by
   have:=whereM_get (ev:=ev) a l 0
   rw [hw] at this
   cases h:getM a l with
   | none=>rw [h] at this; cases this
   | some _=>rfl
  rw [if_pos hsome] at hK
  refine ⟨_,?_,hK⟩
  unfold Instr.mapUpdate
  simp only [Sem.run_bind,run_underlying hm,Result.andThen_ok,hg,Sem.run_pure,hk.chk,findKey_G hk,List.toList_toArray,hw]
  have e0:((((l.map (entG ek ev)).toArray)[j]?).map (·.key)).getD (ek a)=ek a:=by
   rw [List.getElem?_toArray,h3]; simp [entG,h4]
  have e1:(Instr.keyThatStays ((((l.map (entG ek ev)).toArray)[j]?).map (·.key)|>.getD (ek a)) (ek a)).run P w=.ok (ek a) w:=by
   rw [e0]; unfold Instr.keyThatStays; rw [if_pos (hs a)]; rfl
  rw [e1]
  simp only [Result.andThen_ok]
  rw [hs']
  unfold mapG
  rw [h5]
  congr 3
  apply Array.ext'
  simp [Array.toList_modify]
theorem keyT_int{ki:IntKind}(ht:P.underlying t=some (.int ki)):KeyT P t (fun n:Int=>.int ki n) (.int ki):=by
 refine ⟨ht,fun n w em a=>?_,fun a b=>.inr ?_,fun w a b=>?_⟩
 ·simp only [Instr.checkKey,Sem.run_bind,run_underlying ht,Result.andThen_ok]; rfl
 ·simp [Instr.sameNow]; rfl
 ·show (Op.equalIn 10000 t _ _).run P w=_
  rw [run_equalIn_int w 9999 t ki ki a b ht]
  rfl
end
section
variable {P:Program} {w:World} {K:Value→World→Prop}
theorem rgG{m t e:TypeId}{r clock:Nat}{es:Array MapEntry}(hm:P.underlying m=some (.map t e))(hr:w.heap[r]?=some (.map es clock))(hK:K (.pointer (some ⟨w.heap.size,0,none⟩)) (w.alloc (.mapIter (some r) clock #[] clock))):rgW P m (.map (some r)) w K:=by
 refine ⟨_,_,?_,hK⟩
 unfold Instr.range
 have hg:(getObj r).run P w=.ok (.map es clock) w:=run_getObj_map w r _ _ hr
 simp only [Sem.run_bind,run_underlying hm,Result.andThen_ok,hg,Sem.run_pure,run_newObj_alloc]
theorem nxG{ty q r since c0 clock:Nat}{seen:Array Nat}{es:Array MapEntry}(hq:w.heap[q]?=some (.mapIter (some r) since seen c0))(hr:w.heap[r]?=some (.map es clock))(hold:∀ x∈es.toList,x.born<since)(hsc:since≤c0)
  (h0:(leftOf es seen).size=0→K (.tuple #[.bool false]) w) (h1:∀ e∈(leftOf es seen).toList,∀ w1,(w1=w∨w1=w.drew)→K (.tuple #[.bool true,e.key,e.val]) (w1.putObj q (.mapIter (some r) since (seen.push e.born) clock))) :
  nxW P (.pointer (some ⟨q,0,none⟩)) false ty w K:=by
 rcases run_next_at w ty q r since c0 seen es clock hq hr hold hsc with ⟨h,hrun⟩ | ⟨e,he,w1,hw1,hrun⟩
 ·exact ⟨_,_,hrun,h0 h⟩
 ·exact ⟨_,_,hrun,h1 e he w1 hw1⟩
theorem enG{q r since clock:Nat}{seen:Array Nat}{es:Array MapEntry}{e:MapEntry}(hq:w.heap[q]?=some (.mapIter (some r) since (seen.push e.born) clock))(hr:w.heap[r]?=some (.map es clock))(he:e∈es.toList)(hn:(es.toList.map (·.born)).Nodup)
  (hK:K (.tuple #[e.key,e.val]) w):enW P (.pointer (some ⟨q,0,none⟩)) w K:=⟨_,_,run_entry_at w q r since seen es clock e hq hr he hn,hK⟩
theorem clearG{m t e ty:TypeId}{cs:Array Bool}{r clock:Nat}{es:Array MapEntry}(hm:P.underlying m=some (.map t e))(hr:w.heap[r]?=some (.map es clock))(hK:K (.tuple #[]) (w.putObj r (.map #[] clock))):rawB P .clear #[m] ty cs [.map (some r)] w K:=by
 refine ⟨_,_,?_,hK⟩
 have hg:(getObj r).run P w=.ok (.map es clock) w:=run_getObj_map w r _ _ hr
 have hs':∀ o,(setObj r o).run P w=.ok () (w.putObj r o):=fun o=>by simp [setObj,Sem.run,hr,World.putObj]
 simp [builtin,Builtin.clear_,run_underlying hm,hg,hs']
theorem St.copy{W0:World}{F:Nat→Prop}{L:List Res}{I:List Inv}{dT sT ty e sz bytes g n cap k o m dc sc i:Nat}{z:Value}{cs:Array Bool}{xs:List Value}(h:St W0 w F L I)(hi:L[i]?=some (.row (.slice (some ⟨g,0,none⟩) n cap) e sz n xs))
  (hm:mkI P dT=some (e,sz,bytes,z)) (ho:o+k≤n) (hmk:m+k≤n) (h1:∀ u∈xs,u.oneCell'=true) {kd ks:Nat} (hk:min ks kd=k)
  (hK:∀ w',St W0 w' F (L.set i (.row (.slice (some ⟨g,0,none⟩) n cap) e sz n (xs.take (o * sz)++(xs.drop (m * sz)).take (k * sz)++xs.drop ((o+k) * sz)))) I→K (goInt (k:Nat)) w') :
  rawB P .copy #[dT,sT] ty cs [.slice (some ⟨g,o * sz,none⟩) kd dc,.slice (some ⟨g,m * sz,none⟩) ks sc] w K:=by
 obtain ⟨inf,hu,hinf,_,hsi,_⟩:=mkI_some hm
 have hr:=h.row i hi
 have hlen:xs.length=n * sz:=hr.1
 rcases hr.2 with ⟨h',_⟩ | ⟨g',cap',cur,h',hb,hg,hnc,hcm,hcs,htake⟩
 ·simp at h'
 simp only [Value.slice.injEq,Option.some.injEq,Addr.mk.injEq,and_true,true_and] at h'
 obtain ⟨rfl,rfl⟩:=h'
 have a1:(o+k) * sz≤n * sz:=Nat.mul_le_mul_right _ ho
 have a2:(m+k) * sz≤n * sz:=Nat.mul_le_mul_right _ hmk
 have a3:n * sz≤cap * sz:=Nat.mul_le_mul_right _ hnc
 rw [Nat.add_mul] at a1 a2
 have hcl:((xs.drop (m * sz)).take (k * sz)).length=k * sz:=by rw [List.length_take,List.length_drop]; omega
 have hsrc:∀ j v,((xs.drop (m * sz)).take (k * sz))[j]?=some v→w.cell? ((⟨g,m * sz,none⟩:Addr).add j)=some v:=fun j v hj=>by
  rw [List.getElem?_take] at hj
  split at hj
  ·rw [List.getElem?_drop] at hj
   have e:(⟨g,m * sz,none⟩:Addr).add j=⟨g,m * sz+j,none⟩:=by unfold Addr.add; split <;> simp_all
   rw [e,hr.cellAt _ (by omega),hj]
  ·cases hj
 have hl:=run_loadCells_list (P:=P) w ⟨g,m * sz,none⟩ _ hsrc
 have h1':∀ v∈(xs.drop (m * sz)).take (k * sz),v.oneCell'=true:=fun v hv=>h1 v (List.mem_of_mem_drop (List.mem_of_mem_take hv))
 have hst:=run_storeCells_at P g (o * sz) e _ 0 cur w hg (by rw [hcl,hcs]; omega) h1'
 rw [hcl] at hl hst
 have hrow:(w.setRow g (cur.toList.take (o * sz)++(xs.drop (m * sz)).take (k * sz)++cur.toList.drop (o * sz+k * sz)).toArray).ownsRow W0.heap.size e sz (.slice (some ⟨g,0,none⟩) n cap) n (xs.take (o * sz)++(xs.drop (m * sz)).take (k * sz)++xs.drop ((o+k) * sz)):=by
  have hcur:cur.toList.length=cap * sz:=by rw [Array.length_toList,hcs]
  refine ⟨?_,.inr ⟨g,cap,_,rfl,hb,setRow_heap w g cur _ e _ hg,hnc,hcm,?_,?_⟩⟩
  ·simp only [List.length_append,hcl,List.length_take,List.length_drop,Nat.add_mul]; omega
  ·simp only [List.size_toArray,List.length_append,hcl,List.length_take,List.length_drop]; omega
  ·simp only [List.toList_toArray]
   rw [← htake]
   apply List.ext_getElem?
   intro j
   simp only [List.getElem?_take,List.getElem?_append,List.length_append,List.length_take,List.length_drop,List.getElem?_drop,hcur,hcl]
   rw [← htake] at hcl
   simp only [List.length_take,List.length_drop,hcur] at hcl
   simp only [Nat.add_mul,List.length_take,hcur,List.length_drop,hcl]
   have e1:min (o * sz) (cap * sz)=o * sz:=by omega
   have e2:min (o * sz) (min (n * sz) (cap * sz))=o * sz:=by omega
   simp only [e1,e2]
   by_cases c1:j<n * sz
   ·rw [if_pos c1]
    by_cases c2:j<o * sz
    ·rw [if_pos (by omega),if_pos c2,if_pos (by omega),if_pos c2,if_pos c2,if_pos c1,if_pos (by omega)]
    ·by_cases c3:j<o * sz+k * sz
     ·rw [if_pos (by omega),if_neg c2,if_pos (by omega),if_neg c2,if_pos c3]
     ·rw [if_neg (by omega),if_neg (by omega),if_pos (by omega)]
   ·rw [if_neg c1,if_neg (by omega),if_neg (by omega)]
 refine ⟨_,w.setRow g (cur.toList.take (o * sz)++(xs.drop (m * sz)).take (k * sz)++cur.toList.drop (o * sz+k * sz)).toArray,?_,hK _ (h.upd i hi ?_ _ hrow fun k' hk'=>.inl hk')⟩
 ·simp only [Nat.add_zero] at hst
  have hk':Nat.min ks kd=k:=hk
  simp [builtin,Builtin.copy_,run_underlying hu,Builtin.lenOf,Builtin.firstCells,sizeOf,typeInfo,hinf,← hsi,hk',hl]
  simp [hst]
 ·refine (Chg.refl _ w).grown (row:=some g) ⟨rfl,rfl,rfl,by simp,fun j hj hne=>?_⟩ fun j hj _=>by
   simp only [Option.some.injEq] at hj; subst hj; rfl
  simp only [World.setRow,Array.getElem?_modify]
  rw [if_neg (fun e=>hne (by rw [e]))]
def Same(X:Nat→Prop)(w0 w':World):Prop:=∀ b,X b→w'.heap[b]?=w0.heap[b]?
theorem Same.refl(X:Nat→Prop)(w:World):Same X w w:=fun _ _=>rfl
theorem heldS_held{X:Nat→Prop}{t:TypeId}{w0:World}{p:Addr}(h2:X p.block)(h3:loadW P t p w0 fun v _=>K v w):heldW P (Same X w0) t p w K:=by
 have key:∀ w' j,Same X w0 w'→w'.cell? (p.add j)=w0.cell? (p.add j):=fun w' j hc=>by
  have e:(p.add j).block=p.block:=by unfold Addr.add; split <;> rfl
  exact World.cell?_of_block (hc _ (by rw [e]; exact h2))
 have key0:∀ w',Same X w0 w'→w'.cell? p=w0.cell? p:=fun w' hc=>by have:=key w' 0 hc; simpa only [Addr.add_zero'] using this
 unfold heldW
 unfold loadW at h3 ⊢
 cases hk:tyK P t with
 | int k=>rw [hk] at h3; obtain ⟨n,hc,hK⟩:=h3; exact ⟨_,fun w' hw=>⟨n,(key0 w' hw).trans hc,rfl,rfl⟩,hK⟩
 | bool=>rw [hk] at h3; obtain ⟨n,hc,hK⟩:=h3; exact ⟨_,fun w' hw=>⟨n,(key0 w' hw).trans hc,rfl,rfl⟩,hK⟩
 | str=>rw [hk] at h3; obtain ⟨n,hc,hK⟩:=h3; exact ⟨_,fun w' hw=>⟨n,(key0 w' hw).trans hc,rfl,rfl⟩,hK⟩
 | slice u e=>rw [hk] at h3; obtain ⟨x,n,c,hc,hK⟩:=h3; exact ⟨_,fun w' hw=>⟨x,n,c,(key0 w' hw).trans hc,rfl,rfl⟩,hK⟩
 | ptr=>rw [hk] at h3; obtain ⟨n,hc,hK⟩:=h3; exact ⟨_,fun w' hw=>⟨n,(key0 w' hw).trans hc,rfl,rfl⟩,hK⟩
 | map=>rw [hk] at h3; obtain ⟨n,hc,hK⟩:=h3; exact ⟨_,fun w' hw=>⟨n,(key0 w' hw).trans hc,rfl,rfl⟩,hK⟩
 | agg n=>rw [hk] at h3; obtain ⟨cs,hc,hl,hK⟩:=h3; exact ⟨_,fun w' hw=>⟨cs,fun i v hv=>(key w' i hw).trans (hc i v hv),hl,rfl,rfl⟩,hK⟩
 | other=>rw [hk] at h3; obtain ⟨n,hc,hK⟩:=h3; exact ⟨_,fun w' hw=>⟨n,(key0 w' hw).trans hc,rfl,rfl⟩,hK⟩
 | none=>rw [hk] at h3; exact h3.elim
@[go_sem] theorem heldS_eq {X:Nat→Prop} {t:TypeId} {w0:World} {b i:Nat} (h2:X b):heldW P (Same X w0) t ⟨b,i,none⟩ w K=loadW P t ⟨b,i,none⟩ w0 fun v _=>K v w:=by
 apply propext
 exact ⟨fun ⟨v,h,hk⟩=>loadW_mono (h w0 (Same.refl _ _)) fun u hu=>by rw [hu.1]; exact hk,heldS_held h2⟩
end
end Go.Ann

namespace Go.Ann
open Go Go.RowKit
def overL(xs:List Value)(o:Nat)(vs:List Value):List Value:=xs.take o++vs++xs.drop (o+vs.length)
theorem overL_length{xs vs:List Value}{o:Nat}(h:o+vs.length≤xs.length):(overL xs o vs).length=xs.length:=by
 unfold overL; simp only [List.length_append,List.length_take,List.length_drop]; omega
theorem overL_take{xs vs:List Value}{o k:Nat}(h:o+vs.length=k)(h':k≤xs.length):(overL xs o vs).take k=xs.take o++vs:=by
 unfold overL
 have:(xs.take o++vs).length=k:=by rw [List.length_append,List.length_take]; omega
 rw [← this,List.take_left]
section
variable {P:Program} {w:World} {K:Value→World→Prop} {g t e sz bytes:Nat} {z:Value} {cur:Array Value}
theorem storeB{vs:List Value}{o:Nat}(hB:Blk w g cur e)(hf:o+vs.length≤cur.size)(h1:∀ u∈vs,u.oneCell'=true) :
  (storeCells ⟨g,o,none⟩ vs).run P w=.ok () (w.setRow g (overL cur.toList o vs).toArray)∧Blk (w.setRow g (overL cur.toList o vs).toArray) g (overL cur.toList o vs).toArray e∧Chg (fun k=>k=g) w (w.setRow g (overL cur.toList o vs).toArray):=by
 have hst:=run_storeCells_at P g o e vs 0 cur w hB (by simpa using hf) h1
 simp only [Nat.add_zero] at hst
 refine ⟨hst,setRow_heap w g cur _ e _ hB,?_⟩
 refine (Chg.refl _ w).grown (row:=some g) ⟨rfl,rfl,rfl,by simp,fun j hj hne=>?_⟩ fun j hj _=>by
  simp only [Option.some.injEq] at hj; subst hj; rfl
 simp only [World.setRow,Array.getElem?_modify]
 rw [if_neg (fun e=>hne (by rw [e]))]
theorem appendB{ty n m cap c:Nat}{src:Option Addr}{cs:Array Bool}{ys:List Value}(hm:mkI P t=some (e,sz,bytes,z))(hB:Blk w g cur e)(hfit:n+m≤cap)(hcap:cap * sz≤cur.size)(hy:Rd w sz (.slice src m c) m ys)(h1:∀ u∈ys,u.oneCell'=true)
  (hK:∀ w',Blk w' g (overL cur.toList (n * sz) ys).toArray e→Chg (fun k=>k=g) w w'→K (.slice (some ⟨g,0,none⟩) (n+m) cap) w') :
  rawB P .append #[t,t] ty cs [.slice (some ⟨g,0,none⟩) n cap,.slice src m c] w K:=by
 obtain ⟨i,hu,hi,_,hsi,_⟩:=mkI_some hm
 obtain ⟨hl,a',c',he,_,hr⟩:=hy
 simp only [Value.slice.injEq,true_and] at he
 obtain ⟨rfl,rfl⟩:=he
 have hmul:(n+m) * sz≤cap * sz:=Nat.mul_le_mul_right _ hfit
 rw [Nat.add_mul] at hmul
 have hf:n * sz+ys.length≤cur.size:=by omega
 obtain ⟨r1,r2,r3⟩:=storeB (P:=P) hB hf h1
 rcases Nat.eq_zero_or_pos m with h0 | h0
 ·subst h0
  have hy0:ys=[]:=List.eq_nil_of_length_eq_zero (by rw [hl]; simp)
  subst hy0
  refine ⟨_,_,?_,hK _ r2 r3⟩
  have hst:=run_storeCells_at P g (n * sz) e [] 0 cur w hB (by simpa using hf) h1
  have hfc:(Builtin.firstCells sz 0 (.slice src 0 c)).run P w=.ok #[] w:=by
   cases src with
   | none=>rfl
   | some a=>simp [Builtin.firstCells,loadCells,loadCellsFrom]
  have ha:(Builtin.append_ #[t,t] ty #[.slice (some ⟨g,0,none⟩) n cap,.slice src 0 c]).run P w=.ok (.slice (some ⟨g,0,none⟩) (n+0) cap) (w.setRow g (overL cur.toList (n * sz) []).toArray):=by
   simp [Builtin.append_,run_underlying hu,sizeOf,typeInfo,hi,Builtin.lenOf,Addr.add_lit,← hsi,hfc,r1,(show n≤cap by omega)]
  simp [builtin,ha]
 ·obtain ⟨ad,rfl,h4⟩:=hr (by omega)
  have hroom:=run_append_room (P:=P) (w:=w) t ty e i hu hi g n cap cur hB ad m c ys (by rw [hl,hsi]) h4 h1 hfit (by rw [← hsi]; exact hf)
  refine ⟨_,_,?_,hK _ r2 r3⟩
  rw [← hsi] at hroom
  simp [builtin,hroom,overL]
theorem overL_nil{xs:List Value}{o:Nat}:overL xs o []=xs:=by
 unfold overL; simp [List.take_append_drop]
theorem copyB{dT sT ty o kd dc ks sc k:Nat}{a:Addr}{cs:Array Bool}{ys:List Value}(hm:mkI P dT=some (e,sz,bytes,z))(hB:Blk w g cur e)(hk:min ks kd=k)(hl:ys.length=k * sz)(hy:∀ j u,ys[j]?=some u→w.cell? (a.add j)=some u)(h1:∀ u∈ys,u.oneCell'=true)(hf:o+ys.length≤cur.size)
  (hK:∀ w',Blk w' g (overL cur.toList o ys).toArray e→Chg (fun k=>k=g) w w'→K (goInt (k:Nat)) w') :
  rawB P .copy #[dT,sT] ty cs [.slice (some ⟨g,o,none⟩) kd dc,.slice (some a) ks sc] w K:=by
 obtain ⟨i,hu,hi,_,hsi,_⟩:=mkI_some hm
 obtain ⟨r1,r2,r3⟩:=storeB (P:=P) hB hf h1
 have hll:=run_loadCells_list (P:=P) w a ys hy
 rw [hl] at hll
 have hk':Nat.min ks kd=k:=hk
 refine ⟨_,_,?_,hK _ r2 r3⟩
 simp [builtin,Builtin.copy_,run_underlying hu,Builtin.lenOf,Builtin.firstCells,sizeOf,typeInfo,hi,← hsi,hk',hll,r1]
theorem clearB{ty o n c:Nat}{cs:Array Bool}(hm:mkI P t=some (e,sz,bytes,z))(hzs:z.cells.size=sz)(h1:∀ u∈z.cells.toList,u.oneCell'=true)(hB:Blk w g cur e)(hf:o+n * sz≤cur.size)
  (hK:∀ w' ys,ys.length=n * sz→Blk w' g (overL cur.toList o ys).toArray e→Chg (fun k=>k=g) w w'→K (.tuple #[]) w') :
  rawB P .clear #[t] ty cs [.slice (some ⟨g,o,none⟩) n c] w K:=by
 obtain ⟨i,hu,hi,hzz,hsi,_⟩:=mkI_some hm
 rcases Nat.eq_zero_or_pos n with h0 | h0
 ·subst h0
  refine ⟨_,w,?_,hK w [] (by simp) (by rw [overL_nil]; exact hB) (Chg.refl _ _)⟩
  simp [builtin,Builtin.clear_,run_underlying hu]
 ·have hl:(Builtin.zeroCells z.cells n).toList.length=n * sz:=by rw [Array.length_toList,size_zeroCells,hzs]
  have h1':∀ u∈(Builtin.zeroCells z.cells n).toList,u.oneCell'=true:=fun u hu=>by
   rw [Array.mem_toList_iff] at hu
   unfold Builtin.zeroCells at hu
   rw [Array.mem_map] at hu
   obtain ⟨j,hj,rfl⟩:=hu
   rw [Array.mem_range] at hj
   have hp:0<z.cells.size:=by
    rcases Nat.eq_zero_or_pos z.cells.size with h | h
    ·rw [h] at hj; omega
    ·exact h
   rw [getElem!_pos z.cells _ (Nat.mod_lt _ hp)]
   exact h1 _ (by simp)
  obtain ⟨r1,r2,r3⟩:=storeB (P:=P) (o:=o) hB (by rw [hl]; exact hf) h1'
  refine ⟨_,_,?_,hK _ _ hl r2 r3⟩
  obtain ⟨m,rfl⟩:∃ m,n=m+1:=⟨n - 1,by omega⟩
  simp [builtin,Builtin.clear_,run_underlying hu,zeroValue,typeInfo,hi,hzz,r1]
theorem growB{tn ty m cap:Nat}{a:Option Addr}{kq kn:IntKind}{cs:Array Bool}(hm:mkI P t=some (e,sz,bytes,z))(htn:P.underlying tn=some (.int kn))(hzs:z.cells.size=sz)(hsz:0<sz)(h0:0<m)(hg:cap<m)(h63:m≤9223372036854775807)(hb:m * bytes≤140737488355328)
  (hK:∀ G Z,m≤G→G≤maxLen→Z.size=G * sz→K (.slice (some ⟨w.heap.size,0,none⟩) m G) (w.drew.alloc (.cells Z e))) :
  rawB P .append #[t,tn] ty cs [.slice a 0 cap,.int kq m] w K:=by
 obtain ⟨i,hu,hi,hzz,hsi,hby⟩:=mkI_some hm
 have hold:(Builtin.firstCells i.size 0 (.slice a 0 cap)).run P w.drew=.ok ([]:List Value).toArray w.drew:=by
  cases a with
  | none=>rfl
  | some a=>simp [Builtin.firstCells,loadCells,loadCellsFrom]
 have h:=Lib.run_append_grow_zeros w t tn ty e i z kq kn hu htn hi hzz a 0 cap [] hold m h0 (by omega) (by omega) (by omega) (by rw [← hby]; omega) (by rw [← hby,Nat.zero_add]; exact growslice_fits hg hb)
 rw [Nat.zero_add] at h
 refine ⟨_,_,?_,hK (grownCap w m cap e) (([]:List Value).toArray++Builtin.zeroCells z.cells m++Builtin.zeroCells z.cells (grownCap w m cap e - m)) (grownCap_ge w m cap e) (grownCap_le_maxLen w m cap e (by simp only [maxLen]; omega)) ?_⟩
 ·simp [builtin,h]
 ·have:=grownCap_ge w m cap e
  simp only [Array.size_append,size_zeroCells,hzs,List.size_toArray,List.length_nil,Nat.zero_add,← Nat.add_mul]
  congr 1
  omega
theorem overlapsW{f tR la ca lb cb : Nat}{fn : Func}{a b : Addr}{ca' cb' : Array Value}{ta tb : TypeId}(hf : P.funcs[f]? = some fn)(hname : (fn.name == "runtime.NumGoroutine") = false)(hb : fn.body.isNone = true)(hn : Extern.findNext fn = none)(he : Extern.find fn = some (Extern.SlicesOverlaps.overlaps #[t, t] #[tR]))
    (hm : mkI P t = some (e, sz, bytes, z)) (hne : a.block ≠ b.block) (hA : Blk w a.block ca' ta) (hBb : Blk w b.block cb' tb) (hk : 0 < cb'.size) (hK : K (.bool false) w) :
    extW P f [.slice (some a) la ca, .slice (some b) lb cb] w K := by
  obtain ⟨i, hu, hi, hzz, hsi, hby⟩ := mkI_some hm
  refine ⟨.bool false, w, ?_, hK⟩
  have hsa : w.shape? a.block = some (ta, ca'.size) := by unfold World.shape?; rw [hA]
  have hsb : w.shape? b.block = some (tb, cb'.size) := by unfold World.shape?; rw [hBb]
  have hfz : ∀ p : Addr, p.block = a.block → w.frozen? p = false := fun p hp => by unfold World.frozen?; rw [hp, hA]; simp
  rw [run_callFunc_extern hf hname hb hn he, Lib.run_overlaps_apart w t tR e hu i.size (fun w => by simp [sizeOf, typeInfo, hi]) a b la ca lb cb hne ta tb ca'.size cb'.size hsa hsb (by omega) (hfz _ rfl) (hfz _ rfl)]
  rfl
end
end Go.Ann

namespace Go.Ann
open Go Go.RowKit
def byteV(b:UInt8):Value:=.int .u8 b.toNat
theorem strCells_ofL(l:List UInt8):Lib.strCells (ofL l)=l.map byteV:=by
 unfold Lib.strCells ofL
 simp only [List.map_inj_left]
 intro a _; rfl
section
variable {P:Program} {W0 w w':World} {F:Nat→Prop} {L:List Res} {I:List Inv} {K:Value→World→Prop}
theorem St.appendS{t u ty e n:Nat}{cs:Array Bool}{v:Value}{xs:List Value}(h:St W0 w F L I)(i:Nat)(hi:L[i]?=some (.row v e 1 n xs))
  (hm:mkI P t=some (e,1,1,.int .u8 0)) (hu:P.underlying u=some .string) (l:List UInt8) (hb:n+l.length≤140737488355328)
  (hK:∀ v' w',St W0 w' F (L.set i (.row v' e 1 (n+l.length) (xs++l.map byteV))) I→Chg (fun k=>v.ownBlock=some k) w w'→(v'=.slice none 0 0↔v=.slice none 0 0∧l=[])→K v' w') :
  rawB P .append #[t,u] ty cs [v,.string (ofL l)] w K:=by
 have hr:=h.row i hi
 obtain ⟨inf,ht,hinf,hzz,hsi,hby⟩:=mkI_some hm
 have hsz:(ofL l).size=l.length:=by simp [ofL,ByteArray.size]
 obtain ⟨v',w',h1,h2,h3,h4⟩:=Lib.run_append_own_string (P:=P) (w:=w) W0.heap.size t u ty e inf ht hu hinf hzz (by first | exact hsi | exact hsi.symm) (by first | exact hby | exact hby.symm) v n xs hr (ofL l) (by rw [hsz]; have:maxLen=9223372036854775807:=(by decide); omega) (by rw [hsz]; exact hb) h.size
 have own:∀ k,v'.ownBlock=some k→v.ownBlock=some k∨w.heap.size≤k:=by
  have hml:maxLen=9223372036854775807:=by decide
  rcases hr.2 with ⟨rfl,rfl⟩ | ⟨g,cap,cur,rfl,hbg,hg,hnc,hcm,hcs,htake⟩
  ·rcases Nat.eq_zero_or_pos l.length with h0 | h0
   ·have:=h4.2 ⟨rfl,by rw [hsz]; exact h0⟩
    subst this
    intro k hk; cases hk
   ·have hrun:=run_append_nil_string (P:=P) (w:=w) t u ty e inf (.int .u8 0) ht hu hinf hzz (ofL l) (by omega) (by omega) (by rw [hsz]; first | rw [hby] | rw [← hby]; omega)
    rw [h1] at hrun
    simp only [Result.ok.injEq] at hrun
    rw [hrun.1]
    intro k hk
    simp only [Value.ownBlock,Option.some.injEq] at hk
    exact .inr (by omega)
  ·by_cases hroom:n+(ofL l).size≤cap
   ·have hcs':cur.size=cap:=by simpa using hcs
    have hrun:=Lib.run_append_room_string (P:=P) (w:=w) t u ty e inf ht hu hinf (by first | exact hsi | exact hsi.symm) g n cap cur hg (ofL l) hroom (by omega)
    rw [h1] at hrun
    simp only [Result.ok.injEq] at hrun
    rw [hrun.1]
    intro k hk
    exact .inl hk
   ·have holds:∀ j u,xs[j]?=some u→w.cell? ((⟨g,0,none⟩:Addr).add j)=some u:=hr.cells (g:=g) rfl
    have hxl:xs.length=n:=by simpa using hr.1
    have hrun:=Lib.run_append_grow_string (P:=P) (w:=w) t u ty e inf (.int .u8 0) ht hu hinf hzz ⟨g,0,none⟩ n cap xs (by first | rw [hsi] | rw [← hsi]; simpa using hxl) holds (ofL l) (by omega) (by omega) (by first | rw [hby] | rw [← hby]; exact growslice_fits (by omega) (by omega))
    rw [h1] at hrun
    simp only [Result.ok.injEq] at hrun
    rw [hrun.1]
    intro k hk
    simp only [Value.ownBlock,Option.some.injEq] at hk
    exact .inr (by omega)
 rw [hsz,strCells_ofL] at h2
 rw [hsz] at h4
 exact ⟨v',w',by simp only [builtin,Sem.run_bind,h1,Result.andThen_ok,Sem.run_pure],hK v' w' (h.grow i hi h3 h2 own) ((Chg.refl _ w).grown h3 fun k hk _=>hk) (h4.trans (by rw [List.length_eq_zero_iff]))⟩
theorem chg_freeze{S:Nat→Prop}{w0:World}(h:Chg S w0 w)(g n:Nat)(hg:S g∨w0.heap.size≤g):Chg S w0 (w.freeze ⟨g,0,none⟩ n):=by
 have hf:∀ k,k≠g→(w.freeze ⟨g,0,none⟩ n).heap[k]?=w.heap[k]?:=fun k hk=>by
  unfold World.freeze
  split
  ·rfl
  ·simp only [Array.getElem?_modify]
   rw [if_neg (fun e=>hk e.symm)]
 have hs:(w.freeze ⟨g,0,none⟩ n).heap.size=w.heap.size:=by
  unfold World.freeze
  split
  ·rfl
  ·simp only [Array.size_modify]
 refine ⟨?_,?_,?_,by rw [hs]; exact h.size,fun k hk hS=>?_⟩
 ·have:(w.freeze ⟨g,0,none⟩ n).os=w.os:=by unfold World.freeze; split <;> rfl
  rw [this]; exact h.os
 ·have:(w.freeze ⟨g,0,none⟩ n).tape=w.tape:=by unfold World.freeze; split <;> rfl
  rw [this]; exact h.tape
 ·have:(w.freeze ⟨g,0,none⟩ n).output=w.output:=by unfold World.freeze; split <;> rfl
  rw [this]; exact h.output
 ·rw [hf k (fun e=>?_)]
  ·exact h.block k hk hS
  ·subst e
   rcases hg with hg | hg
   ·exact hS hg
   ·omega
theorem rawB_sliceData{ats:Array TypeId}{ty e:TypeId}{cs:Array Bool}{a:Option Addr}{n c:Nat}(hp:P.underlying ty=some (.pointer e))(h0:a=none∧c=0∨0<c)(hK:K (.pointer a) w):rawB P .unsafeSliceData ats ty cs [.slice a n c] w K:=by
 refine ⟨_,w,?_,hK⟩
 have:(Builtin.unsafeSliceData_ ats ty #[.slice a n c]).run P w=.ok (.pointer a) w:=by
  rcases h0 with ⟨rfl,rfl⟩ | h0
  ·rfl
  ·cases a with
   | none=>rfl
   | some a=>exact Lib.run_unsafeSliceData_row _ _ _ _ _ _ (by omega)
 simp only [builtin,List.toArray,Sem.run_bind,this,Result.andThen_ok,Sem.run_pure]
theorem ofL_toArray(l:List UInt8):(⟨l.toArray⟩:ByteArray)=ofL l:=by simp [ofL]
theorem St.unsafeS{pt it ty e n:Nat}{cs:Array Bool}{a:Option Addr}{c:Nat}{l:List UInt8}(h:St W0 w F L I)(i:Nat)(hi:L[i]?=some (.row (.slice a n c) e 1 n (l.map byteV)))
  (hp:P.underlying pt=some (.pointer e)) (hc:P.cellsOf e=1) (hK:∀ w',St W0 w' F (L.set i (.row (.slice none 0 0) e 1 0 [])) I→Chg (fun k=>(Value.slice a n c).ownBlock=some k) w w'→K (.string (ofL l)) w') :
  rawB P .unsafeString #[pt,it] ty cs [.pointer a,.int .i64 n] w K:=by
 have hr:=h.row i hi
 have hln:l.length=n:=by have:=hr.1; simpa using this
 have nil:∀ w',Res.ok w' W0.heap.size (.row (.slice none 0 0) e 1 0 []):=fun w'=>⟨by simp,.inl ⟨rfl,rfl⟩⟩
 rcases Nat.eq_zero_or_pos n with h0 | h0
 ·subst h0
  obtain rfl:l=[]:=List.eq_nil_of_length_eq_zero hln
  refine ⟨.string (ofL []),w,?_,hK w (h.upd i hi (Chg.refl _ _) _ (nil w) fun k hk=>by cases hk) (Chg.refl _ _)⟩
  have:=Lib.run_unsafeString_none (P:=P) w pt it ty a
  have e0:(ofL []:ByteArray)=.empty:=rfl
  simp only [builtin,List.toArray,Sem.run_bind,Result.andThen_ok,Sem.run_pure]
  have e1:((0:Nat):Int)=0:=rfl
  rw [e1]
  show Result.andThen ((Builtin.unsafeString_ #[pt,it] ty #[.pointer a,.int .i64 0]).run P w) _=_
  rw [this,e0]; rfl
 ·rcases hr.2 with ⟨_,hz⟩ | ⟨g,cap,cur,hv,hbg,hg,hnc,hcm,hcs,htake⟩
  ·omega
  simp only [Value.slice.injEq,true_and] at hv
  obtain ⟨rfl,rfl⟩:=hv
  have hml:maxLen=9223372036854775807:=by decide
  have hrun:=Lib.run_unsafeString_row (P:=P) w pt it ty e hp hc g cur.size (by simp [World.shape?,hg]) l (by intro hl; rw [hl] at hln; simp at hln; omega) (by omega) (by omega) (fun j x hx=>hr.cells (g:=g) rfl j _ (by rw [List.getElem?_map,hx]; rfl))
  rw [hln,ofL_toArray] at hrun
  have hch:Chg (fun k=>(Value.slice (some ⟨g,0,none⟩) n c).ownBlock=some k) w (w.freeze ⟨g,0,none⟩ n):=chg_freeze (Chg.refl _ _) g n (.inl rfl)
  refine ⟨.string (ofL l),w.freeze ⟨g,0,none⟩ n,?_,hK _ (h.upd i hi hch _ (nil _) fun k hk=>by cases hk) hch⟩
  simp only [builtin,List.toArray,Sem.run_bind,Result.andThen_ok,Sem.run_pure]
  show Result.andThen ((Builtin.unsafeString_ #[pt,it] ty #[.pointer (some ⟨g,0,none⟩),.int .i64 n]).run P w) _=_
  rw [hrun]; rfl
end
end Go.Ann

namespace Go.Ann
open Go Go.RowKit
section
variable {P:Program} {S:World→Prop} {w:World} {K:Value→World→Prop} {ρ:Env} {Q:Post} {r:GT} {L:List Nat} {d:Option Nat} {ty:TypeId} {op:Op}
theorem opT_3:opT P S 3 op ty r L ρ d w Q=(noY ρ op∧opW P op ty ρ w (DTn P S r L ρ d Q)):=(rfl)
end
attribute [go_sem] opT_3
end Go.Ann

namespace Go.Ann
open Go Go.RowKit
section
variable {P:Program} {N:Nat}
abbrev defO:Obj:=.deferred (some [])
structure RgS{σ:Type}(S:σ→List Res→World→Prop):Prop where
 obj:∀ {s l o R w},S s (.obj l o::R) w→w.heap[l]?=some o
 put:∀ {s l o R w} (o2:Obj),S s (.obj l o::R) w→S s (.obj l o2::R) (w.putObj l o2)
 drop:∀ {s r R w},S s (r::R) w→S s R w
 lay:∀ {s R w} (o:Obj),S s R w→S s (.obj w.heap.size o::R) (w.alloc o)
theorem RangeW_free{g:Operand}{ps:List Nat}{A B:Cmd}{ρ:Env}{w:World}{Q:Post}{α σ:Type}{gf:Nat}{lb:Array Value}{S:σ→List Res→World→Prop}(hS:RgS S)
  (encs:α→List Value) (s0:σ) (Ok:σ→α→Prop) (Step Stop:σ→α→σ→Prop) (End Halt:σ→Prop)
  (hg:ev ρ g=some (.func (.func gf) #[] lb)) (hgo:goFunc P gf=true) (s:S s0 [] w) (hlen:∀ x,(encs x).length=ps.length)
  (hit:∀ (fv:Value) (l D:Nat) (o o':Obj) (w1:World),(∀ x s w',Ok s x→S s [.obj l o,.obj D defO] w'→callW P fv (encs x) w' fun v w''=>(v=.bool true∧∃ s',Step s x s'∧S s' [.obj l o,.obj D defO] w'')∨(v=.bool false∧∃ s',Stop s x s'∧S s' [.obj l o',.obj D defO] w'')) →
   S s0 [.obj l o,.obj D defO] w1→Ret P gf (fv::lb.toList) w1 fun _ w'=>(∃ s,End s∧S s [.obj l o,.obj D defO] w')∨(∃ s,Halt s∧S s [.obj l o',.obj D defO] w'))
  (hbody:∀ x s w' l D o o2,Ok s x→S s [.obj l o,.obj D defO] w'→W P A (zipE ps (encs x) (lowE ρ)) w' fun e ρ1 w1=>match e with
   | .normal=>∃ s1,S s1 [.obj l o,.obj D defO] w1∧∀ w2,S s1 [.obj l o2,.obj D defO] w2→W P B ρ1 w2 fun e2 _ w3=>match e2 with
    | .normal=>∃ s',Step s x s'∧S s' [.obj l o2,.obj D defO] w3
    | .ret=>∃ s',Stop s x s'∧S s' [.obj l o2,.obj D defO] w3
    | _=>False
   | _=>False)
  (hdone:∀ s D w',End s→S s [.obj D defO] w'→Q .normal ((D+1000000,undef)::ρ) w')
  (hret:∀ s D w',Halt s→S s [.obj D defO] w'→Q .ret ((D+1000000,undef)::ρ) w'):RangeW P g ps A B ρ w Q:=by
 intro N a ca cb hca hcb hra hrb hps hs
 refine wpIn_rangeFunc fun fn _=>?_
 obtain ⟨rec,hrec⟩:∃ rec:LoopState→Option Code→Loop,rec=fun st pe=>{ state:=st,pending:=pe,fn,tmps:=a.tmps,params:=ps.toArray,assign:=ca,body:=cb,defers:=w.heap.size }:=⟨_,rfl⟩
 have hs1:S s0 [.obj (w.heap.size+1) (.loop (rec .ready none)),.obj w.heap.size defO] ((w.alloc (.deferred (some []))).alloc (.loop (rec .ready none))):=by
  have:=hS.lay (.loop (rec .ready none)) (hS.lay (.deferred (some [])) s)
  rw [World.size_alloc] at this
  exact this
 generalize hw1:(w.alloc (.deferred (some []))).alloc (.loop (rec .ready none))=w1 at hs1
 refine ⟨w.heap.size+1,[{ target:=.collected w.heap.size,args:=#[] }],w1,{ target:=.fn (.func gf) lb,args:=#[.func (.yield (w.heap.size+1)) #[] #[]] },w1,gf,
  #[.func (.yield (w.heap.size+1)) #[] #[]]++lb,w1,?_,?_,?_,?_,fun _=>by decide,?_⟩
 ·rw [← hw1,hrec]; exact run_enterLoop_outer _ _ _ _ _
 ·simp only [resolve,hs.eval _ _ hg]
  simp [go_sem]
 ·intro f' _; exact trivial
 ·simp [invoke,go_sem,callFunc_run hgo]
 ·generalize w.heap.size+1=l at hs1 ⊢
  generalize w.heap.size=D at hrec hs1 ⊢
  have key:=hit (.func (.yield l) #[] #[]) l D (.loop (rec .ready none)) (.loop (rec .done (some .ret))) w1 ?_ hs1
  ·have e:#[Value.func (.yield l) #[] #[]]++lb=(Value.func (.yield l) #[] #[]::lb.toList).toArray:=by simp
   rw [e]
   refine CallsIn.mono (callsIn_wide.2 key) fun e w2 ⟨v,he,h2⟩=>?_
   subst he
   rcases h2 with ⟨y,hy,h2⟩ | ⟨z,hz,h2⟩
   ·have hl:=hS.obj h2
    refine ⟨none,w2.putObj l (.loop { rec .ready none with state:=.exhausted }),?_,?_⟩
    ·have:=run_endLoop (P:=P) hl (by rw [hrec]; simp)
     rw [hrec] at this ⊢
     exact this
    ·exact ⟨_,hs.mark D,hdone y D _ hy (hS.drop (hS.put (.loop { rec .ready none with state:=.exhausted }) h2))⟩
   ·have hl:=hS.obj h2
    refine ⟨some .ret,w2.putObj l (.loop { rec .done (some .ret) with state:=.exhausted }),?_,?_⟩
    ·have:=run_endLoop (P:=P) hl (by rw [hrec]; simp)
     rw [hrec] at this ⊢
     exact this
    ·exact wpIn_ret ⟨_,hs.mark D,hret z D _ hz (hS.drop (hS.put (.loop { rec .done (some .ret) with state:=.exhausted }) h2))⟩
  ·intro x y w' hx h
   have hl:=hS.obj h
   have hsz:(encs x).toArray.size=(rec .ready none).params.size:=by rw [hrec]; simp [hlen]
   have hy:=run_yield (P:=P) hl hsz
   rw [hrec] at hy
   refine ⟨rfl,rfl,fn,_,ca,cb,hy,?_⟩
   refine roundIn_of_wpIn trivial ?_
   have hsim:Sim N { tmps:=((ps.toArray.zip (encs x).toArray).foldl (fun t (p,v)=>t.setIfInBounds p v) a.tmps),defers:=[] } (zipE ps (encs x) (lowE ρ)):=by
    have:=Sim.zipE (a:={ tmps:=a.tmps,defers:=[] }) ps (encs x) (lowE ρ) a.tmps hps hs.lowE
    rw [← Array.foldl_toList,Array.toList_zip]
    exact this
   have hA:=W_sound (r:=some l) (n:=0) ca A hca (.inl hra) _ w' _ _ hsim (hbody x y w' l D _ (.loop { rec .ready none with state:=.busy }) hx h)
   refine wpIn_mono hA fun e a1 w1 hh=>?_
   obtain ⟨ρ1,hs1,hq⟩:=hh
   cases e with
   | normal =>
    obtain ⟨M,hM,hB⟩:=hq
    have hl1:=hS.obj hM
    refine ⟨_,run_beginRound hl1 (by rw [hrec]),?_⟩
    have hB':=W_sound (r:=some l) (n:=0) cb B hcb (.inl hrb) _ _ _ a1 hs1 (hB _ (hS.put _ hM))
    refine wpIn_mono hB' fun e2 a2 w2 hh=>?_
    obtain ⟨ρ2,hs2,hq2⟩:=hh
    cases e2 with
    | normal =>
     obtain ⟨y',hst,hq2⟩:=hq2
     have hl2:=hS.obj hq2
     have he:=run_endRound (P:=P) none hl2
     refine ⟨.bool true,w2.putObj l (.loop (rec .ready none)),?_,.bool true,rfl,.inl ⟨rfl,?_⟩⟩
     ·rw [hrec] at he ⊢; exact he
     ·exact ⟨y',hst,hS.put _ hq2⟩
    | ret =>
     obtain ⟨z,hst,hq2⟩:=hq2
     have hl2:=hS.obj hq2
     have he:=run_endRound (P:=P) (some .ret) hl2
     refine ⟨.bool false,w2.putObj l (.loop (rec .done (some .ret))),?_,.bool false,rfl,.inr ⟨rfl,?_⟩⟩
     ·rw [hrec] at he ⊢; exact he
     ·exact ⟨z,hst,hS.put _ hq2⟩
    | _=>exact hq2.elim
   | _=>exact hq.elim
end
end Go.Ann

namespace Go.Ann
open Go Go.RowKit
section
variable {P:Program} {N:Nat}
theorem W_rangeG{g:Operand}{ps L:List Nat}{a:Cmd}{b:Nat→Cmd}{ρ:Env}{w:World}{Q:Post}:W P (.rangeG g ps a b L) ρ w Q=RangeG P g ps a b ρ w (keepQ L Q):=(rfl)
theorem W_rangeN{l:Nat}{g:Operand}{ps L:List Nat}{a b:Cmd}{ρ:Env}{w:World}{Q:Post}:W P (.rangeN l g ps a b L) ρ w Q=RangeN P l g ps a b ρ w (keepQ L Q):=(rfl)
attribute [go_sem] W_rangeG W_rangeN
def JumpOk(jc:Code)(je:Exit):Prop:=(jc=.ret∧je=.ret)∨∃ id,jc=.exit id∧je=.exit id
theorem jump_ret:JumpOk .ret .ret:=.inl ⟨rfl,rfl⟩
theorem RangeG_free{g:Operand}{ps:List Nat}{A:Cmd}{B:Nat→Cmd}{ρ:Env}{w:World}{Q:Post}{α σ:Type}{gf:Nat}{lb:Array Value}{S:σ→List Res→World→Prop}(hS:RgS S)
  (encs:α→List Value) (s0:σ) (Ok:σ→α→Prop) (Step Stop:σ→α→σ→Prop) (End Halt:σ→Prop)
  (hg:ev ρ g=some (.func (.func gf) #[] lb)) (hgo:goFunc P gf=true) (s:S s0 [] w) (hlen:∀ x,(encs x).length=ps.length) (jc:Code) (je:Exit) (hj:JumpOk jc je) (hB:∀ l,(B l).inL l)
  (hit:∀ (fv:Value) (l D:Nat) (o o':Obj) (w1:World),(∀ x s w',Ok s x→S s [.obj l o,.obj D defO] w'→callW P fv (encs x) w' fun v w''=>(v=.bool true∧∃ s',Step s x s'∧S s' [.obj l o,.obj D defO] w'')∨(v=.bool false∧∃ s',Stop s x s'∧S s' [.obj l o',.obj D defO] w'')) →
   S s0 [.obj l o,.obj D defO] w1→Ret P gf (fv::lb.toList) w1 fun _ w'=>(∃ s,End s∧S s [.obj l o,.obj D defO] w')∨(∃ s,Halt s∧S s [.obj l o',.obj D defO] w'))
  (hbody:∀ x s w' l D o (r2:Loop),Ok s x→S s [.obj l o,.obj D defO] w'→W P A (zipE ps (encs x) (lowE ρ)) w' fun e ρ1 w1=>match e with
   | .normal=>∃ s1,S s1 [.obj l o,.obj D defO] w1∧∀ w2,S s1 [.obj l (.loop r2),.obj D defO] w2→W P (B l) ρ1 w2 fun e2 _ w3=>match e2 with
    | .normal=>∃ s',Step s x s'∧S s' [.obj l (.loop r2),.obj D defO] w3
    | e2=>e2=je∧∃ s',Stop s x s'∧S s' [.obj l (.loop r2),.obj D defO] w3
   | _=>False)
  (hdone:∀ s D w',End s→S s [.obj D defO] w'→Q .normal ((D+1000000,undef)::ρ) w')
  (hret:∀ s D w',Halt s→S s [.obj D defO] w'→Q je ((D+1000000,undef)::ρ) w'):RangeG P g ps A B ρ w Q:=by
 intro N a ca cb hca hcb hra hrb hps hs
 refine wpIn_rangeFunc fun fn _=>?_
 obtain ⟨rec,hrec⟩:∃ rec:LoopState→Option Code→Loop,rec=fun st pe=>{ state:=st,pending:=pe,fn,tmps:=a.tmps,params:=ps.toArray,assign:=ca,body:=cb,defers:=w.heap.size }:=⟨_,rfl⟩
 have hs1:S s0 [.obj (w.heap.size+1) (.loop (rec .ready none)),.obj w.heap.size defO] ((w.alloc (.deferred (some []))).alloc (.loop (rec .ready none))):=by
  have:=hS.lay (.loop (rec .ready none)) (hS.lay (.deferred (some [])) s)
  rw [World.size_alloc] at this
  exact this
 generalize hw1:(w.alloc (.deferred (some []))).alloc (.loop (rec .ready none))=w1 at hs1
 refine ⟨w.heap.size+1,[{ target:=.collected w.heap.size,args:=#[] }],w1,{ target:=.fn (.func gf) lb,args:=#[.func (.yield (w.heap.size+1)) #[] #[]] },w1,gf,
  #[.func (.yield (w.heap.size+1)) #[] #[]]++lb,w1,?_,?_,?_,?_,fun _=>by decide,?_⟩
 ·rw [← hw1,hrec]; exact run_enterLoop_outer _ _ _ _ _
 ·simp only [resolve,hs.eval _ _ hg]
  simp [go_sem]
 ·intro f' _; exact trivial
 ·simp [invoke,go_sem,callFunc_run hgo]
 ·generalize w.heap.size+1=l at hs1 ⊢
  generalize w.heap.size=D at hrec hs1 ⊢
  have key:=hit (.func (.yield l) #[] #[]) l D (.loop (rec .ready none)) (.loop (rec .done (some jc))) w1 ?_ hs1
  ·have e:#[Value.func (.yield l) #[] #[]]++lb=(Value.func (.yield l) #[] #[]::lb.toList).toArray:=by simp
   rw [e]
   refine CallsIn.mono (callsIn_wide.2 key) fun e w2 ⟨v,he,h2⟩=>?_
   subst he
   rcases h2 with ⟨y,hy,h2⟩ | ⟨z,hz,h2⟩
   ·have hl:=hS.obj h2
    refine ⟨none,w2.putObj l (.loop { rec .ready none with state:=.exhausted }),?_,?_⟩
    ·have:=run_endLoop (P:=P) hl (by rw [hrec]; simp)
     rw [hrec] at this ⊢
     exact this
    ·exact ⟨_,hs.mark D,hdone y D _ hy (hS.drop (hS.put (.loop { rec .ready none with state:=.exhausted }) h2))⟩
   ·have hl:=hS.obj h2
    refine ⟨some jc,w2.putObj l (.loop { rec .done (some jc) with state:=.exhausted }),?_,?_⟩
    ·have:=run_endLoop (P:=P) hl (by rw [hrec]; simp)
     rw [hrec] at this ⊢
     exact this
    ·have fin:=hret z D _ hz (hS.drop (hS.put (.loop { rec .done (some jc) with state:=.exhausted }) h2))
     rcases hj with ⟨rfl,rfl⟩ | ⟨id,rfl,rfl⟩
     ·exact wpIn_ret ⟨_,hs.mark D,fin⟩
     ·exact wpIn_exit ⟨_,hs.mark D,fin⟩
  ·intro x y w' hx h
   have hl:=hS.obj h
   have hsz:(encs x).toArray.size=(rec .ready none).params.size:=by rw [hrec]; simp [hlen]
   have hy:=run_yield (P:=P) hl hsz
   rw [hrec] at hy
   refine ⟨rfl,rfl,fn,_,ca,cb,hy,?_⟩
   refine roundIn_of_wpIn trivial ?_
   have hsim:Sim N { tmps:=((ps.toArray.zip (encs x).toArray).foldl (fun t (p,v)=>t.setIfInBounds p v) a.tmps),defers:=[] } (zipE ps (encs x) (lowE ρ)):=by
    have:=Sim.zipE (a:={ tmps:=a.tmps,defers:=[] }) ps (encs x) (lowE ρ) a.tmps hps hs.lowE
    rw [← Array.foldl_toList,Array.toList_zip]
    exact this
   have hA:=W_sound (r:=some l) (n:=0) ca A hca (.inl hra) _ w' _ _ hsim (hbody x y w' l D _ { rec .ready none with state:=.busy } hx h)
   refine wpIn_mono hA fun e a1 w1 hh=>?_
   obtain ⟨ρ1,hs1,hq⟩:=hh
   cases e with
   | normal =>
    obtain ⟨M,hM,hBd⟩:=hq
    have hl1:=hS.obj hM
    refine ⟨_,run_beginRound hl1 (by rw [hrec]),?_⟩
    have hB':=W_sound2 (l:=l) (n:=0) cb (B l) (hcb l) (hB l) hrb _ _ _ a1 hs1 (hBd _ (hS.put _ hM))
    refine wpIn_mono hB' fun e2 a2 w2 hh=>?_
    obtain ⟨ρ2,hs2,hq2⟩:=hh
    cases e2 with
    | normal =>
     obtain ⟨y',hst,hq2⟩:=hq2
     have hl2:=hS.obj hq2
     have he:=run_endRound (P:=P) none hl2
     refine ⟨.bool true,w2.putObj l (.loop (rec .ready none)),?_,.bool true,rfl,.inl ⟨rfl,?_⟩⟩
     ·rw [hrec] at he ⊢; exact he
     ·exact ⟨y',hst,hS.put _ hq2⟩
    | ret =>
     obtain ⟨hje,z,hst,hq2⟩:=hq2
     have hl2:=hS.obj hq2
     have he:=run_endRound (P:=P) (some jc) hl2
     have hjc:jc=.ret:=by
      rcases hj with ⟨rfl,_⟩ | ⟨id,_,rfl⟩
      ·rfl
      ·cases hje
     refine ⟨.bool false,w2.putObj l (.loop (rec .done (some jc))),?_,.bool false,rfl,.inr ⟨rfl,?_⟩⟩
     ·rw [hrec] at he ⊢; rw [hjc] at he ⊢; exact he
     ·exact ⟨z,hst,hS.put _ hq2⟩
    | exit id =>
     obtain ⟨hje,z,hst,hq2⟩:=hq2
     have hl2:=hS.obj hq2
     have he:=run_endRound (P:=P) (some jc) hl2
     have hjc:jc=.exit id:=by
      rcases hj with ⟨_,rfl⟩ | ⟨id',rfl,rfl⟩
      ·cases hje
      ·cases hje; rfl
     refine ⟨.bool false,w2.putObj l (.loop (rec .done (some jc))),?_,.bool false,rfl,.inr ⟨rfl,?_⟩⟩
     ·rw [hrec] at he ⊢; rw [hjc] at he ⊢; exact he
     ·exact ⟨z,hst,hS.put _ hq2⟩
    | _ =>
     obtain ⟨hje,_⟩:=hq2
     rcases hj with ⟨_,rfl⟩ | ⟨id',_,rfl⟩ <;> cases hje
   | _=>exact hq.elim
theorem RangeN_free{l0:Nat}{r0:Loop}{g:Operand}{ps:List Nat}{A B:Cmd}{ρ:Env}{w:World}{Q:Post}{α σ:Type}{gf:Nat}{lb:Array Value}{S:σ→List Res→World→Prop}(hS:RgS S)
  (encs:α→List Value) (s0:σ) (Ok:σ→α→Prop) (Step Stop:σ→α→σ→Prop) (End Halt:σ→Prop)
  (hg:ev ρ g=some (.func (.func gf) #[] lb)) (hgo:goFunc P gf=true) (s:S s0 [] w) (hlen:∀ x,(encs x).length=ps.length) (jc:Code) (je:Exit) (hj:JumpOk jc je) (hl0:w.heap[l0]?=some (.loop r0))
  (hit:∀ (fv:Value) (l:Nat) (o o':Obj) (w1:World),(∀ x s w',Ok s x→S s [.obj l o] w'→callW P fv (encs x) w' fun v w''=>(v=.bool true∧∃ s',Step s x s'∧S s' [.obj l o] w'')∨(v=.bool false∧∃ s',Stop s x s'∧S s' [.obj l o'] w'')) →
   S s0 [.obj l o] w1→Ret P gf (fv::lb.toList) w1 fun _ w'=>(∃ s,End s∧S s [.obj l o] w')∨(∃ s,Halt s∧S s [.obj l o'] w'))
  (hbody:∀ x s w' l o (r2:Loop),Ok s x→S s [.obj l o] w'→W P A (zipE ps (encs x) (lowE ρ)) w' fun e ρ1 w1=>match e with
   | .normal=>∃ s1,S s1 [.obj l o] w1∧∀ w2,S s1 [.obj l (.loop r2)] w2→W P B ρ1 w2 fun e2 _ w3=>match e2 with
    | .normal=>∃ s',Step s x s'∧S s' [.obj l (.loop r2)] w3
    | e2=>e2=je∧∃ s',Stop s x s'∧S s' [.obj l (.loop r2)] w3
   | _=>False)
  (hdone:∀ s w',End s→S s [] w'→Q .normal ρ w')
  (hret:∀ s w',Halt s→S s [] w'→Q je ρ w'):RangeN P l0 g ps A B ρ w Q:=by
 intro N n a ca cb hca hcb hra hrb hps hs
 refine wpIn_rangeFunc fun fn _=>?_
 obtain ⟨rec,hrec⟩:∃ rec:LoopState→Option Code→Loop,rec=fun st pe=>{ state:=st,pending:=pe,fn,tmps:=a.tmps,params:=ps.toArray,assign:=ca,body:=cb,defers:=r0.defers }:=⟨_,rfl⟩
 have hs1:S s0 [.obj w.heap.size (.loop (rec .ready none))] (w.alloc (.loop (rec .ready none))):=hS.lay (.loop (rec .ready none)) s
 generalize hw1:w.alloc (.loop (rec .ready none))=w1 at hs1
 refine ⟨w.heap.size,[],w1,{ target:=.fn (.func gf) lb,args:=#[.func (.yield w.heap.size) #[] #[]] },w1,gf,
  #[.func (.yield w.heap.size) #[] #[]]++lb,w1,?_,?_,?_,?_,(fun h=>by cases h),?_⟩
 ·rw [← hw1,hrec]; exact run_enterLoop_inner hl0 _ _ _ _ _
 ·simp only [resolve,hs.eval _ _ hg]
  simp [go_sem]
 ·intro f' _; exact trivial
 ·simp [invoke,go_sem,callFunc_run hgo]
 ·generalize w.heap.size=l at hs1 ⊢
  have key:=hit (.func (.yield l) #[] #[]) l (.loop (rec .ready none)) (.loop (rec .done (some jc))) w1 ?_ hs1
  ·have e:#[Value.func (.yield l) #[] #[]]++lb=(Value.func (.yield l) #[] #[]::lb.toList).toArray:=by simp
   rw [e]
   refine CallsIn.mono (calls_FR (r:=some l0) key) fun e w2 ⟨v,he,h2⟩=>?_
   subst he
   rcases h2 with ⟨y,hy,h2⟩ | ⟨z,hz,h2⟩
   ·have hl:=hS.obj h2
    refine ⟨none,w2.putObj l (.loop { rec .ready none with state:=.exhausted }),?_,?_⟩
    ·have:=run_endLoop (P:=P) hl (by rw [hrec]; simp)
     rw [hrec] at this ⊢
     exact this
    ·exact ⟨_,hs,hdone y _ hy (hS.drop (hS.put (.loop { rec .ready none with state:=.exhausted }) h2))⟩
   ·have hl:=hS.obj h2
    refine ⟨some jc,w2.putObj l (.loop { rec .done (some jc) with state:=.exhausted }),?_,?_⟩
    ·have:=run_endLoop (P:=P) hl (by rw [hrec]; simp)
     rw [hrec] at this ⊢
     exact this
    ·have fin:=hret z _ hz (hS.drop (hS.put (.loop { rec .done (some jc) with state:=.exhausted }) h2))
     rcases hj with ⟨rfl,rfl⟩ | ⟨id,rfl,rfl⟩
     ·exact wpIn_ret ⟨_,hs,fin⟩
     ·exact wpIn_exit ⟨_,hs,fin⟩
  ·intro x y w' hx h
   have hl:=hS.obj h
   have hsz:(encs x).toArray.size=(rec .ready none).params.size:=by rw [hrec]; simp [hlen]
   have hy:=run_yield (P:=P) hl hsz
   rw [hrec] at hy
   refine ⟨rfl,rfl,fn,_,ca,cb,hy,?_⟩
   refine roundIn_of_wpIn trivial ?_
   have hsim:Sim N { tmps:=((ps.toArray.zip (encs x).toArray).foldl (fun t (p,v)=>t.setIfInBounds p v) a.tmps),defers:=[] } (zipE ps (encs x) (lowE ρ)):=by
    have:=Sim.zipE (a:={ tmps:=a.tmps,defers:=[] }) ps (encs x) (lowE ρ) a.tmps hps hs.lowE
    rw [← Array.foldl_toList,Array.toList_zip]
    exact this
   have hA:=W_sound (r:=some l) (n:=0) ca A hca (.inl hra) _ w' _ _ hsim (hbody x y w' l _ { rec .ready none with state:=.busy } hx h)
   refine wpIn_mono hA fun e a1 w1 hh=>?_
   obtain ⟨ρ1,hs1,hq⟩:=hh
   cases e with
   | normal =>
    obtain ⟨M,hM,hBd⟩:=hq
    have hl1:=hS.obj hM
    refine ⟨_,run_beginRound hl1 (by rw [hrec]),?_⟩
    have hB':=W_sound (r:=some l) (n:=0) cb B hcb (.inl hrb) _ _ _ a1 hs1 (hBd _ (hS.put _ hM))
    refine wpIn_mono hB' fun e2 a2 w2 hh=>?_
    obtain ⟨ρ2,hs2,hq2⟩:=hh
    cases e2 with
    | normal =>
     obtain ⟨y',hst,hq2⟩:=hq2
     have hl2:=hS.obj hq2
     have he:=run_endRound (P:=P) none hl2
     refine ⟨.bool true,w2.putObj l (.loop (rec .ready none)),?_,.bool true,rfl,.inl ⟨rfl,?_⟩⟩
     ·rw [hrec] at he ⊢; exact he
     ·exact ⟨y',hst,hS.put _ hq2⟩
    | ret =>
     obtain ⟨hje,z,hst,hq2⟩:=hq2
     have hl2:=hS.obj hq2
     have he:=run_endRound (P:=P) (some jc) hl2
     have hjc:jc=.ret:=by
      rcases hj with ⟨rfl,_⟩ | ⟨id,_,rfl⟩
      ·rfl
      ·cases hje
     refine ⟨.bool false,w2.putObj l (.loop (rec .done (some jc))),?_,.bool false,rfl,.inr ⟨rfl,?_⟩⟩
     ·rw [hrec] at he ⊢; rw [hjc] at he ⊢; exact he
     ·exact ⟨z,hst,hS.put _ hq2⟩
    | exit id =>
     obtain ⟨hje,z,hst,hq2⟩:=hq2
     have hl2:=hS.obj hq2
     have he:=run_endRound (P:=P) (some jc) hl2
     have hjc:jc=.exit id:=by
      rcases hj with ⟨_,rfl⟩ | ⟨id',rfl,rfl⟩
      ·cases hje
      ·cases hje; rfl
     refine ⟨.bool false,w2.putObj l (.loop (rec .done (some jc))),?_,.bool false,rfl,.inr ⟨rfl,?_⟩⟩
     ·rw [hrec] at he ⊢; rw [hjc] at he ⊢; exact he
     ·exact ⟨z,hst,hS.put _ hq2⟩
    | _ =>
     obtain ⟨hje,_⟩:=hq2
     rcases hj with ⟨_,rfl⟩ | ⟨id',_,rfl⟩ <;> cases hje
   | _=>exact hq.elim
end
end Go.Ann

namespace Go.Ann
open Go
abbrev zA:=@World.size_alloc
abbrev zB:=@World.size_drew
abbrev zC:=@World.size_setCell
abbrev zD:=@size_fill
abbrev zF:=@okFill_t
abbrev zG:=@okSize_t
end Go.Ann

end
