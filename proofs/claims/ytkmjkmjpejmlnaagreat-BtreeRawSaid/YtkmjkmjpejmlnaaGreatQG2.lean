/- Texts put together by program. -/
import Derived.Test.YtkmjkmjpejmlnaaGreatQG1
set_option linter.unusedSimpArgs false
set_option linter.unusedVariables false
set_option maxRecDepth 100000
noncomputable section

namespace Go.Ann
open Go Go.RowKit
attribute [go_sem] storeW_fill List.setIfInBounds_toArray List.set_cons_zero List.set_cons_succ List.getElem_toArray List.getElem_cons_zero List.getElem_cons_succ Nat.reduceLeDiff Nat.reduceSub okSt_nil okSt_cons fillO_some fillO_none cF_same cF_blk fF_any size_fill Value.oneCell' Int.toNat_natCast Int.cast_ofNat_Int cast0 cast1 Int.natCast_add add_block add_off Classical.not_not decide_not Bool.not_eq_false decide_true decide_false Bool.true_beq Bool.false_beq beq_true beq_false Bool.true_bne Bool.false_bne Bool.bne_true Bool.bne_false decide_eq_true_eq Bool.not_eq_eq_eq_not Nat.mul_one List.size_toArray List.length_cons List.length_nil Nat.le_refl ldK_int ldK_bool ldK_str ldK_slice ldK_ptr ldK_map ldK_agg ldK_other ldO_int ldO_bool ldO_str ldO_slice ldO_ptr ldO_map ldO_other ldA_some cellsO_new cellsO_nil cellsC_some cellsO_drew cellsO_alloc cA_add cS_add cA_new cA_old fA_new fA_old setO_some cS_same cS_off cS_blk World.cell?_drew World.frozen?_drew World.frozen?_setCell World.size_alloc World.size_drew World.size_setCell heldX_eq heldX_add chg_refl chg_drew ovr_nil ovr_cons Option.getD_some Option.getD_none Addr.add_lit Nat.add_zero Option.some.injEq exists_eq' exists_eq_left' Value.int.injEq Value.bool.injEq Value.pointer.injEq Value.string.injEq
end Go.Ann
section
attribute [go_sem_proc] reduceCtorEq Nat.reduceBEq Nat.reduceEqDiff Nat.reduceAdd Nat.reduceMul Int.reduceNe Int.reduceEq Int.reduceLT Int.reduceLE Int.reduceNeg Int.reduceAdd Int.reduceSub Int.reduceMul Int.reduceToNat
attribute [go_sem_proc ↓] reduceIte
attribute [go_sem] beq_self_eq_true
end

namespace Go.Ann
open Go Go.RowKit
attribute [go_sem_proc] reduceCtorEq Nat.reduceBEq Nat.reduceEqDiff Nat.reduceAdd Nat.reduceMul Int.reduceNe Int.reduceEq Int.reduceLT Int.reduceLE Int.reduceNeg Int.reduceAdd Int.reduceSub Int.reduceMul Int.reduceToNat
attribute [go_sem_proc ↓] reduceIte
attribute [go_sem] beq_self_eq_true
section
variable {κ ν:Type} {P:Program} {ek:κ→Value} {ev:ν→Value} {t:TypeId}
def entG(ek:κ→Value)(ev:ν→Value)(x:κ × ν × Nat):MapEntry:={ key:=ek x.1,val:=ev x.2.1,born:=x.2.2 }
def mapG(ek:κ→Value)(ev:ν→Value)(l:List (κ × ν × Nat))(c:Nat):Obj:=.map (l.map (entG ek ev)).toArray c
theorem mmG{m:TypeId}{w:World}{K:Value→World→Prop}(hK:K (.map (some w.heap.size)) (w.alloc (mapG ek ev [] 0))):mmW P m w K:=by
 refine ⟨_,_,?_,hK⟩
 unfold Instr.makeMap
 simp [Sem.run_bind,Result.andThen,run_newObj_alloc]
 rfl
variable [DecidableEq κ]
def getM(a:κ):List (κ × ν × Nat)→Option ν
 | []=>none
 | x::l=>if a=x.1 then some x.2.1 else getM a l
def setM(a:κ)(v:ν)(c:Nat):List (κ × ν × Nat)→List (κ × ν × Nat)
 | []=>[(a,v,c)]
 | x::l=>if a=x.1 then (x.1,v,x.2.2)::l else x::setM a v c l
def whereM(ev:ν→Value)(a:κ):List (κ × ν × Nat)→Nat→Option (Nat × Value)
 | [],_=>none
 | x::l,i=>if a=x.1 then some (i,ev x.2.1) else whereM ev a l (i+1)
theorem whereM_get(a:κ):∀ (l:List (κ × ν × Nat)) (i:Nat),(whereM ev a l i).map Prod.snd=(getM a l).map ev
 | [],_=>rfl
 | x::l,i=>by
  simp only [whereM,getM]
  split
  ·rfl
  ·exact whereM_get a l (i+1)
variable {d:TypeDesc}
theorem findNow_G(hk:KeyT P t ek d)(a:κ):∀ (l:List (κ × ν × Nat)) (i:Nat),Instr.findNow d (ek a) (l.map (entG ek ev)) i=none∨Instr.findNow d (ek a) (l.map (entG ek ev)) i=some (whereM ev a l i)
 | [],i=>.inr rfl
 | b::l,i=>by
  simp only [List.map_cons,entG,Instr.findNow,whereM]
  rcases hk.now a b.1 with h | h
  ·exact .inl (by rw [h])
  ·rw [h]
   by_cases e:a=b.1
   ·rw [decide_eq_true e,if_pos e]; exact .inr rfl
   ·rw [decide_eq_false e,if_neg e]; exact findNow_G hk a l _
theorem findAsk_G(hk:KeyT P t ek d)(w:World)(a:κ):∀ (l:List (κ × ν × Nat)) (i:Nat),(Instr.findAsking t (ek a) (l.map (entG ek ev)) i).run P w=.ok (whereM ev a l i) w
 | [],i=>rfl
 | b::l,i=>by
  simp only [List.map_cons,entG,Instr.findAsking,whereM,Sem.run_bind,hk.eq w a b.1,Result.andThen_ok]
  by_cases e:a=b.1
  ·rw [decide_eq_true e,if_pos e]; rfl
  ·rw [decide_eq_false e,if_neg e]
   simp only [Bool.false_eq_true,if_false]
   exact findAsk_G hk w a l _
theorem findKey_G(hk:KeyT P t ek d)(w:World)(a:κ)(l:List (κ × ν × Nat)):(Instr.findKey t (ek a) (l.map (entG ek ev))).run P w=.ok (whereM ev a l 0) w:=by
 unfold Instr.findKey
 simp only [Sem.run_bind,run_underlying hk.und,Result.andThen_ok]
 rcases findNow_G (ev:=ev) hk a l 0 with h | h
 ·rw [h]; exact findAsk_G hk w a l 0
 ·rw [h]; rfl
def luG(ev:ν→Value)(z:Value):Option ν→Bool→Value
 | some v,true=>.tuple #[ev v,.bool true]
 | none,true=>.tuple #[z,.bool false]
 | some v,false=>ev v
 | none,false=>z
theorem luG_map{m e:TypeId}{w:World}{K:Value→World→Prop}{r c:Nat}{ok:Bool}{z:Value}(hk:KeyT P t ek d)(hm:P.underlying m=some (.map t e)){l:List (κ × ν × Nat)}(hr:w.heap[r]?=some (mapG ek ev l c))(a:κ)
  (hz:(zeroValue e).run P w=.ok z w) (hK:K (luG ev z (getM a l) ok) w):luW P m (.map (some r)) (ek a) ok w K:=by
 refine ⟨_,_,?_,hK⟩
 unfold Instr.lookup
 have hg:(getObj r).run P w=.ok (.map (l.map (entG ek ev)).toArray c) w:=run_getObj_map w r _ _ hr
 simp only [Sem.run_bind,run_underlying hm,Result.andThen_ok,hg,Sem.run_pure,hk.chk,findKey_G hk,List.toList_toArray]
 have h:=whereM_get (ev:=ev) a l 0
 cases hw:whereM ev a l 0 with
 | some p =>
  rw [hw] at h
  cases hg2:getM a l with
  | none=>rw [hg2] at h; cases h
  | some v =>
   rw [hg2] at h
   obtain ⟨pj,pv⟩:=p
   simp only [Option.map_some,Option.some.injEq] at h
   subst h
   cases ok <;> rfl
 | none =>
  rw [hw] at h
  cases hg2:getM a l with
  | some v=>rw [hg2] at h; cases h
  | none =>
   simp only [Sem.run_bind,hz,Result.andThen_ok]
   cases ok <;> rfl
theorem whereM_set(a:κ)(v:ν)(c:Nat):∀ (l:List (κ × ν × Nat)) (i j:Nat) (u:Value),whereM ev a l i=some (j,u)→i≤j∧j - i<l.length∧(∃ x,(l.map (entG ek ev))[j - i]?=some (entG ek ev x)∧x.1=a)∧(setM a v c l).map (entG ek ev)=(l.map (entG ek ev)).modify (j - i) (fun e=>{ e with key:=ek a,val:=ev v })
 | [],_,_,_,h=>by cases h
 | x::l,i,j,u,h=>by
  simp only [whereM] at h
  split at h
  ·rename_i e
   simp only [Option.some.injEq,Prod.mk.injEq] at h
   obtain ⟨rfl,rfl⟩:=h
   refine ⟨Nat.le_refl _,by simp,⟨x,by simp,e.symm⟩,?_⟩
   rw [show setM a v c (x::l)=(x.1,v,x.2.2)::l from if_pos e]
   simp only [Nat.sub_self,List.map_cons,List.modify_zero_cons,entG,e]
  ·rename_i e
   obtain ⟨h1,h2,⟨y,h3,h4⟩,h5⟩:=whereM_set a v c l (i+1) j u h
   have e1:j - i=(j - (i+1))+1:=by omega
   refine ⟨by omega,by simp only [List.length_cons]; omega,⟨y,?_,h4⟩,?_⟩
   ·rw [e1,List.map_cons,List.getElem?_cons_succ]; exact h3
   ·rw [e1]
    simp only [setM,if_neg e,List.map_cons,List.modify_succ_cons,h5]
theorem whereM_none{a:κ}(v:ν)(c:Nat):∀ {l:List (κ × ν × Nat)} {i:Nat},whereM ev a l i=none→setM a v c l=l++[(a,v,c)]∧getM a l=none
 | [],_,_=>⟨rfl,rfl⟩
 | x::l,i,h=>by
  simp only [whereM] at h
  split at h
  ·cases h
  ·rename_i e
   obtain ⟨h1,h2⟩:=whereM_none v c h
   exact ⟨by simp only [setM,if_neg e,h1,List.cons_append],by simp only [getM,if_neg e,h2]⟩
theorem muG_map{m e:TypeId}{w:World}{K:Value→World→Prop}{r c:Nat}(hk:KeyT P t ek d)(hm:P.underlying m=some (.map t e))(hs:∀ a:κ,Instr.sameBits 10000 (ek a) (ek a)=true){l:List (κ × ν × Nat)}(hr:w.heap[r]?=some (mapG ek ev l c))(a:κ)(v:ν)
  (hK:K undef (w.putObj r (mapG ek ev (setM a v c l) (if (getM a l).isSome then c else c+1)))):muW P m (.map (some r)) (ek a) (ev v) w K:=by
 have hg:(getObj r).run P w=.ok (.map (l.map (entG ek ev)).toArray c) w:=run_getObj_map w r _ _ hr
 have hs':∀ o,(setObj r o).run P w=.ok () (w.putObj r o):=fun o=>by simp [setObj,Sem.run,hr,mapG,World.putObj]
 cases hw:whereM ev a l 0 with
 | none =>
  obtain ⟨h1,h2⟩:=whereM_none v c hw
  refine ⟨_,?_,hK⟩
  unfold Instr.mapUpdate
  simp only [Sem.run_bind,run_underlying hm,Result.andThen_ok,hg,Sem.run_pure,hk.chk,findKey_G hk,List.toList_toArray,hw]
  rw [hs',h1]
  have e:(l.map (entG ek ev)).toArray.push { key:=ek a,val:=ev v,born:=c }=((l++[(a,v,c)]).map (entG ek ev)).toArray:=by
   rw [List.map_append]; simp [entG]
  rw [e,h2]; rfl
 | some p =>
  obtain ⟨j,u⟩:=p
  obtain ⟨_,h2,⟨x,h3,h4⟩,h5⟩:=whereM_set (ek:=ek) a v c l 0 j u hw
  rw [Nat.sub_zero] at h2 h3 h5
  have hsome:(getM a l).isSome=true:=by
   have:=whereM_get (ev:=ev) a l 0
   rw [hw] at this
   cases h:getM a l with
   | none=>rw [h] at this; cases this
   | some _=>rfl
  rw [if_pos hsome] at hK
  refine ⟨_,?_,hK⟩
  unfold Instr.mapUpdate
  simp only [Sem.run_bind,run_underlying hm,Result.andThen_ok,hg,Sem.run_pure,hk.chk,findKey_G hk,List.toList_toArray,hw]
  have e0:((((l.map (entG ek ev)).toArray)[j]?).map (·.key)).getD (ek a)=ek a:=by
   rw [List.getElem?_toArray,h3]; simp [entG,h4]
  have e1:(Instr.keyThatStays ((((l.map (entG ek ev)).toArray)[j]?).map (·.key)|>.getD (ek a)) (ek a)).run P w=.ok (ek a) w:=by
   rw [e0]; unfold Instr.keyThatStays; rw [if_pos (hs a)]; rfl
  rw [e1]
  simp only [Result.andThen_ok]
  rw [hs']
  unfold mapG
  rw [h5]
  congr 3
  apply Array.ext'
  simp [Array.toList_modify]
theorem keyT_int{ki:IntKind}(ht:P.underlying t=some (.int ki)):KeyT P t (fun n:Int=>.int ki n) (.int ki):=by
 refine ⟨ht,fun n w em a=>?_,fun a b=>.inr ?_,fun w a b=>?_⟩
 ·simp only [Instr.checkKey,Sem.run_bind,run_underlying ht,Result.andThen_ok]; rfl
 ·simp [Instr.sameNow]; rfl
 ·show (Op.equalIn 10000 t _ _).run P w=_
  rw [run_equalIn_int w 9999 t ki ki a b ht]
  rfl
end
section
variable {P:Program} {w:World} {K:Value→World→Prop}
theorem St.copy{W0:World}{F:Nat→Prop}{L:List Res}{I:List Inv}{dT sT ty e sz bytes g n cap k o m dc sc i:Nat}{z:Value}{cs:Array Bool}{xs:List Value}(h:St W0 w F L I)(hi:L[i]?=some (.row (.slice (some ⟨g,0,none⟩) n cap) e sz n xs))
  (hm:mkI P dT=some (e,sz,bytes,z)) (ho:o+k≤n) (hmk:m+k≤n) (h1:∀ u∈xs,u.oneCell'=true) {kd ks:Nat} (hk:min ks kd=k)
  (hK:∀ w',St W0 w' F (L.set i (.row (.slice (some ⟨g,0,none⟩) n cap) e sz n (xs.take (o * sz)++(xs.drop (m * sz)).take (k * sz)++xs.drop ((o+k) * sz)))) I→K (goInt (k:Nat)) w') :
  rawB P .copy #[dT,sT] ty cs [.slice (some ⟨g,o * sz,none⟩) kd dc,.slice (some ⟨g,m * sz,none⟩) ks sc] w K:=by
 obtain ⟨inf,hu,hinf,_,hsi,_⟩:=mkI_some hm
 have hr:=h.row i hi
 have hlen:xs.length=n * sz:=hr.1
 rcases hr.2 with ⟨h',_⟩ | ⟨g',cap',cur,h',hb,hg,hnc,hcm,hcs,htake⟩
 ·simp at h'
 simp only [Value.slice.injEq,Option.some.injEq,Addr.mk.injEq,and_true,true_and] at h'
 obtain ⟨rfl,rfl⟩:=h'
 have a1:(o+k) * sz≤n * sz:=Nat.mul_le_mul_right _ ho
 have a2:(m+k) * sz≤n * sz:=Nat.mul_le_mul_right _ hmk
 have a3:n * sz≤cap * sz:=Nat.mul_le_mul_right _ hnc
 rw [Nat.add_mul] at a1 a2
 have hcl:((xs.drop (m * sz)).take (k * sz)).length=k * sz:=by rw [List.length_take,List.length_drop]; omega
 have hsrc:∀ j v,((xs.drop (m * sz)).take (k * sz))[j]?=some v→w.cell? ((⟨g,m * sz,none⟩:Addr).add j)=some v:=fun j v hj=>by
  rw [List.getElem?_take] at hj
  split at hj
  ·rw [List.getElem?_drop] at hj
   have e:(⟨g,m * sz,none⟩:Addr).add j=⟨g,m * sz+j,none⟩:=by unfold Addr.add; split <;> simp_all
   rw [e,hr.cellAt _ (by omega),hj]
  ·cases hj
 have hl:=run_loadCells_list (P:=P) w ⟨g,m * sz,none⟩ _ hsrc
 have h1':∀ v∈(xs.drop (m * sz)).take (k * sz),v.oneCell'=true:=fun v hv=>h1 v (List.mem_of_mem_drop (List.mem_of_mem_take hv))
 have hst:=run_storeCells_at P g (o * sz) e _ 0 cur w hg (by rw [hcl,hcs]; omega) h1'
 rw [hcl] at hl hst
 have hrow:(w.setRow g (cur.toList.take (o * sz)++(xs.drop (m * sz)).take (k * sz)++cur.toList.drop (o * sz+k * sz)).toArray).ownsRow W0.heap.size e sz (.slice (some ⟨g,0,none⟩) n cap) n (xs.take (o * sz)++(xs.drop (m * sz)).take (k * sz)++xs.drop ((o+k) * sz)):=by
  have hcur:cur.toList.length=cap * sz:=by rw [Array.length_toList,hcs]
  refine ⟨?_,.inr ⟨g,cap,_,rfl,hb,setRow_heap w g cur _ e _ hg,hnc,hcm,?_,?_⟩⟩
  ·simp only [List.length_append,hcl,List.length_take,List.length_drop,Nat.add_mul]; omega
  ·simp only [List.size_toArray,List.length_append,hcl,List.length_take,List.length_drop]; omega
  ·simp only [List.toList_toArray]
   rw [← htake]
   apply List.ext_getElem?
   intro j
   simp only [List.getElem?_take,List.getElem?_append,List.length_append,List.length_take,List.length_drop,List.getElem?_drop,hcur,hcl]
   rw [← htake] at hcl
   simp only [List.length_take,List.length_drop,hcur] at hcl
   simp only [Nat.add_mul,List.length_take,hcur,List.length_drop,hcl]
   have e1:min (o * sz) (cap * sz)=o * sz:=by omega
   have e2:min (o * sz) (min (n * sz) (cap * sz))=o * sz:=by omega
   simp only [e1,e2]
   by_cases c1:j<n * sz
   ·rw [if_pos c1]
    by_cases c2:j<o * sz
    ·rw [if_pos (by omega),if_pos c2,if_pos (by omega),if_pos c2,if_pos c2,if_pos c1,if_pos (by omega)]
    ·by_cases c3:j<o * sz+k * sz
     ·rw [if_pos (by omega),if_neg c2,if_pos (by omega),if_neg c2,if_pos c3]
     ·rw [if_neg (by omega),if_neg (by omega),if_pos (by omega)]
   ·rw [if_neg c1,if_neg (by omega),if_neg (by omega)]
 refine ⟨_,w.setRow g (cur.toList.take (o * sz)++(xs.drop (m * sz)).take (k * sz)++cur.toList.drop (o * sz+k * sz)).toArray,?_,hK _ (h.upd i hi ?_ _ hrow fun k' hk'=>.inl hk')⟩
 ·simp only [Nat.add_zero] at hst
  have hk':Nat.min ks kd=k:=hk
  simp [builtin,Builtin.copy_,run_underlying hu,Builtin.lenOf,Builtin.firstCells,sizeOf,typeInfo,hinf,← hsi,hk',hl]
  simp [hst]
 ·refine (Chg.refl _ w).grown (row:=some g) ⟨rfl,rfl,rfl,by simp,fun j hj hne=>?_⟩ fun j hj _=>by
   simp only [Option.some.injEq] at hj; subst hj; rfl
  simp only [World.setRow,Array.getElem?_modify]
  rw [if_neg (fun e=>hne (by rw [e]))]
def Same(X:Nat→Prop)(w0 w':World):Prop:=∀ b,X b→w'.heap[b]?=w0.heap[b]?
theorem Same.refl(X:Nat→Prop)(w:World):Same X w w:=fun _ _=>rfl
theorem heldS_held{X:Nat→Prop}{t:TypeId}{w0:World}{p:Addr}(h2:X p.block)(h3:loadW P t p w0 fun v _=>K v w):heldW P (Same X w0) t p w K:=by
 have key:∀ w' j,Same X w0 w'→w'.cell? (p.add j)=w0.cell? (p.add j):=fun w' j hc=>by
  have e:(p.add j).block=p.block:=by unfold Addr.add; split <;> rfl
  exact World.cell?_of_block (hc _ (by rw [e]; exact h2))
 have key0:∀ w',Same X w0 w'→w'.cell? p=w0.cell? p:=fun w' hc=>by have:=key w' 0 hc; simpa only [Addr.add_zero'] using this
 unfold heldW
 unfold loadW at h3 ⊢
 cases hk:tyK P t with
 | int k=>rw [hk] at h3; obtain ⟨n,hc,hK⟩:=h3; exact ⟨_,fun w' hw=>⟨n,(key0 w' hw).trans hc,rfl,rfl⟩,hK⟩
 | bool=>rw [hk] at h3; obtain ⟨n,hc,hK⟩:=h3; exact ⟨_,fun w' hw=>⟨n,(key0 w' hw).trans hc,rfl,rfl⟩,hK⟩
 | str=>rw [hk] at h3; obtain ⟨n,hc,hK⟩:=h3; exact ⟨_,fun w' hw=>⟨n,(key0 w' hw).trans hc,rfl,rfl⟩,hK⟩
 | slice u e=>rw [hk] at h3; obtain ⟨x,n,c,hc,hK⟩:=h3; exact ⟨_,fun w' hw=>⟨x,n,c,(key0 w' hw).trans hc,rfl,rfl⟩,hK⟩
 | ptr=>rw [hk] at h3; obtain ⟨n,hc,hK⟩:=h3; exact ⟨_,fun w' hw=>⟨n,(key0 w' hw).trans hc,rfl,rfl⟩,hK⟩
 | map=>rw [hk] at h3; obtain ⟨n,hc,hK⟩:=h3; exact ⟨_,fun w' hw=>⟨n,(key0 w' hw).trans hc,rfl,rfl⟩,hK⟩
 | agg n=>rw [hk] at h3; obtain ⟨cs,hc,hl,hK⟩:=h3; exact ⟨_,fun w' hw=>⟨cs,fun i v hv=>(key w' i hw).trans (hc i v hv),hl,rfl,rfl⟩,hK⟩
 | other=>rw [hk] at h3; obtain ⟨n,hc,hK⟩:=h3; exact ⟨_,fun w' hw=>⟨n,(key0 w' hw).trans hc,rfl,rfl⟩,hK⟩
 | none=>rw [hk] at h3; exact h3.elim
@[go_sem] theorem heldS_eq {X:Nat→Prop} {t:TypeId} {w0:World} {b i:Nat} (h2:X b):heldW P (Same X w0) t ⟨b,i,none⟩ w K=loadW P t ⟨b,i,none⟩ w0 fun v _=>K v w:=by
 apply propext
 exact ⟨fun ⟨v,h,hk⟩=>loadW_mono (h w0 (Same.refl _ _)) fun u hu=>by rw [hu.1]; exact hk,heldS_held h2⟩
end
end Go.Ann

namespace Go.Ann
open Go Go.RowKit
def overL(xs:List Value)(o:Nat)(vs:List Value):List Value:=xs.take o++vs++xs.drop (o+vs.length)
theorem overL_length{xs vs:List Value}{o:Nat}(h:o+vs.length≤xs.length):(overL xs o vs).length=xs.length:=by
 unfold overL; simp only [List.length_append,List.length_take,List.length_drop]; omega
theorem overL_take{xs vs:List Value}{o k:Nat}(h:o+vs.length=k)(h':k≤xs.length):(overL xs o vs).take k=xs.take o++vs:=by
 unfold overL
 have:(xs.take o++vs).length=k:=by rw [List.length_append,List.length_take]; omega
 rw [← this,List.take_left]
section
variable {P:Program} {w:World} {K:Value→World→Prop} {g t e sz bytes:Nat} {z:Value} {cur:Array Value}
theorem storeB{vs:List Value}{o:Nat}(hB:Blk w g cur e)(hf:o+vs.length≤cur.size)(h1:∀ u∈vs,u.oneCell'=true) :
  (storeCells ⟨g,o,none⟩ vs).run P w=.ok () (w.setRow g (overL cur.toList o vs).toArray)∧Blk (w.setRow g (overL cur.toList o vs).toArray) g (overL cur.toList o vs).toArray e∧Chg (fun k=>k=g) w (w.setRow g (overL cur.toList o vs).toArray):=by
 have hst:=run_storeCells_at P g o e vs 0 cur w hB (by simpa using hf) h1
 simp only [Nat.add_zero] at hst
 refine ⟨hst,setRow_heap w g cur _ e _ hB,?_⟩
 refine (Chg.refl _ w).grown (row:=some g) ⟨rfl,rfl,rfl,by simp,fun j hj hne=>?_⟩ fun j hj _=>by
  simp only [Option.some.injEq] at hj; subst hj; rfl
 simp only [World.setRow,Array.getElem?_modify]
 rw [if_neg (fun e=>hne (by rw [e]))]
theorem appendB{ty n m cap c:Nat}{src:Option Addr}{cs:Array Bool}{ys:List Value}(hm:mkI P t=some (e,sz,bytes,z))(hB:Blk w g cur e)(hfit:n+m≤cap)(hcap:cap * sz≤cur.size)(hy:Rd w sz (.slice src m c) m ys)(h1:∀ u∈ys,u.oneCell'=true)
  (hK:∀ w',Blk w' g (overL cur.toList (n * sz) ys).toArray e→Chg (fun k=>k=g) w w'→K (.slice (some ⟨g,0,none⟩) (n+m) cap) w') :
  rawB P .append #[t,t] ty cs [.slice (some ⟨g,0,none⟩) n cap,.slice src m c] w K:=by
 obtain ⟨i,hu,hi,_,hsi,_⟩:=mkI_some hm
 obtain ⟨hl,a',c',he,_,hr⟩:=hy
 simp only [Value.slice.injEq,true_and] at he
 obtain ⟨rfl,rfl⟩:=he
 have hmul:(n+m) * sz≤cap * sz:=Nat.mul_le_mul_right _ hfit
 rw [Nat.add_mul] at hmul
 have hf:n * sz+ys.length≤cur.size:=by omega
 obtain ⟨r1,r2,r3⟩:=storeB (P:=P) hB hf h1
 rcases Nat.eq_zero_or_pos m with h0 | h0
 ·subst h0
  have hy0:ys=[]:=List.eq_nil_of_length_eq_zero (by rw [hl]; simp)
  subst hy0
  refine ⟨_,_,?_,hK _ r2 r3⟩
  have hst:=run_storeCells_at P g (n * sz) e [] 0 cur w hB (by simpa using hf) h1
  have hfc:(Builtin.firstCells sz 0 (.slice src 0 c)).run P w=.ok #[] w:=by
   cases src with
   | none=>rfl
   | some a=>simp [Builtin.firstCells,loadCells,loadCellsFrom]
  have ha:(Builtin.append_ #[t,t] ty #[.slice (some ⟨g,0,none⟩) n cap,.slice src 0 c]).run P w=.ok (.slice (some ⟨g,0,none⟩) (n+0) cap) (w.setRow g (overL cur.toList (n * sz) []).toArray):=by
   simp [Builtin.append_,run_underlying hu,sizeOf,typeInfo,hi,Builtin.lenOf,Addr.add_lit,← hsi,hfc,r1,(show n≤cap by omega)]
  simp [builtin,ha]
 ·obtain ⟨ad,rfl,h4⟩:=hr (by omega)
  have hroom:=run_append_room (P:=P) (w:=w) t ty e i hu hi g n cap cur hB ad m c ys (by rw [hl,hsi]) h4 h1 hfit (by rw [← hsi]; exact hf)
  refine ⟨_,_,?_,hK _ r2 r3⟩
  rw [← hsi] at hroom
  simp [builtin,hroom,overL]
theorem overL_nil{xs:List Value}{o:Nat}:overL xs o []=xs:=by
 unfold overL; simp [List.take_append_drop]
theorem copyB{dT sT ty o kd dc ks sc k:Nat}{a:Addr}{cs:Array Bool}{ys:List Value}(hm:mkI P dT=some (e,sz,bytes,z))(hB:Blk w g cur e)(hk:min ks kd=k)(hl:ys.length=k * sz)(hy:∀ j u,ys[j]?=some u→w.cell? (a.add j)=some u)(h1:∀ u∈ys,u.oneCell'=true)(hf:o+ys.length≤cur.size)
  (hK:∀ w',Blk w' g (overL cur.toList o ys).toArray e→Chg (fun k=>k=g) w w'→K (goInt (k:Nat)) w') :
  rawB P .copy #[dT,sT] ty cs [.slice (some ⟨g,o,none⟩) kd dc,.slice (some a) ks sc] w K:=by
 obtain ⟨i,hu,hi,_,hsi,_⟩:=mkI_some hm
 obtain ⟨r1,r2,r3⟩:=storeB (P:=P) hB hf h1
 have hll:=run_loadCells_list (P:=P) w a ys hy
 rw [hl] at hll
 have hk':Nat.min ks kd=k:=hk
 refine ⟨_,_,?_,hK _ r2 r3⟩
 simp [builtin,Builtin.copy_,run_underlying hu,Builtin.lenOf,Builtin.firstCells,sizeOf,typeInfo,hi,← hsi,hk',hll,r1]
theorem clearB{ty o n c:Nat}{cs:Array Bool}(hm:mkI P t=some (e,sz,bytes,z))(hzs:z.cells.size=sz)(h1:∀ u∈z.cells.toList,u.oneCell'=true)(hB:Blk w g cur e)(hf:o+n * sz≤cur.size)
  (hK:∀ w' ys,ys.length=n * sz→Blk w' g (overL cur.toList o ys).toArray e→Chg (fun k=>k=g) w w'→K (.tuple #[]) w') :
  rawB P .clear #[t] ty cs [.slice (some ⟨g,o,none⟩) n c] w K:=by
 obtain ⟨i,hu,hi,hzz,hsi,_⟩:=mkI_some hm
 rcases Nat.eq_zero_or_pos n with h0 | h0
 ·subst h0
  refine ⟨_,w,?_,hK w [] (by simp) (by rw [overL_nil]; exact hB) (Chg.refl _ _)⟩
  simp [builtin,Builtin.clear_,run_underlying hu]
 ·have hl:(Builtin.zeroCells z.cells n).toList.length=n * sz:=by rw [Array.length_toList,size_zeroCells,hzs]
  have h1':∀ u∈(Builtin.zeroCells z.cells n).toList,u.oneCell'=true:=fun u hu=>by
   rw [Array.mem_toList_iff] at hu
   unfold Builtin.zeroCells at hu
   rw [Array.mem_map] at hu
   obtain ⟨j,hj,rfl⟩:=hu
   rw [Array.mem_range] at hj
   have hp:0<z.cells.size:=by
    rcases Nat.eq_zero_or_pos z.cells.size with h | h
    ·rw [h] at hj; omega
    ·exact h
   rw [getElem!_pos z.cells _ (Nat.mod_lt _ hp)]
   exact h1 _ (by simp)
  obtain ⟨r1,r2,r3⟩:=storeB (P:=P) (o:=o) hB (by rw [hl]; exact hf) h1'
  refine ⟨_,_,?_,hK _ _ hl r2 r3⟩
  obtain ⟨m,rfl⟩:∃ m,n=m+1:=⟨n - 1,by omega⟩
  simp [builtin,Builtin.clear_,run_underlying hu,zeroValue,typeInfo,hi,hzz,r1]
theorem growB{tn ty m cap:Nat}{a:Option Addr}{kq kn:IntKind}{cs:Array Bool}(hm:mkI P t=some (e,sz,bytes,z))(htn:P.underlying tn=some (.int kn))(hzs:z.cells.size=sz)(hsz:0<sz)(h0:0<m)(hg:cap<m)(h63:m≤9223372036854775807)(hb:m * bytes≤140737488355328)
  (hK:∀ G Z,m≤G→G≤maxLen→Z.size=G * sz→K (.slice (some ⟨w.heap.size,0,none⟩) m G) (w.drew.alloc (.cells Z e))) :
  rawB P .append #[t,tn] ty cs [.slice a 0 cap,.int kq m] w K:=by
 obtain ⟨i,hu,hi,hzz,hsi,hby⟩:=mkI_some hm
 have hold:(Builtin.firstCells i.size 0 (.slice a 0 cap)).run P w.drew=.ok ([]:List Value).toArray w.drew:=by
  cases a with
  | none=>rfl
  | some a=>simp [Builtin.firstCells,loadCells,loadCellsFrom]
 have h:=Lib.run_append_grow_zeros w t tn ty e i z kq kn hu htn hi hzz a 0 cap [] hold m h0 (by omega) (by omega) (by omega) (by rw [← hby]; omega) (by rw [← hby,Nat.zero_add]; exact growslice_fits hg hb)
 rw [Nat.zero_add] at h
 refine ⟨_,_,?_,hK (grownCap w m cap e) (([]:List Value).toArray++Builtin.zeroCells z.cells m++Builtin.zeroCells z.cells (grownCap w m cap e - m)) (grownCap_ge w m cap e) (grownCap_le_maxLen w m cap e (by simp only [maxLen]; omega)) ?_⟩
 ·simp [builtin,h]
 ·have:=grownCap_ge w m cap e
  simp only [Array.size_append,size_zeroCells,hzs,List.size_toArray,List.length_nil,Nat.zero_add,← Nat.add_mul]
  congr 1
  omega
theorem overlapsW{f tR la ca lb cb : Nat}{fn : Func}{a b : Addr}{ca' cb' : Array Value}{ta tb : TypeId}(hf : P.funcs[f]? = some fn)(hname : (fn.name == "runtime.NumGoroutine") = false)(hb : fn.body.isNone = true)(hn : Extern.findNext fn = none)(he : Extern.find fn = some (Extern.SlicesOverlaps.overlaps #[t, t] #[tR]))
    (hm : mkI P t = some (e, sz, bytes, z)) (hne : a.block ≠ b.block) (hA : Blk w a.block ca' ta) (hBb : Blk w b.block cb' tb) (hk : 0 < cb'.size) (hK : K (.bool false) w) :
    extW P f [.slice (some a) la ca, .slice (some b) lb cb] w K := by
  obtain ⟨i, hu, hi, hzz, hsi, hby⟩ := mkI_some hm
  refine ⟨.bool false, w, ?_, hK⟩
  have hsa : w.shape? a.block = some (ta, ca'.size) := by unfold World.shape?; rw [hA]
  have hsb : w.shape? b.block = some (tb, cb'.size) := by unfold World.shape?; rw [hBb]
  have hfz : ∀ p : Addr, p.block = a.block → w.frozen? p = false := fun p hp => by unfold World.frozen?; rw [hp, hA]; simp
  rw [run_callFunc_extern hf hname hb hn he, Lib.run_overlaps_apart w t tR e hu i.size (fun w => by simp [sizeOf, typeInfo, hi]) a b la ca lb cb hne ta tb ca'.size cb'.size hsa hsb (by omega) (hfz _ rfl) (hfz _ rfl)]
  rfl
end
end Go.Ann

namespace Go.Ann
open Go Go.RowKit
def byteV(b:UInt8):Value:=.int .u8 b.toNat
theorem strCells_ofL(l:List UInt8):Lib.strCells (ofL l)=l.map byteV:=by
 unfold Lib.strCells ofL
 simp only [List.map_inj_left]
 intro a _; rfl
section
variable {P:Program} {W0 w w':World} {F:Nat→Prop} {L:List Res} {I:List Inv} {K:Value→World→Prop}
theorem St.appendS{t u ty e n:Nat}{cs:Array Bool}{v:Value}{xs:List Value}(h:St W0 w F L I)(i:Nat)(hi:L[i]?=some (.row v e 1 n xs))
  (hm:mkI P t=some (e,1,1,.int .u8 0)) (hu:P.underlying u=some .string) (l:List UInt8) (hb:n+l.length≤140737488355328)
  (hK:∀ v' w',St W0 w' F (L.set i (.row v' e 1 (n+l.length) (xs++l.map byteV))) I→Chg (fun k=>v.ownBlock=some k) w w'→(v'=.slice none 0 0↔v=.slice none 0 0∧l=[])→K v' w') :
  rawB P .append #[t,u] ty cs [v,.string (ofL l)] w K:=by
 have hr:=h.row i hi
 obtain ⟨inf,ht,hinf,hzz,hsi,hby⟩:=mkI_some hm
 have hsz:(ofL l).size=l.length:=by simp [ofL,ByteArray.size]
 obtain ⟨v',w',h1,h2,h3,h4⟩:=Lib.run_append_own_string (P:=P) (w:=w) W0.heap.size t u ty e inf ht hu hinf hzz (by first | exact hsi | exact hsi.symm) (by first | exact hby | exact hby.symm) v n xs hr (ofL l) (by rw [hsz]; have:maxLen=9223372036854775807:=(by decide); omega) (by rw [hsz]; exact hb) h.size
 have own:∀ k,v'.ownBlock=some k→v.ownBlock=some k∨w.heap.size≤k:=by
  have hml:maxLen=9223372036854775807:=by decide
  rcases hr.2 with ⟨rfl,rfl⟩ | ⟨g,cap,cur,rfl,hbg,hg,hnc,hcm,hcs,htake⟩
  ·rcases Nat.eq_zero_or_pos l.length with h0 | h0
   ·have:=h4.2 ⟨rfl,by rw [hsz]; exact h0⟩
    subst this
    intro k hk; cases hk
   ·have hrun:=run_append_nil_string (P:=P) (w:=w) t u ty e inf (.int .u8 0) ht hu hinf hzz (ofL l) (by omega) (by omega) (by rw [hsz]; first | rw [hby] | rw [← hby]; omega)
    rw [h1] at hrun
    simp only [Result.ok.injEq] at hrun
    rw [hrun.1]
    intro k hk
    simp only [Value.ownBlock,Option.some.injEq] at hk
    exact .inr (by omega)
  ·by_cases hroom:n+(ofL l).size≤cap
   ·have hcs':cur.size=cap:=by simpa using hcs
    have hrun:=Lib.run_append_room_string (P:=P) (w:=w) t u ty e inf ht hu hinf (by first | exact hsi | exact hsi.symm) g n cap cur hg (ofL l) hroom (by omega)
    rw [h1] at hrun
    simp only [Result.ok.injEq] at hrun
    rw [hrun.1]
    intro k hk
    exact .inl hk
   ·have holds:∀ j u,xs[j]?=some u→w.cell? ((⟨g,0,none⟩:Addr).add j)=some u:=hr.cells (g:=g) rfl
    have hxl:xs.length=n:=by simpa using hr.1
    have hrun:=Lib.run_append_grow_string (P:=P) (w:=w) t u ty e inf (.int .u8 0) ht hu hinf hzz ⟨g,0,none⟩ n cap xs (by first | rw [hsi] | rw [← hsi]; simpa using hxl) holds (ofL l) (by omega) (by omega) (by first | rw [hby] | rw [← hby]; exact growslice_fits (by omega) (by omega))
    rw [h1] at hrun
    simp only [Result.ok.injEq] at hrun
    rw [hrun.1]
    intro k hk
    simp only [Value.ownBlock,Option.some.injEq] at hk
    exact .inr (by omega)
 rw [hsz,strCells_ofL] at h2
 rw [hsz] at h4
 exact ⟨v',w',by simp only [builtin,Sem.run_bind,h1,Result.andThen_ok,Sem.run_pure],hK v' w' (h.grow i hi h3 h2 own) ((Chg.refl _ w).grown h3 fun k hk _=>hk) (h4.trans (by rw [List.length_eq_zero_iff]))⟩
theorem chg_freeze{S:Nat→Prop}{w0:World}(h:Chg S w0 w)(g n:Nat)(hg:S g∨w0.heap.size≤g):Chg S w0 (w.freeze ⟨g,0,none⟩ n):=by
 have hf:∀ k,k≠g→(w.freeze ⟨g,0,none⟩ n).heap[k]?=w.heap[k]?:=fun k hk=>by
  unfold World.freeze
  split
  ·rfl
  ·simp only [Array.getElem?_modify]
   rw [if_neg (fun e=>hk e.symm)]
 have hs:(w.freeze ⟨g,0,none⟩ n).heap.size=w.heap.size:=by
  unfold World.freeze
  split
  ·rfl
  ·simp only [Array.size_modify]
 refine ⟨?_,?_,?_,by rw [hs]; exact h.size,fun k hk hS=>?_⟩
 ·have:(w.freeze ⟨g,0,none⟩ n).os=w.os:=by unfold World.freeze; split <;> rfl
  rw [this]; exact h.os
 ·have:(w.freeze ⟨g,0,none⟩ n).tape=w.tape:=by unfold World.freeze; split <;> rfl
  rw [this]; exact h.tape
 ·have:(w.freeze ⟨g,0,none⟩ n).output=w.output:=by unfold World.freeze; split <;> rfl
  rw [this]; exact h.output
 ·rw [hf k (fun e=>?_)]
  ·exact h.block k hk hS
  ·subst e
   rcases hg with hg | hg
   ·exact hS hg
   ·omega
theorem rawB_sliceData{ats:Array TypeId}{ty e:TypeId}{cs:Array Bool}{a:Option Addr}{n c:Nat}(hp:P.underlying ty=some (.pointer e))(h0:a=none∧c=0∨0<c)(hK:K (.pointer a) w):rawB P .unsafeSliceData ats ty cs [.slice a n c] w K:=by
 refine ⟨_,w,?_,hK⟩
 have:(Builtin.unsafeSliceData_ ats ty #[.slice a n c]).run P w=.ok (.pointer a) w:=by
  rcases h0 with ⟨rfl,rfl⟩ | h0
  ·rfl
  ·cases a with
   | none=>rfl
   | some a=>exact Lib.run_unsafeSliceData_row _ _ _ _ _ _ (by omega)
 simp only [builtin,List.toArray,Sem.run_bind,this,Result.andThen_ok,Sem.run_pure]
theorem ofL_toArray(l:List UInt8):(⟨l.toArray⟩:ByteArray)=ofL l:=by simp [ofL]
theorem St.unsafeS{pt it ty e n:Nat}{cs:Array Bool}{a:Option Addr}{c:Nat}{l:List UInt8}(h:St W0 w F L I)(i:Nat)(hi:L[i]?=some (.row (.slice a n c) e 1 n (l.map byteV)))
  (hp:P.underlying pt=some (.pointer e)) (hc:P.cellsOf e=1) (hK:∀ w',St W0 w' F (L.set i (.row (.slice none 0 0) e 1 0 [])) I→Chg (fun k=>(Value.slice a n c).ownBlock=some k) w w'→K (.string (ofL l)) w') :
  rawB P .unsafeString #[pt,it] ty cs [.pointer a,.int .i64 n] w K:=by
 have hr:=h.row i hi
 have hln:l.length=n:=by have:=hr.1; simpa using this
 have nil:∀ w',Res.ok w' W0.heap.size (.row (.slice none 0 0) e 1 0 []):=fun w'=>⟨by simp,.inl ⟨rfl,rfl⟩⟩
 rcases Nat.eq_zero_or_pos n with h0 | h0
 ·subst h0
  obtain rfl:l=[]:=List.eq_nil_of_length_eq_zero hln
  refine ⟨.string (ofL []),w,?_,hK w (h.upd i hi (Chg.refl _ _) _ (nil w) fun k hk=>by cases hk) (Chg.refl _ _)⟩
  have:=Lib.run_unsafeString_none (P:=P) w pt it ty a
  have e0:(ofL []:ByteArray)=.empty:=rfl
  simp only [builtin,List.toArray,Sem.run_bind,Result.andThen_ok,Sem.run_pure]
  have e1:((0:Nat):Int)=0:=rfl
  rw [e1]
  show Result.andThen ((Builtin.unsafeString_ #[pt,it] ty #[.pointer a,.int .i64 0]).run P w) _=_
  rw [this,e0]; rfl
 ·rcases hr.2 with ⟨_,hz⟩ | ⟨g,cap,cur,hv,hbg,hg,hnc,hcm,hcs,htake⟩
  ·omega
  simp only [Value.slice.injEq,true_and] at hv
  obtain ⟨rfl,rfl⟩:=hv
  have hml:maxLen=9223372036854775807:=by decide
  have hrun:=Lib.run_unsafeString_row (P:=P) w pt it ty e hp hc g cur.size (by simp [World.shape?,hg]) l (by intro hl; rw [hl] at hln; simp at hln; omega) (by omega) (by omega) (fun j x hx=>hr.cells (g:=g) rfl j _ (by rw [List.getElem?_map,hx]; rfl))
  rw [hln,ofL_toArray] at hrun
  have hch:Chg (fun k=>(Value.slice (some ⟨g,0,none⟩) n c).ownBlock=some k) w (w.freeze ⟨g,0,none⟩ n):=chg_freeze (Chg.refl _ _) g n (.inl rfl)
  refine ⟨.string (ofL l),w.freeze ⟨g,0,none⟩ n,?_,hK _ (h.upd i hi hch _ (nil _) fun k hk=>by cases hk) hch⟩
  simp only [builtin,List.toArray,Sem.run_bind,Result.andThen_ok,Sem.run_pure]
  show Result.andThen ((Builtin.unsafeString_ #[pt,it] ty #[.pointer (some ⟨g,0,none⟩),.int .i64 n]).run P w) _=_
  rw [hrun]; rfl
end
end Go.Ann

namespace Go.Ann
open Go Go.RowKit
section
variable {P:Program} {S:World→Prop} {w:World} {K:Value→World→Prop} {ρ:Env} {Q:Post} {r:GT} {L:List Nat} {d:Option Nat} {ty:TypeId} {op:Op}
theorem opT_3:opT P S 3 op ty r L ρ d w Q=(noY ρ op∧opW P op ty ρ w (DTn P S r L ρ d Q)):=(rfl)
end
attribute [go_sem] opT_3
end Go.Ann

namespace Go.Ann
open Go Go.RowKit
section
variable {P:Program} {N:Nat}
abbrev defO:Obj:=.deferred (some [])
structure RgS{σ:Type}(S:σ→List Res→World→Prop):Prop where
 obj:∀ {s l o R w},S s (.obj l o::R) w→w.heap[l]?=some o
 put:∀ {s l o R w} (o2:Obj),S s (.obj l o::R) w→S s (.obj l o2::R) (w.putObj l o2)
 drop:∀ {s r R w},S s (r::R) w→S s R w
 lay:∀ {s R w} (o:Obj),S s R w→S s (.obj w.heap.size o::R) (w.alloc o)
theorem RangeW_free{g:Operand}{ps:List Nat}{A B:Cmd}{ρ:Env}{w:World}{Q:Post}{α σ:Type}{gf:Nat}{lb:Array Value}{S:σ→List Res→World→Prop}(hS:RgS S)
  (encs:α→List Value) (s0:σ) (Ok:σ→α→Prop) (Step Stop:σ→α→σ→Prop) (End Halt:σ→Prop)
  (hg:ev ρ g=some (.func (.func gf) #[] lb)) (hgo:goFunc P gf=true) (s:S s0 [] w) (hlen:∀ x,(encs x).length=ps.length)
  (hit:∀ (fv:Value) (l D:Nat) (o o':Obj) (w1:World),(∀ x s w',Ok s x→S s [.obj l o,.obj D defO] w'→callW P fv (encs x) w' fun v w''=>(v=.bool true∧∃ s',Step s x s'∧S s' [.obj l o,.obj D defO] w'')∨(v=.bool false∧∃ s',Stop s x s'∧S s' [.obj l o',.obj D defO] w'')) →
   S s0 [.obj l o,.obj D defO] w1→Ret P gf (fv::lb.toList) w1 fun _ w'=>(∃ s,End s∧S s [.obj l o,.obj D defO] w')∨(∃ s,Halt s∧S s [.obj l o',.obj D defO] w'))
  (hbody:∀ x s w' l D o o2,Ok s x→S s [.obj l o,.obj D defO] w'→W P A (zipE ps (encs x) (lowE ρ)) w' fun e ρ1 w1=>match e with
   | .normal=>∃ s1,S s1 [.obj l o,.obj D defO] w1∧∀ w2,S s1 [.obj l o2,.obj D defO] w2→W P B ρ1 w2 fun e2 _ w3=>match e2 with
    | .normal=>∃ s',Step s x s'∧S s' [.obj l o2,.obj D defO] w3
    | .ret=>∃ s',Stop s x s'∧S s' [.obj l o2,.obj D defO] w3
    | _=>False
   | _=>False)
  (hdone:∀ s D w',End s→S s [.obj D defO] w'→Q .normal ((D+1000000,undef)::ρ) w')
  (hret:∀ s D w',Halt s→S s [.obj D defO] w'→Q .ret ((D+1000000,undef)::ρ) w'):RangeW P g ps A B ρ w Q:=by
 intro N a ca cb hca hcb hra hrb hps hs
 refine wpIn_rangeFunc fun fn _=>?_
 obtain ⟨rec,hrec⟩:∃ rec:LoopState→Option Code→Loop,rec=fun st pe=>{ state:=st,pending:=pe,fn,tmps:=a.tmps,params:=ps.toArray,assign:=ca,body:=cb,defers:=w.heap.size }:=⟨_,rfl⟩
 have hs1:S s0 [.obj (w.heap.size+1) (.loop (rec .ready none)),.obj w.heap.size defO] ((w.alloc (.deferred (some []))).alloc (.loop (rec .ready none))):=by
  have:=hS.lay (.loop (rec .ready none)) (hS.lay (.deferred (some [])) s)
  rw [World.size_alloc] at this
  exact this
 generalize hw1:(w.alloc (.deferred (some []))).alloc (.loop (rec .ready none))=w1 at hs1
 refine ⟨w.heap.size+1,[{ target:=.collected w.heap.size,args:=#[] }],w1,{ target:=.fn (.func gf) lb,args:=#[.func (.yield (w.heap.size+1)) #[] #[]] },w1,gf,
  #[.func (.yield (w.heap.size+1)) #[] #[]]++lb,w1,?_,?_,?_,?_,fun _=>by decide,?_⟩
 ·rw [← hw1,hrec]; exact run_enterLoop_outer _ _ _ _ _
 ·simp only [resolve,hs.eval _ _ hg]
  simp [go_sem]
 ·intro f' _; exact trivial
 ·simp [invoke,go_sem,callFunc_run hgo]
 ·generalize w.heap.size+1=l at hs1 ⊢
  generalize w.heap.size=D at hrec hs1 ⊢
  have key:=hit (.func (.yield l) #[] #[]) l D (.loop (rec .ready none)) (.loop (rec .done (some .ret))) w1 ?_ hs1
  ·have e:#[Value.func (.yield l) #[] #[]]++lb=(Value.func (.yield l) #[] #[]::lb.toList).toArray:=by simp
   rw [e]
   refine CallsIn.mono (callsIn_wide.2 key) fun e w2 ⟨v,he,h2⟩=>?_
   subst he
   rcases h2 with ⟨y,hy,h2⟩ | ⟨z,hz,h2⟩
   ·have hl:=hS.obj h2
    refine ⟨none,w2.putObj l (.loop { rec .ready none with state:=.exhausted }),?_,?_⟩
    ·have:=run_endLoop (P:=P) hl (by rw [hrec]; simp)
     rw [hrec] at this ⊢
     exact this
    ·exact ⟨_,hs.mark D,hdone y D _ hy (hS.drop (hS.put (.loop { rec .ready none with state:=.exhausted }) h2))⟩
   ·have hl:=hS.obj h2
    refine ⟨some .ret,w2.putObj l (.loop { rec .done (some .ret) with state:=.exhausted }),?_,?_⟩
    ·have:=run_endLoop (P:=P) hl (by rw [hrec]; simp)
     rw [hrec] at this ⊢
     exact this
    ·exact wpIn_ret ⟨_,hs.mark D,hret z D _ hz (hS.drop (hS.put (.loop { rec .done (some .ret) with state:=.exhausted }) h2))⟩
  ·intro x y w' hx h
   have hl:=hS.obj h
   have hsz:(encs x).toArray.size=(rec .ready none).params.size:=by rw [hrec]; simp [hlen]
   have hy:=run_yield (P:=P) hl hsz
   rw [hrec] at hy
   refine ⟨rfl,rfl,fn,_,ca,cb,hy,?_⟩
   refine roundIn_of_wpIn trivial ?_
   have hsim:Sim N { tmps:=((ps.toArray.zip (encs x).toArray).foldl (fun t (p,v)=>t.setIfInBounds p v) a.tmps),defers:=[] } (zipE ps (encs x) (lowE ρ)):=by
    have:=Sim.zipE (a:={ tmps:=a.tmps,defers:=[] }) ps (encs x) (lowE ρ) a.tmps hps hs.lowE
    rw [← Array.foldl_toList,Array.toList_zip]
    exact this
   have hA:=W_sound (r:=some l) (n:=0) ca A hca (.inl hra) _ w' _ _ hsim (hbody x y w' l D _ (.loop { rec .ready none with state:=.busy }) hx h)
   refine wpIn_mono hA fun e a1 w1 hh=>?_
   obtain ⟨ρ1,hs1,hq⟩:=hh
   cases e with
   | normal =>
    obtain ⟨M,hM,hB⟩:=hq
    have hl1:=hS.obj hM
    refine ⟨_,run_beginRound hl1 (by rw [hrec]),?_⟩
    have hB':=W_sound (r:=some l) (n:=0) cb B hcb (.inl hrb) _ _ _ a1 hs1 (hB _ (hS.put _ hM))
    refine wpIn_mono hB' fun e2 a2 w2 hh=>?_
    obtain ⟨ρ2,hs2,hq2⟩:=hh
    cases e2 with
    | normal =>
     obtain ⟨y',hst,hq2⟩:=hq2
     have hl2:=hS.obj hq2
     have he:=run_endRound (P:=P) none hl2
     refine ⟨.bool true,w2.putObj l (.loop (rec .ready none)),?_,.bool true,rfl,.inl ⟨rfl,?_⟩⟩
     ·rw [hrec] at he ⊢; exact he
     ·exact ⟨y',hst,hS.put _ hq2⟩
    | ret =>
     obtain ⟨z,hst,hq2⟩:=hq2
     have hl2:=hS.obj hq2
     have he:=run_endRound (P:=P) (some .ret) hl2
     refine ⟨.bool false,w2.putObj l (.loop (rec .done (some .ret))),?_,.bool false,rfl,.inr ⟨rfl,?_⟩⟩
     ·rw [hrec] at he ⊢; exact he
     ·exact ⟨z,hst,hS.put _ hq2⟩
    | _=>exact hq2.elim
   | _=>exact hq.elim
end
end Go.Ann

namespace Go.Ann
open Go Go.RowKit
section
variable {P:Program} {N:Nat}
theorem W_rangeG{g:Operand}{ps L:List Nat}{a:Cmd}{b:Nat→Cmd}{ρ:Env}{w:World}{Q:Post}:W P (.rangeG g ps a b L) ρ w Q=RangeG P g ps a b ρ w (keepQ L Q):=(rfl)
theorem W_rangeN{l:Nat}{g:Operand}{ps L:List Nat}{a b:Cmd}{ρ:Env}{w:World}{Q:Post}:W P (.rangeN l g ps a b L) ρ w Q=RangeN P l g ps a b ρ w (keepQ L Q):=(rfl)
attribute [go_sem] W_rangeG W_rangeN
end
end Go.Ann

namespace Go.Ann
open Go
abbrev zA:=@World.size_alloc
abbrev zB:=@World.size_drew
abbrev zC:=@World.size_setCell
abbrev zD:=@size_fill
abbrev zF:=@okFill_t
abbrev zG:=@okSize_t
end Go.Ann

namespace Go.Proofs.YtkmjkmjpejmlnaaGreat
open Go Go.Ann
@[go_sem] theorem ty3tyK:tyK Tryz.prog 3=.int .i64:=by kernel_rfl
@[go_sem] theorem ty3sizeT:sizeT Tryz.prog 3=some 1:=by kernel_rfl
@[go_sem] theorem ty3zeroT:zeroT Tryz.prog 3=some (.int .i64 0):=by kernel_rfl
@[go_sem] theorem ty3conc:Program.concrete Tryz.prog 3=true:=by kernel_rfl
@[go_sem] theorem ty4tyK:tyK Tryz.prog 4=.bool:=by kernel_rfl
@[go_sem] theorem ty4isBoolT:isBoolT Tryz.prog 4=true:=by kernel_rfl
@[go_sem] theorem ty4sizeT:sizeT Tryz.prog 4=some 1:=by kernel_rfl
@[go_sem] theorem ty4zeroT:zeroT Tryz.prog 4=some (.bool false):=by kernel_rfl
@[go_sem] theorem ty4conc:Program.concrete Tryz.prog 4=true:=by kernel_rfl
@[go_sem] theorem ty5tyK:tyK Tryz.prog 5=.int .u8:=by kernel_rfl
@[go_sem] theorem ty5sizeT:sizeT Tryz.prog 5=some 1:=by kernel_rfl
@[go_sem] theorem ty5zeroT:zeroT Tryz.prog 5=some (.int .u8 0):=by kernel_rfl
@[go_sem] theorem ty5conc:Program.concrete Tryz.prog 5=true:=by kernel_rfl
@[go_sem] theorem ty9tyK:tyK Tryz.prog 9=.str:=by kernel_rfl
@[go_sem] theorem ty9isStrT:isStrT Tryz.prog 9=true:=by kernel_rfl
@[go_sem] theorem ty9sizeT:sizeT Tryz.prog 9=some 1:=by kernel_rfl
@[go_sem] theorem ty9zeroT:zeroT Tryz.prog 9=some (.string (ofL [])):=by kernel_rfl
@[go_sem] theorem ty9conc:Program.concrete Tryz.prog 9=true:=by kernel_rfl
@[go_sem] theorem ty22tyK:tyK Tryz.prog 22=.slice false 9:=by kernel_rfl
@[go_sem] theorem ty22isSliceT:isSliceT Tryz.prog 22=true:=by kernel_rfl
@[go_sem] theorem ty22sliI:sliI Tryz.prog 22=some 1:=by kernel_rfl
@[go_sem] theorem ty22mkI:mkI Tryz.prog 22=some (9,1,16,(.string (ofL []))):=by kernel_rfl
@[go_sem] theorem ty22sizeT:sizeT Tryz.prog 22=some 1:=by kernel_rfl
@[go_sem] theorem ty22zeroT:zeroT Tryz.prog 22=some (.slice none 0 0):=by kernel_rfl
@[go_sem] theorem ty22conc:Program.concrete Tryz.prog 22=true:=by kernel_rfl
@[go_sem] theorem ty23tyK:tyK Tryz.prog 23=.ptr:=by kernel_rfl
@[go_sem] theorem ty23isPtrT:isPtrT Tryz.prog 23=true:=by kernel_rfl
@[go_sem] theorem ty23sizeT:sizeT Tryz.prog 23=some 1:=by kernel_rfl
@[go_sem] theorem ty23zeroT:zeroT Tryz.prog 23=some (.pointer none):=by kernel_rfl
@[go_sem] theorem ty23conc:Program.concrete Tryz.prog 23=true:=by kernel_rfl
@[go_sem] theorem ty24tyK:tyK Tryz.prog 24=.ptr:=by kernel_rfl
@[go_sem] theorem ty24isPtrT:isPtrT Tryz.prog 24=true:=by kernel_rfl
@[go_sem] theorem ty24sizeT:sizeT Tryz.prog 24=some 1:=by kernel_rfl
@[go_sem] theorem ty24zeroT:zeroT Tryz.prog 24=some (.pointer none):=by kernel_rfl
@[go_sem] theorem ty24conc:Program.concrete Tryz.prog 24=true:=by kernel_rfl
@[go_sem] theorem ty27tyK:tyK Tryz.prog 27=.ptr:=by kernel_rfl
@[go_sem] theorem ty27isPtrT:isPtrT Tryz.prog 27=true:=by kernel_rfl
@[go_sem] theorem ty27sizeT:sizeT Tryz.prog 27=some 1:=by kernel_rfl
@[go_sem] theorem ty27zeroT:zeroT Tryz.prog 27=some (.pointer none):=by kernel_rfl
@[go_sem] theorem ty27conc:Program.concrete Tryz.prog 27=true:=by kernel_rfl
@[go_sem] theorem ty30tyK:tyK Tryz.prog 30=.int .i64:=by kernel_rfl
@[go_sem] theorem ty30sizeT:sizeT Tryz.prog 30=some 1:=by kernel_rfl
@[go_sem] theorem ty30zeroT:zeroT Tryz.prog 30=some (.int .i64 0):=by kernel_rfl
@[go_sem] theorem ty30conc:Program.concrete Tryz.prog 30=true:=by kernel_rfl
@[go_sem] theorem ty35tyK:tyK Tryz.prog 35=.slice false 40:=by kernel_rfl
@[go_sem] theorem ty35isSliceT:isSliceT Tryz.prog 35=true:=by kernel_rfl
@[go_sem] theorem ty35sliI:sliI Tryz.prog 35=some 3:=by kernel_rfl
@[go_sem] theorem ty35mkI:mkI Tryz.prog 35=some (40,3,40,(.agg #[(.int .i64 0),(.string (ofL [])),(.string (ofL []))])):=by kernel_rfl
@[go_sem] theorem ty35sizeT:sizeT Tryz.prog 35=some 1:=by kernel_rfl
@[go_sem] theorem ty35zeroT:zeroT Tryz.prog 35=some (.slice none 0 0):=by kernel_rfl
@[go_sem] theorem ty35conc:Program.concrete Tryz.prog 35=true:=by kernel_rfl
@[go_sem] theorem ty36tyK:tyK Tryz.prog 36=.slice false 44:=by kernel_rfl
@[go_sem] theorem ty36isSliceT:isSliceT Tryz.prog 36=true:=by kernel_rfl
@[go_sem] theorem ty36sliI:sliI Tryz.prog 36=some 2:=by kernel_rfl
@[go_sem] theorem ty36mkI:mkI Tryz.prog 36=some (44,2,24,(.agg #[(.int .i64 0),(.string (ofL []))])):=by kernel_rfl
@[go_sem] theorem ty36sizeT:sizeT Tryz.prog 36=some 1:=by kernel_rfl
@[go_sem] theorem ty36zeroT:zeroT Tryz.prog 36=some (.slice none 0 0):=by kernel_rfl
@[go_sem] theorem ty36conc:Program.concrete Tryz.prog 36=true:=by kernel_rfl
@[go_sem] theorem ty37tyK:tyK Tryz.prog 37=.ptr:=by kernel_rfl
@[go_sem] theorem ty37isPtrT:isPtrT Tryz.prog 37=true:=by kernel_rfl
@[go_sem] theorem ty37sizeT:sizeT Tryz.prog 37=some 1:=by kernel_rfl
@[go_sem] theorem ty37zeroT:zeroT Tryz.prog 37=some (.pointer none):=by kernel_rfl
@[go_sem] theorem ty37conc:Program.concrete Tryz.prog 37=true:=by kernel_rfl
@[go_sem] theorem ty40tyK:tyK Tryz.prog 40=.agg 3:=by kernel_rfl
@[go_sem] theorem ty40sizeT:sizeT Tryz.prog 40=some 3:=by kernel_rfl
@[go_sem] theorem ty40zeroT:zeroT Tryz.prog 40=some (.agg #[(.int .i64 0),(.string (ofL [])),(.string (ofL []))]):=by kernel_rfl
@[go_sem] theorem ty40conc:Program.concrete Tryz.prog 40=true:=by kernel_rfl
@[go_sem] theorem ty40plc:plcT Tryz.prog 40=some [(0,1),(1,1),(2,1)]:=by kernel_rfl
@[go_sem] theorem ty40flat:flatT Tryz.prog 40=some [.int,.str,.str]:=by kernel_rfl
@[go_sem] theorem ty40fld0:fldI Tryz.prog 40 0=some (0,1,false):=by kernel_rfl
@[go_sem] theorem ty40fld1:fldI Tryz.prog 40 1=some (1,1,false):=by kernel_rfl
@[go_sem] theorem ty40fld2:fldI Tryz.prog 40 2=some (2,1,false):=by kernel_rfl
@[go_sem] theorem ty44tyK:tyK Tryz.prog 44=.agg 2:=by kernel_rfl
@[go_sem] theorem ty44sizeT:sizeT Tryz.prog 44=some 2:=by kernel_rfl
@[go_sem] theorem ty44zeroT:zeroT Tryz.prog 44=some (.agg #[(.int .i64 0),(.string (ofL []))]):=by kernel_rfl
@[go_sem] theorem ty44conc:Program.concrete Tryz.prog 44=true:=by kernel_rfl
@[go_sem] theorem ty44plc:plcT Tryz.prog 44=some [(0,1),(1,1)]:=by kernel_rfl
@[go_sem] theorem ty44flat:flatT Tryz.prog 44=some [.int,.str]:=by kernel_rfl
@[go_sem] theorem ty44fld0:fldI Tryz.prog 44 0=some (0,1,false):=by kernel_rfl
@[go_sem] theorem ty44fld1:fldI Tryz.prog 44 1=some (1,1,false):=by kernel_rfl
@[go_sem] theorem ty46tyK:tyK Tryz.prog 46=.slice false 53:=by kernel_rfl
@[go_sem] theorem ty46isSliceT:isSliceT Tryz.prog 46=true:=by kernel_rfl
@[go_sem] theorem ty46sliI:sliI Tryz.prog 46=some 2:=by kernel_rfl
@[go_sem] theorem ty46mkI:mkI Tryz.prog 46=some (53,2,32,(.agg #[(.string (ofL [])),(.string (ofL []))])):=by kernel_rfl
@[go_sem] theorem ty46sizeT:sizeT Tryz.prog 46=some 1:=by kernel_rfl
@[go_sem] theorem ty46zeroT:zeroT Tryz.prog 46=some (.slice none 0 0):=by kernel_rfl
@[go_sem] theorem ty46conc:Program.concrete Tryz.prog 46=true:=by kernel_rfl
@[go_sem] theorem ty48tyK:tyK Tryz.prog 48=.slice false 3:=by kernel_rfl
@[go_sem] theorem ty48isSliceT:isSliceT Tryz.prog 48=true:=by kernel_rfl
@[go_sem] theorem ty48sliI:sliI Tryz.prog 48=some 1:=by kernel_rfl
@[go_sem] theorem ty48mkI:mkI Tryz.prog 48=some (3,1,8,(.int .i64 0)):=by kernel_rfl
@[go_sem] theorem ty48sizeT:sizeT Tryz.prog 48=some 1:=by kernel_rfl
@[go_sem] theorem ty48zeroT:zeroT Tryz.prog 48=some (.slice none 0 0):=by kernel_rfl
@[go_sem] theorem ty48conc:Program.concrete Tryz.prog 48=true:=by kernel_rfl
@[go_sem] theorem ty53tyK:tyK Tryz.prog 53=.agg 2:=by kernel_rfl
@[go_sem] theorem ty53sizeT:sizeT Tryz.prog 53=some 2:=by kernel_rfl
@[go_sem] theorem ty53zeroT:zeroT Tryz.prog 53=some (.agg #[(.string (ofL [])),(.string (ofL []))]):=by kernel_rfl
@[go_sem] theorem ty53conc:Program.concrete Tryz.prog 53=true:=by kernel_rfl
@[go_sem] theorem ty53plc:plcT Tryz.prog 53=some [(0,1),(1,1)]:=by kernel_rfl
@[go_sem] theorem ty53flat:flatT Tryz.prog 53=some [.str,.str]:=by kernel_rfl
@[go_sem] theorem ty53fld0:fldI Tryz.prog 53 0=some (0,1,false):=by kernel_rfl
@[go_sem] theorem ty53fld1:fldI Tryz.prog 53 1=some (1,1,false):=by kernel_rfl
@[go_sem] theorem ty56tyK:tyK Tryz.prog 56=.agg 2:=by kernel_rfl
@[go_sem] theorem ty56sizeT:sizeT Tryz.prog 56=some 2:=by kernel_rfl
@[go_sem] theorem ty56zeroT:zeroT Tryz.prog 56=some (.agg #[(.pointer none),(.int .i64 0)]):=by kernel_rfl
@[go_sem] theorem ty56conc:Program.concrete Tryz.prog 56=true:=by kernel_rfl
@[go_sem] theorem ty56plc:plcT Tryz.prog 56=some [(0,1),(1,1)]:=by kernel_rfl
@[go_sem] theorem ty56fld0:fldI Tryz.prog 56 0=some (0,1,false):=by kernel_rfl
@[go_sem] theorem ty56fld1:fldI Tryz.prog 56 1=some (1,1,false):=by kernel_rfl
@[go_sem] theorem ty57tyK:tyK Tryz.prog 57=.slice false 37:=by kernel_rfl
@[go_sem] theorem ty57isSliceT:isSliceT Tryz.prog 57=true:=by kernel_rfl
@[go_sem] theorem ty57sliI:sliI Tryz.prog 57=some 1:=by kernel_rfl
@[go_sem] theorem ty57mkI:mkI Tryz.prog 57=some (37,1,8,(.pointer none)):=by kernel_rfl
@[go_sem] theorem ty57sizeT:sizeT Tryz.prog 57=some 1:=by kernel_rfl
@[go_sem] theorem ty57zeroT:zeroT Tryz.prog 57=some (.slice none 0 0):=by kernel_rfl
@[go_sem] theorem ty57conc:Program.concrete Tryz.prog 57=true:=by kernel_rfl
@[go_sem] theorem ty78tyK:tyK Tryz.prog 78=.int .u64:=by kernel_rfl
@[go_sem] theorem ty78sizeT:sizeT Tryz.prog 78=some 1:=by kernel_rfl
@[go_sem] theorem ty78zeroT:zeroT Tryz.prog 78=some (.int .u64 0):=by kernel_rfl
@[go_sem] theorem ty78conc:Program.concrete Tryz.prog 78=true:=by kernel_rfl
@[go_sem] theorem ty88tyK:tyK Tryz.prog 88=.ptr:=by kernel_rfl
@[go_sem] theorem ty88isPtrT:isPtrT Tryz.prog 88=true:=by kernel_rfl
@[go_sem] theorem ty88sizeT:sizeT Tryz.prog 88=some 1:=by kernel_rfl
@[go_sem] theorem ty88zeroT:zeroT Tryz.prog 88=some (.pointer none):=by kernel_rfl
@[go_sem] theorem ty88conc:Program.concrete Tryz.prog 88=true:=by kernel_rfl
@[go_sem] theorem ty96tyK:tyK Tryz.prog 96=.ptr:=by kernel_rfl
@[go_sem] theorem ty96isPtrT:isPtrT Tryz.prog 96=true:=by kernel_rfl
@[go_sem] theorem ty96sizeT:sizeT Tryz.prog 96=some 1:=by kernel_rfl
@[go_sem] theorem ty96zeroT:zeroT Tryz.prog 96=some (.pointer none):=by kernel_rfl
@[go_sem] theorem ty96conc:Program.concrete Tryz.prog 96=true:=by kernel_rfl
@[go_sem] theorem ty98tyK:tyK Tryz.prog 98=.agg 2:=by kernel_rfl
@[go_sem] theorem ty98sizeT:sizeT Tryz.prog 98=some 2:=by kernel_rfl
@[go_sem] theorem ty98zeroT:zeroT Tryz.prog 98=some (.agg #[(.pointer none),(.pointer none)]):=by kernel_rfl
@[go_sem] theorem ty98conc:Program.concrete Tryz.prog 98=true:=by kernel_rfl
@[go_sem] theorem ty98plc:plcT Tryz.prog 98=some [(0,1),(1,1)]:=by kernel_rfl
@[go_sem] theorem ty98fld0:fldI Tryz.prog 98 0=some (0,1,false):=by kernel_rfl
@[go_sem] theorem ty98fld1:fldI Tryz.prog 98 1=some (1,1,false):=by kernel_rfl
@[go_sem] theorem ty119tyK:tyK Tryz.prog 119=.agg 4:=by kernel_rfl
@[go_sem] theorem ty119sizeT:sizeT Tryz.prog 119=some 4:=by kernel_rfl
@[go_sem] theorem ty119zeroT:zeroT Tryz.prog 119=some (.agg #[(.bool false),(.slice none 0 0),(.slice none 0 0),(.slice none 0 0)]):=by kernel_rfl
@[go_sem] theorem ty119conc:Program.concrete Tryz.prog 119=true:=by kernel_rfl
@[go_sem] theorem ty119plc:plcT Tryz.prog 119=some [(0,1),(1,1),(2,1),(3,1)]:=by kernel_rfl
@[go_sem] theorem ty119fld0:fldI Tryz.prog 119 0=some (0,1,false):=by kernel_rfl
@[go_sem] theorem ty119fld1:fldI Tryz.prog 119 1=some (1,1,false):=by kernel_rfl
@[go_sem] theorem ty119fld2:fldI Tryz.prog 119 2=some (2,1,false):=by kernel_rfl
@[go_sem] theorem ty119fld3:fldI Tryz.prog 119 3=some (3,1,false):=by kernel_rfl
@[go_sem] theorem ty123tyK:tyK Tryz.prog 123=.map:=by kernel_rfl
@[go_sem] theorem ty123isMapT:isMapT Tryz.prog 123=true:=by kernel_rfl
@[go_sem] theorem ty123sizeT:sizeT Tryz.prog 123=some 1:=by kernel_rfl
@[go_sem] theorem ty123zeroT:zeroT Tryz.prog 123=some (.map none):=by kernel_rfl
@[go_sem] theorem ty123conc:Program.concrete Tryz.prog 123=true:=by kernel_rfl
@[go_sem] theorem ty125tyK:tyK Tryz.prog 125=.agg 7:=by kernel_rfl
@[go_sem] theorem ty125sizeT:sizeT Tryz.prog 125=some 7:=by kernel_rfl
@[go_sem] theorem ty125zeroT:zeroT Tryz.prog 125=some (.agg #[(.pointer none),(.slice none 0 0),(.map none),(.int .i64 0),(.string (ofL [])),(.bool false),(.bool false)]):=by kernel_rfl
@[go_sem] theorem ty125conc:Program.concrete Tryz.prog 125=true:=by kernel_rfl
@[go_sem] theorem ty125plc:plcT Tryz.prog 125=some [(0,1),(1,1),(2,1),(3,1),(4,1),(5,1),(6,1)]:=by kernel_rfl
@[go_sem] theorem ty125fld0:fldI Tryz.prog 125 0=some (0,1,false):=by kernel_rfl
@[go_sem] theorem ty125fld1:fldI Tryz.prog 125 1=some (1,1,false):=by kernel_rfl
@[go_sem] theorem ty125fld2:fldI Tryz.prog 125 2=some (2,1,false):=by kernel_rfl
@[go_sem] theorem ty125fld3:fldI Tryz.prog 125 3=some (3,1,false):=by kernel_rfl
@[go_sem] theorem ty125fld4:fldI Tryz.prog 125 4=some (4,1,false):=by kernel_rfl
@[go_sem] theorem ty125fld5:fldI Tryz.prog 125 5=some (5,1,false):=by kernel_rfl
@[go_sem] theorem ty125fld6:fldI Tryz.prog 125 6=some (6,1,false):=by kernel_rfl
@[go_sem] theorem ty129tyK:tyK Tryz.prog 129=.other:=by kernel_rfl
@[go_sem] theorem ty129isFuncT:isFuncT Tryz.prog 129=true:=by kernel_rfl
@[go_sem] theorem ty129sizeT:sizeT Tryz.prog 129=some 1:=by kernel_rfl
@[go_sem] theorem ty129zeroT:zeroT Tryz.prog 129=some .nilFunc:=by kernel_rfl
@[go_sem] theorem ty129conc:Program.concrete Tryz.prog 129=true:=by kernel_rfl
@[go_sem] theorem ty131tyK:tyK Tryz.prog 131=.other:=by kernel_rfl
@[go_sem] theorem ty131isFuncT:isFuncT Tryz.prog 131=true:=by kernel_rfl
@[go_sem] theorem ty131sizeT:sizeT Tryz.prog 131=some 1:=by kernel_rfl
@[go_sem] theorem ty131zeroT:zeroT Tryz.prog 131=some .nilFunc:=by kernel_rfl
@[go_sem] theorem ty131conc:Program.concrete Tryz.prog 131=true:=by kernel_rfl
@[go_sem] theorem ty147tyK:tyK Tryz.prog 147=.int .u64:=by kernel_rfl
@[go_sem] theorem ty147sizeT:sizeT Tryz.prog 147=some 1:=by kernel_rfl
@[go_sem] theorem ty147zeroT:zeroT Tryz.prog 147=some (.int .u64 0):=by kernel_rfl
@[go_sem] theorem ty147conc:Program.concrete Tryz.prog 147=true:=by kernel_rfl
@[go_sem] theorem ty155tyK:tyK Tryz.prog 155=.slice false 199:=by kernel_rfl
@[go_sem] theorem ty155isSliceT:isSliceT Tryz.prog 155=true:=by kernel_rfl
@[go_sem] theorem ty155sliI:sliI Tryz.prog 155=some 2:=by kernel_rfl
@[go_sem] theorem ty155mkI:mkI Tryz.prog 155=some (199,2,24,(.agg #[(.int .i64 0),(.string (ofL []))])):=by kernel_rfl
@[go_sem] theorem ty155sizeT:sizeT Tryz.prog 155=some 1:=by kernel_rfl
@[go_sem] theorem ty155zeroT:zeroT Tryz.prog 155=some (.slice none 0 0):=by kernel_rfl
@[go_sem] theorem ty155conc:Program.concrete Tryz.prog 155=true:=by kernel_rfl
@[go_sem] theorem ty157tyK:tyK Tryz.prog 157=.agg 5:=by kernel_rfl
@[go_sem] theorem ty157sizeT:sizeT Tryz.prog 157=some 5:=by kernel_rfl
@[go_sem] theorem ty157zeroT:zeroT Tryz.prog 157=some (.agg #[(.slice none 0 0),(.slice none 0 0),(.int .i64 0),(.bool false),(.string (ofL []))]):=by kernel_rfl
@[go_sem] theorem ty157conc:Program.concrete Tryz.prog 157=true:=by kernel_rfl
@[go_sem] theorem ty157plc:plcT Tryz.prog 157=some [(0,1),(1,1),(2,1),(3,1),(4,1)]:=by kernel_rfl
@[go_sem] theorem ty157fld0:fldI Tryz.prog 157 0=some (0,1,false):=by kernel_rfl
@[go_sem] theorem ty157fld1:fldI Tryz.prog 157 1=some (1,1,false):=by kernel_rfl
@[go_sem] theorem ty157fld2:fldI Tryz.prog 157 2=some (2,1,false):=by kernel_rfl
@[go_sem] theorem ty157fld3:fldI Tryz.prog 157 3=some (3,1,false):=by kernel_rfl
@[go_sem] theorem ty157fld4:fldI Tryz.prog 157 4=some (4,1,false):=by kernel_rfl
@[go_sem] theorem ty160tyK:tyK Tryz.prog 160=.agg 4:=by kernel_rfl
@[go_sem] theorem ty160sizeT:sizeT Tryz.prog 160=some 4:=by kernel_rfl
@[go_sem] theorem ty160zeroT:zeroT Tryz.prog 160=some (.agg #[(.int .u64 0),(.int .i64 0),(.int .i64 0),(.int .i64 0)]):=by kernel_rfl
@[go_sem] theorem ty160conc:Program.concrete Tryz.prog 160=true:=by kernel_rfl
@[go_sem] theorem ty160plc:plcT Tryz.prog 160=some [(0,1),(1,1),(2,1),(3,1)]:=by kernel_rfl
@[go_sem] theorem ty160flat:flatT Tryz.prog 160=some [.int,.int,.int,.int]:=by kernel_rfl
@[go_sem] theorem ty160fld0:fldI Tryz.prog 160 0=some (0,1,false):=by kernel_rfl
@[go_sem] theorem ty160fld1:fldI Tryz.prog 160 1=some (1,1,false):=by kernel_rfl
@[go_sem] theorem ty160fld2:fldI Tryz.prog 160 2=some (2,1,false):=by kernel_rfl
@[go_sem] theorem ty160fld3:fldI Tryz.prog 160 3=some (3,1,false):=by kernel_rfl
@[go_sem] theorem ty163tyK:tyK Tryz.prog 163=.map:=by kernel_rfl
@[go_sem] theorem ty163isMapT:isMapT Tryz.prog 163=true:=by kernel_rfl
@[go_sem] theorem ty163sizeT:sizeT Tryz.prog 163=some 1:=by kernel_rfl
@[go_sem] theorem ty163zeroT:zeroT Tryz.prog 163=some (.map none):=by kernel_rfl
@[go_sem] theorem ty163conc:Program.concrete Tryz.prog 163=true:=by kernel_rfl
@[go_sem] theorem ty165tyK:tyK Tryz.prog 165=.agg 7:=by kernel_rfl
@[go_sem] theorem ty165sizeT:sizeT Tryz.prog 165=some 7:=by kernel_rfl
@[go_sem] theorem ty165zeroT:zeroT Tryz.prog 165=some (.agg #[(.pointer none),(.int .u64 0),(.int .i64 0),(.int .i64 0),(.int .i64 0),(.map none),(.bool false)]):=by kernel_rfl
@[go_sem] theorem ty165conc:Program.concrete Tryz.prog 165=true:=by kernel_rfl
@[go_sem] theorem ty165plc:plcT Tryz.prog 165=some [(0,1),(1,4),(5,1),(6,1)]:=by kernel_rfl
@[go_sem] theorem ty165fld0:fldI Tryz.prog 165 0=some (0,1,false):=by kernel_rfl
@[go_sem] theorem ty165fld1:fldI Tryz.prog 165 1=some (1,4,true):=by kernel_rfl
@[go_sem] theorem ty165fld2:fldI Tryz.prog 165 2=some (5,1,false):=by kernel_rfl
@[go_sem] theorem ty165fld3:fldI Tryz.prog 165 3=some (6,1,false):=by kernel_rfl
@[go_sem] theorem ty181tyK:tyK Tryz.prog 181=.slice true 5:=by kernel_rfl
@[go_sem] theorem ty181isSliceT:isSliceT Tryz.prog 181=true:=by kernel_rfl
@[go_sem] theorem ty181sliI:sliI Tryz.prog 181=some 1:=by kernel_rfl
@[go_sem] theorem ty181mkI:mkI Tryz.prog 181=some (5,1,1,(.int .u8 0)):=by kernel_rfl
@[go_sem] theorem ty181sizeT:sizeT Tryz.prog 181=some 1:=by kernel_rfl
@[go_sem] theorem ty181zeroT:zeroT Tryz.prog 181=some (.slice none 0 0):=by kernel_rfl
@[go_sem] theorem ty181conc:Program.concrete Tryz.prog 181=true:=by kernel_rfl
@[go_sem] theorem ty189tyK:tyK Tryz.prog 189=.agg 4:=by kernel_rfl
@[go_sem] theorem ty189sizeT:sizeT Tryz.prog 189=some 4:=by kernel_rfl
@[go_sem] theorem ty189zeroT:zeroT Tryz.prog 189=some (.agg #[(.pointer none),(.string (ofL [])),.nilFunc,(.int .i64 0)]):=by kernel_rfl
@[go_sem] theorem ty189conc:Program.concrete Tryz.prog 189=true:=by kernel_rfl
@[go_sem] theorem ty189plc:plcT Tryz.prog 189=some [(0,1),(1,1),(2,1),(3,1)]:=by kernel_rfl
@[go_sem] theorem ty189fld0:fldI Tryz.prog 189 0=some (0,1,false):=by kernel_rfl
@[go_sem] theorem ty189fld1:fldI Tryz.prog 189 1=some (1,1,false):=by kernel_rfl
@[go_sem] theorem ty189fld2:fldI Tryz.prog 189 2=some (2,1,false):=by kernel_rfl
@[go_sem] theorem ty189fld3:fldI Tryz.prog 189 3=some (3,1,false):=by kernel_rfl
@[go_sem] theorem ty199tyK:tyK Tryz.prog 199=.agg 2:=by kernel_rfl
@[go_sem] theorem ty199sizeT:sizeT Tryz.prog 199=some 2:=by kernel_rfl
@[go_sem] theorem ty199zeroT:zeroT Tryz.prog 199=some (.agg #[(.int .i64 0),(.string (ofL []))]):=by kernel_rfl
@[go_sem] theorem ty199conc:Program.concrete Tryz.prog 199=true:=by kernel_rfl
@[go_sem] theorem ty199plc:plcT Tryz.prog 199=some [(0,1),(1,1)]:=by kernel_rfl
@[go_sem] theorem ty199flat:flatT Tryz.prog 199=some [.int,.str]:=by kernel_rfl
@[go_sem] theorem ty199fld0:fldI Tryz.prog 199 0=some (0,1,false):=by kernel_rfl
@[go_sem] theorem ty199fld1:fldI Tryz.prog 199 1=some (1,1,false):=by kernel_rfl
@[go_sem] theorem ty204tyK:tyK Tryz.prog 204=.slice false 223:=by kernel_rfl
@[go_sem] theorem ty204isSliceT:isSliceT Tryz.prog 204=true:=by kernel_rfl
@[go_sem] theorem ty204sliI:sliI Tryz.prog 204=some 3:=by kernel_rfl
@[go_sem] theorem ty204mkI:mkI Tryz.prog 204=some (223,3,32,(.agg #[(.int .i64 0),(.string (ofL [])),(.int .i64 0)])):=by kernel_rfl
@[go_sem] theorem ty204sizeT:sizeT Tryz.prog 204=some 1:=by kernel_rfl
@[go_sem] theorem ty204zeroT:zeroT Tryz.prog 204=some (.slice none 0 0):=by kernel_rfl
@[go_sem] theorem ty204conc:Program.concrete Tryz.prog 204=true:=by kernel_rfl
@[go_sem] theorem ty206tyK:tyK Tryz.prog 206=.agg 2:=by kernel_rfl
@[go_sem] theorem ty206sizeT:sizeT Tryz.prog 206=some 2:=by kernel_rfl
@[go_sem] theorem ty206zeroT:zeroT Tryz.prog 206=some (.agg #[(.int .i64 0),(.slice none 0 0)]):=by kernel_rfl
@[go_sem] theorem ty206conc:Program.concrete Tryz.prog 206=true:=by kernel_rfl
@[go_sem] theorem ty206plc:plcT Tryz.prog 206=some [(0,1),(1,1)]:=by kernel_rfl
@[go_sem] theorem ty206fld0:fldI Tryz.prog 206 0=some (0,1,false):=by kernel_rfl
@[go_sem] theorem ty206fld1:fldI Tryz.prog 206 1=some (1,1,false):=by kernel_rfl
@[go_sem] theorem ty209tyK:tyK Tryz.prog 209=.agg 2:=by kernel_rfl
@[go_sem] theorem ty209sizeT:sizeT Tryz.prog 209=some 2:=by kernel_rfl
@[go_sem] theorem ty209zeroT:zeroT Tryz.prog 209=some (.agg #[(.pointer none),(.slice none 0 0)]):=by kernel_rfl
@[go_sem] theorem ty209conc:Program.concrete Tryz.prog 209=true:=by kernel_rfl
@[go_sem] theorem ty209plc:plcT Tryz.prog 209=some [(0,1),(1,1)]:=by kernel_rfl
@[go_sem] theorem ty209fld0:fldI Tryz.prog 209 0=some (0,1,false):=by kernel_rfl
@[go_sem] theorem ty209fld1:fldI Tryz.prog 209 1=some (1,1,false):=by kernel_rfl
@[go_sem] theorem ty223tyK:tyK Tryz.prog 223=.agg 3:=by kernel_rfl
@[go_sem] theorem ty223sizeT:sizeT Tryz.prog 223=some 3:=by kernel_rfl
@[go_sem] theorem ty223zeroT:zeroT Tryz.prog 223=some (.agg #[(.int .i64 0),(.string (ofL [])),(.int .i64 0)]):=by kernel_rfl
@[go_sem] theorem ty223conc:Program.concrete Tryz.prog 223=true:=by kernel_rfl
@[go_sem] theorem ty223plc:plcT Tryz.prog 223=some [(0,1),(1,1),(2,1)]:=by kernel_rfl
@[go_sem] theorem ty223flat:flatT Tryz.prog 223=some [.int,.str,.int]:=by kernel_rfl
@[go_sem] theorem ty223fld0:fldI Tryz.prog 223 0=some (0,1,false):=by kernel_rfl
@[go_sem] theorem ty223fld1:fldI Tryz.prog 223 1=some (1,1,false):=by kernel_rfl
@[go_sem] theorem ty223fld2:fldI Tryz.prog 223 2=some (2,1,false):=by kernel_rfl
@[go_sem] theorem ty236tyK:tyK Tryz.prog 236=.ptr:=by kernel_rfl
@[go_sem] theorem ty236isPtrT:isPtrT Tryz.prog 236=true:=by kernel_rfl
@[go_sem] theorem ty236sizeT:sizeT Tryz.prog 236=some 1:=by kernel_rfl
@[go_sem] theorem ty236zeroT:zeroT Tryz.prog 236=some (.pointer none):=by kernel_rfl
@[go_sem] theorem ty236conc:Program.concrete Tryz.prog 236=true:=by kernel_rfl
def c3code:Code:=match Tryz.f3.body with | some c=>c | none=>.skip
def c3S0(_:Unit):Cmd:=(.cond (.tmp 65)
 (.seq (.ops [
 ⟨some 2,.assign (.const (.bool false)),4,none⟩] [2])
 .ret)
 (.skip [0,4,5,6,7,8]))
def c3S1(_:Unit):Cmd:=(.seq (.ops [
 ⟨some 50,.move (.tmp 10),30,none⟩,
 ⟨some 51,.binOp .eql 30 (.tmp 50) (.const (.int .i64 0)) 30,4,none⟩,
 ⟨some 52,.move (.tmp 0),22,none⟩,
 ⟨some 53,.move (.tmp 8),3,none⟩,
 ⟨some 54,.indexAddr 22 (.tmp 52) (.tmp 53),0,none⟩,
 ⟨some 55,.load 9 (.tmp 54),9,none⟩,
 ⟨some 56,.binOp .neq 9 (.tmp 55) (.const (.string (ofL []))) 9,4,none⟩,
 ⟨some 57,.binOp .neq 4 (.tmp 51) (.tmp 56) 4,4,none⟩,
 ⟨some 58,.move (.tmp 57),4,none⟩,
 ⟨some 59,.move (.tmp 6),3,(some (58,false))⟩,
 ⟨some 60,.move (.tmp 4),24,(some (58,false))⟩,
 ⟨some 61,.call ⟨.value (.func 12),#[(.tmp 60)],#[24]⟩,3,(some (58,false))⟩,
 ⟨some 62,.binOp .sub 3 (.tmp 59) (.tmp 61) 3,3,(some (58,false))⟩,
 ⟨some 63,.move (.tmp 7),3,(some (58,false))⟩,
 ⟨some 64,.binOp .gtr 3 (.tmp 62) (.tmp 63) 3,4,(some (58,false))⟩,
 ⟨some 65,.pick (.tmp 58) (.const (.bool true)) (.tmp 64),4,none⟩] [0,4,5,6,7,8,65]) (sg c3S0))
def c3S2(_:Unit):Cmd:=(.seq (.seq (.ops [
 ⟨some 46,.move (.tmp 10),30,none⟩,
 ⟨some 47,.binOp .eql 30 (.tmp 46) (.const (.int .i64 0)) 30,4,none⟩] [0,4,5,6,7,8,10,47])
 (.cond (.tmp 47)
 (.ops [
 ⟨some 48,.move (.tmp 7),3,none⟩,
 ⟨some 49,.binOp .add 3 (.tmp 48) (.const (.int .i64 1)) 3,3,none⟩,
 ⟨some 7,.assign (.tmp 49),3,none⟩] [0,4,5,6,7,8,10])
 (.skip [0,4,5,6,7,8,10]))) (sg c3S1))
def c3S3(_:Unit):Cmd:=(.seq (.ops [
 ⟨some 38,.move (.tmp 5),27,none⟩,
 ⟨some 39,.move (.tmp 0),22,none⟩,
 ⟨some 40,.move (.tmp 8),3,none⟩,
 ⟨some 41,.indexAddr 22 (.tmp 39) (.tmp 40),0,none⟩,
 ⟨some 42,.load 9 (.tmp 41),9,none⟩,
 ⟨some 43,.call ⟨.value (.func 13),#[(.tmp 38),(.tmp 42)],#[27,9]⟩,31,none⟩,
 ⟨some 37,.move (.tmp 43),31,none⟩,
 ⟨some 44,.extract (.tmp 37) 0,3,none⟩,
 ⟨some 45,.extract (.tmp 37) 1,30,none⟩,
 ⟨some 9,.assign (.tmp 44),3,none⟩,
 ⟨some 10,.assign (.tmp 45),30,none⟩] [0,4,5,6,7,8,10]) (sg c3S2))
def c3S4(_:Unit):Cmd:=(.ops [
 ⟨some 29,.move (.tmp 8),3,none⟩,
 ⟨some 30,.binOp .add 3 (.tmp 29) (.const (.int .i64 1)) 3,3,none⟩,
 ⟨some 8,.assign (.tmp 30),3,none⟩] [0,4,5,6,7,8])
def c3S5(_:Unit):Cmd:=(.seq (.block 1 (.seq (.seq (.ops [
 ⟨some 31,.move (.tmp 0),22,none⟩,
 ⟨some 32,.move (.tmp 8),3,none⟩,
 ⟨some 33,.indexAddr 22 (.tmp 31) (.tmp 32),0,none⟩,
 ⟨some 34,.load 9 (.tmp 33),9,none⟩,
 ⟨some 35,.call ⟨.builtin .len,#[(.tmp 34)],#[9]⟩,3,none⟩,
 ⟨some 36,.binOp .gtr 3 (.tmp 35) (.const (.int .i64 60)) 3,4,none⟩] [0,4,5,6,7,8,36])
 (.cond (.tmp 36)
 (.exit 1 [0,4,5,6,7,8])
 (.skip [0,4,5,6,7,8]))) (sg c3S3))) (sg c3S4))
def c3L0(_:Unit):Cmd:=(.seq (.seq (.ops [
 ⟨some 21,.move (.tmp 8),3,none⟩,
 ⟨some 22,.move (.tmp 0),22,none⟩,
 ⟨some 23,.call ⟨.builtin .len,#[(.tmp 22)],#[22]⟩,3,none⟩,
 ⟨some 24,.binOp .lss 3 (.tmp 21) (.tmp 23) 3,4,none⟩,
 ⟨some 25,.move (.tmp 24),4,none⟩,
 ⟨some 26,.move (.tmp 8),3,(some (25,true))⟩,
 ⟨some 27,.binOp .lss 3 (.tmp 26) (.const (.int .i64 60)) 3,4,(some (25,true))⟩,
 ⟨some 28,.pick (.tmp 25) (.tmp 27) (.const (.bool false)),4,none⟩] [0,4,5,6,7,8,28])
 (.cond (.tmp 28)
 (.skip [0,4,5,6,7,8])
 (.exit 0 []))) (sg c3S5))
def c3S6(_:Unit):Cmd:=.ret
def c3S7(_:Unit):Cmd:=(.seq (.ops [
 ⟨some 66,.call ⟨.value (.func 14),#[],#[]⟩,4,none⟩,
 ⟨some 2,.assign (.tmp 66),4,none⟩] [2]) (sg c3S6))
def c3S8(_:Unit):Cmd:=(.seq (.seq (.ops [
 ⟨some 8,.assign (.const (.int .i64 0)),3,none⟩] [0,4,5,6,7,8])
 (.block 0 (.loop (sg c3L0)))) (sg c3S7))
def c3S9(_:Unit):Cmd:=(.seq (.ops [
 ⟨some 19,.move (.tmp 4),24,none⟩,
 ⟨some 20,.call ⟨.value (.func 12),#[(.tmp 19)],#[24]⟩,3,none⟩,
 ⟨some 6,.assign (.tmp 20),3,none⟩,
 ⟨some 7,.assign (.const (.int .i64 0)),3,none⟩] [0,4,5,6,7]) (sg c3S8))
def c3S10(_:Unit):Cmd:=(.seq (.seq (.ops [
 ⟨some 17,.move (.tmp 5),27,none⟩,
 ⟨some 18,.binOp .eql 27 (.tmp 17) (.const (.pointer none)) 27,4,none⟩] [0,4,5,18])
 (.cond (.tmp 18)
 (.seq (.ops [
 ⟨some 2,.assign (.const (.bool false)),4,none⟩] [2])
 .ret)
 (.skip [0,4,5]))) (sg c3S9))
def c3S11(_:Unit):Cmd:=(.seq (.ops [
 ⟨some 15,.move (.tmp 4),24,none⟩,
 ⟨some 16,.call ⟨.value (.func 11),#[(.tmp 15),(.const (.int .i64 9))],#[24,3]⟩,27,none⟩,
 ⟨some 5,.assign (.tmp 16),27,none⟩] [0,4,5]) (sg c3S10))
def c3:Cmd:=(.seq (.ops [
 ⟨some 2,.assign (.const (.bool false)),4,none⟩] [0])
 (.seq (.ops [
 ⟨some 12,.call ⟨.value (.func 10),#[(.const (.int .i64 100))],#[3]⟩,25,none⟩,
 ⟨some 11,.move (.tmp 12),25,none⟩,
 ⟨some 13,.extract (.tmp 11) 0,23,none⟩,
 ⟨some 14,.extract (.tmp 11) 1,24,none⟩,
 ⟨some 3,.assign (.tmp 13),23,none⟩,
 ⟨some 4,.assign (.tmp 14),24,none⟩] [0,4]) (sg c3S11)))
attribute [go_sem] c3 c3S0 c3S1 c3S2 c3S3 c3S4 c3S5 c3L0 c3S6 c3S7 c3S8 c3S9 c3S10 c3S11
@[go_sem] theorem go3:goFunc Tryz.prog 3=true:=by kernel_rfl
@[go_sem] theorem go6:goFunc Tryz.prog 6=true:=by kernel_rfl
@[go_sem] theorem go7:goFunc Tryz.prog 7=true:=by kernel_rfl
@[go_sem] theorem go8:goFunc Tryz.prog 8=true:=by kernel_rfl
@[go_sem] theorem go9:goFunc Tryz.prog 9=true:=by kernel_rfl
@[go_sem] theorem go10:goFunc Tryz.prog 10=true:=by kernel_rfl
@[go_sem] theorem go11:goFunc Tryz.prog 11=true:=by kernel_rfl
def c12code:Code:=match Tryz.f12.body with | some c=>c | none=>.skip
def c12S0(_:Unit):Cmd:=(.cond (.tmp 37)
 (.ops [
 ⟨some 38,.move (.tmp 6),3,none⟩,
 ⟨some 39,.binOp .sub 3 (.tmp 38) (.const (.int .i64 1)) 3,3,none⟩,
 ⟨some 6,.assign (.tmp 39),3,none⟩] [3,5,6,7])
 (.skip [3,5,6,7]))
def c12S1(_:Unit):Cmd:=(.ops [
 ⟨some 33,.move (.tmp 7),3,none⟩,
 ⟨some 34,.binOp .add 3 (.tmp 33) (.const (.int .i64 1)) 3,3,none⟩,
 ⟨some 7,.assign (.tmp 34),3,none⟩] [3,5,6,7])
def c12S2(_:Unit):Cmd:=(.seq (.block 1 (.seq (.ops [
 ⟨some 35,.move (.tmp 3),9,none⟩,
 ⟨some 36,.move (.tmp 7),3,none⟩,
 ⟨some 37,.call ⟨.value (.func 49),#[(.tmp 35),(.tmp 36)],#[9,3]⟩,4,none⟩] [3,5,6,7,37]) (sg c12S0))) (sg c12S1))
def c12L0(_:Unit):Cmd:=(.seq (.seq (.ops [
 ⟨some 30,.move (.tmp 7),3,none⟩,
 ⟨some 31,.move (.tmp 5),3,none⟩,
 ⟨some 32,.binOp .lss 3 (.tmp 30) (.tmp 31) 3,4,none⟩] [3,5,6,7,32])
 (.cond (.tmp 32)
 (.skip [3,5,6,7])
 (.exit 0 [6]))) (sg c12S2))
def c12S3(_:Unit):Cmd:=(.seq (.ops [
 ⟨some 40,.move (.tmp 6),3,none⟩,
 ⟨some 2,.assign (.tmp 40),3,none⟩] [2])
 .ret)
def c12S4(_:Unit):Cmd:=(.seq (.seq (.ops [
 ⟨some 27,.move (.tmp 5),3,none⟩,
 ⟨some 28,.binOp .quo 3 (.tmp 27) (.const (.int .i64 8)) 3,3,none⟩,
 ⟨some 29,.binOp .mul 3 (.tmp 28) (.const (.int .i64 8)) 3,3,none⟩,
 ⟨some 7,.assign (.tmp 29),3,none⟩] [3,5,6,7])
 (.block 0 (.loop (sg c12L0)))) (sg c12S3))
def c12S5(_:Unit):Cmd:=(.seq (.ops [
 ⟨some 20,.move (.tmp 5),3,none⟩,
 ⟨some 21,.move (.tmp 3),9,none⟩,
 ⟨some 22,.move (.tmp 5),3,none⟩,
 ⟨some 23,.binOp .quo 3 (.tmp 22) (.const (.int .i64 8)) 3,3,none⟩,
 ⟨some 24,.slice 9 (.tmp 21) none (some (.tmp 23)) none,9,none⟩,
 ⟨some 25,.call ⟨.value (.func 48),#[(.tmp 24)],#[9]⟩,3,none⟩,
 ⟨some 26,.binOp .sub 3 (.tmp 20) (.tmp 25) 3,3,none⟩,
 ⟨some 6,.assign (.tmp 26),3,none⟩] [3,5,6]) (sg c12S4))
def c12S6(_:Unit):Cmd:=(.seq (.ops [
 ⟨some 15,.move (.tmp 0),24,none⟩,
 ⟨some 16,.nilCheck (.tmp 15),0,none⟩,
 ⟨some 17,.fieldAddr 98 (.tmp 16) 0,0,none⟩,
 ⟨some 18,.load 88 (.tmp 17),88,none⟩,
 ⟨some 19,.call ⟨.value (.func 47),#[(.tmp 18)],#[88]⟩,3,none⟩,
 ⟨some 5,.assign (.tmp 19),3,none⟩] [3,5]) (sg c12S5))
def c12S7(_:Unit):Cmd:=(.seq (.seq (.ops [
 ⟨some 13,.move (.tmp 4),30,none⟩,
 ⟨some 14,.binOp .neq 30 (.tmp 13) (.const (.int .i64 0)) 30,4,none⟩] [0,3,14])
 (.cond (.tmp 14)
 (.seq (.ops [
 ⟨some 2,.assign (.const (.int .i64 0)),3,none⟩] [2])
 .ret)
 (.skip [0,3]))) (sg c12S6))
def c12:Cmd:=(.seq (.ops [
 ⟨some 2,.assign (.const (.int .i64 0)),3,none⟩] [0])
 (.seq (.ops [
 ⟨some 9,.move (.tmp 0),24,none⟩,
 ⟨some 10,.call ⟨.value (.func 46),#[(.tmp 9)],#[24]⟩,50,none⟩,
 ⟨some 8,.move (.tmp 10),50,none⟩,
 ⟨some 11,.extract (.tmp 8) 0,9,none⟩,
 ⟨some 12,.extract (.tmp 8) 1,30,none⟩,
 ⟨some 3,.assign (.tmp 11),9,none⟩,
 ⟨some 4,.assign (.tmp 12),30,none⟩] [0,3,4]) (sg c12S7)))
attribute [go_sem] c12 c12S0 c12S1 c12S2 c12S3 c12S4 c12S5 c12S6 c12S7
theorem ent12(a0:Value)(w:World)(K:Value→World→Prop)(h:W Tryz.prog c12 [(0,a0)] w (finQ Tryz.prog [.tmp 2] K)):Ret Tryz.prog 12 [a0] w K :=
 Ret_of_W (code:=c12code) Tryz.func12 (by kernel_rfl) (by kernel_rfl) (of_decide_eq_true (by kernel_rfl)) h
@[go_sem] theorem go12:goFunc Tryz.prog 12=true:=by kernel_rfl
@[go_sem] theorem go13:goFunc Tryz.prog 13=true:=by kernel_rfl
@[go_sem] theorem go14:goFunc Tryz.prog 14=true:=by kernel_rfl
def c19code:Code:=match Tryz.f19.body with | some c=>c | none=>.skip
def c19S0(_:Unit):Cmd:=(.seq (.ops [
 ⟨some 11,.move (.tmp 7),30,none⟩,
 ⟨some 12,.binOp .neq 30 (.tmp 11) (.const (.int .i64 0)) 30,4,none⟩] [0,1,2,7,12])
 (.cond (.tmp 12)
 (.seq (.ops [
 ⟨some 13,.move (.tmp 7),30,none⟩,
 ⟨some 6,.assign (.tmp 13),30,none⟩] [6])
 .ret)
 (.skip [0,1,2])))
def c19S1(_:Unit):Cmd:=.ret
def c19S2(_:Unit):Cmd:=(.seq (.ops [
 ⟨some 14,.move (.tmp 0),24,none⟩,
 ⟨some 15,.move (.tmp 1),3,none⟩,
 ⟨some 16,.move (.tmp 2),9,none⟩,
 ⟨some 17,.call ⟨.value (.func 70),#[(.tmp 14),(.tmp 15),(.tmp 16)],#[24,3,9]⟩,30,none⟩,
 ⟨some 6,.assign (.tmp 17),30,none⟩] [6]) (sg c19S1))
def c19:Cmd:=(.seq (.ops [
 ⟨some 6,.assign (.const (.int .i64 0)),30,none⟩] [0,1,2])
 (.seq (.seq (.ops [
 ⟨some 8,.move (.tmp 0),24,none⟩,
 ⟨some 9,.move (.tmp 1),3,none⟩,
 ⟨some 10,.call ⟨.value (.func 69),#[(.tmp 8),(.tmp 9)],#[24,3]⟩,30,none⟩,
 ⟨some 7,.assign (.tmp 10),30,none⟩] [0,1,2,7]) (sg c19S0)) (sg c19S2)))
attribute [go_sem] c19 c19S0 c19S1 c19S2
theorem ent19(a0 a1 a2:Value)(w:World)(K:Value→World→Prop)(h:W Tryz.prog c19 [(0,a0),(1,a1),(2,a2)] w (finQ Tryz.prog [.tmp 6] K)):Ret Tryz.prog 19 [a0,a1,a2] w K :=
 Ret_of_W (code:=c19code) Tryz.func19 (by kernel_rfl) (by kernel_rfl) (of_decide_eq_true (by kernel_rfl)) h
@[go_sem] theorem go19:goFunc Tryz.prog 19=true:=by kernel_rfl
@[go_sem] theorem go30:goFunc Tryz.prog 30=true:=by kernel_rfl
@[go_sem] theorem go31:goFunc Tryz.prog 31=true:=by kernel_rfl
@[go_sem] theorem go32:goFunc Tryz.prog 32=true:=by kernel_rfl
@[go_sem] theorem go33:goFunc Tryz.prog 33=true:=by kernel_rfl
@[go_sem] theorem go34:goFunc Tryz.prog 34=true:=by kernel_rfl
@[go_sem] theorem go35:goFunc Tryz.prog 35=true:=by kernel_rfl
def c36code:Code:=match Tryz.f36.body with | some c=>c | none=>.skip
def c36S0(_:Unit):Cmd:=(.cond (.tmp 10)
 (.seq (.ops [
 ⟨some 4,.assign (.const (.int .i64 0)),3,none⟩,
 ⟨some 5,.assign (.const (.int .i64 3)),30,none⟩] [4,5])
 .ret)
 (.skip [0,1]))
def c36S1(_:Unit):Cmd:=.ret
def c36S2(_:Unit):Cmd:=(.seq (.ops [
 ⟨some 25,.move (.tmp 6),9,none⟩,
 ⟨some 26,.move (.tmp 1),3,none⟩,
 ⟨some 27,.binOp .mul 3 (.const (.int .i64 4)) (.tmp 26) 3,3,none⟩,
 ⟨some 28,.move (.tmp 1),3,none⟩,
 ⟨some 29,.binOp .mul 3 (.const (.int .i64 4)) (.tmp 28) 3,3,none⟩,
 ⟨some 30,.binOp .add 3 (.tmp 29) (.const (.int .i64 4)) 3,3,none⟩,
 ⟨some 31,.slice 9 (.tmp 25) (some (.tmp 27)) (some (.tmp 30)) none,9,none⟩,
 ⟨some 32,.call ⟨.value (.func 98),#[(.tmp 31)],#[9]⟩,147,none⟩,
 ⟨some 33,.convert 147 3 (.tmp 32),3,none⟩,
 ⟨some 4,.assign (.tmp 33),3,none⟩,
 ⟨some 5,.assign (.const (.int .i64 0)),30,none⟩] [4,5]) (sg c36S1))
def c36S3(_:Unit):Cmd:=(.seq (.seq (.ops [
 ⟨some 22,.move (.tmp 7),30,none⟩,
 ⟨some 23,.binOp .neq 30 (.tmp 22) (.const (.int .i64 0)) 30,4,none⟩] [1,6,7,23])
 (.cond (.tmp 23)
 (.seq (.ops [
 ⟨some 24,.move (.tmp 7),30,none⟩,
 ⟨some 4,.assign (.const (.int .i64 0)),3,none⟩,
 ⟨some 5,.assign (.tmp 24),30,none⟩] [4,5])
 .ret)
 (.skip [1,6]))) (sg c36S2))
def c36S4(_:Unit):Cmd:=(.seq (.ops [
 ⟨some 18,.move (.tmp 0),24,none⟩,
 ⟨some 19,.call ⟨.value (.func 97),#[(.tmp 18),(.const (.int .i64 1))],#[24,3]⟩,50,none⟩,
 ⟨some 17,.move (.tmp 19),50,none⟩,
 ⟨some 20,.extract (.tmp 17) 0,9,none⟩,
 ⟨some 21,.extract (.tmp 17) 1,30,none⟩,
 ⟨some 6,.assign (.tmp 20),9,none⟩,
 ⟨some 7,.assign (.tmp 21),30,none⟩] [1,6,7]) (sg c36S3))
def c36S5(_:Unit):Cmd:=(.seq (.seq (.ops [
 ⟨some 11,.move (.tmp 1),3,none⟩,
 ⟨some 12,.binOp .lss 3 (.tmp 11) (.const (.int .i64 0)) 3,4,none⟩,
 ⟨some 13,.move (.tmp 12),4,none⟩,
 ⟨some 14,.move (.tmp 1),3,(some (13,false))⟩,
 ⟨some 15,.binOp .geq 3 (.tmp 14) (.const (.int .i64 16)) 3,4,(some (13,false))⟩,
 ⟨some 16,.pick (.tmp 13) (.const (.bool true)) (.tmp 15),4,none⟩] [0,1,16])
 (.cond (.tmp 16)
 (.seq (.ops [
 ⟨some 4,.assign (.const (.int .i64 0)),3,none⟩,
 ⟨some 5,.assign (.const (.int .i64 1)),30,none⟩] [4,5])
 .ret)
 (.skip [0,1]))) (sg c36S4))
def c36:Cmd:=(.seq (.ops [
 ⟨some 4,.assign (.const (.int .i64 0)),3,none⟩,
 ⟨some 5,.assign (.const (.int .i64 0)),30,none⟩] [0,1])
 (.seq (.seq (.ops [
 ⟨some 8,.move (.tmp 0),24,none⟩,
 ⟨some 9,.call ⟨.value (.func 96),#[(.tmp 8)],#[24]⟩,4,none⟩,
 ⟨some 10,.unOp .not 4 (.tmp 9),4,none⟩] [0,1,10]) (sg c36S0)) (sg c36S5)))
attribute [go_sem] c36 c36S0 c36S1 c36S2 c36S3 c36S4 c36S5
theorem ent36(a0 a1:Value)(w:World)(K:Value→World→Prop)(h:W Tryz.prog c36 [(0,a0),(1,a1)] w (finQ Tryz.prog [.tmp 4,.tmp 5] K)):Ret Tryz.prog 36 [a0,a1] w K :=
 Ret_of_W (code:=c36code) Tryz.func36 (by kernel_rfl) (by kernel_rfl) (of_decide_eq_true (by kernel_rfl)) h
@[go_sem] theorem go36:goFunc Tryz.prog 36=true:=by kernel_rfl
@[go_sem] theorem go37:goFunc Tryz.prog 37=true:=by kernel_rfl
def c39code:Code:=match Tryz.f39.body with | some c=>c | none=>.skip
def c39S0(_:Unit):Cmd:=(.seq (.ops [
 ⟨some 10,.move (.tmp 6),30,none⟩,
 ⟨some 11,.binOp .neq 30 (.tmp 10) (.const (.int .i64 0)) 30,4,none⟩] [0,1,6,11])
 (.cond (.tmp 11)
 (.seq (.ops [
 ⟨some 12,.move (.tmp 6),30,none⟩,
 ⟨some 4,.assign (.const (.string (ofL []))),9,none⟩,
 ⟨some 5,.assign (.tmp 12),30,none⟩] [4,5])
 .ret)
 (.skip [0,1])))
def c39S1(_:Unit):Cmd:=.ret
def c39S2(_:Unit):Cmd:=(.seq (.ops [
 ⟨some 13,.move (.tmp 0),24,none⟩,
 ⟨some 14,.move (.tmp 1),3,none⟩,
 ⟨some 15,.call ⟨.value (.func 97),#[(.tmp 13),(.tmp 14)],#[24,3]⟩,50,none⟩,
 ⟨some 16,.extract (.tmp 15) 0,9,none⟩,
 ⟨some 17,.extract (.tmp 15) 1,30,none⟩,
 ⟨some 4,.assign (.tmp 16),9,none⟩,
 ⟨some 5,.assign (.tmp 17),30,none⟩] [4,5]) (sg c39S1))
def c39:Cmd:=(.seq (.ops [
 ⟨some 4,.assign (.const (.string (ofL []))),9,none⟩,
 ⟨some 5,.assign (.const (.int .i64 0)),30,none⟩] [0,1])
 (.seq (.seq (.ops [
 ⟨some 7,.move (.tmp 0),24,none⟩,
 ⟨some 8,.move (.tmp 1),3,none⟩,
 ⟨some 9,.call ⟨.value (.func 69),#[(.tmp 7),(.tmp 8)],#[24,3]⟩,30,none⟩,
 ⟨some 6,.assign (.tmp 9),30,none⟩] [0,1,6]) (sg c39S0)) (sg c39S2)))
attribute [go_sem] c39 c39S0 c39S1 c39S2
theorem ent39(a0 a1:Value)(w:World)(K:Value→World→Prop)(h:W Tryz.prog c39 [(0,a0),(1,a1)] w (finQ Tryz.prog [.tmp 4,.tmp 5] K)):Ret Tryz.prog 39 [a0,a1] w K :=
 Ret_of_W (code:=c39code) Tryz.func39 (by kernel_rfl) (by kernel_rfl) (of_decide_eq_true (by kernel_rfl)) h
@[go_sem] theorem go39:goFunc Tryz.prog 39=true:=by kernel_rfl
def c40code:Code:=match Tryz.f40.body with | some c=>c | none=>.skip
def c40S0(_:Unit):Cmd:=(.ops [
 ⟨some 30,.binOp .add 3 (.tmp 15) (.const (.int .i64 1)) 3,3,none⟩,
 ⟨some 15,.move (.tmp 30),3,none⟩] [4,14,15])
def c40S1(_:Unit):Cmd:=(.seq (.block 1 (.draw (drawOps 0 c40code) [4,14,15])) (sg c40S0))
def c40L0(_:Unit):Cmd:=(.seq (.ops [
 ⟨some 16,.binOp .lss 3 (.tmp 15) (.tmp 14) 3,4,none⟩] [4,14,15,16])
 (.seq (.cond (.tmp 16)
 (.skip [4,14,15])
 (.exit 0 [4])) (sg c40S1)))
def c40S2(_:Unit):Cmd:=(.seq (.ops [
 ⟨some 31,.move (.tmp 4),23,none⟩,
 ⟨some 2,.assign (.tmp 31),23,none⟩,
 ⟨some 3,.assign (.const (.int .i64 0)),30,none⟩] [2,3])
 .ret)
def c40S3(_:Unit):Cmd:=(.seq (.seq (.ops [
 ⟨some 14,.move (.tmp 0),3,none⟩,
 ⟨some 15,.move (.const (.int .i64 0)),3,none⟩] [4,14,15])
 (.block 0 (.loop (sg c40L0)))) (sg c40S2))
def c40S4(_:Unit):Cmd:=(.seq (.ops [
 ⟨some 11,.call ⟨.value (.func 104),#[],#[]⟩,9,none⟩,
 ⟨some 12,.build 157 #[(2,(.const (.int .i64 (-1)))),(4,(.tmp 11))],157,none⟩,
 ⟨some 13,.box 157 (.tmp 12),23,none⟩,
 ⟨some 4,.assign (.tmp 13),23,none⟩] [0,4]) (sg c40S3))
def c40:Cmd:=(.seq (.ops [
 ⟨some 2,.assign (.const (.pointer none)),23,none⟩,
 ⟨some 3,.assign (.const (.int .i64 0)),30,none⟩] [0])
 (.seq (.seq (.ops [
 ⟨some 5,.move (.tmp 0),3,none⟩,
 ⟨some 6,.binOp .lss 3 (.tmp 5) (.const (.int .i64 1)) 3,4,none⟩,
 ⟨some 7,.move (.tmp 6),4,none⟩,
 ⟨some 8,.move (.tmp 0),3,(some (7,false))⟩,
 ⟨some 9,.binOp .gtr 3 (.tmp 8) (.const (.int .i64 2048)) 3,4,(some (7,false))⟩,
 ⟨some 10,.pick (.tmp 7) (.const (.bool true)) (.tmp 9),4,none⟩] [0,10])
 (.cond (.tmp 10)
 (.seq (.ops [
 ⟨some 2,.assign (.const (.pointer none)),23,none⟩,
 ⟨some 3,.assign (.const (.int .i64 1)),30,none⟩] [2,3])
 .ret)
 (.skip [0]))) (sg c40S4)))
attribute [go_sem] c40 c40S0 c40S1 c40S2 c40S3 c40S4
def c40D0:List (Nat × Ins):=[
 (0,⟨some 17,.move (.tmp 4),23,none⟩),
 (0,⟨some 18,.move (.tmp 4),23,none⟩),
 (0,⟨some 19,.nilCheck (.tmp 18),0,none⟩),
 (0,⟨some 20,.fieldAddr 157 (.tmp 19) 0,0,none⟩),
 (0,⟨some 22,.move (.tmp 4),23,none⟩),
 (0,⟨some 23,.nilCheck (.tmp 22),0,none⟩),
 (0,⟨some 24,.fieldAddr 157 (.tmp 23) 4,0,none⟩),
 (1,⟨some 21,.load 22 (.tmp 20),22,none⟩),
 (2,⟨some 25,.load 9 (.tmp 24),9,none⟩),
 (2,⟨some 26,.buildSlice 22 1 #[(0,(.tmp 25))],22,none⟩),
 (3,⟨some 27,.call ⟨.builtin .append,#[(.tmp 21),(.tmp 26)],#[22,22]⟩,22,none⟩),
 (0,⟨some 28,.nilCheck (.tmp 17),0,none⟩),
 (0,⟨some 29,.fieldAddr 157 (.tmp 28) 0,0,none⟩),
 (3,⟨none,.store 22 (.tmp 29) (.tmp 27),0,none⟩)]
theorem c40draw0{L:List Nat}{ρ:Env}{w:World}{Q:Post}(S:World→Prop)(hS:S w.drew)(h:DG Tryz.prog S c40D0 L ρ w.drew Q):drawW Tryz.prog (drawOps 0 c40code) L ρ w Q :=
 drawW_held [4] [(0,0),(0,1),(0,2),(0,3),(0,5),(0,6),(0,7),(1,4),(2,8),(2,9),(3,10),(0,11),(0,12),(3,13)] c40D0 (by kernel_rfl) (by kernel_rfl) (by kernel_rfl) S hS h
theorem ent40(a0:Value)(w:World)(K:Value→World→Prop)(h:W Tryz.prog c40 [(0,a0)] w (finQ Tryz.prog [.tmp 2,.tmp 3] K)):Ret Tryz.prog 40 [a0] w K :=
 Ret_of_W (code:=c40code) Tryz.func40 (by kernel_rfl) (by kernel_rfl) (of_decide_eq_true (by kernel_rfl)) h
@[go_sem] theorem go40:goFunc Tryz.prog 40=true:=by kernel_rfl
def c41code:Code:=match Tryz.f41.body with | some c=>c | none=>.skip
def c41S0(_:Unit):Cmd:=(.seq (.ops [
 ⟨some 16,.move (.tmp 7),30,none⟩,
 ⟨some 17,.binOp .neq 30 (.tmp 16) (.const (.int .i64 0)) 30,4,none⟩] [0,1,5,7,17])
 (.cond (.tmp 17)
 (.seq (.ops [
 ⟨some 18,.move (.tmp 7),30,none⟩,
 ⟨some 4,.assign (.tmp 18),30,none⟩] [4])
 .ret)
 (.skip [0,1,5])))
def c41S1(_:Unit):Cmd:=(.seq (.ops [
 ⟨some 35,.move (.tmp 8),30,none⟩,
 ⟨some 36,.binOp .neq 30 (.tmp 35) (.const (.int .i64 0)) 30,4,none⟩] [0,1,5,8,36])
 (.cond (.tmp 36)
 (.seq (.ops [
 ⟨some 37,.move (.tmp 8),30,none⟩,
 ⟨some 4,.assign (.tmp 37),30,none⟩] [4])
 .ret)
 (.skip [0,1,5])))
def c41S2(_:Unit):Cmd:=.ret
def c41S3(_:Unit):Cmd:=(.seq (.ops [
 ⟨some 38,.move (.tmp 0),23,none⟩,
 ⟨some 39,.move (.tmp 1),3,none⟩,
 ⟨some 40,.move (.tmp 5),3,none⟩,
 ⟨some 41,.binOp .sub 3 (.tmp 40) (.const (.int .i64 2)) 3,3,none⟩,
 ⟨some 42,.move (.tmp 1),3,none⟩,
 ⟨some 43,.binOp .sub 3 (.tmp 41) (.tmp 42) 3,3,none⟩,
 ⟨some 44,.call ⟨.builtin .min,#[(.tmp 43),(.const (.int .i64 1024))],#[3,3]⟩,3,none⟩,
 ⟨some 45,.build 160 #[(0,(.const (.int .u64 2))),(2,(.tmp 39)),(3,(.tmp 44))],160,none⟩,
 ⟨some 46,.call ⟨.value (.func 108),#[(.tmp 38),(.tmp 45)],#[23,160]⟩,30,none⟩,
 ⟨some 4,.assign (.tmp 46),30,none⟩] [4]) (sg c41S2))
def c41S4(_:Unit):Cmd:=(.seq (.seq (.ops [
 ⟨some 33,.move (.tmp 0),23,none⟩,
 ⟨some 34,.call ⟨.value (.func 107),#[(.tmp 33),(.const (.int .i64 1)),(.const (.string (ofL [])))],#[23,3,9]⟩,30,none⟩,
 ⟨some 8,.assign (.tmp 34),30,none⟩] [0,1,5,8]) (sg c41S1)) (sg c41S3))
def c41S5(_:Unit):Cmd:=(.seq (.seq (.ops [
 ⟨some 19,.move (.tmp 1),3,none⟩,
 ⟨some 20,.binOp .lss 3 (.tmp 19) (.const (.int .i64 1)) 3,4,none⟩,
 ⟨some 21,.move (.tmp 20),4,none⟩,
 ⟨some 22,.move (.tmp 1),3,(some (21,false))⟩,
 ⟨some 23,.move (.tmp 5),3,(some (21,false))⟩,
 ⟨some 24,.binOp .gtr 3 (.tmp 22) (.tmp 23) 3,4,(some (21,false))⟩,
 ⟨some 25,.pick (.tmp 21) (.const (.bool true)) (.tmp 24),4,none⟩,
 ⟨some 26,.move (.tmp 25),4,none⟩,
 ⟨some 27,.move (.tmp 5),3,(some (26,false))⟩,
 ⟨some 28,.binOp .sub 3 (.tmp 27) (.const (.int .i64 2)) 3,3,(some (26,false))⟩,
 ⟨some 29,.move (.tmp 1),3,(some (26,false))⟩,
 ⟨some 30,.binOp .sub 3 (.tmp 28) (.tmp 29) 3,3,(some (26,false))⟩,
 ⟨some 31,.binOp .lss 3 (.tmp 30) (.const (.int .i64 1)) 3,4,(some (26,false))⟩,
 ⟨some 32,.pick (.tmp 26) (.const (.bool true)) (.tmp 31),4,none⟩] [0,1,5,32])
 (.cond (.tmp 32)
 (.seq (.ops [
 ⟨some 4,.assign (.const (.int .i64 1)),30,none⟩] [4])
 .ret)
 (.skip [0,1,5]))) (sg c41S4))
def c41S6(_:Unit):Cmd:=(.seq (.seq (.ops [
 ⟨some 12,.move (.tmp 0),23,none⟩,
 ⟨some 13,.call ⟨.value (.func 106),#[(.tmp 12),(.const (.int .i64 0))],#[23,3]⟩,50,none⟩,
 ⟨some 11,.move (.tmp 13),50,none⟩,
 ⟨some 14,.extract (.tmp 11) 0,9,none⟩,
 ⟨some 15,.extract (.tmp 11) 1,30,none⟩,
 ⟨some 6,.assign (.tmp 14),9,none⟩,
 ⟨some 7,.assign (.tmp 15),30,none⟩] [0,1,5,7]) (sg c41S0)) (sg c41S5))
def c41:Cmd:=(.seq (.ops [
 ⟨some 4,.assign (.const (.int .i64 0)),30,none⟩] [0,1])
 (.seq (.ops [
 ⟨some 9,.move (.tmp 0),23,none⟩,
 ⟨some 10,.call ⟨.value (.func 105),#[(.tmp 9)],#[23]⟩,3,none⟩,
 ⟨some 5,.assign (.tmp 10),3,none⟩] [0,1,5]) (sg c41S6)))
attribute [go_sem] c41 c41S0 c41S1 c41S2 c41S3 c41S4 c41S5 c41S6
theorem ent41(a0 a1:Value)(w:World)(K:Value→World→Prop)(h:W Tryz.prog c41 [(0,a0),(1,a1)] w (finQ Tryz.prog [.tmp 4] K)):Ret Tryz.prog 41 [a0,a1] w K :=
 Ret_of_W (code:=c41code) Tryz.func41 (by kernel_rfl) (by kernel_rfl) (of_decide_eq_true (by kernel_rfl)) h
@[go_sem] theorem go41:goFunc Tryz.prog 41=true:=by kernel_rfl
def c42code:Code:=match Tryz.f42.body with | some c=>c | none=>.skip
def c42S0(_:Unit):Cmd:=(.ops [
 ⟨some 45,.move (.tmp 7),22,none⟩,
 ⟨some 46,.move (.tmp 9),9,none⟩,
 ⟨some 47,.buildSlice 22 1 #[(0,(.tmp 46))],22,none⟩,
 ⟨some 48,.call ⟨.builtin .append,#[(.tmp 45),(.tmp 47)],#[22,22]⟩,22,none⟩,
 ⟨some 7,.assign (.tmp 48),22,none⟩] [0,6,7,31,32])
def c42S1(_:Unit):Cmd:=(.seq (.seq (.ops [
 ⟨some 42,.move (.tmp 10),30,none⟩,
 ⟨some 43,.binOp .neq 30 (.tmp 42) (.const (.int .i64 0)) 30,4,none⟩] [0,6,7,9,10,31,32,43])
 (.cond (.tmp 43)
 (.seq (.ops [
 ⟨some 44,.move (.tmp 10),30,none⟩,
 ⟨some 2,.assign (.const (.pointer none)),88,none⟩,
 ⟨some 3,.assign (.tmp 44),30,none⟩] [2,3])
 .ret)
 (.skip [0,6,7,9,31,32]))) (sg c42S0))
def c42S2(_:Unit):Cmd:=(.ops [
 ⟨some 49,.binOp .add 3 (.tmp 32) (.const (.int .i64 1)) 3,3,none⟩,
 ⟨some 32,.move (.tmp 49),3,none⟩] [0,6,7,31,32])
def c42S3(_:Unit):Cmd:=(.seq (.block 1 (.seq (.ops [
 ⟨some 34,.move (.tmp 32),3,none⟩,
 ⟨some 8,.assign (.tmp 34),3,none⟩] [0,6,7,8,31,32])
 (.seq (.ops [
 ⟨some 36,.move (.tmp 0),23,none⟩,
 ⟨some 37,.move (.tmp 8),3,none⟩,
 ⟨some 38,.binOp .add 3 (.const (.int .i64 2)) (.tmp 37) 3,3,none⟩,
 ⟨some 39,.call ⟨.value (.func 106),#[(.tmp 36),(.tmp 38)],#[23,3]⟩,50,none⟩,
 ⟨some 35,.move (.tmp 39),50,none⟩,
 ⟨some 40,.extract (.tmp 35) 0,9,none⟩,
 ⟨some 41,.extract (.tmp 35) 1,30,none⟩,
 ⟨some 9,.assign (.tmp 40),9,none⟩,
 ⟨some 10,.assign (.tmp 41),30,none⟩] [0,6,7,9,10,31,32]) (sg c42S1)))) (sg c42S2))
def c42L0(_:Unit):Cmd:=(.seq (.ops [
 ⟨some 33,.binOp .lss 3 (.tmp 32) (.tmp 31) 3,4,none⟩] [0,6,7,31,32,33])
 (.seq (.cond (.tmp 33)
 (.skip [0,6,7,31,32])
 (.exit 0 [6,7])) (sg c42S3)))
def c42S4(_:Unit):Cmd:=(.seq (.ops [
 ⟨some 61,.move (.tmp 13),30,none⟩,
 ⟨some 62,.binOp .neq 30 (.tmp 61) (.const (.int .i64 0)) 30,4,none⟩] [6,13,62])
 (.cond (.tmp 62)
 (.seq (.ops [
 ⟨some 63,.move (.tmp 13),30,none⟩,
 ⟨some 2,.assign (.const (.pointer none)),88,none⟩,
 ⟨some 3,.assign (.tmp 63),30,none⟩] [2,3])
 .ret)
 (.skip [6])))
def c42S5(_:Unit):Cmd:=(.seq (.ops [
 ⟨some 58,.move (.tmp 6),88,none⟩,
 ⟨some 59,.move (.tmp 11),36,none⟩,
 ⟨some 60,.call ⟨.value (.func 111),#[(.tmp 58),(.tmp 59)],#[88,36]⟩,30,none⟩,
 ⟨some 13,.assign (.tmp 60),30,none⟩] [6,13]) (sg c42S4))
def c42S6(_:Unit):Cmd:=(.seq (.seq (.ops [
 ⟨some 55,.move (.tmp 12),30,none⟩,
 ⟨some 56,.binOp .neq 30 (.tmp 55) (.const (.int .i64 0)) 30,4,none⟩] [6,11,12,56])
 (.cond (.tmp 56)
 (.seq (.ops [
 ⟨some 57,.move (.tmp 12),30,none⟩,
 ⟨some 2,.assign (.const (.pointer none)),88,none⟩,
 ⟨some 3,.assign (.tmp 57),30,none⟩] [2,3])
 .ret)
 (.skip [6,11]))) (sg c42S5))
def c42S7(_:Unit):Cmd:=(.seq (.ops [
 ⟨some 51,.move (.tmp 7),22,none⟩,
 ⟨some 52,.call ⟨.value (.func 110),#[(.tmp 51)],#[22]⟩,166,none⟩,
 ⟨some 50,.move (.tmp 52),166,none⟩,
 ⟨some 53,.extract (.tmp 50) 0,36,none⟩,
 ⟨some 54,.extract (.tmp 50) 1,30,none⟩,
 ⟨some 11,.assign (.tmp 53),36,none⟩,
 ⟨some 12,.assign (.tmp 54),30,none⟩] [6,11,12]) (sg c42S6))
def c42S8(_:Unit):Cmd:=(.seq (.ops [
 ⟨some 64,.move (.tmp 6),88,none⟩,
 ⟨some 2,.assign (.tmp 64),88,none⟩,
 ⟨some 3,.assign (.const (.int .i64 0)),30,none⟩] [2,3])
 .ret)
def c42S9(_:Unit):Cmd:=(.seq (.ops [
 ⟨some 22,.move (.tmp 0),23,none⟩,
 ⟨some 23,.load 160 (.tmp 4),160,none⟩,
 ⟨some 24,.makeMap 163 none,163,none⟩,
 ⟨some 25,.build 165 #[(0,(.tmp 22)),(1,(.tmp 23)),(2,(.tmp 24))],165,none⟩,
 ⟨some 26,.box 165 (.tmp 25),88,none⟩,
 ⟨some 6,.assign (.tmp 26),88,none⟩] [0,4,6])
 (.seq (.seq (.ops [
 ⟨some 27,.fieldAddr 160 (.tmp 4) 1,0,none⟩,
 ⟨some 28,.load 3 (.tmp 27),3,none⟩,
 ⟨some 29,.binOp .gtr 3 (.tmp 28) (.const (.int .i64 0)) 3,4,none⟩] [0,4,6,29])
 (.cond (.tmp 29)
 (.seq (.ops [
 ⟨some 7,.assign (.const (.slice none 0 0)),22,none⟩] [0,4,6,7])
 (.seq (.seq (.ops [
 ⟨some 30,.fieldAddr 160 (.tmp 4) 1,0,none⟩,
 ⟨some 31,.load 3 (.tmp 30),3,none⟩,
 ⟨some 32,.move (.const (.int .i64 0)),3,none⟩] [0,6,7,31,32])
 (.block 0 (.loop (sg c42L0)))) (sg c42S7)))
 (.skip [6]))) (sg c42S8)))
def c42S10(_:Unit):Cmd:=(.seq (.seq (.ops [
 ⟨some 19,.move (.tmp 5),30,none⟩,
 ⟨some 20,.binOp .neq 30 (.tmp 19) (.const (.int .i64 0)) 30,4,none⟩] [0,4,5,20])
 (.cond (.tmp 20)
 (.seq (.ops [
 ⟨some 21,.move (.tmp 5),30,none⟩,
 ⟨some 2,.assign (.const (.pointer none)),88,none⟩,
 ⟨some 3,.assign (.tmp 21),30,none⟩] [2,3])
 .ret)
 (.skip [0,4]))) (sg c42S9))
def c42:Cmd:=(.seq (.ops [
 ⟨some 2,.assign (.const (.pointer none)),88,none⟩,
 ⟨some 3,.assign (.const (.int .i64 0)),30,none⟩] [0])
 (.seq (.ops [
 ⟨some 15,.move (.tmp 0),23,none⟩,
 ⟨some 16,.call ⟨.value (.func 109),#[(.tmp 15)],#[23]⟩,161,none⟩,
 ⟨some 14,.move (.tmp 16),161,none⟩,
 ⟨some 17,.extract (.tmp 14) 0,160,none⟩,
 ⟨some 18,.extract (.tmp 14) 1,30,none⟩,
 ⟨some 4,.alloc 160,0,none⟩,
 ⟨none,.store 160 (.tmp 4) (.tmp 17),0,none⟩,
 ⟨some 5,.assign (.tmp 18),30,none⟩] [0,4,5]) (sg c42S10)))
attribute [go_sem] c42 c42S0 c42S1 c42S2 c42S3 c42L0 c42S4 c42S5 c42S6 c42S7 c42S8 c42S9 c42S10
theorem ent42(a0:Value)(w:World)(K:Value→World→Prop)(h:W Tryz.prog c42 [(0,a0)] w (finQ Tryz.prog [.tmp 2,.tmp 3] K)):Ret Tryz.prog 42 [a0] w K :=
 Ret_of_W (code:=c42code) Tryz.func42 (by kernel_rfl) (by kernel_rfl) (of_decide_eq_true (by kernel_rfl)) h
@[go_sem] theorem go42:goFunc Tryz.prog 42=true:=by kernel_rfl
def c43code:Code:=match Tryz.f43.body with | some c=>c | none=>.skip
def c43S0(_:Unit):Cmd:=(.seq (.ops [
 ⟨some 13,.move (.tmp 5),30,none⟩,
 ⟨some 14,.binOp .neq 30 (.tmp 13) (.const (.int .i64 0)) 30,4,none⟩] [0,5,14])
 (.cond (.tmp 14)
 (.seq (.ops [
 ⟨some 15,.move (.tmp 5),30,none⟩,
 ⟨some 2,.assign (.const (.pointer none)),24,none⟩,
 ⟨some 3,.assign (.tmp 15),30,none⟩] [2,3])
 .ret)
 (.skip [0])))
def c43S1(_:Unit):Cmd:=(.seq (.ops [
 ⟨some 20,.move (.tmp 0),88,none⟩,
 ⟨some 21,.move (.tmp 6),96,none⟩,
 ⟨some 22,.build 98 #[(0,(.tmp 20)),(1,(.tmp 21))],98,none⟩,
 ⟨some 23,.box 98 (.tmp 22),24,none⟩,
 ⟨some 24,.move (.tmp 7),30,none⟩,
 ⟨some 2,.assign (.tmp 23),24,none⟩,
 ⟨some 3,.assign (.tmp 24),30,none⟩] [2,3])
 .ret)
def c43S2(_:Unit):Cmd:=(.seq (.ops [
 ⟨some 17,.call ⟨.value (.func 113),#[(.const (.int .i64 64))],#[3]⟩,169,none⟩,
 ⟨some 16,.move (.tmp 17),169,none⟩,
 ⟨some 18,.extract (.tmp 16) 0,96,none⟩,
 ⟨some 19,.extract (.tmp 16) 1,30,none⟩,
 ⟨some 6,.assign (.tmp 18),96,none⟩,
 ⟨some 7,.assign (.tmp 19),30,none⟩] [0,6,7]) (sg c43S1))
def c43:Cmd:=(.seq (.ops [
 ⟨some 2,.assign (.const (.pointer none)),24,none⟩,
 ⟨some 3,.assign (.const (.int .i64 0)),30,none⟩] [0])
 (.seq (.seq (.ops [
 ⟨some 9,.move (.tmp 0),88,none⟩,
 ⟨some 10,.call ⟨.value (.func 112),#[(.tmp 9),(.const (.int .i64 0))],#[88,3]⟩,50,none⟩,
 ⟨some 8,.move (.tmp 10),50,none⟩,
 ⟨some 11,.extract (.tmp 8) 0,9,none⟩,
 ⟨some 12,.extract (.tmp 8) 1,30,none⟩,
 ⟨some 4,.assign (.tmp 11),9,none⟩,
 ⟨some 5,.assign (.tmp 12),30,none⟩] [0,5]) (sg c43S0)) (sg c43S2)))
attribute [go_sem] c43 c43S0 c43S1 c43S2
theorem ent43(a0:Value)(w:World)(K:Value→World→Prop)(h:W Tryz.prog c43 [(0,a0)] w (finQ Tryz.prog [.tmp 2,.tmp 3] K)):Ret Tryz.prog 43 [a0] w K :=
 Ret_of_W (code:=c43code) Tryz.func43 (by kernel_rfl) (by kernel_rfl) (of_decide_eq_true (by kernel_rfl)) h
@[go_sem] theorem go43:goFunc Tryz.prog 43=true:=by kernel_rfl
def c44code:Code:=match Tryz.f44.body with | some c=>c | none=>.skip
def c44S0(_:Unit):Cmd:=(.cond (.tmp 8)
 (.seq (.ops [
 ⟨some 2,.assign (.const (.int .i64 3)),30,none⟩] [2])
 .ret)
 (.skip [0]))
def c44S1(_:Unit):Cmd:=(.cond (.tmp 14)
 (.seq (.ops [
 ⟨some 2,.assign (.const (.int .i64 1)),30,none⟩] [2])
 .ret)
 (.skip [0]))
def c44S2(_:Unit):Cmd:=(.ops [
 ⟨some 25,.binOp .add 3 (.tmp 16) (.const (.int .i64 1)) 3,3,none⟩,
 ⟨some 16,.move (.tmp 25),3,none⟩] [0,3,16])
def c44S3(_:Unit):Cmd:=(.seq (.block 1 (.seq (.ops [
 ⟨some 18,.move (.tmp 16),3,none⟩,
 ⟨some 4,.assign (.tmp 18),3,none⟩] [0,3,4,16])
 (.ops [
 ⟨some 20,.move (.tmp 3),9,none⟩,
 ⟨some 21,.move (.tmp 4),3,none⟩,
 ⟨some 22,.call ⟨.value (.func 115),#[(.tmp 20),(.tmp 21),(.const (.bool true))],#[9,3,4]⟩,72,none⟩,
 ⟨some 19,.move (.tmp 22),72,none⟩,
 ⟨some 23,.extract (.tmp 19) 0,9,none⟩,
 ⟨some 24,.extract (.tmp 19) 1,4,none⟩,
 ⟨some 3,.assign (.tmp 23),9,none⟩] [0,3,16]))) (sg c44S2))
def c44L0(_:Unit):Cmd:=(.seq (.ops [
 ⟨some 17,.binOp .lss 3 (.tmp 16) (.const (.int .i64 2)) 3,4,none⟩] [0,3,16,17])
 (.seq (.cond (.tmp 17)
 (.skip [0,3,16])
 (.exit 0 [0,3])) (sg c44S3)))
def c44S4(_:Unit):Cmd:=(.seq (.ops [
 ⟨some 29,.move (.tmp 5),30,none⟩,
 ⟨some 30,.binOp .neq 30 (.tmp 29) (.const (.int .i64 0)) 30,4,none⟩] [0,5,30])
 (.cond (.tmp 30)
 (.seq (.ops [
 ⟨some 31,.move (.tmp 5),30,none⟩,
 ⟨some 2,.assign (.tmp 31),30,none⟩] [2])
 .ret)
 (.skip [0])))
def c44S5(_:Unit):Cmd:=.ret
def c44S6(_:Unit):Cmd:=(.seq (.ops [
 ⟨some 32,.move (.tmp 0),24,none⟩,
 ⟨some 33,.call ⟨.value (.func 70),#[(.tmp 32),(.const (.int .i64 1)),(.const (.string (ofL [])))],#[24,3,9]⟩,30,none⟩,
 ⟨some 2,.assign (.tmp 33),30,none⟩] [2]) (sg c44S5))
def c44S7(_:Unit):Cmd:=(.seq (.seq (.ops [
 ⟨some 26,.move (.tmp 0),24,none⟩,
 ⟨some 27,.move (.tmp 3),9,none⟩,
 ⟨some 28,.call ⟨.value (.func 70),#[(.tmp 26),(.const (.int .i64 0)),(.tmp 27)],#[24,3,9]⟩,30,none⟩,
 ⟨some 5,.assign (.tmp 28),30,none⟩] [0,5]) (sg c44S4)) (sg c44S6))
def c44S8(_:Unit):Cmd:=(.seq (.seq (.ops [
 ⟨some 16,.move (.const (.int .i64 0)),3,none⟩] [0,3,16])
 (.block 0 (.loop (sg c44L0)))) (sg c44S7))
def c44S9(_:Unit):Cmd:=(.seq (.ops [
 ⟨some 15,.call ⟨.value (.func 114),#[(.const (.int .i64 2048))],#[3]⟩,9,none⟩,
 ⟨some 3,.assign (.tmp 15),9,none⟩] [0,3]) (sg c44S8))
def c44S10(_:Unit):Cmd:=(.seq (.seq (.ops [
 ⟨some 9,.move (.tmp 0),24,none⟩,
 ⟨some 10,.nilCheck (.tmp 9),0,none⟩,
 ⟨some 11,.fieldAddr 98 (.tmp 10) 0,0,none⟩,
 ⟨some 12,.load 88 (.tmp 11),88,none⟩,
 ⟨some 13,.call ⟨.value (.func 47),#[(.tmp 12)],#[88]⟩,3,none⟩,
 ⟨some 14,.binOp .leq 3 (.tmp 13) (.const (.int .i64 2)) 3,4,none⟩] [0,14]) (sg c44S1)) (sg c44S9))
def c44:Cmd:=(.seq (.ops [
 ⟨some 2,.assign (.const (.int .i64 0)),30,none⟩] [0])
 (.seq (.seq (.ops [
 ⟨some 6,.move (.tmp 0),24,none⟩,
 ⟨some 7,.call ⟨.value (.func 96),#[(.tmp 6)],#[24]⟩,4,none⟩,
 ⟨some 8,.unOp .not 4 (.tmp 7),4,none⟩] [0,8]) (sg c44S0)) (sg c44S10)))
attribute [go_sem] c44 c44S0 c44S1 c44S2 c44S3 c44S4 c44S5 c44S6 c44S7 c44S8 c44S9 c44S10
theorem ent44(a0:Value)(w:World)(K:Value→World→Prop)(h:W Tryz.prog c44 [(0,a0)] w (finQ Tryz.prog [.tmp 2] K)):Ret Tryz.prog 44 [a0] w K :=
 Ret_of_W (code:=c44code) Tryz.func44 (by kernel_rfl) (by kernel_rfl) (of_decide_eq_true (by kernel_rfl)) h
@[go_sem] theorem go44:goFunc Tryz.prog 44=true:=by kernel_rfl
@[go_sem] theorem go45:goFunc Tryz.prog 45=true:=by kernel_rfl
def c46code:Code:=match Tryz.f46.body with | some c=>c | none=>.skip
def c46S0(_:Unit):Cmd:=(.cond (.tmp 6)
 (.seq (.ops [
 ⟨some 2,.assign (.const (.string (ofL []))),9,none⟩,
 ⟨some 3,.assign (.const (.int .i64 3)),30,none⟩] [2,3])
 .ret)
 (.skip [0]))
def c46S1(_:Unit):Cmd:=.ret
def c46S2(_:Unit):Cmd:=(.seq (.ops [
 ⟨some 7,.move (.tmp 0),24,none⟩,
 ⟨some 8,.call ⟨.value (.func 97),#[(.tmp 7),(.const (.int .i64 0))],#[24,3]⟩,50,none⟩,
 ⟨some 9,.extract (.tmp 8) 0,9,none⟩,
 ⟨some 10,.extract (.tmp 8) 1,30,none⟩,
 ⟨some 2,.assign (.tmp 9),9,none⟩,
 ⟨some 3,.assign (.tmp 10),30,none⟩] [2,3]) (sg c46S1))
def c46:Cmd:=(.seq (.ops [
 ⟨some 2,.assign (.const (.string (ofL []))),9,none⟩,
 ⟨some 3,.assign (.const (.int .i64 0)),30,none⟩] [0])
 (.seq (.seq (.ops [
 ⟨some 4,.move (.tmp 0),24,none⟩,
 ⟨some 5,.call ⟨.value (.func 96),#[(.tmp 4)],#[24]⟩,4,none⟩,
 ⟨some 6,.unOp .not 4 (.tmp 5),4,none⟩] [0,6]) (sg c46S0)) (sg c46S2)))
attribute [go_sem] c46 c46S0 c46S1 c46S2
theorem ent46(a0:Value)(w:World)(K:Value→World→Prop)(h:W Tryz.prog c46 [(0,a0)] w (finQ Tryz.prog [.tmp 2,.tmp 3] K)):Ret Tryz.prog 46 [a0] w K :=
 Ret_of_W (code:=c46code) Tryz.func46 (by kernel_rfl) (by kernel_rfl) (of_decide_eq_true (by kernel_rfl)) h
@[go_sem] theorem go46:goFunc Tryz.prog 46=true:=by kernel_rfl
def c47code:Code:=match Tryz.f47.body with | some c=>c | none=>.skip
def c47S0(_:Unit):Cmd:=(.seq (.ops [
 ⟨some 5,.move (.tmp 0),88,none⟩,
 ⟨some 6,.nilCheck (.tmp 5),0,none⟩,
 ⟨some 7,.fieldAddr 165 (.tmp 6) 1,0,none⟩,
 ⟨some 8,.fieldAddr 160 (.tmp 7) 3,0,none⟩,
 ⟨some 9,.load 3 (.tmp 8),3,none⟩,
 ⟨some 2,.assign (.tmp 9),3,none⟩] [2])
 .ret)
def c47:Cmd:=(.seq (.ops [
 ⟨some 2,.assign (.const (.int .i64 0)),3,none⟩] [0])
 (.seq (.seq (.ops [
 ⟨some 3,.move (.tmp 0),88,none⟩,
 ⟨some 4,.binOp .eql 88 (.tmp 3) (.const (.pointer none)) 88,4,none⟩] [0,4])
 (.cond (.tmp 4)
 (.seq (.ops [
 ⟨some 2,.assign (.const (.int .i64 0)),3,none⟩] [2])
 .ret)
 (.skip [0]))) (sg c47S0)))
attribute [go_sem] c47 c47S0
theorem ent47(a0:Value)(w:World)(K:Value→World→Prop)(h:W Tryz.prog c47 [(0,a0)] w (finQ Tryz.prog [.tmp 2] K)):Ret Tryz.prog 47 [a0] w K :=
 Ret_of_W (code:=c47code) Tryz.func47 (by kernel_rfl) (by kernel_rfl) (of_decide_eq_true (by kernel_rfl)) h
@[go_sem] theorem go47:goFunc Tryz.prog 47=true:=by kernel_rfl
def c48code:Code:=match Tryz.f48.body with | some c=>c | none=>.skip
def c48S0(_:Unit):Cmd:=(.ops [
 ⟨some 16,.binOp .add 3 (.tmp 7) (.const (.int .i64 1)) 3,3,none⟩,
 ⟨some 7,.move (.tmp 16),3,none⟩] [0,3,6,7])
def c48S1(_:Unit):Cmd:=(.seq (.block 1 (.seq (.ops [
 ⟨some 9,.move (.tmp 7),3,none⟩,
 ⟨some 4,.assign (.tmp 9),3,none⟩] [0,3,4,6,7])
 (.ops [
 ⟨some 10,.move (.tmp 3),3,none⟩,
 ⟨some 11,.move (.tmp 0),9,none⟩,
 ⟨some 12,.move (.tmp 4),3,none⟩,
 ⟨some 13,.index 9 (.tmp 11) (.tmp 12),5,none⟩,
 ⟨some 14,.call ⟨.value (.func 116),#[(.tmp 13)],#[5]⟩,3,none⟩,
 ⟨some 15,.binOp .add 3 (.tmp 10) (.tmp 14) 3,3,none⟩,
 ⟨some 3,.assign (.tmp 15),3,none⟩] [0,3,6,7]))) (sg c48S0))
def c48L0(_:Unit):Cmd:=(.seq (.ops [
 ⟨some 8,.binOp .lss 3 (.tmp 7) (.tmp 6) 3,4,none⟩] [0,3,6,7,8])
 (.seq (.cond (.tmp 8)
 (.skip [0,3,6,7])
 (.exit 0 [3])) (sg c48S1)))
def c48S2(_:Unit):Cmd:=(.seq (.ops [
 ⟨some 17,.move (.tmp 3),3,none⟩,
 ⟨some 2,.assign (.tmp 17),3,none⟩] [2])
 .ret)
def c48:Cmd:=(.seq (.ops [
 ⟨some 2,.assign (.const (.int .i64 0)),3,none⟩] [0])
 (.seq (.ops [
 ⟨some 3,.assign (.const (.int .i64 0)),3,none⟩] [0,3])
 (.seq (.seq (.ops [
 ⟨some 5,.move (.tmp 0),9,none⟩,
 ⟨some 6,.call ⟨.builtin .len,#[(.tmp 5)],#[9]⟩,3,none⟩,
 ⟨some 7,.move (.const (.int .i64 0)),3,none⟩] [0,3,6,7])
 (.block 0 (.loop (sg c48L0)))) (sg c48S2))))
attribute [go_sem] c48 c48S0 c48S1 c48L0 c48S2
theorem ent48(a0:Value)(w:World)(K:Value→World→Prop)(h:W Tryz.prog c48 [(0,a0)] w (finQ Tryz.prog [.tmp 2] K)):Ret Tryz.prog 48 [a0] w K :=
 Ret_of_W (code:=c48code) Tryz.func48 (by kernel_rfl) (by kernel_rfl) (of_decide_eq_true (by kernel_rfl)) h
@[go_sem] theorem go48:goFunc Tryz.prog 48=true:=by kernel_rfl
def c49code:Code:=match Tryz.f49.body with | some c=>c | none=>.skip
def c49:Cmd:=(.seq (.ops [
 ⟨some 4,.assign (.const (.bool false)),4,none⟩] [0,1])
 (.seq (.ops [
 ⟨some 5,.move (.tmp 1),3,none⟩,
 ⟨some 6,.binOp .geq 3 (.tmp 5) (.const (.int .i64 0)) 3,4,none⟩,
 ⟨some 7,.move (.tmp 6),4,none⟩,
 ⟨some 8,.move (.tmp 1),3,(some (7,true))⟩,
 ⟨some 9,.binOp .quo 3 (.tmp 8) (.const (.int .i64 8)) 3,3,(some (7,true))⟩,
 ⟨some 10,.move (.tmp 0),9,(some (7,true))⟩,
 ⟨some 11,.call ⟨.builtin .len,#[(.tmp 10)],#[9]⟩,3,(some (7,true))⟩,
 ⟨some 12,.binOp .lss 3 (.tmp 9) (.tmp 11) 3,4,(some (7,true))⟩,
 ⟨some 13,.pick (.tmp 7) (.tmp 12) (.const (.bool false)),4,none⟩,
 ⟨some 14,.move (.tmp 13),4,none⟩,
 ⟨some 15,.move (.tmp 0),9,(some (14,true))⟩,
 ⟨some 16,.move (.tmp 1),3,(some (14,true))⟩,
 ⟨some 17,.binOp .quo 3 (.tmp 16) (.const (.int .i64 8)) 3,3,(some (14,true))⟩,
 ⟨some 18,.index 9 (.tmp 15) (.tmp 17),5,(some (14,true))⟩,
 ⟨some 19,.move (.tmp 1),3,(some (14,true))⟩,
 ⟨some 20,.binOp .rem 3 (.tmp 19) (.const (.int .i64 8)) 3,3,(some (14,true))⟩,
 ⟨some 21,.convert 3 78 (.tmp 20),78,(some (14,true))⟩,
 ⟨some 22,.binOp .shr 5 (.tmp 18) (.tmp 21) 78,5,(some (14,true))⟩,
 ⟨some 23,.binOp .and 5 (.tmp 22) (.const (.int .u8 1)) 5,5,(some (14,true))⟩,
 ⟨some 24,.binOp .eql 5 (.tmp 23) (.const (.int .u8 1)) 5,4,(some (14,true))⟩,
 ⟨some 25,.pick (.tmp 14) (.tmp 24) (.const (.bool false)),4,none⟩,
 ⟨some 4,.assign (.tmp 25),4,none⟩] [4])
 .ret))
attribute [go_sem] c49
theorem ent49(a0 a1:Value)(w:World)(K:Value→World→Prop)(h:W Tryz.prog c49 [(0,a0),(1,a1)] w (finQ Tryz.prog [.tmp 4] K)):Ret Tryz.prog 49 [a0,a1] w K :=
 Ret_of_W (code:=c49code) Tryz.func49 (by kernel_rfl) (by kernel_rfl) (of_decide_eq_true (by kernel_rfl)) h
@[go_sem] theorem go49:goFunc Tryz.prog 49=true:=by kernel_rfl
@[go_sem] theorem go50:goFunc Tryz.prog 50=true:=by kernel_rfl
@[go_sem] theorem go51:goFunc Tryz.prog 51=true:=by kernel_rfl
@[go_sem] theorem go52:goFunc Tryz.prog 52=true:=by kernel_rfl
@[go_sem] theorem go53:goFunc Tryz.prog 53=true:=by kernel_rfl
@[go_sem] theorem go54:goFunc Tryz.prog 54=true:=by kernel_rfl
@[go_sem] theorem go55:goFunc Tryz.prog 55=true:=by kernel_rfl
@[go_sem] theorem go56:goFunc Tryz.prog 56=true:=by kernel_rfl
@[go_sem] theorem go57:goFunc Tryz.prog 57=true:=by kernel_rfl
@[go_sem] theorem go58:goFunc Tryz.prog 58=true:=by kernel_rfl
@[go_sem] theorem go59:goFunc Tryz.prog 59=true:=by kernel_rfl
@[go_sem] theorem go60:goFunc Tryz.prog 60=true:=by kernel_rfl
@[go_sem] theorem go61:goFunc Tryz.prog 61=true:=by kernel_rfl
@[go_sem] theorem go62:goFunc Tryz.prog 62=true:=by kernel_rfl
def c64code:Code:=match Tryz.f64.body with | some c=>c | none=>.skip
def c64S0(_:Unit):Cmd:=(.seq (.ops [
 ⟨some 38,.move (.tmp 8),30,none⟩,
 ⟨some 39,.binOp .neq 30 (.tmp 38) (.const (.int .i64 0)) 30,4,none⟩] [0,6,8,39])
 (.cond (.tmp 39)
 (.seq (.ops [
 ⟨some 40,.move (.tmp 8),30,none⟩,
 ⟨some 2,.assign (.const (.int .i64 0)),3,none⟩,
 ⟨some 3,.assign (.tmp 40),30,none⟩] [2,3])
 .ret)
 (.skip [0,6])))
def c64S1(_:Unit):Cmd:=.ret
def c64S2(_:Unit):Cmd:=(.seq (.ops [
 ⟨some 41,.move (.tmp 6),3,none⟩,
 ⟨some 42,.move (.tmp 0),24,none⟩,
 ⟨some 43,.move (.tmp 6),3,none⟩,
 ⟨some 44,.call ⟨.value (.func 70),#[(.tmp 42),(.tmp 43),(.const (.string (ofL [])))],#[24,3,9]⟩,30,none⟩,
 ⟨some 2,.assign (.tmp 41),3,none⟩,
 ⟨some 3,.assign (.tmp 44),30,none⟩] [2,3]) (sg c64S1))
def c64S3(_:Unit):Cmd:=(.seq (.seq (.ops [
 ⟨some 35,.move (.tmp 0),24,none⟩,
 ⟨some 36,.move (.tmp 4),9,none⟩,
 ⟨some 37,.call ⟨.value (.func 70),#[(.tmp 35),(.const (.int .i64 0)),(.tmp 36)],#[24,3,9]⟩,30,none⟩,
 ⟨some 8,.assign (.tmp 37),30,none⟩] [0,6,8]) (sg c64S0)) (sg c64S2))
def c64S4(_:Unit):Cmd:=(.seq (.ops [
 ⟨some 30,.move (.tmp 4),9,none⟩,
 ⟨some 31,.move (.tmp 6),3,none⟩,
 ⟨some 32,.call ⟨.value (.func 115),#[(.tmp 30),(.tmp 31),(.const (.bool true))],#[9,3,4]⟩,72,none⟩,
 ⟨some 29,.move (.tmp 32),72,none⟩,
 ⟨some 33,.extract (.tmp 29) 0,9,none⟩,
 ⟨some 34,.extract (.tmp 29) 1,4,none⟩,
 ⟨some 4,.assign (.tmp 33),9,none⟩] [0,4,6]) (sg c64S3))
def c64S5(_:Unit):Cmd:=(.seq (.seq (.ops [
 ⟨some 27,.move (.tmp 7),4,none⟩,
 ⟨some 28,.unOp .not 4 (.tmp 27),4,none⟩] [0,4,6,28])
 (.cond (.tmp 28)
 (.seq (.ops [
 ⟨some 2,.assign (.const (.int .i64 0)),3,none⟩,
 ⟨some 3,.assign (.const (.int .i64 13)),30,none⟩] [2,3])
 .ret)
 (.skip [0,4,6]))) (sg c64S4))
def c64S6(_:Unit):Cmd:=(.seq (.ops [
 ⟨some 18,.move (.tmp 4),9,none⟩,
 ⟨some 19,.move (.tmp 0),24,none⟩,
 ⟨some 20,.nilCheck (.tmp 19),0,none⟩,
 ⟨some 21,.fieldAddr 98 (.tmp 20) 0,0,none⟩,
 ⟨some 22,.load 88 (.tmp 21),88,none⟩,
 ⟨some 23,.call ⟨.value (.func 47),#[(.tmp 22)],#[88]⟩,3,none⟩,
 ⟨some 24,.call ⟨.value (.func 126),#[(.tmp 18),(.const (.int .i64 2)),(.tmp 23)],#[9,3,3]⟩,135,none⟩,
 ⟨some 17,.move (.tmp 24),135,none⟩,
 ⟨some 25,.extract (.tmp 17) 0,3,none⟩,
 ⟨some 26,.extract (.tmp 17) 1,4,none⟩,
 ⟨some 6,.assign (.tmp 25),3,none⟩,
 ⟨some 7,.assign (.tmp 26),4,none⟩] [0,4,6,7]) (sg c64S5))
def c64S7(_:Unit):Cmd:=(.seq (.seq (.ops [
 ⟨some 14,.move (.tmp 5),30,none⟩,
 ⟨some 15,.binOp .neq 30 (.tmp 14) (.const (.int .i64 0)) 30,4,none⟩] [0,4,5,15])
 (.cond (.tmp 15)
 (.seq (.ops [
 ⟨some 16,.move (.tmp 5),30,none⟩,
 ⟨some 2,.assign (.const (.int .i64 0)),3,none⟩,
 ⟨some 3,.assign (.tmp 16),30,none⟩] [2,3])
 .ret)
 (.skip [0,4]))) (sg c64S6))
def c64:Cmd:=(.seq (.ops [
 ⟨some 2,.assign (.const (.int .i64 0)),3,none⟩,
 ⟨some 3,.assign (.const (.int .i64 0)),30,none⟩] [0])
 (.seq (.ops [
 ⟨some 10,.move (.tmp 0),24,none⟩,
 ⟨some 11,.call ⟨.value (.func 46),#[(.tmp 10)],#[24]⟩,50,none⟩,
 ⟨some 9,.move (.tmp 11),50,none⟩,
 ⟨some 12,.extract (.tmp 9) 0,9,none⟩,
 ⟨some 13,.extract (.tmp 9) 1,30,none⟩,
 ⟨some 4,.assign (.tmp 12),9,none⟩,
 ⟨some 5,.assign (.tmp 13),30,none⟩] [0,4,5]) (sg c64S7)))
attribute [go_sem] c64 c64S0 c64S1 c64S2 c64S3 c64S4 c64S5 c64S6 c64S7
theorem ent64(a0:Value)(w:World)(K:Value→World→Prop)(h:W Tryz.prog c64 [(0,a0)] w (finQ Tryz.prog [.tmp 2,.tmp 3] K)):Ret Tryz.prog 64 [a0] w K :=
 Ret_of_W (code:=c64code) Tryz.func64 (by kernel_rfl) (by kernel_rfl) (of_decide_eq_true (by kernel_rfl)) h
@[go_sem] theorem go64:goFunc Tryz.prog 64=true:=by kernel_rfl
def c66code:Code:=match Tryz.f66.body with | some c=>c | none=>.skip
def c66S0(_:Unit):Cmd:=(.seq (.ops [
 ⟨some 18,.move (.tmp 8),30,none⟩,
 ⟨some 19,.binOp .neq 30 (.tmp 18) (.const (.int .i64 0)) 30,4,none⟩] [0,1,2,8,19])
 (.cond (.tmp 19)
 (.seq (.ops [
 ⟨some 20,.move (.tmp 8),30,none⟩,
 ⟨some 6,.assign (.tmp 20),30,none⟩] [6])
 .ret)
 (.skip [0,1,2])))
def c66S1(_:Unit):Cmd:=(.seq (.ops [
 ⟨some 26,.move (.tmp 9),30,none⟩,
 ⟨some 27,.binOp .neq 30 (.tmp 26) (.const (.int .i64 0)) 30,4,none⟩] [0,1,2,9,27])
 (.cond (.tmp 27)
 (.seq (.ops [
 ⟨some 28,.move (.tmp 9),30,none⟩,
 ⟨some 6,.assign (.tmp 28),30,none⟩] [6])
 .ret)
 (.skip [0,1,2])))
def c66S2(_:Unit):Cmd:=.ret
def c66S3(_:Unit):Cmd:=(.seq (.draw (drawOps 0 c66code) [6]) (sg c66S2))
def c66S4(_:Unit):Cmd:=(.seq (.seq (.ops [
 ⟨some 34,.move (.tmp 11),30,none⟩,
 ⟨some 35,.binOp .neq 30 (.tmp 34) (.const (.int .i64 0)) 30,4,none⟩] [0,1,2,10,11,35])
 (.cond (.tmp 35)
 (.seq (.ops [
 ⟨some 36,.move (.tmp 11),30,none⟩,
 ⟨some 6,.assign (.tmp 36),30,none⟩] [6])
 .ret)
 (.skip [0,1,2,10]))) (sg c66S3))
def c66S5(_:Unit):Cmd:=(.seq (.ops [
 ⟨some 30,.move (.tmp 0),24,none⟩,
 ⟨some 31,.call ⟨.value (.func 97),#[(.tmp 30),(.const (.int .i64 1))],#[24,3]⟩,50,none⟩,
 ⟨some 29,.move (.tmp 31),50,none⟩,
 ⟨some 32,.extract (.tmp 29) 0,9,none⟩,
 ⟨some 33,.extract (.tmp 29) 1,30,none⟩,
 ⟨some 10,.assign (.tmp 32),9,none⟩,
 ⟨some 11,.assign (.tmp 33),30,none⟩] [0,1,2,10,11]) (sg c66S4))
def c66S6(_:Unit):Cmd:=(.seq (.seq (.ops [
 ⟨some 21,.move (.tmp 2),3,none⟩,
 ⟨some 22,.binOp .neq 3 (.tmp 21) (.const (.int .i64 0)) 3,4,none⟩] [0,1,2,22])
 (.cond (.tmp 22)
 (.seq (.ops [
 ⟨some 23,.move (.tmp 0),24,none⟩,
 ⟨some 24,.move (.tmp 2),3,none⟩,
 ⟨some 25,.call ⟨.value (.func 69),#[(.tmp 23),(.tmp 24)],#[24,3]⟩,30,none⟩,
 ⟨some 9,.assign (.tmp 25),30,none⟩] [0,1,2,9]) (sg c66S1))
 (.skip [0,1,2]))) (sg c66S5))
def c66:Cmd:=(.seq (.ops [
 ⟨some 6,.assign (.const (.int .i64 0)),30,none⟩] [0,1,2])
 (.seq (.seq (.ops [
 ⟨some 13,.move (.tmp 0),24,none⟩,
 ⟨some 14,.move (.tmp 1),3,none⟩,
 ⟨some 15,.call ⟨.value (.func 36),#[(.tmp 13),(.tmp 14)],#[24,3]⟩,31,none⟩,
 ⟨some 12,.move (.tmp 15),31,none⟩,
 ⟨some 16,.extract (.tmp 12) 0,3,none⟩,
 ⟨some 17,.extract (.tmp 12) 1,30,none⟩,
 ⟨some 7,.assign (.tmp 16),3,none⟩,
 ⟨some 8,.assign (.tmp 17),30,none⟩] [0,1,2,8]) (sg c66S0)) (sg c66S6)))
attribute [go_sem] c66 c66S0 c66S1 c66S2 c66S3 c66S4 c66S6
def c66D0:List (Bool × Ins):=[
 (true,⟨some 37,.move (.tmp 0),24,none⟩),
 (true,⟨some 38,.move (.tmp 10),9,none⟩),
 (true,⟨some 39,.move (.tmp 1),3,none⟩),
 (true,⟨some 40,.binOp .mul 3 (.const (.int .i64 4)) (.tmp 39) 3,3,none⟩),
 (true,⟨some 41,.slice 9 (.tmp 38) none (some (.tmp 40)) none,9,none⟩),
 (true,⟨some 42,.move (.tmp 2),3,none⟩),
 (true,⟨some 43,.convert 3 147 (.tmp 42),147,none⟩),
 (true,⟨some 46,.move (.tmp 10),9,none⟩),
 (true,⟨some 47,.move (.tmp 1),3,none⟩),
 (true,⟨some 48,.binOp .mul 3 (.const (.int .i64 4)) (.tmp 47) 3,3,none⟩),
 (true,⟨some 49,.binOp .add 3 (.tmp 48) (.const (.int .i64 4)) 3,3,none⟩),
 (true,⟨some 50,.slice 9 (.tmp 46) (some (.tmp 49)) none none,9,none⟩),
 (false,⟨some 44,.call ⟨.value (.func 118),#[(.tmp 43),(.const (.int .i64 4))],#[147,3]⟩,9,none⟩),
 (true,⟨some 45,.binOp .add 9 (.tmp 41) (.tmp 44) 9,9,none⟩),
 (true,⟨some 51,.binOp .add 9 (.tmp 45) (.tmp 50) 9,9,none⟩),
 (false,⟨some 52,.call ⟨.value (.func 70),#[(.tmp 37),(.const (.int .i64 1)),(.tmp 51)],#[24,3,9]⟩,30,none⟩),
 (true,⟨some 6,.assign (.tmp 52),30,none⟩)]
theorem c66draw0{L:List Nat}{ρ:Env}{w:World}{Q:Post}(h:DL Tryz.prog c66D0 L ρ w.drew Q):drawW Tryz.prog (drawOps 0 c66code) L ρ w Q :=
 drawW_by [(true,0),(true,1),(true,2),(true,3),(true,4),(true,5),(true,6),(true,9),(true,10),(true,11),(true,12),(true,13),(false,7),(true,8),(true,14),(false,15),(true,16)] c66D0 (by kernel_rfl) (by kernel_rfl) (by kernel_rfl) h
theorem ent66(a0 a1 a2:Value)(w:World)(K:Value→World→Prop)(h:W Tryz.prog c66 [(0,a0),(1,a1),(2,a2)] w (finQ Tryz.prog [.tmp 6] K)):Ret Tryz.prog 66 [a0,a1,a2] w K :=
 Ret_of_W (code:=c66code) Tryz.func66 (by kernel_rfl) (by kernel_rfl) (of_decide_eq_true (by kernel_rfl)) h
@[go_sem] theorem go66:goFunc Tryz.prog 66=true:=by kernel_rfl
def c69code:Code:=match Tryz.f69.body with | some c=>c | none=>.skip
def c69S0(_:Unit):Cmd:=(.cond (.tmp 32)
 (.ops [
 ⟨some 6,.assign (.const (.int .i64 6)),30,none⟩] [6])
 (.skip [6]))
def c69S1(_:Unit):Cmd:=(.seq (.ops [
 ⟨some 33,.move (.tmp 6),30,none⟩,
 ⟨some 4,.assign (.tmp 33),30,none⟩] [4])
 .ret)
def c69S2(_:Unit):Cmd:=(.seq (.seq (.ops [
 ⟨some 12,.move (.tmp 6),30,none⟩,
 ⟨some 13,.binOp .eql 30 (.tmp 12) (.const (.int .i64 0)) 30,4,none⟩,
 ⟨some 14,.move (.tmp 13),4,none⟩,
 ⟨some 15,.move (.tmp 1),3,(some (14,true))⟩,
 ⟨some 16,.binOp .lss 3 (.tmp 15) (.const (.int .i64 2)) 3,4,(some (14,true))⟩,
 ⟨some 17,.move (.tmp 16),4,(some (14,true))⟩,
 ⟨some 18,.move (.tmp 1),3,(some (17,false))⟩,
 ⟨some 19,.move (.tmp 0),24,(some (17,false))⟩,
 ⟨some 20,.nilCheck (.tmp 19),0,(some (17,false))⟩,
 ⟨some 21,.fieldAddr 98 (.tmp 20) 0,0,(some (17,false))⟩,
 ⟨some 22,.load 88 (.tmp 21),88,(some (17,false))⟩,
 ⟨some 23,.call ⟨.value (.func 47),#[(.tmp 22)],#[88]⟩,3,(some (17,false))⟩,
 ⟨some 24,.binOp .geq 3 (.tmp 18) (.tmp 23) 3,4,(some (17,false))⟩,
 ⟨some 25,.pick (.tmp 17) (.const (.bool true)) (.tmp 24),4,(some (14,true))⟩,
 ⟨some 26,.move (.tmp 25),4,(some (14,true))⟩,
 ⟨some 27,.move (.tmp 5),9,(some (26,false))⟩,
 ⟨some 28,.move (.tmp 1),3,(some (26,false))⟩,
 ⟨some 29,.call ⟨.value (.func 49),#[(.tmp 27),(.tmp 28)],#[9,3]⟩,4,(some (26,false))⟩,
 ⟨some 30,.unOp .not 4 (.tmp 29),4,(some (26,false))⟩,
 ⟨some 31,.pick (.tmp 26) (.const (.bool true)) (.tmp 30),4,(some (14,true))⟩,
 ⟨some 32,.pick (.tmp 14) (.tmp 31) (.const (.bool false)),4,none⟩] [6,32]) (sg c69S0)) (sg c69S1))
def c69:Cmd:=(.seq (.ops [
 ⟨some 4,.assign (.const (.int .i64 0)),30,none⟩] [0,1])
 (.seq (.ops [
 ⟨some 8,.move (.tmp 0),24,none⟩,
 ⟨some 9,.call ⟨.value (.func 46),#[(.tmp 8)],#[24]⟩,50,none⟩,
 ⟨some 7,.move (.tmp 9),50,none⟩,
 ⟨some 10,.extract (.tmp 7) 0,9,none⟩,
 ⟨some 11,.extract (.tmp 7) 1,30,none⟩,
 ⟨some 5,.assign (.tmp 10),9,none⟩,
 ⟨some 6,.assign (.tmp 11),30,none⟩] [0,1,5,6]) (sg c69S2)))
attribute [go_sem] c69 c69S0 c69S1 c69S2
theorem ent69(a0 a1:Value)(w:World)(K:Value→World→Prop)(h:W Tryz.prog c69 [(0,a0),(1,a1)] w (finQ Tryz.prog [.tmp 4] K)):Ret Tryz.prog 69 [a0,a1] w K :=
 Ret_of_W (code:=c69code) Tryz.func69 (by kernel_rfl) (by kernel_rfl) (of_decide_eq_true (by kernel_rfl)) h
@[go_sem] theorem go69:goFunc Tryz.prog 69=true:=by kernel_rfl
def c70code:Code:=match Tryz.f70.body with | some c=>c | none=>.skip
def c70S0(_:Unit):Cmd:=.ret
def c70S1(_:Unit):Cmd:=(.seq (.ops [
 ⟨some 13,.move (.tmp 0),24,none⟩,
 ⟨some 14,.nilCheck (.tmp 13),0,none⟩,
 ⟨some 15,.fieldAddr 98 (.tmp 14) 0,0,none⟩,
 ⟨some 16,.load 88 (.tmp 15),88,none⟩,
 ⟨some 17,.move (.tmp 1),3,none⟩,
 ⟨some 18,.move (.tmp 2),9,none⟩,
 ⟨some 19,.call ⟨.value (.func 132),#[(.tmp 16),(.tmp 17),(.tmp 18)],#[88,3,9]⟩,30,none⟩,
 ⟨some 6,.assign (.tmp 19),30,none⟩] [6]) (sg c70S0))
def c70:Cmd:=(.seq (.ops [
 ⟨some 6,.assign (.const (.int .i64 0)),30,none⟩] [0,1,2])
 (.seq (.ops [
 ⟨some 7,.move (.tmp 0),24,none⟩,
 ⟨some 8,.nilCheck (.tmp 7),0,none⟩,
 ⟨some 9,.fieldAddr 98 (.tmp 8) 1,0,none⟩,
 ⟨some 10,.load 96 (.tmp 9),96,none⟩,
 ⟨some 11,.move (.tmp 1),3,none⟩,
 ⟨some 12,.call ⟨.value (.func 131),#[(.tmp 10),(.tmp 11)],#[96,3]⟩,4,none⟩] [0,1,2]) (sg c70S1)))
attribute [go_sem] c70 c70S0 c70S1
theorem ent70(a0 a1 a2:Value)(w:World)(K:Value→World→Prop)(h:W Tryz.prog c70 [(0,a0),(1,a1),(2,a2)] w (finQ Tryz.prog [.tmp 6] K)):Ret Tryz.prog 70 [a0,a1,a2] w K :=
 Ret_of_W (code:=c70code) Tryz.func70 (by kernel_rfl) (by kernel_rfl) (of_decide_eq_true (by kernel_rfl)) h
@[go_sem] theorem go70:goFunc Tryz.prog 70=true:=by kernel_rfl
@[go_sem] theorem go81:goFunc Tryz.prog 81=true:=by kernel_rfl
@[go_sem] theorem go84:goFunc Tryz.prog 84=true:=by kernel_rfl
@[go_sem] theorem go85:goFunc Tryz.prog 85=true:=by kernel_rfl
@[go_sem] theorem go86:goFunc Tryz.prog 86=true:=by kernel_rfl
@[go_sem] theorem go87:goFunc Tryz.prog 87=true:=by kernel_rfl
@[go_sem] theorem go88:goFunc Tryz.prog 88=true:=by kernel_rfl
@[go_sem] theorem go89:goFunc Tryz.prog 89=true:=by kernel_rfl
@[go_sem] theorem go90:goFunc Tryz.prog 90=true:=by kernel_rfl
@[go_sem] theorem go92:goFunc Tryz.prog 92=true:=by kernel_rfl
@[go_sem] theorem go93:goFunc Tryz.prog 93=true:=by kernel_rfl
@[go_sem] theorem go94:goFunc Tryz.prog 94=true:=by kernel_rfl
@[go_sem] theorem go95:goFunc Tryz.prog 95=true:=by kernel_rfl
def c96code:Code:=match Tryz.f96.body with | some c=>c | none=>.skip
def c96:Cmd:=(.seq (.ops [
 ⟨some 2,.assign (.const (.bool false)),4,none⟩] [0])
 (.seq (.ops [
 ⟨some 3,.move (.tmp 0),24,none⟩,
 ⟨some 4,.binOp .neq 24 (.tmp 3) (.const (.pointer none)) 24,4,none⟩,
 ⟨some 5,.move (.tmp 4),4,none⟩,
 ⟨some 6,.move (.tmp 0),24,(some (5,true))⟩,
 ⟨some 7,.nilCheck (.tmp 6),0,(some (5,true))⟩,
 ⟨some 8,.fieldAddr 98 (.tmp 7) 0,0,(some (5,true))⟩,
 ⟨some 9,.load 88 (.tmp 8),88,(some (5,true))⟩,
 ⟨some 10,.binOp .neq 88 (.tmp 9) (.const (.pointer none)) 88,4,(some (5,true))⟩,
 ⟨some 11,.pick (.tmp 5) (.tmp 10) (.const (.bool false)),4,none⟩,
 ⟨some 2,.assign (.tmp 11),4,none⟩] [2])
 .ret))
attribute [go_sem] c96
theorem ent96(a0:Value)(w:World)(K:Value→World→Prop)(h:W Tryz.prog c96 [(0,a0)] w (finQ Tryz.prog [.tmp 2] K)):Ret Tryz.prog 96 [a0] w K :=
 Ret_of_W (code:=c96code) Tryz.func96 (by kernel_rfl) (by kernel_rfl) (of_decide_eq_true (by kernel_rfl)) h
@[go_sem] theorem go96:goFunc Tryz.prog 96=true:=by kernel_rfl
def c97code:Code:=match Tryz.f97.body with | some c=>c | none=>.skip
def c97S0(_:Unit):Cmd:=(.seq (.ops [
 ⟨some 19,.move (.tmp 7),4,none⟩] [0,1,6,19])
 (.cond (.tmp 19)
 (.seq (.ops [
 ⟨some 20,.move (.tmp 6),9,none⟩,
 ⟨some 4,.assign (.tmp 20),9,none⟩,
 ⟨some 5,.assign (.const (.int .i64 0)),30,none⟩] [4,5])
 .ret)
 (.skip [0,1])))
def c97S1(_:Unit):Cmd:=(.seq (.ops [
 ⟨some 39,.move (.tmp 8),9,none⟩,
 ⟨some 40,.move (.tmp 9),30,none⟩,
 ⟨some 4,.assign (.tmp 39),9,none⟩,
 ⟨some 5,.assign (.tmp 40),30,none⟩] [4,5])
 .ret)
def c97S2(_:Unit):Cmd:=(.seq (.seq (.ops [
 ⟨some 30,.move (.tmp 9),30,none⟩,
 ⟨some 31,.binOp .eql 30 (.tmp 30) (.const (.int .i64 0)) 30,4,none⟩] [0,1,8,9,31])
 (.cond (.tmp 31)
 (.ops [
 ⟨some 32,.move (.tmp 0),24,none⟩,
 ⟨some 33,.nilCheck (.tmp 32),0,none⟩,
 ⟨some 34,.fieldAddr 98 (.tmp 33) 1,0,none⟩,
 ⟨some 35,.load 96 (.tmp 34),96,none⟩,
 ⟨some 36,.move (.tmp 1),3,none⟩,
 ⟨some 37,.move (.tmp 8),9,none⟩,
 ⟨some 38,.call ⟨.value (.func 146),#[(.tmp 35),(.tmp 36),(.tmp 37)],#[96,3,9]⟩,194,none⟩] [8,9])
 (.skip [8,9]))) (sg c97S1))
def c97S3(_:Unit):Cmd:=(.seq (.ops [
 ⟨some 22,.move (.tmp 0),24,none⟩,
 ⟨some 23,.nilCheck (.tmp 22),0,none⟩,
 ⟨some 24,.fieldAddr 98 (.tmp 23) 0,0,none⟩,
 ⟨some 25,.load 88 (.tmp 24),88,none⟩,
 ⟨some 26,.move (.tmp 1),3,none⟩,
 ⟨some 27,.call ⟨.value (.func 112),#[(.tmp 25),(.tmp 26)],#[88,3]⟩,50,none⟩,
 ⟨some 21,.move (.tmp 27),50,none⟩,
 ⟨some 28,.extract (.tmp 21) 0,9,none⟩,
 ⟨some 29,.extract (.tmp 21) 1,30,none⟩,
 ⟨some 8,.assign (.tmp 28),9,none⟩,
 ⟨some 9,.assign (.tmp 29),30,none⟩] [0,1,8,9]) (sg c97S2))
def c97:Cmd:=(.seq (.ops [
 ⟨some 4,.assign (.const (.string (ofL []))),9,none⟩,
 ⟨some 5,.assign (.const (.int .i64 0)),30,none⟩] [0,1])
 (.seq (.seq (.ops [
 ⟨some 11,.move (.tmp 0),24,none⟩,
 ⟨some 12,.nilCheck (.tmp 11),0,none⟩,
 ⟨some 13,.fieldAddr 98 (.tmp 12) 1,0,none⟩,
 ⟨some 14,.load 96 (.tmp 13),96,none⟩,
 ⟨some 15,.move (.tmp 1),3,none⟩,
 ⟨some 16,.call ⟨.value (.func 145),#[(.tmp 14),(.tmp 15)],#[96,3]⟩,72,none⟩,
 ⟨some 10,.move (.tmp 16),72,none⟩,
 ⟨some 17,.extract (.tmp 10) 0,9,none⟩,
 ⟨some 18,.extract (.tmp 10) 1,4,none⟩,
 ⟨some 6,.assign (.tmp 17),9,none⟩,
 ⟨some 7,.assign (.tmp 18),4,none⟩] [0,1,6,7]) (sg c97S0)) (sg c97S3)))
attribute [go_sem] c97 c97S0 c97S1 c97S2 c97S3
theorem ent97(a0 a1:Value)(w:World)(K:Value→World→Prop)(h:W Tryz.prog c97 [(0,a0),(1,a1)] w (finQ Tryz.prog [.tmp 4,.tmp 5] K)):Ret Tryz.prog 97 [a0,a1] w K :=
 Ret_of_W (code:=c97code) Tryz.func97 (by kernel_rfl) (by kernel_rfl) (of_decide_eq_true (by kernel_rfl)) h
@[go_sem] theorem go97:goFunc Tryz.prog 97=true:=by kernel_rfl
def c98code:Code:=match Tryz.f98.body with | some c=>c | none=>.skip
def c98S0(_:Unit):Cmd:=(.seq (.block 1 (.seq (.ops [
 ⟨some 10,.move (.tmp 8),3,none⟩,
 ⟨some 4,.assign (.tmp 10),3,none⟩] [0,3,4,7,8])
 (.ops [
 ⟨some 11,.move (.tmp 3),147,none⟩,
 ⟨some 12,.move (.tmp 0),9,none⟩,
 ⟨some 13,.move (.tmp 4),3,none⟩,
 ⟨some 14,.index 9 (.tmp 12) (.tmp 13),5,none⟩,
 ⟨some 15,.convert 5 147 (.tmp 14),147,none⟩,
 ⟨some 16,.move (.tmp 4),3,none⟩,
 ⟨some 17,.binOp .mul 3 (.const (.int .i64 8)) (.tmp 16) 3,3,none⟩,
 ⟨some 18,.convert 3 78 (.tmp 17),78,none⟩,
 ⟨some 19,.binOp .shl 147 (.tmp 15) (.tmp 18) 78,147,none⟩,
 ⟨some 20,.binOp .or 147 (.tmp 11) (.tmp 19) 147,147,none⟩,
 ⟨some 3,.assign (.tmp 20),147,none⟩] [0,3,7,8])))
 (.ops [
 ⟨some 21,.binOp .add 3 (.tmp 8) (.const (.int .i64 1)) 3,3,none⟩,
 ⟨some 8,.move (.tmp 21),3,none⟩] [0,3,7,8]))
def c98L0(_:Unit):Cmd:=(.seq (.ops [
 ⟨some 9,.binOp .lss 3 (.tmp 8) (.tmp 7) 3,4,none⟩] [0,3,7,8,9])
 (.seq (.cond (.tmp 9)
 (.skip [0,3,7,8])
 (.exit 0 [3])) (sg c98S0)))
def c98S1(_:Unit):Cmd:=(.block 0 (.loop (sg c98L0)))
def c98S2(_:Unit):Cmd:=(.seq (.ops [
 ⟨some 22,.move (.tmp 3),147,none⟩,
 ⟨some 2,.assign (.tmp 22),147,none⟩] [2])
 .ret)
def c98:Cmd:=(.seq (.ops [
 ⟨some 2,.assign (.const (.int .u64 0)),147,none⟩] [0])
 (.seq (.ops [
 ⟨some 3,.assign (.const (.int .u64 0)),147,none⟩] [0,3])
 (.seq (.seq (.ops [
 ⟨some 5,.move (.tmp 0),9,none⟩,
 ⟨some 6,.call ⟨.builtin .len,#[(.tmp 5)],#[9]⟩,3,none⟩,
 ⟨some 7,.call ⟨.builtin .min,#[(.tmp 6),(.const (.int .i64 8))],#[3,3]⟩,3,none⟩,
 ⟨some 8,.move (.const (.int .i64 0)),3,none⟩] [0,3,7,8]) (sg c98S1)) (sg c98S2))))
attribute [go_sem] c98 c98S0 c98S1 c98S2
theorem ent98(a0:Value)(w:World)(K:Value→World→Prop)(h:W Tryz.prog c98 [(0,a0)] w (finQ Tryz.prog [.tmp 2] K)):Ret Tryz.prog 98 [a0] w K :=
 Ret_of_W (code:=c98code) Tryz.func98 (by kernel_rfl) (by kernel_rfl) (of_decide_eq_true (by kernel_rfl)) h
@[go_sem] theorem go98:goFunc Tryz.prog 98=true:=by kernel_rfl
@[go_sem] theorem go99:goFunc Tryz.prog 99=true:=by kernel_rfl
@[go_sem] theorem go100:goFunc Tryz.prog 100=true:=by kernel_rfl
@[go_sem] theorem go101:goFunc Tryz.prog 101=true:=by kernel_rfl
@[go_sem] theorem go102:goFunc Tryz.prog 102=true:=by kernel_rfl
@[go_sem] theorem go103:goFunc Tryz.prog 103=true:=by kernel_rfl
def c104code:Code:=match Tryz.f104.body with | some c=>c | none=>.skip
def c104:Cmd:=(.seq (.ops [
 ⟨some 0,.assign (.const (.string (ofL []))),9,none⟩] [])
 (.seq (.ops [
 ⟨some 1,.makeSlice 181 (.const (.int .i64 256)) (.const (.int .i64 256)),181,none⟩,
 ⟨some 2,.convert 181 9 (.tmp 1),9,none⟩,
 ⟨some 0,.assign (.tmp 2),9,none⟩] [0])
 .ret))
attribute [go_sem] c104
theorem ent104(w:World)(K:Value→World→Prop)(h:W Tryz.prog c104 [] w (finQ Tryz.prog [.tmp 0] K)):Ret Tryz.prog 104 [] w K :=
 Ret_of_W (code:=c104code) Tryz.func104 (by kernel_rfl) (by kernel_rfl) (of_decide_eq_true (by kernel_rfl)) h
@[go_sem] theorem go104:goFunc Tryz.prog 104=true:=by kernel_rfl
def c105code:Code:=match Tryz.f105.body with | some c=>c | none=>.skip
def c105S0(_:Unit):Cmd:=(.seq (.ops [
 ⟨some 5,.move (.tmp 0),23,none⟩,
 ⟨some 6,.nilCheck (.tmp 5),0,none⟩,
 ⟨some 7,.fieldAddr 157 (.tmp 6) 0,0,none⟩,
 ⟨some 8,.load 22 (.tmp 7),22,none⟩,
 ⟨some 9,.call ⟨.builtin .len,#[(.tmp 8)],#[22]⟩,3,none⟩,
 ⟨some 2,.assign (.tmp 9),3,none⟩] [2])
 .ret)
def c105:Cmd:=(.seq (.ops [
 ⟨some 2,.assign (.const (.int .i64 0)),3,none⟩] [0])
 (.seq (.seq (.ops [
 ⟨some 3,.move (.tmp 0),23,none⟩,
 ⟨some 4,.binOp .eql 23 (.tmp 3) (.const (.pointer none)) 23,4,none⟩] [0,4])
 (.cond (.tmp 4)
 (.seq (.ops [
 ⟨some 2,.assign (.const (.int .i64 0)),3,none⟩] [2])
 .ret)
 (.skip [0]))) (sg c105S0)))
attribute [go_sem] c105 c105S0
theorem ent105(a0:Value)(w:World)(K:Value→World→Prop)(h:W Tryz.prog c105 [(0,a0)] w (finQ Tryz.prog [.tmp 2] K)):Ret Tryz.prog 105 [a0] w K :=
 Ret_of_W (code:=c105code) Tryz.func105 (by kernel_rfl) (by kernel_rfl) (of_decide_eq_true (by kernel_rfl)) h
@[go_sem] theorem go105:goFunc Tryz.prog 105=true:=by kernel_rfl
def c106code:Code:=match Tryz.f106.body with | some c=>c | none=>.skip
def c106S0(_:Unit):Cmd:=(.seq (.ops [
 ⟨some 13,.move (.tmp 6),30,none⟩,
 ⟨some 14,.binOp .neq 30 (.tmp 13) (.const (.int .i64 0)) 30,4,none⟩] [0,1,6,14])
 (.cond (.tmp 14)
 (.seq (.ops [
 ⟨some 15,.move (.tmp 6),30,none⟩,
 ⟨some 4,.assign (.const (.string (ofL []))),9,none⟩,
 ⟨some 5,.assign (.tmp 15),30,none⟩] [4,5])
 .ret)
 (.skip [0,1])))
def c106S1(_:Unit):Cmd:=(.ops [
 ⟨some 38,.binOp .add 3 (.tmp 28) (.const (.int .i64 1)) 3,3,none⟩,
 ⟨some 28,.move (.tmp 38),3,none⟩] [1,7,26,27,28])
def c106S2(_:Unit):Cmd:=(.seq (.block 1 (.seq (.ops [
 ⟨some 30,.indexAddr 155 (.tmp 26) (.tmp 28),0,none⟩,
 ⟨some 31,.load 199 (.tmp 30),199,none⟩,
 ⟨some 9,.alloc 199,0,none⟩,
 ⟨none,.store 199 (.tmp 9) (.tmp 31),0,none⟩] [1,7,9,26,27,28])
 (.seq (.ops [
 ⟨some 32,.fieldAddr 199 (.tmp 9) 0,0,none⟩,
 ⟨some 33,.load 3 (.tmp 32),3,none⟩,
 ⟨some 34,.move (.tmp 1),3,none⟩,
 ⟨some 35,.binOp .eql 3 (.tmp 33) (.tmp 34) 3,4,none⟩] [1,7,9,26,27,28,35])
 (.cond (.tmp 35)
 (.ops [
 ⟨some 36,.fieldAddr 199 (.tmp 9) 1,0,none⟩,
 ⟨some 37,.load 9 (.tmp 36),9,none⟩,
 ⟨some 7,.assign (.tmp 37),9,none⟩] [1,7,26,27,28])
 (.skip [1,7,26,27,28]))))) (sg c106S1))
def c106L0(_:Unit):Cmd:=(.seq (.ops [
 ⟨some 29,.binOp .lss 3 (.tmp 28) (.tmp 27) 3,0,none⟩] [1,7,26,27,28,29])
 (.seq (.cond (.tmp 29)
 (.skip [1,7,26,27,28])
 (.exit 0 [7])) (sg c106S2)))
def c106S3(_:Unit):Cmd:=(.seq (.ops [
 ⟨some 39,.move (.tmp 7),9,none⟩,
 ⟨some 4,.assign (.tmp 39),9,none⟩,
 ⟨some 5,.assign (.const (.int .i64 0)),30,none⟩] [4,5])
 .ret)
def c106S4(_:Unit):Cmd:=(.seq (.ops [
 ⟨some 16,.move (.tmp 0),23,none⟩,
 ⟨some 17,.nilCheck (.tmp 16),0,none⟩,
 ⟨some 18,.fieldAddr 157 (.tmp 17) 0,0,none⟩,
 ⟨some 19,.load 22 (.tmp 18),22,none⟩,
 ⟨some 20,.move (.tmp 1),3,none⟩,
 ⟨some 21,.indexAddr 22 (.tmp 19) (.tmp 20),0,none⟩,
 ⟨some 22,.load 9 (.tmp 21),9,none⟩,
 ⟨some 7,.assign (.tmp 22),9,none⟩] [0,1,7])
 (.seq (.seq (.ops [
 ⟨some 23,.move (.tmp 0),23,none⟩,
 ⟨some 24,.nilCheck (.tmp 23),0,none⟩,
 ⟨some 25,.fieldAddr 157 (.tmp 24) 1,0,none⟩,
 ⟨some 26,.load 155 (.tmp 25),155,none⟩,
 ⟨some 27,.call ⟨.builtin .len,#[(.tmp 26)],#[155]⟩,3,none⟩,
 ⟨some 28,.move (.const (.int .i64 0)),3,none⟩] [1,7,26,27,28])
 (.block 0 (.loop (sg c106L0)))) (sg c106S3)))
def c106:Cmd:=(.seq (.ops [
 ⟨some 4,.assign (.const (.string (ofL []))),9,none⟩,
 ⟨some 5,.assign (.const (.int .i64 0)),30,none⟩] [0,1])
 (.seq (.seq (.ops [
 ⟨some 10,.move (.tmp 0),23,none⟩,
 ⟨some 11,.move (.tmp 1),3,none⟩,
 ⟨some 12,.call ⟨.value (.func 150),#[(.tmp 10),(.tmp 11)],#[23,3]⟩,30,none⟩,
 ⟨some 6,.assign (.tmp 12),30,none⟩] [0,1,6]) (sg c106S0)) (sg c106S4)))
attribute [go_sem] c106 c106S0 c106S1 c106S2 c106S3 c106S4
theorem ent106(a0 a1:Value)(w:World)(K:Value→World→Prop)(h:W Tryz.prog c106 [(0,a0),(1,a1)] w (finQ Tryz.prog [.tmp 4,.tmp 5] K)):Ret Tryz.prog 106 [a0,a1] w K :=
 Ret_of_W (code:=c106code) Tryz.func106 (by kernel_rfl) (by kernel_rfl) (of_decide_eq_true (by kernel_rfl)) h
@[go_sem] theorem go106:goFunc Tryz.prog 106=true:=by kernel_rfl
def c107code:Code:=match Tryz.f107.body with | some c=>c | none=>.skip
def c107S0(_:Unit):Cmd:=(.seq (.ops [
 ⟨some 44,.move (.tmp 7),30,none⟩,
 ⟨some 6,.assign (.tmp 44),30,none⟩] [6])
 .ret)
def c107S1(_:Unit):Cmd:=(.seq (.seq (.ops [
 ⟨some 22,.move (.tmp 7),30,none⟩,
 ⟨some 23,.binOp .eql 30 (.tmp 22) (.const (.int .i64 0)) 30,4,none⟩] [0,1,2,7,23])
 (.cond (.tmp 23)
 (.draw (drawOps 0 c107code) [7])
 (.skip [7]))) (sg c107S0))
def c107S2(_:Unit):Cmd:=(.seq (.seq (.ops [
 ⟨some 18,.move (.tmp 7),30,none⟩,
 ⟨some 19,.binOp .eql 30 (.tmp 18) (.const (.int .i64 0)) 30,4,none⟩] [0,1,2,7,19])
 (.cond (.tmp 19)
 (.ops [
 ⟨some 20,.move (.tmp 0),23,none⟩,
 ⟨some 21,.call ⟨.value (.func 151),#[(.tmp 20)],#[23]⟩,30,none⟩,
 ⟨some 7,.assign (.tmp 21),30,none⟩] [0,1,2,7])
 (.skip [0,1,2,7]))) (sg c107S1))
def c107S3(_:Unit):Cmd:=(.seq (.seq (.ops [
 ⟨some 11,.move (.tmp 7),30,none⟩,
 ⟨some 12,.binOp .eql 30 (.tmp 11) (.const (.int .i64 0)) 30,4,none⟩,
 ⟨some 13,.move (.tmp 12),4,none⟩,
 ⟨some 14,.move (.tmp 2),9,(some (13,true))⟩,
 ⟨some 15,.call ⟨.builtin .len,#[(.tmp 14)],#[9]⟩,3,(some (13,true))⟩,
 ⟨some 16,.binOp .gtr 3 (.tmp 15) (.const (.int .i64 256)) 3,4,(some (13,true))⟩,
 ⟨some 17,.pick (.tmp 13) (.tmp 16) (.const (.bool false)),4,none⟩] [0,1,2,7,17])
 (.cond (.tmp 17)
 (.ops [
 ⟨some 7,.assign (.const (.int .i64 21)),30,none⟩] [0,1,2,7])
 (.skip [0,1,2,7]))) (sg c107S2))
def c107:Cmd:=(.seq (.ops [
 ⟨some 6,.assign (.const (.int .i64 0)),30,none⟩] [0,1,2])
 (.seq (.ops [
 ⟨some 8,.move (.tmp 0),23,none⟩,
 ⟨some 9,.move (.tmp 1),3,none⟩,
 ⟨some 10,.call ⟨.value (.func 150),#[(.tmp 8),(.tmp 9)],#[23,3]⟩,30,none⟩,
 ⟨some 7,.assign (.tmp 10),30,none⟩] [0,1,2,7]) (sg c107S3)))
attribute [go_sem] c107 c107S0 c107S1 c107S2 c107S3
def c107D0:List (Nat × Ins):=[
 (0,⟨some 24,.move (.tmp 0),23,none⟩),
 (0,⟨some 25,.move (.tmp 0),23,none⟩),
 (0,⟨some 26,.nilCheck (.tmp 25),0,none⟩),
 (0,⟨some 27,.fieldAddr 157 (.tmp 26) 1,0,none⟩),
 (0,⟨some 29,.move (.tmp 1),3,none⟩),
 (0,⟨some 30,.move (.tmp 2),9,none⟩),
 (0,⟨some 31,.move (.tmp 0),23,none⟩),
 (0,⟨some 32,.nilCheck (.tmp 31),0,none⟩),
 (0,⟨some 33,.fieldAddr 157 (.tmp 32) 4,0,none⟩),
 (0,⟨some 35,.move (.tmp 2),9,none⟩),
 (0,⟨some 36,.call ⟨.builtin .len,#[(.tmp 35)],#[9]⟩,3,none⟩),
 (1,⟨some 28,.load 155 (.tmp 27),155,none⟩),
 (2,⟨some 34,.load 9 (.tmp 33),9,none⟩),
 (0,⟨some 37,.slice 9 (.tmp 34) (some (.tmp 36)) none none,9,none⟩),
 (0,⟨some 38,.binOp .add 9 (.tmp 30) (.tmp 37) 9,9,none⟩),
 (2,⟨some 39,.build 199 #[(0,(.tmp 29)),(1,(.tmp 38))],199,none⟩),
 (2,⟨some 40,.buildSlice 155 1 #[(0,(.tmp 39))],155,none⟩),
 (3,⟨some 41,.call ⟨.builtin .append,#[(.tmp 28),(.tmp 40)],#[155,155]⟩,155,none⟩),
 (0,⟨some 42,.nilCheck (.tmp 24),0,none⟩),
 (0,⟨some 43,.fieldAddr 157 (.tmp 42) 1,0,none⟩),
 (3,⟨none,.store 155 (.tmp 43) (.tmp 41),0,none⟩)]
theorem c107draw0{L:List Nat}{ρ:Env}{w:World}{Q:Post}(S:World→Prop)(hS:S w.drew)(h:DG Tryz.prog S c107D0 L ρ w.drew Q):drawW Tryz.prog (drawOps 0 c107code) L ρ w Q :=
 drawW_held [4] [(0,0),(0,1),(0,2),(0,3),(0,5),(0,6),(0,7),(0,8),(0,9),(0,11),(0,12),(1,4),(2,10),(0,13),(0,14),(2,15),(2,16),(3,17),(0,18),(0,19),(3,20)] c107D0 (by kernel_rfl) (by kernel_rfl) (by kernel_rfl) S hS h
theorem ent107(a0 a1 a2:Value)(w:World)(K:Value→World→Prop)(h:W Tryz.prog c107 [(0,a0),(1,a1),(2,a2)] w (finQ Tryz.prog [.tmp 6] K)):Ret Tryz.prog 107 [a0,a1,a2] w K :=
 Ret_of_W (code:=c107code) Tryz.func107 (by kernel_rfl) (by kernel_rfl) (of_decide_eq_true (by kernel_rfl)) h
@[go_sem] theorem go107:goFunc Tryz.prog 107=true:=by kernel_rfl
def c108code:Code:=match Tryz.f108.body with | some c=>c | none=>.skip
def c108S0(_:Unit):Cmd:=(.seq (.ops [
 ⟨some 14,.move (.tmp 5),30,none⟩,
 ⟨some 15,.binOp .neq 30 (.tmp 14) (.const (.int .i64 0)) 30,4,none⟩] [0,5,15])
 (.cond (.tmp 15)
 (.seq (.ops [
 ⟨some 16,.move (.tmp 5),30,none⟩,
 ⟨some 4,.assign (.tmp 16),30,none⟩] [4])
 .ret)
 (.skip [0])))
def c108S1(_:Unit):Cmd:=.ret
def c108S2(_:Unit):Cmd:=(.seq (.ops [
 ⟨some 17,.move (.tmp 0),23,none⟩,
 ⟨some 18,.call ⟨.value (.func 153),#[(.tmp 17)],#[23]⟩,30,none⟩,
 ⟨some 4,.assign (.tmp 18),30,none⟩] [4]) (sg c108S1))
def c108:Cmd:=(.seq (.ops [
 ⟨some 3,.box 160 (.tmp 1),0,none⟩,
 ⟨some 4,.assign (.const (.int .i64 0)),30,none⟩] [0,3])
 (.seq (.seq (.draw (drawOps 0 c108code) [0,5]) (sg c108S0)) (sg c108S2)))
attribute [go_sem] c108 c108S0 c108S1 c108S2
def c108D0:List (Nat × Ins):=[
 (0,⟨some 6,.move (.tmp 0),23,none⟩),
 (0,⟨some 7,.fieldAddr 160 (.tmp 3) 0,0,none⟩),
 (1,⟨some 8,.load 147 (.tmp 7),147,none⟩),
 (0,⟨some 9,.binOp .rem 147 (.tmp 8) (.const (.int .u64 2)) 147,147,none⟩),
 (0,⟨some 10,.convert 147 3 (.tmp 9),3,none⟩),
 (2,⟨some 11,.load 160 (.tmp 3),160,none⟩),
 (2,⟨some 12,.call ⟨.value (.func 152),#[(.tmp 11)],#[160]⟩,9,none⟩),
 (2,⟨some 13,.call ⟨.value (.func 107),#[(.tmp 6),(.tmp 10),(.tmp 12)],#[23,3,9]⟩,30,none⟩),
 (0,⟨some 5,.assign (.tmp 13),30,none⟩)]
theorem c108draw0{L:List Nat}{ρ:Env}{w:World}{Q:Post}(S:World→Prop)(hS:S w.drew)(h:DG Tryz.prog S c108D0 L ρ w.drew Q):drawW Tryz.prog (drawOps 0 c108code) L ρ w Q :=
 drawW_held [2] [(0,0),(0,1),(1,2),(0,3),(0,4),(2,5),(2,6),(2,7),(0,8)] c108D0 (by kernel_rfl) (by kernel_rfl) (by kernel_rfl) S hS h
theorem ent108(a0 a1:Value)(w:World)(K:Value→World→Prop)(h:W Tryz.prog c108 [(0,a0),(1,a1)] w (finQ Tryz.prog [.tmp 4] K)):Ret Tryz.prog 108 [a0,a1] w K :=
 Ret_of_W (code:=c108code) Tryz.func108 (by kernel_rfl) (by kernel_rfl) (of_decide_eq_true (by kernel_rfl)) h
@[go_sem] theorem go108:goFunc Tryz.prog 108=true:=by kernel_rfl
def c109code:Code:=match Tryz.f109.body with | some c=>c | none=>.skip
def c109S0(_:Unit):Cmd:=(.seq (.ops [
 ⟨some 70,.move (.tmp 10),4,none⟩,
 ⟨some 71,.move (.tmp 70),4,none⟩,
 ⟨some 72,.move (.tmp 11),4,(some (71,true))⟩,
 ⟨some 73,.pick (.tmp 71) (.tmp 72) (.const (.bool false)),4,none⟩,
 ⟨some 74,.move (.tmp 73),4,none⟩,
 ⟨some 75,.fieldAddr 160 (.tmp 9) 0,0,(some (74,true))⟩,
 ⟨some 76,.load 147 (.tmp 75),147,(some (74,true))⟩,
 ⟨some 77,.fieldAddr 160 (.tmp 4) 0,0,(some (74,true))⟩,
 ⟨some 78,.load 147 (.tmp 77),147,(some (74,true))⟩,
 ⟨some 79,.binOp .gtr 147 (.tmp 76) (.tmp 78) 147,4,(some (74,true))⟩,
 ⟨some 80,.pick (.tmp 74) (.tmp 79) (.const (.bool false)),4,none⟩,
 ⟨some 81,.move (.tmp 80),4,none⟩,
 ⟨some 82,.fieldAddr 160 (.tmp 9) 0,0,(some (81,true))⟩,
 ⟨some 83,.load 147 (.tmp 82),147,(some (81,true))⟩,
 ⟨some 84,.binOp .rem 147 (.tmp 83) (.const (.int .u64 2)) 147,147,(some (81,true))⟩,
 ⟨some 85,.convert 147 3 (.tmp 84),3,(some (81,true))⟩,
 ⟨some 86,.move (.tmp 6),3,(some (81,true))⟩,
 ⟨some 87,.binOp .eql 3 (.tmp 85) (.tmp 86) 3,4,(some (81,true))⟩,
 ⟨some 88,.pick (.tmp 81) (.tmp 87) (.const (.bool false)),4,none⟩] [0,2,4,5,9,12,88])
 (.cond (.tmp 88)
 (.ops [
 ⟨some 89,.load 160 (.tmp 9),160,none⟩,
 ⟨none,.store 160 (.tmp 4) (.tmp 89),0,none⟩,
 ⟨some 5,.assign (.const (.bool true)),4,none⟩] [0,2,4,5,12])
 (.skip [0,2,4,5,12])))
def c109S1(_:Unit):Cmd:=(.seq (.draw (drawOps 0 c109code) [0,2,4,5,6,9,10,11,12]) (sg c109S0))
def c109S2(_:Unit):Cmd:=(.seq (.ops [
 ⟨some 28,.move (.tmp 7),9,none⟩,
 ⟨some 29,.call ⟨.value (.func 154),#[(.tmp 28)],#[9]⟩,201,none⟩,
 ⟨some 27,.move (.tmp 29),201,none⟩,
 ⟨some 30,.extract (.tmp 27) 0,160,none⟩,
 ⟨some 31,.extract (.tmp 27) 1,4,none⟩,
 ⟨some 9,.alloc 160,0,none⟩,
 ⟨none,.store 160 (.tmp 9) (.tmp 30),0,none⟩,
 ⟨some 10,.assign (.tmp 31),4,none⟩] [0,2,4,5,6,9,10,12]) (sg c109S1))
def c109S3(_:Unit):Cmd:=(.seq (.seq (.ops [
 ⟨some 23,.move (.tmp 8),30,none⟩,
 ⟨some 24,.binOp .neq 30 (.tmp 23) (.const (.int .i64 0)) 30,4,none⟩] [0,2,4,5,6,7,8,12,24])
 (.cond (.tmp 24)
 (.seq (.ops [
 ⟨some 25,.load 160 (.tmp 4),160,none⟩,
 ⟨some 26,.move (.tmp 8),30,none⟩,
 ⟨none,.store 160 (.tmp 2) (.tmp 25),0,none⟩,
 ⟨some 3,.assign (.tmp 26),30,none⟩] [2,3])
 .ret)
 (.skip [0,2,4,5,6,7,12]))) (sg c109S2))
def c109S4(_:Unit):Cmd:=(.seq (.seq (.ops [
 ⟨some 21,.move (.tmp 8),30,none⟩,
 ⟨some 22,.binOp .eql 30 (.tmp 21) (.const (.int .i64 10)) 30,4,none⟩] [0,2,4,5,6,7,8,12,22])
 (.cond (.tmp 22)
 (.exit 1 [0,2,4,5,12])
 (.skip [0,2,4,5,6,7,8,12]))) (sg c109S3))
def c109S5(_:Unit):Cmd:=(.ops [
 ⟨some 90,.binOp .add 3 (.tmp 12) (.const (.int .i64 1)) 3,3,none⟩,
 ⟨some 12,.move (.tmp 90),3,none⟩] [0,2,4,5,12])
def c109S6(_:Unit):Cmd:=(.seq (.block 1 (.seq (.ops [
 ⟨some 14,.move (.tmp 12),3,none⟩,
 ⟨some 6,.assign (.tmp 14),3,none⟩] [0,2,4,5,6,12])
 (.seq (.ops [
 ⟨some 16,.move (.tmp 0),23,none⟩,
 ⟨some 17,.move (.tmp 6),3,none⟩,
 ⟨some 18,.call ⟨.value (.func 106),#[(.tmp 16),(.tmp 17)],#[23,3]⟩,50,none⟩,
 ⟨some 15,.move (.tmp 18),50,none⟩,
 ⟨some 19,.extract (.tmp 15) 0,9,none⟩,
 ⟨some 20,.extract (.tmp 15) 1,30,none⟩,
 ⟨some 7,.assign (.tmp 19),9,none⟩,
 ⟨some 8,.assign (.tmp 20),30,none⟩] [0,2,4,5,6,7,8,12]) (sg c109S4)))) (sg c109S5))
def c109L0(_:Unit):Cmd:=(.seq (.ops [
 ⟨some 13,.binOp .lss 3 (.tmp 12) (.const (.int .i64 2)) 3,4,none⟩] [0,2,4,5,12,13])
 (.seq (.cond (.tmp 13)
 (.skip [0,2,4,5,12])
 (.exit 0 [2,4,5])) (sg c109S6)))
def c109S7(_:Unit):Cmd:=(.seq (.ops [
 ⟨some 94,.load 160 (.tmp 4),160,none⟩,
 ⟨none,.store 160 (.tmp 2) (.tmp 94),0,none⟩,
 ⟨some 3,.assign (.const (.int .i64 0)),30,none⟩] [2,3])
 .ret)
def c109S8(_:Unit):Cmd:=(.seq (.seq (.ops [
 ⟨some 91,.move (.tmp 5),4,none⟩,
 ⟨some 92,.unOp .not 4 (.tmp 91),4,none⟩] [2,4,92])
 (.cond (.tmp 92)
 (.seq (.ops [
 ⟨some 93,.load 160 (.tmp 4),160,none⟩,
 ⟨none,.store 160 (.tmp 2) (.tmp 93),0,none⟩,
 ⟨some 3,.assign (.const (.int .i64 14)),30,none⟩] [2,3])
 .ret)
 (.skip [2,4]))) (sg c109S7))
def c109:Cmd:=(.seq (.ops [
 ⟨some 2,.alloc 160,0,none⟩,
 ⟨some 3,.assign (.const (.int .i64 0)),30,none⟩] [0,2])
 (.seq (.ops [
 ⟨some 4,.alloc 160,0,none⟩] [0,2,4])
 (.seq (.ops [
 ⟨some 5,.assign (.const (.bool false)),4,none⟩] [0,2,4,5])
 (.seq (.seq (.ops [
 ⟨some 12,.move (.const (.int .i64 0)),3,none⟩] [0,2,4,5,12])
 (.block 0 (.loop (sg c109L0)))) (sg c109S8)))))
attribute [go_sem] c109 c109S0 c109S1 c109S2 c109S3 c109S4 c109S5 c109S6 c109S7 c109S8
def c109D0:List (Nat × Ins):=[
 (0,⟨some 32,.fieldAddr 160 (.tmp 9) 2,0,none⟩),
 (2,⟨some 33,.load 3 (.tmp 32),3,none⟩),
 (0,⟨some 34,.binOp .geq 3 (.tmp 33) (.const (.int .i64 1)) 3,4,none⟩),
 (0,⟨some 35,.move (.tmp 34),4,none⟩),
 (0,⟨some 36,.fieldAddr 160 (.tmp 9) 3,0,(some (35,true))⟩),
 (2,⟨some 37,.load 3 (.tmp 36),3,(some (35,true))⟩),
 (0,⟨some 38,.binOp .geq 3 (.tmp 37) (.const (.int .i64 1)) 3,4,(some (35,true))⟩),
 (0,⟨some 39,.pick (.tmp 35) (.tmp 38) (.const (.bool false)),4,none⟩),
 (0,⟨some 40,.move (.tmp 39),4,none⟩),
 (0,⟨some 41,.fieldAddr 160 (.tmp 9) 3,0,(some (40,true))⟩),
 (2,⟨some 42,.load 3 (.tmp 41),3,(some (40,true))⟩),
 (0,⟨some 43,.binOp .leq 3 (.tmp 42) (.const (.int .i64 1024)) 3,4,(some (40,true))⟩),
 (0,⟨some 44,.pick (.tmp 40) (.tmp 43) (.const (.bool false)),4,none⟩),
 (0,⟨some 45,.move (.tmp 44),4,none⟩),
 (0,⟨some 46,.fieldAddr 160 (.tmp 9) 1,0,(some (45,true))⟩),
 (0,⟨some 48,.fieldAddr 160 (.tmp 9) 2,0,(some (45,true))⟩),
 (1,⟨some 47,.load 3 (.tmp 46),3,(some (45,true))⟩),
 (2,⟨some 49,.load 3 (.tmp 48),3,(some (45,true))⟩),
 (0,⟨some 50,.binOp .leq 3 (.tmp 47) (.tmp 49) 3,4,(some (45,true))⟩),
 (0,⟨some 51,.pick (.tmp 45) (.tmp 50) (.const (.bool false)),4,none⟩),
 (0,⟨some 52,.move (.tmp 51),4,none⟩),
 (0,⟨some 53,.fieldAddr 160 (.tmp 9) 2,0,(some (52,true))⟩),
 (0,⟨some 55,.move (.tmp 0),23,(some (52,true))⟩),
 (1,⟨some 54,.load 3 (.tmp 53),3,(some (52,true))⟩),
 (2,⟨some 56,.call ⟨.value (.func 105),#[(.tmp 55)],#[23]⟩,3,(some (52,true))⟩),
 (0,⟨some 57,.binOp .leq 3 (.tmp 54) (.tmp 56) 3,4,(some (52,true))⟩),
 (0,⟨some 58,.pick (.tmp 52) (.tmp 57) (.const (.bool false)),4,none⟩),
 (0,⟨some 59,.move (.tmp 58),4,none⟩),
 (0,⟨some 60,.fieldAddr 160 (.tmp 9) 2,0,(some (59,true))⟩),
 (0,⟨some 63,.fieldAddr 160 (.tmp 9) 3,0,(some (59,true))⟩),
 (0,⟨some 66,.move (.tmp 0),23,(some (59,true))⟩),
 (1,⟨some 61,.load 3 (.tmp 60),3,(some (59,true))⟩),
 (0,⟨some 62,.binOp .add 3 (.const (.int .i64 2)) (.tmp 61) 3,3,(some (59,true))⟩),
 (1,⟨some 64,.load 3 (.tmp 63),3,(some (59,true))⟩),
 (0,⟨some 65,.binOp .add 3 (.tmp 62) (.tmp 64) 3,3,(some (59,true))⟩),
 (2,⟨some 67,.call ⟨.value (.func 105),#[(.tmp 66)],#[23]⟩,3,(some (59,true))⟩),
 (0,⟨some 68,.binOp .leq 3 (.tmp 65) (.tmp 67) 3,4,(some (59,true))⟩),
 (0,⟨some 69,.pick (.tmp 59) (.tmp 68) (.const (.bool false)),4,none⟩),
 (0,⟨some 11,.assign (.tmp 69),4,none⟩)]
theorem c109draw0{L:List Nat}{ρ:Env}{w:World}{Q:Post}(S:World→Prop)(hS:S w.drew)(h:DG Tryz.prog S c109D0 L ρ w.drew Q):drawW Tryz.prog (drawOps 0 c109code) L ρ w Q :=
 drawW_held [15,22,29,32] [(0,0),(2,1),(0,2),(0,3),(0,4),(2,5),(0,6),(0,7),(0,8),(0,9),(2,10),(0,11),(0,12),(0,13),(0,14),(0,16),(1,15),(2,17),(0,18),(0,19),(0,20),(0,21),(0,23),(1,22),(2,24),(0,25),(0,26),(0,27),(0,28),(0,31),(0,34),(1,29),(0,30),(1,32),(0,33),(2,35),(0,36),(0,37),(0,38)] c109D0 (by kernel_rfl) (by kernel_rfl) (by kernel_rfl) S hS h
theorem ent109(a0:Value)(w:World)(K:Value→World→Prop)(h:W Tryz.prog c109 [(0,a0)] w (finQ Tryz.prog [.cell 2 160,.tmp 3] K)):Ret Tryz.prog 109 [a0] w K :=
 Ret_of_W (code:=c109code) Tryz.func109 (by kernel_rfl) (by kernel_rfl) (of_decide_eq_true (by kernel_rfl)) h
@[go_sem] theorem go109:goFunc Tryz.prog 109=true:=by kernel_rfl
@[go_sem] theorem go110:goFunc Tryz.prog 110=true:=by kernel_rfl
@[go_sem] theorem go111:goFunc Tryz.prog 111=true:=by kernel_rfl
def c112code:Code:=match Tryz.f112.body with | some c=>c | none=>.skip
def c112S0(_:Unit):Cmd:=(.seq (.ops [
 ⟨some 14,.move (.tmp 6),30,none⟩,
 ⟨some 15,.binOp .neq 30 (.tmp 14) (.const (.int .i64 0)) 30,4,none⟩] [0,1,6,15])
 (.cond (.tmp 15)
 (.seq (.ops [
 ⟨some 16,.move (.tmp 6),30,none⟩,
 ⟨some 4,.assign (.const (.string (ofL []))),9,none⟩,
 ⟨some 5,.assign (.tmp 16),30,none⟩] [4,5])
 .ret)
 (.skip [0,1])))
def c112S1(_:Unit):Cmd:=(.seq (.ops [
 ⟨some 49,.move (.tmp 9),9,none⟩,
 ⟨some 50,.move (.tmp 10),30,none⟩,
 ⟨some 4,.assign (.tmp 49),9,none⟩,
 ⟨some 5,.assign (.tmp 50),30,none⟩] [4,5])
 .ret)
def c112S2(_:Unit):Cmd:=(.seq (.seq (.ops [
 ⟨some 44,.move (.tmp 10),30,none⟩,
 ⟨some 45,.binOp .neq 30 (.tmp 44) (.const (.int .i64 0)) 30,4,none⟩] [0,9,10,45])
 (.cond (.tmp 45)
 (.ops [
 ⟨some 46,.move (.tmp 0),88,none⟩,
 ⟨some 47,.nilCheck (.tmp 46),0,none⟩,
 ⟨some 48,.fieldAddr 165 (.tmp 47) 3,0,none⟩,
 ⟨none,.store 4 (.tmp 48) (.const (.bool true)),0,none⟩] [9,10])
 (.skip [9,10]))) (sg c112S1))
def c112S3(_:Unit):Cmd:=(.seq (.draw (drawOps 0 c112code) [0,9,10]) (sg c112S2))
def c112S4(_:Unit):Cmd:=(.seq (.seq (.ops [
 ⟨some 18,.move (.tmp 0),88,none⟩,
 ⟨some 19,.nilCheck (.tmp 18),0,none⟩,
 ⟨some 20,.fieldAddr 165 (.tmp 19) 2,0,none⟩,
 ⟨some 21,.load 163 (.tmp 20),163,none⟩,
 ⟨some 22,.move (.tmp 1),3,none⟩,
 ⟨some 23,.lookup 163 (.tmp 21) (.tmp 22) true,72,none⟩,
 ⟨some 17,.move (.tmp 23),72,none⟩,
 ⟨some 24,.extract (.tmp 17) 0,9,none⟩,
 ⟨some 25,.extract (.tmp 17) 1,4,none⟩,
 ⟨some 7,.assign (.tmp 24),9,none⟩,
 ⟨some 8,.assign (.tmp 25),4,none⟩] [0,1,7,8])
 (.seq (.ops [
 ⟨some 26,.move (.tmp 8),4,none⟩] [0,1,7,26])
 (.cond (.tmp 26)
 (.seq (.ops [
 ⟨some 27,.move (.tmp 7),9,none⟩,
 ⟨some 4,.assign (.tmp 27),9,none⟩,
 ⟨some 5,.assign (.const (.int .i64 0)),30,none⟩] [4,5])
 .ret)
 (.skip [0,1])))) (sg c112S3))
def c112:Cmd:=(.seq (.ops [
 ⟨some 4,.assign (.const (.string (ofL []))),9,none⟩,
 ⟨some 5,.assign (.const (.int .i64 0)),30,none⟩] [0,1])
 (.seq (.seq (.ops [
 ⟨some 11,.move (.tmp 0),88,none⟩,
 ⟨some 12,.move (.tmp 1),3,none⟩,
 ⟨some 13,.call ⟨.value (.func 159),#[(.tmp 11),(.tmp 12)],#[88,3]⟩,30,none⟩,
 ⟨some 6,.assign (.tmp 13),30,none⟩] [0,1,6]) (sg c112S0)) (sg c112S4)))
attribute [go_sem] c112 c112S0 c112S1 c112S2 c112S3 c112S4
def c112D0:List (Nat × Ins):=[
 (0,⟨some 29,.move (.tmp 0),88,none⟩),
 (0,⟨some 30,.nilCheck (.tmp 29),0,none⟩),
 (0,⟨some 31,.fieldAddr 165 (.tmp 30) 0,0,none⟩),
 (0,⟨some 33,.move (.tmp 0),88,none⟩),
 (0,⟨some 34,.nilCheck (.tmp 33),0,none⟩),
 (0,⟨some 35,.fieldAddr 165 (.tmp 34) 1,0,none⟩),
 (0,⟨some 36,.fieldAddr 160 (.tmp 35) 2,0,none⟩),
 (0,⟨some 39,.move (.tmp 1),3,none⟩),
 (1,⟨some 32,.load 23 (.tmp 31),23,none⟩),
 (2,⟨some 37,.load 3 (.tmp 36),3,none⟩),
 (0,⟨some 38,.binOp .add 3 (.const (.int .i64 2)) (.tmp 37) 3,3,none⟩),
 (0,⟨some 40,.binOp .add 3 (.tmp 38) (.tmp 39) 3,3,none⟩),
 (3,⟨some 41,.call ⟨.value (.func 106),#[(.tmp 32),(.tmp 40)],#[23,3]⟩,50,none⟩),
 (0,⟨some 28,.move (.tmp 41),50,none⟩),
 (0,⟨some 42,.extract (.tmp 28) 0,9,none⟩),
 (0,⟨some 43,.extract (.tmp 28) 1,30,none⟩),
 (0,⟨some 9,.assign (.tmp 42),9,none⟩),
 (0,⟨some 10,.assign (.tmp 43),30,none⟩)]
theorem c112draw0{L:List Nat}{ρ:Env}{w:World}{Q:Post}(S:World→Prop)(hS:S w.drew)(h:DG Tryz.prog S c112D0 L ρ w.drew Q):drawW Tryz.prog (drawOps 0 c112code) L ρ w Q :=
 drawW_held [3] [(0,0),(0,1),(0,2),(0,4),(0,5),(0,6),(0,7),(0,10),(1,3),(2,8),(0,9),(0,11),(3,12),(0,13),(0,14),(0,15),(0,16),(0,17)] c112D0 (by kernel_rfl) (by kernel_rfl) (by kernel_rfl) S hS h
theorem ent112(a0 a1:Value)(w:World)(K:Value→World→Prop)(h:W Tryz.prog c112 [(0,a0),(1,a1)] w (finQ Tryz.prog [.tmp 4,.tmp 5] K)):Ret Tryz.prog 112 [a0,a1] w K :=
 Ret_of_W (code:=c112code) Tryz.func112 (by kernel_rfl) (by kernel_rfl) (of_decide_eq_true (by kernel_rfl)) h
@[go_sem] theorem go112:goFunc Tryz.prog 112=true:=by kernel_rfl
def c113code:Code:=match Tryz.f113.body with | some c=>c | none=>.skip
def c113S0(_:Unit):Cmd:=(.seq (.ops [
 ⟨some 10,.move (.tmp 0),3,none⟩,
 ⟨some 11,.build 206 #[(0,(.tmp 10))],206,none⟩,
 ⟨some 12,.box 206 (.tmp 11),96,none⟩,
 ⟨some 2,.assign (.tmp 12),96,none⟩,
 ⟨some 3,.assign (.const (.int .i64 0)),30,none⟩] [2,3])
 .ret)
def c113:Cmd:=(.seq (.ops [
 ⟨some 2,.assign (.const (.pointer none)),96,none⟩,
 ⟨some 3,.assign (.const (.int .i64 0)),30,none⟩] [0])
 (.seq (.seq (.ops [
 ⟨some 4,.move (.tmp 0),3,none⟩,
 ⟨some 5,.binOp .lss 3 (.tmp 4) (.const (.int .i64 1)) 3,4,none⟩,
 ⟨some 6,.move (.tmp 5),4,none⟩,
 ⟨some 7,.move (.tmp 0),3,(some (6,false))⟩,
 ⟨some 8,.binOp .gtr 3 (.tmp 7) (.const (.int .i64 1024)) 3,4,(some (6,false))⟩,
 ⟨some 9,.pick (.tmp 6) (.const (.bool true)) (.tmp 8),4,none⟩] [0,9])
 (.cond (.tmp 9)
 (.seq (.ops [
 ⟨some 2,.assign (.const (.pointer none)),96,none⟩,
 ⟨some 3,.assign (.const (.int .i64 1)),30,none⟩] [2,3])
 .ret)
 (.skip [0]))) (sg c113S0)))
attribute [go_sem] c113 c113S0
theorem ent113(a0:Value)(w:World)(K:Value→World→Prop)(h:W Tryz.prog c113 [(0,a0)] w (finQ Tryz.prog [.tmp 2,.tmp 3] K)):Ret Tryz.prog 113 [a0] w K :=
 Ret_of_W (code:=c113code) Tryz.func113 (by kernel_rfl) (by kernel_rfl) (of_decide_eq_true (by kernel_rfl)) h
@[go_sem] theorem go113:goFunc Tryz.prog 113=true:=by kernel_rfl
def c114code:Code:=match Tryz.f114.body with | some c=>c | none=>.skip
def c114S0(_:Unit):Cmd:=.ret
def c114:Cmd:=(.seq (.ops [
 ⟨some 2,.assign (.const (.string (ofL []))),9,none⟩] [0])
 (.seq (.ops [
 ⟨some 3,.move (.tmp 0),3,none⟩,
 ⟨some 4,.binOp .quo 3 (.tmp 3) (.const (.int .i64 8)) 3,3,none⟩,
 ⟨some 5,.move (.tmp 0),3,none⟩,
 ⟨some 6,.binOp .rem 3 (.tmp 5) (.const (.int .i64 8)) 3,3,none⟩,
 ⟨some 7,.call ⟨.builtin .max,#[(.const (.int .i64 0)),(.tmp 6)],#[3,3]⟩,3,none⟩,
 ⟨some 8,.call ⟨.builtin .min,#[(.const (.int .i64 1)),(.tmp 7)],#[3,3]⟩,3,none⟩,
 ⟨some 9,.binOp .add 3 (.tmp 4) (.tmp 8) 3,3,none⟩,
 ⟨some 10,.call ⟨.builtin .max,#[(.const (.int .i64 0)),(.tmp 9)],#[3,3]⟩,3,none⟩,
 ⟨some 11,.makeSlice 181 (.tmp 10) (.tmp 10),181,none⟩,
 ⟨some 12,.convert 181 9 (.tmp 11),9,none⟩,
 ⟨some 2,.assign (.tmp 12),9,none⟩] [2]) (sg c114S0)))
attribute [go_sem] c114 c114S0
theorem ent114(a0:Value)(w:World)(K:Value→World→Prop)(h:W Tryz.prog c114 [(0,a0)] w (finQ Tryz.prog [.tmp 2] K)):Ret Tryz.prog 114 [a0] w K :=
 Ret_of_W (code:=c114code) Tryz.func114 (by kernel_rfl) (by kernel_rfl) (of_decide_eq_true (by kernel_rfl)) h
@[go_sem] theorem go114:goFunc Tryz.prog 114=true:=by kernel_rfl
def c115code:Code:=match Tryz.f115.body with | some c=>c | none=>.skip
def c115S0(_:Unit):Cmd:=(.seq (.ops [
 ⟨some 44,.move (.tmp 8),181,none⟩,
 ⟨some 45,.convert 181 9 (.tmp 44),9,none⟩,
 ⟨some 6,.assign (.tmp 45),9,none⟩,
 ⟨some 7,.assign (.const (.bool true)),4,none⟩] [6,7])
 .ret)
def c115S1(_:Unit):Cmd:=(.seq (.ops [
 ⟨some 19,.move (.tmp 0),9,none⟩,
 ⟨some 20,.convert 9 181 (.tmp 19),181,none⟩,
 ⟨some 8,.assign (.tmp 20),181,none⟩] [1,2,8])
 (.seq (.seq (.ops [
 ⟨some 21,.move (.tmp 2),4,none⟩] [1,8,21])
 (.cond (.tmp 21)
 (.ops [
 ⟨some 22,.move (.tmp 8),181,none⟩,
 ⟨some 23,.move (.tmp 1),3,none⟩,
 ⟨some 24,.binOp .quo 3 (.tmp 23) (.const (.int .i64 8)) 3,3,none⟩,
 ⟨some 25,.indexAddr 181 (.tmp 22) (.tmp 24),0,none⟩,
 ⟨some 26,.load 5 (.tmp 25),5,none⟩,
 ⟨some 27,.move (.tmp 1),3,none⟩,
 ⟨some 28,.binOp .rem 3 (.tmp 27) (.const (.int .i64 8)) 3,3,none⟩,
 ⟨some 29,.convert 3 78 (.tmp 28),78,none⟩,
 ⟨some 30,.binOp .shl 5 (.const (.int .u8 1)) (.tmp 29) 78,5,none⟩,
 ⟨some 31,.binOp .or 5 (.tmp 26) (.tmp 30) 5,5,none⟩,
 ⟨some 32,.indexAddr 181 (.tmp 22) (.tmp 24),0,none⟩,
 ⟨none,.store 5 (.tmp 32) (.tmp 31),0,none⟩] [8])
 (.ops [
 ⟨some 33,.move (.tmp 8),181,none⟩,
 ⟨some 34,.move (.tmp 1),3,none⟩,
 ⟨some 35,.binOp .quo 3 (.tmp 34) (.const (.int .i64 8)) 3,3,none⟩,
 ⟨some 36,.indexAddr 181 (.tmp 33) (.tmp 35),0,none⟩,
 ⟨some 37,.load 5 (.tmp 36),5,none⟩,
 ⟨some 38,.move (.tmp 1),3,none⟩,
 ⟨some 39,.binOp .rem 3 (.tmp 38) (.const (.int .i64 8)) 3,3,none⟩,
 ⟨some 40,.convert 3 78 (.tmp 39),78,none⟩,
 ⟨some 41,.binOp .shl 5 (.const (.int .u8 1)) (.tmp 40) 78,5,none⟩,
 ⟨some 42,.binOp .andNot 5 (.tmp 37) (.tmp 41) 5,5,none⟩,
 ⟨some 43,.indexAddr 181 (.tmp 33) (.tmp 35),0,none⟩,
 ⟨none,.store 5 (.tmp 43) (.tmp 42),0,none⟩] [8]))) (sg c115S0)))
def c115:Cmd:=(.seq (.ops [
 ⟨some 6,.assign (.const (.string (ofL []))),9,none⟩,
 ⟨some 7,.assign (.const (.bool false)),4,none⟩] [0,1,2])
 (.seq (.seq (.ops [
 ⟨some 9,.move (.tmp 1),3,none⟩,
 ⟨some 10,.binOp .lss 3 (.tmp 9) (.const (.int .i64 0)) 3,4,none⟩,
 ⟨some 11,.move (.tmp 10),4,none⟩,
 ⟨some 12,.move (.tmp 1),3,(some (11,false))⟩,
 ⟨some 13,.binOp .quo 3 (.tmp 12) (.const (.int .i64 8)) 3,3,(some (11,false))⟩,
 ⟨some 14,.move (.tmp 0),9,(some (11,false))⟩,
 ⟨some 15,.call ⟨.builtin .len,#[(.tmp 14)],#[9]⟩,3,(some (11,false))⟩,
 ⟨some 16,.binOp .geq 3 (.tmp 13) (.tmp 15) 3,4,(some (11,false))⟩,
 ⟨some 17,.pick (.tmp 11) (.const (.bool true)) (.tmp 16),4,none⟩] [0,1,2,17])
 (.cond (.tmp 17)
 (.seq (.ops [
 ⟨some 18,.move (.tmp 0),9,none⟩,
 ⟨some 6,.assign (.tmp 18),9,none⟩,
 ⟨some 7,.assign (.const (.bool false)),4,none⟩] [6,7])
 .ret)
 (.skip [0,1,2]))) (sg c115S1)))
attribute [go_sem] c115 c115S0 c115S1
theorem ent115(a0 a1 a2:Value)(w:World)(K:Value→World→Prop)(h:W Tryz.prog c115 [(0,a0),(1,a1),(2,a2)] w (finQ Tryz.prog [.tmp 6,.tmp 7] K)):Ret Tryz.prog 115 [a0,a1,a2] w K :=
 Ret_of_W (code:=c115code) Tryz.func115 (by kernel_rfl) (by kernel_rfl) (of_decide_eq_true (by kernel_rfl)) h
@[go_sem] theorem go115:goFunc Tryz.prog 115=true:=by kernel_rfl
def str256x1466348926:List UInt8:=[0,1,1,2,1,2,2,3,1,2,2,3,2,3,3,4,1,2,2,3,2,3,3,4,2,3,3,4,3,4,4,5,1,2,2,3,2,3,3,4,2,3,3,4,3,4,4,5,2,3,3,4,3,4,4,5,3,4,4,5,4,5,5,6,1,2,2,3,2,3,3,4,2,3,3,4,3,4,4,5,2,3,3,4,3,4,4,5,3,4,4,5,4,5,5,6,2,3,3,4,3,4,4,5,3,4,4,5,4,5,5,6,3,4,4,5,4,5,5,6,4,5,5,6,5,6,6,7,1,2,2,3,2,3,3,4,2,3,3,4,3,4,4,5,2,3,3,4,3,4,4,5,3,4,4,5,4,5,5,6,2,3,3,4,3,4,4,5,3,4,4,5,4,5,5,6,3,4,4,5,4,5,5,6,4,5,5,6,5,6,6,7,2,3,3,4,3,4,4,5,3,4,4,5,4,5,5,6,3,4,4,5,4,5,5,6,4,5,5,6,5,6,6,7,3,4,4,5,4,5,5,6,4,5,5,6,5,6,6,7,4,5,5,6,5,6,6,7,5,6,6,7,6,7,7,8]
def c116code:Code:=match Tryz.f116.body with | some c=>c | none=>.skip
def c116:Cmd:=(.seq (.ops [
 ⟨some 2,.assign (.const (.int .i64 0)),3,none⟩] [0])
 (.seq (.ops [
 ⟨some 3,.move (.tmp 0),5,none⟩,
 ⟨some 4,.index 9 (.const (.string (ofL str256x1466348926))) (.tmp 3),5,none⟩,
 ⟨some 5,.convert 5 3 (.tmp 4),3,none⟩,
 ⟨some 2,.assign (.tmp 5),3,none⟩] [2])
 .ret))
attribute [go_sem] c116
theorem ent116(a0:Value)(w:World)(K:Value→World→Prop)(h:W Tryz.prog c116 [(0,a0)] w (finQ Tryz.prog [.tmp 2] K)):Ret Tryz.prog 116 [a0] w K :=
 Ret_of_W (code:=c116code) Tryz.func116 (by kernel_rfl) (by kernel_rfl) (of_decide_eq_true (by kernel_rfl)) h
@[go_sem] theorem go116:goFunc Tryz.prog 116=true:=by kernel_rfl
@[go_sem] theorem go117:goFunc Tryz.prog 117=true:=by kernel_rfl
def c118code:Code:=match Tryz.f118.body with | some c=>c | none=>.skip
def c118S0(_:Unit):Cmd:=(.ops [
 ⟨some 23,.binOp .add 3 (.tmp 11) (.const (.int .i64 1)) 3,3,none⟩,
 ⟨some 11,.move (.tmp 23),3,none⟩] [0,5,10,11])
def c118S1(_:Unit):Cmd:=(.seq (.block 1 (.seq (.ops [
 ⟨some 13,.move (.tmp 11),3,none⟩,
 ⟨some 6,.assign (.tmp 13),3,none⟩] [0,5,6,10,11])
 (.ops [
 ⟨some 14,.move (.tmp 5),181,none⟩,
 ⟨some 15,.move (.tmp 0),147,none⟩,
 ⟨some 16,.move (.tmp 6),3,none⟩,
 ⟨some 17,.binOp .mul 3 (.const (.int .i64 8)) (.tmp 16) 3,3,none⟩,
 ⟨some 18,.convert 3 78 (.tmp 17),78,none⟩,
 ⟨some 19,.binOp .shr 147 (.tmp 15) (.tmp 18) 78,147,none⟩,
 ⟨some 20,.convert 147 5 (.tmp 19),5,none⟩,
 ⟨some 21,.buildSlice 181 1 #[(0,(.tmp 20))],181,none⟩,
 ⟨some 22,.call ⟨.builtin .append,#[(.tmp 14),(.tmp 21)],#[181,181]⟩,181,none⟩,
 ⟨some 5,.assign (.tmp 22),181,none⟩] [0,5,10,11]))) (sg c118S0))
def c118L0(_:Unit):Cmd:=(.seq (.ops [
 ⟨some 12,.binOp .lss 3 (.tmp 11) (.tmp 10) 3,4,none⟩] [0,5,10,11,12])
 (.seq (.cond (.tmp 12)
 (.skip [0,5,10,11])
 (.exit 0 [5])) (sg c118S1)))
def c118S2(_:Unit):Cmd:=(.block 0 (.loop (sg c118L0)))
def c118S3(_:Unit):Cmd:=(.seq (.ops [
 ⟨some 24,.move (.tmp 5),181,none⟩,
 ⟨some 25,.convert 181 9 (.tmp 24),9,none⟩,
 ⟨some 4,.assign (.tmp 25),9,none⟩] [4])
 .ret)
def c118:Cmd:=(.seq (.ops [
 ⟨some 4,.assign (.const (.string (ofL []))),9,none⟩] [0,1])
 (.seq (.ops [
 ⟨some 7,.makeSlice 181 (.const (.int .i64 0)) (.const (.int .i64 8)),181,none⟩,
 ⟨some 5,.assign (.tmp 7),181,none⟩] [0,1,5])
 (.seq (.seq (.ops [
 ⟨some 8,.move (.tmp 1),3,none⟩,
 ⟨some 9,.call ⟨.builtin .min,#[(.tmp 8),(.const (.int .i64 8))],#[3,3]⟩,3,none⟩,
 ⟨some 10,.call ⟨.builtin .max,#[(.const (.int .i64 0)),(.tmp 9)],#[3,3]⟩,3,none⟩,
 ⟨some 11,.move (.const (.int .i64 0)),3,none⟩] [0,5,10,11]) (sg c118S2)) (sg c118S3))))
attribute [go_sem] c118 c118S0 c118S1 c118S2 c118S3
theorem ent118(a0 a1:Value)(w:World)(K:Value→World→Prop)(h:W Tryz.prog c118 [(0,a0),(1,a1)] w (finQ Tryz.prog [.tmp 4] K)):Ret Tryz.prog 118 [a0,a1] w K :=
 Ret_of_W (code:=c118code) Tryz.func118 (by kernel_rfl) (by kernel_rfl) (of_decide_eq_true (by kernel_rfl)) h
@[go_sem] theorem go118:goFunc Tryz.prog 118=true:=by kernel_rfl
@[go_sem] theorem go119:goFunc Tryz.prog 119=true:=by kernel_rfl
@[go_sem] theorem go120:goFunc Tryz.prog 120=true:=by kernel_rfl
@[go_sem] theorem go121:goFunc Tryz.prog 121=true:=by kernel_rfl
@[go_sem] theorem go122:goFunc Tryz.prog 122=true:=by kernel_rfl
@[go_sem] theorem go123:goFunc Tryz.prog 123=true:=by kernel_rfl
@[go_sem] theorem go124:goFunc Tryz.prog 124=true:=by kernel_rfl
@[go_sem] theorem go125:goFunc Tryz.prog 125=true:=by kernel_rfl
def c126code:Code:=match Tryz.f126.body with | some c=>c | none=>.skip
def c126S0(_:Unit):Cmd:=(.cond (.tmp 38)
 (.seq (.ops [
 ⟨some 39,.move (.tmp 8),3,none⟩,
 ⟨some 6,.assign (.tmp 39),3,none⟩,
 ⟨some 7,.assign (.const (.bool true)),4,none⟩] [6,7])
 .ret)
 (.skip [0,2,8]))
def c126S1(_:Unit):Cmd:=(.seq (.ops [
 ⟨some 35,.move (.tmp 0),9,none⟩,
 ⟨some 36,.move (.tmp 8),3,none⟩,
 ⟨some 37,.call ⟨.value (.func 49),#[(.tmp 35),(.tmp 36)],#[9,3]⟩,4,none⟩,
 ⟨some 38,.unOp .not 4 (.tmp 37),4,none⟩] [0,2,8,38]) (sg c126S0))
def c126S2(_:Unit):Cmd:=(.ops [
 ⟨some 21,.move (.tmp 8),3,none⟩,
 ⟨some 22,.binOp .add 3 (.tmp 21) (.const (.int .i64 1)) 3,3,none⟩,
 ⟨some 8,.assign (.tmp 22),3,none⟩] [0,2,8])
def c126S3(_:Unit):Cmd:=(.seq (.block 1 (.seq (.seq (.ops [
 ⟨some 23,.move (.tmp 8),3,none⟩,
 ⟨some 24,.binOp .rem 3 (.tmp 23) (.const (.int .i64 8)) 3,3,none⟩,
 ⟨some 25,.binOp .eql 3 (.tmp 24) (.const (.int .i64 0)) 3,4,none⟩,
 ⟨some 26,.move (.tmp 25),4,none⟩,
 ⟨some 27,.move (.tmp 0),9,(some (26,true))⟩,
 ⟨some 28,.move (.tmp 8),3,(some (26,true))⟩,
 ⟨some 29,.binOp .quo 3 (.tmp 28) (.const (.int .i64 8)) 3,3,(some (26,true))⟩,
 ⟨some 30,.index 9 (.tmp 27) (.tmp 29),5,(some (26,true))⟩,
 ⟨some 31,.binOp .eql 5 (.tmp 30) (.const (.int .u8 255)) 5,4,(some (26,true))⟩,
 ⟨some 32,.pick (.tmp 26) (.tmp 31) (.const (.bool false)),4,none⟩] [0,2,8,32])
 (.cond (.tmp 32)
 (.seq (.ops [
 ⟨some 33,.move (.tmp 8),3,none⟩,
 ⟨some 34,.binOp .add 3 (.tmp 33) (.const (.int .i64 7)) 3,3,none⟩,
 ⟨some 8,.assign (.tmp 34),3,none⟩] [0,2,8])
 (.exit 1 [0,2,8]))
 (.skip [0,2,8]))) (sg c126S1))) (sg c126S2))
def c126L0(_:Unit):Cmd:=(.seq (.seq (.ops [
 ⟨some 11,.move (.tmp 8),3,none⟩,
 ⟨some 12,.move (.tmp 2),3,none⟩,
 ⟨some 13,.binOp .lss 3 (.tmp 11) (.tmp 12) 3,4,none⟩,
 ⟨some 14,.move (.tmp 13),4,none⟩,
 ⟨some 15,.move (.tmp 8),3,(some (14,true))⟩,
 ⟨some 16,.binOp .quo 3 (.tmp 15) (.const (.int .i64 8)) 3,3,(some (14,true))⟩,
 ⟨some 17,.move (.tmp 0),9,(some (14,true))⟩,
 ⟨some 18,.call ⟨.builtin .len,#[(.tmp 17)],#[9]⟩,3,(some (14,true))⟩,
 ⟨some 19,.binOp .lss 3 (.tmp 16) (.tmp 18) 3,4,(some (14,true))⟩,
 ⟨some 20,.pick (.tmp 14) (.tmp 19) (.const (.bool false)),4,none⟩] [0,2,8,20])
 (.cond (.tmp 20)
 (.skip [0,2,8])
 (.exit 0 []))) (sg c126S3))
def c126S4(_:Unit):Cmd:=(.block 0 (.loop (sg c126L0)))
def c126S5(_:Unit):Cmd:=(.seq (.ops [
 ⟨some 6,.assign (.const (.int .i64 0)),3,none⟩,
 ⟨some 7,.assign (.const (.bool false)),4,none⟩] [6,7])
 .ret)
def c126:Cmd:=(.seq (.ops [
 ⟨some 6,.assign (.const (.int .i64 0)),3,none⟩,
 ⟨some 7,.assign (.const (.bool false)),4,none⟩] [0,1,2])
 (.seq (.seq (.ops [
 ⟨some 9,.move (.tmp 1),3,none⟩,
 ⟨some 10,.call ⟨.builtin .max,#[(.const (.int .i64 0)),(.tmp 9)],#[3,3]⟩,3,none⟩,
 ⟨some 8,.assign (.tmp 10),3,none⟩] [0,2,8]) (sg c126S4)) (sg c126S5)))
attribute [go_sem] c126 c126S0 c126S1 c126S2 c126S3 c126L0 c126S4 c126S5
theorem ent126(a0 a1 a2:Value)(w:World)(K:Value→World→Prop)(h:W Tryz.prog c126 [(0,a0),(1,a1),(2,a2)] w (finQ Tryz.prog [.tmp 6,.tmp 7] K)):Ret Tryz.prog 126 [a0,a1,a2] w K :=
 Ret_of_W (code:=c126code) Tryz.func126 (by kernel_rfl) (by kernel_rfl) (of_decide_eq_true (by kernel_rfl)) h
@[go_sem] theorem go126:goFunc Tryz.prog 126=true:=by kernel_rfl
def c131code:Code:=match Tryz.f131.body with | some c=>c | none=>.skip
def c131S0(_:Unit):Cmd:=(.seq (.ops [
 ⟨some 22,.move (.tmp 5),3,none⟩,
 ⟨some 23,.binOp .geq 3 (.tmp 22) (.const (.int .i64 0)) 3,4,none⟩,
 ⟨some 4,.assign (.tmp 23),4,none⟩] [4])
 .ret)
def c131S1(_:Unit):Cmd:=(.seq (.seq (.ops [
 ⟨some 9,.move (.tmp 5),3,none⟩,
 ⟨some 10,.binOp .geq 3 (.tmp 9) (.const (.int .i64 0)) 3,4,none⟩] [0,5,10])
 (.cond (.tmp 10)
 (.ops [
 ⟨some 11,.move (.tmp 0),96,none⟩,
 ⟨some 12,.move (.tmp 0),96,none⟩,
 ⟨some 13,.nilCheck (.tmp 12),0,none⟩,
 ⟨some 14,.fieldAddr 206 (.tmp 13) 1,0,none⟩,
 ⟨some 15,.load 204 (.tmp 14),204,none⟩,
 ⟨some 16,.move (.tmp 5),3,none⟩,
 ⟨some 17,.move (.tmp 5),3,none⟩,
 ⟨some 18,.binOp .add 3 (.tmp 17) (.const (.int .i64 1)) 3,3,none⟩,
 ⟨some 19,.call ⟨.value (.func 170),#[(.tmp 15),(.tmp 16),(.tmp 18)],#[204,3,3]⟩,204,none⟩,
 ⟨some 20,.nilCheck (.tmp 11),0,none⟩,
 ⟨some 21,.fieldAddr 206 (.tmp 20) 1,0,none⟩,
 ⟨none,.store 204 (.tmp 21) (.tmp 19),0,none⟩] [5])
 (.skip [5]))) (sg c131S0))
def c131:Cmd:=(.seq (.ops [
 ⟨some 4,.assign (.const (.bool false)),4,none⟩] [0,1])
 (.seq (.ops [
 ⟨some 6,.move (.tmp 0),96,none⟩,
 ⟨some 7,.move (.tmp 1),3,none⟩,
 ⟨some 8,.call ⟨.value (.func 169),#[(.tmp 6),(.tmp 7)],#[96,3]⟩,3,none⟩,
 ⟨some 5,.assign (.tmp 8),3,none⟩] [0,5]) (sg c131S1)))
attribute [go_sem] c131 c131S0 c131S1
theorem ent131(a0 a1:Value)(w:World)(K:Value→World→Prop)(h:W Tryz.prog c131 [(0,a0),(1,a1)] w (finQ Tryz.prog [.tmp 4] K)):Ret Tryz.prog 131 [a0,a1] w K :=
 Ret_of_W (code:=c131code) Tryz.func131 (by kernel_rfl) (by kernel_rfl) (of_decide_eq_true (by kernel_rfl)) h
@[go_sem] theorem go131:goFunc Tryz.prog 131=true:=by kernel_rfl
def c132code:Code:=match Tryz.f132.body with | some c=>c | none=>.skip
def c132S0(_:Unit):Cmd:=(.seq (.ops [
 ⟨some 11,.move (.tmp 7),30,none⟩,
 ⟨some 12,.binOp .neq 30 (.tmp 11) (.const (.int .i64 0)) 30,4,none⟩] [0,1,2,7,12])
 (.cond (.tmp 12)
 (.seq (.ops [
 ⟨some 13,.move (.tmp 7),30,none⟩,
 ⟨some 6,.assign (.tmp 13),30,none⟩] [6])
 .ret)
 (.skip [0,1,2])))
def c132S1(_:Unit):Cmd:=(.seq (.ops [
 ⟨some 6,.assign (.const (.int .i64 0)),30,none⟩] [6])
 .ret)
def c132S2(_:Unit):Cmd:=(.seq (.draw (drawOps 0 c132code) []) (sg c132S1))
def c132S3(_:Unit):Cmd:=(.seq (.seq (.ops [
 ⟨some 14,.move (.tmp 2),9,none⟩,
 ⟨some 15,.call ⟨.builtin .len,#[(.tmp 14)],#[9]⟩,3,none⟩,
 ⟨some 16,.binOp .gtr 3 (.tmp 15) (.const (.int .i64 256)) 3,4,none⟩] [0,1,2,16])
 (.cond (.tmp 16)
 (.seq (.ops [
 ⟨some 6,.assign (.const (.int .i64 21)),30,none⟩] [6])
 .ret)
 (.skip [0,1,2]))) (sg c132S2))
def c132:Cmd:=(.seq (.ops [
 ⟨some 6,.assign (.const (.int .i64 0)),30,none⟩] [0,1,2])
 (.seq (.seq (.ops [
 ⟨some 8,.move (.tmp 0),88,none⟩,
 ⟨some 9,.move (.tmp 1),3,none⟩,
 ⟨some 10,.call ⟨.value (.func 159),#[(.tmp 8),(.tmp 9)],#[88,3]⟩,30,none⟩,
 ⟨some 7,.assign (.tmp 10),30,none⟩] [0,1,2,7]) (sg c132S0)) (sg c132S3)))
attribute [go_sem] c132 c132S0 c132S1 c132S2 c132S3
def c132D0:List (Nat × Ins):=[
 (0,⟨some 17,.move (.tmp 0),88,none⟩),
 (0,⟨some 18,.nilCheck (.tmp 17),0,none⟩),
 (0,⟨some 19,.fieldAddr 165 (.tmp 18) 2,0,none⟩),
 (0,⟨some 21,.move (.tmp 1),3,none⟩),
 (0,⟨some 22,.move (.tmp 2),9,none⟩),
 (0,⟨some 23,.move (.tmp 2),9,none⟩),
 (0,⟨some 24,.call ⟨.builtin .len,#[(.tmp 23)],#[9]⟩,3,none⟩),
 (0,⟨some 25,.binOp .sub 3 (.const (.int .i64 256)) (.tmp 24) 3,3,none⟩),
 (1,⟨some 20,.load 163 (.tmp 19),163,none⟩),
 (2,⟨some 26,.makeSlice 181 (.tmp 25) (.tmp 25),181,none⟩),
 (2,⟨some 27,.convert 181 9 (.tmp 26),9,none⟩),
 (0,⟨some 28,.binOp .add 9 (.tmp 22) (.tmp 27) 9,9,none⟩),
 (3,⟨none,.mapUpdate 163 (.tmp 20) (.tmp 21) (.tmp 28),0,none⟩)]
theorem c132draw0{L:List Nat}{ρ:Env}{w:World}{Q:Post}(S:World→Prop)(hS:S w.drew)(h:DG Tryz.prog S c132D0 L ρ w.drew Q):drawW Tryz.prog (drawOps 0 c132code) L ρ w Q :=
 drawW_held [3] [(0,0),(0,1),(0,2),(0,4),(0,5),(0,6),(0,7),(0,8),(1,3),(2,9),(2,10),(0,11),(3,12)] c132D0 (by kernel_rfl) (by kernel_rfl) (by kernel_rfl) S hS h
theorem ent132(a0 a1 a2:Value)(w:World)(K:Value→World→Prop)(h:W Tryz.prog c132 [(0,a0),(1,a1),(2,a2)] w (finQ Tryz.prog [.tmp 6] K)):Ret Tryz.prog 132 [a0,a1,a2] w K :=
 Ret_of_W (code:=c132code) Tryz.func132 (by kernel_rfl) (by kernel_rfl) (of_decide_eq_true (by kernel_rfl)) h
@[go_sem] theorem go132:goFunc Tryz.prog 132=true:=by kernel_rfl
@[go_sem] theorem go141:goFunc Tryz.prog 141=true:=by kernel_rfl
@[go_sem] theorem go142:goFunc Tryz.prog 142=true:=by kernel_rfl
@[go_sem] theorem go143:goFunc Tryz.prog 143=true:=by kernel_rfl
@[go_sem] theorem go144:goFunc Tryz.prog 144=true:=by kernel_rfl
def c145code:Code:=match Tryz.f145.body with | some c=>c | none=>.skip
def c145S0(_:Unit):Cmd:=(.seq (.ops [
 ⟨some 17,.move (.tmp 0),96,none⟩,
 ⟨some 18,.nilCheck (.tmp 17),0,none⟩,
 ⟨some 19,.fieldAddr 206 (.tmp 18) 1,0,none⟩,
 ⟨some 20,.load 204 (.tmp 19),204,none⟩,
 ⟨some 21,.indexAddr 204 (.tmp 20) (.const (.int .i64 0)),0,none⟩,
 ⟨some 22,.fieldAddr 223 (.tmp 21) 1,0,none⟩,
 ⟨some 23,.load 9 (.tmp 22),9,none⟩,
 ⟨some 4,.assign (.tmp 23),9,none⟩,
 ⟨some 5,.assign (.const (.bool true)),4,none⟩] [4,5])
 .ret)
def c145S1(_:Unit):Cmd:=(.seq (.ops [
 ⟨some 14,.move (.tmp 0),96,none⟩,
 ⟨some 15,.move (.tmp 6),3,none⟩,
 ⟨some 16,.call ⟨.value (.func 183),#[(.tmp 14),(.tmp 15)],#[96,3]⟩,0,none⟩] [0]) (sg c145S0))
def c145S2(_:Unit):Cmd:=(.seq (.seq (.ops [
 ⟨some 11,.move (.tmp 6),3,none⟩,
 ⟨some 12,.binOp .lss 3 (.tmp 11) (.const (.int .i64 0)) 3,4,none⟩] [0,6,12])
 (.cond (.tmp 12)
 (.seq (.ops [
 ⟨some 7,.assign (.const (.string (ofL []))),9,none⟩] [7])
 (.seq (.ops [
 ⟨some 13,.move (.tmp 7),9,none⟩,
 ⟨some 4,.assign (.tmp 13),9,none⟩,
 ⟨some 5,.assign (.const (.bool false)),4,none⟩] [4,5])
 .ret))
 (.skip [0,6]))) (sg c145S1))
def c145:Cmd:=(.seq (.ops [
 ⟨some 4,.assign (.const (.string (ofL []))),9,none⟩,
 ⟨some 5,.assign (.const (.bool false)),4,none⟩] [0,1])
 (.seq (.ops [
 ⟨some 8,.move (.tmp 0),96,none⟩,
 ⟨some 9,.move (.tmp 1),3,none⟩,
 ⟨some 10,.call ⟨.value (.func 169),#[(.tmp 8),(.tmp 9)],#[96,3]⟩,3,none⟩,
 ⟨some 6,.assign (.tmp 10),3,none⟩] [0,6]) (sg c145S2)))
attribute [go_sem] c145 c145S0 c145S1 c145S2
theorem ent145(a0 a1:Value)(w:World)(K:Value→World→Prop)(h:W Tryz.prog c145 [(0,a0),(1,a1)] w (finQ Tryz.prog [.tmp 4,.tmp 5] K)):Ret Tryz.prog 145 [a0,a1] w K :=
 Ret_of_W (code:=c145code) Tryz.func145 (by kernel_rfl) (by kernel_rfl) (of_decide_eq_true (by kernel_rfl)) h
@[go_sem] theorem go145:goFunc Tryz.prog 145=true:=by kernel_rfl
def c146code:Code:=match Tryz.f146.body with | some c=>c | none=>.skip
def c146S0(_:Unit):Cmd:=(.seq (.ops [
 ⟨some 31,.move (.tmp 0),96,none⟩,
 ⟨some 32,.nilCheck (.tmp 31),0,none⟩,
 ⟨some 33,.fieldAddr 206 (.tmp 32) 1,0,none⟩,
 ⟨some 34,.load 204 (.tmp 33),204,none⟩,
 ⟨some 35,.move (.tmp 2),9,none⟩,
 ⟨some 36,.indexAddr 204 (.tmp 34) (.const (.int .i64 0)),0,none⟩,
 ⟨some 37,.fieldAddr 223 (.tmp 36) 1,0,none⟩,
 ⟨none,.store 9 (.tmp 37) (.tmp 35),0,none⟩] [9])
 (.seq (.ops [
 ⟨some 38,.move (.tmp 9),3,none⟩,
 ⟨some 6,.assign (.tmp 38),3,none⟩,
 ⟨some 7,.assign (.const (.bool false)),4,none⟩,
 ⟨some 8,.assign (.const (.int .i64 0)),30,none⟩] [6,7,8])
 .ret))
def c146S1(_:Unit):Cmd:=(.seq (.ops [
 ⟨some 26,.move (.tmp 10),3,none⟩,
 ⟨some 27,.binOp .geq 3 (.tmp 26) (.const (.int .i64 0)) 3,4,none⟩] [0,1,2,9,10,27])
 (.cond (.tmp 27)
 (.seq (.ops [
 ⟨some 28,.move (.tmp 0),96,none⟩,
 ⟨some 29,.move (.tmp 10),3,none⟩,
 ⟨some 30,.call ⟨.value (.func 183),#[(.tmp 28),(.tmp 29)],#[96,3]⟩,0,none⟩] [0,2,9]) (sg c146S0))
 (.skip [0,1,2,9])))
def c146S2(_:Unit):Cmd:=(.block 1 (.ops [
 ⟨some 68,.move (.tmp 12),3,none⟩,
 ⟨some 69,.binOp .sub 3 (.tmp 68) (.const (.int .i64 1)) 3,3,none⟩,
 ⟨some 12,.assign (.tmp 69),3,none⟩] [0,1,2,9,12]))
def c146L0(_:Unit):Cmd:=(.seq (.seq (.ops [
 ⟨some 55,.move (.tmp 12),3,none⟩,
 ⟨some 56,.binOp .geq 3 (.tmp 55) (.const (.int .i64 0)) 3,4,none⟩,
 ⟨some 57,.move (.tmp 56),4,none⟩,
 ⟨some 58,.move (.tmp 0),96,(some (57,true))⟩,
 ⟨some 59,.nilCheck (.tmp 58),0,(some (57,true))⟩,
 ⟨some 60,.fieldAddr 206 (.tmp 59) 1,0,(some (57,true))⟩,
 ⟨some 61,.load 204 (.tmp 60),204,(some (57,true))⟩,
 ⟨some 62,.move (.tmp 12),3,(some (57,true))⟩,
 ⟨some 63,.indexAddr 204 (.tmp 61) (.tmp 62),0,(some (57,true))⟩,
 ⟨some 64,.fieldAddr 223 (.tmp 63) 2,0,(some (57,true))⟩,
 ⟨some 65,.load 3 (.tmp 64),3,(some (57,true))⟩,
 ⟨some 66,.binOp .gtr 3 (.tmp 65) (.const (.int .i64 0)) 3,4,(some (57,true))⟩,
 ⟨some 67,.pick (.tmp 57) (.tmp 66) (.const (.bool false)),4,none⟩] [0,1,2,9,12,67])
 (.cond (.tmp 67)
 (.skip [0,1,2,9,12])
 (.exit 0 [0,1,2,9,12]))) (sg c146S2))
def c146S3(_:Unit):Cmd:=(.seq (.ops [
 ⟨some 73,.move (.tmp 0),96,none⟩,
 ⟨some 74,.nilCheck (.tmp 73),0,none⟩,
 ⟨some 75,.fieldAddr 206 (.tmp 74) 1,0,none⟩,
 ⟨some 76,.load 204 (.tmp 75),204,none⟩,
 ⟨some 77,.move (.tmp 12),3,none⟩,
 ⟨some 78,.indexAddr 204 (.tmp 76) (.tmp 77),0,none⟩,
 ⟨some 79,.fieldAddr 223 (.tmp 78) 0,0,none⟩,
 ⟨some 80,.load 3 (.tmp 79),3,none⟩,
 ⟨some 9,.assign (.tmp 80),3,none⟩,
 ⟨some 11,.assign (.const (.bool true)),4,none⟩] [0,1,2,9,11,12])
 (.ops [
 ⟨some 81,.move (.tmp 0),96,none⟩,
 ⟨some 82,.move (.tmp 0),96,none⟩,
 ⟨some 83,.nilCheck (.tmp 82),0,none⟩,
 ⟨some 84,.fieldAddr 206 (.tmp 83) 1,0,none⟩,
 ⟨some 85,.load 204 (.tmp 84),204,none⟩,
 ⟨some 86,.move (.tmp 12),3,none⟩,
 ⟨some 87,.move (.tmp 12),3,none⟩,
 ⟨some 88,.binOp .add 3 (.tmp 87) (.const (.int .i64 1)) 3,3,none⟩,
 ⟨some 89,.call ⟨.value (.func 170),#[(.tmp 85),(.tmp 86),(.tmp 88)],#[204,3,3]⟩,204,none⟩,
 ⟨some 90,.nilCheck (.tmp 81),0,none⟩,
 ⟨some 91,.fieldAddr 206 (.tmp 90) 1,0,none⟩,
 ⟨none,.store 204 (.tmp 91) (.tmp 89),0,none⟩] [0,1,2,9,11]))
def c146S4(_:Unit):Cmd:=(.seq (.seq (.ops [
 ⟨some 70,.move (.tmp 12),3,none⟩,
 ⟨some 71,.binOp .lss 3 (.tmp 70) (.const (.int .i64 0)) 3,4,none⟩] [0,1,2,9,12,71])
 (.cond (.tmp 71)
 (.seq (.ops [
 ⟨some 72,.move (.tmp 9),3,none⟩,
 ⟨some 6,.assign (.tmp 72),3,none⟩,
 ⟨some 7,.assign (.const (.bool false)),4,none⟩,
 ⟨some 8,.assign (.const (.int .i64 12)),30,none⟩] [6,7,8])
 .ret)
 (.skip [0,1,2,12]))) (sg c146S3))
def c146S5(_:Unit):Cmd:=(.cond (.tmp 48)
 (.seq (.ops [
 ⟨some 49,.move (.tmp 0),96,none⟩,
 ⟨some 50,.nilCheck (.tmp 49),0,none⟩,
 ⟨some 51,.fieldAddr 206 (.tmp 50) 1,0,none⟩,
 ⟨some 52,.load 204 (.tmp 51),204,none⟩,
 ⟨some 53,.call ⟨.builtin .len,#[(.tmp 52)],#[204]⟩,3,none⟩,
 ⟨some 54,.binOp .sub 3 (.tmp 53) (.const (.int .i64 1)) 3,3,none⟩,
 ⟨some 12,.assign (.tmp 54),3,none⟩] [0,1,2,9,12])
 (.seq (.block 0 (.loop (sg c146L0))) (sg c146S4)))
 (.skip [0,1,2,9,11]))
def c146S6(_:Unit):Cmd:=(.seq (.ops [
 ⟨some 104,.move (.tmp 9),3,none⟩,
 ⟨some 105,.move (.tmp 11),4,none⟩,
 ⟨some 6,.assign (.tmp 104),3,none⟩,
 ⟨some 7,.assign (.tmp 105),4,none⟩,
 ⟨some 8,.assign (.const (.int .i64 0)),30,none⟩] [6,7,8])
 .ret)
def c146S7(_:Unit):Cmd:=(.seq (.ops [
 ⟨some 92,.move (.tmp 0),96,none⟩,
 ⟨some 93,.move (.tmp 0),96,none⟩,
 ⟨some 94,.nilCheck (.tmp 93),0,none⟩,
 ⟨some 95,.fieldAddr 206 (.tmp 94) 1,0,none⟩,
 ⟨some 96,.load 204 (.tmp 95),204,none⟩,
 ⟨some 97,.move (.tmp 1),3,none⟩,
 ⟨some 98,.move (.tmp 2),9,none⟩,
 ⟨some 99,.build 223 #[(0,(.tmp 97)),(1,(.tmp 98))],223,none⟩,
 ⟨some 100,.buildSlice 204 1 #[(0,(.tmp 99))],204,none⟩,
 ⟨some 101,.call ⟨.value (.func 184),#[(.tmp 96),(.const (.int .i64 0)),(.tmp 100)],#[204,3,204]⟩,204,none⟩,
 ⟨some 102,.nilCheck (.tmp 92),0,none⟩,
 ⟨some 103,.fieldAddr 206 (.tmp 102) 1,0,none⟩,
 ⟨none,.store 204 (.tmp 103) (.tmp 101),0,none⟩] [9,11]) (sg c146S6))
def c146S8(_:Unit):Cmd:=(.seq (.ops [
 ⟨some 11,.assign (.const (.bool false)),4,none⟩] [0,1,2,9,11])
 (.seq (.seq (.draw (drawOps 0 c146code) [0,1,2,9,11,48]) (sg c146S5)) (sg c146S7)))
def c146S9(_:Unit):Cmd:=(.seq (.seq (.ops [
 ⟨some 23,.move (.tmp 0),96,none⟩,
 ⟨some 24,.move (.tmp 1),3,none⟩,
 ⟨some 25,.call ⟨.value (.func 169),#[(.tmp 23),(.tmp 24)],#[96,3]⟩,3,none⟩,
 ⟨some 10,.assign (.tmp 25),3,none⟩] [0,1,2,9,10]) (sg c146S1)) (sg c146S8))
def c146:Cmd:=(.seq (.ops [
 ⟨some 6,.assign (.const (.int .i64 0)),3,none⟩,
 ⟨some 7,.assign (.const (.bool false)),4,none⟩,
 ⟨some 8,.assign (.const (.int .i64 0)),30,none⟩] [0,1,2])
 (.seq (.ops [
 ⟨some 9,.assign (.const (.int .i64 0)),3,none⟩] [0,1,2,9])
 (.seq (.seq (.ops [
 ⟨some 13,.move (.tmp 0),96,none⟩,
 ⟨some 14,.binOp .eql 96 (.tmp 13) (.const (.pointer none)) 96,4,none⟩,
 ⟨some 15,.move (.tmp 14),4,none⟩,
 ⟨some 16,.move (.tmp 0),96,(some (15,false))⟩,
 ⟨some 17,.nilCheck (.tmp 16),0,(some (15,false))⟩,
 ⟨some 18,.fieldAddr 206 (.tmp 17) 0,0,(some (15,false))⟩,
 ⟨some 19,.load 3 (.tmp 18),3,(some (15,false))⟩,
 ⟨some 20,.binOp .eql 3 (.tmp 19) (.const (.int .i64 0)) 3,4,(some (15,false))⟩,
 ⟨some 21,.pick (.tmp 15) (.const (.bool true)) (.tmp 20),4,none⟩] [0,1,2,9,21])
 (.cond (.tmp 21)
 (.seq (.ops [
 ⟨some 22,.move (.tmp 9),3,none⟩,
 ⟨some 6,.assign (.tmp 22),3,none⟩,
 ⟨some 7,.assign (.const (.bool false)),4,none⟩,
 ⟨some 8,.assign (.const (.int .i64 3)),30,none⟩] [6,7,8])
 .ret)
 (.skip [0,1,2,9]))) (sg c146S9))))
attribute [go_sem] c146 c146S0 c146S1 c146S2 c146S3 c146S5 c146S6 c146S8 c146S9
def c146D0:List (Bool × Ins):=[
 (true,⟨some 39,.move (.tmp 0),96,none⟩),
 (true,⟨some 40,.nilCheck (.tmp 39),0,none⟩),
 (true,⟨some 41,.fieldAddr 206 (.tmp 40) 1,0,none⟩),
 (false,⟨some 42,.load 204 (.tmp 41),204,none⟩),
 (true,⟨some 43,.call ⟨.builtin .len,#[(.tmp 42)],#[204]⟩,3,none⟩),
 (true,⟨some 44,.move (.tmp 0),96,none⟩),
 (true,⟨some 45,.nilCheck (.tmp 44),0,none⟩),
 (true,⟨some 46,.fieldAddr 206 (.tmp 45) 0,0,none⟩),
 (false,⟨some 47,.load 3 (.tmp 46),3,none⟩),
 (true,⟨some 48,.binOp .geq 3 (.tmp 43) (.tmp 47) 3,4,none⟩)]
theorem c146draw0{L:List Nat}{ρ:Env}{w:World}{Q:Post}(h:DL Tryz.prog c146D0 L ρ w.drew Q):drawW Tryz.prog (drawOps 0 c146code) L ρ w Q :=
 drawW_still [true,true,true,false,true,true,true,true,false,true] c146D0 (by kernel_rfl) (by kernel_rfl) (by kernel_rfl) h
theorem ent146(a0 a1 a2:Value)(w:World)(K:Value→World→Prop)(h:W Tryz.prog c146 [(0,a0),(1,a1),(2,a2)] w (finQ Tryz.prog [.tmp 6,.tmp 7,.tmp 8] K)):Ret Tryz.prog 146 [a0,a1,a2] w K :=
 Ret_of_W (code:=c146code) Tryz.func146 (by kernel_rfl) (by kernel_rfl) (of_decide_eq_true (by kernel_rfl)) h
@[go_sem] theorem go146:goFunc Tryz.prog 146=true:=by kernel_rfl
@[go_sem] theorem go147:goFunc Tryz.prog 147=true:=by kernel_rfl
@[go_sem] theorem go148:goFunc Tryz.prog 148=true:=by kernel_rfl
@[go_sem] theorem go149:goFunc Tryz.prog 149=true:=by kernel_rfl
def c150code:Code:=match Tryz.f150.body with | some c=>c | none=>.skip
def c150S0(_:Unit):Cmd:=(.seq (.ops [
 ⟨some 4,.assign (.const (.int .i64 0)),30,none⟩] [4])
 .ret)
def c150:Cmd:=(.seq (.ops [
 ⟨some 4,.assign (.const (.int .i64 0)),30,none⟩] [0,1])
 (.seq (.block 0 (.seq (.ops [
 ⟨some 6,.move (.tmp 0),23,none⟩,
 ⟨some 7,.binOp .eql 23 (.tmp 6) (.const (.pointer none)) 23,4,none⟩,
 ⟨some 8,.move (.tmp 7),4,none⟩,
 ⟨some 9,.move (.tmp 0),23,(some (8,false))⟩,
 ⟨some 10,.nilCheck (.tmp 9),0,(some (8,false))⟩,
 ⟨some 11,.fieldAddr 157 (.tmp 10) 0,0,(some (8,false))⟩,
 ⟨some 12,.load 22 (.tmp 11),22,(some (8,false))⟩,
 ⟨some 13,.binOp .eql 22 (.tmp 12) (.const (.slice none 0 0)) 22,4,(some (8,false))⟩,
 ⟨some 14,.pick (.tmp 8) (.const (.bool true)) (.tmp 13),4,none⟩,
 ⟨some 5,.assign (.tmp 14),4,none⟩] [0,1,5])
 (.cond (.tmp 5)
 (.seq (.ops [
 ⟨some 4,.assign (.const (.int .i64 3)),30,none⟩] [4])
 .ret)
 (.seq (.ops [
 ⟨some 16,.move (.tmp 0),23,none⟩,
 ⟨some 17,.nilCheck (.tmp 16),0,none⟩,
 ⟨some 18,.fieldAddr 157 (.tmp 17) 3,0,none⟩,
 ⟨some 19,.load 4 (.tmp 18),4,none⟩,
 ⟨some 15,.assign (.tmp 19),4,none⟩] [0,1,15])
 (.cond (.tmp 15)
 (.seq (.ops [
 ⟨some 4,.assign (.const (.int .i64 11)),30,none⟩] [4])
 .ret)
 (.seq (.ops [
 ⟨some 21,.move (.tmp 1),3,none⟩,
 ⟨some 22,.binOp .lss 3 (.tmp 21) (.const (.int .i64 0)) 3,4,none⟩,
 ⟨some 23,.move (.tmp 22),4,none⟩,
 ⟨some 24,.move (.tmp 1),3,(some (23,false))⟩,
 ⟨some 25,.move (.tmp 0),23,(some (23,false))⟩,
 ⟨some 26,.nilCheck (.tmp 25),0,(some (23,false))⟩,
 ⟨some 27,.fieldAddr 157 (.tmp 26) 0,0,(some (23,false))⟩,
 ⟨some 28,.load 22 (.tmp 27),22,(some (23,false))⟩,
 ⟨some 29,.call ⟨.builtin .len,#[(.tmp 28)],#[22]⟩,3,(some (23,false))⟩,
 ⟨some 30,.binOp .geq 3 (.tmp 24) (.tmp 29) 3,4,(some (23,false))⟩,
 ⟨some 31,.pick (.tmp 23) (.const (.bool true)) (.tmp 30),4,none⟩,
 ⟨some 20,.assign (.tmp 31),4,none⟩] [20])
 (.cond (.tmp 20)
 (.seq (.ops [
 ⟨some 4,.assign (.const (.int .i64 10)),30,none⟩] [4])
 .ret)
 (.skip [])))))))) (sg c150S0)))
attribute [go_sem] c150 c150S0
theorem ent150(a0 a1:Value)(w:World)(K:Value→World→Prop)(h:W Tryz.prog c150 [(0,a0),(1,a1)] w (finQ Tryz.prog [.tmp 4] K)):Ret Tryz.prog 150 [a0,a1] w K :=
 Ret_of_W (code:=c150code) Tryz.func150 (by kernel_rfl) (by kernel_rfl) (of_decide_eq_true (by kernel_rfl)) h
@[go_sem] theorem go150:goFunc Tryz.prog 150=true:=by kernel_rfl
def c151code:Code:=match Tryz.f151.body with | some c=>c | none=>.skip
def c151S0(_:Unit):Cmd:=(.seq (.ops [
 ⟨some 2,.assign (.const (.int .i64 0)),30,none⟩] [2])
 .ret)
def c151S1(_:Unit):Cmd:=(.seq (.seq (.ops [
 ⟨some 11,.move (.tmp 0),23,none⟩,
 ⟨some 12,.nilCheck (.tmp 11),0,none⟩,
 ⟨some 13,.fieldAddr 157 (.tmp 12) 2,0,none⟩,
 ⟨some 14,.load 3 (.tmp 13),3,none⟩,
 ⟨some 15,.binOp .gtr 3 (.tmp 14) (.const (.int .i64 0)) 3,4,none⟩] [0,15])
 (.cond (.tmp 15)
 (.ops [
 ⟨some 16,.move (.tmp 0),23,none⟩,
 ⟨some 17,.nilCheck (.tmp 16),0,none⟩,
 ⟨some 18,.fieldAddr 157 (.tmp 17) 2,0,none⟩,
 ⟨some 19,.load 3 (.tmp 18),3,none⟩,
 ⟨some 20,.binOp .sub 3 (.tmp 19) (.const (.int .i64 1)) 3,3,none⟩,
 ⟨some 21,.nilCheck (.tmp 16),0,none⟩,
 ⟨some 22,.fieldAddr 157 (.tmp 21) 2,0,none⟩,
 ⟨none,.store 3 (.tmp 22) (.tmp 20),0,none⟩] [])
 (.skip []))) (sg c151S0))
def c151:Cmd:=(.seq (.ops [
 ⟨some 2,.assign (.const (.int .i64 0)),30,none⟩] [0])
 (.seq (.seq (.ops [
 ⟨some 3,.move (.tmp 0),23,none⟩,
 ⟨some 4,.nilCheck (.tmp 3),0,none⟩,
 ⟨some 5,.fieldAddr 157 (.tmp 4) 2,0,none⟩,
 ⟨some 6,.load 3 (.tmp 5),3,none⟩,
 ⟨some 7,.binOp .eql 3 (.tmp 6) (.const (.int .i64 0)) 3,4,none⟩] [0,7])
 (.cond (.tmp 7)
 (.seq (.ops [
 ⟨some 8,.move (.tmp 0),23,none⟩,
 ⟨some 9,.nilCheck (.tmp 8),0,none⟩,
 ⟨some 10,.fieldAddr 157 (.tmp 9) 3,0,none⟩,
 ⟨none,.store 4 (.tmp 10) (.const (.bool true)),0,none⟩] [])
 (.seq (.ops [
 ⟨some 2,.assign (.const (.int .i64 11)),30,none⟩] [2])
 .ret))
 (.skip [0]))) (sg c151S1)))
attribute [go_sem] c151 c151S0 c151S1
theorem ent151(a0:Value)(w:World)(K:Value→World→Prop)(h:W Tryz.prog c151 [(0,a0)] w (finQ Tryz.prog [.tmp 2] K)):Ret Tryz.prog 151 [a0] w K :=
 Ret_of_W (code:=c151code) Tryz.func151 (by kernel_rfl) (by kernel_rfl) (of_decide_eq_true (by kernel_rfl)) h
@[go_sem] theorem go151:goFunc Tryz.prog 151=true:=by kernel_rfl
def c152code:Code:=match Tryz.f152.body with | some c=>c | none=>.skip
def c152S0(_:Unit):Cmd:=.ret
def c152S1(_:Unit):Cmd:=(.seq (.ops [
 ⟨some 22,.move (.tmp 3),9,none⟩,
 ⟨some 23,.move (.tmp 3),9,none⟩,
 ⟨some 24,.call ⟨.value (.func 185),#[(.tmp 23)],#[9]⟩,9,none⟩,
 ⟨some 25,.binOp .add 9 (.tmp 22) (.tmp 24) 9,9,none⟩,
 ⟨some 2,.assign (.tmp 25),9,none⟩] [2]) (sg c152S0))
def c152:Cmd:=(.seq (.ops [
 ⟨some 1,.box 160 (.tmp 0),0,none⟩,
 ⟨some 2,.assign (.const (.string (ofL []))),9,none⟩] [1])
 (.seq (.draw (drawOps 0 c152code) [3]) (sg c152S1)))
attribute [go_sem] c152 c152S0 c152S1
def c152D0:List (Nat × Ins):=[
 (0,⟨some 4,.fieldAddr 160 (.tmp 1) 0,0,none⟩),
 (0,⟨some 7,.fieldAddr 160 (.tmp 1) 1,0,none⟩),
 (0,⟨some 12,.fieldAddr 160 (.tmp 1) 2,0,none⟩),
 (0,⟨some 17,.fieldAddr 160 (.tmp 1) 3,0,none⟩),
 (1,⟨some 5,.load 147 (.tmp 4),147,none⟩),
 (1,⟨some 8,.load 3 (.tmp 7),3,none⟩),
 (0,⟨some 9,.convert 3 147 (.tmp 8),147,none⟩),
 (1,⟨some 13,.load 3 (.tmp 12),3,none⟩),
 (0,⟨some 14,.convert 3 147 (.tmp 13),147,none⟩),
 (1,⟨some 18,.load 3 (.tmp 17),3,none⟩),
 (0,⟨some 19,.convert 3 147 (.tmp 18),147,none⟩),
 (2,⟨some 6,.call ⟨.value (.func 118),#[(.tmp 5),(.const (.int .i64 8))],#[147,3]⟩,9,none⟩),
 (2,⟨some 10,.call ⟨.value (.func 118),#[(.tmp 9),(.const (.int .i64 4))],#[147,3]⟩,9,none⟩),
 (0,⟨some 11,.binOp .add 9 (.tmp 6) (.tmp 10) 9,9,none⟩),
 (2,⟨some 15,.call ⟨.value (.func 118),#[(.tmp 14),(.const (.int .i64 4))],#[147,3]⟩,9,none⟩),
 (0,⟨some 16,.binOp .add 9 (.tmp 11) (.tmp 15) 9,9,none⟩),
 (2,⟨some 20,.call ⟨.value (.func 118),#[(.tmp 19),(.const (.int .i64 4))],#[147,3]⟩,9,none⟩),
 (0,⟨some 21,.binOp .add 9 (.tmp 16) (.tmp 20) 9,9,none⟩),
 (0,⟨some 3,.assign (.tmp 21),9,none⟩)]
theorem c152draw0{L:List Nat}{ρ:Env}{w:World}{Q:Post}(S:World→Prop)(hS:S w.drew)(h:DG Tryz.prog S c152D0 L ρ w.drew Q):drawW Tryz.prog (drawOps 0 c152code) L ρ w Q :=
 drawW_held [1,4,9,14] [(0,0),(0,3),(0,8),(0,13),(1,1),(1,4),(0,5),(1,9),(0,10),(1,14),(0,15),(2,2),(2,6),(0,7),(2,11),(0,12),(2,16),(0,17),(0,18)] c152D0 (by kernel_rfl) (by kernel_rfl) (by kernel_rfl) S hS h
theorem ent152(a0:Value)(w:World)(K:Value→World→Prop)(h:W Tryz.prog c152 [(0,a0)] w (finQ Tryz.prog [.tmp 2] K)):Ret Tryz.prog 152 [a0] w K :=
 Ret_of_W (code:=c152code) Tryz.func152 (by kernel_rfl) (by kernel_rfl) (of_decide_eq_true (by kernel_rfl)) h
@[go_sem] theorem go152:goFunc Tryz.prog 152=true:=by kernel_rfl
def c153code:Code:=match Tryz.f153.body with | some c=>c | none=>.skip
def c153S0(_:Unit):Cmd:=(.ops [
 ⟨some 32,.binOp .add 3 (.tmp 19) (.const (.int .i64 1)) 3,3,none⟩,
 ⟨some 19,.move (.tmp 32),3,none⟩] [0,3,17,18,19])
def c153S1(_:Unit):Cmd:=(.seq (.block 1 (.seq (.ops [
 ⟨some 21,.indexAddr 155 (.tmp 17) (.tmp 19),0,none⟩,
 ⟨some 22,.load 199 (.tmp 21),199,none⟩,
 ⟨some 5,.alloc 199,0,none⟩,
 ⟨none,.store 199 (.tmp 5) (.tmp 22),0,none⟩] [0,3,5,17,18,19])
 (.draw (drawOps 0 c153code) [0,3,17,18,19]))) (sg c153S0))
def c153L0(_:Unit):Cmd:=(.seq (.ops [
 ⟨some 20,.binOp .lss 3 (.tmp 19) (.tmp 18) 3,0,none⟩] [0,3,17,18,19,20])
 (.seq (.cond (.tmp 20)
 (.skip [0,3,17,18,19])
 (.exit 0 [0,3])) (sg c153S1)))
def c153S2(_:Unit):Cmd:=(.ops [
 ⟨some 33,.move (.tmp 0),23,none⟩,
 ⟨some 34,.nilCheck (.tmp 33),0,none⟩,
 ⟨some 35,.fieldAddr 157 (.tmp 34) 1,0,none⟩,
 ⟨none,.store 155 (.tmp 35) (.const (.slice none 0 0)),0,none⟩] [3])
def c153S3(_:Unit):Cmd:=(.seq (.ops [
 ⟨some 36,.move (.tmp 3),30,none⟩,
 ⟨some 2,.assign (.tmp 36),30,none⟩] [2])
 .ret)
def c153S4(_:Unit):Cmd:=(.seq (.seq (.ops [
 ⟨some 12,.move (.tmp 3),30,none⟩,
 ⟨some 13,.binOp .eql 30 (.tmp 12) (.const (.int .i64 0)) 30,4,none⟩] [0,3,13])
 (.cond (.tmp 13)
 (.seq (.seq (.ops [
 ⟨some 14,.move (.tmp 0),23,none⟩,
 ⟨some 15,.nilCheck (.tmp 14),0,none⟩,
 ⟨some 16,.fieldAddr 157 (.tmp 15) 1,0,none⟩,
 ⟨some 17,.load 155 (.tmp 16),155,none⟩,
 ⟨some 18,.call ⟨.builtin .len,#[(.tmp 17)],#[155]⟩,3,none⟩,
 ⟨some 19,.move (.const (.int .i64 0)),3,none⟩] [0,3,17,18,19])
 (.block 0 (.loop (sg c153L0)))) (sg c153S2))
 (.skip [3]))) (sg c153S3))
def c153S5(_:Unit):Cmd:=(.seq (.seq (.ops [
 ⟨some 8,.move (.tmp 3),30,none⟩,
 ⟨some 9,.binOp .eql 30 (.tmp 8) (.const (.int .i64 0)) 30,4,none⟩] [0,3,9])
 (.cond (.tmp 9)
 (.ops [
 ⟨some 10,.move (.tmp 0),23,none⟩,
 ⟨some 11,.call ⟨.value (.func 151),#[(.tmp 10)],#[23]⟩,30,none⟩,
 ⟨some 3,.assign (.tmp 11),30,none⟩] [0,3])
 (.skip [0,3]))) (sg c153S4))
def c153:Cmd:=(.seq (.ops [
 ⟨some 2,.assign (.const (.int .i64 0)),30,none⟩] [0])
 (.seq (.ops [
 ⟨some 6,.move (.tmp 0),23,none⟩,
 ⟨some 7,.call ⟨.value (.func 150),#[(.tmp 6),(.const (.int .i64 0))],#[23,3]⟩,30,none⟩,
 ⟨some 3,.assign (.tmp 7),30,none⟩] [0,3]) (sg c153S5)))
attribute [go_sem] c153 c153S0 c153S1 c153S2 c153S3 c153S4 c153S5
def c153D0:List (Nat × Ins):=[
 (0,⟨some 23,.move (.tmp 0),23,none⟩),
 (0,⟨some 24,.nilCheck (.tmp 23),0,none⟩),
 (0,⟨some 25,.fieldAddr 157 (.tmp 24) 0,0,none⟩),
 (0,⟨some 27,.fieldAddr 199 (.tmp 5) 0,0,none⟩),
 (0,⟨some 29,.fieldAddr 199 (.tmp 5) 1,0,none⟩),
 (1,⟨some 26,.load 22 (.tmp 25),22,none⟩),
 (1,⟨some 28,.load 3 (.tmp 27),3,none⟩),
 (2,⟨some 30,.load 9 (.tmp 29),9,none⟩),
 (0,⟨some 31,.indexAddr 22 (.tmp 26) (.tmp 28),0,none⟩),
 (3,⟨none,.store 9 (.tmp 31) (.tmp 30),0,none⟩)]
theorem c153draw0{L:List Nat}{ρ:Env}{w:World}{Q:Post}(S:World→Prop)(hS:S w.drew)(h:DG Tryz.prog S c153D0 L ρ w.drew Q):drawW Tryz.prog (drawOps 0 c153code) L ρ w Q :=
 drawW_held [3,5] [(0,0),(0,1),(0,2),(0,4),(0,6),(1,3),(1,5),(2,7),(0,8),(3,9)] c153D0 (by kernel_rfl) (by kernel_rfl) (by kernel_rfl) S hS h
theorem ent153(a0:Value)(w:World)(K:Value→World→Prop)(h:W Tryz.prog c153 [(0,a0)] w (finQ Tryz.prog [.tmp 2] K)):Ret Tryz.prog 153 [a0] w K :=
 Ret_of_W (code:=c153code) Tryz.func153 (by kernel_rfl) (by kernel_rfl) (of_decide_eq_true (by kernel_rfl)) h
@[go_sem] theorem go153:goFunc Tryz.prog 153=true:=by kernel_rfl
def c154code:Code:=match Tryz.f154.body with | some c=>c | none=>.skip
def c154S0(_:Unit):Cmd:=(.cond (.tmp 15)
 (.seq (.ops [
 ⟨some 16,.build 160 #[],160,none⟩,
 ⟨none,.store 160 (.tmp 2) (.tmp 16),0,none⟩,
 ⟨some 3,.assign (.const (.bool false)),4,none⟩] [2,3])
 .ret)
 (.skip [1,2]))
def c154S1(_:Unit):Cmd:=.ret
def c154S2(_:Unit):Cmd:=(.seq (.ops [
 ⟨some 17,.makeFunc (.func 186) #[] #[(.tmp 1)],173,none⟩,
 ⟨some 4,.assign (.tmp 17),173,none⟩] [1,2,4])
 (.seq (.ops [
 ⟨some 18,.load 9 (.tmp 1),9,none⟩,
 ⟨some 19,.slice 9 (.tmp 18) none (some (.const (.int .i64 8))) none,9,none⟩,
 ⟨some 20,.call ⟨.value (.func 98),#[(.tmp 19)],#[9]⟩,147,none⟩,
 ⟨some 21,.move (.tmp 4),173,none⟩,
 ⟨some 22,.call ⟨.value (.tmp 21),#[(.const (.int .i64 8))],#[3]⟩,3,none⟩,
 ⟨some 23,.move (.tmp 4),173,none⟩,
 ⟨some 24,.call ⟨.value (.tmp 23),#[(.const (.int .i64 12))],#[3]⟩,3,none⟩,
 ⟨some 25,.move (.tmp 4),173,none⟩,
 ⟨some 26,.call ⟨.value (.tmp 25),#[(.const (.int .i64 16))],#[3]⟩,3,none⟩,
 ⟨some 27,.build 160 #[(0,(.tmp 20)),(1,(.tmp 22)),(2,(.tmp 24)),(3,(.tmp 26))],160,none⟩,
 ⟨none,.store 160 (.tmp 2) (.tmp 27),0,none⟩,
 ⟨some 3,.assign (.const (.bool true)),4,none⟩] [2,3]) (sg c154S1)))
def c154:Cmd:=(.seq (.ops [
 ⟨some 1,.box 9 (.tmp 0),0,none⟩,
 ⟨some 2,.alloc 160,0,none⟩,
 ⟨some 3,.assign (.const (.bool false)),4,none⟩] [1,2])
 (.seq (.seq (.draw (drawOps 0 c154code) [1,2,15]) (sg c154S0)) (sg c154S2)))
attribute [go_sem] c154 c154S0 c154S1 c154S2
def c154D0:List (Nat × Ins):=[
 (2,⟨some 5,.load 9 (.tmp 1),9,none⟩),
 (0,⟨some 6,.call ⟨.builtin .len,#[(.tmp 5)],#[9]⟩,3,none⟩),
 (0,⟨some 7,.binOp .lss 3 (.tmp 6) (.const (.int .i64 40)) 3,4,none⟩),
 (0,⟨some 8,.move (.tmp 7),4,none⟩),
 (1,⟨some 9,.load 9 (.tmp 1),9,(some (8,false))⟩),
 (0,⟨some 10,.slice 9 (.tmp 9) none (some (.const (.int .i64 20))) none,9,(some (8,false))⟩),
 (1,⟨some 12,.load 9 (.tmp 1),9,(some (8,false))⟩),
 (0,⟨some 13,.slice 9 (.tmp 12) (some (.const (.int .i64 20))) (some (.const (.int .i64 40))) none,9,(some (8,false))⟩),
 (2,⟨some 11,.call ⟨.value (.func 185),#[(.tmp 10)],#[9]⟩,9,(some (8,false))⟩),
 (0,⟨some 14,.binOp .neq 9 (.tmp 11) (.tmp 13) 9,4,(some (8,false))⟩),
 (0,⟨some 15,.pick (.tmp 8) (.const (.bool true)) (.tmp 14),4,none⟩)]
theorem c154draw0{L:List Nat}{ρ:Env}{w:World}{Q:Post}(S:World→Prop)(hS:S w.drew)(h:DG Tryz.prog S c154D0 L ρ w.drew Q):drawW Tryz.prog (drawOps 0 c154code) L ρ w Q :=
 drawW_held [4,7] [(2,0),(0,1),(0,2),(0,3),(1,4),(0,5),(1,7),(0,8),(2,6),(0,9),(0,10)] c154D0 (by kernel_rfl) (by kernel_rfl) (by kernel_rfl) S hS h
theorem ent154(a0:Value)(w:World)(K:Value→World→Prop)(h:W Tryz.prog c154 [(0,a0)] w (finQ Tryz.prog [.cell 2 160,.tmp 3] K)):Ret Tryz.prog 154 [a0] w K :=
 Ret_of_W (code:=c154code) Tryz.func154 (by kernel_rfl) (by kernel_rfl) (of_decide_eq_true (by kernel_rfl)) h
@[go_sem] theorem go154:goFunc Tryz.prog 154=true:=by kernel_rfl
@[go_sem] theorem go155:goFunc Tryz.prog 155=true:=by kernel_rfl
@[go_sem] theorem go156:goFunc Tryz.prog 156=true:=by kernel_rfl
@[go_sem] theorem go157:goFunc Tryz.prog 157=true:=by kernel_rfl
@[go_sem] theorem go158:goFunc Tryz.prog 158=true:=by kernel_rfl
def c159code:Code:=match Tryz.f159.body with | some c=>c | none=>.skip
def c159S0(_:Unit):Cmd:=(.seq (.ops [
 ⟨some 4,.assign (.const (.int .i64 0)),30,none⟩] [4])
 .ret)
def c159:Cmd:=(.seq (.ops [
 ⟨some 4,.assign (.const (.int .i64 0)),30,none⟩] [0,1])
 (.seq (.block 0 (.seq (.ops [
 ⟨some 6,.move (.tmp 0),88,none⟩,
 ⟨some 7,.binOp .eql 88 (.tmp 6) (.const (.pointer none)) 88,4,none⟩,
 ⟨some 8,.move (.tmp 7),4,none⟩,
 ⟨some 9,.move (.tmp 0),88,(some (8,false))⟩,
 ⟨some 10,.nilCheck (.tmp 9),0,(some (8,false))⟩,
 ⟨some 11,.fieldAddr 165 (.tmp 10) 0,0,(some (8,false))⟩,
 ⟨some 12,.load 23 (.tmp 11),23,(some (8,false))⟩,
 ⟨some 13,.binOp .eql 23 (.tmp 12) (.const (.pointer none)) 23,4,(some (8,false))⟩,
 ⟨some 14,.pick (.tmp 8) (.const (.bool true)) (.tmp 13),4,none⟩,
 ⟨some 5,.assign (.tmp 14),4,none⟩] [0,1,5])
 (.cond (.tmp 5)
 (.seq (.ops [
 ⟨some 4,.assign (.const (.int .i64 3)),30,none⟩] [4])
 .ret)
 (.seq (.ops [
 ⟨some 16,.move (.tmp 0),88,none⟩,
 ⟨some 17,.nilCheck (.tmp 16),0,none⟩,
 ⟨some 18,.fieldAddr 165 (.tmp 17) 3,0,none⟩,
 ⟨some 19,.load 4 (.tmp 18),4,none⟩,
 ⟨some 15,.assign (.tmp 19),4,none⟩] [0,1,15])
 (.cond (.tmp 15)
 (.seq (.ops [
 ⟨some 4,.assign (.const (.int .i64 11)),30,none⟩] [4])
 .ret)
 (.seq (.ops [
 ⟨some 21,.move (.tmp 1),3,none⟩,
 ⟨some 22,.binOp .lss 3 (.tmp 21) (.const (.int .i64 0)) 3,4,none⟩,
 ⟨some 23,.move (.tmp 22),4,none⟩,
 ⟨some 24,.move (.tmp 1),3,(some (23,false))⟩,
 ⟨some 25,.move (.tmp 0),88,(some (23,false))⟩,
 ⟨some 26,.nilCheck (.tmp 25),0,(some (23,false))⟩,
 ⟨some 27,.fieldAddr 165 (.tmp 26) 1,0,(some (23,false))⟩,
 ⟨some 28,.fieldAddr 160 (.tmp 27) 3,0,(some (23,false))⟩,
 ⟨some 29,.load 3 (.tmp 28),3,(some (23,false))⟩,
 ⟨some 30,.binOp .geq 3 (.tmp 24) (.tmp 29) 3,4,(some (23,false))⟩,
 ⟨some 31,.pick (.tmp 23) (.const (.bool true)) (.tmp 30),4,none⟩,
 ⟨some 20,.assign (.tmp 31),4,none⟩] [20])
 (.cond (.tmp 20)
 (.seq (.ops [
 ⟨some 4,.assign (.const (.int .i64 10)),30,none⟩] [4])
 .ret)
 (.skip [])))))))) (sg c159S0)))
attribute [go_sem] c159 c159S0
theorem ent159(a0 a1:Value)(w:World)(K:Value→World→Prop)(h:W Tryz.prog c159 [(0,a0),(1,a1)] w (finQ Tryz.prog [.tmp 4] K)):Ret Tryz.prog 159 [a0,a1] w K :=
 Ret_of_W (code:=c159code) Tryz.func159 (by kernel_rfl) (by kernel_rfl) (of_decide_eq_true (by kernel_rfl)) h
@[go_sem] theorem go159:goFunc Tryz.prog 159=true:=by kernel_rfl
def c161code:Code:=match Tryz.f161.body with | some c=>c | none=>.skip
def c161S0(_:Unit):Cmd:=(.seq (.ops [
 ⟨some 17,.move (.tmp 1),9,none⟩,
 ⟨some 18,.call ⟨.builtin .len,#[(.tmp 17)],#[9]⟩,3,none⟩,
 ⟨some 4,.assign (.tmp 18),3,none⟩,
 ⟨some 5,.assign (.const .nilIface),211,none⟩] [4,5])
 .ret)
def c161S1(_:Unit):Cmd:=(.seq (.ops [
 ⟨some 8,.move (.tmp 0),207,none⟩,
 ⟨some 9,.move (.tmp 0),207,none⟩,
 ⟨some 10,.nilCheck (.tmp 9),0,none⟩,
 ⟨some 11,.fieldAddr 209 (.tmp 10) 1,0,none⟩,
 ⟨some 12,.load 181 (.tmp 11),181,none⟩,
 ⟨some 13,.move (.tmp 1),9,none⟩,
 ⟨some 14,.call ⟨.builtin .append,#[(.tmp 12),(.tmp 13)],#[181,9]⟩,181,none⟩,
 ⟨some 15,.nilCheck (.tmp 8),0,none⟩,
 ⟨some 16,.fieldAddr 209 (.tmp 15) 1,0,none⟩,
 ⟨none,.store 181 (.tmp 16) (.tmp 14),0,none⟩] [1]) (sg c161S0))
def c161:Cmd:=(.seq (.ops [
 ⟨some 4,.assign (.const (.int .i64 0)),3,none⟩,
 ⟨some 5,.assign (.const .nilIface),211,none⟩] [0,1])
 (.seq (.ops [
 ⟨some 6,.move (.tmp 0),207,none⟩,
 ⟨some 7,.call ⟨.value (.func 188),#[(.tmp 6)],#[207]⟩,0,none⟩] [0,1]) (sg c161S1)))
attribute [go_sem] c161 c161S0 c161S1
theorem ent161(a0 a1:Value)(w:World)(K:Value→World→Prop)(h:W Tryz.prog c161 [(0,a0),(1,a1)] w (finQ Tryz.prog [.tmp 4,.tmp 5] K)):Ret Tryz.prog 161 [a0,a1] w K :=
 Ret_of_W (code:=c161code) Tryz.func161 (by kernel_rfl) (by kernel_rfl) (of_decide_eq_true (by kernel_rfl)) h
@[go_sem] theorem go161:goFunc Tryz.prog 161=true:=by kernel_rfl
def c162code:Code:=match Tryz.f162.body with | some c=>c | none=>.skip
def c162S0(_:Unit):Cmd:=.ret
def c162:Cmd:=(.seq (.ops [
 ⟨some 2,.assign (.const (.string (ofL []))),9,none⟩] [0])
 (.seq (.draw (drawOps 0 c162code) [2]) (sg c162S0)))
attribute [go_sem] c162 c162S0
def c162D0:List (Nat × Ins):=[
 (0,⟨some 3,.move (.tmp 0),207,none⟩),
 (0,⟨some 4,.nilCheck (.tmp 3),0,none⟩),
 (0,⟨some 5,.fieldAddr 209 (.tmp 4) 1,0,none⟩),
 (0,⟨some 8,.move (.tmp 0),207,none⟩),
 (0,⟨some 9,.nilCheck (.tmp 8),0,none⟩),
 (0,⟨some 10,.fieldAddr 209 (.tmp 9) 1,0,none⟩),
 (1,⟨some 6,.load 181 (.tmp 5),181,none⟩),
 (1,⟨some 11,.load 181 (.tmp 10),181,none⟩),
 (0,⟨some 12,.call ⟨.builtin .len,#[(.tmp 11)],#[181]⟩,3,none⟩),
 (2,⟨some 7,.call ⟨.builtin .unsafeSliceData,#[(.tmp 6)],#[181]⟩,236,none⟩),
 (2,⟨some 13,.call ⟨.builtin .unsafeString,#[(.tmp 7),(.tmp 12)],#[236,3]⟩,9,none⟩),
 (0,⟨some 2,.assign (.tmp 13),9,none⟩)]
theorem c162draw0{L:List Nat}{ρ:Env}{w:World}{Q:Post}(S:World→Prop)(hS:S w.drew)(h:DG Tryz.prog S c162D0 L ρ w.drew Q):drawW Tryz.prog (drawOps 0 c162code) L ρ w Q :=
 drawW_held [3,8] [(0,0),(0,1),(0,2),(0,5),(0,6),(0,7),(1,3),(1,8),(0,9),(2,4),(2,10),(0,11)] c162D0 (by kernel_rfl) (by kernel_rfl) (by kernel_rfl) S hS h
theorem ent162(a0:Value)(w:World)(K:Value→World→Prop)(h:W Tryz.prog c162 [(0,a0)] w (finQ Tryz.prog [.tmp 2] K)):Ret Tryz.prog 162 [a0] w K :=
 Ret_of_W (code:=c162code) Tryz.func162 (by kernel_rfl) (by kernel_rfl) (of_decide_eq_true (by kernel_rfl)) h
@[go_sem] theorem go162:goFunc Tryz.prog 162=true:=by kernel_rfl
def c169code:Code:=match Tryz.f169.body with | some c=>c | none=>.skip
def c169S0(_:Unit):Cmd:=.ret
def c169S1(_:Unit):Cmd:=(.seq (.ops [
 ⟨some 7,.move (.tmp 0),96,none⟩,
 ⟨some 8,.nilCheck (.tmp 7),0,none⟩,
 ⟨some 9,.fieldAddr 206 (.tmp 8) 1,0,none⟩,
 ⟨some 10,.load 204 (.tmp 9),204,none⟩,
 ⟨some 11,.makeFunc (.func 192) #[] #[(.tmp 3)],238,none⟩,
 ⟨some 12,.call ⟨.value (.func 191),#[(.tmp 10),(.tmp 11)],#[204,238]⟩,3,none⟩,
 ⟨some 4,.assign (.tmp 12),3,none⟩] [4]) (sg c169S0))
def c169:Cmd:=(.seq (.ops [
 ⟨some 3,.box 3 (.tmp 1),0,none⟩,
 ⟨some 4,.assign (.const (.int .i64 0)),3,none⟩] [0,3])
 (.seq (.seq (.ops [
 ⟨some 5,.move (.tmp 0),96,none⟩,
 ⟨some 6,.binOp .eql 96 (.tmp 5) (.const (.pointer none)) 96,4,none⟩] [0,3,6])
 (.cond (.tmp 6)
 (.seq (.ops [
 ⟨some 4,.assign (.const (.int .i64 (-1))),3,none⟩] [4])
 .ret)
 (.skip [0,3]))) (sg c169S1)))
attribute [go_sem] c169 c169S0 c169S1
theorem ent169(a0 a1:Value)(w:World)(K:Value→World→Prop)(h:W Tryz.prog c169 [(0,a0),(1,a1)] w (finQ Tryz.prog [.tmp 4] K)):Ret Tryz.prog 169 [a0,a1] w K :=
 Ret_of_W (code:=c169code) Tryz.func169 (by kernel_rfl) (by kernel_rfl) (of_decide_eq_true (by kernel_rfl)) h
@[go_sem] theorem go169:goFunc Tryz.prog 169=true:=by kernel_rfl
def c170code:Code:=match Tryz.f170.body with | some c=>c | none=>.skip
def c170S0(_:Unit):Cmd:=(.seq (.ops [
 ⟨some 32,.move (.tmp 0),204,none⟩,
 ⟨some 6,.assign (.tmp 32),204,none⟩] [6])
 .ret)
def c170S1(_:Unit):Cmd:=(.seq (.ops [
 ⟨some 27,.move (.tmp 0),204,none⟩,
 ⟨some 28,.move (.tmp 0),204,none⟩,
 ⟨some 29,.call ⟨.builtin .len,#[(.tmp 28)],#[204]⟩,3,none⟩,
 ⟨some 30,.move (.tmp 7),3,none⟩,
 ⟨some 31,.slice 204 (.tmp 27) (some (.tmp 29)) (some (.tmp 30)) none,204,none⟩,
 ⟨none,.call ⟨.builtin .clear,#[(.tmp 31)],#[204]⟩,0,none⟩] [0]) (sg c170S0))
def c170S2(_:Unit):Cmd:=(.seq (.ops [
 ⟨some 18,.move (.tmp 0),204,none⟩,
 ⟨some 19,.call ⟨.builtin .len,#[(.tmp 18)],#[204]⟩,3,none⟩,
 ⟨some 7,.assign (.tmp 19),3,none⟩] [0,1,2,7])
 (.seq (.draw (drawOps 0 c170code) [0,7]) (sg c170S1)))
def c170:Cmd:=(.seq (.ops [
 ⟨some 6,.assign (.const (.slice none 0 0)),204,none⟩] [0,1,2])
 (.seq (.ops [
 ⟨some 8,.move (.tmp 0),204,none⟩,
 ⟨some 9,.move (.tmp 1),3,none⟩,
 ⟨some 10,.move (.tmp 2),3,none⟩,
 ⟨some 11,.move (.tmp 0),204,none⟩,
 ⟨some 12,.call ⟨.builtin .len,#[(.tmp 11)],#[204]⟩,3,none⟩,
 ⟨some 13,.slice 204 (.tmp 8) (some (.tmp 9)) (some (.tmp 10)) (some (.tmp 12)),204,none⟩] [0,1,2])
 (.seq (.seq (.ops [
 ⟨some 14,.move (.tmp 1),3,none⟩,
 ⟨some 15,.move (.tmp 2),3,none⟩,
 ⟨some 16,.binOp .eql 3 (.tmp 14) (.tmp 15) 3,4,none⟩] [0,1,2,16])
 (.cond (.tmp 16)
 (.seq (.ops [
 ⟨some 17,.move (.tmp 0),204,none⟩,
 ⟨some 6,.assign (.tmp 17),204,none⟩] [6])
 .ret)
 (.skip [0,1,2]))) (sg c170S2))))
attribute [go_sem] c170 c170S0 c170S1 c170S2
def c170D0:List (Bool × Ins):=[
 (true,⟨some 20,.move (.tmp 0),204,none⟩),
 (true,⟨some 21,.move (.tmp 1),3,none⟩),
 (true,⟨some 22,.slice 204 (.tmp 20) none (some (.tmp 21)) none,204,none⟩),
 (true,⟨some 23,.move (.tmp 0),204,none⟩),
 (true,⟨some 24,.move (.tmp 2),3,none⟩),
 (true,⟨some 25,.slice 204 (.tmp 23) (some (.tmp 24)) none none,204,none⟩),
 (false,⟨some 26,.call ⟨.builtin .append,#[(.tmp 22),(.tmp 25)],#[204,204]⟩,204,none⟩),
 (true,⟨some 0,.assign (.tmp 26),204,none⟩)]
theorem c170draw0{L:List Nat}{ρ:Env}{w:World}{Q:Post}(h:DL Tryz.prog c170D0 L ρ w.drew Q):drawW Tryz.prog (drawOps 0 c170code) L ρ w Q :=
 drawW_by [(true,0),(true,1),(true,2),(true,3),(true,4),(true,5),(false,6),(true,7)] c170D0 (by kernel_rfl) (by kernel_rfl) (by kernel_rfl) h
theorem ent170(a0 a1 a2:Value)(w:World)(K:Value→World→Prop)(h:W Tryz.prog c170 [(0,a0),(1,a1),(2,a2)] w (finQ Tryz.prog [.tmp 6] K)):Ret Tryz.prog 170 [a0,a1,a2] w K :=
 Ret_of_W (code:=c170code) Tryz.func170 (by kernel_rfl) (by kernel_rfl) (of_decide_eq_true (by kernel_rfl)) h
@[go_sem] theorem go170:goFunc Tryz.prog 170=true:=by kernel_rfl
@[go_sem] theorem go179:goFunc Tryz.prog 179=true:=by kernel_rfl
@[go_sem] theorem go180:goFunc Tryz.prog 180=true:=by kernel_rfl
@[go_sem] theorem go181:goFunc Tryz.prog 181=true:=by kernel_rfl
def c183code:Code:=match Tryz.f183.body with | some c=>c | none=>.skip
def c183S0(_:Unit):Cmd:=(.draw (drawOps 1 c183code) [])
def c183:Cmd:=(.seq (.ops [
 ⟨some 5,.move (.tmp 0),96,none⟩,
 ⟨some 6,.nilCheck (.tmp 5),0,none⟩,
 ⟨some 7,.fieldAddr 206 (.tmp 6) 1,0,none⟩,
 ⟨some 8,.load 204 (.tmp 7),204,none⟩,
 ⟨some 9,.move (.tmp 1),3,none⟩,
 ⟨some 10,.indexAddr 204 (.tmp 8) (.tmp 9),0,none⟩,
 ⟨some 11,.load 223 (.tmp 10),223,none⟩,
 ⟨some 4,.alloc 223,0,none⟩,
 ⟨none,.store 223 (.tmp 4) (.tmp 11),0,none⟩] [0,1,4])
 (.seq (.draw (drawOps 0 c183code) [0,4]) (sg c183S0)))
attribute [go_sem] c183
def c183D0:List (Nat × Ins):=[
 (0,⟨some 12,.move (.tmp 0),96,none⟩),
 (0,⟨some 13,.nilCheck (.tmp 12),0,none⟩),
 (0,⟨some 14,.fieldAddr 206 (.tmp 13) 1,0,none⟩),
 (0,⟨some 16,.move (.tmp 1),3,none⟩),
 (0,⟨some 17,.binOp .add 3 (.tmp 16) (.const (.int .i64 1)) 3,3,none⟩),
 (0,⟨some 19,.move (.tmp 0),96,none⟩),
 (0,⟨some 20,.nilCheck (.tmp 19),0,none⟩),
 (0,⟨some 21,.fieldAddr 206 (.tmp 20) 1,0,none⟩),
 (0,⟨some 23,.move (.tmp 1),3,none⟩),
 (1,⟨some 15,.load 204 (.tmp 14),204,none⟩),
 (0,⟨some 18,.slice 204 (.tmp 15) (some (.const (.int .i64 1))) (some (.tmp 17)) none,204,none⟩),
 (2,⟨some 22,.load 204 (.tmp 21),204,none⟩),
 (0,⟨some 24,.slice 204 (.tmp 22) none (some (.tmp 23)) none,204,none⟩),
 (2,⟨some 25,.call ⟨.builtin .copy,#[(.tmp 18),(.tmp 24)],#[204,204]⟩,3,none⟩)]
theorem c183draw0{L:List Nat}{ρ:Env}{w:World}{Q:Post}(S:World→Prop)(hS:S w.drew)(h:DG Tryz.prog S c183D0 L ρ w.drew Q):drawW Tryz.prog (drawOps 0 c183code) L ρ w Q :=
 drawW_held [3] [(0,0),(0,1),(0,2),(0,4),(0,5),(0,7),(0,8),(0,9),(0,11),(1,3),(0,6),(2,10),(0,12),(2,13)] c183D0 (by kernel_rfl) (by kernel_rfl) (by kernel_rfl) S hS h
def c183D1:List (Nat × Ins):=[
 (0,⟨some 26,.move (.tmp 0),96,none⟩),
 (0,⟨some 27,.nilCheck (.tmp 26),0,none⟩),
 (0,⟨some 28,.fieldAddr 206 (.tmp 27) 1,0,none⟩),
 (1,⟨some 29,.load 204 (.tmp 28),204,none⟩),
 (2,⟨some 30,.load 223 (.tmp 4),223,none⟩),
 (0,⟨some 31,.indexAddr 204 (.tmp 29) (.const (.int .i64 0)),0,none⟩),
 (3,⟨none,.store 223 (.tmp 31) (.tmp 30),0,none⟩)]
theorem c183draw1{L:List Nat}{ρ:Env}{w:World}{Q:Post}(S:World→Prop)(hS:S w.drew)(h:DG Tryz.prog S c183D1 L ρ w.drew Q):drawW Tryz.prog (drawOps 1 c183code) L ρ w Q :=
 drawW_held [3] [(0,0),(0,1),(0,2),(1,3),(2,4),(0,5),(3,6)] c183D1 (by kernel_rfl) (by kernel_rfl) (by kernel_rfl) S hS h
theorem ent183(a0 a1:Value)(w:World)(K:Value→World→Prop)(h:W Tryz.prog c183 [(0,a0),(1,a1)] w (finQ Tryz.prog [] K)):Ret Tryz.prog 183 [a0,a1] w K :=
 Ret_of_W (code:=c183code) Tryz.func183 (by kernel_rfl) (by kernel_rfl) (of_decide_eq_true (by kernel_rfl)) h
@[go_sem] theorem go183:goFunc Tryz.prog 183=true:=by kernel_rfl
def c184code:Code:=match Tryz.f184.body with | some c=>c | none=>.skip
def c184S0(_:Unit):Cmd:=.ret
def c184S1(_:Unit):Cmd:=(.seq (.ops [
 ⟨some 55,.move (.tmp 9),204,none⟩,
 ⟨some 6,.assign (.tmp 55),204,none⟩] [6])
 .ret)
def c184S2(_:Unit):Cmd:=(.seq (.draw (drawOps 0 c184code) [9]) (sg c184S1))
def c184S3(_:Unit):Cmd:=(.seq (.ops [
 ⟨some 41,.move (.tmp 9),204,none⟩,
 ⟨some 42,.move (.tmp 1),3,none⟩,
 ⟨some 43,.slice 204 (.tmp 41) (some (.tmp 42)) none none,204,none⟩,
 ⟨some 44,.move (.tmp 2),204,none⟩,
 ⟨some 45,.call ⟨.builtin .copy,#[(.tmp 43),(.tmp 44)],#[204,204]⟩,3,none⟩] [0,1,7,9]) (sg c184S2))
def c184S4(_:Unit):Cmd:=(.cond (.tmp 31)
 (.seq (.ops [
 ⟨some 32,.move (.tmp 0),204,none⟩,
 ⟨some 33,.move (.tmp 1),3,none⟩,
 ⟨some 34,.slice 204 (.tmp 32) none (some (.tmp 33)) none,204,none⟩,
 ⟨some 35,.move (.tmp 8),3,none⟩,
 ⟨some 36,.move (.tmp 7),3,none⟩,
 ⟨some 37,.binOp .add 3 (.tmp 35) (.tmp 36) 3,3,none⟩,
 ⟨some 38,.move (.tmp 1),3,none⟩,
 ⟨some 39,.binOp .sub 3 (.tmp 37) (.tmp 38) 3,3,none⟩,
 ⟨some 40,.call ⟨.builtin .append,#[(.tmp 34),(.tmp 39)],#[204,3]⟩,204,none⟩,
 ⟨some 9,.assign (.tmp 40),204,none⟩] [0,1,2,7,9]) (sg c184S3))
 (.skip [0,1,2,7,8]))
def c184S5(_:Unit):Cmd:=(.seq (.ops [
 ⟨some 83,.move (.tmp 0),204,none⟩,
 ⟨some 6,.assign (.tmp 83),204,none⟩] [6])
 .ret)
def c184S6(_:Unit):Cmd:=(.seq (.ops [
 ⟨some 78,.move (.tmp 0),204,none⟩,
 ⟨some 79,.move (.tmp 1),3,none⟩,
 ⟨some 80,.slice 204 (.tmp 78) (some (.tmp 79)) none none,204,none⟩,
 ⟨some 81,.move (.tmp 2),204,none⟩,
 ⟨some 82,.call ⟨.builtin .copy,#[(.tmp 80),(.tmp 81)],#[204,204]⟩,3,none⟩] [0]) (sg c184S5))
def c184S7(_:Unit):Cmd:=(.cond (.tmp 68)
 (.seq (.draw (drawOps 1 c184code) [0,1,2]) (sg c184S6))
 (.skip [0,1,2,7,8]))
def c184S8(_:Unit):Cmd:=(.seq (.ops [
 ⟨some 94,.move (.tmp 0),204,none⟩,
 ⟨some 6,.assign (.tmp 94),204,none⟩] [6])
 .ret)
def c184S9(_:Unit):Cmd:=(.seq (.ops [
 ⟨some 89,.move (.tmp 0),204,none⟩,
 ⟨some 90,.move (.tmp 1),3,none⟩,
 ⟨some 91,.slice 204 (.tmp 89) (some (.tmp 90)) none none,204,none⟩,
 ⟨some 92,.move (.tmp 7),3,none⟩,
 ⟨some 93,.call ⟨.value (.func 202),#[(.tmp 91),(.tmp 92)],#[204,3]⟩,0,none⟩] [0]) (sg c184S8))
def c184S10(_:Unit):Cmd:=(.seq (.ops [
 ⟨some 84,.move (.tmp 0),204,none⟩,
 ⟨some 85,.move (.tmp 8),3,none⟩,
 ⟨some 86,.slice 204 (.tmp 84) (some (.tmp 85)) none none,204,none⟩,
 ⟨some 87,.move (.tmp 2),204,none⟩,
 ⟨some 88,.call ⟨.builtin .copy,#[(.tmp 86),(.tmp 87)],#[204,204]⟩,3,none⟩] [0,1,7]) (sg c184S9))
def c184S11(_:Unit):Cmd:=(.seq (.ops [
 ⟨some 56,.move (.tmp 0),204,none⟩,
 ⟨some 57,.move (.tmp 8),3,none⟩,
 ⟨some 58,.move (.tmp 7),3,none⟩,
 ⟨some 59,.binOp .add 3 (.tmp 57) (.tmp 58) 3,3,none⟩,
 ⟨some 60,.slice 204 (.tmp 56) none (some (.tmp 59)) none,204,none⟩,
 ⟨some 0,.assign (.tmp 60),204,none⟩] [0,1,2,7,8])
 (.seq (.seq (.ops [
 ⟨some 61,.move (.tmp 2),204,none⟩,
 ⟨some 62,.move (.tmp 0),204,none⟩,
 ⟨some 63,.move (.tmp 1),3,none⟩,
 ⟨some 64,.move (.tmp 7),3,none⟩,
 ⟨some 65,.binOp .add 3 (.tmp 63) (.tmp 64) 3,3,none⟩,
 ⟨some 66,.slice 204 (.tmp 62) (some (.tmp 65)) none none,204,none⟩,
 ⟨some 67,.call ⟨.value (.func 201),#[(.tmp 61),(.tmp 66)],#[204,204]⟩,4,none⟩,
 ⟨some 68,.unOp .not 4 (.tmp 67),4,none⟩] [0,1,2,7,8,68]) (sg c184S7)) (sg c184S10)))
def c184S12(_:Unit):Cmd:=(.seq (.seq (.ops [
 ⟨some 26,.move (.tmp 8),3,none⟩,
 ⟨some 27,.move (.tmp 7),3,none⟩,
 ⟨some 28,.binOp .add 3 (.tmp 26) (.tmp 27) 3,3,none⟩,
 ⟨some 29,.move (.tmp 0),204,none⟩,
 ⟨some 30,.call ⟨.builtin .cap,#[(.tmp 29)],#[204]⟩,3,none⟩,
 ⟨some 31,.binOp .gtr 3 (.tmp 28) (.tmp 30) 3,4,none⟩] [0,1,2,7,8,31]) (sg c184S4)) (sg c184S11))
def c184S13(_:Unit):Cmd:=(.seq (.ops [
 ⟨some 18,.move (.tmp 0),204,none⟩,
 ⟨some 19,.call ⟨.builtin .len,#[(.tmp 18)],#[204]⟩,3,none⟩,
 ⟨some 8,.assign (.tmp 19),3,none⟩] [0,1,2,7,8])
 (.seq (.seq (.ops [
 ⟨some 20,.move (.tmp 1),3,none⟩,
 ⟨some 21,.move (.tmp 8),3,none⟩,
 ⟨some 22,.binOp .eql 3 (.tmp 20) (.tmp 21) 3,4,none⟩] [0,1,2,7,8,22])
 (.cond (.tmp 22)
 (.seq (.ops [
 ⟨some 23,.move (.tmp 0),204,none⟩,
 ⟨some 24,.move (.tmp 2),204,none⟩,
 ⟨some 25,.call ⟨.builtin .append,#[(.tmp 23),(.tmp 24)],#[204,204]⟩,204,none⟩,
 ⟨some 6,.assign (.tmp 25),204,none⟩] [6]) (sg c184S0))
 (.skip [0,1,2,7,8]))) (sg c184S12)))
def c184:Cmd:=(.seq (.ops [
 ⟨some 6,.assign (.const (.slice none 0 0)),204,none⟩] [0,1,2])
 (.seq (.ops [
 ⟨some 10,.move (.tmp 0),204,none⟩,
 ⟨some 11,.move (.tmp 1),3,none⟩,
 ⟨some 12,.slice 204 (.tmp 10) (some (.tmp 11)) none none,204,none⟩] [0,1,2])
 (.seq (.ops [
 ⟨some 13,.move (.tmp 2),204,none⟩,
 ⟨some 14,.call ⟨.builtin .len,#[(.tmp 13)],#[204]⟩,3,none⟩,
 ⟨some 7,.assign (.tmp 14),3,none⟩] [0,1,2,7])
 (.seq (.seq (.ops [
 ⟨some 15,.move (.tmp 7),3,none⟩,
 ⟨some 16,.binOp .eql 3 (.tmp 15) (.const (.int .i64 0)) 3,4,none⟩] [0,1,2,7,16])
 (.cond (.tmp 16)
 (.seq (.ops [
 ⟨some 17,.move (.tmp 0),204,none⟩,
 ⟨some 6,.assign (.tmp 17),204,none⟩] [6])
 .ret)
 (.skip [0,1,2,7]))) (sg c184S13)))))
attribute [go_sem] c184 c184S0 c184S1 c184S2 c184S3 c184S4 c184S5 c184S6 c184S7 c184S8 c184S9 c184S10 c184S11 c184S12 c184S13
def c184D0:List (Bool × Ins):=[
 (true,⟨some 46,.move (.tmp 9),204,none⟩),
 (true,⟨some 47,.move (.tmp 1),3,none⟩),
 (true,⟨some 48,.move (.tmp 7),3,none⟩),
 (true,⟨some 49,.binOp .add 3 (.tmp 47) (.tmp 48) 3,3,none⟩),
 (true,⟨some 50,.slice 204 (.tmp 46) (some (.tmp 49)) none none,204,none⟩),
 (true,⟨some 51,.move (.tmp 0),204,none⟩),
 (true,⟨some 52,.move (.tmp 1),3,none⟩),
 (true,⟨some 53,.slice 204 (.tmp 51) (some (.tmp 52)) none none,204,none⟩),
 (false,⟨some 54,.call ⟨.builtin .copy,#[(.tmp 50),(.tmp 53)],#[204,204]⟩,3,none⟩)]
theorem c184draw0{L:List Nat}{ρ:Env}{w:World}{Q:Post}(h:DL Tryz.prog c184D0 L ρ w.drew Q):drawW Tryz.prog (drawOps 0 c184code) L ρ w Q :=
 drawW_by [(true,0),(true,1),(true,2),(true,3),(true,4),(true,5),(true,6),(true,7),(false,8)] c184D0 (by kernel_rfl) (by kernel_rfl) (by kernel_rfl) h
def c184D1:List (Bool × Ins):=[
 (true,⟨some 69,.move (.tmp 0),204,none⟩),
 (true,⟨some 70,.move (.tmp 1),3,none⟩),
 (true,⟨some 71,.move (.tmp 7),3,none⟩),
 (true,⟨some 72,.binOp .add 3 (.tmp 70) (.tmp 71) 3,3,none⟩),
 (true,⟨some 73,.slice 204 (.tmp 69) (some (.tmp 72)) none none,204,none⟩),
 (true,⟨some 74,.move (.tmp 0),204,none⟩),
 (true,⟨some 75,.move (.tmp 1),3,none⟩),
 (true,⟨some 76,.slice 204 (.tmp 74) (some (.tmp 75)) none none,204,none⟩),
 (false,⟨some 77,.call ⟨.builtin .copy,#[(.tmp 73),(.tmp 76)],#[204,204]⟩,3,none⟩)]
theorem c184draw1{L:List Nat}{ρ:Env}{w:World}{Q:Post}(h:DL Tryz.prog c184D1 L ρ w.drew Q):drawW Tryz.prog (drawOps 1 c184code) L ρ w Q :=
 drawW_by [(true,0),(true,1),(true,2),(true,3),(true,4),(true,5),(true,6),(true,7),(false,8)] c184D1 (by kernel_rfl) (by kernel_rfl) (by kernel_rfl) h
theorem ent184(a0 a1 a2:Value)(w:World)(K:Value→World→Prop)(h:W Tryz.prog c184 [(0,a0),(1,a1),(2,a2)] w (finQ Tryz.prog [.tmp 6] K)):Ret Tryz.prog 184 [a0,a1,a2] w K :=
 Ret_of_W (code:=c184code) Tryz.func184 (by kernel_rfl) (by kernel_rfl) (of_decide_eq_true (by kernel_rfl)) h
@[go_sem] theorem go184:goFunc Tryz.prog 184=true:=by kernel_rfl
def c185code:Code:=match Tryz.f185.body with | some c=>c | none=>.skip
def c185S0(_:Unit):Cmd:=(.seq (.block 1 (.seq (.ops [
 ⟨some 11,.move (.tmp 9),3,none⟩,
 ⟨some 4,.assign (.tmp 11),3,none⟩] [3,4,8,9])
 (.ops [
 ⟨some 12,.move (.tmp 3),181,none⟩,
 ⟨some 13,.move (.tmp 4),3,none⟩,
 ⟨some 14,.indexAddr 181 (.tmp 12) (.tmp 13),0,none⟩,
 ⟨some 15,.load 5 (.tmp 14),5,none⟩,
 ⟨some 16,.binOp .xor 5 (.tmp 15) (.const (.int .u8 255)) 5,5,none⟩,
 ⟨some 17,.indexAddr 181 (.tmp 12) (.tmp 13),0,none⟩,
 ⟨none,.store 5 (.tmp 17) (.tmp 16),0,none⟩] [3,8,9])))
 (.ops [
 ⟨some 18,.binOp .add 3 (.tmp 9) (.const (.int .i64 1)) 3,3,none⟩,
 ⟨some 9,.move (.tmp 18),3,none⟩] [3,8,9]))
def c185L0(_:Unit):Cmd:=(.seq (.ops [
 ⟨some 10,.binOp .lss 3 (.tmp 9) (.tmp 8) 3,0,none⟩] [3,8,9,10])
 (.seq (.cond (.tmp 10)
 (.skip [3,8,9])
 (.exit 0 [3])) (sg c185S0)))
def c185S1(_:Unit):Cmd:=(.seq (.ops [
 ⟨some 19,.move (.tmp 3),181,none⟩,
 ⟨some 20,.convert 181 9 (.tmp 19),9,none⟩,
 ⟨some 2,.assign (.tmp 20),9,none⟩] [2])
 .ret)
def c185:Cmd:=(.seq (.ops [
 ⟨some 2,.assign (.const (.string (ofL []))),9,none⟩] [0])
 (.seq (.ops [
 ⟨some 5,.move (.tmp 0),9,none⟩,
 ⟨some 6,.convert 9 181 (.tmp 5),181,none⟩,
 ⟨some 3,.assign (.tmp 6),181,none⟩] [3])
 (.seq (.seq (.ops [
 ⟨some 7,.move (.tmp 3),181,none⟩,
 ⟨some 8,.call ⟨.builtin .len,#[(.tmp 7)],#[181]⟩,3,none⟩,
 ⟨some 9,.move (.const (.int .i64 0)),3,none⟩] [3,8,9])
 (.block 0 (.loop (sg c185L0)))) (sg c185S1))))
attribute [go_sem] c185 c185S0 c185S1
theorem ent185(a0:Value)(w:World)(K:Value→World→Prop)(h:W Tryz.prog c185 [(0,a0)] w (finQ Tryz.prog [.tmp 2] K)):Ret Tryz.prog 185 [a0] w K :=
 Ret_of_W (code:=c185code) Tryz.func185 (by kernel_rfl) (by kernel_rfl) (of_decide_eq_true (by kernel_rfl)) h
@[go_sem] theorem go185:goFunc Tryz.prog 185=true:=by kernel_rfl
def c186code:Code:=match Tryz.f186.body with | some c=>c | none=>.skip
def c186S0(_:Unit):Cmd:=.ret
def c186:Cmd:=(.seq (.ops [
 ⟨some 3,.assign (.const (.int .i64 0)),3,none⟩] [0,1])
 (.seq (.ops [
 ⟨some 4,.load 9 (.tmp 1),9,none⟩,
 ⟨some 5,.move (.tmp 0),3,none⟩,
 ⟨some 6,.move (.tmp 0),3,none⟩,
 ⟨some 7,.binOp .add 3 (.tmp 6) (.const (.int .i64 4)) 3,3,none⟩,
 ⟨some 8,.slice 9 (.tmp 4) (some (.tmp 5)) (some (.tmp 7)) none,9,none⟩,
 ⟨some 9,.call ⟨.value (.func 98),#[(.tmp 8)],#[9]⟩,147,none⟩,
 ⟨some 10,.convert 147 3 (.tmp 9),3,none⟩,
 ⟨some 3,.assign (.tmp 10),3,none⟩] [3]) (sg c186S0)))
attribute [go_sem] c186 c186S0
theorem ent186(a0 a1:Value)(w:World)(K:Value→World→Prop)(h:W Tryz.prog c186 [(0,a0),(1,a1)] w (finQ Tryz.prog [.tmp 3] K)):Ret Tryz.prog 186 [a0,a1] w K :=
 Ret_of_W (code:=c186code) Tryz.func186 (by kernel_rfl) (by kernel_rfl) (of_decide_eq_true (by kernel_rfl)) h
@[go_sem] theorem go186:goFunc Tryz.prog 186=true:=by kernel_rfl
def c191code:Code:=match Tryz.f191.body with | some c=>c | none=>.skip
def c191S0(_:Unit):Cmd:=(.cond (.tmp 16)
 (.seq (.ops [
 ⟨some 17,.move (.tmp 5),3,none⟩,
 ⟨some 4,.assign (.tmp 17),3,none⟩] [4])
 .ret)
 (.skip [0,1,7,8]))
def c191S1(_:Unit):Cmd:=(.ops [
 ⟨some 18,.binOp .add 3 (.tmp 8) (.const (.int .i64 1)) 3,3,none⟩,
 ⟨some 8,.move (.tmp 18),3,none⟩] [0,1,7,8])
def c191S2(_:Unit):Cmd:=(.seq (.block 1 (.seq (.ops [
 ⟨some 10,.move (.tmp 8),3,none⟩,
 ⟨some 5,.assign (.tmp 10),3,none⟩] [0,1,5,7,8])
 (.seq (.ops [
 ⟨some 11,.move (.tmp 1),238,none⟩,
 ⟨some 12,.move (.tmp 0),204,none⟩,
 ⟨some 13,.move (.tmp 5),3,none⟩,
 ⟨some 14,.indexAddr 204 (.tmp 12) (.tmp 13),0,none⟩,
 ⟨some 15,.load 223 (.tmp 14),223,none⟩,
 ⟨some 16,.call ⟨.value (.tmp 11),#[(.tmp 15)],#[223]⟩,4,none⟩] [0,1,5,7,8,16]) (sg c191S0)))) (sg c191S1))
def c191L0(_:Unit):Cmd:=(.seq (.ops [
 ⟨some 9,.binOp .lss 3 (.tmp 8) (.tmp 7) 3,0,none⟩] [0,1,7,8,9])
 (.seq (.cond (.tmp 9)
 (.skip [0,1,7,8])
 (.exit 0 [])) (sg c191S2)))
def c191S3(_:Unit):Cmd:=(.seq (.ops [
 ⟨some 4,.assign (.const (.int .i64 (-1))),3,none⟩] [4])
 .ret)
def c191:Cmd:=(.seq (.ops [
 ⟨some 4,.assign (.const (.int .i64 0)),3,none⟩] [0,1])
 (.seq (.seq (.ops [
 ⟨some 6,.move (.tmp 0),204,none⟩,
 ⟨some 7,.call ⟨.builtin .len,#[(.tmp 6)],#[204]⟩,3,none⟩,
 ⟨some 8,.move (.const (.int .i64 0)),3,none⟩] [0,1,7,8])
 (.block 0 (.loop (sg c191L0)))) (sg c191S3)))
attribute [go_sem] c191 c191S0 c191S1 c191S2 c191L0 c191S3
theorem ent191(a0 a1:Value)(w:World)(K:Value→World→Prop)(h:W Tryz.prog c191 [(0,a0),(1,a1)] w (finQ Tryz.prog [.tmp 4] K)):Ret Tryz.prog 191 [a0,a1] w K :=
 Ret_of_W (code:=c191code) Tryz.func191 (by kernel_rfl) (by kernel_rfl) (of_decide_eq_true (by kernel_rfl)) h
@[go_sem] theorem go191:goFunc Tryz.prog 191=true:=by kernel_rfl
def c192code:Code:=match Tryz.f192.body with | some c=>c | none=>.skip
def c192:Cmd:=(.seq (.ops [
 ⟨some 2,.box 223 (.tmp 0),0,none⟩,
 ⟨some 3,.assign (.const (.bool false)),4,none⟩] [1,2])
 (.seq (.ops [
 ⟨some 4,.fieldAddr 223 (.tmp 2) 0,0,none⟩,
 ⟨some 5,.load 3 (.tmp 4),3,none⟩,
 ⟨some 6,.load 3 (.tmp 1),3,none⟩,
 ⟨some 7,.binOp .eql 3 (.tmp 5) (.tmp 6) 3,4,none⟩,
 ⟨some 3,.assign (.tmp 7),4,none⟩] [3])
 .ret))
attribute [go_sem] c192
theorem ent192(a0 a1:Value)(w:World)(K:Value→World→Prop)(h:W Tryz.prog c192 [(0,a0),(1,a1)] w (finQ Tryz.prog [.tmp 3] K)):Ret Tryz.prog 192 [a0,a1] w K :=
 Ret_of_W (code:=c192code) Tryz.func192 (by kernel_rfl) (by kernel_rfl) (of_decide_eq_true (by kernel_rfl)) h
@[go_sem] theorem go192:goFunc Tryz.prog 192=true:=by kernel_rfl
@[go_sem] theorem go197:goFunc Tryz.prog 197=true:=by kernel_rfl
@[go_sem] theorem go198:goFunc Tryz.prog 198=true:=by kernel_rfl
@[go_sem] theorem go208:goFunc Tryz.prog 208=true:=by kernel_rfl
@[go_sem] theorem go217:goFunc Tryz.prog 217=true:=by kernel_rfl
@[go_sem] theorem go91:goFunc Tryz.prog 91=true:=by kernel_rfl
@[go_sem] theorem go38:goFunc Tryz.prog 38=true:=by kernel_rfl
open Go Go.Ann Go.RowKit Go.WideShapes
def zeroB:List UInt8:=List.replicate 256 0
def filledL(l:List UInt8):List UInt8:=l++List.replicate (256 - l.length) 0
theorem filledL_length{l:List UInt8}(h:l.length≤256):(filledL l).length=256:=by
 unfold filledL; rw [List.length_append,List.length_replicate]; omega
structure Dk where
 safe:List (List UInt8)
 late:List (Int × List UInt8)
 left:Int
 gone:Bool
structure Dk.ok(m:Dk):Prop where
 safe:∀ s∈m.safe,s.length=256
 late:∀ x∈m.late,0≤x.1∧x.1<m.safe.length∧x.2.length=256
 left:I64 m.left
 some:0<m.safe.length
 few:m.safe.length≤2048
 less:m.late.length≤1048576
def strE(s:List UInt8):List Value:=[.string (ofL s)]
theorem strE_ones(l:List (List UInt8)):∀ u∈l.flatMap strE,u.oneCell'=true:=by
 intro u hu
 obtain ⟨s,_,h⟩:=List.mem_flatMap.1 hu
 rw [strE,List.mem_singleton] at h
 subst h; rfl
def pendV(x:Int × List UInt8):List Value:=[.int .i64 x.1,.string (ofL x.2)]
theorem pendV_len(x:Int × List UInt8):(pendV x).length=2:=rfl
theorem pendV_ones(l:List (Int × List UInt8)):∀ u∈l.flatMap pendV,u.oneCell'=true:=by
 intro u hu
 obtain ⟨s,_,h⟩:=List.mem_flatMap.1 hu
 simp only [pendV,List.mem_cons,List.not_mem_nil,or_false] at h
 rcases h with rfl | rfl <;> rfl
theorem strE_map(l:List (List UInt8)):l.flatMap strE=l.map fun s=>Value.string (ofL s):=by
 induction l with
 | nil=>rfl
 | cons a l ih=>rw [List.flatMap_cons,ih]; rfl
theorem strE_set(l:List (List UInt8))(j:Nat)(s:List UInt8):(l.flatMap strE).set j (.string (ofL s))=(l.set j s).flatMap strE:=by
 rw [strE_map,strE_map,List.map_set]
def DkL(g:Nat)(vb vl:Value)(m:Dk):List Res :=
 [.blk g #[vb,vl,.int .i64 m.left,.bool m.gone,.string (ofL zeroB)] 157,.row vb 9 1 m.safe.length (m.safe.flatMap strE),.row vl 199 2 m.late.length (m.late.flatMap pendV)]
theorem st_recast{W0 w:World}{F:Nat→Prop}{L L':List Res}{I:List Inv}(h:St W0 w F L I)(e:L=L'):St W0 w F L' I:=e ▸ h
theorem St.front{W0 w:World}{F:Nat→Prop}{A D L:List Res}{I:List Inv}(h:St W0 w F (A++(D++L)) I):St W0 w F (D++(A++L)) I :=
 h.perm (by rw [← List.append_assoc,← List.append_assoc]; exact List.perm_append_comm.append_right L)
section
variable {W0 w:World} {F:Nat→Prop} {L:List Res} {I:List Inv} {g:Nat} {vb vl:Value} {m:Dk}
def readyN(m:Dk)(i:Int):Int:=if m.gone=true then 11 else if 0≤i∧i<m.safe.length then 0 else 10
theorem dk_form(h:St W0 w F (DkL g vb vl m++L) I)(ok:m.ok):∃ gb cb al cl,vb=.slice (some ⟨gb,0,none⟩) m.safe.length cb∧vl=.slice al m.late.length cl∧m.late.length≤cl:=by
 obtain ⟨gb,cb,h1,_⟩:=(h.row 1 rfl).form ok.some
 obtain ⟨al,cl,h2,h3⟩:=own_slice (h.row 2 rfl)
 exact ⟨gb,cb,al,cl,h1,h2,h3⟩
theorem ready_ok(i:Int)(h:St W0 w F (DkL g vb vl m++L) I)(ok:m.ok) :
  Ret Tryz.prog 150 [.pointer (some ⟨g,0,none⟩),.int .i64 i] w fun u w'=>u=.int .i64 (readyN m i)∧w'=w:=by
 obtain ⟨gb,cb,al,cl,rfl,rfl,_⟩:=dk_form h ok
 refine ent150 _ _ _ _ ?_
 have r1:=h.rules 0 rfl
 simp (disch:=first|omega|exact zF rfl|exact zG rfl|exact fun h=>h|(simp only[zA,zB,zC,zD,bytesW];omega)) only[go_sem,r1]
 unfold readyN
 refine ⟨fun hg=>?_,fun hg=>?_⟩
 ·rw [if_pos hg]
 ·rw [if_neg (by rw [hg]; decide)]
  by_cases h0:0≤i
  ·by_cases h1:i<m.safe.length
   ·rw [if_pos ⟨h0,h1⟩]
    exact ⟨fun _=>⟨fun h=>by omega,fun _=>rfl⟩,fun h=>by omega⟩
   ·rw [if_neg (by omega)]
    exact ⟨fun _=>⟨fun _=>rfl,fun h=>by omega⟩,fun h=>by omega⟩
  ·rw [if_neg (by omega)]
   exact ⟨fun h=>by omega,fun _=>rfl⟩
def useN(m:Dk):Dk × Int:=if m.left=0 then ({ m with gone:=true },11) else if 0<m.left then ({ m with left:=m.left - 1 },0) else (m,0)
theorem useN_ok(ok:m.ok):(useN m).1.ok:=by
 unfold useN
 have hl:=ok.left
 split
 ·exact ⟨ok.safe,ok.late,ok.left,ok.some,ok.few,ok.less⟩
 ·split
  ·exact ⟨ok.safe,ok.late,⟨by have:=hl.1; simp only; omega,by have:=hl.2; simp only; omega⟩,ok.some,ok.few,ok.less⟩
  ·exact ok
theorem useN_late(m:Dk):(useN m).1.late=m.late∧(useN m).1.safe=m.safe:=by
 unfold useN; split
 ·exact ⟨rfl,rfl⟩
 ·split <;> exact ⟨rfl,rfl⟩
theorem use_ok(h:St W0 w F (DkL g vb vl m++L) I)(ok:m.ok) :
  Ret Tryz.prog 151 [.pointer (some ⟨g,0,none⟩)] w fun u w'=>u=.int .i64 (useN m).2∧St W0 w' F (DkL g vb vl (useN m).1++L) I:=by
 refine ent151 _ _ _ ?_
 have r1:=h.rules 0 rfl
 simp (disch:=first|omega|exact zF rfl|exact zG rfl|exact fun h=>h|(simp only[zA,zB,zC,zD,bytesW];omega)) only[go_sem,r1]
 unfold useN
 have hl:=ok.left
 refine ⟨fun h0=>?_,fun h0=>⟨fun h1=>?_,fun h1=>?_⟩⟩
 ·rw [if_pos h0]
  exact ⟨rfl,h.set 0 rfl 3 (.bool true)⟩
 ·rw [if_neg h0,if_pos h1]
  exact ⟨⟨by have:=hl.1; omega,by have:=hl.2; omega⟩,rfl,h.set 0 rfl 2 (.int .i64 (m.left - 1))⟩
 ·rw [if_neg h0,if_neg (by omega)]
  exact ⟨rfl,h⟩
def lastL(l:List (Int × List UInt8))(i:Int)(s:List UInt8):List UInt8:=l.foldl (fun s x=>if x.1=i then x.2 else s) s
def readN(m:Dk)(i:Int):List UInt8 × Int:=if readyN m i=0 then (lastL m.late i (m.safe.getD i.toNat []),0) else ([],readyN m i)
theorem lastL_snoc(l:List (Int × List UInt8))(x:Int × List UInt8)(i:Int)(s:List UInt8):lastL (l++[x]) i s=if x.1=i then x.2 else lastL l i s:=by
 unfold lastL; rw [List.foldl_append]; rfl
theorem readyN_in{i:Int}(hr:readyN m i=0):0≤i∧i<m.safe.length:=by
 unfold readyN at hr
 split at hr
 ·cases hr
 ·split at hr
  ·assumption
  ·cases hr
theorem read_ok(i:Int)(h:St W0 w F (DkL g vb vl m++L) I)(ok:m.ok) :
  Ret Tryz.prog 106 [.pointer (some ⟨g,0,none⟩),.int .i64 i] w fun u w'=>u=.tuple #[.string (ofL (readN m i).1),.int .i64 (readN m i).2]∧Below w.heap.size w w':=by
 refine ent106 _ _ _ _ ?_
 simp (disch:=first|omega|exact zF rfl|exact zG rfl|exact fun h=>h|(simp only[zA,zB,zC,zD,bytesW];omega)) only[go_sem,c106L0]
 refine Ret.mono (ready_ok i h ok) ?_
 rintro _ w2 ⟨rfl,e2⟩
 subst w2
 obtain ⟨gb,cb,al,cl,rfl,rfl,hcl⟩:=dk_form h ok
 have r1:=h.rules 0 rfl
 unfold readN
 by_cases hr:readyN m i=0
 case neg =>
  rw [if_neg hr]
  simp (disch:=first|omega|exact zF rfl|exact zG rfl|exact fun h=>h|(simp only[zA,zB,zC,zD,bytesW];omega)) only[go_sem,c106L0,hr]
  exact Below.refl _ _
 rw [if_pos hr]
 obtain ⟨h0,hlt⟩:=readyN_in hr
 have hS:RdS w 1 strE (.slice (some ⟨gb,0,none⟩) m.safe.length cb) m.safe:=RdS.of_own' (h.row 1 rfl) m.safe rfl rfl
 have hL:RdS w 2 pendV (.slice al m.late.length cl) m.late:=RdS.of_own' (h.row 2 rfl) m.late rfl rfl
 obtain ⟨k0,rfl⟩:=Int.eq_ofNat_of_zero_le h0
 have hk0:k0<m.safe.length:=by omega
 have eS:=RdS.at1 (e1:=fun s=>.string (ofL s)) hS hk0
 rw [Addr.add_lit,Nat.zero_add] at eS
 have e0:m.safe.getD ((k0:Int).toNat) []=m.safe[k0]:=by simp [List.getD_eq_getElem?_getD,List.getElem?_eq_getElem hk0]
 rw [e0]
 simp (disch:=first|omega|exact zF rfl|exact zG rfl|exact fun h=>h|(simp only[zA,zB,zC,zD,bytesW];omega)) only[go_sem,hr,r1,eS,hlt]
 refine ⟨by omega,?_⟩
 refine W_loopU (fun k:Nat=>[(7,.string (ofL (lastL (m.late.take k) k0 m.safe[k0]))),(28,.int .i64 k)]) (fun k w'=>k≤m.late.length∧Below w.heap.size w w') (fun k=>m.late.length - k) 0 rfl ⟨Nat.zero_le _,Below.refl _ _⟩ ?_
 rintro k w3 ⟨hk,hb⟩
 by_cases hlt2:k<m.late.length
 ·have hlt':(k:Int)<m.late.length:=by omega
  obtain ⟨p,rfl⟩:=hL.ptr (by omega)
  have eL:=(hL.below hb (by decide)).at pendV_len hlt2
  simp (disch:=first|omega|exact zF rfl|exact zG rfl|exact fun h=>h|(simp only[zA,zB,zC,zD,bytesW];omega)) only[go_sem,c106L0,c106L0,hlt',eL,pendV]
  have es:lastL (m.late.take (k+1)) k0 m.safe[k0]=if m.late[k].1=k0 then m.late[k].2 else lastL (m.late.take k) k0 m.safe[k0]:=by
   rw [List.take_succ_eq_append_getElem hlt2,lastL_snoc]
  have b':Below w.heap.size w (w3.alloc (.cells #[.int .i64 m.late[k].1,.string (ofL m.late[k].2)] 199)):=hb.alloc hb.size _
  have hless:=ok.less
  clear r1
  refine ⟨by omega,fun e=>⟨⟨by omega,by omega⟩,k+1,?_,⟨by omega,b'⟩,by omega⟩,fun e=>⟨⟨by omega,by omega⟩,k+1,?_,⟨by omega,b'⟩,by omega⟩⟩
  ·rw [es,if_pos e]; rfl
  ·rw [es,if_neg e]; rfl
 ·have hlt':¬ (k:Int)<m.late.length:=by omega
  simp (disch:=first|omega|exact zF rfl|exact zG rfl|exact fun h=>h|(simp only[zA,zB,zC,zD,bytesW];omega)) only[go_sem,c106L0,c106L0,hlt']
  rw [List.take_of_length_le (by omega)]
  exact ⟨rfl,hb⟩
def writeN(m:Dk)(i:Int)(data:List UInt8):Dk × Int :=
 if readyN m i≠0 then (m,readyN m i) else if 256<data.length then (m,21) else
 if (useN m).2=0 then ({ (useN m).1 with late:=(useN m).1.late++[(i,filledL data)] },0) else useN m
theorem writeN_ok(ok:m.ok)(hless:m.late.length<1000000)(i:Int)(data:List UInt8):(writeN m i data).1.ok:=by
 unfold writeN
 split
 ·exact ok
 ·rename_i hr
  have hr:readyN m i=0:=Decidable.not_not.1 hr
  split
  ·exact ok
  ·have hu:=useN_ok ok
   have hl:=useN_late m
   have hin:=readyN_in hr
   split
   ·refine ⟨hu.safe,fun x hx=>?_,hu.left,hu.some,hu.few,?_⟩
    ·rcases List.mem_append.1 hx with h | h
     ·exact hu.late x h
     ·rw [List.mem_singleton] at h; subst h
      rw [hl.2]
      exact ⟨hin.1,hin.2,filledL_length (by omega)⟩
    ·simp only [List.length_append,List.length_singleton,hl.1]; omega
   ·exact hu
theorem write_ok(i:Int)(data:List UInt8)(h:St W0 w F (DkL g vb vl m++L) I)(ok:m.ok)(hless:m.late.length<1000000) :
  Ret Tryz.prog 107 [.pointer (some ⟨g,0,none⟩),.int .i64 i,.string (ofL data)] w fun u w'=>u=.int .i64 (writeN m i data).2∧∃ vl',St W0 w' F (DkL g vb vl' (writeN m i data).1++L) I:=by
 refine ent107 _ _ _ _ _ ?_
 simp (disch:=first|omega|exact zF rfl|exact zG rfl|exact fun h=>h|(simp only[zA,zB,zC,zD,bytesW];omega)) only[go_sem]
 refine Ret.mono (ready_ok i h ok) ?_
 rintro _ w2 ⟨rfl,e2⟩
 subst w2
 unfold writeN
 by_cases hr:readyN m i=0
 case neg =>
  rw [if_pos hr]
  simp (disch:=first|omega|exact zF rfl|exact zG rfl|exact fun h=>h|(simp only[zA,zB,zC,zD,bytesW];omega)) only[go_sem,hr]
  exact ⟨vl,h⟩
 rw [if_neg (by omega)]
 by_cases hd:256<data.length
 ·have hd':(256:Int)<data.length:=by omega
  rw [if_pos hd]
  simp (disch:=first|omega|exact zF rfl|exact zG rfl|exact fun h=>h|(simp only[zA,zB,zC,zD,bytesW];omega)) only[go_sem,hr,hd']
  exact ⟨vl,h⟩
 have hd':¬ (256:Int)<data.length:=by omega
 rw [if_neg hd]
 simp (disch:=first|omega|exact zF rfl|exact zG rfl|exact fun h=>h|(simp only[zA,zB,zC,zD,bytesW];omega)) only[go_sem,hr,hd']
 refine Ret.mono (use_ok h ok) ?_
 rintro _ w2 ⟨rfl,h2⟩
 have ok2:=useN_ok ok
 have hl:=useN_late m
 by_cases hu:(useN m).2=0
 case neg =>
  rw [if_neg hu]
  simp (disch:=first|omega|exact zF rfl|exact zG rfl|exact fun h=>h|(simp only[zA,zB,zC,zD,bytesW];omega)) only[go_sem,hu]
  exact ⟨vl,h2⟩
 rw [if_pos hu]
 generalize (useN m).1=m1 at h2 ok2 hl ⊢
 obtain ⟨gb,cb,al,cl,rfl,rfl,hcl⟩:=dk_form h2 ok2
 have r1:=h2.rules 0 rfl
 simp (disch:=first|omega|exact zF rfl|exact zG rfl|exact fun h=>h|(simp only[zA,zB,zC,zD,bytesW];omega)) only[go_sem,hu,r1]
 refine c107draw0 (Chg (fun _=>False) _) (Chg.refl _ _) ?_
 have h3:=h2.drew
 have r3:=h3.rules 0 rfl
 have l3:=h3.low 0 rfl
 generalize w2.drew=w3 at h3 r3 l3 ⊢
 simp (disch:=first|omega|exact zF rfl|exact zG rfl|exact fun h=>h|(simp only[zA,zB,zC,zD,bytesW];omega)) only[go_sem,c107D0,r3]
 have ez:data++zeroB.drop data.length=filledL data:=by unfold zeroB filledL; rw [List.drop_replicate]
 have hz:zeroB.length=256:=List.length_replicate
 rw [ez]
 refine ⟨by rw [hz]; omega,by rw [List.length_drop,hz]; omega,?_⟩
 refine bdW_built (cells:=(pendV (i,filledL data)).toArray) (by kernel_rfl) ?_
 simp (disch:=first|omega|exact zF rfl|exact zG rfl|exact fun h=>h|(simp only[zA,zB,zC,zD,bytesW];omega)) only[go_sem]
 refine bsW_agg ty155mkI rfl (by decide) (by decide) ?_
 have hx:Rd (w3.alloc (.cells (pendV (i,filledL data)).toArray 199)) 2 (.slice (some ⟨w3.heap.size,0,none⟩) 1 1) 1 (pendV (i,filledL data)):=rd_new (n:=1) (cs:=(pendV (i,filledL data)).toArray) rfl
 simp (disch:=first|omega|exact zF rfl|exact zG rfl|exact fun h=>h|(simp only[zA,zB,zC,zD,bytesW];omega)) only[go_sem]
 have h1:∀ u∈pendV (i,filledL data),u.oneCell'=true:=by simpa using pendV_ones [(i,filledL data)]
 refine ⟨(Chg.refl _ _).alloc _,?_⟩
 refine (h3.alloc' (.cells (pendV (i,filledL data)).toArray 199)).append 2 rfl ty155mkI rfl (by decide) hx h1 (by have:=ok.less; rw [hl.1]; omega) (by have:=ok.less; rw [hl.1]; omega) ?_
 intro v6 w6 h6 c6
 obtain ⟨a6,d6,rfl,_⟩:=own_slice (h6.row 2 rfl)
 have r6:=h6.rules 0 rfl
 simp (disch:=first|omega|exact zF rfl|exact zG rfl|exact fun h=>h|(simp only[zA,zB,zC,zD,bytesW];omega)) only[go_sem,r6]
 refine ⟨.slice a6 (m1.late.length+1) d6,st_recast (h6.set 0 rfl 1 (.slice a6 (m1.late.length+1) d6)) ?_⟩
 simp only [DkL,List.length_append,List.length_singleton,List.flatMap_append,List.flatMap_cons,List.flatMap_nil,List.append_nil]
 rfl
def doneL(safe:List (List UInt8))(late:List (Int × List UInt8)):List (List UInt8):=late.foldl (fun s x=>s.set x.1.toNat x.2) safe
theorem doneL_length(safe:List (List UInt8)):∀ late,(doneL safe late).length=safe.length:=by
 intro late
 unfold doneL
 induction late generalizing safe with
 | nil=>rfl
 | cons x l ih=>rw [List.foldl_cons,ih]; simp
theorem doneL_snoc(safe:List (List UInt8))(l:List (Int × List UInt8))(x:Int × List UInt8):doneL safe (l++[x])=(doneL safe l).set x.1.toNat x.2:=by
 unfold doneL; rw [List.foldl_append]; rfl
def flushN(m:Dk):Dk × Int :=
 if readyN m 0≠0 then (m,readyN m 0) else if (useN m).2≠0 then useN m else ({ (useN m).1 with safe:=doneL m.safe m.late,late:=[] },0)
theorem flush_ok(h:St W0 w F (DkL g vb vl m++L) I)(ok:m.ok) :
  Ret Tryz.prog 153 [.pointer (some ⟨g,0,none⟩)] w fun u w'=>u=.int .i64 (flushN m).2∧∃ vl',St W0 w' F (DkL g vb vl' (flushN m).1++L) I:=by
 refine ent153 _ _ _ ?_
 simp (disch:=first|omega|exact zF rfl|exact zG rfl|exact fun h=>h|(simp only[zA,zB,zC,zD,bytesW];omega)) only[go_sem,c153L0]
 refine Ret.mono (ready_ok 0 h ok) ?_
 rintro _ w2 ⟨rfl,e2⟩
 subst w2
 unfold flushN
 by_cases hr:readyN m 0=0
 case neg =>
  rw [if_pos hr]
  simp (disch:=first|omega|exact zF rfl|exact zG rfl|exact fun h=>h|(simp only[zA,zB,zC,zD,bytesW];omega)) only[go_sem,c153L0,hr]
  exact ⟨vl,h⟩
 rw [if_neg (by omega)]
 simp (disch:=first|omega|exact zF rfl|exact zG rfl|exact fun h=>h|(simp only[zA,zB,zC,zD,bytesW];omega)) only[go_sem,c153L0,hr]
 refine Ret.mono (use_ok h ok) ?_
 rintro _ w2 ⟨rfl,h2⟩
 have ok2:=useN_ok ok
 have hl:=useN_late m
 by_cases hu:(useN m).2=0
 case neg =>
  rw [if_pos hu]
  simp (disch:=first|omega|exact zF rfl|exact zG rfl|exact fun h=>h|(simp only[zA,zB,zC,zD,bytesW];omega)) only[go_sem,c153L0,hu]
  exact ⟨vl,h2⟩
 rw [if_neg (by omega),← hl.1,← hl.2]
 generalize (useN m).1=m1 at h2 ok2 ⊢
 obtain ⟨gb,cb,al,cl,rfl,rfl,hcl⟩:=dk_form h2 ok2
 have r1:=h2.rules 0 rfl
 simp (disch:=first|omega|exact zF rfl|exact zG rfl|exact fun h=>h|(simp only[zA,zB,zC,zD,bytesW];omega)) only[go_sem,hu,r1]
 refine W_loopU (fun k:Nat=>[(19,.int .i64 k)]) (fun k w'=>St W0 w' F (DkL g (.slice (some ⟨gb,0,none⟩) m1.safe.length cb) (.slice al m1.late.length cl) { m1 with safe:=doneL m1.safe (m1.late.take k) }++L) I∧k≤m1.late.length) (fun k=>m1.late.length - k) 0 rfl ⟨h2,Nat.zero_le _⟩ ?_
 rintro k w4 ⟨h4,hk⟩
 have r4:=h4.rules 0 rfl
 have l4:=h4.low 0 rfl
 by_cases hlt:k<m1.late.length
 ·have hlt':(k:Int)<m1.late.length:=by omega
  have hL:RdS w4 2 pendV (.slice al m1.late.length cl) m1.late:=RdS.of_own' (h4.row 2 rfl) m1.late rfl rfl
  obtain ⟨p,rfl⟩:=hL.ptr (by omega)
  have eL:=hL.at pendV_len hlt
  obtain ⟨x0,x1,x2⟩:=ok2.late _ (List.getElem_mem hlt)
  obtain ⟨i0,ei⟩:=Int.eq_ofNat_of_zero_le x0
  have x1':(i0:Int)<m1.safe.length:=by omega
  simp (disch:=first|omega|exact zF rfl|exact zG rfl|exact fun h=>h|(simp only[zA,zB,zC,zD,bytesW];omega)) only[go_sem,c153L0,c153L0,hlt',eL,pendV,r4,ei]
  refine ⟨by omega,c153draw0 (Chg (fun _=>False) _) (Chg.refl _ _) ?_⟩
  have hlen:(doneL m1.safe (m1.late.take k)).length=m1.safe.length:=doneL_length ..
  have h4':=st_recast h4 (L':=[.blk g #[.slice (some ⟨gb,0,none⟩) m1.safe.length cb,.slice (some p) m1.late.length cl,.int .i64 m1.left,.bool m1.gone,.string (ofL zeroB)] 157,.row (.slice (some ⟨gb,0,none⟩) m1.safe.length cb) 9 1 m1.safe.length ((doneL m1.safe (m1.late.take k)).flatMap strE),.row (.slice (some p) m1.late.length cl) 199 2 m1.late.length (m1.late.flatMap pendV)]++L) (by simp only [DkL,hlen])
  have h5:=(h4'.box #[.int .i64 i0,.string (ofL m1.late[k].2)] 199).drew
  generalize w4.heap.size=y at h5 ⊢
  generalize (w4.alloc (.cells #[.int .i64 i0,.string (ofL m1.late[k].2)] 199)).drew=w5 at h5 ⊢
  have r5:=h5.rules 0 rfl
  have l5:=h5.low 0 rfl
  have q5:=h5.rules 1 rfl
  have m5:=h5.low 1 rfl
  clear r4 l4
  have hS:RdS w5 1 strE (.slice (some ⟨gb,0,none⟩) m1.safe.length cb) (doneL m1.safe (m1.late.take k)):=RdS.of_own' (h5.row 2 rfl) _ hlen.symm rfl
  simp (disch:=first|omega|exact zF rfl|exact zG rfl|exact fun h=>h|(simp only[zA,zB,zC,zD,bytesW];omega)) only[go_sem,c153L0,c153D0,r5,q5,x1']
  have eS:=RdS.at1 (e1:=fun s=>.string (ofL s)) hS (k:=i0) (by rw [hlen]; omega)
  rw [Addr.add_lit,Nat.zero_add] at eS
  have hfz:=(h5.row 2 rfl).frozenAt i0
  have h6:=(h5.put 2 rfl i0 (.string (ofL m1.late[k].2))).sub (List.sublist_cons_self _ _)
  have e1:doneL m1.safe (m1.late.take (k+1))=(doneL m1.safe (m1.late.take k)).set i0 m1.late[k].2:=by
   rw [List.take_succ_eq_append_getElem hlt,doneL_snoc,ei]; rfl
  have hless:=ok2.less
  refine ⟨by omega,⟨_,eS⟩,hfz,⟨by omega,by omega⟩,k+1,rfl,⟨st_recast h6 ?_,by omega⟩,by omega⟩
  simp only [DkL,e1,List.length_set,hlen]
  rw [← strE_set]
  rfl
 ·have hlt':¬ (k:Int)<m1.late.length:=by omega
  simp (disch:=first|omega|exact zF rfl|exact zG rfl|exact fun h=>h|(simp only[zA,zB,zC,zD,bytesW];omega)) only[go_sem,c153L0,c153L0,hlt',r4]
  refine ⟨.slice none 0 0,?_⟩
  have h5:=h4.set 0 rfl 1 (.slice none 0 0)
  rw [List.take_of_length_le (by omega)] at h5
  have h6:=h5.sub (L':=[.blk g #[.slice (some ⟨gb,0,none⟩) m1.safe.length cb,.slice none 0 0,.int .i64 m1.left,.bool m1.gone,.string (ofL zeroB)] 157,.row (.slice (some ⟨gb,0,none⟩) m1.safe.length cb) 9 1 (doneL m1.safe m1.late).length ((doneL m1.safe m1.late).flatMap strE)]++L) (by
   refine List.Sublist.cons_cons _ (List.Sublist.cons_cons _ ?_)
   exact List.sublist_cons_self _ _)
  exact St.front (A:=[.row (.slice none 0 0) 199 2 0 []]) (D:=[.blk g #[.slice (some ⟨gb,0,none⟩) m1.safe.length cb,.slice none 0 0,.int .i64 m1.left,.bool m1.gone,.string (ofL zeroB)] 157,.row (.slice (some ⟨gb,0,none⟩) m1.safe.length cb) 9 1 (doneL m1.safe m1.late).length ((doneL m1.safe m1.late).flatMap strE)]) (L:=L) (h6.nilRow 199 2)
end
open Go Go.Ann Go.RowKit Go.WideShapes
theorem zeros_ok(w:World) :
  Ret Tryz.prog 104 [] w fun v w'=>v=.string (ofL zeroB)∧Below w.heap.size w w':=by
 refine ent104 _ _ ?_
 simp only[go_sem,loadK_int,loadK_bool,loadK_str,loadK_slice,loadK_ptr,loadK_map,loadK_agg,loadK_other,heldW]
 refine msW_one ty181mkI rfl (by omega) (by omega) (by omega) (by omega) ?_
 simp only[go_sem,loadK_int,loadK_bool,loadK_str,loadK_slice,loadK_ptr,loadK_map,loadK_agg,loadK_other,heldW]
 exact ⟨zeroB,List.length_replicate,bytesAt_new w 256 _,rfl,(Below.refl _ _).alloc (Nat.le_refl _) _⟩
def newDk(n:Nat):Dk:={ safe:=List.replicate n zeroB,late:=[],left:=-1,gone:=false }
theorem newDk_ok{n:Nat}(h0:0<n)(h1:n≤2048):(newDk n).ok :=
 ⟨fun s hs=>by rw [List.eq_of_mem_replicate hs]; exact List.length_replicate,fun _ h=>(by cases h),⟨by simp [newDk],by simp [newDk]⟩,by simp [newDk]; omega,by simp [newDk]; omega,by simp [newDk]⟩
section
variable {W0 w:World} {F:Nat→Prop} {L:List Res} {I:List Inv}
theorem new_ok{n:Nat}(h:St W0 w F L I)(h0:0<n)(h1:n≤2048) :
  Ret Tryz.prog 40 [.int .i64 n] w fun u w'=>∃ g vb vl,u=.tuple #[.pointer (some ⟨g,0,none⟩),.int .i64 0]∧St W0 w' F (DkL g vb vl (newDk n)++L) I:=by
 have h0':¬ (n:Int)<1:=by omega
 have h1':¬ (2048:Int)<n:=by omega
 refine ent40 _ _ _ ?_
 simp (disch:=first|omega|exact zF rfl|exact zG rfl|exact fun h=>h|(simp only[zA,zB,zC,zD,bytesW];omega)) only[go_sem,h0',h1']
 refine Ret.mono (zeros_ok w) ?_
 rintro _ w2 ⟨rfl,b2⟩
 have s2:=h.call b2
 simp (disch:=first|omega|exact zF rfl|exact zG rfl|exact fun h=>h|(simp only[zA,zB,zC,zD,bytesW];omega)) only[go_sem]
 refine bdW_built (cells:=#[.slice none 0 0,.slice none 0 0,.int .i64 (-1),.bool false,.string (ofL zeroB)]) (by kernel_rfl) ?_
 have s3:=(s2.box #[.slice none 0 0,.slice none 0 0,.int .i64 (-1),.bool false,.string (ofL zeroB)] 157)
 simp (disch:=first|omega|exact zF rfl|exact zG rfl|exact fun h=>h|(simp only[zA,zB,zC,zD,bytesW];omega)) only[go_sem]
 generalize w2.heap.size=g at s3 ⊢
 generalize w2.alloc (.cells #[.slice none 0 0,.slice none 0 0,.int .i64 (-1),.bool false,.string (ofL zeroB)] 157)=w3 at s3 ⊢
 have s3:St W0 w3 F (DkL g (.slice none 0 0) (.slice none 0 0) (newDk 0)++L) I :=
  St.front (A:=[.row (.slice none 0 0) 9 1 0 [],.row (.slice none 0 0) 199 2 0 []]) (D:=[.blk g #[.slice none 0 0,.slice none 0 0,.int .i64 (-1),.bool false,.string (ofL zeroB)] 157]) (L:=L) ((s3.nilRow 199 2).nilRow 9 1)
 refine W_loopU (fun q:Nat × Value=>[(15,.int .i64 q.1)]) (fun q w'=>St W0 w' F (DkL g q.2 (.slice none 0 0) (newDk q.1)++L) I∧q.1≤n) (fun q=>n - q.1) (0,.slice none 0 0) rfl ⟨s3,Nat.zero_le _⟩ ?_
 clear s3 s2 b2
 rintro ⟨k,v⟩ w4 ⟨s4,hk⟩
 simp only at s4 hk
 by_cases hlt:k<n
 ·have hlt':(k:Int)<n:=by omega
  simp (disch:=first|omega|exact zF rfl|exact zG rfl|exact fun h=>h|(simp only[zA,zB,zC,zD,bytesW];omega)) only[go_sem,c40L0,c40L0,hlt']
  refine c40draw0 (Chg (fun _=>False) _) (Chg.refl _ _) ?_
  have s5:=s4.drew
  have r5:=s5.rules 0 rfl
  have l5:=s5.low 0 rfl
  obtain ⟨va,vc,rfl,_⟩:=own_slice (s5.row 1 rfl)
  generalize w4.drew=w5 at s5 r5 l5 ⊢
  simp (disch:=first|omega|exact zF rfl|exact zG rfl|exact fun h=>h|(simp only[zA,zB,zC,zD,bytesW];omega)) only[go_sem,c40L0,c40D0,r5]
  have ones:∀ u∈strE zeroB,u.oneCell'=true:=by simpa using strE_ones [zeroB]
  refine bsW_ones ty22mkI rfl rfl (by decide) (by decide) ones ?_
  have hx:Rd (w5.alloc (.cells (strE zeroB).toArray 9)) 1 (.slice (some ⟨w5.heap.size,0,none⟩) 1 1) 1 (strE zeroB):=rd_new (n:=1) (cs:=(strE zeroB).toArray) rfl
  simp (disch:=first|omega|exact zF rfl|exact zG rfl|exact fun h=>h|(simp only[zA,zB,zC,zD,bytesW];omega)) only[go_sem,c40L0]
  refine ⟨(Chg.refl _ _).alloc _,?_⟩
  have hlk:(newDk k).safe.length=k:=List.length_replicate
  refine (s5.alloc' (.cells (strE zeroB).toArray 9)).append 1 rfl ty22mkI rfl (by decide) hx ones (by omega) (by omega) ?_
  intro v6 w6 h6 c6
  obtain ⟨a6,d6,rfl,_⟩:=own_slice (h6.row 1 rfl)
  have r6:=h6.rules 0 rfl
  simp (disch:=first|omega|exact zF rfl|exact zG rfl|exact fun h=>h|(simp only[zA,zB,zC,zD,bytesW];omega)) only[go_sem,c40L0,r6]
  refine ⟨⟨by omega,by omega⟩,(k+1,.slice a6 ((newDk k).safe.length+1) d6),rfl,⟨st_recast (h6.set 0 rfl 0 (.slice a6 ((newDk k).safe.length+1) d6)) ?_,by simp only; omega⟩,by simp only; omega⟩
  have e:(newDk (k+1)).safe=(newDk k).safe++[zeroB]:=List.replicate_succ'
  simp only [DkL,e,List.length_append,List.length_singleton,List.flatMap_append,List.flatMap_cons,List.flatMap_nil,List.append_nil]
  rfl
 ·have hlt':¬ (k:Int)<n:=by omega
  obtain rfl:k=n:=by omega
  simp (disch:=first|omega|exact zF rfl|exact zG rfl|exact fun h=>h|(simp only[zA,zB,zC,zD,bytesW];omega)) only[go_sem,c40L0,c40L0,hlt']
  exact ⟨g,v,_,rfl,s4⟩
theorem len_ok{g:Nat}{vb vl:Value}{m:Dk}(h:St W0 w F (DkL g vb vl m++L) I)(ok:m.ok) :
  Ret Tryz.prog 105 [.pointer (some ⟨g,0,none⟩)] w fun u w'=>u=.int .i64 m.safe.length∧w'=w:=by
 obtain ⟨gb,cb,al,cl,rfl,rfl,_⟩:=dk_form h ok
 refine ent105 _ _ _ ?_
 have r1:=h.rules 0 rfl
 simp (disch:=first|omega|exact zF rfl|exact zG rfl|exact fun h=>h|(simp only[zA,zB,zC,zD,bytesW];omega)) only[go_sem,r1]
end
open Go Go.Ann Go.RowKit
def bitOf(c:Int)(k:Nat):Bool:=decide (c / 2 ^ k % 2=1)
def hasL(l:List UInt8)(i:Int):Bool:=decide (0≤i) && decide (i<8 * l.length) && bitOf (bN l (i / 8)) (i % 8).toNat
theorem and_one_u8(x:Int)(h0:0≤x)(h1:x≤255):bits BinOp.and IntKind.u8 x 1=x % 2:=by
 obtain ⟨n,rfl⟩:=Int.eq_ofNat_of_zero_le h0
 have:∀ m:Fin 256,bits BinOp.and IntKind.u8 ((m.val:Nat):Int) 1=(m.val:Int) % 2:=by decide +kernel
 exact this ⟨n,by omega⟩
theorem div_pow_bd(c:Int)(k:Nat)(hc0:0≤c)(hc:c≤255):0≤c / 2 ^ k∧c / 2 ^ k≤255:=by
 have h1:(0:Int)<2 ^ k:=Int.pow_pos (by decide)
 refine ⟨Int.ediv_nonneg hc0 (Int.le_of_lt h1),?_⟩
 exact Int.le_trans (Int.ediv_le_self _ hc0) hc
theorem has_ok(l:List UInt8)(i:Int)(w:World)(hi:I64 i) :
  Ret Tryz.prog 49 [.string (ofL l),.int .i64 i] w fun v w'=>v=.bool (hasL l i)∧w'=w:=by
 refine ent49 _ _ _ _ ?_
 simp only[go_sem,loadK_int,loadK_bool,loadK_str,loadK_slice,loadK_ptr,loadK_map,loadK_agg,loadK_other,heldW]
 refine ⟨fun h0=>?_,fun h0=>?_⟩
 ·rw [Int.tdiv_eq_ediv_of_nonneg h0,Int.tmod_eq_emod_of_nonneg h0]
  refine ⟨hi,fun h1=>⟨hi,⟨by omega,h1⟩,?_⟩,fun h1=>?_⟩
  ·have b:=bN_bd l (i / 8)
   rw [wrap_u64_id _ (by omega) (by omega),show min (i % 8).toNat 8=(i % 8).toNat by omega]
   have b':=div_pow_bd _ (i % 8).toNat b.1 b.2
   rw [and_one_u8 _ b'.1 b'.2]
   have e1:decide (0≤i)=true:=by simpa using h0
   have e2:decide (i<8 * (l.length:Int))=true:=by simp; omega
   simp [hasL,e1,e2,bitOf]
  ·have e2:decide (i<8 * (l.length:Int))=false:=by simp; omega
   simp [hasL,e2]
 ·have e2:decide (0≤i)=false:=by simp; omega
  simp [hasL,e2]
def setBit(c:Int)(k:Nat)(b:Bool):Int:=if b then (if bitOf c k then c else c+2 ^ k) else (if bitOf c k then c - 2 ^ k else c)
theorem setBit_or(c:Int)(k:Nat)(h0:0≤c)(h1:c≤255)(hk:k<8):bits .or .u8 c (IntKind.u8.wrap (1 * 2 ^ k))=setBit c k true:=by
 obtain ⟨n,rfl⟩:=Int.eq_ofNat_of_zero_le h0
 have:∀ (m:Fin 256) (k:Fin 8),bits .or .u8 ((m.val:Nat):Int) (IntKind.u8.wrap (1 * 2 ^ k.val))=setBit (m.val:Int) k.val true:=by decide +kernel
 exact this ⟨n,by omega⟩ ⟨k,hk⟩
theorem setBit_andNot(c:Int)(k:Nat)(h0:0≤c)(h1:c≤255)(hk:k<8):bits .andNot .u8 c (IntKind.u8.wrap (1 * 2 ^ k))=setBit c k false:=by
 obtain ⟨n,rfl⟩:=Int.eq_ofNat_of_zero_le h0
 have:∀ (m:Fin 256) (k:Fin 8),bits .andNot .u8 ((m.val:Nat):Int) (IntKind.u8.wrap (1 * 2 ^ k.val))=setBit (m.val:Int) k.val false:=by decide +kernel
 exact this ⟨n,by omega⟩ ⟨k,hk⟩
theorem setBit_bd(c:Int)(k:Nat)(b:Bool)(h0:0≤c)(h1:c≤255)(hk:k<8):0≤setBit c k b∧setBit c k b≤255:=by
 obtain ⟨n,rfl⟩:=Int.eq_ofNat_of_zero_le h0
 have:∀ (m:Fin 256) (k:Fin 8) (b:Bool),0≤setBit (m.val:Int) k.val b∧setBit (m.val:Int) k.val b≤255:=by decide +kernel
 exact this ⟨n,by omega⟩ ⟨k,hk⟩ b
def withL(l:List UInt8)(i:Int)(b:Bool):List UInt8 :=
 if 0≤i∧i<8 * l.length then l.set (i / 8).toNat (UInt8.ofNat (setBit (bN l (i / 8)) (i % 8).toNat b).toNat) else l
def fitsL(l:List UInt8)(i:Int):Bool:=decide (0≤i∧i<8 * l.length)
theorem with_ok(l:List UInt8)(i:Int)(b:Bool)(w:World)(hi:I64 i) :
  Ret Tryz.prog 115 [.string (ofL l),.int .i64 i,.bool b] w fun v w'=>v=.tuple #[.string (ofL (withL l i b)),.bool (fitsL l i)]∧Below w.heap.size w w':=by
 refine ent115 _ _ _ _ _ ?_
 simp only[go_sem,loadK_int,loadK_bool,loadK_str,loadK_slice,loadK_ptr,loadK_map,loadK_agg,loadK_other,heldW]
 refine ⟨fun h0=>?_,fun h0=>?_⟩
 ·rw [Int.tdiv_eq_ediv_of_nonneg h0,Int.tmod_eq_emod_of_nonneg h0]
  refine ⟨hi,fun h1=>?_,fun h1 c hc=>?_⟩
  ·have h2:¬ (0≤i∧i<8 * (l.length:Int)):=by omega
   rw [withL,fitsL,if_neg h2,decide_eq_false h2]
   exact ⟨rfl,Below.refl _ _⟩
  ·have h2:(0≤i∧i<8 * (l.length:Int)):=by omega
   have h3:0≤i / 8:=by omega
   have hlt:(i / 8).toNat<l.length:=by omega
   have hg:=List.getElem?_eq_getElem hlt
   have hcell:=cell_bytesW w l c 5 _ _ hg
   have hfr:=frozen_bytesW w l c 5 (i / 8).toNat (by omega)
   have hbn:bN l (i / 8)=(l[(i / 8).toNat].toNat:Int):=by
    rw [← bN_get l _ _ hg,Int.toNat_of_nonneg h3]
   have bd:=bN_bd l (i / 8)
   have e5:min (i % 8).toNat 8=(i % 8).toNat:=by omega
   rw [hcell,hfr,wrap_u64_id _ (show 0≤i % 8 by omega) (by omega),e5,← hbn]
   have hat:=bytesAt_bytesW w l c 5
   have key:∀ bb,bytesAt ((bytesW w l c 5).setCell ⟨w.heap.size,(i / 8).toNat,none⟩ (.int .u8 (setBit (bN l (i / 8)) (i % 8).toNat bb))) (some ⟨w.heap.size,0,none⟩) (withL l i bb):=by
    intro bb
    have bd2:=setBit_bd (bN l (i / 8)) (i % 8).toNat bb bd.1 bd.2 (by omega)
    have:=bytesAt_set hat bd2.1 bd2.2 hlt
    rw [Nat.zero_add] at this
    rw [withL,if_pos h2]
    exact this
   have hlen:∀ bb,(withL l i bb).length=l.length:=fun bb=>by rw [withL,if_pos h2,List.length_set]
   refine ⟨fun hb=>?_,fun hb=>?_⟩ <;> subst hb
   ·refine ⟨hi,⟨h3,h1⟩,_,rfl,⟨h3,h1⟩,⟨_,rfl⟩,rfl,withL l i true,hlen true,?_,?_,(below_bytesW _ _ _ _).setCell (Nat.le_refl _) _⟩
    ·rw [setBit_or _ _ bd.1 bd.2 (by omega)]; exact key true
    ·rw [fitsL,decide_eq_true h2]
   ·refine ⟨hi,⟨h3,h1⟩,_,rfl,⟨h3,h1⟩,⟨_,rfl⟩,rfl,withL l i false,hlen false,?_,?_,(below_bytesW _ _ _ _).setCell (Nat.le_refl _) _⟩
    ·rw [setBit_andNot _ _ bd.1 bd.2 (by omega)]; exact key false
    ·rw [fitsL,decide_eq_true h2]
 ·have h2:¬ (0≤i∧i<8 * (l.length:Int)):=by omega
  rw [withL,fitsL,if_neg h2,decide_eq_false h2]
  exact ⟨rfl,Below.refl _ _⟩
def emptyL(n:Int):List UInt8:=List.replicate ((n+7) / 8).toNat 0
theorem bytesAt_zeros(w:World)(n:Nat)(e:Nat):bytesAt (w.alloc (.cells (zerosA (.int .u8 0) n) e)) (some ⟨w.heap.size,0,none⟩) (List.replicate n 0):=by
 intro i b h
 simp only [Addr.add_lit,Nat.zero_add]
 obtain ⟨hi,hb⟩:=List.getElem?_eq_some_iff.1 h
 simp only [List.length_replicate] at hi
 simp only [List.getElem_replicate] at hb
 subst hb
 rw [World.cell?_alloc_at _ _ _ _ rfl]
 simp [zerosA,hi]
theorem empty_ok(n:Int)(w:World)(hi:I64 n)(hn:n≤100000000) :
  Ret Tryz.prog 114 [.int .i64 n] w fun v w'=>v=.string (ofL (emptyL n))∧Below w.heap.size w w':=by
 have hk:max 0 (n.tdiv 8+min 1 (max 0 (n.tmod 8)))=max 0 ((n+7) / 8):=by
  rcases Int.le_total 0 n with h | h
  ·rw [Int.tdiv_eq_ediv_of_nonneg h,Int.tmod_eq_emod_of_nonneg h]; omega
  ·have h1:n.tdiv 8≤0:=by
    have h2:n.tdiv 8 = -((-n) / 8):=by
     rw [← Int.tdiv_eq_ediv_of_nonneg (by omega),Int.neg_tdiv,Int.neg_neg]
    omega
   have h2:n.tmod 8≤0:=by
    have h2:n.tmod 8 = -((-n) % 8):=by
     rw [← Int.tmod_eq_emod_of_nonneg (by omega),Int.neg_tmod,Int.neg_neg]
    omega
   omega
 have hd:I64 (n.tdiv 8):=tdiv_i64 n 8 (by decide) (by decide) hi
 refine ent114 _ _ _ ?_
 simp only[go_sem,loadK_int,loadK_bool,loadK_str,loadK_slice,loadK_ptr,loadK_map,loadK_agg,loadK_other,heldW]
 refine ⟨hi,?_,?_⟩
 ·obtain ⟨h1,h2⟩:=hd
  have h3:n.tdiv 8≤100000000:=by
   rcases Int.le_total 0 n with h | h
   ·rw [Int.tdiv_eq_ediv_of_nonneg h]; omega
   ·have h2:n.tdiv 8 = -((-n) / 8):=by
     rw [← Int.tdiv_eq_ediv_of_nonneg (by omega),Int.neg_tdiv,Int.neg_neg]
    omega
  exact ⟨by omega,by omega⟩
 ·rw [hk]
  refine msW_one ty181mkI rfl (by omega) (by omega) (by omega) (by omega) ?_
  simp only[go_sem,loadK_int,loadK_bool,loadK_str,loadK_slice,loadK_ptr,loadK_map,loadK_agg,loadK_other,heldW]
  have hb:=bytesAt_zeros w (max 0 ((n+7) / 8)).toNat 5
  have e:List.replicate (max 0 ((n+7) / 8)).toNat (0:UInt8)=emptyL n:=by unfold emptyL; congr 1; omega
  rw [e] at hb
  exact ⟨emptyL n,by unfold emptyL; rw [List.length_replicate]; omega,hb,rfl,(Below.refl _ _).alloc (Nat.le_refl _) _⟩
def IsLow(l:List UInt8)(a b v:Int)(ok:Bool):Prop :=
 (ok=true∧a≤v∧0≤v∧v<b∧v<8 * l.length∧hasL l v=false∧∀ j,a≤j→0≤j→j<v→hasL l j=true) ∨
 (ok=false∧v=0∧∀ j,a≤j→0≤j→j<b→j<8 * l.length→hasL l j=true)
theorem IsLow.same{l:List UInt8}{a b v v':Int}{ok ok':Bool}(h:IsLow l a b v ok)(h':IsLow l a b v' ok'):v=v'∧ok=ok':=by
 rcases h with ⟨rfl,h1,h2,h3,h4,h5,h6⟩ | ⟨rfl,rfl,h6⟩ <;> rcases h' with ⟨rfl,g1,g2,g3,g4,g5,g6⟩ | ⟨rfl,rfl,g6⟩
 ·refine ⟨?_,rfl⟩
  rcases Int.lt_trichotomy v v' with h | h | h
  ·have:=g6 v h1 h2 h; rw [h5] at this; cases this
  ·exact h
  ·have:=h6 v' g1 g2 h; rw [g5] at this; cases this
 ·have:=g6 v h1 h2 h3 h4; rw [h5] at this; cases this
 ·have:=h6 v' g1 g2 g3 g4; rw [g5] at this; cases this
 ·exact ⟨rfl,rfl⟩
theorem hasL_255(l:List UInt8)(i:Int)(h0:0≤i)(h1:i<8 * l.length)(hb:bN l (i / 8)=255):hasL l i=true:=by
 have e1:decide (0≤i)=true:=by simpa using h0
 have e2:decide (i<8 * (l.length:Int))=true:=by simpa using h1
 have:∀ k:Fin 8,bitOf 255 k.val=true:=by decide
 have:=this ⟨(i % 8).toNat,by omega⟩
 simp [hasL,e1,e2,hb,this]
theorem lowest_ok(l:List UInt8)(a b:Int)(w:World)(ha:I64 a)(hb:I64 b)(hl:(l.length:Int)≤140737488355328) :
  Ret Tryz.prog 126 [.string (ofL l),.int .i64 a,.int .i64 b] w fun v w'=>∃ n ok,v=.tuple #[.int .i64 n,.bool ok]∧IsLow l a b n ok∧w'=w:=by
 obtain ⟨b1,b2⟩:=hb
 obtain ⟨a1,a2⟩:=ha
 refine ent126 _ _ _ _ _ ?_
 simp only[go_sem,loadK_int,loadK_bool,loadK_str,loadK_slice,loadK_ptr,loadK_map,loadK_agg,loadK_other,heldW]
 refine W_loop (fun i:Int=>[(0,.string (ofL l)),(2,.int .i64 b),(8,.int .i64 i)]) (fun i w'=>max 0 a≤i∧i≤9223372036854775807∧(∀ j,a≤j→0≤j→j<i→j<b→j<8 * l.length→hasL l j=true)∧w'=w)
  (fun i=>(9223372036854775807 - i).toNat) (max 0 a) (by rfl) ⟨by omega,by omega,fun j h1 h2 h3=>by omega,rfl⟩ ?_
 rintro i w' ⟨hi0,hi1,hall,rfl⟩
 have hii:I64 i:=⟨by omega,by omega⟩
 have i0:0≤i:=by omega
 have none:(i<b→(l.length:Int)≤i / 8)→∃ n ok,Value.tuple #[.int .i64 0,.bool false]=.tuple #[.int .i64 n,.bool ok]∧IsLow l a b n ok:=by
  intro h
  refine ⟨0,false,rfl,.inr ⟨rfl,rfl,fun j h1 h2 h3 h4=>?_⟩⟩
  rcases Int.lt_or_le j i with h5 | h5
  ·exact hall j h1 h2 h5 h3 h4
  ·have:=h (by omega); omega
 have next:∀ d:Int,1≤d→d≤8→i<b→i / 8<l.length→(∀ j,i≤j→j<i+d→j<8 * l.length→hasL l j=true) →
   ∃ s',[(0,Value.string (ofL l)),(2,Value.int .i64 b),(8,Value.int .i64 (i+d))]=[(0,Value.string (ofL l)),(2,Value.int .i64 b),(8,Value.int .i64 s')] ∧
    (max 0 a≤s'∧s'≤9223372036854775807∧(∀ j,a≤j→0≤j→j<s'→j<b→j<8 * l.length→hasL l j=true))∧(9223372036854775807 - s').toNat<(9223372036854775807 - i).toNat:=by
  intro d d1 d8 h1 h2 h3
  refine ⟨i+d,rfl,⟨by omega,by omega,fun j g1 g2 g3 g4 g5=>?_⟩,by omega⟩
  rcases Int.lt_or_le j i with h5 | h5
  ·exact hall j g1 g2 h5 g4 g5
  ·exact h3 j h5 g3 g5
 have done:i<b→i / 8<l.length→hasL l i=false→∃ n ok,Value.tuple #[.int .i64 i,.bool true]=.tuple #[.int .i64 n,.bool ok]∧IsLow l a b n ok:=by
  intro h1 h2 h3
  exact ⟨i,true,rfl,.inl ⟨rfl,by omega,i0,h1,by omega,h3,fun j g1 g2 g3=>hall j g1 g2 g3 (by omega) (by omega)⟩⟩
 simp only[go_sem,loadK_int,loadK_bool,loadK_str,loadK_slice,loadK_ptr,loadK_map,loadK_agg,loadK_other,heldW]
 rw [Int.tdiv_eq_ediv_of_nonneg i0,Int.tmod_eq_emod_of_nonneg i0]
 refine ⟨fun h1=>⟨hii,fun h2=>⟨fun h3=>⟨hii,⟨by omega,h2⟩,fun h4=>⟨⟨by omega,by omega⟩,⟨by omega,by omega⟩,?_⟩,fun h4=>?_⟩,fun h3=>?_⟩,fun h2=>?_⟩,fun h1=>?_⟩
 ·have:=next 8 (by omega) (by omega) h1 h2 (fun j g1 g2 g3=>hasL_255 l j (by omega) g3 (by rw [show j / 8=i / 8 by omega]; exact h4))
  rw [show i+7+1=i+8 by omega]
  exact this
 ·refine (has_ok l i _ hii).mono ?_
  rintro _ _ ⟨rfl,rfl⟩
  simp only[go_sem,loadK_int,loadK_bool,loadK_str,loadK_slice,loadK_ptr,loadK_map,loadK_agg,loadK_other,heldW]
  refine ⟨fun h5=>done h1 h2 h5,fun h5=>⟨⟨by omega,by omega⟩,next 1 (by omega) (by omega) h1 h2 (fun j g1 g2 g3=>by rw [show j=i by omega]; exact h5)⟩⟩
 ·refine (has_ok l i _ hii).mono ?_
  rintro _ _ ⟨rfl,rfl⟩
  simp only[go_sem,loadK_int,loadK_bool,loadK_str,loadK_slice,loadK_ptr,loadK_map,loadK_agg,loadK_other,heldW]
  refine ⟨fun h5=>done h1 h2 h5,fun h5=>⟨⟨by omega,by omega⟩,next 1 (by omega) (by omega) h1 h2 (fun j g1 g2 g3=>by rw [show j=i by omega]; exact h5)⟩⟩
 ·exact none (fun _=>h2)
 ·exact none (fun h=>by omega)
def popN(c:Int):Nat:=((List.range 8).filter (bitOf c)).length
def countL(l:List UInt8):Nat:=(l.map fun b=>popN b.toNat).sum
theorem popN_le(c:Int):popN c≤8:=by
 unfold popN
 exact Nat.le_trans (List.length_filter_le _ _) (by simp)
theorem countL_le:∀ l:List UInt8,countL l≤8 * l.length
 | []=>by simp [countL]
 | b::l=>by
  have:=countL_le l
  have h:=popN_le b.toNat
  simp only [countL,List.map_cons,List.sum_cons,List.length_cons] at *
  omega
theorem countL_take(l:List UInt8)(k:Nat)(h:k<l.length):countL (l.take (k+1))=countL (l.take k)+popN (bN l k):=by
 rw [List.take_succ_eq_append_getElem h]
 have:bN l k=(l[k].toNat:Int):=bN_get l k _ (List.getElem?_eq_getElem h)
 rw [this]
 unfold countL
 rw [List.map_append,List.sum_append]
 simp
theorem ones_ok(c:Int)(w:World)(h0:0≤c)(h1:c≤255) :
  Ret Tryz.prog 116 [.int .u8 c] w fun v w'=>v=.int .i64 (popN c)∧w'=w:=by
 refine ent116 _ _ _ ?_
 simp only[go_sem,loadK_int,loadK_bool,loadK_str,loadK_slice,loadK_ptr,loadK_map,loadK_agg,loadK_other,heldW]
 have len:str256x1466348926.length=256:=by decide +kernel
 have all:∀ m:Fin 256,bN str256x1466348926 (m.val:Int)=(popN (m.val:Int):Int):=by decide +kernel
 have e:bN str256x1466348926 c=popN c:=by
  have:=all ⟨c.toNat,by omega⟩
  rwa [show ((c.toNat:Nat):Int)=c by omega] at this
 have:=popN_le c
 refine ⟨⟨h0,by omega⟩,?_,?_⟩
 ·rw [e]; constructor <;> omega
 ·rw [e]
theorem count_ok(l:List UInt8)(w:World)(hl:(l.length:Int)≤140737488355328) :
  Ret Tryz.prog 48 [.string (ofL l)] w fun v w'=>v=.int .i64 (countL l)∧w'=w:=by
 refine ent48 _ _ _ ?_
 simp only[go_sem,loadK_int,loadK_bool,loadK_str,loadK_slice,loadK_ptr,loadK_map,loadK_agg,loadK_other,heldW]
 refine W_loop (fun k:Nat=>[(0,Value.string (ofL l)),(3,.int .i64 (countL (l.take k))),(6,.int .i64 l.length),(7,.int .i64 (k:Int))])
  (fun k w'=>k≤l.length∧w'=w) (fun k=>l.length - k) 0 (by rfl) ⟨Nat.zero_le _,rfl⟩ ?_
 rintro k w' ⟨hk,rfl⟩
 simp only[go_sem,loadK_int,loadK_bool,loadK_str,loadK_slice,loadK_ptr,loadK_map,loadK_agg,loadK_other,heldW]
 refine ⟨fun h=>⟨⟨by omega,h⟩,?_⟩,fun h=>?_⟩
 ·have bd:=bN_bd l k
  have h':k<l.length:=by omega
  have ct:=countL_take l k h'
  have c1:=countL_le (l.take (k+1))
  have c2:=countL_le (l.take k)
  have l1:(l.take (k+1)).length=k+1:=by rw [List.length_take]; omega
  have l2:(l.take k).length=k:=by rw [List.length_take]; omega
  rw [l1] at c1
  rw [l2] at c2
  refine (ones_ok _ _ bd.1 bd.2).mono ?_
  rintro _ w3 ⟨rfl,rfl⟩
  simp only[go_sem,loadK_int,loadK_bool,loadK_str,loadK_slice,loadK_ptr,loadK_map,loadK_agg,loadK_other,heldW]
  refine ⟨by constructor <;> omega,by constructor <;> omega,k+1,?_,by omega,by omega⟩
  rw [ct]; simp
 ·rw [List.take_of_length_le (by omega)]
theorem set_bits:∀ (c:Fin 256) (k j:Fin 8) (b:Bool),bitOf ((UInt8.ofNat (setBit (c.val:Int) k.val b).toNat).toNat:Int) j.val=if j=k then b else bitOf c.val j.val:=by decide +kernel
theorem bN_set(l:List UInt8)(j:Int)(u:UInt8)(h0:0≤j)(h:j<l.length)(k:Int)(hk:0≤k):bN (l.set j.toNat u) k=if k=j then (u.toNat:Int) else bN l k:=by
 by_cases e:k=j
 ·subst e
  rw [if_pos rfl]
  have:=bN_get (l.set k.toNat u) k.toNat u (by rw [List.getElem?_set_self (by omega)])
  rwa [show ((k.toNat:Nat):Int)=k by omega] at this
 ·rw [if_neg e]
  unfold bN
  rw [List.getD_eq_getElem?_getD,List.getD_eq_getElem?_getD,List.getElem?_set_ne (by omega)]
theorem hasL_in(l:List UInt8)(i:Int)(h:0≤i∧i<8 * l.length):hasL l i=bitOf (bN l (i / 8)) (i % 8).toNat:=by
 simp [hasL,h.1,h.2]
theorem withL_length(l:List UInt8)(i:Int)(b:Bool):(withL l i b).length=l.length:=by
 unfold withL; split <;> simp
theorem withL_has(l:List UInt8)(i:Int)(b:Bool)(h:fitsL l i=true)(k:Int):hasL (withL l i b) k=if k=i then b else hasL l k:=by
 have h':=of_decide_eq_true h
 by_cases hk:0≤k∧k<8 * l.length
 ·rw [hasL_in _ k (by rw [withL_length]; exact hk),hasL_in l k hk]
  unfold withL
  rw [if_pos h',bN_set _ _ _ (by omega) (by omega) _ (by omega)]
  have bd:=bN_bd l (i / 8)
  by_cases e:k / 8=i / 8
  ·rw [if_pos e]
   have:=set_bits ⟨(bN l (i / 8)).toNat,by omega⟩ ⟨(i % 8).toNat,by omega⟩ ⟨(k % 8).toNat,by omega⟩ b
   rw [show ((bN l (i / 8)).toNat:Int)=bN l (i / 8) by omega] at this
   rw [this,e]
   by_cases e2:k=i
   ·subst e2; simp
   ·rw [if_neg e2,if_neg (by intro h; have:=congrArg Fin.val h; simp only at this; omega)]
  ·rw [if_neg e,if_neg (by rintro rfl; exact e rfl)]
 ·have hn:∀ m:List UInt8,m.length=l.length→hasL m k=false:=by
   intro m hm
   unfold hasL
   rw [hm]
   rw [← Bool.decide_and,decide_eq_false hk]; rfl
  rw [hn l rfl,hn _ (withL_length l i b),if_neg (by rintro rfl; exact hk h')]
open Go Go.Ann Go.RowKit Go.WideShapes
def u8(n:Nat):UInt8:=UInt8.ofNat n
def byteC(b:UInt8):Value:=.int .u8 b.toNat
theorem byte_one(b:UInt8):∀ u∈[byteC b],u.oneCell'=true:=by intro u hu; rw [List.mem_singleton] at hu; subst hu; rfl
theorem wrap_u8(n:Nat):IntKind.u8.wrap (n:Int)=((u8 n).toNat:Int):=by
 rw [wrap_u8_mod]; unfold u8; simp
def fixL(n k:Nat):List UInt8:=(List.range k).map fun i=>u8 (n / 256 ^ i)
theorem fixL_len(n k:Nat):(fixL n k).length=k:=by unfold fixL; simp
theorem fixL_succ(n k:Nat):fixL n (k+1)=fixL n k++[u8 (n / 256 ^ k)]:=by unfold fixL; rw [List.range_succ,List.map_append]; rfl
def unfixL:List UInt8→Nat
 | []=>0
 | b::l=>b.toNat+256 * unfixL l
theorem unfixL_snoc(b:UInt8):∀ l:List UInt8,unfixL (l++[b])=unfixL l+b.toNat * 256 ^ l.length
 | []=>by simp [unfixL]
 | a::l=>by
  rw [List.cons_append,unfixL,unfixL,unfixL_snoc b l,List.length_cons,Nat.pow_succ,Nat.mul_add,← Nat.add_assoc,Nat.mul_comm (256 ^ l.length) 256,Nat.mul_left_comm]
theorem unfixL_lt:∀ l:List UInt8,unfixL l<256 ^ l.length
 | []=>by decide
 | b::l=>by
  have h1:=unfixL_lt l
  have h2:=b.toNat_lt
  rw [unfixL,List.length_cons,Nat.pow_succ]
  omega
theorem unfixL_fixL(n:Nat):∀ k,unfixL (fixL n k)=n % 256 ^ k
 | 0=>by simp [fixL,unfixL,Nat.mod_one]
 | k+1=>by
  rw [fixL_succ,unfixL_snoc,unfixL_fixL n k,fixL_len,Nat.pow_succ]
  have e:(u8 (n / 256 ^ k)).toNat=n / 256 ^ k % 256:=by unfold u8; simp
  rw [e,Nat.mod_mul,Nat.mul_comm (256 ^ k)]
theorem pow256(k:Nat):(256:Nat) ^ k=2 ^ (8 * k):=by rw [show (256:Nat)=2 ^ 8 from rfl,← Nat.pow_mul]
theorem or_next{a b i:Nat}(ha:a<2 ^ i)(hb:b<256)(hi:i≤56):bits .or .u64 (a:Int) (IntKind.u64.wrap ((b:Int) * 2 ^ i))=((a+b * 2 ^ i:Nat):Int):=by
 have h56:2 ^ i≤2 ^ 56:=Nat.pow_le_pow_right (by decide) hi
 have hb2:b * 2 ^ i≤255 * 2 ^ 56:=Nat.mul_le_mul (by omega) h56
 have e0:IntKind.u64.wrap ((b:Int) * 2 ^ i)=((b * 2 ^ i:Nat):Int):=by
  have:((b:Int) * 2 ^ i)=((b * 2 ^ i:Nat):Int):=by push_cast; rfl
  rw [this,wrap_u64_id _ (by omega) (by omega)]
 rw [e0]
 have e:(BitVec.ofInt 64 (a:Int) ||| BitVec.ofInt 64 ((b * 2 ^ i:Nat):Int)).toNat=a+b * 2 ^ i:=by
  rw [BitVec.toNat_or,BitVec.ofInt_natCast,BitVec.ofInt_natCast,BitVec.toNat_ofNat,BitVec.toNat_ofNat,Nat.mod_eq_of_lt (by omega),Nat.mod_eq_of_lt (by omega),Nat.or_comm]
  have:=Nat.shiftLeft_add_eq_or_of_lt ha b
  rw [Nat.shiftLeft_eq] at this
  rw [← this]; omega
 show IntKind.u64.wrap (((BitVec.ofInt 64 (a:Int) ||| BitVec.ofInt 64 ((b * 2 ^ i:Nat):Int)).toNat:Nat):Int)=_
 rw [e,wrap_u64_id _ (by omega) (by omega)]
theorem row_bytes{w:World}{B e n c:Nat}{a:Option Addr}{l:List UInt8}(h:w.ownsRow B e 1 (.slice a n c) n (l.map byteC)):bytesAt w a l:=by
 rcases h.2 with ⟨e,h0⟩ | ⟨g,cap,cur,e,_⟩
 ·have hl:=h.1
  rw [List.length_map] at hl
  have hn:l=[]:=List.eq_nil_of_length_eq_zero (by omega)
  simp only [Value.slice.injEq] at e
  obtain ⟨rfl,_,_⟩:=e
  exact hn
 ·simp only [Value.slice.injEq] at e
  obtain ⟨rfl,_,rfl⟩:=e
  intro j b hb
  refine h.cells rfl j _ ?_
  rw [List.getElem?_map,hb]; rfl
theorem fixed_ok(n k:Nat)(w:World)(hn:n<18446744073709551616)(hk:k≤8):Ret Tryz.prog 118 [.int .u64 n,.int .i64 k] w fun u w'=>u=.string (ofL (fixL n k))∧Below w.heap.size w w':=by
 refine ent118 _ _ _ _ ?_
 simp (disch:=first|omega|exact zF rfl|exact zG rfl|exact fun h=>h|(simp only[zA,zB,zC,zD,bytesW];omega)) only[go_sem]
 refine msW_one ty181mkI rfl (by omega) (by omega) (by omega) (by omega) ?_
 have s1:St w (w.alloc (.cells (zerosA (.int .u8 0) 8) 5)) (fun _=>False) [.row (.slice (some ⟨w.heap.size,0,none⟩) 0 8) 5 1 0 []] [] :=
  St.start.add ((Below.refl _ w).alloc (Nat.le_refl _) _) _ (World.ownsRow_made _ _ 8 (Nat.le_refl _) (by decide) (by rfl)) fun k hk=>by simp only [Res.own,Value.ownBlock,Option.some.injEq] at hk; omega
 have e8:max 0 (min (k:Int) 8)=k:=by omega
 simp (disch:=first|omega|exact zF rfl|exact zG rfl|exact fun h=>h|(simp only[zA,zB,zC,zD,bytesW];omega)) only[go_sem,e8]
 refine W_loopU (fun q:Nat × Value=>[(5,q.2),(11,.int .i64 q.1)]) (fun q w'=>St w w' (fun _=>False) [.row q.2 5 1 q.1 ((fixL n q.1).map byteC)] []∧q.1≤k) (fun q=>k - q.1) (0,.slice (some ⟨w.heap.size,0,none⟩) 0 8) rfl ⟨s1,Nat.zero_le _⟩ ?_
 clear s1
 rintro ⟨j,v⟩ w1 ⟨s1,hj⟩
 simp only at s1 hj
 obtain ⟨a,c,rfl,_⟩:=own_slice (s1.row 0 rfl)
 by_cases hlt:j<k
 ·have hlt':(j:Int)<k:=by omega
  simp (disch:=first|omega|exact zF rfl|exact zG rfl|exact fun h=>h|(simp only[zA,zB,zC,zD,bytesW];omega)) only[go_sem,c118L0,c118L0,hlt']
  have e1:IntKind.u8.wrap ((n:Int) / 2 ^ min (IntKind.u64.wrap (8 * (j:Int))).toNat 64)=((u8 (n / 256 ^ j)).toNat:Int):=by
   rw [wrap_u64_id _ (by omega) (by omega)]
   have e2:min (8 * (j:Int)).toNat 64=8 * j:=by omega
   rw [e2,← wrap_u8,pow256]
   congr 1
  rw [e1]
  refine ⟨⟨by omega,by omega⟩,bsW_ones ty181mkI rfl rfl (by decide) (by decide) (byte_one (u8 (n / 256 ^ j))) ?_⟩
  simp (disch:=first|omega|exact zF rfl|exact zG rfl|exact fun h=>h|(simp only[zA,zB,zC,zD,bytesW];omega)) only[go_sem,c118L0]
  have hx:Rd (w1.alloc (.cells #[byteC (u8 (n / 256 ^ j))] 5)) 1 (.slice (some ⟨w1.heap.size,0,none⟩) 1 1) 1 [byteC (u8 (n / 256 ^ j))]:=rd_new (n:=1) (cs:=#[byteC (u8 (n / 256 ^ j))]) rfl
  refine (s1.alloc' (.cells #[byteC (u8 (n / 256 ^ j))] 5)).append 0 rfl ty181mkI rfl (by decide) hx (byte_one _) (by omega) (by omega) ?_
  intro v6 w6 s6 c6
  simp only [List.set_cons_zero] at s6
  simp (disch:=first|omega|exact zF rfl|exact zG rfl|exact fun h=>h|(simp only[zA,zB,zC,zD,bytesW];omega)) only[go_sem,c118L0]
  refine ⟨⟨by omega,by omega⟩,(j+1,v6),rfl,⟨st_recast s6 ?_,by simp only; omega⟩,by simp only; omega⟩
  simp only [fixL_succ,List.map_append,List.map_cons,List.map_nil]
 ·have hlt':¬ (j:Int)<k:=by omega
  obtain rfl:j=k:=by omega
  simp (disch:=first|omega|exact zF rfl|exact zG rfl|exact fun h=>h|(simp only[zA,zB,zC,zD,bytesW];omega)) only[go_sem,c118L0,c118L0,hlt']
  refine ⟨fixL n j,fixL_len n j,?_,rfl,s1.bel⟩
  exact row_bytes (s1.row 0 rfl)
theorem unfixed_ok(l:List UInt8)(w:World)(hl:l.length≤8):Ret Tryz.prog 98 [.string (ofL l)] w fun u w'=>u=.int .u64 (unfixL l)∧w'=w:=by
 refine ent98 _ _ _ ?_
 have e8:min (l.length:Int) 8=l.length:=by omega
 simp (disch:=first|omega|exact zF rfl|exact zG rfl|exact fun h=>h|(simp only[zA,zB,zC,zD,bytesW];omega)) only[go_sem,e8]
 refine W_loopU (fun j:Nat=>[(3,.int .u64 (unfixL (l.take j))),(8,.int .i64 j)]) (fun j w'=>w'=w∧j≤l.length) (fun j=>l.length - j) 0 rfl ⟨rfl,Nat.zero_le _⟩ ?_
 rintro j w1 ⟨e1,hj⟩
 subst w1
 by_cases hlt:j<l.length
 ·have hlt':(j:Int)<l.length:=by omega
  simp (disch:=first|omega|exact zF rfl|exact zG rfl|exact fun h=>h|(simp only[zA,zB,zC,zD,bytesW];omega)) only[go_sem,c98L0,c98L0,hlt']
  have hb:bN l (j:Int)=((l[j].toNat:Nat):Int):=(bN_get l j _ (List.getElem?_eq_getElem hlt))
  have e2:min (8 * (j:Int)).toNat 64=8 * j:=by omega
  have hlt2:=unfixL_lt (l.take j)
  rw [List.length_take,Nat.min_eq_left (by omega),pow256] at hlt2
  have hbl:=l[j].toNat_lt
  rw [hb,wrap_u64_id _ (show 0≤((l[j].toNat:Nat):Int) by omega) (by omega),wrap_u64_id (8 * (j:Int)) (by omega) (by omega),e2,or_next hlt2 (by omega) (by omega)]
  refine ⟨by omega,⟨by omega,by omega⟩,⟨by omega,by omega⟩,j+1,?_,by omega,by omega⟩
  rw [List.take_succ_eq_append_getElem hlt,unfixL_snoc,List.length_take,Nat.min_eq_left (by omega),pow256]
  rfl
 ·have hlt':¬ (j:Int)<l.length:=by omega
  simp (disch:=first|omega|exact zF rfl|exact zG rfl|exact fun h=>h|(simp only[zA,zB,zC,zD,bytesW];omega)) only[go_sem,c98L0,c98L0,hlt']
  rw [List.take_of_length_le (by omega)]
def notB(b:UInt8):UInt8:=255 - b
def notL(l:List UInt8):List UInt8:=l.map notB
theorem notL_len(l:List UInt8):(notL l).length=l.length:=by unfold notL; simp
theorem xor255:∀ x:Fin 256,bits BinOp.xor IntKind.u8 (x.val:Int) 255=((255 - x.val:Nat):Int):=by decide +kernel
theorem xor_u8(b:UInt8):bits BinOp.xor IntKind.u8 ((b.toNat:Nat):Int) 255=(((notB b).toNat:Nat):Int):=by
 have h:=xor255 ⟨b.toNat,b.toNat_lt⟩
 rw [h]
 unfold notB
 have:=b.toNat_lt
 rw [UInt8.toNat_sub_of_le _ _ (by rw [UInt8.le_iff_toNat_le]; show b.toNat≤255; omega)]
 rfl
theorem not_ok(l:List UInt8)(w:World)(hl:(l.length:Int)≤1000000):Ret Tryz.prog 185 [.string (ofL l)] w fun u w'=>u=.string (ofL (notL l))∧Below w.heap.size w w':=by
 refine ent185 _ _ _ ?_
 simp (disch:=first|omega|exact zF rfl|exact zG rfl|exact fun h=>h|(simp only[zA,zB,zC,zD,bytesW];omega)) only[go_sem]
 intro c hc
 have hf0:∀ i,i<l.length→(bytesW w l c 5).frozen? ⟨w.heap.size,i,none⟩=false:=fun i hi=>frozen_bytesW w l c 5 i (by omega)
 refine W_loopU (fun j:Nat=>[(9,.int .i64 j)]) (fun j w'=>j≤l.length∧bytesAt w' (some ⟨w.heap.size,0,none⟩) (notL (l.take j)++l.drop j)∧(∀ i,i<l.length→w'.frozen? ⟨w.heap.size,i,none⟩=false)∧Below w.heap.size w w') (fun j=>l.length - j) 0 rfl ⟨Nat.zero_le _,bytesAt_bytesW w l c 5,hf0,below_bytesW w l c 5⟩ ?_
 rintro j w1 ⟨hj,ha,hf,hb⟩
 by_cases hlt:j<l.length
 ·have hlt':(j:Int)<l.length:=by omega
  have e1:(notL (l.take j)++l.drop j)[j]?=some l[j]:=by
   rw [List.getElem?_append_right (by rw [notL_len,List.length_take]; omega),notL_len,List.length_take,Nat.min_eq_left (by omega),Nat.sub_self,List.getElem?_drop,Nat.add_zero,List.getElem?_eq_getElem hlt]
  have ec:=ha j _ e1
  rw [Addr.add_lit,Nat.zero_add] at ec
  have ef:=hf j hlt
  simp (disch:=first|omega|exact zF rfl|exact zG rfl|exact fun h=>h|(simp only[zA,zB,zC,zD,bytesW];omega)) only[go_sem,c185L0,c185L0,hlt',ec,ef]
  rw [xor_u8]
  have hs:=bytesAt_set ha (j:=j) (n:=(((notB l[j]).toNat:Nat):Int)) (by omega) (by have:=(notB l[j]).toNat_lt; omega) (by rw [List.length_append,notL_len,List.length_take,List.length_drop]; omega)
  rw [Nat.zero_add] at hs
  refine ⟨by omega,by omega,⟨by omega,by omega⟩,j+1,rfl,⟨by omega,?_,hf,hb.setCell (Nat.le_refl _) _⟩,by omega⟩
  have e2:(notL (l.take j)++l.drop j).set j (UInt8.ofNat (((notB l[j]).toNat:Nat):Int).toNat)=notL (l.take (j+1))++l.drop (j+1):=by
   rw [List.set_append_right _ _ (by rw [notL_len,List.length_take]; omega),notL_len,List.length_take,Nat.min_eq_left (by omega),Nat.sub_self,List.drop_eq_getElem_cons hlt,List.set_cons_zero,List.take_succ_eq_append_getElem hlt]
   unfold notL
   rw [List.map_append,List.append_assoc]
   simp
  rw [e2] at hs
  exact hs
 ·have hlt':¬ (j:Int)<l.length:=by omega
  obtain rfl:j=l.length:=by omega
  simp (disch:=first|omega|exact zF rfl|exact zG rfl|exact fun h=>h|(simp only[zA,zB,zC,zD,bytesW];omega)) only[go_sem,c185L0,c185L0,hlt']
  rw [List.take_length,List.drop_length,List.append_nil] at ha
  exact ⟨notL l,notL_len l,ha,rfl,hb⟩
open Go Go.Ann Go.RowKit Go.WideShapes
structure Hd where
 seq:Nat
 used:Nat
 room:Nat
 pages:Nat
deriving DecidableEq
structure Hd.ok(h:Hd):Prop where
 seq:h.seq<18446744073709551616
 used:h.used<4294967296
 room:h.room<4294967296
 pages:h.pages<4294967296
def Hd.enc(h:Hd):List Value:=[.int .u64 h.seq,.int .i64 h.used,.int .i64 h.room,.int .i64 h.pages]
theorem Hd.len(h:Hd):h.enc.length=4:=rfl
def head0(h:Hd):List UInt8:=fixL h.seq 8++fixL h.used 4++fixL h.room 4++fixL h.pages 4
def headL(h:Hd):List UInt8:=head0 h++notL (head0 h)
theorem head0_len(h:Hd):(head0 h).length=20:=by unfold head0; simp only [List.length_append,fixL_len]
theorem headL_len(h:Hd):(headL h).length=40:=by unfold headL; rw [List.length_append,notL_len,head0_len]
def hd0:Hd:=⟨0,0,0,0⟩
def readHd(b:List UInt8):Option Hd :=
 if b.length<40 then none else if notL (b.take 20)=cutL b 20 40 then some ⟨unfixL (b.take 8),unfixL (cutL b 8 12),unfixL (cutL b 12 16),unfixL (cutL b 16 20)⟩ else none
theorem writeHead_ok(h:Hd)(ok:h.ok)(w:World):Ret Tryz.prog 152 [.agg h.enc.toArray] w fun u w'=>u=.string (ofL (headL h))∧Below w.heap.size w w':=by
 refine ent152 _ _ _ ?_
 have s1:=(St.start (W0:=w)).box h.enc.toArray 160
 have r1:=s1.rules 0 rfl
 simp (disch:=first|omega|exact zF rfl|exact zG rfl|exact fun h=>h|(simp only[zA,zB,zC,zD,bytesW];omega)) only[go_sem]
 generalize hb:w.heap.size=b at s1 r1 ⊢
 generalize w.alloc (.cells h.enc.toArray 160)=w1 at s1 r1 ⊢
 refine c152draw0 (Chg (fun _=>False) _) (Chg.refl _ _) ?_
 have s2:=s1.drew
 have r2:=s2.rules 0 rfl
 have l2:=s2.low 0 rfl
 generalize w1.drew=w2 at s2 r2 l2 ⊢
 obtain ⟨o1,o2,o3,o4⟩:=ok
 simp (disch:=first|omega|exact zF rfl|exact zG rfl|exact fun h=>h|(simp only[zA,zB,zC,zD,bytesW];omega)) only[go_sem,c152D0,r2,Hd.enc]
 rw [wrap_u64_id (h.used:Int) (by omega) (by omega),wrap_u64_id (h.room:Int) (by omega) (by omega),wrap_u64_id (h.pages:Int) (by omega) (by omega)]
 refine Ret.mono (fixed_ok h.seq 8 w2 o1 (by omega)) ?_
 rintro _ w3 ⟨rfl,b3⟩
 simp (disch:=first|omega|exact zF rfl|exact zG rfl|exact fun h=>h|(simp only[zA,zB,zC,zD,bytesW];omega)) only[go_sem]
 refine ⟨Chg.of_below b3,Ret.mono (fixed_ok h.used 4 w3 (by omega) (by omega)) ?_⟩
 rintro _ w4 ⟨rfl,b4⟩
 have b4:=Below.next b3 b4
 simp (disch:=first|omega|exact zF rfl|exact zG rfl|exact fun h=>h|(simp only[zA,zB,zC,zD,bytesW];omega)) only[go_sem]
 refine ⟨Chg.of_below b4,by simp only [fixL_len]; omega,Ret.mono (fixed_ok h.room 4 w4 (by omega) (by omega)) ?_⟩
 rintro _ w5 ⟨rfl,b5⟩
 have b5:=Below.next b4 b5
 simp (disch:=first|omega|exact zF rfl|exact zG rfl|exact fun h=>h|(simp only[zA,zB,zC,zD,bytesW];omega)) only[go_sem]
 refine ⟨Chg.of_below b5,by simp only [List.length_append,fixL_len]; omega,Ret.mono (fixed_ok h.pages 4 w5 (by omega) (by omega)) ?_⟩
 rintro _ w6 ⟨rfl,b6⟩
 have b6:=Below.next b5 b6
 simp (disch:=first|omega|exact zF rfl|exact zG rfl|exact fun h=>h|(simp only[zA,zB,zC,zD,bytesW];omega)) only[go_sem]
 refine ⟨Chg.of_below b6,by simp only [List.length_append,fixL_len]; omega,Ret.mono (not_ok (head0 h) w6 (by rw [head0_len]; omega)) ?_⟩
 rintro _ w7 ⟨rfl,b7⟩
 have hl:=head0_len h
 simp (disch:=first|omega|exact zF rfl|exact zG rfl|exact fun h=>h|(simp only[zA,zB,zC,zD,bytesW];omega)) only[go_sem]
 refine ⟨?_,rfl,?_⟩
 ·rw [notL_len,hl]
  show ((head0 h).length:Int)+(20:Nat)≤_
  rw [hl]; omega
 ·rw [← hb]
  exact (s2.call (Below.next b6 b7)).bel
theorem readAt_ok(b:List UInt8)(y:Nat)(i j:Nat)(w:World)(hy:w.cell? ⟨y,0,none⟩=some (.string (ofL b)))(hj:j=i+4)(hi:j≤b.length)(hb:b.length≤1000) :
  Ret Tryz.prog 186 [.int .i64 i,.pointer (some ⟨y,0,none⟩)] w fun u w'=>u=.int .i64 (unfixL (cutL b i j))∧w'=w:=by
 refine ent186 _ _ _ _ ?_
 simp (disch:=first|omega|exact zF rfl|exact zG rfl|exact fun h=>h|(simp only[zA,zB,zC,zD,bytesW];omega)) only[go_sem,hy]
 subst hj
 have hc:(cutL b (i:Int) ((i:Int)+4)).length=4:=by
  unfold cutL; rw [List.length_drop,List.length_take]; omega
 refine ⟨⟨by omega,by omega⟩,⟨by omega,by omega,by omega⟩,Ret.mono (unfixed_ok _ w (by rw [hc]; omega)) ?_⟩
 rintro _ w2 ⟨rfl,e2⟩
 subst w2
 have hlt:=unfixL_lt (cutL b (i:Int) ((i:Int)+4))
 rw [hc] at hlt
 have hlt:unfixL (cutL b (i:Int) ((i:Int)+4))<4294967296:=hlt
 simp (disch:=first|omega|exact zF rfl|exact zG rfl|exact fun h=>h|(simp only[zA,zB,zC,zD,bytesW];omega)) only[go_sem]
 constructor <;> omega
theorem readHead_ok(b:List UInt8)(hb:b.length≤1000)(w:World):Ret Tryz.prog 154 [.string (ofL b)] w fun u w'=>u=.tuple #[.agg ((readHd b).getD hd0).enc.toArray,.bool (readHd b).isSome]∧Below w.heap.size w w':=by
 refine ent154 _ _ _ ?_
 have s1:=((St.start (W0:=w)).box #[.string (ofL b)] 9).box #[.int .u64 0,.int .i64 0,.int .i64 0,.int .i64 0] 160
 simp (disch:=first|omega|exact zF rfl|exact zG rfl|exact fun h=>h|(simp only[zA,zB,zC,zD,bytesW];omega)) only[go_sem]
 rw [World.size_alloc] at s1
 generalize hw:w.heap.size=y at s1 ⊢
 refine c154draw0 (Chg (fun _=>False) _) (Chg.refl _ _) ?_
 have s2:=s1.drew
 have r2:=s2.rules 1 rfl
 have l2:=s2.low 1 rfl
 generalize hw2:((w.alloc (.cells #[.string (ofL b)] 9)).alloc (.cells #[.int .u64 0,.int .i64 0,.int .i64 0,.int .i64 0] 160)).drew=w2 at s2 r2 l2 ⊢
 by_cases h40:b.length<40
 ·have h40':(b.length:Int)<40:=by omega
  have e0:readHd b=none:=by unfold readHd; rw [if_pos h40]
  have q2:=s2.rules 0 rfl
  simp (disch:=first|omega|exact zF rfl|exact zG rfl|exact fun h=>h|(simp only[zA,zB,zC,zD,bytesW];omega)) only[go_sem,c154D0,r2,h40',q2]
  refine bdW_built (cells:=#[.int .u64 0,.int .i64 0,.int .i64 0,.int .i64 0]) (by kernel_rfl) ?_
  simp (disch:=first|omega|exact zF rfl|exact zG rfl|exact fun h=>h|(simp only[zA,zB,zC,zD,bytesW];omega)) only[go_sem,q2]
  rw [e0]
  exact ⟨rfl,hw ▸ (s2.fill 0 rfl (cs:=#[.int .u64 0,.int .i64 0,.int .i64 0,.int .i64 0]) rfl).bel⟩
 ·have h40':¬ (b.length:Int)<40:=by omega
  simp (disch:=first|omega|exact zF rfl|exact zG rfl|exact fun h=>h|(simp only[zA,zB,zC,zD,bytesW];omega)) only[go_sem,c154D0,r2,h40']
  refine ⟨by omega,by omega,Ret.mono (not_ok (b.take 20) w2 (by rw [List.length_take]; omega)) ?_⟩
  rintro _ w3 ⟨rfl,b3⟩
  have s3:=s2.call b3
  have r3:=s3.rules 1 rfl
  have q3:=s3.rules 0 rfl
  by_cases hn:notL (b.take 20)=cutL b 20 40
  ·have e0:readHd b=some ⟨unfixL (b.take 8),unfixL (cutL b 8 12),unfixL (cutL b 12 16),unfixL (cutL b 16 20)⟩:=by unfold readHd; rw [if_neg h40,if_pos hn]
   rw [e0]
   simp (disch:=first|omega|exact zF rfl|exact zG rfl|exact fun h=>h|(simp only[zA,zB,zC,zD,bytesW];omega)) only[go_sem,c154D0,hn,r3]
   have l8:(b.take 8).length=8:=by rw [List.length_take]; omega
   have h8:=unfixL_lt (b.take 8)
   rw [l8] at h8
   have h8:unfixL (b.take 8)<18446744073709551616:=h8
   refine ⟨Chg.of_below b3,by omega,Ret.mono (unfixed_ok (b.take 8) w3 (by omega)) ?_⟩
   rintro _ w4 ⟨rfl,e4⟩
   subst w4
   have hy:w3.cell? ⟨y,0,none⟩=some (.string (ofL b)):=(s3.blk 1 rfl).cell 0
   simp (disch:=first|omega|exact zF rfl|exact zG rfl|exact fun h=>h|(simp only[zA,zB,zC,zD,bytesW];omega)) only[go_sem]
   refine callW_go ⟨by kernel_rfl,Ret.mono (readAt_ok b y 8 12 w3 hy rfl (by omega) hb) ?_⟩
   rintro _ w4 ⟨rfl,e4⟩
   subst w4
   simp (disch:=first|omega|exact zF rfl|exact zG rfl|exact fun h=>h|(simp only[zA,zB,zC,zD,bytesW];omega)) only[go_sem]
   refine callW_go ⟨by kernel_rfl,Ret.mono (readAt_ok b y 12 16 w3 hy rfl (by omega) hb) ?_⟩
   rintro _ w4 ⟨rfl,e4⟩
   subst w4
   simp (disch:=first|omega|exact zF rfl|exact zG rfl|exact fun h=>h|(simp only[zA,zB,zC,zD,bytesW];omega)) only[go_sem]
   refine callW_go ⟨by kernel_rfl,Ret.mono (readAt_ok b y 16 20 w3 hy rfl (by omega) hb) ?_⟩
   rintro _ w4 ⟨rfl,e4⟩
   subst w4
   simp (disch:=first|omega|exact zF rfl|exact zG rfl|exact fun h=>h|(simp only[zA,zB,zC,zD,bytesW];omega)) only[go_sem]
   refine bdW_built (cells:=(Hd.mk (unfixL (b.take 8)) (unfixL (cutL b 8 12)) (unfixL (cutL b 12 16)) (unfixL (cutL b 16 20))).enc.toArray) (by kernel_rfl) ?_
   simp (disch:=first|omega|exact zF rfl|exact zG rfl|exact fun h=>h|(simp only[zA,zB,zC,zD,bytesW];omega)) only[go_sem,q3,Hd.enc]
   exact ⟨rfl,hw ▸ (s3.fill 0 rfl (cs:=(Hd.mk (unfixL (b.take 8)) (unfixL (cutL b 8 12)) (unfixL (cutL b 12 16)) (unfixL (cutL b 16 20))).enc.toArray) rfl).bel⟩
  ·have e0:readHd b=none:=by unfold readHd; rw [if_neg h40,if_neg hn]
   rw [e0]
   simp (disch:=first|omega|exact zF rfl|exact zG rfl|exact fun h=>h|(simp only[zA,zB,zC,zD,bytesW];omega)) only[go_sem,c154D0,hn,r3]
   refine ⟨Chg.of_below b3,bdW_built (cells:=#[.int .u64 0,.int .i64 0,.int .i64 0,.int .i64 0]) (by kernel_rfl) ?_⟩
   simp (disch:=first|omega|exact zF rfl|exact zG rfl|exact fun h=>h|(simp only[zA,zB,zC,zD,bytesW];omega)) only[go_sem,q3]
   exact ⟨rfl,hw ▸ (s3.fill 0 rfl (cs:=#[.int .u64 0,.int .i64 0,.int .i64 0,.int .i64 0]) rfl).bel⟩
open Go Go.Ann Go.RowKit Go.WideShapes
def intK(n:Int):Value:=.int .i64 n
def strK(l:List UInt8):Value:=.string (ofL l)
structure Sto where
 hd:Hd
 dirty:List (Int × List UInt8 × Nat)
 clock:Nat
 dead:Bool
 disk:Dk
def StoH(b mb g:Nat)(s:Sto):List Res :=
 [.blk b #[.pointer (some ⟨g,0,none⟩),.int .u64 s.hd.seq,.int .i64 s.hd.used,.int .i64 s.hd.room,.int .i64 s.hd.pages,.map (some mb),.bool s.dead] 165,.obj mb (mapG intK strK s.dirty s.clock)]
def StoL(b mb g:Nat)(vb vl:Value)(s:Sto):List Res:=StoH b mb g s++DkL g vb vl s.disk
theorem sto_disk{W0 w:World}{F:Nat→Prop}{L:List Res}{I:List Inv}{b mb g:Nat}{vb vl:Value}{s:Sto}(h:St W0 w F (StoL b mb g vb vl s++L) I):St W0 w F (DkL g vb vl s.disk++(StoH b mb g s++L)) I :=
 St.front (A:=StoH b mb g s) (D:=DkL g vb vl s.disk) (L:=L) (by rw [← List.append_assoc]; exact h)
structure Sto.ok(s:Sto):Prop where
 hd:s.hd.ok
 disk:s.disk.ok
 room:1≤s.hd.room
 pages:1≤s.hd.pages
 few:s.hd.pages≤1024
 fit:2+s.hd.room+s.hd.pages≤s.disk.safe.length
 keys:∀ x∈s.dirty,0≤x.1∧x.1<s.hd.pages∧x.2.1.length=256
 nd:(s.dirty.map Prod.fst).Nodup
 born:(s.dirty.map fun x=>x.2.2).Nodup
 clock:∀ x∈s.dirty,x.2.2<s.clock
theorem keyT_n:KeyT Tryz.prog 3 intK (.int .i64):=keyT_int Tryz.underlying3
section
variable {W0 w:World} {F:Nat→Prop} {L:List Res} {I:List Inv} {b mb g:Nat} {vb vl:Value} {s:Sto}
def stReady(s:Sto)(i:Int):Int:=if s.dead=true then 11 else if 0≤i∧i<s.hd.pages then 0 else 10
theorem sready_ok(i:Int)(h:St W0 w F (StoL b mb g vb vl s++L) I) :
  Ret Tryz.prog 159 [.pointer (some ⟨b,0,none⟩),.int .i64 i] w fun u w'=>u=.int .i64 (stReady s i)∧w'=w:=by
 refine ent159 _ _ _ _ ?_
 have r1:=h.rules 0 rfl
 simp (disch:=first|omega|exact zF rfl|exact zG rfl|exact fun h=>h|(simp only[zA,zB,zC,zD,bytesW];omega)) only[go_sem,r1]
 unfold stReady
 refine ⟨fun hg=>?_,fun hg=>?_⟩
 ·rw [if_pos hg]
 ·rw [if_neg (by rw [hg]; decide)]
  by_cases h0:0≤i
  ·by_cases h1:i<s.hd.pages
   ·rw [if_pos ⟨h0,h1⟩]
    exact ⟨fun _=>⟨fun h=>by omega,fun _=>rfl⟩,fun h=>by omega⟩
   ·rw [if_neg (by omega)]
    exact ⟨fun _=>⟨fun _=>rfl,fun h=>by omega⟩,fun h=>by omega⟩
  ·rw [if_neg (by omega)]
   exact ⟨fun h=>by omega,fun _=>rfl⟩
theorem stReady_in{i:Int}(h:stReady s i=0):0≤i∧i<s.hd.pages∧s.dead=false:=by
 unfold stReady at h
 split at h
 ·cases h
 ·rename_i hd
  split at h
  ·rename_i h2
   exact ⟨h2.1,h2.2,by simpa using hd⟩
  ·cases h
theorem slen_ok(h:St W0 w F (StoL b mb g vb vl s++L) I) :
  Ret Tryz.prog 47 [.pointer (some ⟨b,0,none⟩)] w fun u w'=>u=.int .i64 s.hd.pages∧w'=w:=by
 refine ent47 _ _ _ ?_
 have r1:=h.rules 0 rfl
 simp (disch:=first|omega|exact zF rfl|exact zG rfl|exact fun h=>h|(simp only[zA,zB,zC,zD,bytesW];omega)) only[go_sem,r1]
def homeN(s:Sto)(i:Int):Int:=2+s.hd.room+i
def stRead(s:Sto)(i:Int):Sto × List UInt8 × Int :=
 if stReady s i≠0 then (s,[],stReady s i) else
 match getM i s.dirty with
 | some x=>(s,x,0)
 | none=>(if (readN s.disk (homeN s i)).2=0 then s else { s with dead:=true },readN s.disk (homeN s i))
theorem sread_ok(i:Int)(h:St W0 w F (StoL b mb g vb vl s++L) I)(ok:s.ok) :
  Ret Tryz.prog 112 [.pointer (some ⟨b,0,none⟩),.int .i64 i] w fun u w'=>u=.tuple #[.string (ofL (stRead s i).2.1),.int .i64 (stRead s i).2.2]∧St W0 w' F (StoL b mb g vb vl (stRead s i).1++L) I:=by
 refine ent112 _ _ _ _ ?_
 simp (disch:=first|omega|exact zF rfl|exact zG rfl|exact fun h=>h|(simp only[zA,zB,zC,zD,bytesW];omega)) only[go_sem]
 refine Ret.mono (sready_ok i h) ?_
 rintro _ w2 ⟨rfl,e2⟩
 subst w2
 unfold stRead
 by_cases hr:stReady s i=0
 case neg =>
  rw [if_pos hr]
  simp (disch:=first|omega|exact zF rfl|exact zG rfl|exact fun h=>h|(simp only[zA,zB,zC,zD,bytesW];omega)) only[go_sem,hr]
  exact h
 rw [if_neg (by omega)]
 have r1:=h.rules 0 rfl
 simp (disch:=first|omega|exact zF rfl|exact zG rfl|exact fun h=>h|(simp only[zA,zB,zC,zD,bytesW];omega)) only[go_sem,hr,r1]
 refine luG_map (ek:=intK) (ev:=strK) keyT_n Tryz.underlying163 (h.obj 1 rfl) i (by rfl) ?_
 cases hg:getM i s.dirty with
 | some x =>
  simp (disch:=first|omega|exact zF rfl|exact zG rfl|exact fun h=>h|(simp only[zA,zB,zC,zD,bytesW];omega)) only[go_sem,luG]
  exact ⟨rfl,h⟩
 | none =>
  simp (disch:=first|omega|exact zF rfl|exact zG rfl|exact fun h=>h|(simp only[zA,zB,zC,zD,bytesW];omega)) only[go_sem,luG]
  refine c112draw0 (Chg (fun _=>False) _) (Chg.refl _ _) ?_
  have h2:=h.drew
  have r2:=h2.rules 0 rfl
  have l2:=h2.low 0 rfl
  generalize w.drew=w2 at h2 r2 l2 ⊢
  have hin:=stReady_in hr
  have hp:=ok.few
  have hf:=ok.fit
  have hs:=ok.disk.few
  simp (disch:=first|omega|exact zF rfl|exact zG rfl|exact fun h=>h|(simp only[zA,zB,zC,zD,bytesW];omega)) only[go_sem,c112D0,r2]
  refine ⟨by constructor <;> omega,by constructor <;> omega,Ret.mono (read_ok (2+(s.hd.room:Int)+i) (sto_disk h2) ok.disk) ?_⟩
  rintro _ w3 ⟨rfl,b3⟩
  have h3:=h2.call b3
  have r3:=h3.rules 0 rfl
  rw [show (2+(s.hd.room:Int)+i)=homeN s i from rfl]
  by_cases he:(readN s.disk (homeN s i)).2=0
  ·rw [if_pos he]
   simp (disch:=first|omega|exact zF rfl|exact zG rfl|exact fun h=>h|(simp only[zA,zB,zC,zD,bytesW];omega)) only[go_sem,he]
   exact h3
  ·rw [if_neg he]
   simp (disch:=first|omega|exact zF rfl|exact zG rfl|exact fun h=>h|(simp only[zA,zB,zC,zD,bytesW];omega)) only[go_sem,he,r3]
   exact h3.set 0 rfl 6 (.bool true)
def stWrite(s:Sto)(i:Int)(data:List UInt8):Sto × Int :=
 if stReady s i≠0 then (s,stReady s i) else if 256<data.length then (s,21) else
 ({ s with dirty:=setM i (filledL data) s.clock s.dirty,clock:=if (getM i s.dirty).isSome then s.clock else s.clock+1 },0)
theorem swrite_ok(i:Int)(data:List UInt8)(h:St W0 w F (StoL b mb g vb vl s++L) I) :
  Ret Tryz.prog 132 [.pointer (some ⟨b,0,none⟩),.int .i64 i,.string (ofL data)] w fun u w'=>u=.int .i64 (stWrite s i data).2∧St W0 w' F (StoL b mb g vb vl (stWrite s i data).1++L) I:=by
 refine ent132 _ _ _ _ _ ?_
 simp (disch:=first|omega|exact zF rfl|exact zG rfl|exact fun h=>h|(simp only[zA,zB,zC,zD,bytesW];omega)) only[go_sem]
 refine Ret.mono (sready_ok i h) ?_
 rintro _ w2 ⟨rfl,e2⟩
 subst w2
 unfold stWrite
 by_cases hr:stReady s i=0
 case neg =>
  rw [if_pos hr]
  simp (disch:=first|omega|exact zF rfl|exact zG rfl|exact fun h=>h|(simp only[zA,zB,zC,zD,bytesW];omega)) only[go_sem,hr]
  exact h
 rw [if_neg (by omega)]
 by_cases hd:256<data.length
 ·have hd':(256:Int)<data.length:=by omega
  rw [if_pos hd]
  simp (disch:=first|omega|exact zF rfl|exact zG rfl|exact fun h=>h|(simp only[zA,zB,zC,zD,bytesW];omega)) only[go_sem,hr,hd']
  exact h
 have hd':¬ (256:Int)<data.length:=by omega
 rw [if_neg hd]
 simp (disch:=first|omega|exact zF rfl|exact zG rfl|exact fun h=>h|(simp only[zA,zB,zC,zD,bytesW];omega)) only[go_sem,hr,hd']
 refine c132draw0 (Chg (fun _=>False) _) (Chg.refl _ _) ?_
 have h2:=h.drew
 have r2:=h2.rules 0 rfl
 have l2:=h2.low 0 rfl
 generalize w.drew=w2 at h2 r2 l2 ⊢
 simp (disch:=first|omega|exact zF rfl|exact zG rfl|exact fun h=>h|(simp only[zA,zB,zC,zD,bytesW];omega)) only[go_sem,c132D0,r2]
 refine ⟨by constructor <;> omega,msW_one ty181mkI rfl (by omega) (by omega) (by omega) (by omega) ?_⟩
 have e:((256:Int) - (data.length:Int)).toNat=256 - data.length:=by omega
 rw [e]
 have h3:=h2.alloc' (.cells (zerosA (.int .u8 0) (256 - data.length)) 5)
 have hat:bytesAt (w2.alloc (.cells (zerosA (.int .u8 0) (256 - data.length)) 5)) (some ⟨w2.heap.size,0,none⟩) (List.replicate (256 - data.length) 0):=bytesAt_zeros w2 (256 - data.length) _
 have ch:Chg (fun _=>False) w2 (w2.alloc (.cells (zerosA (.int .u8 0) (256 - data.length)) 5)):=(Chg.refl _ _).alloc _
 generalize w2.alloc (.cells (zerosA (.int .u8 0) (256 - data.length)) 5)=w3 at h3 hat ch ⊢
 simp (disch:=first|omega|exact zF rfl|exact zG rfl|exact fun h=>h|(simp only[zA,zB,zC,zD,bytesW];omega)) only[go_sem]
 refine ⟨ch,_,List.length_replicate,hat,ch,by rw [List.length_replicate]; omega,?_⟩
 refine muG_map (ek:=intK) (ev:=strK) keyT_n Tryz.underlying163 (fun a=>by simp [Instr.sameBits,intK]) (h3.obj 1 rfl) i (filledL data) ?_
 simp (disch:=first|omega|exact zF rfl|exact zG rfl|exact fun h=>h|(simp only[zA,zB,zC,zD,bytesW];omega)) only[go_sem]
 exact h3.putObj 1 rfl (mapG intK strK (setM i (filledL data) s.clock s.dirty) (if (getM i s.dirty).isSome then s.clock else s.clock+1))
end
end Go.Proofs.YtkmjkmjpejmlnaaGreat

end
