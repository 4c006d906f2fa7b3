/- Texts put together by program. -/
import Derived.Test.YteiciplnfjnfjaaGreatQD4
set_option linter.unusedSimpArgs false
set_option linter.unusedVariables false
set_option maxRecDepth 100000
noncomputable section

namespace Go.Proofs.YteiciplnfjnfjaaGreat
open Go Go.Ann Go.RowKit
theorem rd_blk1{w:World}{b:Nat}{x:Int}(h:Blk w b #[.int .i64 x] 3):Rd w 1 (.slice (some ⟨b,0,none⟩) 1 1) 1 (intE x) :=
 ⟨rfl,_,1,rfl,Nat.le_refl _,fun _=>⟨_,rfl,fun j u hu=>by rw [Addr.add_lit,Nat.zero_add,h.cell]; simpa [intE] using hu⟩⟩
set_option maxHeartbeats 2000000 in
theorem rdo_ok(v:Value)(s:List Int)(o:OpT)(w:World)(h:RdS w 1 intE v s)(hl:s.length≤1000000)(hs:o.Kind=5→s.Pairwise (· < ·)) :
  Ret Tryz.prog 135 [v,.agg o.enc.toArray] w fun u w'=>StepA w w' v (doP s o) u∧Below w.heap.size w w':=by
 obtain ⟨a,c,rfl,hac⟩:=h.form
 refine ent135 _ _ _ _ ?_
 have ho:=o.at
 have s2:=((St.start (W0:=w)).box o.enc.toArray 38).box #[.slice none 0 0,.int .i64 0,.bool false] 176
 rw [World.size_alloc] at s2
 have r0:=s2.rules 1 rfl
 simp (disch:=first|omega|exact zF rfl|exact zG rfl|exact id|(simp only[zA,zB,zC,zD,bytesW];omega)) only[go_sem,c135S11]
 refine c135draw0 ?_
 have s3:=s2.drew
 have r3:=s3.rules 1 rfl
 simp (disch:=first|omega|exact zF rfl|exact zG rfl|exact id|(simp only[zA,zB,zC,zD,bytesW];omega)) only[go_sem,c135S11,c135D0,r0,ho]
 generalize ((w.alloc (.cells o.enc.toArray 38)).alloc (.cells #[.slice none 0 0,.int .i64 0,.bool false] 176)).drew=w2 at s3 r3 ⊢
 clear s2 r0
 have h2:=h.below s3.bel (by decide)
 have q3:=s3.rules 0 rfl
 have hsz:=s3.size
 have lt0:=(s3.low 0 rfl).2
 have res:∀ {w3:World} {z:Array Value} {u:Value} {t:List Int} {n:Int},St w w3 (fun _=>False) [.blk (w.heap.size+1) z 176,.blk w.heap.size o.enc.toArray 38] []→z.size=3→doP s o=some (t,n)→RdS w3 1 intE u t →
   (∀ k,slFoot u k→slFoot (.slice a s.length c) k∨w.heap.size≤k)→(∀ k,slFoot u k→k≠w.heap.size+1) →
   StepA w (w3.fill (w.heap.size+1) #[u,.int .i64 n,.bool true]) (.slice a s.length c) (doP s o) (.agg #[u,.int .i64 n,.bool true])∧Below w.heap.size w (w3.fill (w.heap.size+1) #[u,.int .i64 n,.bool true]):=by
  intro w3 z u t n s4 hz e hu hf hne
  refine ⟨⟨_,_,_,rfl,by obtain ⟨a,c,e,_⟩:=hu.form; exact ⟨_,_,_,e⟩,?_⟩,(s4.fill 0 rfl (cs:=#[u,.int .i64 n,.bool true]) (by rw [hz]; rfl)).bel⟩
  rw [e]
  refine ⟨rfl,rfl,RdS.loc hu fun k hk=>?_,hf⟩
  exact ((Chg.refl (fun k=>k=w.heap.size+1) w3).fill (b:=w.heap.size+1) (cs:=#[u,.int .i64 n,.bool true]) fun _=>rfl).block k (hu.footLt (by decide) hk) (hne k hk)
 have bad:∀ {w3:World} {z:Array Value},St w w3 (fun _=>False) [.blk (w.heap.size+1) z 176,.blk w.heap.size o.enc.toArray 38] []→z.size=3→doP s o=none →
   StepA w (w3.fill (w.heap.size+1) #[.slice none 0 0,.int .i64 0,.bool false]) (.slice a s.length c) (doP s o) (.agg #[.slice none 0 0,.int .i64 0,.bool false])∧Below w.heap.size w (w3.fill (w.heap.size+1) #[.slice none 0 0,.int .i64 0,.bool false]):=by
  intro w3 z s4 hz e
  exact ⟨⟨_,_,_,rfl,⟨_,_,_,rfl⟩,by rw [e]⟩,(s4.fill 0 rfl (cs:=#[.slice none 0 0,.int .i64 0,.bool false]) (by rw [hz]; rfl)).bel⟩
 have oldF:∀ {k},slFoot (.slice a s.length c) k→slFoot (.slice a s.length c) k∨w.heap.size≤k:=fun hk=>.inl hk
 have push:∀ (x y:Int),doP s o=some (s++[o.Arg],0)→drawW Tryz.prog (drawOps 1 c135code) [4]
   [(0,.slice a s.length c),(3,.pointer (some ⟨w.heap.size,0,none⟩)),(4,.pointer (some ⟨w.heap.size+1,0,none⟩)),(5,.int .i64 x),(6,.int .i64 y),(34,.bool true)] w2
   (thenQ Tryz.prog (sg c135S1) (thenQ Tryz.prog (sg c135S18) (finQ Tryz.prog [.cell 4 176] fun u w'=>StepA w w' (.slice a s.length c) (doP s o) u∧Below w.heap.size w w'))):=by
  intro x y hd
  refine c135draw1 (Chg (fun k=>k=w.heap.size+1) _) (Chg.refl _ _) ?_
  have s4:=s3.drew
  have r4:=s4.rules 1 rfl
  have t4:=St.start (W0:=w2.drew)
  have hx:Rd w2.drew 1 (.slice a s.length c) s.length (s.flatMap intE):=h2.below (Below.refl _ w2).drew (by decide)
  have h4:RdS w2.drew 1 intE (.slice a s.length c) s:=hx
  simp (disch:=first|omega|exact zF rfl|exact zG rfl|exact id|(simp only[zA,zB,zC,zD,bytesW];omega)) only[go_sem,c135S11,c135S20,c135D1,r4,ho]
  have cel:∀ {w7:World},St w w7 (fun _=>False) [.blk (w.heap.size+1) #[.slice none 0 0,.int .i64 0,.bool false] 176,.blk w.heap.size o.enc.toArray 38] []→(∀ i,w7.cell? ⟨w.heap.size+1,i,none⟩=(#[Value.slice none 0 0,.int .i64 0,.bool false])[i]?)∧(∀ i,w7.frozen? ⟨w.heap.size+1,i,none⟩=false):=fun s7=>⟨(s7.rules 0 rfl).1,(s7.rules 0 rfl).2.1⟩
  have fin:∀ {u:Value} {w8:World},St w2.drew w8 (fun _=>False) [.row u 3 1 (s.length+1) (s.flatMap intE++intE o.Arg)] []→RdS w8 1 intE u (s++[o.Arg])∧∀ k,slFoot u k→w.heap.size+2≤k:=fun t8=>by
   refine ⟨RdS.of_own' (t8.row 0 rfl) (s++[o.Arg]) (by simp) (by rw [List.flatMap_append]; simp),fun k hk=>?_⟩
   have:=(World.ownsRow.lt (t8.row 0 rfl) k (slFoot_own hk)).1
   simp only [World.size_drew] at this
   omega
  refine ⟨?_,?_⟩
  ·refine bsW_none ty66mkI ?_
   have t5:=t4.emptyRow 3 1
   simp (disch:=first|omega|exact zF rfl|exact zG rfl|exact id|(simp only[zA,zB,zC,zD,bytesW];omega)) only[go_sem,c135S11,c135S20]
   refine ⟨Chg.of_below t5.bel,?_,?_⟩
   ·refine t5.append 0 rfl ty66mkI rfl (by decide) (Rd.below hx (t5.bel) (by decide)) (ints_one s) (by omega) (by omega) ?_
    intro v6 w6 t6 c6
    simp only [List.set_cons_zero,List.nil_append,Nat.zero_add] at t6
    obtain ⟨a6,d6,rfl,_⟩:=own_slice (t6.row 0 rfl)
    simp (disch:=first|omega|exact zF rfl|exact zG rfl|exact id|(simp only[zA,zB,zC,zD,bytesW];omega)) only[go_sem,c135S11,c135S20]
    refine ⟨Chg.of_below t6.bel,bsW_ones ty66mkI rfl rfl (by decide) (by decide) (intE_one _) ?_⟩
    simp (disch:=first|omega|exact zF rfl|exact zG rfl|exact id|(simp only[zA,zB,zC,zD,bytesW];omega)) only[go_sem,c135S11,c135S20]
    have t7:=t6.alloc' (.cells #[.int .i64 o.Arg] 3)
    refine ⟨Chg.of_below t7.bel,t7.append 0 rfl ty66mkI rfl (by decide) (show Rd _ 1 (.slice (some ⟨w6.heap.size,0,none⟩) 1 1) 1 (intE o.Arg) from rd_new (n:=1) (cs:=#[.int .i64 o.Arg]) rfl) (intE_one _) (by omega) (by omega) ?_⟩
    intro v8 w8 t8 c8
    simp only [List.set_cons_zero] at t8
    obtain ⟨a8,d8,rfl,_⟩:=own_slice (t8.row 0 rfl)
    simp (disch:=first|omega|exact zF rfl|exact zG rfl|exact id|(simp only[zA,zB,zC,zD,bytesW];omega)) only[go_sem,c135S11,c135S20]
    refine ⟨Chg.of_below t8.bel,?_⟩
    refine bdW_built (cells:=#[.slice a8 (s.length+1) d8,.int .i64 0,.bool true]) (by kernel_rfl) ?_
    have s8:=s4.call t8.bel
    have e8:=cel s8
    obtain ⟨f1,f2⟩:=fin t8
    simp (disch:=first|omega|exact zF rfl|exact zG rfl|exact id|(simp only[zA,zB,zC,zD,bytesW];omega)) only[go_sem,c135S11,c135S20,e8]
    refine ⟨Chg.of_below t8.bel,(Chg.of_below t8.bel).fill fun _=>rfl,?_⟩
    exact res s8 rfl hd f1 (fun k hk=>.inr (by have:=f2 k hk; omega)) (fun k hk=>by have:=f2 k hk; omega)
   ·refine bsW_ones ty66mkI rfl rfl (by decide) (by decide) (intE_one _) ?_
    have t6:=t5.box #[.int .i64 o.Arg] 3
    simp (disch:=first|omega|exact zF rfl|exact zG rfl|exact id|(simp only[zA,zB,zC,zD,bytesW];omega)) only[go_sem,c135S11,c135S20]
    refine ⟨Chg.of_below t6.bel,t6.append 1 rfl ty66mkI rfl (by decide) (Rd.below hx (t6.bel) (by decide)) (ints_one s) (by omega) (by omega) ?_⟩
    intro v6 w6 t7 c6
    simp only [List.set_cons_zero,List.set_cons_succ,List.nil_append,Nat.zero_add] at t7
    obtain ⟨a6,d6,rfl,_⟩:=own_slice (t7.row 1 rfl)
    simp (disch:=first|omega|exact zF rfl|exact zG rfl|exact id|(simp only[zA,zB,zC,zD,bytesW];omega)) only[go_sem,c135S11,c135S20]
    have hB:Blk w6 (w2.heap.size+1) #[.int .i64 o.Arg] 3:=by have:=t7.blk 0 rfl; simpa only [World.size_alloc,World.size_drew] using this
    refine ⟨Chg.of_below t7.bel,(t7.sub (L':=[.row (.slice a6 s.length d6) 3 1 s.length (s.flatMap intE)]) (by simp)).append 0 rfl ty66mkI rfl (by decide) (rd_blk1 hB) (intE_one _) (by omega) (by omega) ?_⟩
    intro v8 w8 t8 c8
    simp only [List.set_cons_zero] at t8
    obtain ⟨a8,d8,rfl,_⟩:=own_slice (t8.row 0 rfl)
    simp (disch:=first|omega|exact zF rfl|exact zG rfl|exact id|(simp only[zA,zB,zC,zD,bytesW];omega)) only[go_sem,c135S11,c135S20]
    refine ⟨Chg.of_below t8.bel,?_⟩
    refine bdW_built (cells:=#[.slice a8 (s.length+1) d8,.int .i64 0,.bool true]) (by kernel_rfl) ?_
    have s8:=s4.call t8.bel
    have e8:=cel s8
    obtain ⟨f1,f2⟩:=fin t8
    simp (disch:=first|omega|exact zF rfl|exact zG rfl|exact id|(simp only[zA,zB,zC,zD,bytesW];omega)) only[go_sem,c135S11,c135S20,e8]
    refine ⟨Chg.of_below t8.bel,(Chg.of_below t8.bel).fill fun _=>rfl,?_⟩
    exact res s8 rfl hd f1 (fun k hk=>.inr (by have:=f2 k hk; omega)) (fun k hk=>by have:=f2 k hk; omega)
  ·refine bsW_ones ty66mkI rfl rfl (by decide) (by decide) (intE_one _) ?_
   have t5:=t4.box #[.int .i64 o.Arg] 3
   simp (disch:=first|omega|exact zF rfl|exact zG rfl|exact id|(simp only[zA,zB,zC,zD,bytesW];omega)) only[go_sem,c135S11,c135S20]
   refine ⟨Chg.of_below t5.bel,?_⟩
   ·refine bsW_none ty66mkI ?_
    have t6:=t5.emptyRow 3 1
    rw [World.size_alloc,World.size_drew] at t6
    simp (disch:=first|omega|exact zF rfl|exact zG rfl|exact id|(simp only[zA,zB,zC,zD,bytesW];omega)) only[go_sem,c135S11,c135S20]
    refine ⟨Chg.of_below t6.bel,t6.append 0 rfl ty66mkI rfl (by decide) (Rd.below hx (t6.bel) (by decide)) (ints_one s) (by omega) (by omega) ?_⟩
    intro v6 w6 t7 c6
    simp only [List.set_cons_zero,List.set_cons_succ,List.nil_append,Nat.zero_add] at t7
    obtain ⟨a6,d6,rfl,_⟩:=own_slice (t7.row 0 rfl)
    simp (disch:=first|omega|exact zF rfl|exact zG rfl|exact id|(simp only[zA,zB,zC,zD,bytesW];omega)) only[go_sem,c135S11,c135S20]
    have hB:Blk w6 w2.heap.size #[.int .i64 o.Arg] 3:=t7.blk 1 rfl
    refine ⟨Chg.of_below t7.bel,(t7.sub (L':=[.row (.slice a6 s.length d6) 3 1 s.length (s.flatMap intE)]) (by simp)).append 0 rfl ty66mkI rfl (by decide) (show Rd w6 1 (.slice (some ⟨w2.heap.size,0,none⟩) 1 1) 1 (intE o.Arg) from rd_blk1 hB) (intE_one _) (by omega) (by omega) ?_⟩
    intro v8 w8 t8 c8
    simp only [List.set_cons_zero] at t8
    obtain ⟨a8,d8,rfl,_⟩:=own_slice (t8.row 0 rfl)
    simp (disch:=first|omega|exact zF rfl|exact zG rfl|exact id|(simp only[zA,zB,zC,zD,bytesW];omega)) only[go_sem,c135S11,c135S20]
    refine ⟨Chg.of_below t8.bel,?_⟩
    refine bdW_built (cells:=#[.slice a8 (s.length+1) d8,.int .i64 0,.bool true]) (by kernel_rfl) ?_
    have s8:=s4.call t8.bel
    have e8:=cel s8
    obtain ⟨f1,f2⟩:=fin t8
    simp (disch:=first|omega|exact zF rfl|exact zG rfl|exact id|(simp only[zA,zB,zC,zD,bytesW];omega)) only[go_sem,c135S11,c135S20,e8]
    refine ⟨Chg.of_below t8.bel,(Chg.of_below t8.bel).fill fun _=>rfl,?_⟩
    exact res s8 rfl hd f1 (fun k hk=>.inr (by have:=f2 k hk; omega)) (fun k hk=>by have:=f2 k hk; omega)
 have oldL:∀ {k n c'},slFoot (.slice a n c') k→n≤s.length→k≠w.heap.size+1:=fun {k n c'} hk hn e=>by
  obtain ⟨q,n',c'',e1,h0,rfl⟩:=hk
  cases e1
  have:=h.footLt (by decide) (k:=q.block) ⟨q,_,_,rfl,by omega,rfl⟩
  omega
 have ti:((s.length:Int) - 1).toNat=s.length - 1:=by omega
 have h3:RdS w2.drew 1 intE (.slice a s.length c) s:=h2.below (Below.refl _ w2).drew (by decide)
 have s4:=s3.drew
 have r4:=s4.rules 1 rfl
 have q4:=s4.rules 0 rfl
 have setc:∀ {w3:World},Below w2.heap.size w2 w3→St w w3 (fun _=>False) [.blk (w.heap.size+1) #[.slice none 0 0,.int .i64 0,.bool false] 176,.blk w.heap.size o.enc.toArray 38] []:=fun b=>s3.call b
 by_cases k12:o.Kind=1∨o.Kind=2
 ·have hd:doP s o=numL s o:=by unfold doP; rw [if_pos k12]
  have num:Ret Tryz.prog 155 [.slice a s.length c,.agg o.enc.toArray] w2 fun u w'=>(∃ u' n b,u=.agg #[u',.int .i64 n,.bool b]∧(∃ b n c,u'=.slice b n c)∧match numL s o with
    | none=>b=false
    | some (t,m)=>b=true∧n=m∧RdS w' 1 intE u' t∧∀ k,slFoot u' k→(slFoot (.slice a s.length c) k∨w.heap.size≤k)∧k≠w.heap.size+1)∧Below w2.heap.size w2 w':=by
   by_cases hx:∃ x,s=[x]
   ·obtain ⟨x,rfl⟩:=hx
    refine Ret.mono (rnumber_ok _ x o w2 h2) ?_
    rintro u w3 ⟨⟨u',n,b,rfl,ho1,hm⟩,b3⟩
    refine ⟨⟨_,_,_,rfl,ho1,?_⟩,b3⟩
    show (match numP x o with | none=>_ | some (t,m)=>_)
    cases hn:numP x o with
    | none=>rw [hn] at hm; exact hm
    | some p =>
     rw [hn] at hm
     obtain ⟨e1,e2,e3,e4⟩:=hm
     refine ⟨e1,e2,e3,fun k hk=>?_⟩
     obtain ⟨p,rfl⟩:=h.ptr (by simp)
     have hp:=h.footLt (by decide) (k:=p.block) ⟨p,_,_,rfl,by simp,rfl⟩
     rcases e4 k hk with e | e
     ·refine ⟨.inl e,?_⟩
      have e:=slFoot_own e
      simp only [Value.ownBlock,Option.some.injEq] at e
      omega
     ·exact ⟨.inr (by omega),by omega⟩
   ·have hne:(s.length:Int)≠1:=fun e=>hx (List.length_eq_one_iff.1 (by omega))
    have hn:numL s o=none:=numL_not fun x e=>hx ⟨x,e⟩
    refine ent155 _ _ _ _ ?_
    have t2:=((St.start (W0:=w2)).box o.enc.toArray 38).box #[.slice none 0 0,.int .i64 0,.bool false] 176
    rw [World.size_alloc] at t2
    simp (disch:=first|omega|exact zF rfl|exact zG rfl|exact id|(simp only[zA,zB,zC,zD,bytesW];omega)) only[go_sem]
    refine ⟨fun _=>?_,fun e=>absurd e hne⟩
    refine bdW_built (cells:=#[.slice none 0 0,.int .i64 0,.bool false]) (by kernel_rfl) ?_
    have u2:=t2.rules 0 rfl
    simp (disch:=first|omega|exact zF rfl|exact zG rfl|exact id|(simp only[zA,zB,zC,zD,bytesW];omega)) only[go_sem,u2]
    exact ⟨⟨_,_,_,rfl,⟨_,_,_,rfl⟩,by rw [hn]⟩,(t2.fill 0 rfl (cs:=#[.slice none 0 0,.int .i64 0,.bool false]) rfl).bel⟩
  rcases k12 with k1 | k1
  all_goals
   simp (disch:=first|omega|exact zF rfl|exact zG rfl|exact id|(simp only[zA,zB,zC,zD,bytesW];omega)) only[go_sem,c135S11,c135S20,q3,r3,ho,k1]
   refine Ret.mono num ?_
   rintro _ w3 ⟨⟨u',n,b,rfl,⟨ua,un,uc,rfl⟩,hm⟩,b3⟩
   have s5:=setc b3
   have q5:=s5.rules 0 rfl
   simp (disch:=first|omega|exact zF rfl|exact zG rfl|exact id|(simp only[zA,zB,zC,zD,bytesW];omega)) only[go_sem,c135S11,c135S20,q5]
   rw [hd]
   cases hn:numL s o with
   | none =>
    rw [hn] at hm
    have hm:b=false:=hm
    subst hm
    exact ⟨⟨_,_,_,rfl,⟨_,_,_,rfl⟩,rfl⟩,(s5.fill 0 rfl (cs:=#[.slice ua un uc,.int .i64 n,.bool false]) rfl).bel⟩
   | some p =>
    obtain ⟨t,m⟩:=p
    rw [hn] at hm
    obtain ⟨rfl,rfl,e3,e4⟩:=hm
    have:=res s5 rfl (hd.trans hn) e3 (fun k hk=>(e4 k hk).1) (fun k hk=>(e4 k hk).2)
    rw [hd,hn] at this
    exact this
 have k1:¬ o.Kind=1:=fun e=>k12 (.inl e)
 have k2:¬ o.Kind=2:=fun e=>k12 (.inr e)
 by_cases k3:o.Kind=3
 ·have hd:doP s o=listP s o:=by unfold doP; rw [if_neg k12,if_pos (.inl k3)]
  by_cases m6:o.Method=6
  ·simp (disch:=first|omega|exact zF rfl|exact zG rfl|exact id|(simp only[zA,zB,zC,zD,bytesW];omega)) only[go_sem,c135S11,c135S20,q3,r3,ho,k3,m6]
   exact push _ _ (by rw [hd]; unfold listP; rw [if_pos (.inl ⟨k3,m6⟩)])
  by_cases m7:o.Method=7
  ·simp (disch:=first|omega|exact zF rfl|exact zG rfl|exact id|(simp only[zA,zB,zC,zD,bytesW];omega)) only[go_sem,c135S11,c135S20,q3,r3,ho,k3,m7]
   refine ⟨fun h0=>?_,fun h0=>?_⟩
   ·obtain rfl:s=[]:=List.eq_nil_of_length_eq_zero (by omega)
    refine bdW_built (cells:=#[.slice none 0 0,.int .i64 (-1),.bool true]) (by kernel_rfl) ?_
    simp (disch:=first|omega|exact zF rfl|exact zG rfl|exact id|(simp only[zA,zB,zC,zD,bytesW];omega)) only[go_sem,c135S11,c135S20,q3]
    exact res s3 rfl (by rw [hd]; unfold listP; simp [k3,m7]) RdS.nil (fun k hk=>absurd hk slFoot_none) (fun k hk=>absurd hk slFoot_none)
   ·obtain ⟨x,r,rfl⟩:∃ x r,s=x::r:=by
     cases s with
     | nil=>simp at h0
     | cons x r=>exact ⟨x,r,rfl⟩
    obtain ⟨p,rfl⟩:=h2.ptr (by simp)
    have ep:=RdS.int h3 (k:=0) (by simp)
    rw [show p.add 0=p from rfl,show (x::r)[0]=x from rfl] at ep
    refine c135draw2 ?_
    simp (disch:=first|omega|exact zF rfl|exact zG rfl|exact id|(simp only[zA,zB,zC,zD,bytesW];omega)) only[go_sem,c135S11,c135S20,c135D2,ep]
    refine ⟨by omega,by omega,?_⟩
    refine bdW_built (cells:=#[.slice (offA (some p) c 1 1) r.length (c - 1),.int .i64 x,.bool true]) (by kernel_rfl) ?_
    simp (disch:=first|omega|exact zF rfl|exact zG rfl|exact id|(simp only[zA,zB,zC,zD,bytesW];omega)) only[go_sem,c135S11,c135S20,c135D2,q4]
    have hr:RdS w2.drew 1 intE (.slice (offA (some p) c 1 1) r.length (c - 1)) r:=rd_drop (k:=1) (show Rd _ 1 (.slice (some p) (x::r).length c) (x::r).length ((x::r).flatMap intE) from h3) (by simp)
    have hb:∀ {k},slFoot (.slice (offA (some p) c 1 1) r.length (c - 1)) k→k=p.block:=fun hk=>(offA_own hk).symm
    have hp:=h.footLt (by decide) (k:=p.block) ⟨p,_,_,rfl,by simp,rfl⟩
    exact res s4 rfl (by rw [hd]; unfold listP; simp [k3,m7]) hr (fun k hk=>.inl ⟨p,_,_,rfl,by simp,hb hk⟩) (fun k hk=>by rw [hb hk]; omega)
  ·simp (disch:=first|omega|exact zF rfl|exact zG rfl|exact id|(simp only[zA,zB,zC,zD,bytesW];omega)) only[go_sem,c135S11,c135S20,q3,r3,ho,k3,m6,m7]
   refine c135draw4 ?_
   simp (disch:=first|omega|exact zF rfl|exact zG rfl|exact id|(simp only[zA,zB,zC,zD,bytesW];omega)) only[go_sem,c135S11,c135S20,c135D4,k3,m6,m7]
   refine bdW_built (cells:=#[.slice none 0 0,.int .i64 0,.bool false]) (by kernel_rfl) ?_
   simp (disch:=first|omega|exact zF rfl|exact zG rfl|exact id|(simp only[zA,zB,zC,zD,bytesW];omega)) only[go_sem,c135S11,c135S20,q4]
   exact bad s4 rfl (by rw [hd]; unfold listP; simp [k3,m6,m7])
 by_cases k4:o.Kind=4
 ·have hd:doP s o=listP s o:=by unfold doP; rw [if_neg k12,if_pos (.inr k4)]
  by_cases m8:o.Method=8
  ·simp (disch:=first|omega|exact zF rfl|exact zG rfl|exact id|(simp only[zA,zB,zC,zD,bytesW];omega)) only[go_sem,c135S11,c135S20,q3,r3,ho,k4,m8]
   exact push _ _ (by rw [hd]; unfold listP; rw [if_pos (.inr ⟨k4,m8⟩)])
  by_cases m9:o.Method=9
  ·simp (disch:=first|omega|exact zF rfl|exact zG rfl|exact id|(simp only[zA,zB,zC,zD,bytesW];omega)) only[go_sem,c135S11,c135S20,q3,r3,ho,k4,m9]
   refine ⟨fun h0=>?_,fun h0=>?_⟩
   ·obtain rfl:s=[]:=List.eq_nil_of_length_eq_zero (by omega)
    refine bdW_built (cells:=#[.slice none 0 0,.int .i64 (-1),.bool true]) (by kernel_rfl) ?_
    simp (disch:=first|omega|exact zF rfl|exact zG rfl|exact id|(simp only[zA,zB,zC,zD,bytesW];omega)) only[go_sem,c135S11,c135S20,q3]
    exact res s3 rfl (by rw [hd]; unfold listP; simp [k4,m9]) RdS.nil (fun k hk=>absurd hk slFoot_none) (fun k hk=>absurd hk slFoot_none)
   ·have hne:s≠[]:=fun e=>h0 (by rw [e]; rfl)
    have h0':0<s.length:=List.length_pos_iff.2 hne
    obtain ⟨p,rfl⟩:=h2.ptr h0'
    have ep:=RdS.int h3 (k:=s.length - 1) (by omega)
    refine c135draw3 ?_
    simp (disch:=first|omega|exact zF rfl|exact zG rfl|exact id|(simp only[zA,zB,zC,zD,bytesW];omega)) only[go_sem,c135S11,c135S20,c135D3,ti,ep]
    refine ⟨⟨by omega,by omega⟩,⟨by omega,by omega⟩,⟨by omega,by omega⟩,⟨by omega,by omega⟩,?_⟩
    refine bdW_built (cells:=#[.slice (offA (some p) c 0 1) (s.length - 1) c,.int .i64 s[s.length - 1],.bool true]) (by kernel_rfl) ?_
    simp (disch:=first|omega|exact zF rfl|exact zG rfl|exact id|(simp only[zA,zB,zC,zD,bytesW];omega)) only[go_sem,c135S11,c135S20,c135D3,q4]
    have hr:RdS w2.drew 1 intE (.slice (offA (some p) c 0 1) (s.length - 1) c) s.dropLast:=by
     have:=rd_take (k:=s.length - 1) (show Rd _ 1 (.slice (some p) s.length c) s.length (s.flatMap intE) from h3) (by omega)
     have e:s.dropLast.flatMap intE=(s.flatMap intE).take ((s.length - 1) * 1):=by
      rw [Nat.mul_one,List.dropLast_eq_take]
      exact ints_take s _
     have e2:s.dropLast.length=s.length - 1:=List.length_dropLast
     unfold RdS
     rw [e,e2]
     exact this
    have hb:∀ {k},slFoot (.slice (offA (some p) c 0 1) (s.length - 1) c) k→k=p.block:=fun hk=>(offA_own hk).symm
    have hp:=h.footLt (by decide) (k:=p.block) ⟨p,_,_,rfl,by omega,rfl⟩
    exact res s4 rfl (by rw [hd]; unfold listP; simp [k4,m9,hne,List.getLast_eq_getElem]) hr (fun k hk=>.inl ⟨p,_,_,rfl,by omega,hb hk⟩) (fun k hk=>by rw [hb hk]; omega)
  ·simp (disch:=first|omega|exact zF rfl|exact zG rfl|exact id|(simp only[zA,zB,zC,zD,bytesW];omega)) only[go_sem,c135S11,c135S20,q3,r3,ho,k4,m8,m9]
   refine c135draw4 ?_
   simp (disch:=first|omega|exact zF rfl|exact zG rfl|exact id|(simp only[zA,zB,zC,zD,bytesW];omega)) only[go_sem,c135S11,c135S20,c135D4,k4,m8,m9]
   refine bdW_built (cells:=#[.slice none 0 0,.int .i64 0,.bool false]) (by kernel_rfl) ?_
   simp (disch:=first|omega|exact zF rfl|exact zG rfl|exact id|(simp only[zA,zB,zC,zD,bytesW];omega)) only[go_sem,c135S11,c135S20,q4]
   exact bad s4 rfl (by rw [hd]; unfold listP; simp [k4,m8,m9])
 by_cases k6:o.Kind=6
 ·have hd:doP s o=(if o.Method=13∧s=[] then some ([o.Proc],0) else if o.Method=14∧s=[o.Proc] then some ([],0) else none):=by unfold doP; rw [if_neg k12,if_neg (by simp [k3,k4]),if_neg (by omega),if_pos k6]
  simp (disch:=first|omega|exact zF rfl|exact zG rfl|exact id|(simp only[zA,zB,zC,zD,bytesW];omega)) only[go_sem,c135S11,c135S20,q3,r3,ho,k6]
  by_cases m13:o.Method=13
  ·simp (disch:=first|omega|exact zF rfl|exact zG rfl|exact id|(simp only[zA,zB,zC,zD,bytesW];omega)) only[go_sem,c135S11,c135S20,m13]
   refine ⟨fun h0=>?_,fun h0=>?_⟩
   ·obtain rfl:s=[]:=List.eq_nil_of_length_eq_zero (by omega)
    refine bsW_ones ty66mkI rfl rfl (by decide) (by decide) (intE_one _) ?_
    simp (disch:=first|omega|exact zF rfl|exact zG rfl|exact id|(simp only[zA,zB,zC,zD,bytesW];omega)) only[go_sem,c135S11,c135S20]
    refine bdW_built (cells:=#[.slice (some ⟨w2.heap.size,0,none⟩) 1 1,.int .i64 0,.bool true]) (by kernel_rfl) ?_
    have s5:=s3.alloc' (.cells #[.int .i64 o.Proc] 3)
    have q5:=s5.rules 0 rfl
    simp (disch:=first|omega|exact zF rfl|exact zG rfl|exact id|(simp only[zA,zB,zC,zD,bytesW];omega)) only[go_sem,c135S11,c135S20,q5]
    have fr:∀ {k},slFoot (.slice (some ⟨w2.heap.size,0,none⟩) 1 1) k→k=w2.heap.size:=fun hk=>by
     have:=slFoot_own hk
     simp only [Value.ownBlock,Option.some.injEq] at this
     exact this.symm
    exact res s5 rfl (by rw [hd,if_pos ⟨m13,rfl⟩]) (int_new o.Proc rfl) (fun k hk=>.inr (by rw [fr hk]; omega)) (fun k hk=>by rw [fr hk]; omega)
   ·have hne:s≠[]:=fun e=>h0 (by rw [e]; rfl)
    refine c135draw4 ?_
    simp (disch:=first|omega|exact zF rfl|exact zG rfl|exact id|(simp only[zA,zB,zC,zD,bytesW];omega)) only[go_sem,c135S11,c135S20,c135D4,m13]
    refine bdW_built (cells:=#[.slice none 0 0,.int .i64 0,.bool false]) (by kernel_rfl) ?_
    simp (disch:=first|omega|exact zF rfl|exact zG rfl|exact id|(simp only[zA,zB,zC,zD,bytesW];omega)) only[go_sem,c135S11,c135S20,q4]
    exact bad s4 rfl (by rw [hd,if_neg (by simp [hne]),if_neg (by simp [m13])])
  ·simp (disch:=first|omega|exact zF rfl|exact zG rfl|exact id|(simp only[zA,zB,zC,zD,bytesW];omega)) only[go_sem,c135S11,c135S20,m13]
   refine c135draw4 ?_
   by_cases m14:o.Method=14
   ·simp (disch:=first|omega|exact zF rfl|exact zG rfl|exact id|(simp only[zA,zB,zC,zD,bytesW];omega)) only[go_sem,c135S11,c135S20,c135D4,m14]
    refine ⟨fun h1=>?_,fun h1=>?_⟩
    ·obtain ⟨x,rfl⟩:=List.length_eq_one_iff.1 (show s.length=1 by omega)
     obtain ⟨p,rfl⟩:=h3.ptr (by simp)
     have ep:=RdS.int h3 (k:=0) (by simp)
     rw [show p.add 0=p from rfl,show ([x]:List Int)[0]=x from rfl] at ep
     simp (disch:=first|omega|exact zF rfl|exact zG rfl|exact id|(simp only[zA,zB,zC,zD,bytesW];omega)) only[go_sem,c135S11,c135S20,c135D4,r4,ho,ep]
     refine ⟨fun e=>?_,fun e=>?_⟩
     ·refine bdW_built (cells:=#[.slice none 0 0,.int .i64 0,.bool true]) (by kernel_rfl) ?_
      simp (disch:=first|omega|exact zF rfl|exact zG rfl|exact id|(simp only[zA,zB,zC,zD,bytesW];omega)) only[go_sem,c135S11,c135S20,q4]
      exact res s4 rfl (by rw [hd,if_neg (by simp),if_pos ⟨m14,by rw [e]⟩]) RdS.nil (fun k hk=>absurd hk slFoot_none) (fun k hk=>absurd hk slFoot_none)
     ·refine bdW_built (cells:=#[.slice none 0 0,.int .i64 0,.bool false]) (by kernel_rfl) ?_
      simp (disch:=first|omega|exact zF rfl|exact zG rfl|exact id|(simp only[zA,zB,zC,zD,bytesW];omega)) only[go_sem,c135S11,c135S20,q4]
      exact bad s4 rfl (by rw [hd,if_neg (by simp),if_neg (by simp [e])])
    ·have hne:s≠[o.Proc]:=fun e=>h1 (by rw [e]; rfl)
     refine bdW_built (cells:=#[.slice none 0 0,.int .i64 0,.bool false]) (by kernel_rfl) ?_
     simp (disch:=first|omega|exact zF rfl|exact zG rfl|exact id|(simp only[zA,zB,zC,zD,bytesW];omega)) only[go_sem,c135S11,c135S20,q4]
     exact bad s4 rfl (by rw [hd,if_neg (by simp [m13]),if_neg (by simp [hne])])
   ·simp (disch:=first|omega|exact zF rfl|exact zG rfl|exact id|(simp only[zA,zB,zC,zD,bytesW];omega)) only[go_sem,c135S11,c135S20,c135D4,m14]
    refine bdW_built (cells:=#[.slice none 0 0,.int .i64 0,.bool false]) (by kernel_rfl) ?_
    simp (disch:=first|omega|exact zF rfl|exact zG rfl|exact id|(simp only[zA,zB,zC,zD,bytesW];omega)) only[go_sem,c135S11,c135S20,q4]
    exact bad s4 rfl (by rw [hd,if_neg (by simp [m13]),if_neg (by simp [m14])])
 by_cases k5:o.Kind=5
 ·have hd:doP s o=setP s o:=by unfold doP; rw [if_neg k12,if_neg (by simp [k3,k4]),if_pos k5]
  simp (disch:=first|omega|exact zF rfl|exact zG rfl|exact id|(simp only[zA,zB,zC,zD,bytesW];omega)) only[go_sem,c135S11,c135S20,q3,r3,ho,k5]
  refine c135draw4 ?_
  simp (disch:=first|omega|exact zF rfl|exact zG rfl|exact id|(simp only[zA,zB,zC,zD,bytesW];omega)) only[go_sem,c135S11,c135S20,c135D4,k5,q4,r4,ho]
  have hso:=hs k5
  have tab:∀ {w3 w4:World} {n:Int},St w w4 (fun _=>False) [.blk (w.heap.size+1) #[.slice none 0 0,.int .i64 0,.bool false] 176,.blk w.heap.size o.enc.toArray 38] []→setP s o=some (s,n)→StepA w (w4.fill (w.heap.size+1) #[.slice a s.length c,.int .i64 n,.bool true]) (.slice a s.length c) (doP s o) (.agg #[.slice a s.length c,.int .i64 n,.bool true])∧Below w.heap.size w (w4.fill (w.heap.size+1) #[.slice a s.length c,.int .i64 n,.bool true]):=fun s5 e =>
   res s5 rfl (hd.trans e) (h.below s5.bel (by decide)) (fun k hk=>oldF hk) (fun k hk=>oldL hk (Nat.le_refl _))
  have hlen:(s.filter (fun x=>!decide (x=o.Arg))).length<s.length↔o.Arg∈s:=by
   rw [List.length_filter_lt_length_iff_exists]
   simp
  refine Ret.mono (without_ok _ s o.Arg w2.drew h3 hl) ?_
  rintro u w5 ⟨own5,b5⟩
  have s5:=s4.call b5
  have q5:=s5.rules 0 rfl
  have r5:=s5.rules 1 rfl
  have h5:=h.below s5.bel (by decide)
  obtain ⟨au,cu,rfl,_⟩:=own_slice own5
  simp (disch:=first|omega|exact zF rfl|exact zG rfl|exact id|(simp only[zA,zB,zC,zD,bytesW];omega)) only[go_sem,c135S20]
  by_cases hin:o.Arg∈s
  ·have hlt:(((s.filter (fun x=>!decide (x=o.Arg))).length:Nat):Int)<s.length:=by have:=hlen.2 hin; omega
   by_cases m12:o.Method=12
   ·simp (disch:=first|omega|exact zF rfl|exact zG rfl|exact id|(simp only[zA,zB,zC,zD,bytesW];omega)) only[go_sem,c135S11,c135S20,hlt,m12]
    refine bdW_built (cells:=#[.slice a s.length c,.int .i64 1,.bool true]) (by kernel_rfl) ?_
    simp (disch:=first|omega|exact zF rfl|exact zG rfl|exact id|(simp only[zA,zB,zC,zD,bytesW];omega)) only[go_sem,c135S11,c135S20,q5]
    exact tab (w3:=w5) s5 (by unfold setP; rw [if_pos m12,if_pos hin])
   by_cases m10:o.Method=10
   ·simp (disch:=first|omega|exact zF rfl|exact zG rfl|exact id|(simp only[zA,zB,zC,zD,bytesW];omega)) only[go_sem,c135S11,c135S20,hlt,m10]
    refine bdW_built (cells:=#[.slice a s.length c,.int .i64 0,.bool true]) (by kernel_rfl) ?_
    simp (disch:=first|omega|exact zF rfl|exact zG rfl|exact id|(simp only[zA,zB,zC,zD,bytesW];omega)) only[go_sem,c135S11,c135S20,q5]
    exact tab (w3:=w5) s5 (by unfold setP; rw [if_neg m12,if_pos m10,if_pos hin])
   by_cases m11:o.Method=11
   ·simp (disch:=first|omega|exact zF rfl|exact zG rfl|exact id|(simp only[zA,zB,zC,zD,bytesW];omega)) only[go_sem,c135S11,c135S20,hlt,m11,r5,ho]
    refine Ret.mono (without_ok _ s o.Arg w5 h5 hl) ?_
    rintro u w6 ⟨own6,b6⟩
    have s6:=s5.call b6
    have q6:=s6.rules 0 rfl
    obtain ⟨a6,c6,rfl,_⟩:=own_slice own6
    simp (disch:=first|omega|exact zF rfl|exact zG rfl|exact id|(simp only[zA,zB,zC,zD,bytesW];omega)) only[go_sem,c135S11,c135S20]
    refine bdW_built (cells:=#[.slice a6 (s.filter (fun x=>!decide (x=o.Arg))).length c6,.int .i64 1,.bool true]) (by kernel_rfl) ?_
    simp (disch:=first|omega|exact zF rfl|exact zG rfl|exact id|(simp only[zA,zB,zC,zD,bytesW];omega)) only[go_sem,c135S11,c135S20,q6]
    have hsz5:w.heap.size+2≤w5.heap.size:=by have:=b5.size; simp only [World.size_drew] at this; omega
    exact res s6 rfl (by rw [hd]; unfold setP; rw [if_neg m12,if_neg m10,if_pos m11,if_pos hin]) (RdS.of_own' own6 (delP s o.Arg) rfl rfl) (fun k hk=>.inr (by have:=(World.ownsRow.lt own6 k (slFoot_own hk)).1; omega)) (fun k hk=>by have:=(World.ownsRow.lt own6 k (slFoot_own hk)).1; omega)
   ·simp (disch:=first|omega|exact zF rfl|exact zG rfl|exact id|(simp only[zA,zB,zC,zD,bytesW];omega)) only[go_sem,c135S11,c135S20,hlt,m10,m11,m12]
    refine bdW_built (cells:=#[.slice none 0 0,.int .i64 0,.bool false]) (by kernel_rfl) ?_
    simp (disch:=first|omega|exact zF rfl|exact zG rfl|exact id|(simp only[zA,zB,zC,zD,bytesW];omega)) only[go_sem,c135S11,c135S20,q5]
    exact bad s5 rfl (by rw [hd]; unfold setP; rw [if_neg m12,if_neg m10,if_neg m11])
  ·have hlt:¬ (((s.filter (fun x=>!decide (x=o.Arg))).length:Nat):Int)<s.length:=fun e=>hin (hlen.1 (by omega))
   by_cases m12:o.Method=12
   ·simp (disch:=first|omega|exact zF rfl|exact zG rfl|exact id|(simp only[zA,zB,zC,zD,bytesW];omega)) only[go_sem,c135S11,c135S20,hlt,m12]
    refine bdW_built (cells:=#[.slice a s.length c,.int .i64 0,.bool true]) (by kernel_rfl) ?_
    simp (disch:=first|omega|exact zF rfl|exact zG rfl|exact id|(simp only[zA,zB,zC,zD,bytesW];omega)) only[go_sem,c135S11,c135S20,q5]
    exact tab (w3:=w5) s5 (by unfold setP; rw [if_pos m12,if_neg hin])
   by_cases m10:o.Method=10
   ·simp (disch:=first|omega|exact zF rfl|exact zG rfl|exact id|(simp only[zA,zB,zC,zD,bytesW];omega)) only[go_sem,c135S11,c135S20,hlt,m10,r5,ho]
    refine Ret.mono (with_ok _ s o.Arg w5 h5 hl hso hin) ?_
    rintro u w6 ⟨own6,b6⟩
    have s6:=s5.call b6
    have q6:=s6.rules 0 rfl
    obtain ⟨a6,c6,rfl,_⟩:=own_slice own6
    simp (disch:=first|omega|exact zF rfl|exact zG rfl|exact id|(simp only[zA,zB,zC,zD,bytesW];omega)) only[go_sem,c135S11,c135S20]
    refine bdW_built (cells:=#[.slice a6 (insP s o.Arg).length c6,.int .i64 1,.bool true]) (by kernel_rfl) ?_
    simp (disch:=first|omega|exact zF rfl|exact zG rfl|exact id|(simp only[zA,zB,zC,zD,bytesW];omega)) only[go_sem,c135S11,c135S20,q6]
    have hsz5:w.heap.size+2≤w5.heap.size:=by have:=b5.size; simp only [World.size_drew] at this; omega
    exact res s6 rfl (by rw [hd]; unfold setP; rw [if_neg m12,if_pos m10,if_neg hin]) (RdS.of_own' own6 (insP s o.Arg) rfl rfl) (fun k hk=>.inr (by have:=(World.ownsRow.lt own6 k (slFoot_own hk)).1; omega)) (fun k hk=>by have:=(World.ownsRow.lt own6 k (slFoot_own hk)).1; omega)
   by_cases m11:o.Method=11
   ·simp (disch:=first|omega|exact zF rfl|exact zG rfl|exact id|(simp only[zA,zB,zC,zD,bytesW];omega)) only[go_sem,c135S11,c135S20,hlt,m11]
    refine bdW_built (cells:=#[.slice a s.length c,.int .i64 0,.bool true]) (by kernel_rfl) ?_
    simp (disch:=first|omega|exact zF rfl|exact zG rfl|exact id|(simp only[zA,zB,zC,zD,bytesW];omega)) only[go_sem,c135S11,c135S20,q5]
    exact tab (w3:=w5) s5 (by unfold setP; rw [if_neg m12,if_neg m10,if_pos m11,if_neg hin])
   ·simp (disch:=first|omega|exact zF rfl|exact zG rfl|exact id|(simp only[zA,zB,zC,zD,bytesW];omega)) only[go_sem,c135S11,c135S20,hlt,m10,m11,m12]
    refine bdW_built (cells:=#[.slice none 0 0,.int .i64 0,.bool false]) (by kernel_rfl) ?_
    simp (disch:=first|omega|exact zF rfl|exact zG rfl|exact id|(simp only[zA,zB,zC,zD,bytesW];omega)) only[go_sem,c135S11,c135S20,q5]
    exact bad s5 rfl (by rw [hd]; unfold setP; rw [if_neg m12,if_neg m10,if_neg m11])
 ·have hd:doP s o=none:=by unfold doP; rw [if_neg k12,if_neg (by simp [k3,k4]),if_neg k5,if_neg k6]
  simp (disch:=first|omega|exact zF rfl|exact zG rfl|exact id|(simp only[zA,zB,zC,zD,bytesW];omega)) only[go_sem,c135S11,c135S20,q3,r3,ho,k1,k2,k3,k4,k5,k6]
  refine c135draw4 ?_
  simp (disch:=first|omega|exact zF rfl|exact zG rfl|exact id|(simp only[zA,zB,zC,zD,bytesW];omega)) only[go_sem,c135S11,c135S20,c135D4,k3,k4,k5,k6]
  refine bdW_built (cells:=#[.slice none 0 0,.int .i64 0,.bool false]) (by kernel_rfl) ?_
  simp (disch:=first|omega|exact zF rfl|exact zG rfl|exact id|(simp only[zA,zB,zC,zD,bytesW];omega)) only[go_sem,c135S11,c135S20,q4]
  exact bad s4 rfl hd
open Go Go.Ann Go.RowKit
def before(a b:OpT):Bool:=a.Done && decide (a.Return<b.Invoke)
theorem rbefore_ok(a b:OpT)(w:World):Ret Tryz.prog 69 [.agg a.enc.toArray,.agg b.enc.toArray] w fun v w'=>v=.bool (before a b)∧Below w.heap.size w w':=by
 refine ent69 _ _ _ _ ?_
 have ha:=a.at; have hb:=b.at
 simp (disch:=first|omega|exact zF rfl|exact zG rfl|exact id|(simp only[zA,zB,zC,zD,bytesW];omega)) only[go_sem,ha,hb]
 unfold before
 refine ⟨fun h=>?_,fun h=>?_⟩
 ·rw [h]; exact ⟨by simp,by (repeat' (first | with_reducible exact Below.refl _ _ | with_reducible assumption | (with_reducible refine Below.drew ?_) | (with_reducible refine Below.alloc ?_ ?_ _) | (with_reducible refine Below.setCell ?_ ?_ _) | (with_reducible refine Below.fill ?_ ?_) | (with_reducible refine Below.via (by assumption) ?_ ?_) | omega | (simp only [World.size_alloc,World.size_drew,World.size_setCell,size_fill,bytesW]; omega)))⟩
 ·rw [h]; exact ⟨by simp,by (repeat' (first | with_reducible exact Below.refl _ _ | with_reducible assumption | (with_reducible refine Below.drew ?_) | (with_reducible refine Below.alloc ?_ ?_ _) | (with_reducible refine Below.setCell ?_ ?_ _) | (with_reducible refine Below.fill ?_ ?_) | (with_reducible refine Below.via (by assumption) ?_ ?_) | omega | (simp only [World.size_alloc,World.size_drew,World.size_setCell,size_fill,bytesW]; omega)))⟩
theorem before_ok(a b:OpT)(w:World):Ret Tryz.prog 88 [.agg a.enc.toArray,.agg b.enc.toArray] w fun v w'=>v=.bool (before a b)∧Below w.heap.size w w':=by
 refine ent88 _ _ _ _ ?_
 have ha:=a.at; have hb:=b.at
 simp (disch:=first|omega|exact zF rfl|exact zG rfl|exact id|(simp only[zA,zB,zC,zD,bytesW];omega)) only[go_sem,ha,hb]
 unfold before
 refine ⟨fun h=>?_,fun h=>?_⟩
 ·rw [h]; exact ⟨by simp,by (repeat' (first | with_reducible exact Below.refl _ _ | with_reducible assumption | (with_reducible refine Below.drew ?_) | (with_reducible refine Below.alloc ?_ ?_ _) | (with_reducible refine Below.setCell ?_ ?_ _) | (with_reducible refine Below.fill ?_ ?_) | (with_reducible refine Below.via (by assumption) ?_ ?_) | omega | (simp only [World.size_alloc,World.size_drew,World.size_setCell,size_fill,bytesW]; omega)))⟩
 ·rw [h]; exact ⟨by simp,by (repeat' (first | with_reducible exact Below.refl _ _ | with_reducible assumption | (with_reducible refine Below.drew ?_) | (with_reducible refine Below.alloc ?_ ?_ _) | (with_reducible refine Below.setCell ?_ ?_ _) | (with_reducible refine Below.fill ?_ ?_) | (with_reducible refine Below.via (by assumption) ?_ ?_) | omega | (simp only [World.size_alloc,World.size_drew,World.size_setCell,size_fill,bytesW]; omega)))⟩
open Go Go.Ann Go.RowKit
theorem rstep_ok(v:Value)(s:List Int)(o:OpT)(w:World)(h:RdS w 1 intE v s)(hl:s.length≤1000000)(hs:o.Kind=5→s.Pairwise (· < ·)) :
  Ret Tryz.prog 110 [v,.agg o.enc.toArray] w fun u w'=>(∃ t ok,u=.tuple #[t,.bool ok]∧match stepP s o with
   | none=>ok=false
   | some s'=>ok=true∧RdS w' 1 intE t s'∧∀ k,slFoot t k→slFoot v k∨w.heap.size≤k)∧Below w.heap.size w w':=by
 refine ent110 _ _ _ _ ?_
 have ho:=o.at
 have hw1:Below w.heap.size w (w.alloc (.cells o.enc.toArray 38)):=(Below.refl _ w).alloc (Nat.le_refl _) _
 simp (disch:=first|omega|exact zF rfl|exact zG rfl|exact id|(simp only[zA,zB,zC,zD,bytesW];omega)) only[go_sem]
 refine Ret.mono (rdo_ok v s o _ (h.below hw1 (by decide)) hl hs) ?_
 rintro _ w2 ⟨⟨t,a,ok,rfl,⟨ta,tn,tc,rfl⟩,hm⟩,b2⟩
 have bb:=Below.next hw1 b2
 have hB2:Blk w2 w.heap.size o.enc.toArray 38:=Blk.new.below b2 Blk.new.lt
 have s2:=((((St.start (W0:=w)).box o.enc.toArray 38).call b2)).box #[.slice ta tn tc,.int .i64 a,.bool ok] 176
 have r2:=s2.rules 1 rfl
 have q2:=s2.rules 0 rfl
 have lt2:w.heap.size<w2.heap.size:=hB2.lt
 simp (disch:=first|omega|exact zF rfl|exact zG rfl|exact id|(simp only[zA,zB,zC,zD,bytesW];omega)) only[go_sem,q2]
 cases hd:doP s o with
 | none =>
  rw [hd] at hm
  have hm:ok=false:=hm
  subst hm
  have e:stepP s o=none:=by unfold stepP; rw [hd]
  simp (disch:=first|omega|exact zF rfl|exact zG rfl|exact id|(simp only[zA,zB,zC,zD,bytesW];omega)) only[go_sem,c110S1,r2,q2,ho]
  exact ⟨⟨_,_,rfl,by rw [e]⟩,s2.bel⟩
 | some p =>
  obtain ⟨s',n⟩:=p
  rw [hd] at hm
  obtain ⟨rfl,rfl,h3,f3⟩:=hm
  have f3':∀ k,slFoot (.slice ta tn tc) k→slFoot v k∨w.heap.size≤k:=fun k hk=>(f3 k hk).imp id fun h=>Nat.le_trans (by simp) h
  have h4:=h3.below ((Below.refl _ w2).alloc (Nat.le_refl _) (.cells #[.slice ta tn tc,.int .i64 a,.bool true] 176)) (by decide)
  cases hdn:o.Done with
  | false =>
   have e:stepP s o=some s':=by unfold stepP; rw [hd]; simp [hdn]
   simp (disch:=first|omega|exact zF rfl|exact zG rfl|exact id|(simp only[zA,zB,zC,zD,bytesW];omega)) only[go_sem,c110S1,r2,q2,ho,hdn]
   exact ⟨⟨_,_,rfl,by rw [e]; exact ⟨rfl,h4,f3'⟩⟩,s2.bel⟩
  | true =>
   simp (disch:=first|omega|exact zF rfl|exact zG rfl|exact id|(simp only[zA,zB,zC,zD,bytesW];omega)) only[go_sem,c110S1,r2,q2,ho,hdn]
   refine ⟨fun hne=>⟨⟨_,_,rfl,?_⟩,s2.bel⟩,fun heq=>⟨⟨_,_,rfl,?_⟩,s2.bel⟩⟩
   ·rw [show stepP s o=none by unfold stepP; rw [hd]; simp [hdn,hne]]
   ·rw [show stepP s o=some s' by unfold stepP; rw [hd]; simp [hdn,heq]]
    exact ⟨rfl,h4,f3'⟩
open Go Go.Ann Go.RowKit
def maskN:List Bool→Nat
 | []=>0
 | b::l=>b.toNat+2 * maskN l
theorem maskN_bit:∀ (l:List Bool) (i:Nat),(maskN l).testBit i=l.getD i false
 | [],i=>by simp [maskN]
 | b::l,0=>by
  rw [maskN,Nat.testBit_zero]
  cases b <;> simp [Nat.add_mod]
 | b::l,i+1=>by
  rw [maskN,Nat.testBit_succ,show (b.toNat+2 * maskN l) / 2=maskN l by cases b <;> simp <;> omega,maskN_bit l i]
  rfl
theorem maskN_lt:∀ l:List Bool,maskN l<2 ^ l.length
 | []=>by simp [maskN]
 | b::l=>by
  have:=maskN_lt l
  rw [maskN,List.length_cons,Nat.pow_succ]
  cases b <;> simp <;> omega
theorem maskN_inj:∀ {a b:List Bool},a.length=b.length→maskN a=maskN b→a=b
 | [],[],_,_=>rfl
 | x::a,y::b,hl,h=>by
  simp only [maskN] at h
  have h1:x=y:=by cases x <;> cases y <;> simp at h ⊢ <;> omega
  subst h1
  rw [maskN_inj (a:=a) (b:=b) (by simpa using hl) (by omega)]
theorem maskN_none(n:Nat):maskN (List.replicate n false)=0:=by
 induction n with
 | zero=>rfl
 | succ n ih=>rw [List.replicate_succ,maskN,ih]; rfl
theorem maskN_app:∀ (l:List Bool) (b:Bool),maskN (l++[b])=maskN l+2 ^ l.length * b.toNat
 | [],b=>by simp [maskN]
 | x::l,b=>by
  rw [List.cons_append,maskN,maskN,maskN_app l b,List.length_cons,Nat.pow_succ,Nat.mul_add,Nat.add_assoc]
  congr 2
  rw [← Nat.mul_assoc,Nat.mul_comm 2 (2 ^ l.length)]
theorem getD_set(l:List Bool)(i j:Nat):(l.set i true).getD j false=(l.getD j false || (decide (i=j) && decide (i<l.length))):=by
 simp only [List.getD_eq_getElem?_getD,List.getElem?_set]
 by_cases h:i=j
 ·subst h
  by_cases hl:i<l.length
  ·simp [hl]
  ·simp [hl]
 ·simp [h]
theorem maskN_set{l:List Bool}{i:Nat}(hi:i<l.length):maskN l ||| 2 ^ i=maskN (l.set i true):=by
 refine Nat.eq_of_testBit_eq fun j=>?_
 rw [Nat.testBit_or,maskN_bit,maskN_bit,getD_set,Nat.testBit_two_pow]
 simp [hi]
theorem ofInt_nat{x:Nat}(h:x<4294967296):(BitVec.ofInt 32 (x:Int)).toNat=x:=by
 rw [BitVec.ofInt_natCast,BitVec.toNat_ofNat]; exact Nat.mod_eq_of_lt (by omega)
theorem wrap_u32(n:Int):IntKind.u32.wrap n=n % 4294967296:=by
 simp [IntKind.wrap,IntKind.signed,IntKind.bits]
theorem or_u32{x y:Nat}(hx:x<4294967296)(hy:y<4294967296):bits .or .u32 (x:Int) (y:Int)=((x ||| y:Nat):Int):=by
 have e:(BitVec.ofInt 32 (x:Int) ||| BitVec.ofInt 32 (y:Int)).toNat=x ||| y:=by rw [BitVec.toNat_or,ofInt_nat hx,ofInt_nat hy]
 show IntKind.u32.wrap (((BitVec.ofInt 32 (x:Int) ||| BitVec.ofInt 32 (y:Int)).toNat:Nat):Int)=_
 have:x ||| y<2 ^ 32:=Nat.or_lt_two_pow (by omega) (by omega)
 rw [e,wrap_u32]; omega
theorem and1_u32{x:Nat}(hx:x<4294967296):bits .and .u32 (x:Int) 1=((x % 2:Nat):Int):=by
 have e:(BitVec.ofInt 32 (x:Int) &&& BitVec.ofInt 32 1).toNat=x % 2:=by
  rw [BitVec.toNat_and,ofInt_nat hx,show (BitVec.ofInt 32 1).toNat=1 by decide,Nat.and_one_is_mod]
 show IntKind.u32.wrap (((BitVec.ofInt 32 (x:Int) &&& BitVec.ofInt 32 1).toNat:Nat):Int)=_
 rw [e,wrap_u32]; omega
theorem andNot_u32{x y:Nat}(hx:x<4294967296)(hy:y<4294967296):bits .andNot .u32 (x:Int) (y:Int)=0↔∀ i,x.testBit i=true→y.testBit i=true:=by
 have e:(BitVec.ofInt 32 (x:Int) &&& ~~~ BitVec.ofInt 32 (y:Int)).toNat=x &&& (4294967295 - y):=by
  rw [BitVec.toNat_and,BitVec.toNat_not,ofInt_nat hx,ofInt_nat hy]
 show IntKind.u32.wrap (((BitVec.ofInt 32 (x:Int) &&& ~~~ BitVec.ofInt 32 (y:Int)).toNat:Nat):Int)=0↔_
 have hlt:x &&& (4294967295 - y)<2 ^ 32:=Nat.lt_of_le_of_lt Nat.and_le_left (by omega)
 rw [e,wrap_u32]
 have h0:(((x &&& (4294967295 - y):Nat):Int) % 4294967296=0)↔x &&& (4294967295 - y)=0:=by omega
 rw [h0]
 have bit:∀ i,(x &&& (4294967295 - y)).testBit i=(x.testBit i && !y.testBit i):=fun i=>by
  rw [Nat.testBit_and]
  by_cases hi:i<32
  ·rw [show 4294967295 - y=2 ^ 32 - (y+1) by omega,Nat.testBit_two_pow_sub_succ (by omega)]
   simp [hi]
  ·rw [Nat.testBit_lt_two_pow (x:=x) (i:=i) (Nat.lt_of_lt_of_le hx (by rw [show (4294967296:Nat)=2 ^ 32 by decide]; exact Nat.pow_le_pow_right (by decide) (by omega)))]
   simp
 constructor
 ·intro h i hxi
  have:=bit i
  rw [h,hxi] at this
  simpa using this
 ·intro h
  refine Nat.eq_of_testBit_eq fun i=>?_
  rw [bit i]
  cases hxi:x.testBit i with
  | false=>simp
  | true=>rw [h i hxi]; simp
theorem zip_all{a d:List Bool}(hl:a.length=d.length):(a.zip d).all (fun p=>p.2 || !p.1)=true↔∀ i,a.getD i false=true→d.getD i false=true:=by
 induction a generalizing d with
 | nil=>simp
 | cons x a ih =>
  cases d with
  | nil=>simp at hl
  | cons y d =>
   rw [List.zip_cons_cons,List.all_cons,Bool.and_eq_true,ih (by simpa using hl)]
   constructor
   ·rintro ⟨h1,h2⟩ i hi
    cases i with
    | zero=>simp at hi h1 ⊢; subst hi; simpa using h1
    | succ i=>simp at hi ⊢; exact h2 i (by simpa using hi)
   ·intro h
    refine ⟨?_,fun i hi=>?_⟩
    ·have:=h 0
     simp at this ⊢
     cases x <;> simp_all
    ·have:=h (i+1)
     simp only [List.getD_cons_succ] at this
     exact this hi
theorem mask_in{a d:List Bool}(hl:a.length=d.length)(h32:a.length≤32):bits .andNot .u32 (maskN a:Int) (maskN d:Int)=0↔(a.zip d).all (fun p=>p.2 || !p.1)=true:=by
 have h1:=maskN_lt a
 have h2:=maskN_lt d
 have hp:2 ^ a.length≤4294967296:=by rw [show (4294967296:Nat)=2 ^ 32 by decide]; exact Nat.pow_le_pow_right (by decide) h32
 rw [← hl] at h2
 rw [andNot_u32 (by omega) (by omega),zip_all hl]
 simp only [maskN_bit]
theorem mask_bit{d:List Bool}{i:Nat}(h32:d.length≤32):bits .and .u32 ((maskN d:Int) / 2 ^ i) 1=if d.getD i false=true then 1 else 0:=by
 have h1:=maskN_lt d
 have hp:2 ^ d.length≤4294967296:=by rw [show (4294967296:Nat)=2 ^ 32 by decide]; exact Nat.pow_le_pow_right (by decide) h32
 have e:(maskN d:Int) / 2 ^ i=((maskN d / 2 ^ i:Nat):Int):=by norm_cast
 rw [e,and1_u32 (Nat.lt_of_le_of_lt (Nat.div_le_self _ _) (by omega))]
 have:=maskN_bit d i
 rw [← this,← Nat.shiftRight_eq_div_pow]
 unfold Nat.testBit
 rw [Nat.and_comm,Nat.and_one_is_mod]
 have h2:=Nat.mod_two_eq_zero_or_one (maskN d >>> i)
 rcases h2 with h2 | h2 <;> rw [h2] <;> rfl
open Go Go.Ann Go.RowKit
abbrev Spot:=List Bool × List Int
def mayP(l:List OpT)(d:List Bool)(i:Nat)(o:OpT):Bool:=!(d.getD i false) && ((l.map fun p=>before p o).zip d).all (fun p=>p.2 || !p.1)
def fullP(l:List OpT)(d:List Bool):Bool:=((l.map fun o=>o.Done).zip d).all (fun p=>p.2 || !p.1)
def addP(t:List Spot)(p:Spot):List Spot:=if p∈t then t else t++[p]
def goP(l:List OpT)(p:Spot)(t:List Spot)(k:Nat):List Spot :=
 match l[k]? with
 | none=>t
 | some o=>if mayP l p.1 k o then (match stepP p.2 o with
  | some s=>addP t (p.1.set k true,s)
  | none=>t) else t
def roundK(l:List OpT)(p:Spot)(t:List Spot):Nat→List Spot
 | 0=>t
 | k+1=>goP l p (roundK l p t k) k
def bfsN(l:List OpT)(t0:List Spot):Nat→List Spot
 | 0=>t0
 | i+1=>match (bfsN l t0 i)[i]? with
  | some p=>roundK l p (bfsN l t0 i) l.length
  | none=>bfsN l t0 i
theorem addP_pre(t:List Spot)(p:Spot):t <+: addP t p:=by
 unfold addP; split
 ·exact List.prefix_rfl
 ·exact List.prefix_append _ _
theorem addP_len(t:List Spot)(p:Spot):(addP t p).length≤t.length+1:=by
 unfold addP; split <;> simp
theorem goP_pre(l:List OpT)(p:Spot)(t:List Spot)(k:Nat):t <+: goP l p t k:=by
 unfold goP
 split
 ·exact List.prefix_rfl
 ·split
  ·split
   ·exact addP_pre _ _
   ·exact List.prefix_rfl
  ·exact List.prefix_rfl
theorem goP_len(l:List OpT)(p:Spot)(t:List Spot)(k:Nat):(goP l p t k).length≤t.length+1:=by
 unfold goP
 split
 ·omega
 ·split
  ·split
   ·exact addP_len _ _
   ·omega
  ·omega
theorem roundK_pre(l:List OpT)(p:Spot)(t:List Spot):∀ k,t <+: roundK l p t k
 | 0=>List.prefix_rfl
 | k+1=>(roundK_pre l p t k).trans (goP_pre _ _ _ _)
theorem roundK_len(l:List OpT)(p:Spot)(t:List Spot):∀ k,(roundK l p t k).length≤t.length+k
 | 0=>Nat.le_refl _
 | k+1=>by
  have h1:=roundK_len l p t k
  have h2:=goP_len l p (roundK l p t k) k
  rw [roundK]; omega
theorem bfsN_step(l:List OpT)(t0:List Spot)(i:Nat):bfsN l t0 i <+: bfsN l t0 (i+1):=by
 rw [bfsN]; split
 ·exact roundK_pre _ _ _ _
 ·exact List.prefix_rfl
theorem bfsN_mono(l:List OpT)(t0:List Spot){i j:Nat}(h:i≤j):bfsN l t0 i <+: bfsN l t0 j:=by
 induction h with
 | refl=>exact List.prefix_rfl
 | step _ ih=>exact ih.trans (bfsN_step _ _ _)
theorem bfsN_closed{l:List OpT}{t0:List Spot}{i j:Nat}(h:i≤j)(hc:(bfsN l t0 i).length≤i):bfsN l t0 j=bfsN l t0 i:=by
 induction h with
 | refl=>rfl
 | step h ih =>
  rename_i m
  have hm:i≤m:=h
  rw [bfsN,ih,List.getElem?_eq_none (by omega)]
def SearchR(l:List OpT)(t0:List Spot)(b:Int):Option (List Spot)→Prop
 | none=>∃ N,b<((bfsN l t0 N).length:Int)
 | some T=>(∃ N,bfsN l t0 N=T∧T.length≤N)∧(T.length:Int)≤b
theorem SearchR.one{l:List OpT}{t0:List Spot}{b:Int}{r r':Option (List Spot)}(h:SearchR l t0 b r)(k:SearchR l t0 b r'):r=r':=by
 have key:∀ {T:List Spot},SearchR l t0 b none→SearchR l t0 b (some T)→False:=by
  rintro T ⟨N,hN⟩ ⟨⟨M,rfl,hM⟩,hb⟩
  rcases Nat.le_total N M with hle | hle
  ·have:=(bfsN_mono l t0 hle).length_le; omega
  ·rw [bfsN_closed hle hM] at hN; omega
 cases r with
 | none=>cases r' with
  | none=>rfl
  | some T=>exact (key h k).elim
 | some T=>cases r' with
  | none=>exact (key k h).elim
  | some T' =>
   obtain ⟨⟨N,h1,h2⟩,_⟩:=h
   obtain ⟨⟨M,k1,k2⟩,_⟩:=k
   subst h1 k1
   rcases Nat.le_total N M with hle | hle
   ·rw [bfsN_closed hle h2]
   ·rw [bfsN_closed hle k2]
structure Good(K:Int)(M n:Nat)(p:Spot):Prop where
 len:p.1.length=n
 ok:Ok64 p.2
 sz:p.2.length≤M+p.1.count true
 ris:K=5→p.2.Pairwise (· < ·)
theorem Good.okS{K:Int}{M n:Nat}{p:Spot}(h:Good K M n p)(hm:M+n≤1000000):OkS p.2:=by
 refine ⟨h.ok,?_⟩
 have h1:=h.sz
 have h2:=List.count_le_length (a:=true) (l:=p.1)
 rw [h.len] at h2
 omega
theorem wrap_ok(n:Int):I64 (IntKind.i64.wrap n):=by
 constructor <;> simp [IntKind.wrap,IntKind.signed,IntKind.bits] <;> omega
theorem kOk_i64{n:Int}(h:kOk .i64 n):I64 n:=by
 unfold kOk Lit.wf at h
 simp [IntKind.min,IntKind.max,IntKind.signed,IntKind.bits] at h
 exact ⟨by omega,by omega⟩
theorem numP_ok{x:Int}{o:OpT}{s:List Int}{n:Int}(hw:o.wf)(hx:I64 x)(h:numP x o=some (s,n)):Ok64 s∧s.length=1:=by
 have h1:∀ y:Int,I64 y→Ok64 [y]∧[y].length=1:=fun y hy=>⟨fun z hz=>by rw [List.mem_singleton] at hz; subst hz; exact hy,rfl⟩
 obtain ⟨_,_,_,_,_,ha,hs,_⟩:=hw
 unfold numP at h
 repeat' split at h
 all_goals first | (cases h; done) | skip
 all_goals simp only [Option.some.injEq,Prod.mk.injEq] at h; obtain ⟨rfl,_⟩:=h
 ·exact h1 _ hx
 ·exact h1 _ (kOk_i64 ha)
 ·exact h1 _ (kOk_i64 hs)
 ·exact h1 _ hx
 ·exact h1 _ (wrap_ok _)
 ·exact h1 _ (wrap_ok _)
theorem listP_ok{s:List Int}{o:OpT}{t:List Int}{n:Int}(hw:o.wf)(hx:Ok64 s)(h:listP s o=some (t,n)):Ok64 t∧t.length≤s.length+1:=by
 obtain ⟨_,_,_,_,_,ha,hs,_⟩:=hw
 unfold listP at h
 repeat' split at h
 all_goals first | (cases h; done) | skip
 all_goals simp only [Option.some.injEq,Prod.mk.injEq] at h; obtain ⟨rfl,_⟩:=h
 ·refine ⟨fun z hz=>?_,by simp⟩
  rcases List.mem_append.1 hz with hz | hz
  ·exact hx z hz
  ·rw [List.mem_singleton] at hz; subst hz; exact kOk_i64 ha
 ·exact ⟨fun z hz=>(by cases hz),by simp⟩
 ·exact ⟨fun z hz=>hx z (List.mem_cons_of_mem _ hz),by simp; omega⟩
 ·exact ⟨fun z hz=>(by cases hz),by simp⟩
 ·exact ⟨fun z hz=>hx z ((List.dropLast_subset _) hz),by simp; omega⟩
theorem setP_ok{s:List Int}{o:OpT}{t:List Int}{n:Int}(hw:o.wf)(hx:Ok64 s)(hs:s.Pairwise (· < ·))(h:setP s o=some (t,n)):Ok64 t∧t.length≤s.length+1∧t.Pairwise (· < ·):=by
 obtain ⟨_,_,_,_,_,ha,_,_⟩:=hw
 unfold setP at h
 repeat' split at h
 all_goals first | (cases h; done) | skip
 all_goals simp only [Option.some.injEq,Prod.mk.injEq] at h; obtain ⟨rfl,_⟩:=h
 ·exact ⟨hx,by omega,hs⟩
 ·exact ⟨hx,by omega,hs⟩
 ·exact ⟨hx,by omega,hs⟩
 ·rename_i hni _
  refine ⟨fun z hz=>?_,by unfold insP; simp; omega,insP_sorted hs hni⟩
  rcases insP_mem.1 hz with e | hz
  ·subst e; exact kOk_i64 ha
  ·exact hx z hz
 ·exact ⟨fun z hz=>hx z ((List.mem_filter.1 hz).1),by have:=List.length_filter_le (fun y=>!decide (y=o.Arg)) s; unfold delP; omega,delP_sorted hs⟩
 ·exact ⟨hx,by omega,hs⟩
theorem stepP_ok{s:List Int}{o:OpT}{t:List Int}(hw:o.wf)(hx:Ok64 s)(hs:o.Kind=5→s.Pairwise (· < ·))(h:stepP s o=some t):Ok64 t∧t.length≤s.length+1∧(o.Kind=5→t.Pairwise (· < ·)):=by
 unfold stepP at h
 split at h
 case h_2=>cases h
 rename_i t' n hd
 have e:t'=t:=by
  split at h
  ·cases h
  ·simpa using h
 subst e
 unfold doP at hd
 split at hd
 ·rename_i hk
  have h5:o.Kind≠5:=by omega
  unfold numL at hd
  split at hd
  ·obtain ⟨h1,h2⟩:=numP_ok hw (hx _ (List.mem_singleton.2 rfl)) hd
   exact ⟨h1,by omega,fun e=>absurd e h5⟩
  ·cases hd
 split at hd
 ·rename_i hk
  have h5:o.Kind≠5:=by omega
  obtain ⟨h1,h2⟩:=listP_ok hw hx hd
  exact ⟨h1,h2,fun e=>absurd e h5⟩
 split at hd
 ·rename_i hk
  obtain ⟨h1,h2,h3⟩:=setP_ok hw hx (hs hk) hd
  exact ⟨h1,h2,fun _=>h3⟩
 split at hd
 ·rename_i hk
  have h5:o.Kind≠5:=by omega
  repeat' split at hd
  all_goals first | (cases hd; done) | skip
  all_goals simp only [Option.some.injEq,Prod.mk.injEq] at hd; obtain ⟨rfl,_⟩:=hd
  ·obtain ⟨_,hp,_⟩:=hw
   exact ⟨fun z hz=>by rw [List.mem_singleton] at hz; subst hz; exact kOk_i64 hp,by simp,fun e=>absurd e h5⟩
  ·exact ⟨fun z hz=>(by cases hz),by simp,fun e=>absurd e h5⟩
 ·cases hd
theorem count_set{d:List Bool}{k:Nat}(hk:k<d.length)(h:d.getD k false=false):(d.set k true).count true=d.count true+1:=by
 induction d generalizing k with
 | nil=>simp at hk
 | cons b d ih =>
  cases k with
  | zero =>
   simp at h; subst h
   simp
  | succ k =>
   rw [List.set_cons_succ,List.count_cons,List.count_cons,ih (by simpa using hk) (by simpa using h)]
   omega
theorem Good.go{K:Int}{M:Nat}{l:List OpT}{p:Spot}{k:Nat}{s:List Int}(h:Good K M l.length p)(hk:k<l.length)(ha:∀ o∈l,o.Kind=K)(hw:∀ o∈l,o.wf)(hm:mayP l p.1 k l[k]=true)(hs:stepP p.2 l[k]=some s):Good K M l.length (p.1.set k true,s):=by
 have hmem:=List.getElem_mem hk
 obtain ⟨h1,h2,h3⟩:=stepP_ok (hw _ hmem) h.ok (fun e=>h.ris ((ha _ hmem).symm.trans e)) hs
 have hf:p.1.getD k false=false:=by
  unfold mayP at hm
  rw [Bool.and_eq_true] at hm
  simpa using hm.1
 refine ⟨by simpa using h.len,h1,?_,fun e=>h3 ((ha _ hmem).trans e)⟩
 have:=h.sz
 rw [count_set (by rw [h.len]; exact hk) hf]
 simp only
 omega
open Go Go.Ann Go.RowKit
theorem own_mono{w:World}{B B' e sz n:Nat}{v:Value}{xs:List Value}(h:w.ownsRow B e sz v n xs)(hb:B'≤B):w.ownsRow B' e sz v n xs:=by
 refine ⟨h.1,?_⟩
 rcases h.2 with h | ⟨g,c,cur,e1,hg,h2⟩
 ·exact .inl h
 ·exact .inr ⟨g,c,cur,e1,Nat.le_trans hb hg,h2⟩
theorem res_mono{w:World}{B B':Nat}{r:Res}(h:r.ok w B)(hb:B'≤B):r.ok w B':=by
 cases r with
 | blk b cs t=>exact ⟨h.1,Nat.le_trans hb h.2⟩
 | row v e sz n xs=>exact own_mono h hb
 | obj b o=>exact ⟨h.1,Nat.le_trans hb h.2⟩
theorem St.join{W0 w w':World}{F:Nat→Prop}{L L':List Res}{I:List Inv}(h:St W0 w F L I)(k:St w w' (fun _=>False) L' []):St W0 w' F (L'++L) I:=by
 have h':=h.call k.bel
 refine ⟨h'.bel,h'.foot,fun r hr=>?_,?_,fun a ha=>⟨(h'.inv a ha).1,fun j hj=>⟨((h'.inv a ha).2 j hj).1,((h'.inv a ha).2 j hj).2.1,fun r hr e=>?_⟩⟩⟩
 ·rcases List.mem_append.1 hr with hr | hr
  ·refine ⟨res_mono (k.res r hr).1 h.size,fun j hj hF=>?_⟩
   have:=((k.res r hr).1.lt j hj).1
   have:=(h.foot j hF).2
   omega
  ·exact h'.res r hr
 ·rw [List.filterMap_append]
  refine List.nodup_append.2 ⟨k.nd,h.nd,fun a ha b hb e=>?_⟩
  subst e
  obtain ⟨r,hr,hra⟩:=List.mem_filterMap.1 ha
  obtain ⟨q,hq,hqa⟩:=List.mem_filterMap.1 hb
  have:=((k.res r hr).1.lt a hra).1
  have:=((h.res q hq).1.lt a hqa).2
  omega
 ·rcases List.mem_append.1 hr with hr | hr
  ·have:=((k.res r hr).1.lt j e).1
   have:=((h.inv a ha).2 j hj).1
   omega
  ·exact ((h'.inv a ha).2 j hj).2.2 r hr e
def Inv.vs(D:List VS):Inv:=⟨fun w=>∀ p∈D,RdS w 1 intE p.1 p.2,fun k=>∃ p∈D,slFoot p.1 k,fun w w' h hk p hp=>RdS.loc (h p hp) fun k hf=>hk k ⟨p,hp,hf⟩⟩
theorem vs_add{W0 w w':World}{F:Nat→Prop}{L:List Res}{I:List Inv}{D:List VS}{v:Value}{s:List Int}(h:St W0 w F L (Inv.vs D::I))(hb:Below w.heap.size w w')(hr:RdS w' 1 intE v s)(hf:∀ k,slFoot v k→w.heap.size≤k):St W0 w' F L (Inv.vs ((v,s)::D)::I):=by
 have h':=h.call hb
 have hD:=h'.inv _ (List.mem_cons_self ..)
 refine (h'.inv_sub (I':=I) fun a ha=>List.mem_cons_of_mem _ ha).keep (Inv.vs ((v,s)::D)) (fun p hp=>?_) fun k hk=>?_
 ·rcases List.mem_cons.1 hp with rfl | hp
  ·exact hr
  ·exact hD.1 p hp
 ·obtain ⟨p,hp,hk⟩:=hk
  rcases List.mem_cons.1 hp with rfl | hp
  ·have h1:=hf k hk
   refine ⟨hr.footLt (by decide) hk,fun hF=>?_,fun r hr' e=>?_⟩
   ·have:=(h.foot k hF).2; omega
   ·have:=((h.res r hr').1.lt k e).2; omega
  ·exact hD.2 k ⟨p,hp,hk⟩
abbrev PS:=Value × Nat × List Int
def plE(p:PS):List Value:=[.int .u32 p.2.1,.string (ofL (txt p.2.2)),p.1]
abbrev Key:=Nat × List UInt8
def spE(k:Key):List Value:=[.int .u32 k.1,.string (ofL k.2)]
def keyOf(p:PS):Key:=(p.2.1,txt p.2.2)
theorem keyT_sp:∃ d,KeyT Tryz.prog 110 (fun k:Key=>.agg (spE k).toArray) d:=by
 refine ⟨_,keyT_flat ty110flat Tryz.underlying110 (fun a b=>?_) fun a i f h=>?_⟩
 ·simp only [aggEq,spE,vEq,andO,if_true,toL_ofL,Option.some.injEq]
  rw [Bool.eq_iff_iff,decide_eq_true_eq]
  obtain ⟨a1,a2⟩:=a
  obtain ⟨b1,b2⟩:=b
  simp only [Bool.and_eq_true,decide_eq_true_eq,Bool.and_true,Prod.mk.injEq]
  constructor
  ·rintro ⟨h1,h2⟩; exact ⟨by omega,of_decide_eq_true h2⟩
  ·rintro ⟨h1,h2⟩; exact ⟨by omega,decide_eq_true h2⟩
 ·match i,h with
  | 0,h=>simp at h; subst h; exact ⟨_,rfl⟩
  | 1,h=>simp at h; subst h; exact ⟨_,rfl⟩
  | i+2,h=>simp at h
def SL(x m:Nat)(lv av:Value)(mu:Nat)(tv:Value)(T:List PS):List Res :=
 [.blk x #[lv,av,.int .u32 mu,.map (some m),tv] 108,.row tv 112 3 T.length (T.flatMap plE),.obj m (mapO (fun k=>.agg (spE k).toArray) (T.map keyOf))]
theorem add_ok{W0 w:World}{F:Nat→Prop}{L:List Res}{I:List Inv}{x m mu d:Nat}{lv av tv sv:Value}{T:List PS}{s:List Int}(h:St W0 w F (SL x m lv av mu tv T++L) I)(hs:RdS w 1 intE sv s)(ok:OkS s)(hT:T.length≤1000000) :
  Ret Tryz.prog 62 [.pointer (some ⟨x,0,none⟩),.int .u32 d,sv] w fun _ w'=>∃ tv',St W0 w' F (SL x m lv av mu tv' (if keyOf (sv,d,s)∈T.map keyOf then T else T++[(sv,d,s)])++L) I:=by
 obtain ⟨sa,sc,rfl,_⟩:=hs.form
 obtain ⟨ta,tc,rfl,_⟩:=own_slice (h.row 1 rfl)
 refine ent62 _ _ _ _ _ ?_
 simp (disch:=first|omega|exact zF rfl|exact zG rfl|exact id|(simp only[zA,zB,zC,zD,bytesW];omega)) only[go_sem]
 refine Ret.mono (text_ok _ s w hs ok.1 ok.2) ?_
 rintro _ w1 ⟨rfl,g1⟩
 have s1:=h.call g1.below
 simp (disch:=first|omega|exact zF rfl|exact zG rfl|exact id|(simp only[zA,zB,zC,zD,bytesW];omega)) only[go_sem]
 refine bdW_built (cells:=#[.int .u32 d,.string (ofL (txt s))]) (by kernel_rfl) ?_
 simp (disch:=first|omega|exact zF rfl|exact zG rfl|exact id|(simp only[zA,zB,zC,zD,bytesW];omega)) only[go_sem]
 refine bdW_built (cells:=#[.int .u32 d,.string (ofL (txt s)),.slice sa s.length sc]) (by kernel_rfl) ?_
 simp (disch:=first|omega|exact zF rfl|exact zG rfl|exact id|(simp only[zA,zB,zC,zD,bytesW];omega)) only[go_sem]
 have b1:=s1.rules 0 rfl
 have l1:=s1.low 0 rfl
 have s2:=s1.box #[.int .u32 d,.string (ofL (txt s)),.slice sa s.length sc] 112
 generalize w1.alloc (.cells #[.int .u32 d,.string (ofL (txt s)),.slice sa s.length sc] 112)=w2 at s2 ⊢
 generalize w1.heap.size=y at s2 ⊢
 have s3:=s2.drew
 have r3:=s2.rules 0 rfl
 have q3:=s2.rules 1 rfl
 have k3:=s3.low 0 rfl
 have m3:=s3.low 1 rfl
 simp only [World.size_drew] at k3 m3
 refine c62draw0 (Chg (fun _=>False) _) (Chg.refl _ _) ?_
 simp (disch:=first|omega|exact zF rfl|exact zG rfl|exact id|(simp only[zA,zB,zC,zD,bytesW];omega)) only[go_sem,c62D0,r3,q3]
 obtain ⟨kd,hk⟩:=keyT_sp
 refine luW_map hk Tryz.underlying105 (s3.obj 3 rfl) (d,txt s) (Tryz.zeroValue4 _) ?_
 simp (disch:=first|omega|exact zF rfl|exact zG rfl|exact id|(simp only[zA,zB,zC,zD,bytesW];omega)) only[go_sem]
 refine ⟨fun hmem=>?_,fun hmem=>⟨.slice ta T.length tc,by rw [if_pos (show keyOf (Value.slice sa s.length sc,d,s)∈T.map keyOf from hmem)]; exact s3.sub (List.sublist_cons_self _ _)⟩⟩
 have s4:=s3.drew
 have r4:=s3.rules 0 rfl
 have q4:=s3.rules 1 rfl
 simp only [World.cell?_drew] at r4 q4
 refine c62draw1 (Chg (fun _=>False) _) (Chg.refl _ _) ?_
 simp (disch:=first|omega|exact zF rfl|exact zG rfl|exact id|(simp only[zA,zB,zC,zD,bytesW];omega)) only[go_sem,c62D1,r4,q4]
 refine muW_map hk Tryz.underlying105 (s4.obj 3 rfl) (d,txt s) hmem ?_
 have s5:=s4.putObj 3 rfl (mapO (fun k=>.agg (spE k).toArray) (T.map keyOf++[(d,txt s)]))
 generalize w2.drew.drew.putObj m (mapO (fun k=>Value.agg (spE k).toArray) (T.map keyOf++[(d,txt s)]))=w5 at s5 ⊢
 simp only [List.set_cons_zero,List.set_cons_succ] at s5
 simp (disch:=first|omega|exact zF rfl|exact zG rfl|exact id|(simp only[zA,zB,zC,zD,bytesW];omega)) only[go_sem,c62D1]
 have r5:=s5.rules 0 rfl
 have q5:=s5.rules 1 rfl
 have k5:=s5.low 0 rfl
 have m5:=s5.low 1 rfl
 have s6:=s5.drew
 refine c62draw2 (Chg (fun _=>False) _) (Chg.refl _ _) ?_
 simp (disch:=first|omega|exact zF rfl|exact zG rfl|exact id|(simp only[zA,zB,zC,zD,bytesW];omega)) only[go_sem,c62D2,r5,q5]
 refine bsW_agg ty106mkI rfl (by decide) (by decide) ?_
 simp (disch:=first|omega|exact zF rfl|exact zG rfl|exact id|(simp only[zA,zB,zC,zD,bytesW];omega)) only[go_sem,c62D2]
 have s7:=s6.alloc' (.cells #[.int .u32 d,.string (ofL (txt s)),.slice sa s.length sc] 112)
 have hx:Rd (w5.drew.alloc (.cells #[.int .u32 d,.string (ofL (txt s)),.slice sa s.length sc] 112)) 3 (.slice (some ⟨w5.drew.heap.size,0,none⟩) 1 1) 1 (plE (.slice sa s.length sc,d,s)):=rd_new (n:=1) (cs:=#[.int .u32 d,.string (ofL (txt s)),.slice sa s.length sc]) rfl
 refine ⟨Chg.of_below ((Below.refl _ _).alloc (Nat.le_refl _) _),s7.append 2 rfl ty106mkI rfl (by decide) hx (by intro u hu; simp only [plE,List.mem_cons,List.not_mem_nil,or_false] at hu; rcases hu with rfl | rfl | rfl <;> rfl) (by omega) (by omega) ?_⟩
 intro v8 w8 s8 c8
 simp only [List.set_cons_zero,List.set_cons_succ] at s8
 obtain ⟨a8,d8,rfl,_⟩:=own_slice (s8.row 2 rfl)
 have r8:=s8.rules 1 rfl
 simp (disch:=first|omega|exact zF rfl|exact zG rfl|exact id|(simp only[zA,zB,zC,zD,bytesW];omega)) only[go_sem,c62D2,r8]
 have s9:=(s8.set 1 rfl 4 (.slice a8 (T.length+1) d8)).sub (L':=SL x m lv av mu (.slice a8 (T.length+1) d8) (T++[(.slice sa s.length sc,d,s)])++L) (by
  unfold SL
  rw [List.length_append,List.flatMap_append,List.map_append]
  simp only [List.set_cons_zero,List.set_cons_succ,List.flatMap_cons,List.flatMap_nil,List.append_nil,List.map_cons,List.map_nil,List.length_cons,List.length_nil]
  exact List.sublist_cons_self _ _)
 refine ⟨.slice a8 (T.length+1) d8,?_⟩
 rw [if_neg (show ¬ keyOf (Value.slice sa s.length sc,d,s)∈T.map keyOf from hmem)]
 exact s9
open Go Go.Ann Go.RowKit
def uV(n:Nat):Value:=.int .u32 n
def u32E(n:Nat):List Value:=[uV n]
def preL(l:List OpT)(o:OpT):List Bool:=l.map fun p=>before p o
def afterL(l:List OpT):List Nat:=l.map fun o=>maskN (preL l o)
def doneL(l:List OpT):List Bool:=l.map fun o=>o.Done
theorem maskN_or(l:List Bool):maskN l ||| 2 ^ l.length=maskN (l++[true]):=by
 refine Nat.eq_of_testBit_eq fun j=>?_
 rw [Nat.testBit_or,maskN_bit,maskN_bit,Nat.testBit_two_pow]
 simp only [List.getD_eq_getElem?_getD]
 rcases Nat.lt_trichotomy j l.length with h | h | h
 ·rw [List.getElem?_append_left h]; simp; omega
 ·subst h; simp
 ·rw [List.getElem?_append_right (by omega),List.getElem?_eq_none (by omega),List.getElem?_eq_none (by simp; omega)]; simp; omega
theorem maskN_no(l:List Bool):maskN (l++[false])=maskN l:=by rw [maskN_app]; simp
theorem pow_le{i:Nat}(h:i≤16):2 ^ i<4294967296:=by
 have h2:2 ^ i≤2 ^ 16:=Nat.pow_le_pow_right (by decide) (by omega)
 have h3:(2:Nat) ^ 16=65536:=by decide
 omega
theorem mask_le{l:List Bool}(h:l.length≤16):maskN l<4294967296:=by
 have h1:=maskN_lt l
 have h2:=pow_le h
 omega
theorem pow_u32{i:Nat}(hi:i≤16):IntKind.u32.wrap (1 * 2 ^ min i 32)=((2 ^ i:Nat):Int):=by
 have h:=pow_le hi
 rw [Nat.min_eq_left (by omega),wrap_u32,Int.one_mul]
 have e:((2:Int) ^ i)=((2 ^ i:Nat):Int):=by norm_cast
 rw [e]
 exact Int.emod_eq_of_lt (Int.natCast_nonneg _) (Int.ofNat_lt.2 h)
theorem wrap_u64_nat{n:Nat}(h:n<18446744073709551616):IntKind.u64.wrap (n:Int)=n:=wrap_u64_id _ (by omega) (by omega)
theorem may_ok{w:World}{x i:Nat}{A:List Nat}{av lv mv tv:Value}{mu:Int}{a d:List Bool}(hB:Blk w x #[lv,av,.int .u32 mu,mv,tv] 108)(hA:RdS w 1 u32E av A)(hi:i<A.length)(ha:A[i]=maskN a)(hl:a.length=d.length)(h32:d.length≤16)(hid:A.length≤16) :
  Ret Tryz.prog 63 [.pointer (some ⟨x,0,none⟩),.int .u32 (maskN d),.int .i64 i] w fun u w'=>u=.bool (!(d.getD i false) && (a.zip d).all (fun p=>p.2 || !p.1))∧w'=w:=by
 obtain ⟨ad,cc,rfl,_⟩:=hA.form
 obtain ⟨p,rfl⟩:=hA.ptr (by omega)
 refine ent63 _ _ _ _ _ ?_
 have r:=hB.rules
 have ep:w.cell? (p.add i)=some (.int .u32 (maskN a)):=by
  have:=RdS.at1 (e1:=uV) hA hi
  rw [ha] at this; exact this
 have e1:=wrap_u64_nat (show i<18446744073709551616 by omega)
 have e2:bits .and .u32 ((maskN d:Int) / 2 ^ min i 32) 1=if d.getD i false=true then 1 else 0:=by
  rw [Nat.min_eq_left (by omega)]; exact mask_bit (by omega)
 have e3:=mask_in hl (by omega)
 simp (disch:=first|omega|exact zF rfl|exact zG rfl|exact id|(simp only[zA,zB,zC,zD,bytesW];omega)) only[go_sem,r,ep,e1]
 rw [e2]
 cases hd:d.getD i false with
 | true=>exact ⟨by omega,fun h=>by simp at h,fun _=>by simp⟩
 | false =>
  refine ⟨by omega,fun _=>⟨⟨by omega,by omega⟩,?_⟩,fun h=>by simp at h⟩
  rw [Bool.eq_iff_iff,decide_eq_true_eq,e3]
  simp
theorem begin_in{w w4:World}{x m a y i lc:Nat}{p:Addr}{l:List OpT}{o:OpT}{mu:Value}{Q:Post}(h:RdS w 11 OpT.enc (.slice (some p) l.length lc) l)(hn:l.length≤16)(hi:i<l.length)(A B:List Nat)(hA:A.length=i)
  (s4:St w w4 (fun _=>False) [.blk y o.enc.toArray 38,.blk x #[.slice (some p) l.length lc,.slice (some ⟨a,0,none⟩) l.length l.length,mu,.map (some m),.slice none 0 0] 108,.obj m (mapO (κ:=Key) (fun k=>.agg (spE k).toArray) []),.blk a ((A++0::B).map uV).toArray 103] [])
  (hQ:∀ w5,St w w5 (fun _=>False) [.blk y o.enc.toArray 38,.blk x #[.slice (some p) l.length lc,.slice (some ⟨a,0,none⟩) l.length l.length,mu,.map (some m),.slice none 0 0] 108,.obj m (mapO (κ:=Key) (fun k=>.agg (spE k).toArray) []),.blk a ((A++maskN (preL l o)::B).map uV).toArray 103] [] →
   Q .normal [(0,.slice (some p) l.length lc),(3,.pointer (some ⟨x,0,none⟩)),(15,.slice (some p) l.length lc),(16,.int .i64 l.length),(17,.int .i64 i)] w5) :
  W Tryz.prog (sg c60S3) [(0,.slice (some p) l.length lc),(3,.pointer (some ⟨x,0,none⟩)),(4,.int .i64 i),(5,.pointer (some ⟨y,0,none⟩)),(15,.slice (some p) l.length lc),(16,.int .i64 l.length),(17,.int .i64 i)] w4 Q:=by
 simp (disch:=first|omega|exact zF rfl|exact zG rfl|exact id|(simp only[zA,zB,zC,zD,bytesW];omega)) only[go_sem,c60S3,c60L1]
 have ph:(preL l o).length=l.length:=by simp [preL]
 refine W_loopU (fun k:Nat=>[(36,.int .i64 k)]) (fun k w'=>St w w' (fun _=>False) [.blk y o.enc.toArray 38,.blk x #[.slice (some p) l.length lc,.slice (some ⟨a,0,none⟩) l.length l.length,mu,.map (some m),.slice none 0 0] 108,.obj m (mapO (κ:=Key) (fun k=>.agg (spE k).toArray) []),.blk a ((A++maskN ((preL l o).take k)::B).map uV).toArray 103] []∧k≤l.length) (fun k=>l.length - k) 0 rfl ⟨s4,Nat.zero_le _⟩ ?_
 rintro k w5 ⟨s5,hk⟩
 by_cases hlt:k<l.length
 ·have hlt':(k:Int)<l.length:=by omega
  have eo:=(h.below s5.bel (by decide)).at OpT.len hlt
  have r5:=s5.rules 0 rfl
  have l5:=s5.low 0 rfl
  simp (disch:=first|omega|exact zF rfl|exact zG rfl|exact id|(simp only[zA,zB,zC,zD,bytesW];omega)) only[go_sem,c60S3,c60L1,hlt',eo,OpT.len,r5]
  refine ⟨by omega,Ret.mono (before_ok l[k] o _) ?_⟩
  rintro _ w6 ⟨rfl,b6⟩
  have s6:=(s5.alloc' (.cells l[k].enc.toArray 38)).call b6
  have r6:=s6.rules 1 rfl
  have q6:=s6.rules 3 rfl
  have l6:=s6.low 1 rfl
  have m6:=s6.low 3 rfl
  have et:(preL l o).take (k+1)=(preL l o).take k++[before l[k] o]:=by
   rw [List.take_succ_eq_append_getElem (by omega)]
   simp [preL]
  have htl:((preL l o).take k).length=k:=by rw [List.length_take]; omega
  have e1:=wrap_u64_nat (show k<18446744073709551616 by omega)
  have e2:=pow_u32 (show k≤16 by omega)
  cases hb:before l[k] o with
  | true =>
   have ec:((A++maskN ((preL l o).take k)::B).map uV)[i]?=some (.int .u32 (maskN ((preL l o).take k))):=by
    rw [List.getElem?_map,List.getElem?_append_right (by omega),hA,Nat.sub_self]; rfl
   have e3:=or_u32 (mask_le (l:=(preL l o).take k) (by omega)) (pow_le (show k≤16 by omega))
   have e4:=maskN_or ((preL l o).take k)
   rw [htl] at e4
   rw [e4,← hb,← et] at e3
   simp (disch:=first|omega|exact zF rfl|exact zG rfl|exact id|(simp only[zA,zB,zC,zD,bytesW];omega)) only[go_sem,c60S3,c60L1,r6,q6,e1,ec]
   refine ⟨⟨by omega,by omega⟩,by omega,⟨by omega,by omega⟩,⟨by omega,by omega⟩,k+1,rfl,⟨?_,by omega⟩,by omega⟩
   rw [e2,e3]
   have s7:=s6.set 3 rfl i (.int .u32 (maskN ((preL l o).take (k+1))))
   have e7:((A++maskN ((preL l o).take k)::B).map uV).toArray.setIfInBounds i (.int .u32 (maskN ((preL l o).take (k+1))))=((A++maskN ((preL l o).take (k+1))::B).map uV).toArray:=by
    rw [List.setIfInBounds_toArray,List.map_append,List.set_append_right _ _ (by simp; omega)]
    simp [hA,uV]
   rw [e7] at s7
   exact s7
  | false =>
   simp (disch:=first|omega|exact zF rfl|exact zG rfl|exact id|(simp only[zA,zB,zC,zD,bytesW];omega)) only[go_sem,c60S3,c60L1]
   refine ⟨⟨by omega,by omega⟩,k+1,rfl,⟨?_,by omega⟩,by omega⟩
   rw [et,hb,maskN_no]; exact s6
 ·have hlt':¬ (k:Int)<l.length:=by omega
  simp (disch:=first|omega|exact zF rfl|exact zG rfl|exact id|(simp only[zA,zB,zC,zD,bytesW];omega)) only[go_sem,c60S3,c60L1,hlt']
  rw [List.take_of_length_le (by omega)] at s5
  exact hQ _ s5
theorem begin_ok(lv:Value)(l:List OpT)(w:World)(h:RdS w 11 OpT.enc lv l)(hn:l.length≤16) :
  Ret Tryz.prog 60 [lv] w fun u w'=>∃ x m a,u=.pointer (some ⟨x,0,none⟩)∧St w w' (fun _=>False)
   [.blk x #[lv,.slice (some ⟨a,0,none⟩) l.length l.length,.int .u32 (maskN (doneL l)),.map (some m),.slice none 0 0] 108,.blk a ((afterL l).map uV).toArray 103,.obj m (mapO (fun k=>.agg (spE k).toArray) [])] []:=by
 obtain ⟨la,lc,rfl,_⟩:=h.form
 refine ent60 _ _ _ ?_
 simp (disch:=first|omega|exact zF rfl|exact zG rfl|exact id|(simp only[zA,zB,zC,zD,bytesW];omega)) only[go_sem,c60S3]
 refine msW_one ty104mkI rfl (by omega) (by omega) (by omega) (by omega) ?_
 simp (disch:=first|omega|exact zF rfl|exact zG rfl|exact id|(simp only[zA,zB,zC,zD,bytesW];omega)) only[go_sem,c60S3]
 have s1:=(St.start (W0:=w)).box (zerosA (Value.int IntKind.u32 0) l.length) 103
 generalize hb:w.alloc (.cells (zerosA (Value.int IntKind.u32 0) l.length) 103)=w1 at s1 ⊢
 have e1:w1.heap.size=w.heap.size+1:=by rw [← hb]; simp
 refine mmW_map (κ:=Key) (enc:=fun k=>.agg (spE k).toArray) ?_
 simp (disch:=first|omega|exact zF rfl|exact zG rfl|exact id|(simp only[zA,zB,zC,zD,bytesW];omega)) only[go_sem,c60S3]
 refine bdW_built (cells:=#[.slice la l.length lc,.slice (some ⟨w.heap.size,0,none⟩) l.length l.length,.int .u32 0,.map (some w1.heap.size),.slice none 0 0]) (by kernel_rfl) ?_
 simp (disch:=first|omega|exact zF rfl|exact zG rfl|exact id|(simp only[zA,zB,zC,zD,bytesW];omega)) only[go_sem,c60S3]
 have s2:=(s1.lay (mapO (κ:=Key) (fun k=>.agg (spE k).toArray) [])).box #[.slice la l.length lc,.slice (some ⟨w.heap.size,0,none⟩) l.length l.length,.int .u32 0,.map (some w1.heap.size),.slice none 0 0] 108
 rw [World.size_alloc] at s2
 generalize (w1.alloc (mapO (κ:=Key) (fun k=>.agg (spE k).toArray) [])).alloc (.cells #[.slice la l.length lc,.slice (some ⟨w.heap.size,0,none⟩) l.length l.length,.int .u32 0,.map (some w1.heap.size),.slice none 0 0] 108)=w2 at s2 ⊢
 have hz:(zerosA (Value.int IntKind.u32 0) l.length)=((List.replicate l.length 0).map uV).toArray:=by
  apply Array.ext'
  simp [zerosA,uV]
 rw [hz] at s2
 generalize w1.heap.size=m at s2 ⊢
 generalize w.heap.size=a at s2 ⊢
 have ah:(afterL l).length=l.length:=by simp [afterL]
 have dh:(doneL l).length=l.length:=by simp [doneL]
 refine W_loopU (fun i:Nat=>[(17,.int .i64 i)]) (fun i w'=>St w w' (fun _=>False) [.blk (m+1) #[.slice la l.length lc,.slice (some ⟨a,0,none⟩) l.length l.length,.int .u32 (maskN ((doneL l).take i)),.map (some m),.slice none 0 0] 108,.obj m (mapO (κ:=Key) (fun k=>.agg (spE k).toArray) []),.blk a (((afterL l).take i++List.replicate (l.length - i) 0).map uV).toArray 103] []∧i≤l.length) (fun i=>l.length - i) 0 rfl ⟨by simpa [maskN] using s2,Nat.zero_le _⟩ ?_
 rintro i w3 ⟨s3,hi⟩
 by_cases hlt:i<l.length
 ·have hlt':(i:Int)<l.length:=by omega
  obtain ⟨p,rfl⟩:=h.ptr (by omega)
  have eo:=(h.below s3.bel (by decide)).at OpT.len hlt
  have ho:=l[i].at
  have r3:=s3.rules 0 rfl
  have l3:=s3.low 0 rfl
  simp (disch:=first|omega|exact zF rfl|exact zG rfl|exact id|(simp only[zA,zB,zC,zD,bytesW];omega)) only[go_sem,c60L1,c60L1,hlt',eo,OpT.len,ho]
  refine ⟨by omega,?_⟩
  have s4:=s3.box l[i].enc.toArray 38
  have r4:=s4.rules 1 rfl
  have l4:=s4.low 1 rfl
  have e1:=wrap_u64_nat (show i<18446744073709551616 by omega)
  have e2:=pow_u32 (show i≤16 by omega)
  have dt:(doneL l).take (i+1)=(doneL l).take i++[l[i].Done]:=by
   rw [List.take_succ_eq_append_getElem (by omega)]
   simp [doneL]
  have dl:((doneL l).take i).length=i:=by rw [List.length_take]; omega
  have at':(afterL l).take (i+1)=(afterL l).take i++[maskN (preL l l[i])]:=by
   rw [List.take_succ_eq_append_getElem (by omega)]
   simp [afterL]
  have rep:List.replicate (l.length - i) 0=0::List.replicate (l.length - (i+1)) 0:=by
   rw [show l.length - i=(l.length - (i+1))+1 by omega,List.replicate_succ]
  have al:((afterL l).take i).length=i:=by rw [List.length_take]; omega
  rw [rep] at s4
  have nxt:∀ {mu:Value} {w5:World},mu=.int .u32 (maskN ((doneL l).take (i+1)))→St w w5 (fun _=>False) [.blk w3.heap.size l[i].enc.toArray 38,.blk (m+1) #[.slice (some p) l.length lc,.slice (some ⟨a,0,none⟩) l.length l.length,mu,.map (some m),.slice none 0 0] 108,.obj m (mapO (κ:=Key) (fun k=>.agg (spE k).toArray) []),.blk a (((afterL l).take i++maskN (preL l l[i])::List.replicate (l.length - (i+1)) 0).map uV).toArray 103] [] →
    St w w5 (fun _=>False) [.blk (m+1) #[.slice (some p) l.length lc,.slice (some ⟨a,0,none⟩) l.length l.length,.int .u32 (maskN ((doneL l).take (i+1))),.map (some m),.slice none 0 0] 108,.obj m (mapO (κ:=Key) (fun k=>.agg (spE k).toArray) []),.blk a (((afterL l).take (i+1)++List.replicate (l.length - (i+1)) 0).map uV).toArray 103] []∧i+1≤l.length:=by
   rintro mu w5 rfl s5
   refine ⟨?_,by omega⟩
   rw [at',List.append_assoc]
   exact s5.sub (List.sublist_cons_self _ _)
  cases hdn:l[i].Done with
  | true =>
   have e3:=or_u32 (mask_le (l:=(doneL l).take i) (by omega)) (pow_le (show i≤16 by omega))
   have e4:=maskN_or ((doneL l).take i)
   rw [dl] at e4
   rw [e4,← hdn,← dt] at e3
   simp (disch:=first|omega|exact zF rfl|exact zG rfl|exact id|(simp only[zA,zB,zC,zD,bytesW];omega)) only[go_sem,c60L1,r4,r3,e1]
   refine ⟨by omega,?_⟩
   rw [e2,e3]
   have s5:=s4.set 1 rfl 2 (.int .u32 (maskN ((doneL l).take (i+1))))
   simp only [List.set_cons_zero,List.set_cons_succ] at s5
   rw [World.setCell_alloc_past _ _ _ _ l3.2] at s5
   refine begin_in h hn hlt _ _ al s5 ?_
   intro w6 s6
   simp (disch:=first|omega|exact zF rfl|exact zG rfl|exact id|(simp only[zA,zB,zC,zD,bytesW];omega)) only[go_sem,c60S3,c60L1]
   exact ⟨⟨by omega,by omega⟩,i+1,rfl,nxt rfl s6,by omega⟩
  | false =>
   simp (disch:=first|omega|exact zF rfl|exact zG rfl|exact id|(simp only[zA,zB,zC,zD,bytesW];omega)) only[go_sem,c60L1]
   refine begin_in h hn hlt _ _ al s4 ?_
   intro w6 s6
   simp (disch:=first|omega|exact zF rfl|exact zG rfl|exact id|(simp only[zA,zB,zC,zD,bytesW];omega)) only[go_sem,c60S3,c60L1]
   exact ⟨⟨by omega,by omega⟩,i+1,rfl,nxt (by rw [dt,hdn,maskN_no]) s6,by omega⟩
 ·have hlt':¬ (i:Int)<l.length:=by omega
  simp (disch:=first|omega|exact zF rfl|exact zG rfl|exact id|(simp only[zA,zB,zC,zD,bytesW];omega)) only[go_sem,c60S3,c60L1,c60L1,hlt']
  have e:l.length - i=0:=by omega
  rw [List.take_of_length_le (by omega),List.take_of_length_le (by omega),e,List.replicate_zero,List.append_nil] at s3
  refine ⟨m+1,m,a,rfl,s3.perm ?_⟩
  exact (List.Perm.swap _ _ _).cons _
open Go Go.Ann Go.RowKit
abbrev VSpot:=Value × Spot
def ps(q:VSpot):PS:=(q.1,maskN q.2.1,q.2.2)
def addQ(Q:List VSpot)(q:VSpot):List VSpot:=if q.2∈Q.map Prod.snd then Q else Q++[q]
theorem addQ_snd(Q:List VSpot)(q:VSpot):(addQ Q q).map Prod.snd=addP (Q.map Prod.snd) q.2:=by
 unfold addQ addP
 split
 ·rfl
 ·simp
theorem addQ_mem{Q:List VSpot}{q p:VSpot}(h:p∈addQ Q q):p∈Q∨p=q:=by
 unfold addQ at h
 split at h
 ·exact .inl h
 ·rcases List.mem_append.1 h with h | h
  ·exact .inl h
  ·exact .inr (List.mem_singleton.1 h)
theorem key_iff{K:Int}{M n:Nat}{Q:List VSpot}{q:VSpot}(hM:M+n≤1000000)(hQ:∀ p∈Q,Good K M n p.2)(hq:Good K M n q.2):keyOf (ps q)∈(Q.map ps).map keyOf↔q.2∈Q.map Prod.snd:=by
 constructor
 ·intro h
  obtain ⟨p,hp,e⟩:=List.mem_map.1 h
  obtain ⟨r,hr,rfl⟩:=List.mem_map.1 hp
  have g:=hQ r hr
  simp only [keyOf,ps,Prod.mk.injEq] at e
  have e1:=maskN_inj (g.len.trans hq.len.symm) e.1
  have e2:=(g.okS hM).inj (hq.okS hM) e.2
  exact List.mem_map.2 ⟨r,hr,Prod.ext e1 e2⟩
 ·intro h
  obtain ⟨r,hr,e⟩:=List.mem_map.1 h
  refine List.mem_map.2 ⟨ps r,List.mem_map.2 ⟨r,hr,rfl⟩,?_⟩
  simp only [keyOf,ps,e]
theorem add_map{K:Int}{M n:Nat}{Q:List VSpot}{q:VSpot}(hM:M+n≤1000000)(hQ:∀ p∈Q,Good K M n p.2)(hq:Good K M n q.2) :
  (if keyOf (q.1,maskN q.2.1,q.2.2)∈(Q.map ps).map keyOf then Q.map ps else Q.map ps++[(q.1,maskN q.2.1,q.2.2)])=(addQ Q q).map ps:=by
 have h:=key_iff hM hQ hq
 unfold addQ
 by_cases hm:q.2∈Q.map Prod.snd
 ·rw [if_pos hm]
  exact if_pos (h.2 hm)
 ·rw [if_neg hm,List.map_append]
  exact if_neg (fun h'=>hm (h.1 h'))
theorem u32_map(A:List Nat):A.flatMap u32E=A.map uV:=by
 induction A with
 | nil=>rfl
 | cons x A ih=>rw [List.flatMap_cons,ih]; rfl
theorem rdU_of_blk{w:World}{g:Nat}{A:List Nat}{t:TypeId}(hB:Blk w g (A.map uV).toArray t){n:Nat}(hn:n=A.length):RdS w 1 u32E (.slice (some ⟨g,0,none⟩) n n) A:=by
 subst hn
 have e:=u32_map A
 refine ⟨by rw [e]; simp,_,_,rfl,Nat.le_refl _,fun _=>⟨_,rfl,fun j u hu=>?_⟩⟩
 rw [e] at hu
 rw [Addr.add_lit,Nat.zero_add,hB.cell,List.getElem?_toArray]
 exact hu
theorem sr_in{W0 w:World}{F:Nat→Prop}{L:List Res}{I:List Inv}{x m a y lc i M:Nat}{la:Option Addr}{tv pv v6 v9:Value}{l:List OpT}{d:List Bool}{s:List Int}{Q:List VSpot}{D:List VS}{b K:Int}{P:Post}
  (h:St W0 w F (SL x m (.slice la l.length lc) (.slice (some ⟨a,0,none⟩) l.length l.length) (maskN (doneL l)) tv (Q.map ps)++(.blk y (plE (pv,maskN d,s)).toArray 112::.blk a ((afterL l).map uV).toArray 103::L)) (Inv.vs D::Inv.rd 11 OpT.enc (.slice la l.length lc) l::I))
  (hn:l.length≤16) (hK:∀ o∈l,o.Kind=K) (hw:∀ o∈l,o.wf) (hM:M≤100000) (hQ:∀ q∈Q,Good K M l.length q.2) (hp:Good K M l.length (d,s)) (hD:∀ q∈Q,(q.1,q.2.2)∈D) (hpD:(pv,s)∈D) (hlen:Q.length≤200000)
  (hP:∀ (w':World) (Q':List VSpot) (D':List VS) (tv':Value),St W0 w' F (SL x m (.slice la l.length lc) (.slice (some ⟨a,0,none⟩) l.length l.length) (maskN (doneL l)) tv' (Q'.map ps)++(.blk y (plE (pv,maskN d,s)).toArray 112::.blk a ((afterL l).map uV).toArray 103::L)) (Inv.vs D'::Inv.rd 11 OpT.enc (.slice la l.length lc) l::I) →
   (∀ q∈Q',Good K M l.length q.2)→(∀ q∈Q',(q.1,q.2.2)∈D')→Q'.map Prod.snd=roundK l (d,s) (Q.map Prod.snd) l.length→(∀ p∈D,p∈D') →
   P .normal [(2,.int .i64 b),(6,v6),(8,.pointer (some ⟨x,0,none⟩)),(9,v9),(12,.int .i64 i)] w') :
  W Tryz.prog (sg c37S8) [(2,.int .i64 b),(6,v6),(8,.pointer (some ⟨x,0,none⟩)),(9,v9),(12,.int .i64 i),(13,.pointer (some ⟨y,0,none⟩))] w P:=by
 have r0:=h.rules 0 rfl
 simp (disch:=first|omega|exact zF rfl|exact zG rfl|exact id|(simp only[zA,zB,zC,zD,bytesW];omega)) only[go_sem,c37L0,c37S8,c37S12,c37S13,c37S15,c37S17,c37S18,r0]
 refine W_loopU (fun x:Nat × Value × List VSpot × List VS=>[(87,.int .i64 x.1)]) (fun z w'=>St W0 w' F (SL x m (.slice la l.length lc) (.slice (some ⟨a,0,none⟩) l.length l.length) (maskN (doneL l)) z.2.1 (z.2.2.1.map ps)++(.blk y (plE (pv,maskN d,s)).toArray 112::.blk a ((afterL l).map uV).toArray 103::L)) (Inv.vs z.2.2.2::Inv.rd 11 OpT.enc (.slice la l.length lc) l::I)∧z.1≤l.length ∧
  (∀ q∈z.2.2.1,Good K M l.length q.2)∧(∀ q∈z.2.2.1,(q.1,q.2.2)∈z.2.2.2)∧z.2.2.1.map Prod.snd=roundK l (d,s) (Q.map Prod.snd) z.1∧∀ p∈D,p∈z.2.2.2) (fun z=>l.length - z.1) (0,tv,Q,D) rfl ⟨h,Nat.zero_le _,hQ,hD,rfl,fun p hp=>hp⟩ ?_
 rintro ⟨k,tk,R,E⟩ w2 ⟨s2,hk,gR,dR,eR,sub⟩
 simp only at s2 hk gR dR eR sub
 have hRl:R.length≤Q.length+k:=by
  have:=congrArg List.length eR
  have h2:=roundK_len l (d,s) (Q.map Prod.snd) k
  simp only [List.length_map] at this h2
  omega
 by_cases hlt:k<l.length
 ·have hlt':(k:Int)<l.length:=by omega
  have hrd:=s2.rd 1 rfl
  obtain ⟨p,rfl⟩:=hrd.ptr (by omega)
  have eo:=hrd.at OpT.len hlt
  have r2:=s2.rules 3 rfl
  have l2:=s2.low 3 rfl
  have hDr:=s2.inv _ (List.mem_cons_self ..)
  have hpr:RdS w2 1 intE pv s:=hDr.1 _ (sub _ hpD)
  obtain ⟨pa,pc,rfl,_⟩:=hpr.form
  have pe:(plE (.slice pa s.length pc,maskN d,s))[0]?=some (.int .u32 (maskN d))∧(plE (.slice pa s.length pc,maskN d,s))[2]?=some (.slice pa s.length pc):=⟨rfl,rfl⟩
  have s3:=s2.box l[k].enc.toArray 38
  have lx:=s2.low 0 rfl
  have ah:(afterL l).length=l.length:=by simp [afterL]
  have dl:d.length=l.length:=hp.len
  have hmem:=List.getElem_mem hlt
  simp (disch:=first|omega|exact zF rfl|exact zG rfl|exact id|(simp only[zA,zB,zC,zD,bytesW];omega)) only[go_sem,c37L0,c37S8,c37S12,c37S13,c37S15,c37S17,c37S18,hlt',eo,OpT.len,r2,pe]
  refine ⟨by omega,?_⟩
  refine Ret.mono (may_ok (a:=preL l l[k]) (d:=d) (s3.blk 1 rfl) (rdU_of_blk (s3.blk 5 rfl) ah.symm) (by omega) (by simp [afterL]) (by simp [preL,dl]) (by omega) (by omega)) ?_
  rintro _ _ ⟨rfl,rfl⟩
  have hmay:(!(d.getD k false) && ((preL l l[k]).zip d).all (fun p=>p.2 || !p.1))=mayP l d k l[k]:=rfl
  rw [hmay]
  have go1:roundK l (d,s) (Q.map Prod.snd) (k+1)=goP l (d,s) (R.map Prod.snd) k:=by rw [roundK,← eR]
  have lk:l[k]?=some l[k]:=List.getElem?_eq_getElem hlt
  cases hmy:mayP l d k l[k] with
  | false =>
   simp (disch:=first|omega|exact zF rfl|exact zG rfl|exact id|(simp only[zA,zB,zC,zD,bytesW];omega)) only[go_sem,c37L0,c37S8,c37S12,c37S13,c37S15,c37S17,c37S18]
   refine ⟨⟨by omega,by omega⟩,(k+1,tk,R,E),rfl,⟨s3.sub (List.sublist_cons_self _ _),by simp only; omega,gR,dR,?_,sub⟩,by simp only; omega⟩
   simp only
   rw [go1]; unfold goP; rw [lk]; simp [hmy]
  | true =>
   have r3:=s3.rules 4 rfl
   have q3:=s3.rules 0 rfl
   simp (disch:=first|omega|exact zF rfl|exact zG rfl|exact id|(simp only[zA,zB,zC,zD,bytesW];omega)) only[go_sem,c37L0,c37S8,c37S12,c37S13,c37S15,c37S17,c37S18,r2,r3,q3,pe]
   have hp3:RdS (w2.alloc (.cells l[k].enc.toArray 38)) 1 intE (.slice pa s.length pc) s:=hpr.below ((Below.refl _ w2).alloc (Nat.le_refl _) _) (by decide)
   have hsl:s.length≤1000000:=(hp.okS (by omega)).2
   refine Ret.mono (step_ok _ s l[k] _ hp3 hsl (fun e=>hp.ris ((hK _ hmem).symm.trans e))) ?_
   rintro _ w4 ⟨⟨t,ok,rfl,hm⟩,b4⟩
   cases hst:stepP s l[k] with
   | none =>
    rw [hst] at hm
    have hm:ok=false:=hm
    subst hm
    have s4:=s3.call b4
    simp (disch:=first|omega|exact zF rfl|exact zG rfl|exact id|(simp only[zA,zB,zC,zD,bytesW];omega)) only[go_sem,c37L0,c37S8,c37S12,c37S13,c37S15,c37S17,c37S18]
    refine ⟨⟨by omega,by omega⟩,(k+1,tk,R,E),rfl,⟨s4.sub (List.sublist_cons_self _ _),by simp only; omega,gR,dR,?_,sub⟩,by simp only; omega⟩
    simp only
    rw [go1]; unfold goP; rw [lk]; simp [hmy,hst]
   | some s' =>
    rw [hst] at hm
    obtain ⟨rfl,h4,f4⟩:=hm
    have s4:=(vs_add s3 b4 h4 f4).sub (List.sublist_cons_self _ _)
    have gN:Good K M l.length (d.set k true,s'):=hp.go hlt hK hw hmy hst
    have r4:=s4.rules 3 rfl
    have e1:=wrap_u64_nat (show k<18446744073709551616 by omega)
    have e2:=pow_u32 (show k≤16 by omega)
    have e3:=or_u32 (mask_le (l:=d) (by omega)) (pow_le (show k≤16 by omega))
    rw [maskN_set (by omega)] at e3
    simp (disch:=first|omega|exact zF rfl|exact zG rfl|exact id|(simp only[zA,zB,zC,zD,bytesW];omega)) only[go_sem,c37L0,c37S8,c37S12,c37S13,c37S15,c37S17,c37S18,r4,e1,pe]
    refine ⟨by omega,?_⟩
    rw [e2,e3]
    refine Ret.mono (add_ok (d:=maskN (d.set k true)) (s:=s') s4 h4 (gN.okS (by omega)) (by simp; omega)) ?_
    rintro _ w5 ⟨tv5,s5⟩
    rw [add_map (q:=(t,(d.set k true,s'))) (by omega) gR gN] at s5
    simp (disch:=first|omega|exact zF rfl|exact zG rfl|exact id|(simp only[zA,zB,zC,zD,bytesW];omega)) only[go_sem,c37L0,c37S8,c37S12,c37S13,c37S15,c37S17,c37S18]
    refine ⟨⟨by omega,by omega⟩,(k+1,tv5,addQ R (t,(d.set k true,s')),(t,s')::E),rfl,⟨s5,by simp only; omega,fun q hq=>?_,fun q hq=>?_,?_,fun p hp=>List.mem_cons_of_mem _ (sub p hp)⟩,by simp only; omega⟩
    ·rcases addQ_mem hq with hq | rfl
     ·exact gR q hq
     ·exact gN
    ·rcases addQ_mem hq with hq | rfl
     ·exact List.mem_cons_of_mem _ (dR q hq)
     ·exact List.mem_cons_self ..
    ·simp only
     rw [go1,addQ_snd]; unfold goP; rw [lk]; simp [hmy,hst]
 ·have hlt':¬ (k:Int)<l.length:=by omega
  simp (disch:=first|omega|exact zF rfl|exact zG rfl|exact id|(simp only[zA,zB,zC,zD,bytesW];omega)) only[go_sem,c37L0,c37S8,c37S12,c37S13,c37S15,c37S17,c37S18,hlt']
  have e:k=l.length:=by omega
  subst e
  exact hP _ _ _ _ s2 gR dR eR sub
open Go Go.Ann Go.RowKit
def startQ(n:Nat)(U:List VS):List VSpot:=U.map fun p=>(p.1,(List.replicate n false,p.2))
def startP(n:Nat)(U:List (List Int)):List Spot:=U.map fun s=>(List.replicate n false,s)
theorem startQ_snd(n:Nat)(U:List VS):(startQ n U).map Prod.snd=startP n (U.map Prod.snd):=by
 unfold startQ startP
 rw [List.map_map,List.map_map]; rfl
theorem own_ptr{w:World}{B e sz n m c:Nat}{a:Option Addr}{xs:List Value}(h:w.ownsRow B e sz (.slice a n c) m xs)(h0:0<m):∃ g,a=some ⟨g,0,none⟩:=by
 rcases h.2 with ⟨_,h1⟩ | ⟨g,cap,cur,e,_⟩
 ·omega
 ·simp only [Value.slice.injEq] at e
  exact ⟨g,e.1⟩
theorem St.keepSub{W0 w:World}{F:Nat→Prop}{L:List Res}{I:List Inv}(h:St W0 w F L I){b:Inv}(hb:b∈I)(a:Inv)(ha:a.holds w)(hf:∀ k,a.foot k→b.foot k):St W0 w F L (a::I) :=
 h.keep a ha fun k hk=>(h.inv b hb).2 k (hf k hk)
def SearchV(w':World)(l:List OpT)(E:List (List Int))(U0:List (List Int))(r:Option (List Spot))(u:Value):Prop :=
 match r with
 | none=>u=.tuple #[.agg #[.slice none 0 0,.slice none 0 0,.int .i64 0],.int .i64 35]
 | some T=>∃ uv xv U X,u=.tuple #[.agg #[uv,xv,.int .i64 T.length],.int .i64 0]∧RowS w' uv U∧U.map Prod.snd=U0∧RowS w' xv X∧Uniq ((T.filter fun p=>fullP l p.1).map Prod.snd) (X.map Prod.snd)
theorem sr_loop{W0 w:World}{F:Nat→Prop}{Ls:List Res}{Is:List Inv}{x m a z rr lc M:Nat}{la:Option Addr}{tv uv:Value}{l:List OpT}{Q:List VSpot}{D:List VS}{b K:Int}{P:Value→World→Prop}
  (h:St W0 w F (SL x m (.slice la l.length lc) (.slice (some ⟨a,0,none⟩) l.length l.length) (maskN (doneL l)) tv (Q.map ps)++(.blk a ((afterL l).map uV).toArray 103::.blk z #[uv,.slice none 0 0,.int .i64 0] 77::.row (.slice none 0 0) 66 1 0 []::.blk rr #[.slice none 0 0,.slice none 0 0,.int .i64 0] 77::Ls)) (Inv.vs D::Inv.rd 11 OpT.enc (.slice la l.length lc) l::Is))
  (hn:l.length≤16) (hK:∀ o∈l,o.Kind=K) (hw:∀ o∈l,o.wf) (hM:M≤100000) (hQ:∀ q∈Q,Good K M l.length q.2) (hD:∀ q∈Q,(q.1,q.2.2)∈D) (hlen:Q.length≤60000) (hb:b≤32768)
  (hOver:∀ w':World,Below W0.heap.size W0 w'→(∃ N,b<((bfsN l (Q.map Prod.snd) N).length:Int))→P (.tuple #[.agg #[.slice none 0 0,.slice none 0 0,.int .i64 0],.int .i64 35]) w')
  (hDone:∀ (w':World) (Q':List VSpot) (D':List VS) (tv' xv':Value) (X':List VS),St W0 w' F (SL x m (.slice la l.length lc) (.slice (some ⟨a,0,none⟩) l.length l.length) (maskN (doneL l)) tv' (Q'.map ps)++(.blk a ((afterL l).map uV).toArray 103::.blk z #[uv,xv',.int .i64 0] 77::.row xv' 66 1 X'.length (X'.map Prod.fst)::.blk rr #[.slice none 0 0,.slice none 0 0,.int .i64 0] 77::Ls)) (Inv.vs D'::Inv.rd 11 OpT.enc (.slice la l.length lc) l::Is) →
   (∀ p∈X',p∈D')→(∀ q∈Q',Good K M l.length q.2)→(∃ N,bfsN l (Q.map Prod.snd) N=Q'.map Prod.snd∧Q'.length≤N)→(Q'.length:Int)≤b→X'.map Prod.snd=((Q'.map Prod.snd).filter fun p=>fullP l p.1).map Prod.snd→(∀ p∈D,p∈D') →
   W Tryz.prog (sg c37S13) [(6,.pointer (some ⟨rr,0,none⟩)),(8,.pointer (some ⟨x,0,none⟩)),(9,.pointer (some ⟨z,0,none⟩))] w' (finQ Tryz.prog [.cell 6 77,.tmp 7] P)) :
  W Tryz.prog (sg c37S15) [(2,.int .i64 b),(6,.pointer (some ⟨rr,0,none⟩)),(8,.pointer (some ⟨x,0,none⟩)),(9,.pointer (some ⟨z,0,none⟩))] w (finQ Tryz.prog [.cell 6 77,.tmp 7] P):=by
 simp (disch:=first|omega|exact zF rfl|exact zG rfl|exact id|(simp only[zA,zB,zC,zD,bytesW];omega)) only[go_sem,c37L0,c37S8,c37S12,c37S13,c37S15,c37S17,c37S18]
 refine W_loopU (fun q:Nat × Value × List VSpot × List VS × Value × List VS=>[(12,.int .i64 q.1)]) (fun q w'=>St W0 w' F (SL x m (.slice la l.length lc) (.slice (some ⟨a,0,none⟩) l.length l.length) (maskN (doneL l)) q.2.1 (q.2.2.1.map ps)++(.blk a ((afterL l).map uV).toArray 103::.blk z #[uv,q.2.2.2.2.1,.int .i64 0] 77::.row q.2.2.2.2.1 66 1 q.2.2.2.2.2.length (q.2.2.2.2.2.map Prod.fst)::.blk rr #[.slice none 0 0,.slice none 0 0,.int .i64 0] 77::Ls)) (Inv.vs q.2.2.2.1::Inv.rd 11 OpT.enc (.slice la l.length lc) l::Is) ∧
   q.1≤32768∧q.1≤q.2.2.1.length∧q.2.2.1.length≤60100∧(∀ p∈q.2.2.2.2.2,p∈q.2.2.2.1)∧(∀ p∈q.2.2.1,Good K M l.length p.2)∧(∀ p∈q.2.2.1,(p.1,p.2.2)∈q.2.2.2.1)∧q.2.2.1.map Prod.snd=bfsN l (Q.map Prod.snd) q.1∧q.2.2.2.2.2.map Prod.snd=(((q.2.2.1.map Prod.snd).take q.1).filter fun p=>fullP l p.1).map Prod.snd∧∀ p∈D,p∈q.2.2.2.1) (fun q=>32769 - q.1) (0,tv,Q,D,.slice none 0 0,[]) rfl ⟨h,by omega,Nat.zero_le _,by simp only; omega,(fun p hp=>by cases hp),hQ,hD,rfl,by simp,fun p hp=>hp⟩ ?_
 rintro ⟨i,tk,R,E,xk,X⟩ w2 ⟨s2,h32,hi,hRl,hX,gR,dR,eR,eX,sub⟩
 simp only at s2 h32 hi hRl hX gR dR eR eX sub
 obtain ⟨ta,tc,rfl,_⟩:=own_slice (s2.row 1 rfl)
 obtain ⟨xa,xc,rfl,_⟩:=own_slice (s2.row 5 rfl)
 have r2:=s2.rules 0 rfl
 have l2:=s2.low 0 rfl
 have hXl:X.length≤i:=by
  have e1:=congrArg List.length eX
  have e2:=List.length_filter_le (fun p:Spot=>fullP l p.1) ((R.map Prod.snd).take i)
  simp only [List.length_map,List.length_take] at e1 e2
  omega
 rw [List.length_map] at *
 by_cases hlt:i<R.length
 ·have hlt':(i:Int)<R.length:=by omega
  by_cases hov:b<(R.length:Int)
  ·simp (disch:=first|omega|exact zF rfl|exact zG rfl|exact id|(simp only[zA,zB,zC,zD,bytesW];omega)) only[go_sem,c37L0,c37S8,c37S12,c37S13,c37S15,c37S17,c37S18,r2,hlt',hov]
   refine bdW_built (cells:=#[.slice none 0 0,.slice none 0 0,.int .i64 0]) (by kernel_rfl) ?_
   have q2:=s2.rules 6 rfl
   simp (disch:=first|omega|exact zF rfl|exact zG rfl|exact id|(simp only[zA,zB,zC,zD,bytesW];omega)) only[go_sem,c37L0,c37S8,c37S12,c37S13,c37S15,c37S17,c37S18,q2]
   refine hOver _ (s2.fill 6 rfl (cs:=#[.slice none 0 0,.slice none 0 0,.int .i64 0]) rfl).bel ⟨i,?_⟩
   rw [← eR,List.length_map]; exact hov
  ·have hov':(R.length:Int)≤b:=by omega
   obtain ⟨g,rfl⟩:=own_ptr (s2.row 1 rfl) (by rw [List.length_map]; omega)
   have et:=(RdS.of_own' (enc:=plE) (s2.row 1 rfl) (R.map ps) rfl rfl).at (fun _=>rfl) (k:=i) (by simpa using hlt)
   rw [Addr.add_lit,Nat.zero_add,List.getElem_map] at et
   have gi:=gR _ (List.getElem_mem hlt)
   have di:=dR _ (List.getElem_mem hlt)
   obtain ⟨⟨pv,d,s⟩,hri⟩:∃ q,R[i]=q:=⟨_,rfl⟩
   rw [hri] at et gi di
   have hpr:RdS w2 1 intE pv s:=(s2.inv _ (List.mem_cons_self ..)).1 _ di
   obtain ⟨pa,pc,rfl,_⟩:=hpr.form
   have et:cellsO w2 ⟨g,i * 3,none⟩ 0 3=some [.int .u32 (maskN d),.string (ofL (txt s)),.slice pa s.length pc]:=et
   simp (disch:=first|omega|exact zF rfl|exact zG rfl|exact id|(simp only[zA,zB,zC,zD,bytesW];omega)) only[go_sem,c37L0,c37S8,c37S12,c37S13,c37S15,c37S17,c37S18,r2,hlt',hov,et]
   refine ⟨by omega,?_⟩
   have s3:=s2.box (plE (.slice pa s.length pc,maskN d,s)).toArray 112
   have e3:w2.alloc (.cells #[.int .u32 (maskN d),.string (ofL (txt s)),.slice pa s.length pc] 112)=w2.alloc (.cells (plE (.slice pa s.length pc,maskN d,s)).toArray 112):=rfl
   rw [e3]
   have pe:(plE (.slice pa s.length pc,maskN d,s))[0]?=some (.int .u32 (maskN d))∧(plE (.slice pa s.length pc,maskN d,s))[2]?=some (.slice pa s.length pc):=⟨rfl,rfl⟩
   have s4:=s3.drew
   have r3:=s3.rules 1 rfl
   have q3:=s3.rules 0 rfl
   generalize w2.alloc (.cells (plE (.slice pa s.length pc,maskN d,s)).toArray 112)=w3 at s3 s4 r3 q3 ⊢
   generalize w2.heap.size=y at s3 s4 q3 ⊢
   have z3:=s3.rules 5 rfl
   have hin:=mask_in (a:=doneL l) (d:=d) (by simp [doneL]; exact gi.len.symm) (by simp [doneL]; omega)
   have lz:=s3.low 5 rfl
   refine c37draw0 ?_
   simp (disch:=first|omega|exact zF rfl|exact zG rfl|exact id|(simp only[zA,zB,zC,zD,bytesW];omega)) only[go_sem,c37L0,c37S12,c37S13,c37S15,c37S17,c37S18,c37D0,r3,q3,pe,z3]
   refine ⟨fun hf=>?_,fun hf=>?_⟩
   ·have hfull:fullP l d=true:=hin.1 hf
    refine bsW_ones ty74mkI rfl rfl (by decide) (by decide) (by intro v hv; rw [List.mem_singleton] at hv; subst hv; rfl) ?_
    simp (disch:=first|omega|exact zF rfl|exact zG rfl|exact id|(simp only[zA,zB,zC,zD,bytesW];omega)) only[go_sem,c37L0,c37S8,c37S12,c37S13,c37S15,c37S17,c37S18]
    have hx:Rd (w3.drew.alloc (.cells #[.slice pa s.length pc] 66)) 1 (.slice (some ⟨w3.drew.heap.size,0,none⟩) 1 1) 1 [.slice pa s.length pc]:=rd_new (n:=1) (cs:=#[.slice pa s.length pc]) rfl
    refine (s4.alloc' (.cells #[.slice pa s.length pc] 66)).append 6 rfl ty74mkI rfl (by decide) hx (by intro v hv; rw [List.mem_singleton] at hv; subst hv; rfl) (by omega) (by omega) ?_
    intro v5 w5 s5 c5
    simp only [List.set_cons_zero,List.set_cons_succ,SL,List.cons_append,List.nil_append] at s5
    obtain ⟨a5,d5,rfl,_⟩:=own_slice (s5.row 6 rfl)
    have z5:=s5.rules 5 rfl
    simp (disch:=first|omega|exact zF rfl|exact zG rfl|exact id|(simp only[zA,zB,zC,zD,bytesW];omega)) only[go_sem,c37L0,c37S12,c37S13,c37S15,c37S17,c37S18,z5]
    have s6:=s5.set 5 rfl 1 (.slice a5 (X.length+1) d5)
    simp only [List.set_cons_zero,List.set_cons_succ] at s6
    have ex:X.length+1=(X++[((Value.slice pa s.length pc:Value),s)]).length:=by simp
    have ey:X.map Prod.fst++[Value.slice pa s.length pc]=(X++[((Value.slice pa s.length pc:Value),s)]).map Prod.fst:=by simp
    rw [ex,ey] at s6
    rw [ex]
    refine sr_in (K:=K) (M:=M) (D:=E) (Q:=R) (s6.perm List.perm_middle) hn hK hw hM gR gi dR di (by omega) ?_
    intro w7 R7 E7 tv7 s7 g7 d7 e7 sub7
    simp (disch:=first|omega|exact zF rfl|exact zG rfl|exact id|(simp only[zA,zB,zC,zD,bytesW];omega)) only[go_sem,c37L0,c37S8,c37S12,c37S13,c37S15,c37S17,c37S18]
    have b7:(i:Int)<R.length:=hlt'
    have len7:R7.length≤R.length+l.length:=by
     have:=congrArg List.length e7
     have h2:=roundK_len l (d,s) (R.map Prod.snd) l.length
     simp only [List.length_map] at this h2
     omega
    have bf:bfsN l (Q.map Prod.snd) (i+1)=R7.map Prod.snd:=by
     rw [bfsN,← eR,List.getElem?_map,List.getElem?_eq_getElem hlt,hri]
     exact e7.symm
    have pre7:R.map Prod.snd <+: R7.map Prod.snd:=by rw [e7]; exact roundK_pre _ _ _ _
    have tk7:(R7.map Prod.snd).take (i+1)=(R.map Prod.snd).take i++[(d,s)]:=by
     have e1:(R7.map Prod.snd).take (i+1)=(R.map Prod.snd).take (i+1):=by
      obtain ⟨t,ht⟩:=pre7
      rw [← ht,List.take_append_of_le_length (by rw [List.length_map]; omega)]
     rw [e1,List.take_succ_eq_append_getElem (by rw [List.length_map]; exact hlt),List.getElem_map,hri]
    have le7:R.length≤R7.length:=by have:=pre7.length_le; simpa using this
    refine ⟨⟨by omega,by omega⟩,(i+1,tv7,R7,E7,.slice a5 (X++[((Value.slice pa s.length pc:Value),s)]).length d5,X++[((Value.slice pa s.length pc:Value),s)]),rfl,⟨s7.sub ((List.Sublist.refl _).append (List.sublist_cons_self _ _)),by simp only; omega,by simp only; omega,by simp only; omega,fun p hp=>?_,g7,d7,bf.symm,?_,fun p hp=>sub7 _ (sub p hp)⟩,by simp only; omega⟩
    ·rcases List.mem_append.1 hp with hp | hp
     ·exact sub7 _ (hX p hp)
     ·rw [List.mem_singleton] at hp; subst hp; exact sub7 _ di
    ·simp only
     rw [tk7,List.filter_append,List.map_append,List.map_append,eX]
     simp [hfull]
   ·have hfull:fullP l d=false:=by
     cases hc:fullP l d with
     | false=>rfl
     | true=>exact absurd (hin.2 hc) hf
    have s6:=s4
    refine sr_in (K:=K) (M:=M) (D:=E) (Q:=R) (s6.perm List.perm_middle) hn hK hw hM gR gi dR di (by omega) ?_
    intro w7 R7 E7 tv7 s7 g7 d7 e7 sub7
    simp (disch:=first|omega|exact zF rfl|exact zG rfl|exact id|(simp only[zA,zB,zC,zD,bytesW];omega)) only[go_sem,c37L0,c37S8,c37S12,c37S13,c37S15,c37S17,c37S18]
    have b7:(i:Int)<R.length:=hlt'
    have len7:R7.length≤R.length+l.length:=by
     have:=congrArg List.length e7
     have h2:=roundK_len l (d,s) (R.map Prod.snd) l.length
     simp only [List.length_map] at this h2
     omega
    have bf:bfsN l (Q.map Prod.snd) (i+1)=R7.map Prod.snd:=by
     rw [bfsN,← eR,List.getElem?_map,List.getElem?_eq_getElem hlt,hri]
     exact e7.symm
    have pre7:R.map Prod.snd <+: R7.map Prod.snd:=by rw [e7]; exact roundK_pre _ _ _ _
    have tk7:(R7.map Prod.snd).take (i+1)=(R.map Prod.snd).take i++[(d,s)]:=by
     have e1:(R7.map Prod.snd).take (i+1)=(R.map Prod.snd).take (i+1):=by
      obtain ⟨t,ht⟩:=pre7
      rw [← ht,List.take_append_of_le_length (by rw [List.length_map]; omega)]
     rw [e1,List.take_succ_eq_append_getElem (by rw [List.length_map]; exact hlt),List.getElem_map,hri]
    have le7:R.length≤R7.length:=by have:=pre7.length_le; simpa using this
    refine ⟨⟨by omega,by omega⟩,(i+1,tv7,R7,E7,.slice xa X.length xc,X),rfl,⟨s7.sub ((List.Sublist.refl _).append (List.sublist_cons_self _ _)),by simp only; omega,by simp only; omega,by simp only; omega,fun p hp=>?_,g7,d7,bf.symm,?_,fun p hp=>sub7 _ (sub p hp)⟩,by simp only; omega⟩
    ·exact sub7 _ (hX p hp)
    ·simp only
     rw [tk7,List.filter_append,List.map_append,eX]
     simp [hfull]
 ·have hlt':¬ (i:Int)<R.length:=by omega
  simp (disch:=first|omega|exact zF rfl|exact zG rfl|exact id|(simp only[zA,zB,zC,zD,bytesW];omega)) only[go_sem,c37L0,c37S8,c37S12,c37S15,c37S17,c37S18,r2,hlt']
  refine ⟨fun hov=>?_,fun hov=>?_⟩
  ·refine bdW_built (cells:=#[.slice none 0 0,.slice none 0 0,.int .i64 0]) (by kernel_rfl) ?_
   have q2:=s2.rules 6 rfl
   simp (disch:=first|omega|exact zF rfl|exact zG rfl|exact id|(simp only[zA,zB,zC,zD,bytesW];omega)) only[go_sem,c37L0,c37S8,c37S12,c37S13,c37S15,c37S17,c37S18,q2]
   refine hOver _ (s2.fill 6 rfl (cs:=#[.slice none 0 0,.slice none 0 0,.int .i64 0]) rfl).bel ⟨i,?_⟩
   rw [← eR,List.length_map]; exact hov
  ·refine hDone _ R E _ _ X s2 hX gR ⟨i,eR.symm,by omega⟩ hov ?_ sub
   rw [eX,List.take_of_length_le (by rw [List.length_map]; omega)]
theorem perm_of8{α:Type}(t0 x1 z2 x3 a4 m5 r6 g7:α):List.Perm [x3,t0,m5,a4,z2,x1,r6,g7] [t0,x1,z2,x3,a4,m5,r6,g7]:=by
 have h:=(show List.Perm [3,0,5,4,2,1,6,7] [0,1,2,3,4,5,6,7] by decide).map fun i:Nat=>if i=0 then t0 else if i=1 then x1 else if i=2 then z2 else if i=3 then x3 else if i=4 then a4 else if i=5 then m5 else if i=6 then r6 else g7
 simpa using h
theorem nodup_le{α:Type}[DecidableEq α]:∀ {u l:List α},u.Nodup→(∀ x∈u,x∈l)→u.length≤l.length
 | [],l,_,_=>by simp
 | x::u,l,hn,h=>by
  obtain ⟨h1,h2⟩:=List.nodup_cons.1 hn
  have hx:=h x (List.mem_cons_self ..)
  have:=nodup_le (l:=l.erase x) h2 fun y hy=>(List.mem_erase_of_ne (fun e=>h1 (by rw [← e]; exact hy))).2 (h y (List.mem_cons_of_mem _ hy))
  rw [List.length_erase_of_mem hx] at this
  have hp:0<l.length:=List.length_pos_of_mem hx
  rw [List.length_cons]; omega
theorem uniq_nodup{l u:List (List Int)}(h:Uniq l u):u.Nodup:=h.1.imp fun {a b} hab e=>by subst e; rw [ltS_irr] at hab; cases hab
theorem uniq_le{l u:List (List Int)}(h:Uniq l u):u.length≤l.length:=nodup_le (uniq_nodup h) fun x hx=>(h.2 x).1 hx
def SearchF(b:Nat)(w':World)(l:List OpT)(E:List (List Int))(U0:List (List Int))(r:Option (List Spot))(u:Value):Prop :=
 match r with
 | none=>u=.tuple #[.agg #[.slice none 0 0,.slice none 0 0,.int .i64 0],.int .i64 35]
 | some T=>∃ uv xv U X,u=.tuple #[.agg #[uv,xv,.int .i64 T.length],.int .i64 0]∧RowS w' uv U∧U.map Prod.snd=U0∧RowS w' xv X∧Uniq ((T.filter fun p=>fullP l p.1).map Prod.snd) (X.map Prod.snd)∧(∀ k,RowS.foot uv U k→b≤k)∧∀ k,RowS.foot xv X k→b≤k
theorem search_okF{w:World}{l:List OpT}{lv ev:Value}{ob kd budget K:Int}{E:List VS}{M:Nat}(h:RdS w 11 OpT.enc lv l)(hn:l.length≤16)(hK:∀ o∈l,o.Kind=K)(hw:∀ o∈l,o.wf)(hE:RowS w ev E)(hEl:E.length≤60000)(hM:M≤100000)
  (hEo:∀ p∈E,Ok64 p.2∧p.2.length≤M∧(K=5→p.2.Pairwise (· < ·))) (hb:I64 budget) :
  Ret Tryz.prog 37 [.agg #[.int .i64 ob,.int .i64 kd,lv],ev,.int .i64 budget] w fun u w'=>(∃ U0 r,Uniq (E.map Prod.snd) U0∧SearchR l (startP l.length U0) (min budget 32768) r∧SearchF w.heap.size w' l (E.map Prod.snd) U0 r u)∧Below w.heap.size w w':=by
 obtain ⟨la,lc,rfl,_⟩:=h.form
 refine ent37 _ _ _ _ _ ?_
 have s2:=((St.start (W0:=w)).box #[.int .i64 ob,.int .i64 kd,.slice la l.length lc] 24).box #[.slice none 0 0,.slice none 0 0,.int .i64 0] 77
 rw [World.size_alloc] at s2
 have hn':¬ (16:Int)<l.length:=by omega
 simp (disch:=first|omega|exact zF rfl|exact zG rfl|exact id|(simp only[zA,zB,zC,zD,bytesW];omega)) only[go_sem,c37L0,c37S8,c37S12,c37S13,c37S15,c37S17,hn']
 generalize (w.alloc (.cells #[.int .i64 ob,.int .i64 kd,.slice la l.length lc] 24)).alloc (.cells #[.slice none 0 0,.slice none 0 0,.int .i64 0] 77)=w2 at s2 ⊢
 generalize hrr:w.heap.size+1=rr at s2 ⊢
 have r2:=s2.rules 1 rfl
 simp (disch:=first|omega|exact zF rfl|exact zG rfl|exact id|(simp only[zA,zB,zC,zD,bytesW];omega)) only[go_sem,c37L0,c37S8,c37S12,c37S13,c37S15,c37S18,r2]
 refine Ret.mono (begin_ok _ l w2 (h.below s2.bel (by decide)) hn) ?_
 rintro _ w3 ⟨x,m,a,rfl,t3⟩
 have s3:=St.join s2 t3
 simp (disch:=first|omega|exact zF rfl|exact zG rfl|exact id|(simp only[zA,zB,zC,zD,bytesW];omega)) only[go_sem,c37L0,c37S8,c37S12,c37S13,c37S15,c37S17,c37S18]
 refine Ret.mono (unique_ok _ E w3 (hE.below s3.bel) (fun p hp=>⟨(hEo p hp).1,by have:=(hEo p hp).2.1; omega⟩) (by omega)) ?_
 rintro uv w4 ⟨⟨U,hU,hR,hf⟩,b4⟩
 have s4:=St.keepSub ((s3.made b4 (Inv.rows uv U) hR hf).old h (by decide)) (b:=Inv.rows uv U) (by simp) (Inv.vs U) hR.rd (fun k hk=>.inr hk)
 obtain ⟨ua,uc,rfl,_⟩:=hR.form
 simp (disch:=first|omega|exact zF rfl|exact zG rfl|exact id|(simp only[zA,zB,zC,zD,bytesW];omega)) only[go_sem,c37L0,c37S8,c37S12,c37S13,c37S15,c37S17,c37S18]
 refine bdW_built (cells:=#[.slice ua U.length uc,.slice none 0 0,.int .i64 0]) (by kernel_rfl) ?_
 simp (disch:=first|omega|exact zF rfl|exact zG rfl|exact id|(simp only[zA,zB,zC,zD,bytesW];omega)) only[go_sem,c37S8,c37S12,c37S13,c37S17,c37S18]
 have s5:=((s4.box #[.slice ua U.length uc,.slice none 0 0,.int .i64 0] 77).nilRow 66 1).nilRow 112 3
 generalize w4.alloc (.cells #[.slice ua U.length uc,.slice none 0 0,.int .i64 0] 77)=w5 at s5 ⊢
 generalize w4.heap.size=z at s5 ⊢
 have s6:=s5.perm (L':=SL x m (.slice la l.length lc) (.slice (some ⟨a,0,none⟩) l.length l.length) (maskN (doneL l)) (.slice none 0 0) ((startQ l.length (U.take 0)).map ps)++(.blk a ((afterL l).map uV).toArray 103::.blk z #[.slice ua U.length uc,.slice none 0 0,.int .i64 0] 77::.row (.slice none 0 0) 66 1 0 []::.blk rr #[.slice none 0 0,.slice none 0 0,.int .i64 0] 77::[.blk w.heap.size #[.int .i64 ob,.int .i64 kd,.slice la l.length lc] 24])) (perm_of8 _ _ _ _ _ _ _ _)
 have gU:∀ p∈U,Good K M l.length (List.replicate l.length false,p.2):=fun p hp=>by
  obtain ⟨e,he,e2⟩:=List.mem_map.1 ((hU.2 p.2).1 (List.mem_map.2 ⟨p,hp,rfl⟩))
  obtain ⟨h1,h2,h3⟩:=hEo e he
  rw [e2] at h1 h2 h3
  exact ⟨by simp,h1,by simp only; omega,h3⟩
 have gS:∀ k,∀ q∈startQ l.length (U.take k),Good K M l.length q.2:=fun k q hq=>by
  obtain ⟨p,hp,rfl⟩:=List.mem_map.1 hq
  exact gU p (List.mem_of_mem_take hp)
 have hUl:U.length≤60000:=by
  have:=uniq_le hU
  simp only [List.length_map] at this
  omega
 refine W_loopU (fun q:Nat × Value=>[(34,.int .i64 q.1)]) (fun q w'=>St w w' (fun _=>False) (SL x m (.slice la l.length lc) (.slice (some ⟨a,0,none⟩) l.length l.length) (maskN (doneL l)) q.2 ((startQ l.length (U.take q.1)).map ps)++(.blk a ((afterL l).map uV).toArray 103::.blk z #[.slice ua U.length uc,.slice none 0 0,.int .i64 0] 77::.row (.slice none 0 0) 66 1 0 []::.blk rr #[.slice none 0 0,.slice none 0 0,.int .i64 0] 77::[.blk w.heap.size #[.int .i64 ob,.int .i64 kd,.slice la l.length lc] 24])) [Inv.vs U,Inv.rd 11 OpT.enc (.slice la l.length lc) l,Inv.rows (.slice ua U.length uc) U]∧q.1≤U.length) (fun q=>U.length - q.1) (0,.slice none 0 0) rfl ⟨s6,Nat.zero_le _⟩ ?_
 rintro ⟨k,tk⟩ w7 ⟨s7,hk⟩
 simp only at s7 hk
 by_cases hlt:k<U.length
 ·have hlt':(k:Int)<U.length:=by omega
  have hr7:RowS w7 (.slice ua U.length uc) U:=s7.get 2 rfl
  obtain ⟨p,rfl⟩:=hr7.ptr (by omega)
  have ek:=hr7.at hlt
  have rk:=hr7.rd _ (List.getElem_mem hlt)
  obtain ⟨va,vc,hva,_⟩:=rk.form
  simp (disch:=first|omega|exact zF rfl|exact zG rfl|exact id|(simp only[zA,zB,zC,zD,bytesW];omega)) only[go_sem,c37L0,c37S8,c37S12,c37S13,c37S15,c37S17,c37S18,c37L0,hlt',ek,hva]
  rw [hva] at rk
  refine ⟨by omega,?_⟩
  have gk:=gU _ (List.getElem_mem hlt)
  have m0:maskN (List.replicate l.length false)=0:=maskN_none _
  have hA:=add_ok (d:=0) (s:=U[k].2) s7 rk (gk.okS (by omega)) (by simp [startQ]; omega)
  refine Ret.mono hA ?_
  rintro _ w8 ⟨tv8,s8⟩
  have eA:=add_map (q:=((Value.slice va U[k].2.length vc:Value),(List.replicate l.length false,U[k].2))) (by omega) (gS k) gk
  simp only [m0] at eA
  rw [eA] at s8
  have eQ:addQ (startQ l.length (U.take k)) ((Value.slice va U[k].2.length vc:Value),(List.replicate l.length false,U[k].2))=startQ l.length (U.take (k+1)):=by
   unfold addQ
   rw [if_neg]
   ·rw [List.take_succ_eq_append_getElem hlt]
    unfold startQ
    rw [List.map_append]
    simp [hva]
   ·intro hm
    rw [startQ_snd] at hm
    obtain ⟨t,ht,e⟩:=List.mem_map.1 hm
    simp only [Prod.mk.injEq,true_and] at e
    subst e
    have hnd:=uniq_nodup hU
    rw [← List.take_append_drop k U,List.map_append,List.nodup_append] at hnd
    refine hnd.2.2 _ ht _ (List.mem_map.2 ⟨U[k],?_,rfl⟩) rfl
    rw [List.drop_eq_getElem_cons hlt]; exact List.mem_cons_self ..
  rw [eQ] at s8
  simp (disch:=first|omega|exact zF rfl|exact zG rfl|exact id|(simp only[zA,zB,zC,zD,bytesW];omega)) only[go_sem,c37L0,c37S8,c37S12,c37S13,c37S15,c37S17,c37S18]
  exact ⟨⟨by omega,by omega⟩,(k+1,tv8),rfl,⟨s8,by simp only; omega⟩,by simp only; omega⟩
 ·have hlt':¬ (k:Int)<U.length:=by omega
  simp (disch:=first|omega|exact zF rfl|exact zG rfl|exact id|(simp only[zA,zB,zC,zD,bytesW];omega)) only[go_sem,c37L0,c37S8,c37S12,c37S13,c37S17,c37S18,c37L0,hlt']
  have e:U.take k=U:=List.take_of_length_le (by omega)
  rw [e] at s7
  have q0:(startQ l.length U).map Prod.snd=startP l.length (U.map Prod.snd):=startQ_snd _ _
  refine sr_loop (K:=K) (M:=M) s7 hn hK hw hM (fun q hq=>gS U.length q (by rw [List.take_length]; exact hq)) (fun q hq=>?_) (by simp [startQ]; exact hUl) (by omega) ?_ ?_
  ·obtain ⟨p,hp,rfl⟩:=List.mem_map.1 hq
   exact hp
  ·intro w8 b8 ho
   rw [q0] at ho
   exact ⟨⟨_,none,hU,ho,rfl⟩,b8⟩
  ·intro w8 Q8 D8 tv8 xv8 X8 s8 hX8 g8 n8 c8 e8 sub8
   rw [q0] at n8
   obtain ⟨ta,tc,rfl,_⟩:=own_slice (s8.row 1 rfl)
   obtain ⟨xa,xc,rfl,_⟩:=own_slice (s8.row 5 rfl)
   have hxr:RowS w8 (.slice xa X8.length xc) X8:=⟨Rd.of_own (s8.row 5 rfl),fun p hp=>(s8.inv _ (List.mem_cons_self ..)).1 p (hX8 p hp)⟩
   have hXl:X8.length≤Q8.length:=by
    have:=congrArg List.length e8
    have h2:=List.length_filter_le (fun p:Spot=>fullP l p.1) (Q8.map Prod.snd)
    simp only [List.length_map] at this h2
    omega
   have r8:=s8.rules 4 rfl
   have hXo:∀ p∈X8,OkS p.2:=fun p hp=>by
    have:p.2∈X8.map Prod.snd:=List.mem_map.2 ⟨p,hp,rfl⟩
    rw [e8] at this
    obtain ⟨q,hq,e⟩:=List.mem_map.1 this
    obtain ⟨t,ht,rfl⟩:=List.mem_map.1 (List.mem_filter.1 hq).1
    rw [← e]
    exact (g8 t ht).okS (by omega)
   simp (disch:=first|omega|exact zF rfl|exact zG rfl|exact id|(simp only[zA,zB,zC,zD,bytesW];omega)) only[go_sem,c37L0,c37S8,c37S12,c37S13,c37S15,c37S17,c37S18,r8]
   refine Ret.mono (unique_ok _ X8 w8 hxr hXo (by omega)) ?_
   rintro xv w9 ⟨⟨V,hV,hVR,hVf⟩,b9⟩
   have s9:=s8.call b9
   obtain ⟨va,vc,rfl,_⟩:=hVR.form
   have r9:=s9.rules 0 rfl
   have z9:=s9.rules 4 rfl
   have q9:=s9.rules 6 rfl
   have lz:=s9.low 4 rfl
   have lx:=s9.low 0 rfl
   simp (disch:=first|omega|exact zF rfl|exact zG rfl|exact id|(simp only[zA,zB,zC,zD,bytesW];omega)) only[go_sem,c37L0,c37S8,c37S13,c37S15,c37S17,c37S18,r9,z9,q9]
   have s10:=s9.set 4 rfl 1 (.slice va V.length vc)
   simp only [List.set_cons_zero,List.set_cons_succ,SL,List.cons_append,List.nil_append] at s10
   have lz':=s9.low 4 rfl
   have hVl:∀ k,RowS.foot (.slice va V.length vc) V k→k<(w9.setCell ⟨z,1,none⟩ (.slice va V.length vc)).heap.size:=fun k hk=>by rw [World.size_setCell]; exact (hVf k hk).2
   have hV10:RowS (w9.setCell ⟨z,1,none⟩ (.slice va V.length vc)) (.slice va V.length vc) V:=hVR.loc fun k hk=>by
    have h1:=(hVf k hk).1
    exact ((Chg.refl (fun k=>k=z) w9).setCell ⟨z,1,none⟩ (.slice va V.length vc) fun _=>rfl).block k (hVf k hk).2 (fun e=>by have:=(s8.low 4 rfl).2; omega)
   have hU10:RowS (w9.setCell ⟨z,1,none⟩ (.slice va V.length vc)) (.slice ua U.length uc) U:=s10.get 2 rfl
   have hzz:∀ k,RowS.foot (.slice va V.length vc) V k→w8.heap.size≤k:=fun k hk=>(hVf k hk).1
   have z8:=(s8.low 4 rfl).2
   have r8':=(s8.low 6 rfl).2
   generalize w9.setCell ⟨z,1,none⟩ (.slice va V.length vc)=w10 at s10 hV10 hU10 hVl ⊢
   have x10:=s10.rules 0 rfl
   have z10:=s10.rules 4 rfl
   have q10:=s10.rules 6 rfl
   have lx:=s10.low 0 rfl
   have lzr:z≠rr:=fun e=>by
    have:=s10.ne 4 6 rfl rfl (by decide) (k:=z) rfl
    exact this (by rw [e]; rfl)
   simp (disch:=first|omega|exact zF rfl|exact zG rfl|exact id|(simp only[zA,zB,zC,zD,bytesW];omega)) only[go_sem,c37L0,c37S8,c37S12,c37S13,c37S15,c37S17,c37S18,x10,z10,q10]
   have eQ:(Q8.map ps).length=(Q8.map Prod.snd).length:=by simp
   have s11:=(s10.set 4 rfl 2 (.int .i64 (Q8.map ps).length)).fill 6 rfl (cs:=#[.slice ua U.length uc,.slice va V.length vc,.int .i64 (Q8.map ps).length]) rfl
   have hV11:=hV10.loc (w':=(w10.setCell ⟨z,2,none⟩ (.int .i64 (Q8.map ps).length)).fill rr #[.slice ua U.length uc,.slice va V.length vc,.int .i64 (Q8.map ps).length]) fun k hk=>by
    have h1:=hzz k hk
    exact (((Chg.refl (fun k=>k=z∨k=rr) w10).setCell ⟨z,2,none⟩ (.int .i64 (Q8.map ps).length) fun _=>.inl rfl).fill (b:=rr) (cs:=#[.slice ua U.length uc,.slice va V.length vc,.int .i64 (Q8.map ps).length]) fun _=>.inr rfl).block k (hVl k hk) (fun e=>by rcases e with e | e <;> omega)
   refine ⟨⟨U.map Prod.snd,some (Q8.map Prod.snd),hU,⟨?_,by rw [List.length_map]; exact c8⟩,.slice ua U.length uc,.slice va V.length vc,U,V,by rw [eQ],s11.get 2 rfl,rfl,hV11,?_,(fun k hk=>by have h1:=(hf k hk).1; have h2:=s3.bel.size; omega),fun k hk=>by have h1:=hzz k hk; have h2:=s8.bel.size; omega⟩,s11.bel⟩
   ·obtain ⟨N,h1,h2⟩:=n8
    exact ⟨N,h1,by rw [List.length_map]; exact h2⟩
   ·rw [← e8]; exact hV
open Go Go.Ann Go.RowKit
def boolE(b:Bool):List Value:=[.bool b]
theorem RdS.bl{w:World}{ad:Addr}{n cap:Nat}{l:List Bool}(h:RdS w 1 boolE (.slice (some ad) n cap) l){k:Nat}(hk:k<l.length):w.cell? (ad.add k)=some (.bool l[k]) :=
 RdS.at1 (e1:=fun r=>.bool r) h hk
theorem zip_at{l:List OpT}{d:List Bool}{f:OpT→Bool}(hl:d.length=l.length):((l.map f).zip d).all (fun p=>p.2 || !p.1)=true↔∀ j,(h:j<l.length)→(h':j<d.length)→d[j]=true∨f l[j]=false:=by
 rw [List.all_eq_true]
 constructor
 ·intro h j h1 h2
  have:=h (f l[j],d[j]) (by
   rw [List.mem_iff_getElem]
   exact ⟨j,by simp; omega,by simp⟩)
  simpa using this
 ·rintro h ⟨x,y⟩ hp
  obtain ⟨j,hj,e⟩:=List.mem_iff_getElem.1 hp
  simp only [List.getElem_zip,List.getElem_map,Prod.mk.injEq] at e
  simp only [List.length_zip,List.length_map] at hj
  have:=h j (by omega) (by omega)
  rw [← e.1,← e.2]
  simpa using this
theorem rmay_ok{w:World}{lv dv:Value}{l:List OpT}{d:List Bool}{i:Nat}(h:RdS w 11 OpT.enc lv l)(hd:RdS w 1 boolE dv d)(hl:d.length=l.length)(hi:i<l.length)(hn:l.length≤16) :
  Ret Tryz.prog 109 [lv,dv,.int .i64 i] w fun u w'=>u=.bool (mayP l d i l[i])∧Below w.heap.size w w':=by
 obtain ⟨la,lc,rfl,_⟩:=h.form
 obtain ⟨da,dc,rfl,_⟩:=hd.form
 obtain ⟨p,rfl⟩:=h.ptr (by omega)
 obtain ⟨q,rfl⟩:=hd.ptr (by omega)
 have hid:i<d.length:=by omega
 refine ent109 _ _ _ _ _ ?_
 have ei:=RdS.bl hd hid
 have gd:d.getD i false=d[i]:=by rw [List.getD_eq_getElem?_getD,List.getElem?_eq_getElem hid]; rfl
 simp (disch:=first|omega|exact zF rfl|exact zG rfl|exact id|(simp only[zA,zB,zC,zD,bytesW];omega)) only[go_sem,ei]
 refine ⟨⟨by omega,by omega⟩,fun ht=>⟨?_,Below.refl _ _⟩,fun ht=>?_⟩
 ·unfold mayP; rw [gd,ht]; rfl
 ·simp (disch:=first|omega|exact zF rfl|exact zG rfl|exact id|(simp only[zA,zB,zC,zD,bytesW];omega)) only[go_sem,c109S4]
  refine W_loopU (fun j:Nat=>[(7,.int .i64 j)]) (fun j w'=>Below w.heap.size w w'∧j≤l.length∧∀ k,(h:k<l.length)→(h':k<d.length)→k<j→d[k]=true∨before l[k] l[i]=false) (fun j=>l.length - j) 0 rfl ⟨Below.refl _ _,Nat.zero_le _,fun k _ _ h=>by omega⟩ ?_
  rintro j w2 ⟨b2,hj,hall⟩
  by_cases hlt:j<l.length
  ·have hlt':(j:Int)<l.length:=by omega
   have hjd:j<d.length:=by omega
   have hb2:Below w.heap.size w w2.drew:=b2.drew
   have ej:=RdS.bl (hd.below b2 (by decide)) hjd
   have eo:=(h.below b2 (by decide)).at OpT.len hlt
   have eo2:=(h.below b2 (by decide)).at OpT.len hi
   have lp:=h.blt OpT.len (by decide) (by omega)
   have lq:=hd.blt (fun _=>rfl) (by decide) (by omega)
   have hsz:=b2.size
   simp (disch:=first|omega|exact zF rfl|exact zG rfl|exact id|(simp only[zA,zB,zC,zD,bytesW];omega)) only[go_sem,c109S4,hlt']
   refine c109draw0 (Chg (fun _=>False) _) (Chg.refl _ _) ?_
   simp (disch:=first|omega|exact zF rfl|exact zG rfl|exact id|(simp only[zA,zB,zC,zD,bytesW];omega)) only[go_sem,c109S4,c109D0,ej,eo,eo2,OpT.len]
   have nxt:d[j]=true∨before l[j] l[i]=false→∀ k,(h:k<l.length)→(h':k<d.length)→k<j+1→d[k]=true∨before l[k] l[i]=false:=fun hh k h1 h2 h3=>by
    rcases Nat.lt_or_ge k j with h4 | h4
    ·exact hall k h1 h2 h4
    ·obtain rfl:k=j:=by omega
     exact hh
   refine ⟨⟨by omega,by omega⟩,fun hdj=>⟨⟨by omega,by omega⟩,⟨by omega,by omega⟩,Ret.mono (rbefore_ok l[j] l[i] w2.drew) ?_⟩,fun hdj=>?_⟩
   ·rintro _ w3 ⟨rfl,b3⟩
    have b33:=Below.next hb2 b3
    cases hbf:before l[j] l[i] with
    | true =>
     simp (disch:=first|omega|exact zF rfl|exact zG rfl|exact id|(simp only[zA,zB,zC,zD,bytesW];omega)) only[go_sem,c109S4,c109D0]
     refine ⟨?_,b33⟩
     cases hm:mayP l d i l[i] with
     | false=>rfl
     | true =>
      unfold mayP at hm
      rw [Bool.and_eq_true] at hm
      have:=(zip_at (f:=fun p=>before p l[i]) hl).1 hm.2 j hlt hjd
      rw [hdj,hbf] at this
      simp at this
    | false =>
     simp (disch:=first|omega|exact zF rfl|exact zG rfl|exact id|(simp only[zA,zB,zC,zD,bytesW];omega)) only[go_sem,c109S4,c109D0]
     exact ⟨⟨by omega,by omega⟩,j+1,rfl,⟨b33,by omega,nxt (.inr hbf)⟩,by omega⟩
   ·exact ⟨⟨by omega,by omega⟩,j+1,rfl,⟨hb2,by omega,nxt (.inl hdj)⟩,by omega⟩
  ·have hlt':¬ (j:Int)<l.length:=by omega
   simp (disch:=first|omega|exact zF rfl|exact zG rfl|exact id|(simp only[zA,zB,zC,zD,bytesW];omega)) only[go_sem,c109S4,hlt']
   refine ⟨?_,b2⟩
   have:mayP l d i l[i]=true:=by
    unfold mayP
    rw [gd,ht]
    exact (zip_at (f:=fun p=>before p l[i]) hl).2 fun k h1 h2=>hall k h1 h2 (by omega)
   rw [this]
theorem rfull_ok{w:World}{lv dv:Value}{l:List OpT}{d:List Bool}(h:RdS w 11 OpT.enc lv l)(hd:RdS w 1 boolE dv d)(hl:d.length=l.length)(hn:l.length≤16) :
  Ret Tryz.prog 72 [lv,dv] w fun u w'=>u=.bool (fullP l d)∧w'=w:=by
 obtain ⟨la,lc,rfl,_⟩:=h.form
 obtain ⟨da,dc,rfl,_⟩:=hd.form
 refine ent72 _ _ _ _ ?_
 simp (disch:=first|omega|exact zF rfl|exact zG rfl|exact id|(simp only[zA,zB,zC,zD,bytesW];omega)) only[go_sem]
 refine W_loopU (fun j:Nat=>[(5,.int .i64 j)]) (fun j w'=>w'=w∧j≤l.length∧∀ k,(h:k<l.length)→(h':k<d.length)→k<j→d[k]=true∨l[k].Done=false) (fun j=>l.length - j) 0 rfl ⟨rfl,Nat.zero_le _,fun k _ _ h=>by omega⟩ ?_
 rintro j _ ⟨rfl,hj,hall⟩
 by_cases hlt:j<l.length
 ·have hlt':(j:Int)<l.length:=by omega
  have hjd:j<d.length:=by omega
  obtain ⟨p,rfl⟩:=h.ptr (by omega)
  obtain ⟨q,rfl⟩:=hd.ptr (by omega)
  have ej:=RdS.bl hd hjd
  have eo:=h.elt OpT.len (by decide) hlt
  have ho:=l[j].at
  simp (disch:=first|omega|exact zF rfl|exact zG rfl|exact id|(simp only[zA,zB,zC,zD,bytesW];omega)) only[go_sem,hlt',ej,eo,ho]
  have nxt:d[j]=true∨l[j].Done=false→∀ k,(h:k<l.length)→(h':k<d.length)→k<j+1→d[k]=true∨l[k].Done=false:=fun hh k h1 h2 h3=>by
   rcases Nat.lt_or_ge k j with h4 | h4
   ·exact hall k h1 h2 h4
   ·obtain rfl:k=j:=by omega
    exact hh
  refine ⟨by omega,fun hD=>⟨⟨by omega,by omega⟩,fun hdj=>?_,fun hdj=>⟨⟨by omega,by omega⟩,j+1,rfl,⟨by omega,nxt (.inl hdj)⟩,by omega⟩⟩,fun hD=>⟨⟨by omega,by omega⟩,j+1,rfl,⟨by omega,nxt (.inr hD)⟩,by omega⟩⟩
  cases hm:fullP l d with
  | false=>rfl
  | true =>
   have:=(zip_at (f:=fun o=>o.Done) hl).1 hm j hlt hjd
   rw [hdj,hD] at this
   simp at this
 ·have hlt':¬ (j:Int)<l.length:=by omega
  simp (disch:=first|omega|exact zF rfl|exact zG rfl|exact id|(simp only[zA,zB,zC,zD,bytesW];omega)) only[go_sem,hlt']
  have:fullP l d=true:=(zip_at (f:=fun o=>o.Done) hl).2 fun k h1 h2=>hall k h1 h2 (by omega)
  rw [this]
def keyL(d:List Bool)(s:List Int):List UInt8:=(d.map fun b=>if b then 49 else 48)++txt s
theorem keyL_inj{d e:List Bool}{s t:List Int}(hl:d.length=e.length)(hs:OkS s)(ht:OkS t)(h:keyL d s=keyL e t):d=e∧s=t:=by
 unfold keyL at h
 obtain ⟨h1,h2⟩:=List.append_inj h (by simp [hl])
 refine ⟨?_,hs.inj ht h2⟩
 refine List.map_inj_right (fun a b hab=>?_) |>.1 h1
 cases a <;> cases b <;> first | rfl | (simp at hab)
theorem txt_len{s:List Int}(h:OkS s):(txt s).length≤10000010:=by
 have h1:=flat_len h.1
 have h2:=varL_10 (show s.length<18446744073709551616 by have:=h.2; omega)
 have h3:=h.2
 unfold txt
 rw [List.length_append]; omega
theorem key_ok{w:World}{dv sv:Value}{d:List Bool}{s:List Int}(hd:RdS w 1 boolE dv d)(hs:RdS w 1 intE sv s)(hok:OkS s)(hn:d.length≤16) :
  Ret Tryz.prog 108 [.agg #[dv,sv]] w fun u w'=>u=.string (ofL (keyL d s))∧Below w.heap.size w w':=by
 obtain ⟨da,dc,rfl,_⟩:=hd.form
 obtain ⟨sa,sc,rfl,_⟩:=hs.form
 refine ent108 _ _ _ ?_
 have s1:=(St.start (W0:=w)).box #[.slice da d.length dc,.slice sa s.length sc] 127
 simp (disch:=first|omega|exact zF rfl|exact zG rfl|exact id|(simp only[zA,zB,zC,zD,bytesW];omega)) only[go_sem]
 generalize w.alloc (.cells #[.slice da d.length dc,.slice sa s.length sc] 127)=w1 at s1 ⊢
 have r1:=s1.rules 0 rfl
 have hd1:=hd.below s1.bel (by decide)
 refine W_loopU (fun j:Nat=>[(3,.string (ofL ((d.take j).map fun b=>if b then 49 else 48))),(4,.int .i64 j)]) (fun j w'=>w'=w1∧j≤d.length) (fun j=>d.length - j) 0 rfl ⟨rfl,Nat.zero_le _⟩ ?_
 rintro j _ ⟨rfl,hj⟩
 by_cases hlt:j<d.length
 ·have hlt':(j:Int)<d.length:=by omega
  obtain ⟨q,rfl⟩:=hd1.ptr (by omega)
  have ej:=RdS.bl hd1 hlt
  simp (disch:=first|omega|exact zF rfl|exact zG rfl|exact id|(simp only[zA,zB,zC,zD,bytesW];omega)) only[go_sem,c108S3,hlt',ej,r1]
  have et:d.take (j+1)=d.take j++[d[j]]:=List.take_succ_eq_append_getElem hlt
  have hln:((d.take j).map fun b=>if b=true then (49:UInt8) else 48).length≤16:=by simp; omega
  refine ⟨by omega,fun hb=>⟨by omega,⟨by omega,by omega⟩,j+1,?_,by omega,by omega⟩,fun hb=>⟨by omega,⟨by omega,by omega⟩,j+1,?_,by omega,by omega⟩⟩
  ·rw [et,List.map_append,hb]; rfl
  ·rw [et,List.map_append,hb]; rfl
 ·have hlt':¬ (j:Int)<d.length:=by omega
  simp (disch:=first|omega|exact zF rfl|exact zG rfl|exact id|(simp only[zA,zB,zC,zD,bytesW];omega)) only[go_sem,c108S3,hlt',r1]
  refine Ret.mono (rtext_ok _ s _ (hs.below s1.bel (by decide)) hok.1 hok.2) ?_
  rintro _ w2 ⟨rfl,b2⟩
  simp (disch:=first|omega|exact zF rfl|exact zG rfl|exact id|(simp only[zA,zB,zC,zD,bytesW];omega)) only[go_sem,c108S3]
  have hln:((d.take j).map fun b=>if b=true then (49:UInt8) else 48).length≤16:=by simp; omega
  have htl:=txt_len hok
  refine ⟨by omega,?_,Below.next s1.bel b2⟩
  rw [List.take_of_length_le (by omega)]; rfl
open Go Go.Ann Go.RowKit
def Inv.bs(B:List (Value × List Bool)):Inv:=⟨fun w=>∀ p∈B,RdS w 1 boolE p.1 p.2,fun k=>∃ p∈B,slFoot p.1 k,fun w w' h hk p hp=>RdS.loc (h p hp) fun k hf=>hk k ⟨p,hp,hf⟩⟩
theorem bs_seal{W0 w:World}{F:Nat→Prop}{L:List Res}{I:List Inv}{v:Value}{e sz n:Nat}{xs:List Value}{d:List Bool}{D:List VS}{B:List (Value × List Bool)}(h:St W0 w F (.row v e sz n xs::L) (Inv.vs D::Inv.bs B::I))(hr:RdS w 1 boolE v d):St W0 w F L (Inv.vs D::Inv.bs ((v,d)::B)::I):=by
 have h1:=h.seal (Inv.bs [(v,d)]) (fun p hp=>by rw [List.mem_singleton] at hp; subst hp; exact hr) (fun k hk=>by
  obtain ⟨p,hp,hk⟩:=hk
  rw [List.mem_singleton] at hp; subst hp
  exact slFoot_own hk)
 have i0:=h1.inv _ (List.mem_cons_self ..)
 have i1:=h1.inv (Inv.vs D) (List.mem_cons_of_mem _ (List.mem_cons_self ..))
 have i2:=h1.inv (Inv.bs B) (List.mem_cons_of_mem _ (List.mem_cons_of_mem _ (List.mem_cons_self ..)))
 refine ((h1.inv_sub (I':=I) fun a ha=>List.mem_cons_of_mem _ (List.mem_cons_of_mem _ (List.mem_cons_of_mem _ ha))).keep (Inv.bs ((v,d)::B)) (fun p hp=>?_) fun k hk=>?_).keep (Inv.vs D) i1.1 i1.2
 ·rcases List.mem_cons.1 hp with rfl | hp
  ·exact hr
  ·exact i2.1 p hp
 ·obtain ⟨p,hp,hk⟩:=hk
  rcases List.mem_cons.1 hp with rfl | hp
  ·exact i0.2 k ⟨_,List.mem_singleton.2 rfl,hk⟩
  ·exact i2.2 k ⟨p,hp,hk⟩
theorem vs_add2{W0 w w':World}{F:Nat→Prop}{L:List Res}{I:List Inv}{D:List VS}{v u:Value}{s t:List Int}(h:St W0 w F L (Inv.vs D::I))(hb:Below w.heap.size w w')(hr:RdS w' 1 intE v s)(hu:(u,t)∈D)(hf:∀ k,slFoot v k→slFoot u k∨w.heap.size≤k):St W0 w' F L (Inv.vs ((v,s)::D)::I):=by
 have h':=h.call hb
 have hD:=h'.inv _ (List.mem_cons_self ..)
 refine (h'.inv_sub (I':=I) fun a ha=>List.mem_cons_of_mem _ ha).keep (Inv.vs ((v,s)::D)) (fun p hp=>?_) fun k hk=>?_
 ·rcases List.mem_cons.1 hp with rfl | hp
  ·exact hr
  ·exact hD.1 p hp
 ·obtain ⟨p,hp,hk⟩:=hk
  rcases List.mem_cons.1 hp with rfl | hp
  ·rcases hf k hk with h1 | h1
   ·exact hD.2 k ⟨_,hu,h1⟩
   ·refine ⟨hr.footLt (by decide) hk,fun hF=>?_,fun r hr' e=>?_⟩
    ·have:=(h.foot k hF).2; omega
    ·have:=((h.res r hr').1.lt k e).2; omega
  ·exact hD.2 k ⟨p,hp,hk⟩
abbrev RS:=Value × Value × Spot
def rsE(q:RS):List Value:=[q.1,q.2.1]
def rsP(q:RS):Spot:=q.2.2
def rkey(q:RS):List UInt8:=keyL q.2.2.1 q.2.2.2
def strE(l:List UInt8):Value:=.string (ofL l)
def addR(Q:List RS)(q:RS):List RS:=if q.2.2∈Q.map rsP then Q else Q++[q]
theorem addR_snd(Q:List RS)(q:RS):(addR Q q).map rsP=addP (Q.map rsP) q.2.2:=by
 unfold addR addP
 split
 ·rfl
 ·simp [rsP]
theorem addR_mem{Q:List RS}{q p:RS}(h:p∈addR Q q):p∈Q∨p=q:=by
 unfold addR at h
 split at h
 ·exact .inl h
 ·rcases List.mem_append.1 h with h | h
  ·exact .inl h
  ·exact .inr (List.mem_singleton.1 h)
theorem addR_pre(Q:List RS)(q:RS):Q <+: addR Q q:=by
 unfold addR; split
 ·exact List.prefix_rfl
 ·exact List.prefix_append _ _
theorem rkey_iff{K:Int}{M n:Nat}{Q:List RS}{q:RS}(hM:M+n≤1000000)(hQ:∀ p∈Q,Good K M n (rsP p))(hq:Good K M n (rsP q)):rkey q∈Q.map rkey↔rsP q∈Q.map rsP:=by
 constructor
 ·intro h
  obtain ⟨p,hp,e⟩:=List.mem_map.1 h
  have g:=hQ p hp
  obtain ⟨e1,e2⟩:=keyL_inj (g.len.trans hq.len.symm) (g.okS hM) (hq.okS hM) e
  exact List.mem_map.2 ⟨p,hp,Prod.ext e1 e2⟩
 ·intro h
  obtain ⟨p,hp,e⟩:=List.mem_map.1 h
  refine List.mem_map.2 ⟨p,hp,?_⟩
  have e:p.2.2=q.2.2:=e
  unfold rkey
  rw [e]
def RL(m:Nat)(ov:Value)(Q:List RS):List Res:=[.row ov 127 2 Q.length (Q.flatMap rsE),.obj m (mapO strE (Q.map rkey))]
theorem bool_map(d:List Bool):d.flatMap boolE=d.map Value.bool:=by
 induction d with
 | nil=>rfl
 | cons x d ih=>rw [List.flatMap_cons,ih]; rfl
theorem keyT_s:KeyT Tryz.prog 9 strE .string:=keyT_str Tryz.underlying9
theorem own_cell{w:World}{B0 e sz n m c g:Nat}{xs:List Value}(h:w.ownsRow B0 e sz (.slice (some ⟨g,0,none⟩) n c) m xs):(∀ j u,xs[j]?=some u→w.cell? ⟨g,j,none⟩=some u)∧∀ j,w.frozen? ⟨g,j,none⟩=false:=by
 rcases h.2 with ⟨e,_⟩ | ⟨g',c',cur,e,hg,hb,_,_,_,ht⟩
 ·cases e
 ·simp only [Value.slice.injEq,Option.some.injEq,Addr.mk.injEq] at e
  obtain ⟨⟨rfl,_⟩,_⟩:=e
  have hB:Blk w g cur e:=hb
  refine ⟨fun j u hu=>?_,hB.frozen⟩
  rw [hB.cell,← Array.getElem?_toList]
  rw [← ht,List.getElem?_take] at hu
  split at hu
  ·exact hu
  ·cases hu
theorem rs_in{W0 w:World}{F:Nat→Prop}{L:List Res}{I:List Inv}{m i lc M:Nat}{la:Option Addr}{ov dv sv:Value}{l:List OpT}{d:List Bool}{s:List Int}{Q:List RS}{D:List VS}{B:List (Value × List Bool)}{b K:Int}{P:Post}
  (h:St W0 w F (RL m ov Q++L) (Inv.vs D::Inv.bs B::Inv.rd 11 OpT.enc (.slice la l.length lc) l::I)) (hq:Q[i]?=some (dv,sv,d,s))
  (hn:l.length≤16) (hK:∀ o∈l,o.Kind=K) (hw:∀ o∈l,o.wf) (hM:M≤100000) (hQ:∀ q∈Q,Good K M l.length (rsP q)) (hD:∀ q∈Q,(q.2.1,q.2.2.2)∈D∧(q.1,q.2.2.1)∈B) (hlen:Q.length≤200000)
  (hP:∀ (w':World) (Q':List RS) (D':List VS) (B':List (Value × List Bool)) (ov':Value),St W0 w' F (RL m ov' Q'++L) (Inv.vs D'::Inv.bs B'::Inv.rd 11 OpT.enc (.slice la l.length lc) l::I) →
   (∀ q∈Q',Good K M l.length (rsP q))→(∀ q∈Q',(q.2.1,q.2.2.2)∈D'∧(q.1,q.2.2.1)∈B')→Q'.map rsP=roundK l (d,s) (Q.map rsP) l.length→(∀ p∈D,p∈D')→Q <+: Q' →
   P .normal [(0,.slice la l.length lc),(2,.int .i64 b),(7,ov'),(8,.map (some m)),(12,.int .i64 (i+1))] w') :
  W Tryz.prog (sg c70S14) [(0,.slice la l.length lc),(2,.int .i64 b),(7,ov),(8,.map (some m)),(12,.int .i64 i)] w P:=by
 simp (disch:=first|omega|exact zF rfl|exact zG rfl|exact id|(simp only[zA,zB,zC,zD,bytesW];omega)) only[go_sem,c70S1,c70S7,c70S14,c70S16]
 have hil:i<Q.length:=(List.getElem?_eq_some_iff.1 hq).1
 refine W_loopU (fun x:Nat × Value × List RS × List VS × List (Value × List Bool)=>[(7,x.2.1),(13,.int .i64 x.1)]) (fun z w'=>St W0 w' F (RL m z.2.1 z.2.2.1++L) (Inv.vs z.2.2.2.1::Inv.bs z.2.2.2.2::Inv.rd 11 OpT.enc (.slice la l.length lc) l::I)∧z.1≤l.length ∧
  (∀ q∈z.2.2.1,Good K M l.length (rsP q))∧(∀ q∈z.2.2.1,(q.2.1,q.2.2.2)∈z.2.2.2.1∧(q.1,q.2.2.1)∈z.2.2.2.2)∧z.2.2.1.map rsP=roundK l (d,s) (Q.map rsP) z.1∧(∀ p∈D,p∈z.2.2.2.1)∧Q <+: z.2.2.1) (fun z=>l.length - z.1) (0,ov,Q,D,B) rfl ⟨h,Nat.zero_le _,hQ,hD,rfl,(fun p hp=>hp),List.prefix_rfl⟩ ?_
 rintro ⟨k,ok,R,E,C⟩ w2 ⟨s2,hk,gR,dR,eR,sub,pre⟩
 simp only at s2 hk gR dR eR sub pre
 have hRl:R.length≤Q.length+k:=by
  have:=congrArg List.length eR
  have h2:=roundK_len l (d,s) (Q.map rsP) k
  simp only [List.length_map] at this h2
  omega
 have hiR:i<R.length:=Nat.lt_of_lt_of_le hil pre.length_le
 have hRi:R[i]=(dv,sv,d,s):=by
  obtain ⟨t,rfl⟩:=pre
  rw [List.getElem_append_left hil]
  exact (List.getElem?_eq_some_iff.1 hq).2
 obtain ⟨ra,rc,rfl,_⟩:=own_slice (s2.row 0 rfl)
 obtain ⟨g,rfl⟩:=own_ptr (s2.row 0 rfl) (by omega)
 by_cases hlt:k<l.length
 ·have hlt':(k:Int)<l.length:=by omega
  have hrd:=s2.rd 2 rfl
  obtain ⟨p,rfl⟩:=hrd.ptr (by omega)
  have eo:=hrd.at OpT.len hlt
  have ee:=(RdS.of_own' (enc:=rsE) (s2.row 0 rfl) R rfl rfl).elt (fun _=>rfl) (by decide) hiR
  rw [hRi,Addr.add_lit,Nat.zero_add] at ee
  have e0:w2.cell? ⟨g,i * 2,none⟩=some dv:=ee.1
  have e1:w2.cell? ⟨g,i * 2+1,none⟩=some sv:=by
   have:=ee.2 1 (by decide) (by decide)
   simp only [Nat.zero_add] at this
   exact this
  have hmemR:R[i]∈R:=List.getElem_mem hiR
  have gi:Good K M l.length (d,s):=by have:=gR _ hmemR; rw [hRi] at this; exact this
  have di:=dR _ hmemR
  rw [hRi] at di
  have hdv:RdS w2 1 boolE dv d:=(s2.inv (Inv.bs C) (List.mem_cons_of_mem _ (List.mem_cons_self ..))).1 _ di.2
  have hsv:RdS w2 1 intE sv s:=(s2.inv (Inv.vs E) (List.mem_cons_self ..)).1 _ di.1
  obtain ⟨da,dc,rfl,_⟩:=hdv.form
  obtain ⟨sa,sc,rfl,_⟩:=hsv.form
  simp (disch:=first|omega|exact zF rfl|exact zG rfl|exact id|(simp only[zA,zB,zC,zD,bytesW];omega)) only[go_sem,c70S1,c70S7,c70S13,c70S14,c70S16,hlt',e0]
  refine ⟨⟨by omega,by omega⟩,Ret.mono (rmay_ok hrd hdv gi.len hlt hn) ?_⟩
  rintro _ w3 ⟨rfl,b3⟩
  have s3:=s2.call b3
  have go1:roundK l (d,s) (Q.map rsP) (k+1)=goP l (d,s) (R.map rsP) k:=by rw [roundK,← eR]
  have lk:l[k]?=some l[k]:=List.getElem?_eq_getElem hlt
  have hmem:=List.getElem_mem hlt
  have gd:d.length=l.length:=gi.len
  cases hmy:mayP l d k l[k] with
  | false =>
   simp (disch:=first|omega|exact zF rfl|exact zG rfl|exact id|(simp only[zA,zB,zC,zD,bytesW];omega)) only[go_sem,c70S1,c70S7,c70S13,c70S14,c70S16]
   refine ⟨⟨by omega,by omega⟩,(k+1,.slice (some ⟨g,0,none⟩) R.length rc,R,E,C),rfl,⟨s3,by simp only; omega,gR,dR,?_,sub,pre⟩,by simp only; omega⟩
   simp only
   rw [go1]; unfold goP; rw [lk]; simp [hmy]
  | true =>
   have e0':w3.cell? ⟨g,i * 2,none⟩=some (.slice da d.length dc):=cell_below b3 e0
   have e1':w3.cell? ⟨g,i * 2+1,none⟩=some (.slice sa s.length sc):=cell_below b3 e1
   have eo':=cellsO_below b3 eo
   have lg:g<w3.heap.size:=World.block_lt_of_cell? w3 ⟨g,i * 2,none⟩ e0'
   have hsv3:RdS w3.drew 1 intE (.slice sa s.length sc) s:=(hsv.below b3 (by decide)).below (Below.refl _ w3).drew (by decide)
   have s4:=s3.drew
   simp (disch:=first|omega|exact zF rfl|exact zG rfl|exact id|(simp only[zA,zB,zC,zD,bytesW];omega)) only[go_sem,c70S1,c70S7,c70S13,c70S14,c70S16]
   refine c70draw1 (Chg (fun _=>False) _) (Chg.refl _ _) ?_
   simp (disch:=first|omega|exact zF rfl|exact zG rfl|exact id|(simp only[zA,zB,zC,zD,bytesW];omega)) only[go_sem,c70S1,c70S7,c70S13,c70S14,c70S16,c70D1,e1',eo',OpT.len]
   have hsl:s.length≤1000000:=(gi.okS (by omega)).2
   refine ⟨⟨by omega,by omega⟩,⟨by omega,by omega⟩,Ret.mono (rstep_ok _ s l[k] _ hsv3 hsl (fun e=>gi.ris ((hK _ hmem).symm.trans e))) ?_⟩
   rintro _ w5 ⟨⟨t,okk,rfl,hm⟩,b5⟩
   cases hst:stepP s l[k] with
   | none =>
    rw [hst] at hm
    have hm:okk=false:=hm
    subst hm
    have s5:=s4.call b5
    simp (disch:=first|omega|exact zF rfl|exact zG rfl|exact id|(simp only[zA,zB,zC,zD,bytesW];omega)) only[go_sem,c70S1,c70S7,c70S13,c70S14,c70S16,c70D1]
    refine ⟨⟨by omega,by omega⟩,(k+1,.slice (some ⟨g,0,none⟩) R.length rc,R,E,C),rfl,⟨s5,by simp only; omega,gR,dR,?_,sub,pre⟩,by simp only; omega⟩
    simp only
    rw [go1]; unfold goP; rw [lk]; simp [hmy,hst]
   | some s' =>
    rw [hst] at hm
    obtain ⟨rfl,h5,f5⟩:=hm
    have s5:=vs_add2 s4 b5 h5 di.1 f5
    have gN:Good K M l.length (d.set k true,s'):=gi.go hlt hK hw hmy hst
    have e05:w5.cell? ⟨g,i * 2,none⟩=some (.slice da d.length dc):=cell_below b5 e0'
    obtain ⟨tb,tc,rfl,_⟩:=h5.form
    simp (disch:=first|omega|exact zF rfl|exact zG rfl|exact id|(simp only[zA,zB,zC,zD,bytesW];omega)) only[go_sem,c70S1,c70S7,c70S13,c70S14,c70S16,c70D1]
    refine bsW_none ty125mkI ?_
    have lg5:g<w5.heap.size:=World.block_lt_of_cell? w5 ⟨g,i * 2,none⟩ e05
    simp (disch:=first|omega|exact zF rfl|exact zG rfl|exact id|(simp only[zA,zB,zC,zD,bytesW];omega)) only[go_sem,c70S1,c70S7,c70S13,c70S14,c70S16,e05]
    have s6:=s5.emptyRow 4 1
    have hdv6:RdS (w5.alloc (.cells #[] 4)) 1 boolE (.slice da d.length dc) d:=(s6.inv (Inv.bs C) (by simp)).1 _ di.2
    refine ⟨⟨by omega,by omega⟩,s6.append 0 rfl ty125mkI rfl (by decide) hdv6 (by intro u hu; obtain ⟨x,_,hx⟩:=List.mem_flatMap.1 hu; simp only [boolE,List.mem_singleton] at hx; subst hx; rfl) (by omega) (by omega) ?_⟩
    intro v7 w7 s7 c7
    simp only [List.set_cons_zero,List.nil_append,Nat.zero_add] at s7
    obtain ⟨a7,d7,rfl,_⟩:=own_slice (s7.row 0 rfl)
    obtain ⟨g7,rfl⟩:=own_ptr (s7.row 0 rfl) (by omega)
    simp (disch:=first|omega|exact zF rfl|exact zG rfl|exact id|(simp only[zA,zB,zC,zD,bytesW];omega)) only[go_sem,c70S1,c70S7,c70S13,c70S14,c70S16]
    refine bdW_built (cells:=#[.slice (some ⟨g7,0,none⟩) d.length d7,.slice tb s'.length tc]) (by kernel_rfl) ?_
    simp (disch:=first|omega|exact zF rfl|exact zG rfl|exact id|(simp only[zA,zB,zC,zD,bytesW];omega)) only[go_sem,c70S1,c70S13,c70S14,c70S16]
    have s8:=s7.box #[.slice (some ⟨g7,0,none⟩) d.length d7,.slice tb s'.length tc] 127
    have n7:w7.heap.size=w7.heap.size:=rfl
    generalize w7.alloc (.cells #[.slice (some ⟨g7,0,none⟩) d.length d7,.slice tb s'.length tc] 127)=w8 at s8 ⊢
    generalize w7.heap.size=y at s8 ⊢
    have r8:=s8.rules 0 rfl
    have c8:=own_cell (s8.row 1 rfl)
    have dk:(d.flatMap boolE)[k]?=some (.bool (d[k]'(by omega))):=by
     rw [bool_map,List.getElem?_map,List.getElem?_eq_getElem (by omega)]; rfl
    have ck:=c8.1 k _ dk
    have fk:=c8.2 k
    have ny:g7≠y:=fun e=>s8.ne 0 1 rfl rfl (by decide) (k:=y) rfl (by rw [← e]; rfl)
    simp (disch:=first|omega|exact zF rfl|exact zG rfl|exact id|(simp only[zA,zB,zC,zD,bytesW];omega)) only[go_sem,c70S1,c70S7,c70S13,c70S14,c70S16,r8,ck,fk]
    have s9:=bs_seal (d:=d.set k true) ((s8.put 1 rfl k (.bool true)).perm (List.Perm.swap _ _ _)) (by
     refine RdS.of_own' (((s8.put 1 rfl k (.bool true)).row 1 rfl)) (d.set k true) (by simp) ?_
     rw [bool_map,bool_map,List.map_set])
    refine ⟨⟨by omega,by omega⟩,?_⟩
    have ly:=(s9.low 0 rfl).2
    generalize w8.setCell ⟨g7,k,none⟩ (.bool true)=w9 at s9 ly ⊢
    have hdN:RdS w9 1 boolE (.slice (some ⟨g7,0,none⟩) d.length d7) (d.set k true):=(s9.inv (Inv.bs _) (List.mem_cons_of_mem _ (List.mem_cons_self ..))).1 _ (List.mem_cons_self ..)
    have hsN:RdS w9 1 intE (.slice tb s'.length tc) s':=(s9.inv (Inv.vs _) (List.mem_cons_self ..)).1 _ (List.mem_cons_self ..)
    have okN:=gN.okS (show M+l.length≤1000000 by omega)
    refine Ret.mono (key_ok hdN hsN okN (by simp; omega)) ?_
    rintro _ w10 ⟨rfl,b10⟩
    have s10:=s9.call b10
    simp (disch:=first|omega|exact zF rfl|exact zG rfl|exact id|(simp only[zA,zB,zC,zD,bytesW];omega)) only[go_sem,c70S1,c70S7,c70S13,c70S14,c70S16]
    refine luW_map keyT_s Tryz.underlying156 (s10.obj 2 rfl) (keyL (d.set k true) s') (Tryz.zeroValue4 _) ?_
    have hmm:=rkey_iff (M:=M) (Q:=R) (q:=((Value.slice (some ⟨g7,0,none⟩) d.length d7:Value),(Value.slice tb s'.length tc:Value),(d.set k true,s'))) (by omega) gR gN
    simp (disch:=first|omega|exact zF rfl|exact zG rfl|exact id|(simp only[zA,zB,zC,zD,bytesW];omega)) only[go_sem,c70S1,c70S7,c70S13,c70S14,c70S16]
    refine ⟨fun hno=>?_,fun hyes=>?_⟩
    ·have hnin:(d.set k true,s') ∉ R.map rsP:=fun h'=>hno (hmm.2 h')
     have r10:=s10.rules 0 rfl
     simp (disch:=first|omega|exact zF rfl|exact zG rfl|exact id|(simp only[zA,zB,zC,zD,bytesW];omega)) only[go_sem,c70S1,c70S7,c70S13,c70S14,c70S16,r10]
     have hdN2:=hdN.below b10 (by decide)
     have hsN2:=hsN.below b10 (by decide)
     refine Ret.mono (key_ok hdN2 hsN2 okN (by simp; omega)) ?_
     rintro _ w11 ⟨rfl,b11⟩
     have s11:=s10.call b11
     simp (disch:=first|omega|exact zF rfl|exact zG rfl|exact id|(simp only[zA,zB,zC,zD,bytesW];omega)) only[go_sem,c70S1,c70S7,c70S13,c70S14,c70S16]
     refine muW_map keyT_s Tryz.underlying156 (s11.obj 2 rfl) (keyL (d.set k true) s') hno ?_
     have s12:=s11.putObj 2 rfl (mapO strE (R.map rkey++[keyL (d.set k true) s']))
     simp only [List.set_cons_zero,List.set_cons_succ,RL,List.cons_append,List.nil_append] at s12
     generalize w11.putObj m (mapO strE (R.map rkey++[keyL (d.set k true) s']))=w12 at s12 ⊢
     have r12:=s12.rules 0 rfl
     simp (disch:=first|omega|exact zF rfl|exact zG rfl|exact id|(simp only[zA,zB,zC,zD,bytesW];omega)) only[go_sem,c70S1,c70S7,c70S13,c70S14,c70S16,r12]
     refine bsW_agg ty122mkI rfl (by decide) (by decide) ?_
     simp (disch:=first|omega|exact zF rfl|exact zG rfl|exact id|(simp only[zA,zB,zC,zD,bytesW];omega)) only[go_sem,c70S1,c70S7,c70S13,c70S14,c70S16]
     have hx:Rd (w12.alloc (.cells #[.slice (some ⟨g7,0,none⟩) d.length d7,.slice tb s'.length tc] 127)) 2 (.slice (some ⟨w12.heap.size,0,none⟩) 1 1) 1 [.slice (some ⟨g7,0,none⟩) d.length d7,.slice tb s'.length tc]:=rd_new (n:=1) (cs:=#[.slice (some ⟨g7,0,none⟩) d.length d7,.slice tb s'.length tc]) rfl
     refine (s12.alloc' (.cells #[.slice (some ⟨g7,0,none⟩) d.length d7,.slice tb s'.length tc] 127)).append 1 rfl ty122mkI rfl (by decide) hx (by intro u hu; simp only [List.mem_cons,List.not_mem_nil,or_false] at hu; rcases hu with rfl | rfl <;> rfl) (by omega) (by omega) ?_
     intro v13 w13 s13 c13
     simp only [List.set_cons_zero,List.set_cons_succ] at s13
     simp (disch:=first|omega|exact zF rfl|exact zG rfl|exact id|(simp only[zA,zB,zC,zD,bytesW];omega)) only[go_sem,c70S1,c70S7,c70S13,c70S14,c70S16]
     have s14:=s13.sub (L':=RL m v13 (R++[((Value.slice (some ⟨g7,0,none⟩) d.length d7:Value),(Value.slice tb s'.length tc:Value),(d.set k true,s'))])++L) (by
      unfold RL
      rw [List.length_append,List.flatMap_append,List.map_append]
      exact List.sublist_cons_self _ _)
     have eA:addR R ((Value.slice (some ⟨g7,0,none⟩) d.length d7:Value),(Value.slice tb s'.length tc:Value),(d.set k true,s'))=R++[((Value.slice (some ⟨g7,0,none⟩) d.length d7:Value),(Value.slice tb s'.length tc:Value),(d.set k true,s'))]:=by
      unfold addR
      exact if_neg hnin
     rw [← eA] at s14
     refine ⟨⟨by omega,by omega⟩,(k+1,v13,addR R ((Value.slice (some ⟨g7,0,none⟩) d.length d7:Value),(Value.slice tb s'.length tc:Value),(d.set k true,s')),(.slice tb s'.length tc,s')::E,(.slice (some ⟨g7,0,none⟩) d.length d7,d.set k true)::C),rfl,⟨s14,by simp only; omega,fun q hq=>?_,fun q hq=>?_,?_,fun p hp=>List.mem_cons_of_mem _ (sub p hp),pre.trans (addR_pre _ _)⟩,by simp only; omega⟩
     ·rcases addR_mem hq with hq | rfl
      ·exact gR q hq
      ·exact gN
     ·rcases addR_mem hq with hq | rfl
      ·exact ⟨List.mem_cons_of_mem _ (dR q hq).1,List.mem_cons_of_mem _ (dR q hq).2⟩
      ·exact ⟨List.mem_cons_self ..,List.mem_cons_self ..⟩
     ·simp only
      rw [go1,addR_snd]; unfold goP; rw [lk]; simp only [hmy,hst,if_true]
    ·have hin:(d.set k true,s')∈R.map rsP:=hmm.1 hyes
     refine ⟨⟨by omega,by omega⟩,(k+1,.slice (some ⟨g,0,none⟩) R.length rc,R,(.slice tb s'.length tc,s')::E,(.slice (some ⟨g7,0,none⟩) d.length d7,d.set k true)::C),rfl,⟨s10.sub (List.sublist_cons_self _ _),by simp only; omega,gR,fun q hq=>⟨List.mem_cons_of_mem _ (dR q hq).1,List.mem_cons_of_mem _ (dR q hq).2⟩,?_,fun p hp=>List.mem_cons_of_mem _ (sub p hp),pre⟩,by simp only; omega⟩
     simp only
     rw [go1]; unfold goP; rw [lk]; simp only [hmy,hst,if_true]
     unfold addP
     rw [if_pos hin]
 ·have hlt':¬ (k:Int)<l.length:=by omega
  simp (disch:=first|omega|exact zF rfl|exact zG rfl|exact id|(simp only[zA,zB,zC,zD,bytesW];omega)) only[go_sem,c70S1,c70S7,c70S13,c70S14,c70S16,hlt']
  have e:k=l.length:=by omega
  subst e
  refine ⟨⟨by omega,by omega⟩,?_⟩
  exact hP _ _ _ _ _ s2 gR dR eR sub pre
open Go Go.Ann Go.RowKit
def SpotsR(l:List OpT)(t0:List Spot)(b:Int)(Q:List RS):Prop :=
 (b<(Q.length:Int)∧SearchR l t0 b none)∨((Q.length:Int)≤b∧SearchR l t0 b (some (Q.map rsP)))
theorem rs_main{W0 w:World}{F:Nat→Prop}{L:List Res}{I:List Inv}{m lc M:Nat}{la:Option Addr}{ov:Value}{l:List OpT}{Q:List RS}{D:List VS}{B:List (Value × List Bool)}{b K:Int}{t0:List Spot}{P:Value→World→Prop}
  (h:St W0 w F (RL m ov Q++L) (Inv.vs D::Inv.bs B::Inv.rd 11 OpT.enc (.slice la l.length lc) l::I))
  (hn:l.length≤16) (hK:∀ o∈l,o.Kind=K) (hw:∀ o∈l,o.wf) (hM:M≤100000) (hQ:∀ q∈Q,Good K M l.length (rsP q)) (hD:∀ q∈Q,(q.2.1,q.2.2.2)∈D∧(q.1,q.2.2.1)∈B) (hlen:Q.length≤60000) (hb:b≤32768)
  (hover:b<(Q.length:Int)→b<(t0.length:Int)) (h0:(Q.length:Int)≤b→Q.map rsP=t0)
  (hP:∀ (w':World) (Q':List RS) (D':List VS) (B':List (Value × List Bool)) (ov':Value),St W0 w' F (RL m ov' Q'++L) (Inv.vs D'::Inv.bs B'::Inv.rd 11 OpT.enc (.slice la l.length lc) l::I) →
   (∀ q∈Q',Good K M l.length (rsP q))→(∀ q∈Q',(q.2.1,q.2.2.2)∈D'∧(q.1,q.2.2.1)∈B')→Q'.length≤60100→SpotsR l t0 b Q'→P ov' w') :
  W Tryz.prog (sg c70S16) [(0,.slice la l.length lc),(2,.int .i64 b),(7,ov),(8,.map (some m))] w (finQ Tryz.prog [.tmp 6] P):=by
 simp (disch:=first|omega|exact zF rfl|exact zG rfl|exact id|(simp only[zA,zB,zC,zD,bytesW];omega)) only[go_sem,c70S1,c70S7,c70S13,c70S14,c70S16]
 by_cases hov:b<(Q.length:Int)
 ·refine W_loopU (fun x:Nat=>[(12,.int .i64 x)]) (fun x w'=>w'=w∧x=0) (fun x=>x) 0 rfl ⟨rfl,rfl⟩ ?_
  rintro x _ ⟨rfl,rfl⟩
  obtain ⟨oa,oc,rfl,_⟩:=own_slice (h.row 0 rfl)
  have hov':¬ (Q.length:Int)≤b:=by omega
  by_cases h0:(0:Int)<Q.length
  ·simp (disch:=first|omega|exact zF rfl|exact zG rfl|exact id|(simp only[zA,zB,zC,zD,bytesW];omega)) only[go_sem,c70S1,c70S7,c70S13,c70S14,c70S16,h0,hov']
   exact hP _ Q D B _ h hQ hD (by omega) (.inl ⟨hov,0,hover hov⟩)
  ·simp (disch:=first|omega|exact zF rfl|exact zG rfl|exact id|(simp only[zA,zB,zC,zD,bytesW];omega)) only[go_sem,c70S1,c70S7,c70S13,c70S14,c70S16,h0]
   exact hP _ Q D B _ h hQ hD (by omega) (.inl ⟨hov,0,hover hov⟩)
 have e0:=h0 (by omega)
 refine W_loopU (fun x:Nat × Value × List RS × List VS × List (Value × List Bool)=>[(7,x.2.1),(12,.int .i64 x.1)]) (fun z w'=>St W0 w' F (RL m z.2.1 z.2.2.1++L) (Inv.vs z.2.2.2.1::Inv.bs z.2.2.2.2::Inv.rd 11 OpT.enc (.slice la l.length lc) l::I)∧z.1≤32769∧z.1≤z.2.2.1.length∧z.2.2.1.length≤60100 ∧
  (∀ q∈z.2.2.1,Good K M l.length (rsP q))∧(∀ q∈z.2.2.1,(q.2.1,q.2.2.2)∈z.2.2.2.1∧(q.1,q.2.2.1)∈z.2.2.2.2)∧z.2.2.1.map rsP=bfsN l t0 z.1) (fun z=>32770 - z.1) (0,ov,Q,D,B) rfl ⟨h,by omega,Nat.zero_le _,by simp only; omega,hQ,hD,e0⟩ ?_
 rintro ⟨i,ok,R,E,C⟩ w2 ⟨s2,h32,hi,hRl,gR,dR,eR⟩
 simp only at s2 h32 hi hRl gR dR eR
 obtain ⟨ra,rc,rfl,_⟩:=own_slice (s2.row 0 rfl)
 by_cases hlt:i<R.length
 ·have hlt':(i:Int)<R.length:=by omega
  by_cases ho:(R.length:Int)≤b
  ·simp (disch:=first|omega|exact zF rfl|exact zG rfl|exact id|(simp only[zA,zB,zC,zD,bytesW];omega)) only[go_sem,c70S1,c70S7,c70S13,c70S16,hlt',ho]
   obtain ⟨⟨dv,sv,d,s⟩,hri⟩:∃ q,R[i]=q:=⟨_,rfl⟩
   have hrq:R[i]?=some (dv,sv,d,s):=by rw [List.getElem?_eq_getElem hlt,hri]
   refine rs_in (K:=K) (M:=M) s2 hrq hn hK hw hM gR dR (by omega) ?_
   intro w3 R3 E3 C3 v3 s3 g3 d3 e3 sub3 pre3
   simp (disch:=first|omega|exact zF rfl|exact zG rfl|exact id|(simp only[zA,zB,zC,zD,bytesW];omega)) only[go_sem,c70S1,c70S7,c70S13,c70S14,c70S16]
   have len3:R3.length≤R.length+l.length:=by
    have:=congrArg List.length e3
    have h2:=roundK_len l (d,s) (R.map rsP) l.length
    simp only [List.length_map] at this h2
    omega
   refine ⟨(i+1,v3,R3,E3,C3),rfl,⟨s3,by simp only; omega,by simp only; have:=pre3.length_le; omega,by simp only; omega,g3,d3,?_⟩,by simp only; omega⟩
   simp only
   rw [bfsN,← eR,List.getElem?_map,hrq]
   exact e3
  ·simp (disch:=first|omega|exact zF rfl|exact zG rfl|exact id|(simp only[zA,zB,zC,zD,bytesW];omega)) only[go_sem,c70S1,c70S7,c70S13,c70S14,c70S16,hlt',ho]
   refine hP _ R E C _ s2 gR dR hRl (.inl ⟨by omega,i,?_⟩)
   rw [← eR,List.length_map]; omega
 ·have hlt':¬ (i:Int)<R.length:=by omega
  simp (disch:=first|omega|exact zF rfl|exact zG rfl|exact id|(simp only[zA,zB,zC,zD,bytesW];omega)) only[go_sem,c70S1,c70S7,c70S13,c70S14,c70S16,hlt']
  refine hP _ R E C _ s2 gR dR hRl ?_
  by_cases ho:(R.length:Int)≤b
  ·exact .inr ⟨ho,⟨i,eR.symm,by rw [List.length_map]; omega⟩,by rw [List.length_map]; exact ho⟩
  ·refine .inl ⟨by omega,i,?_⟩
   rw [← eR,List.length_map]; omega
open Go Go.Ann Go.RowKit
theorem bs_seal2{W0 w:World}{F:Nat→Prop}{L:List Res}{I:List Inv}{v:Value}{r:Res}{d:List Bool}{D:List VS}{B:List (Value × List Bool)}(h:St W0 w F (r::L) (Inv.vs D::Inv.bs B::I))(hr:RdS w 1 boolE v d)(hf:∀ k,slFoot v k→r.own=some k):St W0 w F L (Inv.vs D::Inv.bs ((v,d)::B)::I):=by
 have h1:=h.seal (Inv.bs [(v,d)]) (fun p hp=>by rw [List.mem_singleton] at hp; subst hp; exact hr) (fun k hk=>by
  obtain ⟨p,hp,hk⟩:=hk
  rw [List.mem_singleton] at hp; subst hp
  exact hf k hk)
 have i0:=h1.inv _ (List.mem_cons_self ..)
 have i1:=h1.inv (Inv.vs D) (List.mem_cons_of_mem _ (List.mem_cons_self ..))
 have i2:=h1.inv (Inv.bs B) (List.mem_cons_of_mem _ (List.mem_cons_of_mem _ (List.mem_cons_self ..)))
 refine ((h1.inv_sub (I':=I) fun a ha=>List.mem_cons_of_mem _ (List.mem_cons_of_mem _ (List.mem_cons_of_mem _ ha))).keep (Inv.bs ((v,d)::B)) (fun p hp=>?_) fun k hk=>?_).keep (Inv.vs D) i1.1 i1.2
 ·rcases List.mem_cons.1 hp with rfl | hp
  ·exact hr
  ·exact i2.1 p hp
 ·obtain ⟨p,hp,hk⟩:=hk
  rcases List.mem_cons.1 hp with rfl | hp
  ·exact i0.2 k ⟨_,List.mem_singleton.2 rfl,hk⟩
  ·exact i2.2 k ⟨p,hp,hk⟩
theorem rd_false{w:World}{g n:Nat}{t:TypeId}(hB:Blk w g (zerosA (Value.bool false) n) t):RdS w 1 boolE (.slice (some ⟨g,0,none⟩) n n) (List.replicate n false):=by
 have e:(zerosA (Value.bool false) n).toList=(List.replicate n false).map Value.bool:=by simp [zerosA]
 refine ⟨by rw [bool_map]; simp,some ⟨g,0,none⟩,n,by simp,by simp,fun _=>⟨_,rfl,fun j u hu=>?_⟩⟩
 rw [bool_map,← e] at hu
 rw [Addr.add_lit,Nat.zero_add,hB.cell,← Array.getElem?_toList]
 exact hu
theorem rs_new{w:World}{ov mv sv:Value}{n lc k U fc:Nat}{la:Option Addr}{p:Addr}{b:Int}{Q:Post}(hn:n≤16)(hk:k<U)(hs:w.cell? (p.add k)=some sv)(h1:∃ a n c,sv=.slice a n c)
  (hQ:∀ w' y g,St w.drew w' (fun _=>False) [.blk y #[.slice (some ⟨g,0,none⟩) n n,sv] 127,.blk g (zerosA (.bool false) n) 4] [] →
   W Tryz.prog (sg c70S1) [(0,.slice la n lc),(2,.int .i64 b),(7,ov),(8,mv),(9,.slice (some p) U fc),(10,.int .i64 k),(11,.pointer (some ⟨y,0,none⟩))] w' Q) :
  drawW Tryz.prog (drawOps 0 c70code) [0,2,7,8,9,10,11] [(0,.slice la n lc),(2,.int .i64 b),(7,ov),(8,mv),(9,.slice (some p) U fc),(10,.int .i64 k)] w (thenQ Tryz.prog (sg c70S1) Q):=by
 obtain ⟨sa,sn,sc,rfl⟩:=h1
 have lp:p.block<w.heap.size:=by have:=World.block_lt_of_cell? w _ hs; rwa [add_block] at this
 have lp':p.block<w.drew.heap.size:=lp
 refine c70draw0 (Chg (fun _=>False) _) (Chg.refl _ _) ?_
 have t0:=St.start (W0:=w.drew)
 simp (disch:=first|omega|exact zF rfl|exact zG rfl|exact id|(simp only[zA,zB,zC,zD,bytesW];omega)) only[go_sem,c70S7,c70S13,c70S14,c70S16,c70D0,hs]
 refine ⟨⟨by omega,by omega⟩,?_,?_⟩
 ·refine msW_one ty125mkI rfl (by omega) (by omega) (by omega) (by omega) ?_
  simp (disch:=first|omega|exact zF rfl|exact zG rfl|exact id|(simp only[zA,zB,zC,zD,bytesW];omega)) only[go_sem,c70S7,c70S13,c70S14,c70S16]
  have t1:=t0.box (zerosA (.bool false) n) 4
  refine ⟨Chg.of_below t1.bel,?_,?_⟩
  ·refine bdW_built (cells:=#[.slice (some ⟨w.heap.size,0,none⟩) n n,.slice sa sn sc]) (by kernel_rfl) ?_
   simp (disch:=first|omega|exact zF rfl|exact zG rfl|exact id|(simp only[zA,zB,zC,zD,bytesW];omega)) only[go_sem,c70S7,c70S13,c70S14,c70S16]
   have t2:=t1.box #[.slice none 0 0,.slice none 0 0] 127
   rw [World.size_alloc,World.size_drew] at t2
   have t3:=t2.fill 0 rfl (cs:=#[.slice (some ⟨w.heap.size,0,none⟩) n n,.slice sa sn sc]) rfl
   exact ⟨Chg.of_below t1.bel,Chg.of_below t2.bel,Chg.of_below t3.bel,hQ _ _ _ t3⟩
  ·have t2:=t1.box #[.slice none 0 0,.slice none 0 0] 127
   rw [World.size_alloc,World.size_drew] at t2
   refine ⟨Chg.of_below t2.bel,bdW_built (cells:=#[.slice (some ⟨w.heap.size,0,none⟩) n n,.slice sa sn sc]) (by kernel_rfl) ?_⟩
   simp (disch:=first|omega|exact zF rfl|exact zG rfl|exact id|(simp only[zA,zB,zC,zD,bytesW];omega)) only[go_sem,c70S7,c70S13,c70S14,c70S16]
   have t3:=t2.fill 0 rfl (cs:=#[.slice (some ⟨w.heap.size,0,none⟩) n n,.slice sa sn sc]) rfl
   exact ⟨Chg.of_below t2.bel,Chg.of_below t3.bel,hQ _ _ _ t3⟩
 ·have t1:=t0.box #[.slice none 0 0,.slice none 0 0] 127
  refine ⟨Chg.of_below t1.bel,msW_one ty125mkI rfl (by omega) (by omega) (by omega) (by omega) ?_⟩
  simp (disch:=first|omega|exact zF rfl|exact zG rfl|exact id|(simp only[zA,zB,zC,zD,bytesW];omega)) only[go_sem,c70S7,c70S13,c70S14,c70S16]
  have t2:=t1.box (zerosA (.bool false) n) 4
  rw [World.size_alloc,World.size_drew] at t2
  refine ⟨Chg.of_below t2.bel,bdW_built (cells:=#[.slice (some ⟨w.heap.size+1,0,none⟩) n n,.slice sa sn sc]) (by kernel_rfl) ?_⟩
  simp (disch:=first|omega|exact zF rfl|exact zG rfl|exact id|(simp only[zA,zB,zC,zD,bytesW];omega)) only[go_sem,c70S7,c70S13,c70S14,c70S16]
  have t3:=t2.fill 1 rfl (cs:=#[.slice (some ⟨w.heap.size+1,0,none⟩) n n,.slice sa sn sc]) rfl
  exact ⟨Chg.of_below t2.bel,Chg.of_below t3.bel,hQ _ _ _ (t3.perm (List.Perm.swap _ _ _))⟩
theorem spots_ok{W0 w:World}{F:Nat→Prop}{L:List Res}{I:List Inv}{lc M:Nat}{la:Option Addr}{ev:Value}{l:List OpT}{E D:List VS}{b K:Int}
  (h:St W0 w F L (Inv.vs D::Inv.rd 11 OpT.enc (.slice la l.length lc) l::I)) (hE:RowS w ev E) (hED:∀ p∈E,p∈D)
  (hn:l.length≤16) (hK:∀ o∈l,o.Kind=K) (hw:∀ o∈l,o.wf) (hEl:E.length≤50000) (hM:M≤100000)
  (hEo:∀ p∈E,Ok64 p.2∧p.2.length≤M∧(K=5→p.2.Pairwise (· < ·))) (hb:b≤32768) :
  Ret Tryz.prog 70 [.slice la l.length lc,ev,.int .i64 b] w fun u w'=>∃ U0 Q D' B' m,Uniq (E.map Prod.snd) U0∧St W0 w' F (RL m u Q++L) (Inv.vs D'::Inv.bs B'::Inv.rd 11 OpT.enc (.slice la l.length lc) l::I) ∧
   (∀ q∈Q,Good K M l.length (rsP q))∧(∀ q∈Q,(q.2.1,q.2.2.2)∈D'∧(q.1,q.2.2.1)∈B')∧Q.length≤60100∧SpotsR l (startP l.length U0) b Q:=by
 refine ent70 _ _ _ _ _ ?_
 simp (disch:=first|omega|exact zF rfl|exact zG rfl|exact id|(simp only[zA,zB,zC,zD,bytesW];omega)) only[go_sem,c70S1,c70S7,c70S13,c70S14,c70S16]
 refine mmW_map (κ:=List UInt8) (enc:=strE) ?_
 have s1:=h.lay (mapO strE [])
 have hE1:=hE.below ((Below.refl w.heap.size w).alloc (Nat.le_refl _) (mapO strE []))
 generalize w.alloc (mapO strE [])=w1 at s1 hE1 ⊢
 generalize w.heap.size=m at s1 ⊢
 simp (disch:=first|omega|exact zF rfl|exact zG rfl|exact id|(simp only[zA,zB,zC,zD,bytesW];omega)) only[go_sem,c70S1,c70S7,c70S13,c70S14,c70S16]
 refine Ret.mono (sorted_ok _ E w1 hE1 (fun p hp=>⟨(hEo p hp).1,by have:=(hEo p hp).2.1; omega⟩) (by omega)) ?_
 rintro fv w2 ⟨⟨U,hU,hUE,hrow⟩,b2⟩
 have s2:=((s1.add b2 (.row fv 66 1 U.length (U.map Prod.fst)) (own_mono hrow s1.size) (fun k hk=>(World.ownsRow.lt hrow k hk).1)))
 have i2:=s2.inv _ (List.mem_cons_self ..)
 have s3:=(St.keepSub (s2.inv_sub (I':=Inv.rd 11 OpT.enc (.slice la l.length lc) l::I) fun a ha=>List.mem_cons_of_mem _ ha) (b:=Inv.rd 11 OpT.enc (.slice la l.length lc) l) (by simp) (Inv.bs []) (fun p hp=>by cases hp) (fun k hk=>by obtain ⟨p,hp,_⟩:=hk; cases hp)).keep (Inv.vs D) i2.1 i2.2
 have s4:=(s3.nilRow 127 2)
 have s5:=s4.perm (L':=RL m (.slice none 0 0) []++(.row fv 66 1 U.length (U.map Prod.fst)::L)) ((List.Perm.swap _ _ _).cons _)
 have hUl:U.length≤50000:=by
  have:=uniq_le hU
  simp only [List.length_map] at this
  omega
 have gU:∀ p∈U,Good K M l.length (List.replicate l.length false,p.2):=fun p hp=>by
  obtain ⟨h1,h2,h3⟩:=hEo p (hUE p hp)
  exact ⟨by simp,h1,by simp only; omega,h3⟩
 obtain ⟨fa,fc,rfl,_⟩:=own_slice hrow
 simp (disch:=first|omega|exact zF rfl|exact zG rfl|exact id|(simp only[zA,zB,zC,zD,bytesW];omega)) only[go_sem,c70S1,c70S7,c70S13,c70S14]
 refine W_loopU (fun x:Nat × Value × List RS × List (Value × List Bool)=>[(7,x.2.1),(10,.int .i64 x.1)]) (fun z w'=>St W0 w' F (RL m z.2.1 z.2.2.1++(.row (.slice fa U.length fc) 66 1 U.length (U.map Prod.fst)::L)) (Inv.vs D::Inv.bs z.2.2.2::Inv.rd 11 OpT.enc (.slice la l.length lc) l::I)∧z.1≤U.length∧z.2.2.1.length=z.1∧(z.1=0∨(z.1:Int)≤b+1) ∧
  z.2.2.1.map rsP=startP l.length ((U.take z.1).map Prod.snd)∧(∀ q∈z.2.2.1,(q.2.1,q.2.2.2)∈D∧(q.1,q.2.2.1)∈z.2.2.2)) (fun z=>U.length - z.1) (0,.slice none 0 0,[],[]) rfl ⟨s5,Nat.zero_le _,rfl,.inl rfl,rfl,(fun q hq=>by cases hq)⟩ ?_
 rintro ⟨k,ok,R,C⟩ w6 ⟨s6,hk,hRk,hkb,eR,dR⟩
 simp only at s6 hk hRk hkb eR dR
 have gR:∀ q∈R,Good K M l.length (rsP q):=fun q hq=>by
  have:rsP q∈R.map rsP:=List.mem_map.2 ⟨q,hq,rfl⟩
  rw [eR] at this
  obtain ⟨t,ht,e⟩:=List.mem_map.1 this
  obtain ⟨p,hp,rfl⟩:=List.mem_map.1 ht
  rw [← e]
  exact gU p (List.mem_of_mem_take hp)
 have fin:∀ (c:¬ (k<U.length∧(R.length:Int)≤b)),W Tryz.prog (sg c70S16) [(0,.slice la l.length lc),(2,.int .i64 b),(7,ok),(8,.map (some m))] w6 (finQ Tryz.prog [.tmp 6] fun u w'=>∃ U0 Q D' B' m,Uniq (E.map Prod.snd) U0∧St W0 w' F (RL m u Q++L) (Inv.vs D'::Inv.bs B'::Inv.rd 11 OpT.enc (.slice la l.length lc) l::I) ∧
   (∀ q∈Q,Good K M l.length (rsP q))∧(∀ q∈Q,(q.2.1,q.2.2.2)∈D'∧(q.1,q.2.2.1)∈B')∧Q.length≤60100∧SpotsR l (startP l.length U0) b Q):=fun hc=>by
  refine rs_main (K:=K) (M:=M) (t0:=startP l.length (U.map Prod.snd)) s6 hn hK hw hM gR dR (by omega) hb (fun ho=>?_) (fun ho=>?_) ?_
  ·simp only [startP,List.length_map]; omega
  ·have:k=U.length:=by
    rcases Nat.lt_or_ge k U.length with hlt | hlt
    ·exact absurd ⟨hlt,ho⟩ hc
    ·omega
   rw [eR,this,List.take_length]
  ·intro w7 Q7 D7 B7 v7 s7 g7 d7 l7 r7
   exact ⟨_,Q7,D7,B7,m,hU,s7.sub ((List.Sublist.refl _).append (List.sublist_cons_self _ _)),g7,d7,l7,r7⟩
 obtain ⟨ra,rc,rfl,_⟩:=own_slice (s6.row 0 rfl)
 by_cases hlt:k<U.length
 ·have hlt':(k:Int)<U.length:=by omega
  by_cases ho:(R.length:Int)≤b
  ·obtain ⟨g,rfl⟩:=own_ptr (s6.row 2 rfl) (by omega)
   have ek:=(own_cell (s6.row 2 rfl)).1 k U[k].1 (by simp [hlt])
   have memU:=List.getElem_mem hlt
   have hDk:(U[k].1,U[k].2)∈D:=hED _ (hUE _ memU)
   have hsk:RdS w6 1 intE U[k].1 U[k].2:=(s6.inv (Inv.vs D) (List.mem_cons_self ..)).1 _ hDk
   obtain ⟨sa,sc,hsf,_⟩:=hsk.form
   have gk:=gU _ memU
   simp (disch:=first|omega|exact zF rfl|exact zG rfl|exact id|(simp only[zA,zB,zC,zD,bytesW];omega)) only[go_sem,c70S1,c70S7,c70S13,c70S14,c70S16,hlt',ho]
   refine rs_new (sv:=U[k].1) hn hlt (by rw [Addr.add_lit,Nat.zero_add]; exact ek) ⟨_,_,_,hsf⟩ ?_
   intro w7 y g7 t7
   have s7:=St.join s6.drew t7
   have r7:=s7.rules 0 rfl
   rw [hsf] at r7
   have hd7:=rd_false (s7.blk 1 rfl)
   have hs7:RdS w7 1 intE (.slice sa U[k].2.length sc) U[k].2:=by rw [← hsf]; exact (s7.inv (Inv.vs D) (List.mem_cons_self ..)).1 _ hDk
   simp (disch:=first|omega|exact zF rfl|exact zG rfl|exact id|(simp only[zA,zB,zC,zD,bytesW];omega)) only[go_sem,c70S1,c70S7,c70S13,c70S14,c70S16,r7]
   refine Ret.mono (key_ok hd7 hs7 (gk.okS (by omega)) (by simp; omega)) ?_
   rintro _ w8 ⟨rfl,b8⟩
   have s8:=s7.call b8
   simp (disch:=first|omega|exact zF rfl|exact zG rfl|exact id|(simp only[zA,zB,zC,zD,bytesW];omega)) only[go_sem,c70S1,c70S7,c70S13,c70S14,c70S16]
   have hnk:keyL (List.replicate l.length false) U[k].2 ∉ R.map rkey:=fun hin=>by
    have:=(rkey_iff (M:=M) (Q:=R) (q:=((Value.slice none 0 0:Value),(Value.slice none 0 0:Value),(List.replicate l.length false,U[k].2))) (by omega) gR gk).1 hin
    rw [eR] at this
    obtain ⟨t,ht,e⟩:=List.mem_map.1 this
    simp only [rsP,Prod.mk.injEq,true_and] at e
    subst e
    have hnd:=uniq_nodup hU
    rw [← List.take_append_drop k U,List.map_append,List.nodup_append] at hnd
    refine hnd.2.2 _ ht _ (List.mem_map.2 ⟨U[k],?_,rfl⟩) rfl
    rw [List.drop_eq_getElem_cons hlt]; exact List.mem_cons_self ..
   refine muW_map keyT_s Tryz.underlying156 (s8.obj 3 rfl) (keyL (List.replicate l.length false) U[k].2) hnk ?_
   have s9:=s8.putObj 3 rfl (mapO strE (R.map rkey++[keyL (List.replicate l.length false) U[k].2]))
   simp only [List.set_cons_zero,List.set_cons_succ,RL,List.cons_append,List.nil_append] at s9
   generalize w8.putObj m (mapO strE (R.map rkey++[keyL (List.replicate l.length false) U[k].2]))=w9 at s9 ⊢
   have r9:=s9.rules 0 rfl
   rw [hsf] at r9
   simp (disch:=first|omega|exact zF rfl|exact zG rfl|exact id|(simp only[zA,zB,zC,zD,bytesW];omega)) only[go_sem,c70S1,c70S7,c70S13,c70S14,c70S16,r9]
   refine bsW_agg ty122mkI rfl (by decide) (by decide) ?_
   simp (disch:=first|omega|exact zF rfl|exact zG rfl|exact id|(simp only[zA,zB,zC,zD,bytesW];omega)) only[go_sem,c70S1,c70S7,c70S13,c70S14,c70S16]
   have hx:Rd (w9.alloc (.cells #[.slice (some ⟨g7,0,none⟩) l.length l.length,.slice sa U[k].2.length sc] 127)) 2 (.slice (some ⟨w9.heap.size,0,none⟩) 1 1) 1 [.slice (some ⟨g7,0,none⟩) l.length l.length,.slice sa U[k].2.length sc]:=rd_new (n:=1) (cs:=#[.slice (some ⟨g7,0,none⟩) l.length l.length,.slice sa U[k].2.length sc]) rfl
   refine (s9.alloc' (.cells #[.slice (some ⟨g7,0,none⟩) l.length l.length,.slice sa U[k].2.length sc] 127)).append 2 rfl ty122mkI rfl (by decide) hx (by intro u hu; simp only [List.mem_cons,List.not_mem_nil,or_false] at hu; rcases hu with rfl | rfl <;> rfl) (by omega) (by omega) ?_
   intro v10 w10 s10 c10
   simp only [List.set_cons_zero,List.set_cons_succ] at s10
   simp (disch:=first|omega|exact zF rfl|exact zG rfl|exact id|(simp only[zA,zB,zC,zD,bytesW];omega)) only[go_sem,c70S1,c70S7,c70S13,c70S14,c70S16]
   have s11:=bs_seal2 (v:=.slice (some ⟨g7,0,none⟩) l.length l.length) (d:=List.replicate l.length false) (s10.sub (List.sublist_cons_self _ _)) (rd_false (s10.blk 1 rfl)) (fun k hk=>by have:=slFoot_own hk; exact this)
   have s12:=s11.sub (L':=RL m v10 (R++[((Value.slice (some ⟨g7,0,none⟩) l.length l.length:Value),U[k].1,(List.replicate l.length false,U[k].2))])++(.row (.slice (some ⟨g,0,none⟩) U.length fc) 66 1 U.length (U.map Prod.fst)::L)) (by
    unfold RL
    rw [List.length_append,List.flatMap_append,List.map_append,hsf]
    exact List.Sublist.refl _)
   refine ⟨⟨by omega,by omega⟩,(k+1,v10,R++[((Value.slice (some ⟨g7,0,none⟩) l.length l.length:Value),U[k].1,(List.replicate l.length false,U[k].2))],(.slice (some ⟨g7,0,none⟩) l.length l.length,List.replicate l.length false)::C),rfl,⟨s12,by simp only; omega,by simp [hRk],.inr (by simp only; omega),?_,fun q hq=>?_⟩,by simp only; omega⟩
   ·simp only
    rw [List.map_append,eR,List.take_succ_eq_append_getElem hlt]
    unfold startP
    rw [List.map_append,List.map_append]
    rfl
   ·rcases List.mem_append.1 hq with hq | hq
    ·exact ⟨(dR q hq).1,List.mem_cons_of_mem _ (dR q hq).2⟩
    ·rw [List.mem_singleton] at hq; subst hq
     exact ⟨hDk,List.mem_cons_self ..⟩
  ·simp (disch:=first|omega|exact zF rfl|exact zG rfl|exact id|(simp only[zA,zB,zC,zD,bytesW];omega)) only[go_sem,c70S1,c70S7,c70S13,c70S14,hlt',ho]
   exact fin fun hc=>ho hc.2
 ·have hlt':¬ (k:Int)<U.length:=by omega
  simp (disch:=first|omega|exact zF rfl|exact zG rfl|exact id|(simp only[zA,zB,zC,zD,bytesW];omega)) only[go_sem,c70S1,c70S7,c70S13,c70S14,hlt']
  exact fin fun hc=>hlt hc.1
open Go Go.Ann Go.RowKit
theorem vs_old{W0 w:World}{F:Nat→Prop}{L:List Res}{I:List Inv}{E:List VS}(h:St W0 w F L I)(hE:∀ p∈E,RdS W0 1 intE p.1 p.2):St W0 w F L (Inv.vs E::I) :=
 h.keep (Inv.vs E) (fun p hp=>(hE p hp).below h.bel (by decide)) fun k hk=>by
  obtain ⟨p,hp,hk⟩:=hk
  have hlt:=(hE p hp).footLt (by decide) hk
  have:=h.size
  exact ⟨by omega,fun hF=>by have:=(h.foot k hF).1; omega,fun r hr e=>by have:=((h.res r hr).1.lt k e).1; omega⟩
theorem rsearch_ok{w:World}{l:List OpT}{lv ev:Value}{ob kd budget K:Int}{E:List VS}{M:Nat}(h:RdS w 11 OpT.enc lv l)(hn:l.length≤16)(hK:∀ o∈l,o.Kind=K)(hw:∀ o∈l,o.wf)(hE:RowS w ev E)(hEl:E.length≤50000)(hM:M≤100000)
  (hEo:∀ p∈E,Ok64 p.2∧p.2.length≤M∧(K=5→p.2.Pairwise (· < ·))) (hb:I64 budget) :
  Ret Tryz.prog 46 [.agg #[.int .i64 ob,.int .i64 kd,lv],ev,.int .i64 budget] w fun u w'=>(∃ U0 r,Uniq (E.map Prod.snd) U0∧SearchR l (startP l.length U0) (min budget 32768) r∧SearchV w' l (E.map Prod.snd) U0 r u)∧Below w.heap.size w w':=by
 obtain ⟨la,lc,rfl,_⟩:=h.form
 refine ent46 _ _ _ _ _ ?_
 have s1:=((St.start (W0:=w)).box #[.int .i64 ob,.int .i64 kd,.slice la l.length lc] 24).box #[.slice none 0 0,.slice none 0 0,.int .i64 0] 77
 rw [World.size_alloc] at s1
 have hn':¬ (16:Int)<l.length:=by omega
 obtain ⟨b,hbd⟩:∃ b:Int,b=if budget<0 then -1 else min budget 32768:=⟨_,rfl⟩
 have hb32:b≤32768:=by rw [hbd]; split <;> omega
 have s2:=vs_old (s1.old h (by decide)) hE.rd
 have r2:=s2.rules 1 rfl
 have key:W Tryz.prog (sg c46S8) [(1,ev),(2,.int .i64 b),(3,.pointer (some ⟨w.heap.size,0,none⟩)),(6,.pointer (some ⟨w.heap.size+1,0,none⟩))]
   ((w.alloc (.cells #[.int .i64 ob,.int .i64 kd,.slice la l.length lc] 24)).alloc (.cells #[.slice none 0 0,.slice none 0 0,.int .i64 0] 77))
   (finQ Tryz.prog [.cell 6 77,.tmp 7] fun u w'=>(∃ U0 r,Uniq (E.map Prod.snd) U0∧SearchR l (startP l.length U0) (min budget 32768) r∧SearchV w' l (E.map Prod.snd) U0 r u)∧Below w.heap.size w w'):=by
  generalize (w.alloc (.cells #[.int .i64 ob,.int .i64 kd,.slice la l.length lc] 24)).alloc (.cells #[.slice none 0 0,.slice none 0 0,.int .i64 0] 77)=w2 at s2 r2 ⊢
  clear s1
  generalize hrr:w.heap.size+1=rr at s2 ⊢
  simp (disch:=first|omega|exact zF rfl|exact zG rfl|exact id|(simp only[zA,zB,zC,zD,bytesW];omega)) only[go_sem,c46S4,c46S6,c46S8,r2]
  refine Ret.mono (spots_ok (K:=K) (M:=M) s2 (hE.below s2.bel) (fun p hp=>hp) hn hK hw hEl hM hEo hb32) ?_
  rintro ov w3 ⟨U0,Q,D,B,m,hU0,s3,gQ,dQ,hQl,hQR⟩
  obtain ⟨oa,oc,rfl,_⟩:=own_slice (s3.row 0 rfl)
  simp (disch:=first|omega|exact zF rfl|exact zG rfl|exact id|(simp only[zA,zB,zC,zD,bytesW];omega)) only[go_sem,c46S4,c46S8]
  have q3:=s3.rules 2 rfl
  refine ⟨fun ho=>?_,fun ho=>?_⟩
  ·refine bdW_built (cells:=#[.slice none 0 0,.slice none 0 0,.int .i64 0]) (by kernel_rfl) ?_
   simp (disch:=first|omega|exact zF rfl|exact zG rfl|exact id|(simp only[zA,zB,zC,zD,bytesW];omega)) only[go_sem,c46S4,c46S6,c46S8,q3]
   refine ⟨⟨U0,none,hU0,?_,rfl⟩,(s3.fill 2 rfl (cs:=#[.slice none 0 0,.slice none 0 0,.int .i64 0]) rfl).bel⟩
   rcases hQR with ⟨h1,N,h2⟩ | ⟨h1,h2⟩
   ·refine ⟨N,?_⟩
    rw [hbd] at h2
    split at h2 <;> omega
   ·omega
  ·have hR:SearchR l (startP l.length U0) (min budget 32768) (some (Q.map rsP)):=by
    rcases hQR with ⟨h1,_⟩ | ⟨h1,h2,h3⟩
    ·omega
    ·refine ⟨h2,?_⟩
     rw [hbd] at h3
     split at h3
     ·rw [List.length_map] at h3; omega
     ·exact h3
   simp (disch:=first|omega|exact zF rfl|exact zG rfl|exact id|(simp only[zA,zB,zC,zD,bytesW];omega)) only[go_sem,c46S4,c46S6,c46S8]
   refine Ret.mono (sorted_ok _ E w3 (hE.below s3.bel) (fun p hp=>⟨(hEo p hp).1,by have:=(hEo p hp).2.1; omega⟩) (by omega)) ?_
   rintro uv w4 ⟨⟨U,hU,hUE,hrow⟩,b4⟩
   have s4:=s3.add b4 (.row uv 66 1 U.length (U.map Prod.fst)) (own_mono hrow s3.size) (fun k hk=>(World.ownsRow.lt hrow k hk).1)
   obtain ⟨ua,uc,rfl,_⟩:=own_slice hrow
   simp (disch:=first|omega|exact zF rfl|exact zG rfl|exact id|(simp only[zA,zB,zC,zD,bytesW];omega)) only[go_sem,c46S4,c46S6,c46S8]
   refine bdW_built (cells:=#[.slice ua U.length uc,.slice none 0 0,.int .i64 Q.length]) (by kernel_rfl) ?_
   simp (disch:=first|omega|exact zF rfl|exact zG rfl|exact id|(simp only[zA,zB,zC,zD,bytesW];omega)) only[go_sem,c46S6,c46S8]
   have s5:=(s4.box #[.slice ua U.length uc,.slice none 0 0,.int .i64 Q.length] 77).nilRow 66 1
   generalize w4.alloc (.cells #[.slice ua U.length uc,.slice none 0 0,.int .i64 Q.length] 77)=w5 at s5 ⊢
   generalize w4.heap.size=z at s5 ⊢
   refine W_loopU (fun x:Nat × Value × List VS=>[(10,.int .i64 x.1)]) (fun x w'=>St w w' (fun _=>False) (.row x.2.1 66 1 x.2.2.length (x.2.2.map Prod.fst)::.blk z #[.slice ua U.length uc,x.2.1,.int .i64 Q.length] 77::.row (.slice ua U.length uc) 66 1 U.length (U.map Prod.fst)::(RL m (.slice oa Q.length oc) Q++[Res.blk rr #[.slice none 0 0,.slice none 0 0,.int .i64 0] 77,Res.blk w.heap.size #[.int .i64 ob,.int .i64 kd,.slice la l.length lc] 24])) [Inv.vs D,Inv.bs B,Inv.rd 11 OpT.enc (.slice la l.length lc) l]∧x.1≤Q.length∧(∀ p∈x.2.2,p∈D)∧x.2.2.map Prod.snd=(((Q.map rsP).take x.1).filter fun p=>fullP l p.1).map Prod.snd) (fun x=>Q.length - x.1) (0,.slice none 0 0,[]) rfl ⟨s5,Nat.zero_le _,(fun p hp=>by cases hp),by simp⟩ ?_
   rintro ⟨i,xv,X⟩ w6 ⟨s6,hi,hX,eX⟩
   simp only at s6 hi hX eX
   obtain ⟨xa,xc,rfl,_⟩:=own_slice (s6.row 0 rfl)
   have hXl:X.length≤i:=by
    have e1:=congrArg List.length eX
    have e2:=List.length_filter_le (fun p:Spot=>fullP l p.1) ((Q.map rsP).take i)
    simp only [List.length_map,List.length_take] at e1 e2
    omega
   by_cases hlt:i<Q.length
   ·have hlt':(i:Int)<Q.length:=by omega
    obtain ⟨g,rfl⟩:=own_ptr (s6.row 3 rfl) (by omega)
    have ee:=(RdS.of_own' (enc:=rsE) (s6.row 3 rfl) Q rfl rfl).elt (fun _=>rfl) (by decide) hlt
    have hmemQ:Q[i]∈Q:=List.getElem_mem hlt
    have gi:=gQ _ hmemQ
    have di:=dQ _ hmemQ
    obtain ⟨⟨dv,sv,d,s⟩,hri⟩:∃ q,Q[i]=q:=⟨_,rfl⟩
    rw [hri,Addr.add_lit,Nat.zero_add] at ee
    rw [hri] at gi di
    have e0:w6.cell? ⟨g,i * 2,none⟩=some dv:=ee.1
    have e1:w6.cell? ⟨g,i * 2+1,none⟩=some sv:=by
     have:=ee.2 1 (by decide) (by decide)
     simp only [Nat.zero_add] at this
     exact this
    have hdv:RdS w6 1 boolE dv d:=(s6.inv (Inv.bs B) (by simp)).1 _ di.2
    have hsv:RdS w6 1 intE sv s:=(s6.inv (Inv.vs D) (by simp)).1 _ di.1
    obtain ⟨da,dc,rfl,_⟩:=hdv.form
    obtain ⟨sa,sc,rfl,_⟩:=hsv.form
    have lg:g<w6.heap.size:=World.block_lt_of_cell? w6 ⟨g,i * 2,none⟩ e0
    have rs:=s6.rules 6 rfl
    have ls:=(s6.low 6 rfl).2
    have hl6:RdS w6 11 OpT.enc (.slice la l.length lc) l:=s6.rd 2 rfl
    simp (disch:=first|omega|exact zF rfl|exact zG rfl|exact id|(simp only[zA,zB,zC,zD,bytesW];omega)) only[go_sem,c46S4,c46S6,c46S8,hlt']
    refine c46draw0 (Chg (fun _=>False) _) (Chg.refl _ _) ?_
    simp (disch:=first|omega|exact zF rfl|exact zG rfl|exact id|(simp only[zA,zB,zC,zD,bytesW];omega)) only[go_sem,c46S4,c46S6,c46S8,c46D0,e0,rs]
    have hb6:Below w6.heap.size w6 w6.drew:=(Below.refl _ w6).drew
    refine ⟨⟨by omega,by omega⟩,Ret.mono (rfull_ok (hl6.below hb6 (by decide)) (hdv.below hb6 (by decide)) gi.len hn) ?_⟩
    rintro _ _ ⟨rfl,rfl⟩
    have s7:=s6.drew
    have tk7:(Q.map rsP).take (i+1)=(Q.map rsP).take i++[(d,s)]:=by
     rw [List.take_succ_eq_append_getElem (by rw [List.length_map]; exact hlt),List.getElem_map,hri]; rfl
    cases hfu:fullP l d with
    | false =>
     simp (disch:=first|omega|exact zF rfl|exact zG rfl|exact id|(simp only[zA,zB,zC,zD,bytesW];omega)) only[go_sem,c46S4,c46S6,c46S8,c46D0]
     refine ⟨⟨by omega,by omega⟩,(i+1,.slice xa X.length xc,X),rfl,⟨s7,by simp only; omega,hX,?_⟩,by simp only; omega⟩
     simp only
     rw [tk7,List.filter_append,List.map_append,eX]
     simp [hfu]
    | true =>
     have e1':w6.drew.cell? ⟨g,i * 2+1,none⟩=some (.slice sa s.length sc):=e1
     have z6:=s6.rules 1 rfl
     have lz:=(s6.low 1 rfl).2
     have lg':g<w6.drew.heap.size:=lg
     simp (disch:=first|omega|exact zF rfl|exact zG rfl|exact id|(simp only[zA,zB,zC,zD,bytesW];omega)) only[go_sem,c46S4,c46S6,c46S8,c46D0]
     refine c46draw1 (Chg (fun _=>False) _) (Chg.refl _ _) ?_
     have hgz:g≠z:=fun e=>s6.ne 1 3 rfl rfl (by decide) (k:=z) rfl (by rw [e]; rfl)
     simp (disch:=first|omega|exact zF rfl|exact zG rfl|exact id|(simp only[zA,zB,zC,zD,bytesW];omega)) only[go_sem,c46S4,c46S6,c46S8,c46D1,e1,z6]
     refine ⟨⟨by omega,by omega⟩,?_⟩
     refine bsW_ones ty74mkI rfl rfl (by decide) (by decide) (by intro v hv; rw [List.mem_singleton] at hv; subst hv; rfl) ?_
     simp (disch:=first|omega|exact zF rfl|exact zG rfl|exact id|(simp only[zA,zB,zC,zD,bytesW];omega)) only[go_sem,c46S4,c46S6,c46S8,c46D1]
     have hx:Rd (w6.drew.drew.alloc (.cells #[.slice sa s.length sc] 66)) 1 (.slice (some ⟨w6.drew.drew.heap.size,0,none⟩) 1 1) 1 [.slice sa s.length sc]:=rd_new (n:=1) (cs:=#[.slice sa s.length sc]) rfl
     have s8:=(s7.drew.alloc' (.cells #[.slice sa s.length sc] 66))
     refine ⟨Chg.of_below ((Below.refl _ _).alloc (Nat.le_refl _) _),s8.append 0 rfl ty74mkI rfl (by decide) hx (by intro v hv; rw [List.mem_singleton] at hv; subst hv; rfl) (by omega) (by omega) ?_⟩
     intro v9 w9 s9 c9
     simp only [List.set_cons_zero] at s9
     obtain ⟨a9,d9,rfl,_⟩:=own_slice (s9.row 0 rfl)
     have z9:=s9.rules 1 rfl
     simp (disch:=first|omega|exact zF rfl|exact zG rfl|exact id|(simp only[zA,zB,zC,zD,bytesW];omega)) only[go_sem,c46S4,c46S6,c46S8,c46D1,z9]
     have s10:=s9.set 1 rfl 1 (.slice a9 (X.length+1) d9)
     simp only [List.set_cons_zero,List.set_cons_succ] at s10
     have ex:X.length+1=(X++[((Value.slice sa s.length sc:Value),s)]).length:=by simp
     have ey:X.map Prod.fst++[Value.slice sa s.length sc]=(X++[((Value.slice sa s.length sc:Value),s)]).map Prod.fst:=by simp
     rw [ex,ey] at s10
     rw [ex]
     refine ⟨⟨by omega,by omega⟩,(i+1,.slice a9 (X++[((Value.slice sa s.length sc:Value),s)]).length d9,X++[((Value.slice sa s.length sc:Value),s)]),rfl,⟨s10,by simp only; omega,fun p hp=>?_,?_⟩,by simp only; omega⟩
     ·rcases List.mem_append.1 hp with hp | hp
      ·exact hX p hp
      ·rw [List.mem_singleton] at hp; subst hp; exact di.1
     ·simp only
      rw [tk7,List.filter_append,List.map_append,List.map_append,eX]
      simp [hfu]
   ·have hlt':¬ (i:Int)<Q.length:=by omega
    simp (disch:=first|omega|exact zF rfl|exact zG rfl|exact id|(simp only[zA,zB,zC,zD,bytesW];omega)) only[go_sem,c46S6,c46S8,hlt']
    have hD6:=s6.inv (Inv.vs D) (by simp)
    have hXr:RowS w6 (.slice xa X.length xc) X:=⟨Rd.of_own (s6.row 0 rfl),fun p hp=>hD6.1 p (hX p hp)⟩
    have eX':X.map Prod.snd=((Q.map rsP).filter fun p=>fullP l p.1).map Prod.snd:=by
     rw [eX,List.take_of_length_le (by rw [List.length_map]; omega)]
    have hXo:∀ p∈X,OkS p.2:=fun p hp=>by
     have:p.2∈X.map Prod.snd:=List.mem_map.2 ⟨p,hp,rfl⟩
     rw [eX'] at this
     obtain ⟨q,hq,e⟩:=List.mem_map.1 this
     obtain ⟨t,ht,rfl⟩:=List.mem_map.1 (List.mem_filter.1 hq).1
     rw [← e]
     exact (gQ t ht).okS (by omega)
    have z6:=s6.rules 1 rfl
    simp (disch:=first|omega|exact zF rfl|exact zG rfl|exact id|(simp only[zA,zB,zC,zD,bytesW];omega)) only[go_sem,c46S4,c46S6,c46S8,z6]
    refine Ret.mono (sorted_ok _ X w6 hXr hXo (by omega)) ?_
    rintro xv w7 ⟨⟨V,hV,hVX,hrowV⟩,b7⟩
    have s7:=s6.add b7 (.row xv 66 1 V.length (V.map Prod.fst)) (own_mono hrowV s6.size) (fun k hk=>(World.ownsRow.lt hrowV k hk).1)
    obtain ⟨va,vc,rfl,_⟩:=own_slice hrowV
    have z7:=s7.rules 2 rfl
    have q7:=s7.rules 6 rfl
    have lzr:z≠rr:=fun e=>s7.ne 2 6 rfl rfl (by decide) (k:=z) rfl (by rw [e]; rfl)
    simp (disch:=first|omega|exact zF rfl|exact zG rfl|exact id|(simp only[zA,zB,zC,zD,bytesW];omega)) only[go_sem,c46S4,c46S6,c46S8,z7,q7]
    have s8:=(s7.set 2 rfl 1 (.slice va V.length vc)).fill 6 rfl (cs:=#[.slice ua U.length uc,.slice va V.length vc,.int .i64 Q.length]) rfl
    have eQ:Q.length=(Q.map rsP).length:=by simp
    have hD8:=s8.inv (Inv.vs D) (by simp)
    refine ⟨⟨U.map Prod.snd,some (Q.map rsP),hU,by rw [hU.one hU0]; exact hR,.slice ua U.length uc,.slice va V.length vc,U,V,by rw [← eQ],⟨Rd.of_own (s8.row 3 rfl),fun p hp=>(hE.rd p (hUE p hp)).below s8.bel (by decide)⟩,rfl,⟨Rd.of_own (s8.row 0 rfl),fun p hp=>hD8.1 p (hX p (hVX p hp))⟩,?_⟩,s8.bel⟩
    rw [← eX']; exact hV
 simp (disch:=first|omega|exact zF rfl|exact zG rfl|exact id|(simp only[zA,zB,zC,zD,bytesW];omega)) only[go_sem,c46S4,c46S6,hn']
 refine ⟨fun h0=>?_,fun h0=>⟨fun h1=>?_,fun h1=>?_⟩⟩
 ·have e:b = -1:=by rw [hbd,if_pos h0]
  rw [e] at key; exact key
 ·have e:b=32768:=by rw [hbd,if_neg (by omega)]; omega
  rw [e] at key; exact key
 ·have e:b=budget:=by rw [hbd,if_neg (by omega)]; omega
  rw [e] at key; exact key
open Go Go.Ann Go.RowKit Go.WideShapes
theorem bulk_one{H:Type}(d:DataW H):1≤Rows.uptoBulk d:=by
 cases d with
 | lit l=>cases l <;> simp [Rows.uptoBulk]
 | nil=>simp [Rows.uptoBulk]
 | ptr d=>simp [Rows.uptoBulk]
 | slice elems spare=>simp [Rows.uptoBulk]
 | agg parts=>simp [Rows.uptoBulk]
 | iface t d=>simp [Rows.uptoBulk]
 | map entries=>simp [Rows.uptoBulk]
 | held h=>simp [Rows.uptoBulk]
theorem bulk_len{H:Type}(l:List (DataW H)):l.length≤Rows.uptoBulkAll l:=by
 induction l with
 | nil=>simp [Rows.uptoBulkAll]
 | cons x r ih=>have:=bulk_one x; simp only [Rows.uptoBulkAll,List.length_cons]; omega
structure Seg where
 obj:Int
 kind:Int
 ops:List OpT
open Go Go.Ann Go.RowKit
def Tells(u:Value)(p:Prop):Prop:=∃ b,u=.bool b∧(b=true→p)
open Go Go.Ann Go.RowKit
theorem goP_good{K:Int}{M:Nat}{l:List OpT}{p:Spot}{t:List Spot}{k:Nat}(hK:∀ o∈l,o.Kind=K)(hw:∀ o∈l,o.wf)(hp:Good K M l.length p)(ht:∀ q∈t,Good K M l.length q):∀ q∈goP l p t k,Good K M l.length q:=by
 unfold goP
 split
 ·exact ht
 ·rename_i o ho
  obtain ⟨hk,rfl⟩:=List.getElem?_eq_some_iff.1 ho
  split
  ·rename_i hm
   split
   ·rename_i s hs
    intro q hq
    unfold addP at hq
    split at hq
    ·exact ht q hq
    ·rcases List.mem_append.1 hq with hq | hq
     ·exact ht q hq
     ·rw [List.mem_singleton] at hq; subst hq
      exact hp.go hk hK hw hm hs
   ·exact ht
  ·exact ht
theorem bfsN_good{K:Int}{M:Nat}{l:List OpT}{t0:List Spot}(hK:∀ o∈l,o.Kind=K)(hw:∀ o∈l,o.wf)(h0:∀ q∈t0,Good K M l.length q):∀ N,∀ q∈bfsN l t0 N,Good K M l.length q
 | 0=>h0
 | N+1=>by
  have ih:=bfsN_good hK hw h0 N
  rw [bfsN]
  split
  ·rename_i p hp
   have hpg:=ih p (List.mem_of_getElem? hp)
   have:∀ k,∀ q∈roundK l p (bfsN l t0 N) k,Good K M l.length q:=by
    intro k
    induction k with
    | zero=>exact ih
    | succ k ihk=>exact goP_good hK hw hpg ihk
   exact this _
  ·exact ih
open Go Go.Ann Go.RowKit
theorem RowS.ones{w:World}{v:Value}{D:List VS}(h:RowS w v D):∀ u∈D.map Prod.fst,u.oneCell'=true:=fun u hu=>by
 obtain ⟨p,hp,rfl⟩:=List.mem_map.1 hu
 obtain ⟨a,c,e,_⟩:=(h.rd p hp).form
 rw [e]; rfl
theorem SearchV.form{w':World}{l:List OpT}{E U0:List (List Int)}{r:Option (List Spot)}{u:Value}(h:SearchV w' l E U0 r u):∃ ya yn yc xa xn xc nn ue,u=.tuple #[.agg #[.slice ya yn yc,.slice xa xn xc,.int .i64 nn],.int .i64 ue]∧(ue=if r.isSome then 0 else 35):=by
 cases r with
 | none=>exact ⟨_,_,_,_,_,_,_,_,h,rfl⟩
 | some T =>
  obtain ⟨_,_,_,_,e,g1,_,g2,_⟩:=h
  obtain ⟨_,_,rfl,_⟩:=g1.form
  obtain ⟨_,_,rfl,_⟩:=g2.form
  exact ⟨_,_,_,_,_,_,_,_,e,rfl⟩
theorem SearchV.some{w':World}{l:List OpT}{E U0:List (List Int)}{T:List Spot}{ya xa:Option Addr}{yn yc xn xc:Nat}{nn ue:Int}(h:SearchV w' l E U0 (some T) (.tuple #[.agg #[.slice ya yn yc,.slice xa xn xc,.int .i64 nn],.int .i64 ue])) :
  ue=0∧nn=T.length∧∃ U X,RowS w' (.slice ya yn yc) U∧U.map Prod.snd=U0∧RowS w' (.slice xa xn xc) X∧Uniq ((T.filter fun p=>fullP l p.1).map Prod.snd) (X.map Prod.snd):=by
 obtain ⟨uv,xv,U,X,e,h1,h2,h3,h4⟩:=h
 simp only [Value.tuple.injEq,Array.mk.injEq,List.cons.injEq,Value.agg.injEq,Value.int.injEq,true_and,and_true] at e
 obtain ⟨⟨rfl,rfl,rfl⟩,rfl⟩:=e
 exact ⟨rfl,rfl,U,X,h1,h2,h3,h4⟩
theorem Uniq.len{T:List Spot}{l:List OpT}{X:List VS}(h:Uniq ((T.filter fun p=>fullP l p.1).map Prod.snd) (X.map Prod.snd)):X.length≤T.length:=by
 have h1:=uniq_le h
 have h2:=List.length_filter_le (fun p:Spot=>fullP l p.1) T
 simp only [List.length_map] at h1
 omega
theorem row1{w:World}{ev:Value}{s:List Int}{t:TypeId}(h:RdS w 1 intE ev s):RowS (w.alloc (.cells #[ev] t)) (.slice (some ⟨w.heap.size,0,none⟩) 1 1) [(ev,s)] :=
 ⟨rd_new (sz:=1) (n:=1) rfl,fun p hp=>by
  rw [List.mem_singleton] at hp; subst hp
  exact h.below ((Below.refl _ w).alloc (Nat.le_refl _) _) (by decide)⟩
end Go.Proofs.YteiciplnfjnfjaaGreat

namespace Go.Proofs.YteiciplnfjnfjaaGreat.Cut
open Go Go.Ann Go.RowKit
theorem take_all_eq{α:Type}{a b:List α}(hl:a.length=b.length)(h:∀ k,(h1:k<a.length)→(h2:k<b.length)→a[k]=b[k]):a=b:=List.ext_getElem hl h
def Pure(l:List OpT):Prop:=∀ a∈l,∀ b∈l,a.ID=b.ID→a=b
def segR(w:World)(s:Seg)(c:List Value):Prop:=∃ v,c=[.int .i64 s.obj,.int .i64 s.kind,v]∧RdS w 11 OpT.enc v s.ops∧(s.ops.length:Int)≤9223372036854775806
theorem segR.below{w w':World}(hb:Below w.heap.size w w')(s:Seg)(c:List Value)(h:segR w s c):segR w' s c:=by
 obtain ⟨v,rfl,h1,h2⟩:=h
 exact ⟨v,rfl,h1.below hb (by decide),h2⟩
end Go.Proofs.YteiciplnfjnfjaaGreat.Cut

namespace Go.Proofs.YteiciplnfjnfjaaGreat.Cut
open Go Go.Ann Go.RowKit
def cmpI(a b:Int):Int:=if a<b then -1 else if b<a then 1 else 0
end Go.Proofs.YteiciplnfjnfjaaGreat.Cut

namespace Go.Proofs.YteiciplnfjnfjaaGreat.Cut
open Go Go.Ann Go.RowKit
def orI(l:List Int):Int:=(l.find? fun x=>!decide (x=0)).getD 0
def earI(a b:OpT):Int:=orI [cmpI a.Invoke b.Invoke,cmpI a.ID b.ID]
def objI(a b:OpT):Int:=orI [cmpI a.Object b.Object,earI a b]
theorem chg_da{S:Nat→Prop}{w:World}{o:Obj}:Chg S w.drew (w.alloc o).drew:=(Chg.refl S w.drew).alloc o
end Go.Proofs.YteiciplnfjnfjaaGreat.Cut

namespace Go.Proofs.YteiciplnfjnfjaaGreat.Cut
open Go Go.Ann Go.RowKit
instance:Inhabited OpT:=⟨⟨0,0,0,0,0,0,0,false,0,0,0⟩⟩
def Sorts(cf:OpT→OpT→Int)(l l':List OpT):Prop:=l'.Perm l∧l'.Pairwise fun a b=>¬ cf b a<0
end Go.Proofs.YteiciplnfjnfjaaGreat.Cut

namespace Go.Proofs.YteiciplnfjnfjaaGreat.Cut
open Go Go.Ann Go.RowKit
theorem orI2_neg(x y:Int):decide (orI [x,y]<0)=decide (x<0∨x=0∧y<0):=by
 unfold orI
 by_cases hx:x=0
 ·subst hx
  by_cases hy:y=0
  ·subst hy; simp
  ·simp [List.find?_cons,hy]
 ·simp [List.find?_cons,hx]
theorem cmpI_neg(a b:Int):(cmpI a b<0)=(a<b):=by
 unfold cmpI
 apply propext
 split
 ·omega
 ·split <;> omega
theorem cmpI_zero(a b:Int):(cmpI a b=0)=(a=b):=by
 unfold cmpI
 apply propext
 split
 ·omega
 ·split <;> omega
theorem lt_ear(a b:OpT):ltOf earI a b=decide (a.Invoke<b.Invoke∨a.Invoke=b.Invoke∧a.ID<b.ID):=by
 unfold ltOf earI
 rw [orI2_neg]
 simp only [cmpI_neg,cmpI_zero]
theorem ear_neg(a b:OpT):(earI a b<0)=(a.Invoke<b.Invoke∨a.Invoke=b.Invoke∧a.ID<b.ID):=by
 have:=lt_ear a b
 unfold ltOf at this
 exact propext (decide_eq_decide.1 this)
theorem lt_obj(a b:OpT):ltOf objI a b=decide (a.Object<b.Object∨a.Object=b.Object∧(a.Invoke<b.Invoke∨a.Invoke=b.Invoke∧a.ID<b.ID)):=by
 unfold ltOf objI
 rw [orI2_neg]
 simp only [cmpI_neg,cmpI_zero,ear_neg]
theorem obj_neg(a b:OpT):(objI a b<0)=(a.Object<b.Object∨a.Object=b.Object∧(a.Invoke<b.Invoke∨a.Invoke=b.Invoke∧a.ID<b.ID)):=by
 have:=lt_obj a b
 unfold ltOf at this
 exact propext (decide_eq_decide.1 this)
def cutStep(q:Seg→OpT→Bool)(mk:OpT→Int × Int)(acc:List Seg)(o:OpT):List Seg :=
 match acc.getLast? with
 | some s=>if q s o then acc++[⟨(mk o).1,(mk o).2,[o]⟩] else acc.dropLast++[⟨s.obj,s.kind,s.ops++[o]⟩]
 | none=>[⟨(mk o).1,(mk o).2,[o]⟩]
def segC(s:Seg)(v:Value):List Value:=[.int .i64 s.obj,.int .i64 s.kind,v]
def segCells:List Seg→List Value→List Value
 | s::l,v::vs=>segC s v++segCells l vs
 | _,_=>[]
def segInvs:List Seg→List Value→List Inv
 | s::l,v::vs=>.rd 11 OpT.enc v s.ops::segInvs l vs
 | _,_=>[]
theorem segCells_snoc:∀ (l:List Seg) (vs:List Value) (s:Seg) (v:Value),vs.length=l.length→segCells (l++[s]) (vs++[v])=segCells l vs++segC s v
 | [],[],s,v,_=>by simp [segCells]
 | a::l,b::vs,s,v,h=>by simp only [List.cons_append,segCells,List.append_assoc]; rw [segCells_snoc l vs s v (by simpa using h)]
theorem segCells_length:∀ (l:List Seg) (vs:List Value),vs.length=l.length→(segCells l vs).length=l.length * 3
 | [],[],_=>rfl
 | a::l,b::vs,h=>by rw [segCells,List.length_append,segCells_length l vs (by simpa using h),List.length_cons]; simp only [segC,List.length_cons,List.length_nil]; omega
theorem segInvs_mem:∀ (l:List Seg) (vs:List Value) (i:Nat) (s:Seg) (v:Value),l[i]?=some s→vs[i]?=some v→Inv.rd 11 OpT.enc v s.ops∈segInvs l vs
 | a::l,b::vs,0,s,v,h1,h2=>by
  simp only [List.getElem?_cons_zero,Option.some.injEq] at h1 h2; subst h1; subst h2
  exact List.mem_cons_self
 | a::l,b::vs,i+1,s,v,h1,h2=>List.mem_cons_of_mem _ (segInvs_mem l vs i s v (by simpa using h1) (by simpa using h2))
theorem segInvs_snoc:∀ (l:List Seg) (vs:List Value) (s:Seg) (v:Value),vs.length=l.length→∀ a,a∈segInvs (l++[s]) (vs++[v])↔a=Inv.rd 11 OpT.enc v s.ops∨a∈segInvs l vs
 | [],[],s,v,_,a=>by simp [segInvs]
 | x::l,b::vs,s,v,h,a=>by simp only [List.cons_append,segInvs,List.mem_cons,segInvs_snoc l vs s v (by simpa using h)]; exact ⟨fun h=>h.elim (fun h=>.inr (.inl h)) fun h=>h.elim .inl fun h=>.inr (.inr h),fun h=>h.elim (fun h=>.inr (.inl h)) fun h=>h.elim .inl fun h=>.inr (.inr h)⟩
theorem cutStep_nil(q:Seg→OpT→Bool)(mk:OpT→Int × Int)(o:OpT):cutStep q mk [] o=[⟨(mk o).1,(mk o).2,[o]⟩]:=rfl
theorem cutStep_new{q:Seg→OpT→Bool}(mk:OpT→Int × Int)(ini:List Seg){s:Seg}{o:OpT}(h:q s o=true):cutStep q mk (ini++[s]) o=ini++[s]++[⟨(mk o).1,(mk o).2,[o]⟩]:=by
 unfold cutStep
 rw [List.getLast?_concat]
 simp only [h,if_true]
theorem cutStep_old{q:Seg→OpT→Bool}(mk:OpT→Int × Int)(ini:List Seg){s:Seg}{o:OpT}(h:q s o=false):cutStep q mk (ini++[s]) o=ini++[⟨s.obj,s.kind,s.ops++[o]⟩]:=by
 unfold cutStep
 rw [List.getLast?_concat,List.dropLast_concat]
 simp only [h]
 rfl
theorem cutStep_flat(q:Seg→OpT→Bool)(mk:OpT→Int × Int)(acc:List Seg)(o:OpT):(cutStep q mk acc o).flatMap Seg.ops=acc.flatMap Seg.ops++[o]:=by
 unfold cutStep
 cases h:acc.getLast? with
 | none=>rw [List.getLast?_eq_none_iff.1 h]; rfl
 | some s =>
  obtain ⟨ini,rfl⟩:=List.getLast?_eq_some_iff.1 h
  simp only
  split
  ·rw [List.flatMap_append]; rfl
  ·rw [List.dropLast_concat,List.flatMap_append,List.flatMap_append,List.append_assoc]; simp
theorem cut_flat(q:Seg→OpT→Bool)(mk:OpT→Int × Int):∀ (l:List OpT) (acc:List Seg),(l.foldl (cutStep q mk) acc).flatMap Seg.ops=acc.flatMap Seg.ops++l
 | [],acc=>by simp
 | o::l,acc=>by rw [List.foldl_cons,cut_flat q mk l,cutStep_flat,List.append_assoc]; rfl
theorem cutStep_ne(q:Seg→OpT→Bool)(mk:OpT→Int × Int)(acc:List Seg)(o:OpT)(h:∀ s∈acc,s.ops≠[]):∀ s∈cutStep q mk acc o,s.ops≠[]:=by
 unfold cutStep
 cases hl:acc.getLast? with
 | none=>intro s hs; simp only [List.mem_singleton] at hs; subst hs; simp
 | some x =>
  obtain ⟨ini,rfl⟩:=List.getLast?_eq_some_iff.1 hl
  simp only
  split
  ·intro s hs
   rcases List.mem_append.1 hs with hs | hs
   ·exact h s hs
   ·simp only [List.mem_singleton] at hs; subst hs; simp
  ·intro s hs
   rw [List.dropLast_concat] at hs
   rcases List.mem_append.1 hs with hs | hs
   ·exact h s (List.mem_append_left _ hs)
   ·simp only [List.mem_singleton] at hs; subst hs; simp
theorem cut_ne(q:Seg→OpT→Bool)(mk:OpT→Int × Int):∀ (l:List OpT) (acc:List Seg),(∀ s∈acc,s.ops≠[])→∀ s∈l.foldl (cutStep q mk) acc,s.ops≠[]
 | [],acc,h=>h
 | o::l,acc,h=>by rw [List.foldl_cons]; exact cut_ne q mk l _ (cutStep_ne q mk acc o h)
theorem segs_len:∀ (acc:List Seg),(∀ s∈acc,s.ops≠[])→acc.length≤(acc.flatMap Seg.ops).length
 | [],_=>Nat.zero_le _
 | a::l,h=>by
  have:=segs_len l fun s hs=>h s (List.mem_cons_of_mem _ hs)
  have ha:=List.length_pos_iff.2 (h a List.mem_cons_self)
  rw [List.flatMap_cons,List.length_append,List.length_cons]; omega
theorem seg_len(acc:List Seg)(s:Seg)(h:s∈acc):s.ops.length≤(acc.flatMap Seg.ops).length:=by
 induction acc with
 | nil=>cases h
 | cons a l ih =>
  rw [List.flatMap_cons,List.length_append]
  rcases List.mem_cons.1 h with rfl | h
  ·omega
  ·have:=ih h; omega
theorem segCells_flat:∀ (l:List Seg) (vs:List Value),(List.zipWith segC l vs).flatten=segCells l vs
 | [],vs=>by cases vs <;> rfl
 | a::l,[]=>rfl
 | a::l,b::vs=>by rw [List.zipWith_cons_cons,List.flatten_cons,segCells_flat l vs]; rfl
end Go.Proofs.YteiciplnfjnfjaaGreat.Cut

namespace Go.Proofs.YteiciplnfjnfjaaGreat.Cut
open Go Go.Ann Go.RowKit
def leq(a b:OpT):Bool:=decide (a.Invoke<b.Invoke∨a.Invoke=b.Invoke∧a.ID≤b.ID)
theorem leq_ear(a b:OpT):leq a b=true↔¬ earI b a<0:=by
 unfold leq
 rw [ear_neg,decide_eq_true_eq]
 omega
theorem sorts_ins{r:List OpT}{o:OpT}{n:Nat}(hs:r.Pairwise fun a b=>¬ earI b a<0)(h1:∀ j,(h:j<r.length)→j<n→leq r[j] o=true)(h2:(h:n<r.length)→leq r[n] o=false):(r.take n++[o]++r.drop n).Pairwise fun a b=>¬ earI b a<0:=by
 have tr:∀ x y z:OpT,¬ earI y x<0→¬ earI z y<0→¬ earI z x<0:=fun x y z a b=>by rw [ear_neg] at *; omega
 rw [List.append_assoc,List.pairwise_append]
 have hpre:∀ a∈r.take n,leq a o=true:=fun a ha=>by
  obtain ⟨j,hj,rfl⟩:=List.mem_iff_getElem.1 ha
  rw [List.length_take] at hj
  rw [List.getElem_take]
  exact h1 j (by omega) (by omega)
 have hpost:∀ b∈r.drop n,¬ earI b o<0:=fun b hb=>by
  obtain ⟨j,hj,rfl⟩:=List.mem_iff_getElem.1 hb
  rw [List.length_drop] at hj
  rw [List.getElem_drop]
  have e:=h2 (by omega)
  have e':¬ leq r[n] o=true:=by rw [e]; decide
  rw [leq_ear] at e'
  have e2:¬ earI r[n] o<0:=by rw [ear_neg] at *; omega
  rcases Nat.eq_zero_or_pos j with rfl | hj0
  ·exact e2
  ·exact tr _ _ _ e2 (List.pairwise_iff_getElem.1 hs n (n+j) (by omega) (by omega) (by omega))
 refine ⟨hs.sublist (List.take_sublist _ _),?_,fun a ha b hb=>?_⟩
 ·rw [List.singleton_append,List.pairwise_cons]
  exact ⟨hpost,hs.sublist (List.drop_sublist _ _)⟩
 ·have ha':=(leq_ear _ _).1 (hpre a ha)
  rcases List.mem_append.1 hb with hb | hb
  ·simp only [List.mem_singleton] at hb; subst hb; exact ha'
  ·exact tr _ _ _ ha' (hpost b hb)
theorem perm_ins{l r:List OpT}{i n:Nat}(hp:r.Perm (l.take i))(hi:i<l.length):(r.take n++[l[i]]++r.drop n).Perm (l.take (i+1)):=by
 rw [List.take_succ_eq_append_getElem hi]
 have h1:(r.take n++[l[i]]++r.drop n).Perm (l[i]::(r.take n++r.drop n)):=by
  rw [List.append_assoc]; exact List.perm_middle
 rw [List.take_append_drop] at h1
 exact h1.trans ((hp.cons _).trans (List.perm_append_singleton _ _).symm)
theorem offA_zero{a:Option Addr}{c sz:Nat}:offA a c 0 sz=a:=by
 unfold offA
 rw [Nat.zero_mul]
 split
 ·rfl
 ·cases a with
  | none=>rfl
  | some a=>exact congrArg some (by unfold Addr.add; rfl)
theorem rd_take{w:World}{sz n k cap:Nat}{a:Option Addr}{xs:List Value}(h:Rd w sz (.slice a n cap) n xs)(hk:k≤n):Rd w sz (.slice (offA a cap 0 sz) k cap) k (xs.take (k * sz)):=by
 rw [offA_zero]; exact h.take hk
theorem rd_drop{w:World}{sz n k cap:Nat}{a:Option Addr}{xs:List Value}(h:Rd w sz (.slice a n cap) n xs)(hk:k≤n):Rd w sz (.slice (offA a cap k sz) (n - k) (cap - k)) (n - k) (xs.drop (k * sz)):=by
 obtain ⟨h1,a',cap',he,h2,h3⟩:=h
 simp only [Value.slice.injEq,true_and] at he
 obtain ⟨rfl,rfl⟩:=he
 refine ⟨by rw [List.length_drop,h1,Nat.sub_mul],_,_,rfl,by omega,fun h=>?_⟩
 obtain ⟨ad,rfl,h4⟩:=h3 (by omega)
 refine ⟨ad.add (k * sz),by unfold offA; rw [if_neg (by omega)]; rfl,fun j u hu=>?_⟩
 rw [add_add]
 rw [List.getElem?_drop] at hu
 exact h4 _ u hu
theorem take_flat{l:List OpT}{k:Nat}:(l.flatMap OpT.enc).take (k * 11)=(l.take k).flatMap OpT.enc:=by
 induction l generalizing k with
 | nil=>simp
 | cons a l ih =>
  cases k with
  | zero=>simp
  | succ k=>rw [List.flatMap_cons,List.take_succ_cons,List.flatMap_cons,show (k+1) * 11=a.enc.length+k * 11 by rw [OpT.len]; omega,List.take_length_add_append,ih]
theorem drop_flat{l:List OpT}{k:Nat}:(l.flatMap OpT.enc).drop (k * 11)=(l.drop k).flatMap OpT.enc:=by
 induction l generalizing k with
 | nil=>simp
 | cons a l ih =>
  cases k with
  | zero=>simp
  | succ k=>rw [List.flatMap_cons,List.drop_succ_cons,show (k+1) * 11=a.enc.length+k * 11 by rw [OpT.len]; omega,List.drop_length_add_append,ih]
theorem ins38{W0 w:World}{Q:Post}{q:Addr}{c i n co:Nat}{ao:Option Addr}{l r:List OpT}(h:RdS W0 11 OpT.enc (.slice (some q) l.length c) l)(hl:l.length≤1048576)(hr:r.length≤1048576)(hi:i<l.length)(hn:n≤r.length)
  (s:St W0 w (fun _=>False) [.row (.slice ao r.length co) 38 11 r.length (r.flatMap OpT.enc)] [])
  (hQ:∀ v' w',St W0 w' (fun _=>False) [.row v' 38 11 (r.take n++[l[i]]++r.drop n).length ((r.take n++[l[i]]++r.drop n).flatMap OpT.enc)] []→Q .normal [(0,.slice (some q) l.length c),(3,v'),(4,.int .i64 i)] w') :
  W Tryz.prog (c30S4 ()) [(0,.slice (some q) l.length c),(3,.slice ao r.length co),(4,.int .i64 i),(5,.int .i64 n)] w Q:=by
 simp (disch:=first|omega|exact zF rfl|exact zG rfl|exact id|(simp only[zA,zB,zC,zD,bytesW];omega)) only[go_sem,c30S4]
 refine bsW_none ty22mkI ?_
 have s2:=s.emptyRow 38 11
 generalize w.alloc (.cells #[] 38)=w2 at s2 ⊢
 simp (disch:=first|omega|exact zF rfl|exact zG rfl|exact id|(simp only[zA,zB,zC,zD,bytesW];omega)) only[go_sem,c30S4]
 have hco:r.length≤co:=by
  obtain ⟨a',c',e,h⟩:=own_slice (s2.row 1 rfl)
  cases e; exact h
 have e1:(r.take n).length=n:=by rw [List.length_take]; omega
 refine ⟨⟨by omega,by omega⟩,?_⟩
 refine s2.append 0 rfl ty22mkI rfl (by decide) (rd_take (Rd.of_own (s2.row 1 rfl)) hn) (by rw [take_flat]; exact OpT.ones _) (by omega) (by omega) ?_
 intro v3 w3 s3 _
 simp only [List.set_cons_zero,List.nil_append,take_flat,Nat.zero_add] at s3
 obtain ⟨a3,c3,rfl,_⟩:=own_slice (s3.row 0 rfl)
 have eo:=h.eltB s3.bel OpT.len (by decide) hi
 have ato:=l[i].at
 have ci:=cellsO_below s3.bel (h.at OpT.len hi)
 simp (disch:=first|omega|exact zF rfl|exact zG rfl|exact id|(simp only[zA,zB,zC,zD,bytesW];omega)) only[go_sem,c30S4,ci]
 refine ⟨⟨by omega,by omega⟩,bsW_agg ty22mkI rfl (by decide) (by decide) ?_⟩
 have hrd:Rd (w3.alloc (.cells l[i].enc.toArray 38)) 11 (.slice (some ⟨w3.heap.size,0,none⟩) 1 1) 1 l[i].enc:=rd_new (t:=38) (sz:=11) (n:=1) (cs:=l[i].enc.toArray) rfl
 have s4:=s3.alloc' (.cells l[i].enc.toArray 38)
 generalize w3.alloc (.cells l[i].enc.toArray 38)=w4 at s4 hrd ⊢
 simp (disch:=first|omega|exact zF rfl|exact zG rfl|exact id|(simp only[zA,zB,zC,zD,bytesW];omega)) only[go_sem,c30S4,ci]
 refine s4.append 0 rfl ty22mkI rfl (by decide) hrd l[i].one (by omega) (by omega) ?_
 intro v5 w5 s5 _
 simp only [List.set_cons_zero] at s5
 obtain ⟨a5,c5,rfl,_⟩:=own_slice (s5.row 0 rfl)
 simp (disch:=first|omega|exact zF rfl|exact zG rfl|exact id|(simp only[zA,zB,zC,zD,bytesW];omega)) only[go_sem,c30S4]
 refine ⟨⟨by omega,by omega⟩,?_⟩
 refine s5.append 0 rfl ty22mkI rfl (by decide) (rd_drop (Rd.of_own (s5.row 1 rfl)) hn) (by rw [drop_flat]; exact OpT.ones _) (by omega) (by omega) ?_
 intro v6 w6 s6 _
 simp only [List.set_cons_zero,drop_flat] at s6
 simp (disch:=first|omega|exact zF rfl|exact zG rfl|exact id|(simp only[zA,zB,zC,zD,bytesW];omega)) only[go_sem,c30S4]
 refine hQ _ _ ?_
 have s7:=s6.sub (L':=[_]) ((List.nil_sublist _).cons_cons _)
 have el:(r.take n++[l[i]]++r.drop n).length=n+1+(r.length - n):=by
  rw [List.length_append,List.length_append,e1,List.length_drop]; rfl
 have ef:(r.take n++[l[i]]++r.drop n).flatMap OpT.enc=(r.take n).flatMap OpT.enc++l[i].enc++(r.drop n).flatMap OpT.enc:=by
  rw [List.flatMap_append,List.flatMap_append]; simp
 rw [el,ef]
 exact s7
theorem sorted_ok(v:Value)(l:List OpT)(w:World)(h:RdS w 11 OpT.enc v l)(hl:l.length≤1048576) :
  Ret Tryz.prog 30 [v] w fun u w'=>(∃ r,Sorts earI l r∧w'.ownsRow w.heap.size 38 11 u r.length (r.flatMap OpT.enc))∧Below w.heap.size w w':=by
 obtain ⟨a,c,rfl,_⟩:=h.form
 refine ent30 _ _ _ ?_
 simp (disch:=first|omega|exact zF rfl|exact zG rfl|exact id|(simp only[zA,zB,zC,zD,bytesW];omega)) only[go_sem,c30S4]
 refine W_loopU (fun x:Nat × Value=>[(3,x.2),(4,.int .i64 x.1)]) (fun x w'=>x.1≤l.length∧∃ r,Sorts earI (l.take x.1) r∧St w w' (fun _=>False) [.row x.2 38 11 r.length (r.flatMap OpT.enc)] []) (fun x=>l.length - x.1) (0,.slice none 0 0) rfl ⟨Nat.zero_le _,[],⟨List.Perm.refl _,List.Pairwise.nil⟩,(St.start (W0:=w)).nilRow 38 11⟩ ?_
 rintro ⟨i,vo⟩ w1 ⟨hi,r,⟨hp,hs⟩,s1⟩
 simp only at hi hp s1
 have hrl:r.length=i:=by rw [hp.length_eq,List.length_take]; omega
 obtain ⟨ao,co,rfl,_⟩:=own_slice (s1.row 0 rfl)
 by_cases hlt:i<l.length
 ·have hlt':(i:Int)<l.length:=by omega
  obtain ⟨q,rfl⟩:=h.ptr (by omega)
  simp (disch:=first|omega|exact zF rfl|exact zG rfl|exact id|(simp only[zA,zB,zC,zD,bytesW];omega)) only[go_sem,hlt']
  refine W_loopU (fun n:Nat=>[(5,.int .i64 n)]) (fun n w'=>n≤r.length∧(∀ j,(h:j<r.length)→j<n→leq r[j] l[i]=true)∧St w w' (fun _=>False) [.row (.slice ao r.length co) 38 11 r.length (r.flatMap OpT.enc)] []) (fun n=>r.length - n) 0 rfl ⟨Nat.zero_le _,fun j _ h=>by omega,s1⟩ ?_
  rintro n w2 ⟨hn,hle,s2⟩
  have eo:=h.eltB s2.bel OpT.len (by decide) hlt
  have ato:=l[i].at
  by_cases hnr:n<r.length
  ·have hnr':(n:Int)<r.length:=by omega
   have hro:RdS w2 11 OpT.enc (.slice ao r.length co) r:=RdS.of_own (s2.row 0 rfl)
   obtain ⟨p,rfl⟩:=hro.ptr (by omega)
   have er:=hro.elt OpT.len (by decide) hnr
   have atr:=r[n].at
   simp (disch:=first|omega|exact zF rfl|exact zG rfl|exact id|(simp only[zA,zB,zC,zD,bytesW];omega)) only[go_sem]
   refine c30draw0 ?_
   simp (disch:=first|omega|exact zF rfl|exact zG rfl|exact id|(simp only[zA,zB,zC,zD,bytesW];omega)) only[go_sem,c30D0,eo,ato,er,atr,hnr']
   have stp:leq r[n] l[i]=true→(n+1≤r.length∧(∀ (j:Nat) (h:j<r.length),j<n+1→leq r[j] l[i]=true)∧St w w2.drew (fun _=>False) [.row (.slice (some p) r.length co) 38 11 r.length (r.flatMap OpT.enc)] []):=fun hy=>⟨by omega,fun j h1 h2=>by
    rcases Nat.lt_or_ge j n with h' | h'
    ·exact hle j h1 h'
    ·obtain rfl:j=n:=by omega
     exact hy,s2.drew⟩
   have hy:leq r[n] l[i]=decide (r[n].Invoke<l[i].Invoke∨r[n].Invoke=l[i].Invoke∧r[n].ID≤l[i].ID):=rfl
   refine ⟨by omega,⟨by omega,by omega⟩,fun e1=>⟨by omega,⟨by omega,by omega⟩,fun e2=>⟨by omega,⟨by omega,by omega⟩,fun e3=>⟨⟨by omega,by omega⟩,n+1,rfl,stp (by rw [hy]; exact decide_eq_true (by omega)),by omega⟩,fun e3=>?_⟩,fun e2=>?_⟩,fun e1=>⟨⟨by omega,by omega⟩,n+1,rfl,stp (by rw [hy]; exact decide_eq_true (by omega)),by omega⟩⟩
   ·have hno:leq r[n] l[i]=false:=by rw [hy]; exact decide_eq_false (by omega)
    refine ins38 h hl (by omega) hlt hn s2.drew ?_
    intro v9 w9 s9
    simp (disch:=first|omega|exact zF rfl|exact zG rfl|exact id|(simp only[zA,zB,zC,zD,bytesW];omega)) only[go_sem,c30S4]
    refine ⟨⟨by omega,by omega⟩,(i+1,_),rfl,⟨by simp only; omega,_,⟨?_,sorts_ins hs hle fun _=>hno⟩,s9⟩,by simp only; omega⟩
    exact perm_ins hp hlt
   ·have hno:leq r[n] l[i]=false:=by rw [hy]; exact decide_eq_false (by omega)
    refine ins38 h hl (by omega) hlt hn s2.drew ?_
    intro v9 w9 s9
    simp (disch:=first|omega|exact zF rfl|exact zG rfl|exact id|(simp only[zA,zB,zC,zD,bytesW];omega)) only[go_sem,c30S4]
    refine ⟨⟨by omega,by omega⟩,(i+1,_),rfl,⟨by simp only; omega,_,⟨?_,sorts_ins hs hle fun _=>hno⟩,s9⟩,by simp only; omega⟩
    exact perm_ins hp hlt
  ·have hnr':¬ (n:Int)<r.length:=by omega
   simp (disch:=first|omega|exact zF rfl|exact zG rfl|exact id|(simp only[zA,zB,zC,zD,bytesW];omega)) only[go_sem]
   refine c30draw0 ?_
   simp (disch:=first|omega|exact zF rfl|exact zG rfl|exact id|(simp only[zA,zB,zC,zD,bytesW];omega)) only[go_sem,c30D0,hnr']
   refine ins38 h hl (by omega) hlt hn s2.drew ?_
   intro v9 w9 s9
   simp (disch:=first|omega|exact zF rfl|exact zG rfl|exact id|(simp only[zA,zB,zC,zD,bytesW];omega)) only[go_sem,c30S4]
   refine ⟨⟨by omega,by omega⟩,(i+1,_),rfl,⟨by simp only; omega,_,⟨?_,sorts_ins hs hle fun h=>absurd h (by omega)⟩,s9⟩,by simp only; omega⟩
   exact perm_ins hp hlt
 ·have hlt':¬ (i:Int)<l.length:=by omega
  simp (disch:=first|omega|exact zF rfl|exact zG rfl|exact id|(simp only[zA,zB,zC,zD,bytesW];omega)) only[go_sem,c30S4,hlt']
  have hil:i=l.length:=by omega
  subst hil
  rw [List.take_length] at hp
  exact ⟨⟨r,⟨hp,hs⟩,s1.row 0 rfl⟩,s1.bel⟩
end Go.Proofs.YteiciplnfjnfjaaGreat.Cut

namespace Go.Proofs.YteiciplnfjnfjaaGreat.Cut
open Go Go.Ann Go.RowKit
def segQ(s:Seg)(o:OpT):Bool:=s.ops.all fun x=>before x o
def Piece(r:List OpT)(al:Option Addr)(cl:Nat)(s:Seg)(v:Value):Prop:=∃ f t,f≤t∧t≤r.length∧v=.slice (offA al cl f 11) (t - f) (cl - f)∧s.ops=(r.take t).drop f
theorem Piece.rd{w:World}{r:List OpT}{al:Option Addr}{cl:Nat}{s:Seg}{v:Value}(h:Piece r al cl s v)(hr:RdS w 11 OpT.enc (.slice al r.length cl) r):RdS w 11 OpT.enc v s.ops:=by
 obtain ⟨f,t,h1,h2,rfl,h3⟩:=h
 have e1:=rd_drop (Rd.take (k:=t) hr h2) h1
 rw [take_flat,drop_flat] at e1
 have e2:s.ops.length=t - f:=by rw [h3,List.length_drop,List.length_take]; omega
 unfold RdS
 rw [e2,h3]
 exact e1
theorem take_drop_succ{r:List OpT}{f i:Nat}(h:i<r.length)(hf:f≤i):(r.take (i+1)).drop f=(r.take i).drop f++[r[i]]:=by
 rw [List.take_succ_eq_append_getElem h,List.drop_append_of_le_length (by rw [List.length_take]; omega)]
theorem all_less{r:List OpT}{f k i:Nat}{p:OpT→Bool}(hk:k≤i)(h:((r.take k).drop f).all p=false):((r.take i).drop f).all p=false:=by
 rw [List.all_eq_false] at h ⊢
 obtain ⟨x,hx,hp⟩:=h
 exact ⟨x,((List.take_sublist_take_left hk).drop f).subset hx,hp⟩
theorem put17{W0 w:World}{Q:Post}{f i bo cl:Nat}{al:Option Addr}{b:Bool}{obj kind:Int}{va vo:Value}{r:List OpT}{out:List Seg}{vs:List Value}{I:List Inv}(hr:r.length≤1048576)(ho:out.length≤1048576)(hf:f≤i)(hi:i≤r.length)(hcl:r.length≤cl)
  (s:St W0 w (fun _=>False) [.row vo 24 3 out.length (segCells out vs),.blk bo #[.int .i64 obj,.int .i64 kind,va] 24] I)
  (h1:b=true∨i=r.length→∀ v' w',St W0 w' (fun _=>False) [.row v' 24 3 (out.length+1) (segCells out vs++segC ⟨obj,kind,[]⟩ (.slice (offA al cl f 11) (i - f) (cl - f))),.blk bo #[.int .i64 obj,.int .i64 kind,va] 24] I→Q .normal [(1,.pointer (some ⟨bo,0,none⟩)),(3,.slice al r.length cl),(4,v'),(5,.int .i64 i),(6,.int .i64 i)] w')
  (h2:b=false→i≠r.length→Q .normal [(1,.pointer (some ⟨bo,0,none⟩)),(3,.slice al r.length cl),(4,vo),(5,.int .i64 f),(6,.int .i64 i)] w) :
  W Tryz.prog (c45S3 ()) [(1,.pointer (some ⟨bo,0,none⟩)),(3,.slice al r.length cl),(4,vo),(5,.int .i64 f),(6,.int .i64 i),(7,.bool b)] w Q:=by
 have hb:=s.rules 1 rfl
 have hlow:=s.low 1 rfl
 have grow:∀ (Q':Post) (x:Value),(∀ v' w',St W0 w' (fun _=>False) [.row v' 24 3 (out.length+1) (segCells out vs++segC ⟨obj,kind,[]⟩ (.slice (offA al cl f 11) (i - f) (cl - f))),.blk bo #[.int .i64 obj,.int .i64 kind,va] 24] I→Q' .normal [(1,.pointer (some ⟨bo,0,none⟩)),(3,.slice al r.length cl),(4,v'),(6,.int .i64 i)] w')→drawW Tryz.prog (drawOps 1 c45code) [1,3,4,6] [(1,.pointer (some ⟨bo,0,none⟩)),(3,.slice al r.length cl),(4,vo),(5,.int .i64 f),(6,.int .i64 i),(46,x)] w Q':=by
  intro Q' x hQ'
  have hne:vo.ownBlock≠some bo:=s.ne 1 0 rfl rfl (by decide) rfl
  refine c45draw1 (Chg (fun k=>vo.ownBlock=some k) _) (Chg.refl _ _) ?_
  simp (disch:=first|omega|exact zF rfl|exact zG rfl|exact id|(simp only[zA,zB,zC,zD,bytesW];omega)) only[go_sem,c45S3,c45D1,hb,hne]
  refine ⟨⟨by omega,by omega,by omega⟩,bdW_built (cells:=(segC ⟨obj,kind,[]⟩ (.slice (offA al cl f 11) (i - f) (cl - f))).toArray) (by kernel_rfl) ?_⟩
  simp (disch:=first|omega|exact zF rfl|exact zG rfl|exact id|(simp only[zA,zB,zC,zD,bytesW];omega)) only[go_sem,c45S3,c45D1,hb,hne]
  refine bsW_agg ty47mkI rfl (by decide) (by decide) ?_
  simp (disch:=first|omega|exact zF rfl|exact zG rfl|exact id|(simp only[zA,zB,zC,zD,bytesW];omega)) only[go_sem,c45S3,c45D1,hb,hne]
  obtain ⟨sc,hsc⟩:∃ sc,sc=segC ⟨obj,kind,[]⟩ (.slice (offA al cl f 11) (i - f) (cl - f)):=⟨_,rfl⟩
  rw [← hsc] at hQ' ⊢
  have h1:∀ u∈sc,u.oneCell'=true:=by intro u hu; rw [hsc] at hu; simp only [segC,List.mem_cons,List.not_mem_nil,or_false] at hu; rcases hu with rfl | rfl | rfl <;> rfl
  have hl3:sc.toArray.size=1 * 3:=by rw [hsc]; rfl
  have hrd:Rd (w.alloc (.cells sc.toArray 24)).drew 3 (.slice (some ⟨w.heap.size,0,none⟩) 1 1) 1 sc:=rd_new (w:=w.drew) (t:=24) (sz:=3) (n:=1) (cs:=sc.toArray) hl3
  have s2:St W0 (w.alloc (.cells sc.toArray 24)).drew _ _ _:=(s.alloc' (.cells sc.toArray 24)).drew
  refine ⟨chg_da,s2.append 0 rfl ty47mkI rfl (by decide) hrd h1 (by omega) (by omega) ?_⟩
  intro v3 w3 s3 c3
  simp only [List.set_cons_zero] at s3
  simp (disch:=first|omega|exact zF rfl|exact zG rfl|exact id|(simp only[zA,zB,zC,zD,bytesW];omega)) only[go_sem,c45S3,c45D1,hb,hne]
  exact ⟨chg_da.trans c3,hQ' _ _ s3⟩
 cases b with
 | true =>
  simp (disch:=first|omega|exact zF rfl|exact zG rfl|exact id|(simp only[zA,zB,zC,zD,bytesW];omega)) only[go_sem,c45S3]
  refine grow _ _ fun v' w' s'=>?_
  simp (disch:=first|omega|exact zF rfl|exact zG rfl|exact id|(simp only[zA,zB,zC,zD,bytesW];omega)) only[go_sem,c45S3]
  exact h1 (.inl rfl) v' w' s'
 | false =>
  simp (disch:=first|omega|exact zF rfl|exact zG rfl|exact id|(simp only[zA,zB,zC,zD,bytesW];omega)) only[go_sem,c45S3]
  refine ⟨fun e=>?_,fun e=>h2 rfl (by omega)⟩
  refine grow _ _ fun v' w' s'=>?_
  simp (disch:=first|omega|exact zF rfl|exact zG rfl|exact id|(simp only[zA,zB,zC,zD,bytesW];omega)) only[go_sem,c45S3]
  exact h1 (.inr (by omega)) v' w' s'
theorem rsegments_ok(obj kind:Int)(v:Value)(l:List OpT)(w:World)(h:RdS w 11 OpT.enc v l)(hl:l.length≤1048576) :
  Ret Tryz.prog 45 [.agg #[.int .i64 obj,.int .i64 kind,v]] w fun u w'=>(∃ r,Sorts earI l r∧RdR w' 3 segR u (r.foldl (cutStep segQ fun _=>(obj,kind)) []))∧Below w.heap.size w w':=by
 obtain ⟨a,c,rfl,_⟩:=h.form
 refine ent45 _ _ _ ?_
 simp (disch:=first|omega|exact zF rfl|exact zG rfl|exact id|(simp only[zA,zB,zC,zD,bytesW];omega)) only[go_sem,c45S3]
 have s1:=(St.start (W0:=w)).box #[.int .i64 obj,.int .i64 kind,.slice a l.length c] 24
 have h1:=h.below s1.bel (by decide)
 generalize w.alloc (.cells #[.int .i64 obj,.int .i64 kind,.slice a l.length c] 24)=w1 at s1 h1 ⊢
 refine Ret.mono (sorted_ok _ _ _ h1 hl) ?_
 rintro vl w2 ⟨⟨r,hs,o2⟩,b2⟩
 have hrl:r.length=l.length:=hs.1.length_eq
 have s2:=(s1.add b2 (.row vl 38 11 r.length (r.flatMap OpT.enc)) (own_mono o2 s1.size) fun k hk=>(o2.lt k hk).1).seal (.rd 11 OpT.enc vl r) (RdS.of_own o2) fun k hk=>slFoot_own hk
 obtain ⟨al,cl,rfl,hcl⟩:=own_slice o2
 simp (disch:=first|omega|exact zF rfl|exact zG rfl|exact id|(simp only[zA,zB,zC,zD,bytesW];omega)) only[go_sem,c45S3]
 refine W_loopU (fun x:Nat × Nat × Value=>[(4,x.2.2),(5,.int .i64 x.2.1),(6,.int .i64 x.1)]) (fun x w'=>1≤x.1∧x.1≤r.length+1∧x.2.1≤x.1∧∃ out vs,vs.length=out.length∧out.length≤x.1∧(∀ (j:Nat) (s:Seg) (v:Value),out[j]?=some s→vs[j]?=some v→Piece r al cl s v)∧(x.1≤r.length→x.2.1<x.1∧(r.take x.1).foldl (cutStep segQ fun _=>(obj,kind)) []=out++[(⟨obj,kind,(r.take x.1).drop x.2.1⟩:Seg)])∧(x.1=r.length+1→r.foldl (cutStep segQ fun _=>(obj,kind)) []=out) ∧
  St w w' (fun _=>False) [.row x.2.2 24 3 out.length (segCells out vs),.blk w.heap.size #[.int .i64 obj,.int .i64 kind,.slice a l.length c] 24] [.rd 11 OpT.enc (.slice al r.length cl) r]) (fun x=>r.length+1 - x.1) (1,0,.slice none 0 0) rfl ⟨Nat.le_refl _,Nat.le_add_left 1 _,Nat.zero_le _,[],[],rfl,Nat.zero_le _,fun j s v h=>(by have h':(none:Option Seg)=some s:=h; cases h'),fun hle=>⟨by decide,?_⟩,fun he=>?_,s2.nilRow 24 3⟩ ?_
 ·simp only at hle ⊢
  rw [List.drop_zero,List.take_succ_eq_append_getElem (by omega)]
  rfl
 ·simp only at he
  rw [List.eq_nil_of_length_eq_zero (show r.length=0 by omega)]; rfl
 rintro ⟨i,f,vo⟩ w3 ⟨hi1,hi2,hf,out,vs,hvs,hout,hpc,hfold,hend,s3⟩
 simp only at hi1 hi2 hf hout hfold hend s3
 by_cases hlt:i≤r.length
 ·have hlt':(i:Int)≤r.length:=by omega
  simp (disch:=first|omega|exact zF rfl|exact zG rfl|exact id|(simp only[zA,zB,zC,zD,bytesW];omega)) only[go_sem,hlt']
  obtain ⟨hfi,hfe⟩:=hfold hlt
  have hpiece:Piece r al cl ⟨obj,kind,(r.take i).drop f⟩ (.slice (offA al cl f 11) (i - f) (cl - f)):=⟨f,i,hf,hlt,rfl,rfl⟩
  have hsegq:∀ b:Bool,b=(decide ((i:Int)<r.length) && ((r.take i).drop f).all fun y=>before y (r.getD i default))→∀ h:i<r.length,segQ ⟨obj,kind,(r.take i).drop f⟩ r[i]=b:=by
   intro b hb h
   rw [hb,decide_eq_true (by omega),Bool.true_and]
   simp [segQ,List.getD_eq_getElem?_getD,h]
  have hsucc:∀ h:i<r.length,(r.take (i+1)).foldl (cutStep segQ fun _=>(obj,kind)) []=cutStep segQ (fun _=>(obj,kind)) (out++[(⟨obj,kind,(r.take i).drop f⟩:Seg)]) r[i]:=fun h=>by
   rw [List.take_succ_eq_append_getElem h,List.foldl_append,hfe]; rfl
  have new1:∀ b:Bool,b=(decide ((i:Int)<r.length) && ((r.take i).drop f).all fun y=>before y (r.getD i default))→(b=true∨i=r.length)→(i+1≤r.length→i<i+1∧(r.take (i+1)).foldl (cutStep segQ fun _=>(obj,kind)) []=out++[(⟨obj,kind,(r.take i).drop f⟩:Seg)]++[(⟨obj,kind,(r.take (i+1)).drop i⟩:Seg)])∧(i+1=r.length+1→r.foldl (cutStep segQ fun _=>(obj,kind)) []=out++[(⟨obj,kind,(r.take i).drop f⟩:Seg)]):=by
   intro b hb hor
   refine ⟨fun h=>⟨by omega,?_⟩,fun h=>?_⟩
   ·have hbt:b=true:=by rcases hor with h' | h'; exact h'; omega
    rw [hsucc (by omega),cutStep_new _ _ ((hsegq b hb (by omega)).trans hbt),take_drop_succ (by omega) (Nat.le_refl _),show (r.take i).drop i=[] from List.drop_eq_nil_of_le (by rw [List.length_take]; omega)]
    rfl
   ·have:i=r.length:=by omega
    rw [← hfe,this,List.take_length]
  have old1:∀ b:Bool,b=(decide ((i:Int)<r.length) && ((r.take i).drop f).all fun y=>before y (r.getD i default))→b=false→i≠r.length→(i+1≤r.length→f<i+1∧(r.take (i+1)).foldl (cutStep segQ fun _=>(obj,kind)) []=out++[(⟨obj,kind,(r.take (i+1)).drop f⟩:Seg)])∧(i+1=r.length+1→r.foldl (cutStep segQ fun _=>(obj,kind)) []=out):=by
   intro b hb hbf hne
   refine ⟨fun h=>⟨by omega,?_⟩,fun h=>by omega⟩
   rw [hsucc (by omega),cutStep_old _ _ ((hsegq b hb (by omega)).trans hbf),take_drop_succ (by omega) hf]
  have hpc':∀ (j:Nat) (s:Seg) (v:Value),(out++[(⟨obj,kind,(r.take i).drop f⟩:Seg)])[j]?=some s→(vs++[.slice (offA al cl f 11) (i - f) (cl - f)])[j]?=some v→Piece r al cl s v:=by
   intro j s v hx hv
   rcases Nat.lt_or_ge j out.length with hj | hj
   ·rw [List.getElem?_append_left hj] at hx
    rw [List.getElem?_append_left (by omega)] at hv
    exact hpc j s v hx hv
   ·rw [List.getElem?_append_right hj] at hx
    rw [List.getElem?_append_right (by omega),hvs] at hv
    have hz:j - out.length=0:=by
     have:=(List.getElem?_eq_some_iff.1 hx).1
     simp only [List.length_singleton] at this; omega
    rw [hz] at hx hv
    simp only [List.getElem?_cons_zero,Option.some.injEq] at hx hv
    subst hx; subst hv
    exact hpiece
  have hcells:segCells (out++[(⟨obj,kind,(r.take i).drop f⟩:Seg)]) (vs++[.slice (offA al cl f 11) (i - f) (cl - f)])=segCells out vs++segC ⟨obj,kind,[]⟩ (.slice (offA al cl f 11) (i - f) (cl - f)):=segCells_snoc _ _ _ _ hvs
  refine W_loopU (fun x:Bool × Nat=>[(7,.bool x.1),(8,.int .i64 x.2)]) (fun x w'=>f≤x.2∧x.2≤i∧x.1=(decide ((i:Int)<r.length) && ((r.take x.2).drop f).all fun y=>before y (r.getD i default))∧St w w' (fun _=>False) [.row vo 24 3 out.length (segCells out vs),.blk w.heap.size #[.int .i64 obj,.int .i64 kind,.slice a l.length c] 24] [.rd 11 OpT.enc (.slice al r.length cl) r]) (fun x=>i - x.2) (decide ((i:Int)<r.length),f) rfl ⟨Nat.le_refl _,hf,by simp only; rw [List.drop_eq_nil_of_le (by rw [List.length_take]; omega)]; simp,s3⟩ ?_
  rintro ⟨b,k⟩ w4 ⟨hfk,hki,hb,s4⟩
  simp only at hfk hki hb
  have g4:RdS w4 11 OpT.enc (.slice al r.length cl) r:=s4.get 0 rfl
  have tail:b=false∨k=i→b=(decide ((i:Int)<r.length) && ((r.take i).drop f).all fun y=>before y (r.getD i default)):=by
   rintro (rfl | rfl)
   ·rcases hd:decide ((i:Int)<r.length) with _ | _
    ·rfl
    ·rw [hd,Bool.true_and] at hb
     rw [Bool.true_and,all_less hki hb.symm]
   ·exact hb
  by_cases hk:k<i
  ·have hk':(k:Int)<i:=by omega
   cases b with
   | true =>
    have hir:i<r.length:=by
     rcases hd:decide ((i:Int)<r.length) with _ | _
     ·rw [hd] at hb; cases hb
     ·have:=of_decide_eq_true hd; omega
    have hir':(i:Int)<r.length:=by omega
    obtain ⟨q,rfl⟩:=g4.ptr (by omega)
    have ck:=g4.at OpT.len (show k<r.length by omega)
    have ci:=g4.at OpT.len hir
    have hql:=g4.blt OpT.len (by decide) (by omega)
    simp (disch:=first|omega|exact zF rfl|exact zG rfl|exact id|(simp only[zA,zB,zC,zD,bytesW];omega)) only[go_sem,hk']
    refine c45draw0 (Chg (fun _=>False) _) (Chg.refl _ _) ?_
    simp (disch:=first|omega|exact zF rfl|exact zG rfl|exact id|(simp only[zA,zB,zC,zD,bytesW];omega)) only[go_sem,c45D0,hk',ck,ci,hir']
    refine ⟨⟨by omega,by omega⟩,by omega,Ret.mono (rbefore_ok r[k] r[i] _) ?_⟩
    rintro _ w5 ⟨rfl,b5⟩
    simp (disch:=first|omega|exact zF rfl|exact zG rfl|exact id|(simp only[zA,zB,zC,zD,bytesW];omega)) only[go_sem,c45D0,hk',ck,ci,hir']
    refine ⟨⟨by omega,by omega⟩,(_,k+1),rfl,⟨by simp only; omega,by simp only; omega,?_,(s4.drew).call b5⟩,by simp only; omega⟩
    simp only
    rw [take_drop_succ (by omega) hfk,List.all_append]
    have hpre:(((r.take k).drop f).all fun y=>before y (r.getD i default))=true:=by
     have:=hb.symm
     rw [Bool.and_eq_true] at this; exact this.2
    rw [hpre,List.getD_eq_getElem?_getD,List.getElem?_eq_getElem hir]
    simp only [Option.getD_some,List.all_cons,List.all_nil,Bool.true_and,Bool.and_true]
    unfold before
    cases r[k].Done <;> rfl
   | false =>
    simp (disch:=first|omega|exact zF rfl|exact zG rfl|exact id|(simp only[zA,zB,zC,zD,bytesW];omega)) only[go_sem,hk']
    have hcv:=tail (.inl rfl)
    refine put17 (by omega) (by omega) hf hlt hcl s4 (fun hor v' w' s5=>?_) (fun hbf hir=>?_)
    ·simp (disch:=first|omega|exact zF rfl|exact zG rfl|exact id|(simp only[zA,zB,zC,zD,bytesW];omega)) only[go_sem,c45S3]
     obtain ⟨n1,n2⟩:=new1 _ hcv hor
     refine ⟨⟨by omega,by omega⟩,(i+1,i,v'),rfl,⟨Nat.le_add_left 1 i,Nat.succ_le_succ hlt,Nat.le_succ i,out++[(⟨obj,kind,(r.take i).drop f⟩:Seg)],vs++[.slice (offA al cl f 11) (i - f) (cl - f)],by simp [hvs],by rw [List.length_append]; exact Nat.succ_le_succ hout,hpc',n1,n2,?_⟩,by simp only; omega⟩
     rw [hcells,List.length_append]
     exact s5
    ·simp (disch:=first|omega|exact zF rfl|exact zG rfl|exact id|(simp only[zA,zB,zC,zD,bytesW];omega)) only[go_sem,c45S3]
     obtain ⟨n1,n2⟩:=old1 _ hcv hbf hir
     exact ⟨⟨by omega,by omega⟩,(i+1,f,vo),rfl,⟨Nat.le_add_left 1 i,Nat.succ_le_succ hlt,Nat.le_succ_of_le hf,out,vs,hvs,Nat.le_succ_of_le hout,hpc,n1,n2,s4⟩,by simp only; omega⟩
  ·have hk':¬ (k:Int)<i:=by omega
   simp (disch:=first|omega|exact zF rfl|exact zG rfl|exact id|(simp only[zA,zB,zC,zD,bytesW];omega)) only[go_sem,hk']
   have hcv:=tail (.inr (by omega))
   refine put17 (by omega) (by omega) hf hlt hcl s4 (fun hor v' w' s5=>?_) (fun hbf hir=>?_)
   ·simp (disch:=first|omega|exact zF rfl|exact zG rfl|exact id|(simp only[zA,zB,zC,zD,bytesW];omega)) only[go_sem,c45S3]
    obtain ⟨n1,n2⟩:=new1 _ hcv hor
    refine ⟨⟨by omega,by omega⟩,(i+1,i,v'),rfl,⟨Nat.le_add_left 1 i,Nat.succ_le_succ hlt,Nat.le_succ i,out++[(⟨obj,kind,(r.take i).drop f⟩:Seg)],vs++[.slice (offA al cl f 11) (i - f) (cl - f)],by simp [hvs],by rw [List.length_append]; exact Nat.succ_le_succ hout,hpc',n1,n2,?_⟩,by simp only; omega⟩
    rw [hcells,List.length_append]
    exact s5
   ·simp (disch:=first|omega|exact zF rfl|exact zG rfl|exact id|(simp only[zA,zB,zC,zD,bytesW];omega)) only[go_sem,c45S3]
    obtain ⟨n1,n2⟩:=old1 _ hcv hbf hir
    exact ⟨⟨by omega,by omega⟩,(i+1,f,vo),rfl,⟨Nat.le_add_left 1 i,Nat.succ_le_succ hlt,Nat.le_succ_of_le hf,out,vs,hvs,Nat.le_succ_of_le hout,hpc,n1,n2,s4⟩,by simp only; omega⟩
 ·have hlt':¬ (i:Int)≤r.length:=by omega
  simp (disch:=first|omega|exact zF rfl|exact zG rfl|exact id|(simp only[zA,zB,zC,zD,bytesW];omega)) only[go_sem,c45S3,hlt']
  have hie:i=r.length+1:=by omega
  refine ⟨⟨r,hs,?_⟩,s3.bel⟩
  rw [hend hie]
  have hrr:RdS w3 11 OpT.enc (.slice al r.length cl) r:=s3.get 0 rfl
  refine ⟨List.zipWith segC out vs,by simp [hvs],?_,?_⟩
  ·intro j c x hc hx
   rw [List.getElem?_zipWith,hx] at hc
   cases hv:vs[j]? with
   | none=>rw [hv] at hc; cases hc
   | some v =>
    rw [hv] at hc
    simp only [Option.some.injEq] at hc
    subst hc
    refine ⟨rfl,v,rfl,(hpc j x v hx hv).rd hrr,?_⟩
    obtain ⟨f',t',_,_,_,e⟩:=hpc j x v hx hv
    rw [e,List.length_drop,List.length_take]; omega
  ·rw [segCells_flat]
   exact Rd.of_own (s3.row 0 rfl)
end Go.Proofs.YteiciplnfjnfjaaGreat.Cut

namespace Go.Proofs.YteiciplnfjnfjaaGreat.Cut
open Go Go.Ann Go.RowKit
def ofObj(x:Int)(l:List OpT):List OpT:=l.filter fun o=>decide (o.Object=x)
structure ByObj(l:List OpT)(acc:List Seg):Prop where
 up:acc.Pairwise fun a b=>a.obj<b.obj
 sorts:∀ s∈acc,Sorts earI (ofObj s.obj l) s.ops
 kind:∀ s∈acc,∃ o r,s.ops=o::r∧s.kind=o.Kind
 all:∀ o∈l,∃ s∈acc,s.obj=o.Object
def Next(l:List OpT)(any:Bool)(last:Int)(k:Nat)(found:Bool)(next:Int):Prop :=
 (found=false∧∀ o∈l.take k,any=true∧o.Object≤last)∨(found=true∧(∃ o∈l.take k,o.Object=next)∧(any=true→last<next)∧∀ o∈l.take k,(any=true→last<o.Object)→next≤o.Object)
def left(l:List OpT)(any:Bool)(last:Int):List OpT:=l.filter fun o=>!any || decide (last<o.Object)
structure Part(l:List OpT)(acc:List Seg)(any:Bool)(last:Int):Prop where
 up:acc.Pairwise fun a b=>a.obj<b.obj
 sorts:∀ s∈acc,Sorts earI (ofObj s.obj l) s.ops
 kind:∀ s∈acc,∃ o r,s.ops=o::r∧s.kind=o.Kind
 low:∀ s∈acc,any=true∧s.obj≤last
 all:∀ o∈l,o∈left l any last∨∃ s∈acc,s.obj=o.Object
theorem Part.nil(l:List OpT)(x:Int):Part l [] false x:=⟨List.Pairwise.nil,(fun s h=>by cases h),(fun s h=>by cases h),(fun s h=>by cases h),fun o h=>.inl (by unfold left; simpa using h)⟩
theorem mem_take_succ{l:List OpT}{k:Nat}(hk:k<l.length){o:OpT}:o∈l.take (k+1)↔o∈l.take k∨o=l[k]:=by
 rw [List.take_succ_eq_append_getElem hk,List.mem_append,List.mem_singleton]
theorem Next.take{l:List OpT}{any found:Bool}{last next:Int}{k:Nat}(h:Next l any last k found next)(hk:k<l.length)(h1:any=true→last<l[k].Object)(h2:found=true→l[k].Object<next):Next l any last (k+1) true l[k].Object:=by
 refine .inr ⟨rfl,⟨_,(mem_take_succ hk).2 (.inr rfl),rfl⟩,h1,fun o ho hlo=>?_⟩
 rcases (mem_take_succ hk).1 ho with ho | rfl
 ·rcases h with ⟨_,h⟩ | ⟨hf,_,_,h⟩
  ·have:=h o ho; have:=hlo this.1; omega
  ·have:=h o ho hlo; have:=h2 hf; omega
 ·exact Int.le_refl _
theorem Next.skip{l:List OpT}{any found:Bool}{last next:Int}{k:Nat}(h:Next l any last k found next)(hk:k<l.length)(h1:(any=true∧l[k].Object≤last)∨(found=true∧next≤l[k].Object)):Next l any last (k+1) found next:=by
 rcases h with ⟨hf,h⟩ | ⟨hf,⟨x,hx,hxe⟩,h2,h⟩
 ·subst hf
  refine .inl ⟨rfl,fun o ho=>?_⟩
  rcases (mem_take_succ hk).1 ho with ho | rfl
  ·exact h o ho
  ·rcases h1 with h1 | h1
   ·exact h1
   ·cases h1.1
 ·refine .inr ⟨hf,⟨x,(mem_take_succ hk).2 (.inl hx),hxe⟩,h2,fun o ho hlo=>?_⟩
  rcases (mem_take_succ hk).1 ho with ho | rfl
  ·exact h o ho hlo
  ·rcases h1 with h1 | h1
   ·have:=hlo h1.1; omega
   ·exact h1.2
theorem segs_rd{W0 w:World}{F:Nat→Prop}{L:List Res}{I:List Inv}{vo:Value}{acc:List Seg}{vs:List Value}(hvs:vs.length=acc.length)(h:St W0 w F (.row vo 24 3 acc.length (segCells acc vs)::L) I)
  (hr:∀ (j:Nat) (s:Seg) (v:Value),acc[j]?=some s→vs[j]?=some v→RdS w 11 OpT.enc v s.ops) (hl:∀ s∈acc,(s.ops.length:Int)≤9223372036854775806):RdR w 3 segR vo acc:=by
 refine ⟨List.zipWith segC acc vs,by simp [hvs],?_,?_⟩
 ·intro j c x hc hx
  rw [List.getElem?_zipWith,hx] at hc
  cases hv:vs[j]? with
  | none=>rw [hv] at hc; cases hc
  | some v =>
   rw [hv] at hc
   simp only [Option.some.injEq] at hc
   subst hc
   exact ⟨rfl,v,rfl,hr j x v hx hv,hl x (List.mem_of_getElem? hx)⟩
 ·rw [segCells_flat]
  exact Rd.of_own (h.row 0 rfl)
theorem ofObj_len(x:Int)(l:List OpT):(ofObj x l).length≤l.length:=List.length_filter_le _ _
theorem ofObj_snoc(x:Int){l:List OpT}{k:Nat}(hk:k<l.length):ofObj x (l.take (k+1))=ofObj x (l.take k)++if l[k].Object=x then [l[k]] else []:=by
 rw [List.take_succ_eq_append_getElem hk]
 unfold ofObj
 rw [List.filter_append]
 by_cases h:l[k].Object=x
 ·rw [if_pos h]; simp [h]
 ·rw [if_neg h]; simp [h]
theorem Part.step{l:List OpT}{acc:List Seg}{any:Bool}{last next:Int}{x o:OpT}{r':List OpT}(h:Part l acc any last)(hx:x∈l)(hxe:x.Object=next)(hlo:any=true→last<next)(hmin:∀ o∈l,(any=true→last<o.Object)→next≤o.Object)(hs:Sorts earI (ofObj next l) (o::r')) :
  Part l (acc++[⟨next,o.Kind,o::r'⟩]) true next∧(left l true next).length<(left l any last).length:=by
 refine ⟨⟨?_,fun s hm=>?_,fun s hm=>?_,fun s hm=>?_,fun y hy=>?_⟩,?_⟩
 ·rw [List.pairwise_append]
  refine ⟨h.up,List.pairwise_singleton _ _,fun a ha b hb=>?_⟩
  simp only [List.mem_singleton] at hb; subst hb
  obtain ⟨a1,a2⟩:=h.low a ha
  have:=hlo a1
  simp only; omega
 ·rcases List.mem_append.1 hm with hm | hm
  ·exact h.sorts s hm
  ·simp only [List.mem_singleton] at hm; subst hm; exact hs
 ·rcases List.mem_append.1 hm with hm | hm
  ·exact h.kind s hm
  ·simp only [List.mem_singleton] at hm; subst hm; exact ⟨o,r',rfl,rfl⟩
 ·refine ⟨rfl,?_⟩
  rcases List.mem_append.1 hm with hm | hm
  ·obtain ⟨a1,a2⟩:=h.low s hm
   have:=hlo a1; omega
  ·simp only [List.mem_singleton] at hm; subst hm; exact Int.le_refl _
 ·rcases h.all y hy with hl | ⟨s,hm,he⟩
  ·by_cases hn:y.Object=next
   ·exact .inr ⟨_,List.mem_append_right _ (List.mem_singleton_self _),hn.symm⟩
   ·unfold left at hl ⊢
    rw [List.mem_filter] at hl ⊢
    have:=hmin y hy fun ha=>by have:=hl.2; rw [ha] at this; simpa using this
    exact .inl ⟨hy,by simp; omega⟩
  ·exact .inr ⟨s,List.mem_append_left _ hm,he⟩
 ·have hsub:(left l true next)=(left l any last).filter fun o=>decide (next<o.Object):=by
   unfold left
   rw [List.filter_filter]
   apply List.filter_congr
   intro y hy
   cases any with
   | false=>simp
   | true=>have:=hlo rfl; simp; omega
  rw [hsub]
  refine List.length_filter_lt_length_iff_exists.2 ⟨x,?_,?_⟩
  ·unfold left
   rw [List.mem_filter]
   refine ⟨hx,?_⟩
   cases any with
   | false=>rfl
   | true=>have:=hlo rfl; simp; omega
  ·simp; omega
theorem robjects_ok(v:Value)(l:List OpT)(w:World)(h:RdS w 11 OpT.enc v l)(hl:l.length≤1048576) :
  Ret Tryz.prog 16 [v] w fun u w'=>(∃ acc,ByObj l acc∧RdR w' 3 segR u acc)∧Below w.heap.size w w':=by
 obtain ⟨a,c,rfl,_⟩:=h.form
 refine ent16 _ _ _ ?_
 simp (disch:=first|omega|exact zF rfl|exact zG rfl|exact id|(simp only[zA,zB,zC,zD,bytesW];omega)) only[go_sem,c16S6,c16S7,c16S8]
 refine W_loopU (fun x:Value × Int × Bool=>[(3,x.1),(4,.int .i64 x.2.1),(5,.bool x.2.2)]) (fun x w'=>∃ acc vs,vs.length=acc.length∧acc.length+(left l x.2.2 x.2.1).length≤l.length∧St w w' (fun _=>False) [.row x.1 24 3 acc.length (segCells acc vs)] (segInvs acc vs)∧Part l acc x.2.2 x.2.1) (fun x=>(left l x.2.2 x.2.1).length) (.slice none 0 0,0,false) rfl ⟨[],[],rfl,by rw [List.length_nil,Nat.zero_add]; exact List.length_filter_le _ _,(St.start (W0:=w)).nilRow 24 3,Part.nil l 0⟩ ?_
 rintro ⟨vo,last,any⟩ w1 ⟨acc,vs,hvs,hlen,s1,hp⟩
 simp only at hlen s1 hp
 simp (disch:=first|omega|exact zF rfl|exact zG rfl|exact id|(simp only[zA,zB,zC,zD,bytesW];omega)) only[go_sem,c16S6,c16S7]
 refine W_loopU (fun x:Int × Bool × Nat=>[(6,.int .i64 x.1),(7,.bool x.2.1),(8,.int .i64 x.2.2)]) (fun x w'=>w'=w1∧x.2.2≤l.length∧Next l any last x.2.2 x.2.1 x.1) (fun x=>l.length - x.2.2) (0,false,0) rfl ⟨rfl,Nat.zero_le _,.inl ⟨rfl,fun o h=>by simp at h⟩⟩ ?_
 rintro ⟨next,found,k⟩ _ ⟨rfl,hk,hn⟩
 simp only at hk hn
 by_cases hkl:k<l.length
 ·have hkl':(k:Int)<l.length:=by omega
  obtain ⟨q,rfl⟩:=h.ptr (by omega)
  have ek:=h.eltB s1.bel OpT.len (by decide) hkl
  have ak:=l[k].at
  simp (disch:=first|omega|exact zF rfl|exact zG rfl|exact id|(simp only[zA,zB,zC,zD,bytesW];omega)) only[go_sem,c16S6,c16S7,hkl',ek,ak]
  have tk:(any=true→last<l[k].Object)→(found=true→l[k].Object<next)→k+1≤l.length∧Next l any last (k+1) true l[k].Object:=fun a b=>⟨hkl,hn.take hkl a b⟩
  have sk:((any=true∧l[k].Object≤last)∨(found=true∧next≤l[k].Object))→k+1≤l.length∧Next l any last (k+1) found next:=fun a=>⟨hkl,hn.skip hkl a⟩
  refine ⟨fun ha=>⟨by omega,fun h1=>⟨fun hf=>⟨by omega,fun h2=>⟨by omega,⟨by omega,by omega⟩,(_,_,k+1),rfl,tk (fun _=>h1) (fun _=>h2),by simp only; omega⟩,fun h2=>⟨⟨by omega,by omega⟩,(_,_,k+1),rfl,sk (.inr ⟨hf,h2⟩),by simp only; omega⟩⟩,fun hf=>⟨by omega,⟨by omega,by omega⟩,(_,_,k+1),rfl,tk (fun _=>h1) (fun h=>by rw [hf] at h; cases h),by simp only; omega⟩⟩,fun h1=>⟨⟨by omega,by omega⟩,(_,_,k+1),rfl,sk (.inl ⟨ha,h1⟩),by simp only; omega⟩⟩,fun ha=>⟨fun hf=>⟨by omega,fun h2=>⟨by omega,⟨by omega,by omega⟩,(_,_,k+1),rfl,tk (fun h=>by rw [ha] at h; cases h) (fun _=>h2),by simp only; omega⟩,fun h2=>⟨⟨by omega,by omega⟩,(_,_,k+1),rfl,sk (.inr ⟨hf,h2⟩),by simp only; omega⟩⟩,fun hf=>⟨by omega,⟨by omega,by omega⟩,(_,_,k+1),rfl,tk (fun h=>by rw [ha] at h; cases h) (fun h=>by rw [hf] at h; cases h),by simp only; omega⟩⟩⟩
 ·have hkl':¬ (k:Int)<l.length:=by omega
  simp (disch:=first|omega|exact zF rfl|exact zG rfl|exact id|(simp only[zA,zB,zC,zD,bytesW];omega)) only[go_sem,c16S6,c16S8,hkl']
  have hkk:k=l.length:=by omega
  subst hkk
  unfold Next at hn
  rw [List.take_length] at hn
  refine ⟨fun hf=>⟨⟨acc,⟨hp.up,hp.sorts,hp.kind,fun o ho=>?_⟩,segs_rd hvs s1 (fun j s v hs hv=>?_) fun s hs=>?_⟩,s1.bel⟩,fun hf=>?_⟩
  ·rcases hn with ⟨_,hn⟩ | ⟨hn,_⟩
   ·rcases hp.all o ho with h' | h'
    ·unfold left at h'
     rw [List.mem_filter] at h'
     obtain ⟨a1,a2⟩:=hn o ho
     rw [a1] at h'
     have:=h'.2
     simp at this
     omega
    ·exact h'
   ·rw [hf] at hn; cases hn
  ·exact (s1.inv _ (segInvs_mem acc vs j s v hs hv)).1
  ·have e1:=(hp.sorts s hs).1.length_eq
   have e2:=ofObj_len s.obj l
   omega
  ·rcases hn with ⟨hn,_⟩ | ⟨_,⟨x,hx,hxe⟩,hlo,hmin⟩
   ·rw [hf] at hn; cases hn
   simp (disch:=first|omega|exact zF rfl|exact zG rfl|exact id|(simp only[zA,zB,zC,zD,bytesW];omega)) only[go_sem,c16S7,c16S8]
   refine W_loopU (fun y:Value × Nat=>[(9,y.1),(10,.int .i64 y.2)]) (fun y w'=>y.2≤l.length∧St w w' (fun _=>False) [.row y.1 38 11 (ofObj next (l.take y.2)).length ((ofObj next (l.take y.2)).flatMap OpT.enc),.row vo 24 3 acc.length (segCells acc vs)] (segInvs acc vs)) (fun y=>l.length - y.2) (.slice none 0 0,0) rfl ⟨Nat.zero_le _,s1.nilRow 38 11⟩ ?_
   rintro ⟨v2,k⟩ w2 ⟨hk2,s2⟩
   simp only at hk2 s2
   by_cases hkl2:k<l.length
   ·have hkl2':(k:Int)<l.length:=by omega
    obtain ⟨q,rfl⟩:=h.ptr (by omega)
    have ek:=h.eltB s2.bel OpT.len (by decide) hkl2
    have ck:=cellsO_below s2.bel (h.at OpT.len hkl2)
    have ak:=l[k].at
    have hf1:=ofObj_len next (l.take k)
    rw [List.length_take] at hf1
    have hsn:=ofObj_snoc next hkl2
    simp (disch:=first|omega|exact zF rfl|exact zG rfl|exact id|(simp only[zA,zB,zC,zD,bytesW];omega)) only[go_sem,c16S7,c16S8,hkl2',ek,ak,ck]
    refine ⟨by omega,fun he=>⟨by omega,bsW_agg ty22mkI rfl (by decide) (by decide) ?_⟩,fun he=>⟨⟨by omega,by omega⟩,(v2,k+1),rfl,⟨hkl2,?_⟩,by simp only; omega⟩⟩
    ·have hrd:Rd (w2.alloc (.cells l[k].enc.toArray 38)) 11 (.slice (some ⟨w2.heap.size,0,none⟩) 1 1) 1 l[k].enc:=rd_new (t:=38) (sz:=11) (n:=1) (cs:=l[k].enc.toArray) rfl
     have s3:=s2.alloc' (.cells l[k].enc.toArray 38)
     generalize w2.alloc (.cells l[k].enc.toArray 38)=w3 at s3 hrd ⊢
     simp (disch:=first|omega|exact zF rfl|exact zG rfl|exact id|(simp only[zA,zB,zC,zD,bytesW];omega)) only[go_sem,c16S7,c16S8]
     refine s3.append 0 rfl ty22mkI rfl (by decide) hrd l[k].one (by omega) (by omega) ?_
     intro v4 w4 s4 _
     simp only [List.set_cons_zero] at s4
     simp (disch:=first|omega|exact zF rfl|exact zG rfl|exact id|(simp only[zA,zB,zC,zD,bytesW];omega)) only[go_sem,c16S7,c16S8]
     refine ⟨⟨by omega,by omega⟩,(v4,k+1),rfl,⟨hkl2,?_⟩,by simp only; omega⟩
     simp only
     have e2:(ofObj next (l.take k)++[l[k]]).length=(ofObj next (l.take k)).length+1:=by simp
     have e3:(ofObj next (l.take k)++[l[k]]).flatMap OpT.enc=(ofObj next (l.take k)).flatMap OpT.enc++l[k].enc:=by rw [List.flatMap_append]; simp
     rw [hsn,if_pos he,e2,e3]
     exact s4
    ·simp only
     rw [hsn,if_neg he,List.append_nil]
     exact s2
   ·have hkl2':¬ (k:Int)<l.length:=by omega
    simp (disch:=first|omega|exact zF rfl|exact zG rfl|exact id|(simp only[zA,zB,zC,zD,bytesW];omega)) only[go_sem,c16S7,c16S8,hkl2']
    have hkk:k=l.length:=by omega
    subst hkk
    rw [List.take_length] at s2
    simp (disch:=first|omega|exact zF rfl|exact zG rfl|exact id|(simp only[zA,zB,zC,zD,bytesW];omega)) only[go_sem,c16S6,c16S7,c16S8]
    refine Ret.mono (sorted_ok _ _ _ (RdS.of_own (s2.row 0 rfl)) (by have:=ofObj_len next l; omega)) ?_
    rintro v3 w3 ⟨⟨r,hs,o3⟩,b3⟩
    have s3:=(s2.sub (List.sublist_cons_self _ _)).add b3 (.row v3 38 11 r.length (r.flatMap OpT.enc)) (own_mono o3 s2.size) fun k hk=>(o3.lt k hk).1
    have hrx:r≠[]:=fun e=>by
     have hm:x∈ofObj next l:=by unfold ofObj; rw [List.mem_filter]; exact ⟨hx,by simpa using hxe⟩
     have:=hs.1.length_eq
     rw [e] at this
     rw [List.eq_nil_of_length_eq_zero this.symm] at hm
     cases hm
    obtain ⟨o,r',rfl⟩:=List.exists_cons_of_ne_nil hrx
    have hro:RdS w3 11 OpT.enc v3 (o::r'):=RdS.of_own o3
    obtain ⟨p,cp,rfl,_⟩:=hro.form
    obtain ⟨p,rfl⟩:=hro.ptr (by simp)
    have er:=hro.elt OpT.len (by decide) (show 0<(o::r').length by simp)
    have ar:=o.at
    have e3:w3.cell? ⟨p.block,p.off+3,none⟩=some (.int .i64 o.Kind):=by
     have:=er.2 3 (by decide) (by decide)
     simpa [ar] using this
    simp (disch:=first|omega|exact zF rfl|exact zG rfl|exact id|(simp only[zA,zB,zC,zD,bytesW];omega)) only[go_sem,c16S6,c16S7,c16S8,er,ar,e3]
    refine ⟨by omega,bdW_built (cells:=(segC ⟨next,o.Kind,[]⟩ (.slice (some p) (r'.length+1) cp)).toArray) (by kernel_rfl) ?_⟩
    simp (disch:=first|omega|exact zF rfl|exact zG rfl|exact id|(simp only[zA,zB,zC,zD,bytesW];omega)) only[go_sem,c16S6,c16S7,c16S8]
    refine bsW_agg ty47mkI rfl (by decide) (by decide) ?_
    have s4:=(s3.seal (.rd 11 OpT.enc (.slice (some p) (r'.length+1) cp) (o::r')) hro fun k hk=>slFoot_own hk).alloc' (.cells (segC ⟨next,o.Kind,[]⟩ (.slice (some p) (r'.length+1) cp)).toArray 24)
    have hrd:Rd (w3.alloc (.cells (segC ⟨next,o.Kind,[]⟩ (.slice (some p) (r'.length+1) cp)).toArray 24)) 3 (.slice (some ⟨w3.heap.size,0,none⟩) 1 1) 1 (segC ⟨next,o.Kind,[]⟩ (.slice (some p) (r'.length+1) cp)):=rd_new (t:=24) (sz:=3) (n:=1) (cs:=(segC ⟨next,o.Kind,[]⟩ (.slice (some p) (r'.length+1) cp)).toArray) rfl
    generalize w3.alloc (.cells (segC ⟨next,o.Kind,[]⟩ (.slice (some p) (r'.length+1) cp)).toArray 24)=w4 at s4 hrd ⊢
    simp (disch:=first|omega|exact zF rfl|exact zG rfl|exact id|(simp only[zA,zB,zC,zD,bytesW];omega)) only[go_sem,c16S6,c16S7,c16S8]
    refine s4.append 0 rfl ty47mkI rfl (by decide) hrd (by intro u hu; simp only [segC,List.mem_cons,List.not_mem_nil,or_false] at hu; rcases hu with rfl | rfl | rfl <;> rfl) (by omega) (by omega) ?_
    intro v5 w5 s5 _
    simp only [List.set_cons_zero] at s5
    simp (disch:=first|omega|exact zF rfl|exact zG rfl|exact id|(simp only[zA,zB,zC,zD,bytesW];omega)) only[go_sem,c16S6,c16S7,c16S8]
    obtain ⟨p1,p2⟩:=hp.step hx hxe hlo hmin hs
    refine ⟨(v5,next,true),rfl,⟨acc++[⟨next,o.Kind,o::r'⟩],vs++[.slice (some p) (r'.length+1) cp],by simp [hvs],by simp only; rw [List.length_append,List.length_singleton]; omega,?_,p1⟩,p2⟩
    rw [List.length_append,List.length_singleton,segCells_snoc _ _ _ _ hvs]
    refine St.inv_sub s5 fun a ha=>?_
    rcases (segInvs_snoc acc vs _ _ hvs a).1 ha with rfl | ha
    ·exact List.mem_cons_self
    ·exact List.mem_cons_of_mem _ ha
end Go.Proofs.YteiciplnfjnfjaaGreat.Cut

namespace Go.Proofs.YteiciplnfjnfjaaGreat.Cut
open Go Go.Ann Go.RowKit
theorem sorts_unique{l a b:List OpT}(hp:Pure l)(ha:Sorts earI l a)(hb:Sorts earI l b):a=b:=by
 refine List.Perm.eq_of_pairwise ?_ ha.2 hb.2 (ha.1.trans hb.1.symm)
 intro x y hx hy h1 h2
 refine hp x (ha.1.mem_iff.1 hx) y (hb.1.mem_iff.1 hy) ?_
 rw [ear_neg] at h1 h2
 omega
theorem byObj_unique{l:List OpT}(hp:Pure l):∀ {a b:List Seg},ByObj l a→ByObj l b→a=b:=by
 intro a b ha hb
 have mem:∀ {a b:List Seg},ByObj l a→ByObj l b→∀ s∈a,s∈b:=by
  intro a b ha hb s hs
  obtain ⟨o,r,e,hk⟩:=ha.kind s hs
  have ho:o∈ofObj s.obj l:=(ha.sorts s hs).1.mem_iff.1 (by rw [e]; exact List.mem_cons_self)
  unfold ofObj at ho
  rw [List.mem_filter,decide_eq_true_eq] at ho
  obtain ⟨t,ht,hto⟩:=hb.all o ho.1
  have heq:t.obj=s.obj:=hto.trans ho.2
  have hops:t.ops=s.ops:=by
   have h1:=hb.sorts t ht
   rw [heq] at h1
   refine sorts_unique (l:=ofObj s.obj l) (fun x hx y hy=>hp x ?_ y ?_) h1 (ha.sorts s hs)
   ·exact (List.mem_filter.1 hx).1
   ·exact (List.mem_filter.1 hy).1
  obtain ⟨o2,r2,e2,hk2⟩:=hb.kind t ht
  have:t=s:=by
   rw [hops,e] at e2
   cases t; cases s
   simp only at heq hops hk hk2 e2 ⊢
   simp only [List.cons.injEq] at e2
   subst heq; subst hops
   rw [hk,hk2,e2.1]
  rw [← this]; exact ht
 have nd:∀ {a:List Seg},ByObj l a→a.Nodup:=fun h=>h.up.imp fun h e=>by rw [e] at h; omega
 have hperm:a.Perm b:=(List.perm_ext_iff_of_nodup (nd ha) (nd hb)).2 fun s=>⟨mem ha hb s,mem hb ha s⟩
 exact List.Perm.eq_of_pairwise (le:=fun x y:Seg=>x.obj<y.obj) (fun x y _ _ h1 h2=>by omega) ha.up hb.up hperm
end Go.Proofs.YteiciplnfjnfjaaGreat.Cut

namespace Go.Proofs.YteiciplnfjnfjaaGreat.Cut
open Go Go.Ann Go.RowKit
theorem blk_okSt{w:World}{b:Nat}{cs:Array Value}{t:TypeId}(h:Blk w b cs t){vs:List Value}(h1:∀ u∈vs,u.oneCell'=true)(h2:vs.length≤cs.size):okSt w b 0 vs:=by
 rw [okSt_iff]
 refine ⟨h1,fun j hj=>⟨⟨cs[j]'(by omega),?_⟩,?_⟩⟩
 ·rw [h.rules.1,Nat.zero_add]; exact Array.getElem?_eq_getElem (by omega)
 ·exact h.rules.2.1 _
structure Row4 where
 kind:Int
 method:Int
 args:Int
 how:Int
def Row4.enc(r:Row4):List Value:=[.int .i64 r.kind,.int .i64 r.method,.int .i64 r.args,.int .i64 r.how]
theorem Row4.len(r:Row4):r.enc.length=4:=rfl
theorem Row4.one(r:Row4):∀ u∈r.enc,u.oneCell'=true:=by intro u hu; simp only [Row4.enc,List.mem_cons,List.not_mem_nil,or_false] at hu; rcases hu with rfl | rfl | rfl | rfl <;> rfl
theorem Row4.at(r:Row4):r.enc[0]?=some (.int .i64 r.kind)∧r.enc[1]?=some (.int .i64 r.method)∧r.enc[2]?=some (.int .i64 r.args)∧r.enc[3]?=some (.int .i64 r.how):=⟨rfl,rfl,rfl,rfl⟩
def rowsTable:List Row4:=[⟨1,1,0,2⟩,⟨1,2,1,0⟩,⟨1,3,2,1⟩,⟨2,1,0,3⟩,⟨2,4,0,0⟩,⟨2,5,0,0⟩,⟨3,6,1,0⟩,⟨3,7,0,4⟩,⟨4,8,1,0⟩,⟨4,9,0,4⟩,⟨5,10,1,1⟩,⟨5,11,1,1⟩,⟨5,12,1,1⟩,⟨6,13,0,0⟩,⟨6,14,0,0⟩]
theorem rows_ok(w:World):Ret Tryz.prog 122 [] w fun v w'=>RdS w' 4 Row4.enc v rowsTable∧Below w.heap.size w w':=by
 refine ent122 _ _ ?_
 simp (disch:=first|omega|exact zF rfl|exact zG rfl|exact id|(simp only[zA,zB,zC,zD,bytesW];omega)) only[go_sem]
 refine bdW_built (cells:=(Row4.enc ⟨1,1,0,2⟩).toArray) (by kernel_rfl) ?_
 simp (disch:=first|omega|exact zF rfl|exact zG rfl|exact id|(simp only[zA,zB,zC,zD,bytesW];omega)) only[go_sem]
 refine bdW_built (cells:=(Row4.enc ⟨1,2,1,0⟩).toArray) (by kernel_rfl) ?_
 simp (disch:=first|omega|exact zF rfl|exact zG rfl|exact id|(simp only[zA,zB,zC,zD,bytesW];omega)) only[go_sem]
 refine bdW_built (cells:=(Row4.enc ⟨1,3,2,1⟩).toArray) (by kernel_rfl) ?_
 simp (disch:=first|omega|exact zF rfl|exact zG rfl|exact id|(simp only[zA,zB,zC,zD,bytesW];omega)) only[go_sem]
 refine bdW_built (cells:=(Row4.enc ⟨2,1,0,3⟩).toArray) (by kernel_rfl) ?_
 simp (disch:=first|omega|exact zF rfl|exact zG rfl|exact id|(simp only[zA,zB,zC,zD,bytesW];omega)) only[go_sem]
 refine bdW_built (cells:=(Row4.enc ⟨2,4,0,0⟩).toArray) (by kernel_rfl) ?_
 simp (disch:=first|omega|exact zF rfl|exact zG rfl|exact id|(simp only[zA,zB,zC,zD,bytesW];omega)) only[go_sem]
 refine bdW_built (cells:=(Row4.enc ⟨2,5,0,0⟩).toArray) (by kernel_rfl) ?_
 simp (disch:=first|omega|exact zF rfl|exact zG rfl|exact id|(simp only[zA,zB,zC,zD,bytesW];omega)) only[go_sem]
 refine bdW_built (cells:=(Row4.enc ⟨3,6,1,0⟩).toArray) (by kernel_rfl) ?_
 simp (disch:=first|omega|exact zF rfl|exact zG rfl|exact id|(simp only[zA,zB,zC,zD,bytesW];omega)) only[go_sem]
 refine bdW_built (cells:=(Row4.enc ⟨3,7,0,4⟩).toArray) (by kernel_rfl) ?_
 simp (disch:=first|omega|exact zF rfl|exact zG rfl|exact id|(simp only[zA,zB,zC,zD,bytesW];omega)) only[go_sem]
 refine bdW_built (cells:=(Row4.enc ⟨4,8,1,0⟩).toArray) (by kernel_rfl) ?_
 simp (disch:=first|omega|exact zF rfl|exact zG rfl|exact id|(simp only[zA,zB,zC,zD,bytesW];omega)) only[go_sem]
 refine bdW_built (cells:=(Row4.enc ⟨4,9,0,4⟩).toArray) (by kernel_rfl) ?_
 simp (disch:=first|omega|exact zF rfl|exact zG rfl|exact id|(simp only[zA,zB,zC,zD,bytesW];omega)) only[go_sem]
 refine bdW_built (cells:=(Row4.enc ⟨5,10,1,1⟩).toArray) (by kernel_rfl) ?_
 simp (disch:=first|omega|exact zF rfl|exact zG rfl|exact id|(simp only[zA,zB,zC,zD,bytesW];omega)) only[go_sem]
 refine bdW_built (cells:=(Row4.enc ⟨5,11,1,1⟩).toArray) (by kernel_rfl) ?_
 simp (disch:=first|omega|exact zF rfl|exact zG rfl|exact id|(simp only[zA,zB,zC,zD,bytesW];omega)) only[go_sem]
 refine bdW_built (cells:=(Row4.enc ⟨5,12,1,1⟩).toArray) (by kernel_rfl) ?_
 simp (disch:=first|omega|exact zF rfl|exact zG rfl|exact id|(simp only[zA,zB,zC,zD,bytesW];omega)) only[go_sem]
 refine bdW_built (cells:=(Row4.enc ⟨6,13,0,0⟩).toArray) (by kernel_rfl) ?_
 simp (disch:=first|omega|exact zF rfl|exact zG rfl|exact id|(simp only[zA,zB,zC,zD,bytesW];omega)) only[go_sem]
 refine bdW_built (cells:=(Row4.enc ⟨6,14,0,0⟩).toArray) (by kernel_rfl) ?_
 simp (disch:=first|omega|exact zF rfl|exact zG rfl|exact id|(simp only[zA,zB,zC,zD,bytesW];omega)) only[go_sem]
 refine bsW_cells (cells:=(rowsTable.flatMap Row4.enc).toArray) ty164mkI (by decide) (by decide) (by kernel_rfl) ?_
 simp (disch:=first|omega|exact zF rfl|exact zG rfl|exact id|(simp only[zA,zB,zC,zD,bytesW];omega)) only[go_sem]
 exact ⟨rd_new (w:=w) (sz:=4) (n:=15) (cs:=(rowsTable.flatMap Row4.enc).toArray) rfl,by (repeat' (first | with_reducible exact Below.refl _ _ | with_reducible assumption | (with_reducible refine Below.drew ?_) | (with_reducible refine Below.alloc ?_ ?_ _) | (with_reducible refine Below.setCell ?_ ?_ _) | (with_reducible refine Below.fill ?_ ?_) | (with_reducible refine Below.via (by assumption) ?_ ?_) | omega | (simp only [World.size_alloc,World.size_drew,World.size_setCell,size_fill,bytesW]; omega)))⟩
theorem rising_pairwise{l:List OpT}(h:∀ j,(h:j+1<l.length)→l[j].ID<l[j+1].ID):l.Pairwise fun a b=>a.ID<b.ID:=by
 rw [List.pairwise_iff_getElem]
 intro i j hi hj hij
 induction j with
 | zero=>omega
 | succ j ih =>
  rcases Nat.lt_or_ge i j with h1 | h1
  ·exact Int.lt_trans (ih (by omega) h1) (h j hj)
  ·obtain rfl:i=j:=by omega
   exact h i hj
theorem pair_id{l:List OpT}(hp:l.Pairwise fun a b=>a.ID<b.ID):Pure l:=fun a ha b hb e=>by
 obtain ⟨i,hi,rfl⟩:=List.mem_iff_getElem.1 ha
 obtain ⟨j,hj,rfl⟩:=List.mem_iff_getElem.1 hb
 rw [List.pairwise_iff_getElem] at hp
 rcases Nat.lt_trichotomy i j with h | rfl | h
 ·have:=hp i j hi hj h; omega
 ·rfl
 ·have:=hp j i hj hi h; omega
end Go.Proofs.YteiciplnfjnfjaaGreat.Cut

namespace Go.Proofs.YteiciplnfjnfjaaGreat
open Go Go.Ann Go.RowKit
def firstP(k:Int):List Int:=if k=1∨k=2 then [0] else []
def outs(b:List OpT)(T:List Spot):List (List Int):=(T.filter fun p=>fullP b p.1).map Prod.snd
inductive AskR:List (List OpT)→List (List Int)→Int→Bool × Int × Int→Prop
 | nil {E:List (List Int)} {left:Int}:AskR [] E left (true,left,0)
 | over {b:List OpT} {bs:List (List OpT)} {E U0:List (List Int)} {left:Int} (hU:Uniq E U0) (hR:SearchR b (startP b.length U0) (min left 32768) none):AskR (b::bs) E left (true,left,35)
 | stop {b:List OpT} {bs:List (List OpT)} {E U0:List (List Int)} {left:Int} {T:List Spot} (hU:Uniq E U0) (hR:SearchR b (startP b.length U0) (min left 32768) (some T)) (hX:Uniq (outs b T) []):AskR (b::bs) E left (false,left - T.length,0)
 | go {b:List OpT} {bs:List (List OpT)} {E U0 X:List (List Int)} {left:Int} {T:List Spot} {r:Bool × Int × Int} (hU:Uniq E U0) (hR:SearchR b (startP b.length U0) (min left 32768) (some T)) (hX:Uniq (outs b T) X) (hne:X≠[]) (h:AskR bs X (left - T.length) r):AskR (b::bs) E left r
theorem AskR.one{bs:List (List OpT)}{E:List (List Int)}{left:Int}{r r':Bool × Int × Int}(h:AskR bs E left r)(k:AskR bs E left r'):r=r':=by
 induction h with
 | nil=>cases k; rfl
 | over hU hR =>
  cases k with
  | over=>rfl
  | stop hU' hR'=>cases hU.one hU'; cases hR.one hR'
  | go hU' hR'=>cases hU.one hU'; cases hR.one hR'
 | stop hU hR hX =>
  cases k with
  | over hU' hR'=>cases hU.one hU'; cases hR.one hR'
  | stop hU' hR'=>cases hU.one hU'; cases hR.one hR'; rfl
  | go hU' hR' hX' hne=>cases hU.one hU'; cases hR.one hR'; exact absurd (hX'.one hX) hne
 | go hU hR hX hne h ih =>
  cases k with
  | over hU' hR'=>cases hU.one hU'; cases hR.one hR'
  | stop hU' hR' hX'=>cases hU.one hU'; cases hR.one hR'; exact absurd (hX.one hX') hne
  | go hU' hR' hX' hne' h'=>cases hU.one hU'; cases hR.one hR'; cases hX.one hX'; exact ih h'
theorem AskR.err{bs:List (List OpT)}{E:List (List Int)}{left:Int}{r:Bool × Int × Int}(h:AskR bs E left r):r.2.2=0∨r.2.2=35∧r.1=true:=by
 induction h with
 | nil=>exact .inl rfl
 | over=>exact .inr ⟨rfl,rfl⟩
 | stop=>exact .inl rfl
 | go _ _ _ _ _ ih=>exact ih
theorem AskR.low{bs:List (List OpT)}{E:List (List Int)}{left:Int}{r:Bool × Int × Int}(h:AskR bs E left r):r.2.1≤left:=by
 induction h with
 | nil=>exact Int.le_refl _
 | over=>exact Int.le_refl _
 | stop=>simp only; omega
 | go _ _ _ _ _ ih=>omega
def segsO(ob kd:Int)(s:List OpT):List (List OpT):=(s.foldl (Cut.cutStep Cut.segQ fun _=>(ob,kd)) []).map Seg.ops
def Ask(ob kd:Int)(l:List OpT)(left:Int)(r:Bool × Int × Int):Prop:=∃ s,Cut.Sorts Cut.earI l s∧AskR (segsO ob kd s) [firstP kd] left r
theorem Ask.one{ob kd left:Int}{l:List OpT}{r r':Bool × Int × Int}(hp:Cut.Pure l)(h:Ask ob kd l left r)(k:Ask ob kd l left r'):r=r':=by
 obtain ⟨s,h1,h2⟩:=h
 obtain ⟨t,k1,k2⟩:=k
 cases Cut.sorts_unique hp h1 k1
 exact h2.one k2
theorem Ask.err{ob kd left:Int}{l:List OpT}{r:Bool × Int × Int}(h:Ask ob kd l left r):r.2.2=0∨r.2.2=35∧r.1=true:=h.choose_spec.2.err
theorem Ask.low{ob kd left:Int}{l:List OpT}{r:Bool × Int × Int}(h:Ask ob kd l left r):r.2.1≤left:=h.choose_spec.2.low
def wo(l:List OpT)(i:Int):List OpT:=l.filter fun o=>!decide (o.ID=i)
def Rise(l L:List OpT):Prop:=L.Perm l∧L.Pairwise fun a b=>a.ID<b.ID
theorem Rise.one{l L L':List OpT}(h:Rise l L)(k:Rise l L'):L=L' :=
 List.Perm.eq_of_pairwise (fun a b _ _ h1 h2=>absurd h1 (by omega)) h.2 k.2 (h.1.trans k.1.symm)
inductive RoundR(ob kd:Int):List Int→List OpT→Int→Int→List OpT × Int × Int × Int→Prop
 | nil {l:List OpT} {left n:Int}:RoundR ob kd [] l left n (l,left,n,0)
 | err {i:Int} {is:List Int} {l:List OpT} {left n m e:Int} {a:Bool} (h:Ask ob kd (wo l i) left (a,m,e)) (he:e≠0):RoundR ob kd (i::is) l left n (l,m,n+1,e)
 | out {i:Int} {is:List Int} {l:List OpT} {left n m:Int} {x:List OpT × Int × Int × Int} (h:Ask ob kd (wo l i) left (false,m,0)) (k:RoundR ob kd is (wo l i) m (n+1) x):RoundR ob kd (i::is) l left n x
 | keep {i:Int} {is:List Int} {l:List OpT} {left n m:Int} {x:List OpT × Int × Int × Int} (h:Ask ob kd (wo l i) left (true,m,0)) (k:RoundR ob kd is l m (n+1) x):RoundR ob kd (i::is) l left n x
theorem Pure.wo{l:List OpT}(h:Cut.Pure l)(i:Int):Cut.Pure (wo l i):=fun a ha b hb=>h a ((List.mem_filter.1 ha).1) b ((List.mem_filter.1 hb).1)
theorem RoundR.one{ob kd:Int}{is:List Int}{l:List OpT}{left n:Int}{x y:List OpT × Int × Int × Int}(hp:Cut.Pure l)(h:RoundR ob kd is l left n x)(k:RoundR ob kd is l left n y):x=y:=by
 induction h with
 | nil=>cases k; rfl
 | err h he =>
  cases k with
  | err h' he'=>cases Ask.one (Pure.wo hp _) h h'; rfl
  | out h'=>cases Ask.one (Pure.wo hp _) h h'; exact absurd rfl he
  | keep h'=>cases Ask.one (Pure.wo hp _) h h'; exact absurd rfl he
 | out h k ih =>
  cases k with
  | err h' he'=>cases Ask.one (Pure.wo hp _) h h'; exact absurd rfl he'
  | out h' k'=>cases Ask.one (Pure.wo hp _) h h'; exact ih (Pure.wo hp _) k'
  | keep h'=>cases Ask.one (Pure.wo hp _) h h'
 | keep h k ih =>
  cases k with
  | err h' he'=>cases Ask.one (Pure.wo hp _) h h'; exact absurd rfl he'
  | out h'=>cases Ask.one (Pure.wo hp _) h h'
  | keep h' k'=>cases Ask.one (Pure.wo hp _) h h'; exact ih hp k'
theorem RoundR.sub{ob kd:Int}{is:List Int}{l:List OpT}{left n:Int}{x:List OpT × Int × Int × Int}(h:RoundR ob kd is l left n x):x.1.Sublist l:=by
 induction h with
 | nil=>exact List.Sublist.refl _
 | err=>exact List.Sublist.refl _
 | out _ _ ih=>exact ih.trans List.filter_sublist
 | keep _ _ ih=>exact ih
inductive CoreR(ob kd:Int):List OpT→Int→Int→List OpT × Int × Int→Prop
 | err {l L l':List OpT} {left n m n' e:Int} (hL:Rise l L) (h:RoundR ob kd (L.map OpT.ID).reverse l left n (l',m,n',e)) (he:e≠0):CoreR ob kd l left n ([],0,e)
 | done {l L l':List OpT} {left n m n':Int} (hL:Rise l L) (h:RoundR ob kd (L.map OpT.ID).reverse l left n (l',m,n',0)) (he:l'.length=l.length):CoreR ob kd l left n (L,n',0)
 | more {l L l':List OpT} {left n m n':Int} {x:List OpT × Int × Int} (hL:Rise l L) (h:RoundR ob kd (L.map OpT.ID).reverse l left n (l',m,n',0)) (he:l'.length≠l.length) (k:CoreR ob kd l' m n' x):CoreR ob kd l left n x
theorem Pure.sub{l l':List OpT}(h:Cut.Pure l)(hs:l'.Sublist l):Cut.Pure l':=fun a ha b hb=>h a (hs.subset ha) b (hs.subset hb)
theorem CoreR.one{ob kd:Int}{l:List OpT}{left n:Int}{x y:List OpT × Int × Int}(hp:Cut.Pure l)(h:CoreR ob kd l left n x)(k:CoreR ob kd l left n y):x=y:=by
 induction h with
 | err hL h he =>
  cases k with
  | err hL' h' he'=>cases hL.one hL'; cases h.one hp h'; rfl
  | done hL' h'=>cases hL.one hL'; cases h.one hp h'; exact absurd rfl he
  | more hL' h'=>cases hL.one hL'; cases h.one hp h'; exact absurd rfl he
 | done hL h he =>
  cases k with
  | err hL' h' he'=>cases hL.one hL'; cases h.one hp h'; exact absurd rfl he'
  | done hL' h'=>cases hL.one hL'; cases h.one hp h'; rfl
  | more hL' h' he'=>cases hL.one hL'; cases h.one hp h'; exact absurd he he'
 | more hL h he k ih =>
  cases k with
  | err hL' h' he'=>cases hL.one hL'; cases h.one hp h'; exact absurd rfl he'
  | done hL' h' he'=>cases hL.one hL'; cases h.one hp h'; exact absurd he' he
  | more hL' h' he' k'=>cases hL.one hL'; cases h.one hp h'; exact ih (Pure.sub hp h.sub) k'
inductive ObjR(ob kd:Int)(l:List OpT)(bud:Int):Option (List OpT × Int) × Int→Prop
 | err {a:Bool} {m e:Int} (h:Ask ob kd l (min bud 32768) (a,m,e)) (he:e≠0):ObjR ob kd l bud (none,e)
 | ok {m:Int} (h:Ask ob kd l (min bud 32768) (true,m,0)):ObjR ob kd l bud (none,0)
 | fail {m e n:Int} {L:List OpT} (h:Ask ob kd l (min bud 32768) (false,m,0)) (k:CoreR ob kd l m 0 (L,n,e)) (he:e≠0):ObjR ob kd l bud (none,e)
 | core {m n:Int} {L:List OpT} (h:Ask ob kd l (min bud 32768) (false,m,0)) (k:CoreR ob kd l m 0 (L,n,0)):ObjR ob kd l bud (some (L,n),0)
theorem ObjR.one{ob kd bud:Int}{l:List OpT}{x y:Option (List OpT × Int) × Int}(hp:Cut.Pure l)(h:ObjR ob kd l bud x)(k:ObjR ob kd l bud y):x=y:=by
 cases h with
 | err h he =>
  cases k with
  | err h' he'=>cases h.one hp h'; rfl
  | ok h'=>cases h.one hp h'; exact absurd rfl he
  | fail h'=>cases h.one hp h'; exact absurd rfl he
  | core h'=>cases h.one hp h'; exact absurd rfl he
 | ok h =>
  cases k with
  | err h' he'=>cases h.one hp h'; exact absurd rfl he'
  | ok h'=>rfl
  | fail h'=>cases h.one hp h'
  | core h'=>cases h.one hp h'
 | fail h k1 he =>
  cases k with
  | err h' he'=>cases h.one hp h'; exact absurd rfl he'
  | ok h'=>cases h.one hp h'
  | fail h' k' he'=>cases h.one hp h'; cases k1.one hp k'; rfl
  | core h' k'=>cases h.one hp h'; cases k1.one hp k'; exact absurd rfl he
 | core h k1 =>
  cases k with
  | err h' he'=>cases h.one hp h'; exact absurd rfl he'
  | ok h'=>cases h.one hp h'
  | fail h' k' he'=>cases h.one hp h'; cases k1.one hp k'; exact absurd rfl he'
  | core h' k'=>cases h.one hp h'; cases k1.one hp k'; rfl
open Go Go.Ann Go.RowKit
def IsE(ob kd:Int)(l:List OpT):Prop:=∃ left m,left≤32768∧Ask ob kd l left (true,m,0)
theorem wo_len{l:List OpT}{i:Int}(h:i∈l.map OpT.ID):(wo l i).length<l.length:=by
 obtain ⟨o,ho,rfl⟩:=List.mem_map.1 h
 unfold wo
 refine List.length_filter_lt_length_iff_exists.2 ⟨o,ho,by simp⟩
theorem RoundR.all{ob kd:Int}{is:List Int}{l:List OpT}{left n:Int}{x:List OpT × Int × Int × Int}(h:RoundR ob kd is l left n x):left≤32768→x.2.2.2=0→x.1.length=l.length→(∀ i∈is,i∈l.map OpT.ID)→x.1=l∧∀ i∈is,IsE ob kd (wo l i):=by
 induction h with
 | nil=>exact fun _ _ _ _=>⟨rfl,fun i hi=>by cases hi⟩
 | err h he=>exact fun _ h2=>absurd h2 he
 | out h k ih =>
  intro h1 h2 h3 h4
  have:=k.sub.length_le
  have:=wo_len (h4 _ List.mem_cons_self)
  omega
 | keep h k ih =>
  intro h1 h2 h3 h4
  obtain ⟨h5,h6⟩:=ih (Int.le_trans h.low h1) h2 h3 fun i hi=>h4 i (List.mem_cons_of_mem _ hi)
  refine ⟨h5,fun i hi=>?_⟩
  rcases List.mem_cons.1 hi with rfl | hi
  ·exact ⟨_,_,h1,h⟩
  ·exact h6 i hi
def setR(o:OpT)(n:Int):OpT:={ o with Result:=n }
inductive MendR(ob kd:Int)(l:List OpT):List (OpT × Int)→Int→List (Int × Int)→List (Int × Int) × Int→Prop
 | nil {left:Int} {acc:List (Int × Int)}:MendR ob kd l [] left acc (acc,0)
 | same {o:OpT} {n:Int} {r:List (OpT × Int)} {left:Int} {acc:List (Int × Int)} {x:List (Int × Int) × Int} (h:n=o.Result) (k:MendR ob kd l r left acc x):MendR ob kd l ((o,n)::r) left acc x
 | no {o:OpT} {n m:Int} {r:List (OpT × Int)} {left:Int} {acc:List (Int × Int)} {x:List (Int × Int) × Int} (h:n≠o.Result) (ha:Ask ob kd (wo l o.ID++[setR o n]) left (false,m,0)) (k:MendR ob kd l r m acc x):MendR ob kd l ((o,n)::r) left acc x
 | yes {o:OpT} {n m:Int} {r:List (OpT × Int)} {left:Int} {acc:List (Int × Int)} {x:List (Int × Int) × Int} (h:n≠o.Result) (ha:Ask ob kd (wo l o.ID++[setR o n]) left (true,m,0)) (k:MendR ob kd l r m (acc++[(o.ID,n)]) x):MendR ob kd l ((o,n)::r) left acc x
 | err {o:OpT} {n m e:Int} {r:List (OpT × Int)} {left:Int} {acc:List (Int × Int)} {a:Bool} (h:n≠o.Result) (ha:Ask ob kd (wo l o.ID++[setR o n]) left (a,m,e)) (he:e≠0):MendR ob kd l ((o,n)::r) left acc ([],e)
def rawV:List OpT→Int→List Int
 | [],_=>[]
 | o::l,n=>if o.Kind=2 then o.Arg::o.Second::(n+1)::(0 - (n+1))::rawV l (n+1) else o.Arg::o.Second::rawV l n
open Go Go.Ann
def c41code:Code:=match Tryz.f41.body with | some c=>c | none=>.skip
def c41:Cmd:=(.seq (.ops [
 ⟨some 5,.move (.tmp 0),22,none⟩,
 ⟨some 6,.call ⟨.builtin .len,#[(.tmp 5)],#[22]⟩,3,none⟩,
 ⟨some 4,.assign (.tmp 6),3,none⟩] [0,1,4])
 (.ops [
 ⟨some 7,.move (.tmp 0),22,none⟩,
 ⟨some 8,.move (.tmp 4),3,none⟩,
 ⟨some 9,.move (.tmp 4),3,none⟩,
 ⟨some 10,.convert 3 116 (.tmp 9),116,none⟩,
 ⟨some 11,.call ⟨.value (.func 67),#[(.tmp 10)],#[116]⟩,3,none⟩,
 ⟨some 12,.move (.tmp 1),85,none⟩,
 ⟨some 13,.call ⟨.value (.func 66),#[(.tmp 7),(.const (.int .i64 0)),(.tmp 8),(.tmp 11),(.tmp 12)],#[22,3,3,3,85]⟩,0,none⟩] []))
attribute [go_sem] c41
theorem ent41(a0 a1:Value)(w:World)(K:Value→World→Prop)(h:W Tryz.prog c41 [(0,a0),(1,a1)] w (finQ Tryz.prog [] K)):Ret Tryz.prog 41 [a0,a1] w K :=
 Ret_of_W (code:=c41code) Tryz.func41 (by kernel_rfl) (by kernel_rfl) (of_decide_eq_true (by kernel_rfl)) h
@[go_sem] theorem go41:goFunc Tryz.prog 41=true:=by kernel_rfl
@[go_sem] theorem go67:goFunc Tryz.prog 67=true:=by kernel_rfl
@[go_sem] theorem go107:goFunc Tryz.prog 107=true:=by kernel_rfl
@[go_sem] theorem go106:goFunc Tryz.prog 106=true:=by kernel_rfl
end Go.Proofs.YteiciplnfjnfjaaGreat

namespace Go.Proofs.YteiciplnfjnfjaaGreat.Cut
open Go Go.Ann Go.RowKit
def Tells(w:World)(fv:Value)(p:OpT→Bool):Prop:=∀ x w',Below w.heap.size w w'→callW Tryz.prog fv [.agg x.enc.toArray] w' fun u w''=>u=.bool (p x)∧Below w'.heap.size w' w''
def firstI(p:OpT→Bool)(l:List OpT):Int:=match l.findIdx? p with | some i=>i | none => -1
theorem firstI_at{p:OpT→Bool}{l:List OpT}{k:Nat}(h:k<l.length)(hp:p l[k]=true)(hb:∀ j,(h:j<l.length)→j<k→p l[j]=false):firstI p l=k:=by
 unfold firstI
 rw [List.findIdx?_eq_some_iff_getElem.2 ⟨h,hp,fun j hj=>by rw [hb j (by omega) hj]; decide⟩]
theorem firstI_none{p:OpT→Bool}{l:List OpT}(hb:∀ j,(h:j<l.length)→p l[j]=false):firstI p l = -1:=by
 unfold firstI
 rw [List.findIdx?_eq_none_iff.2 fun x hx=>by obtain ⟨j,hj,rfl⟩:=List.mem_iff_getElem.1 hx; exact hb j hj]
theorem firstI_any{p:OpT→Bool}{l:List OpT}:decide (0≤firstI p l)=l.any p:=by
 rcases h:l.any p with _ | _
 ·rw [firstI_none fun j hj=>by simpa using (List.any_eq_false.1 h) _ (List.getElem_mem hj)]; decide
 ·unfold firstI
  cases e:l.findIdx? p with
  | none=>rw [List.findIdx?_eq_none_iff] at e; obtain ⟨x,hx,hp⟩:=List.any_eq_true.1 h; rw [e x hx] at hp; cases hp
  | some i=>exact decide_eq_true (by show (0:Int)≤(i:Int); omega)
theorem indexFunc_ok(fv:Value)(p:OpT→Bool)(v:Value)(l:List OpT)(w:World)(h:RdS w 11 OpT.enc v l)(hf:Tells w fv p)(hl:(l.length:Int)≤9223372036854775806) :
  Ret Tryz.prog 74 [v,fv] w fun u w'=>u=.int .i64 (firstI p l)∧Below w.heap.size w w':=by
 obtain ⟨a,c,rfl,_⟩:=h.form
 refine ent74 _ _ _ _ ?_
 simp (disch:=first|omega|exact zF rfl|exact zG rfl|exact id|(simp only[zA,zB,zC,zD,bytesW];omega)) only[go_sem]
 refine W_loopU (fun k:Nat=>[(8,.int .i64 k)]) (fun k w'=>Below w.heap.size w w'∧k≤l.length∧∀ j,(h:j<l.length)→j<k→p l[j]=false) (fun k=>l.length - k) 0 rfl ⟨Below.refl _ _,Nat.zero_le _,fun j _ h=>by omega⟩ ?_
 rintro k w1 ⟨hw,hk,he⟩
 by_cases hlt:k<l.length
 ·obtain ⟨q,rfl⟩:=h.ptr (by omega)
  have ek:=h.eltB hw OpT.len (by decide) hlt
  have ck:=cellsO_below hw (h.at OpT.len hlt)
  have hlt':(k:Int)<l.length:=by omega
  simp (disch:=first|omega|exact zF rfl|exact zG rfl|exact id|(simp only[zA,zB,zC,zD,bytesW];omega)) only[go_sem,hlt',ck,ek]
  refine ⟨by omega,callW_mono (hf _ _ hw) ?_⟩
  rintro _ w2 ⟨rfl,hb⟩
  simp (disch:=first|omega|exact zF rfl|exact zG rfl|exact id|(simp only[zA,zB,zC,zD,bytesW];omega)) only[go_sem,hlt']
  have hwt:=hw.trans (hb.mono hw.size)
  refine ⟨fun hp=>⟨(firstI_at hlt hp he).symm,hwt⟩,fun hp=>⟨⟨by omega,by omega⟩,k+1,rfl,⟨hwt,by omega,fun j h1 h2=>?_⟩,by omega⟩⟩
  rcases Nat.lt_or_ge j k with h' | h'
  ·exact he j h1 h'
  ·obtain rfl:j=k:=by omega
   exact hp
 ·have hlt':¬ (k:Int)<l.length:=by omega
  simp (disch:=first|omega|exact zF rfl|exact zG rfl|exact id|(simp only[zA,zB,zC,zD,bytesW];omega)) only[go_sem,hlt']
  exact ⟨(firstI_none fun j h=>he j h (by omega)).symm,hw⟩
theorem containsFunc_ok(fv:Value)(p:OpT→Bool)(v:Value)(l:List OpT)(w:World)(h:RdS w 11 OpT.enc v l)(hf:Tells w fv p)(hl:(l.length:Int)≤9223372036854775806) :
  Ret Tryz.prog 79 [v,fv] w fun u w'=>u=.bool (l.any p)∧Below w.heap.size w w':=by
 refine ent79 _ _ _ _ ?_
 simp (disch:=first|omega|exact zF rfl|exact zG rfl|exact id|(simp only[zA,zB,zC,zD,bytesW];omega)) only[go_sem]
 refine Ret.mono (indexFunc_ok _ p _ _ _ h hf hl) ?_
 rintro _ w1 ⟨rfl,hb⟩
 simp (disch:=first|omega|exact zF rfl|exact zG rfl|exact id|(simp only[zA,zB,zC,zD,bytesW];omega)) only[go_sem]
 exact ⟨firstI_any,hb⟩
theorem quiet1_ok(o x:OpT)(b:Nat)(w:World)(h:Blk w b o.enc.toArray 38) :
  Ret Tryz.prog 87 [.agg x.enc.toArray,.pointer (some ⟨b,0,none⟩)] w fun u w'=>u=.bool (!before x o)∧Below w.heap.size w w':=by
 refine ent87 _ _ _ _ ?_
 have hr:=(h.alloc (.cells x.enc.toArray 38)).rules
 have hlt:=h.lt
 simp (disch:=first|omega|exact zF rfl|exact zG rfl|exact id|(simp only[zA,zB,zC,zD,bytesW];omega)) only[go_sem,hr]
 refine Ret.mono (before_ok x o _) ?_
 rintro _ w1 ⟨rfl,hb⟩
 simp (disch:=first|omega|exact zF rfl|exact zG rfl|exact id|(simp only[zA,zB,zC,zD,bytesW];omega)) only[go_sem,hr]
 (repeat' (first | with_reducible exact Below.refl _ _ | with_reducible assumption | (with_reducible refine Below.drew ?_) | (with_reducible refine Below.alloc ?_ ?_ _) | (with_reducible refine Below.setCell ?_ ?_ _) | (with_reducible refine Below.fill ?_ ?_) | (with_reducible refine Below.via (by assumption) ?_ ?_) | omega | (simp only [World.size_alloc,World.size_drew,World.size_setCell,size_fill,bytesW]; omega)))
theorem quiet_ok(v:Value)(l:List OpT)(o:OpT)(w:World)(h:RdS w 11 OpT.enc v l)(hl:(l.length:Int)≤9223372036854775806) :
  Ret Tryz.prog 59 [v,.agg o.enc.toArray] w fun u w'=>u=.bool (l.all fun x=>before x o)∧Below w.heap.size w w':=by
 obtain ⟨a,c,rfl,_⟩:=h.form
 refine ent59 _ _ _ _ ?_
 simp (disch:=first|omega|exact zF rfl|exact zG rfl|exact id|(simp only[zA,zB,zC,zD,bytesW];omega)) only[go_sem]
 refine Ret.mono (containsFunc_ok _ (fun x=>!before x o) _ _ _ (h.below ((Below.refl _ _).alloc (Nat.le_refl _) _) (by decide)) ?_ hl) ?_
 ·intro x w' hb
  exact callW_go ⟨by kernel_rfl,quiet1_ok o x _ w' (Blk.new.below hb (by rw [World.size_alloc]; omega))⟩
 rintro _ w1 ⟨rfl,hb⟩
 simp (disch:=first|omega|exact zF rfl|exact zG rfl|exact id|(simp only[zA,zB,zC,zD,bytesW];omega)) only[go_sem]
 refine ⟨?_,by (repeat' (first | with_reducible exact Below.refl _ _ | with_reducible assumption | (with_reducible refine Below.drew ?_) | (with_reducible refine Below.alloc ?_ ?_ _) | (with_reducible refine Below.setCell ?_ ?_ _) | (with_reducible refine Below.fill ?_ ?_) | (with_reducible refine Below.via (by assumption) ?_ ?_) | omega | (simp only [World.size_alloc,World.size_drew,World.size_setCell,size_fill,bytesW]; omega)))⟩
 rw [List.not_all_eq_any_not]
theorem isNaN_ok(a:Int)(w:World):Ret Tryz.prog 68 [.int .i64 a] w fun u w'=>u=.bool false∧w'=w:=by
 refine ent68 _ _ _ ?_
 simp (disch:=first|omega|exact zF rfl|exact zG rfl|exact id|(simp only[zA,zB,zC,zD,bytesW];omega)) only[go_sem]
theorem compare_ok(a b:Int)(w:World):Ret Tryz.prog 43 [.int .i64 a,.int .i64 b] w fun u w'=>u=.int .i64 (cmpI a b)∧w'=w:=by
 refine ent43 _ _ _ _ ?_
 simp (disch:=first|omega|exact zF rfl|exact zG rfl|exact id|(simp only[zA,zB,zC,zD,bytesW];omega)) only[go_sem]
 refine Ret.mono (isNaN_ok _ _) ?_
 rintro _ _ ⟨rfl,rfl⟩
 simp (disch:=first|omega|exact zF rfl|exact zG rfl|exact id|(simp only[zA,zB,zC,zD,bytesW];omega)) only[go_sem]
 refine Ret.mono (isNaN_ok _ _) ?_
 rintro _ _ ⟨rfl,rfl⟩
 simp (disch:=first|omega|exact zF rfl|exact zG rfl|exact id|(simp only[zA,zB,zC,zD,bytesW];omega)) only[go_sem]
 unfold cmpI
 refine ⟨fun h=>by rw [if_pos h],fun h=>⟨fun h2=>by rw [if_neg (by omega),if_pos h2],fun h2=>by rw [if_neg (by omega),if_neg (by omega)]⟩⟩
theorem clone_ok(v:Value)(l:List OpT)(w:World)(h:RdS w 11 OpT.enc v l)(hl:l.length≤100) :
  Ret Tryz.prog 40 [v] w fun u w'=>w'.ownsRow w.heap.size 38 11 u l.length (l.flatMap OpT.enc)∧Below w.heap.size w w':=by
 obtain ⟨a,c,rfl,_⟩:=h.form
 refine ent40 _ _ _ ?_
 simp (disch:=first|omega|exact zF rfl|exact zG rfl|exact id|(simp only[zA,zB,zC,zD,bytesW];omega)) only[go_sem]
 have hSt:=(St.start (W0:=w)).emptyRow 38 11
 refine ⟨fun ha=>?_,fun ha=>bsW_none ty22mkI ?_⟩
 ·cases a with
  | some a=>cases ha
  | none =>
   have h0:l=[]:=by
    cases l with
    | nil=>rfl
    | cons x l=>obtain ⟨p,hp⟩:=h.ptr (by simp); cases hp
   subst h0
   exact ⟨⟨rfl,.inl ⟨rfl,rfl⟩⟩,Below.refl _ _⟩
 simp (disch:=first|omega|exact zF rfl|exact zG rfl|exact id|(simp only[zA,zB,zC,zD,bytesW];omega)) only[go_sem]
 refine hSt.append 0 rfl ty22mkI rfl (by decide) (h.below hSt.bel (by decide)) (OpT.ones l) (by omega) (by omega) ?_
 intro v2 w2 s2 _
 have e2:=s2.row 0 rfl
 rw [Nat.zero_add,List.nil_append] at e2
 simp (disch:=first|omega|exact zF rfl|exact zG rfl|exact id|(simp only[zA,zB,zC,zD,bytesW];omega)) only[go_sem]
 exact ⟨e2,s2.bel⟩
theorem find_at{α:Type}{p:α→Bool}:∀ {l:List α} {k:Nat} (h:k<l.length),p l[k]=true→(∀ j,(h:j<l.length)→j<k→p l[j]=false)→l.find? p=some l[k]
 | a::l,0,h,hp,_=>by rw [List.find?_cons_of_pos (by exact hp)]; rfl
 | a::l,k+1,h,hp,hb=>by
  rw [List.find?_cons_of_neg (by have:=hb 0 (by simp) (by omega); exact Bool.eq_false_iff.1 this)]
  exact find_at (l:=l) (k:=k) (by simpa using h) hp fun j h1 h2=>hb (j+1) (by simpa using h1) (by omega)
theorem or_ok(v:Value)(l:List Int)(w:World)(h:RdS w 1 (fun n=>[.int .i64 n]) v l)(hl:(l.length:Int)≤9223372036854775806) :
  Ret Tryz.prog 55 [v] w fun u w'=>u=.int .i64 ((l.find? (·≠0)).getD 0)∧w'=w:=by
 obtain ⟨a,c,rfl,_⟩:=h.form
 refine ent55 _ _ _ ?_
 simp (disch:=first|omega|exact zF rfl|exact zG rfl|exact id|(simp only[zA,zB,zC,zD,bytesW];omega)) only[go_sem]
 refine W_loopU (fun k:Nat=>[(8,.int .i64 k)]) (fun k w'=>w'=w∧k≤l.length∧∀ j,(h:j<l.length)→j<k→l[j]=0) (fun k=>l.length - k) 0 rfl ⟨rfl,Nat.zero_le _,fun j _ h=>by omega⟩ ?_
 rintro k _ ⟨rfl,hk,he⟩
 by_cases hlt:k<l.length
 ·obtain ⟨q,rfl⟩:=h.ptr (by omega)
  have ck:=h.at1 (e1:=fun n=>.int .i64 n) hlt
  have hlt':(k:Int)<l.length:=by omega
  simp (disch:=first|omega|exact zF rfl|exact zG rfl|exact id|(simp only[zA,zB,zC,zD,bytesW];omega)) only[go_sem,hlt',ck]
  refine ⟨by omega,fun hne=>?_,fun h0=>⟨⟨by omega,by omega⟩,k+1,rfl,⟨by omega,fun j h1 h2=>?_⟩,by omega⟩⟩
  ·rw [find_at hlt (by simpa using hne) fun j h h2=>by simpa using he j h h2]; rfl
  ·rcases Nat.lt_or_ge j k with h' | h'
   ·exact he j h1 h'
   ·obtain rfl:j=k:=by omega
    exact h0
 ·have hlt':¬ (k:Int)<l.length:=by omega
  simp (disch:=first|omega|exact zF rfl|exact zG rfl|exact id|(simp only[zA,zB,zC,zD,bytesW];omega)) only[go_sem,hlt']
  rw [List.find?_eq_none.2 fun x hx=>by obtain ⟨j,hj,rfl⟩:=List.mem_iff_getElem.1 hx; simpa using he j hj (by omega)]
  rfl
end Go.Proofs.YteiciplnfjnfjaaGreat.Cut

namespace Go.Proofs.YteiciplnfjnfjaaGreat.Cut
open Go Go.Ann Go.RowKit
def Gr(w w':World):Prop:=∃ q os,w'=Go.Sort.grow (w.drewN q) os
theorem Gr.refl(w:World):Gr w w:=⟨0,#[],by rw [Go.Sort.grow_empty]; rfl⟩
theorem Gr.alloc{w w':World}(h:Gr w w')(o:Obj):Gr w (w'.alloc o):=by
 obtain ⟨q,os,rfl⟩:=h
 exact ⟨q,os++#[o],by rw [Go.Sort.alloc_eq_grow,Go.Sort.grow_grow]⟩
theorem Gr.drew{w w':World}(h:Gr w w'):Gr w w'.drew:=by
 obtain ⟨q,os,rfl⟩:=h
 exact ⟨q+1,os,rfl⟩
theorem Gr.trans{a b c:World}(h:Gr a b)(k:Gr b c):Gr a c:=by
 obtain ⟨q,os,rfl⟩:=h
 obtain ⟨r,ps,rfl⟩:=k
 exact ⟨q+r,os++ps,by rw [← Go.Sort.grow_grow]; show Go.Sort.grow (Go.Sort.grow ((a.drewN q).drewN r) os) ps=_; rw [World.drewN_drewN]⟩
theorem Gr.below{w w':World}(h:Gr w w'):Below w.heap.size w w':=by
 obtain ⟨q,os,rfl⟩:=h
 refine ⟨rfl,rfl,rfl,?_,fun k hk=>?_⟩
 ·show w.heap.size≤(w.heap++os).size
  rw [Array.size_append]; omega
 ·show (w.heap++os)[k]?=_
  rw [Array.getElem?_append_left hk]
theorem ints2_new{w:World}{b:Nat}{t:TypeId}(x y:Int)(hb:b=w.heap.size):RdS (w.alloc (.cells #[.int .i64 x,.int .i64 y] t)) 1 (fun n=>[.int .i64 n]) (.slice (some ⟨b,0,none⟩) 2 2) [x,y]:=by
 subst hb
 exact rd_new (n:=2) (cs:=#[.int .i64 x,.int .i64 y]) rfl
theorem earlier_ok(a b:OpT)(w:World):Ret Tryz.prog 56 [.agg a.enc.toArray,.agg b.enc.toArray] w fun u w'=>u=.int .i64 (earI a b)∧Gr w w':=by
 refine ent56 _ _ _ _ ?_
 have ha:=a.at; have hb:=b.at
 simp (disch:=first|omega|exact zF rfl|exact zG rfl|exact id|(simp only[zA,zB,zC,zD,bytesW];omega)) only[go_sem,ha,hb]
 refine c56draw0 (Chg (fun _=>False) _) (Chg.refl _ _) ?_
 simp (disch:=first|omega|exact zF rfl|exact zG rfl|exact id|(simp only[zA,zB,zC,zD,bytesW];omega)) only[go_sem,c56D0,ha,hb]
 refine Ret.mono (compare_ok _ _ _) ?_
 rintro _ _ ⟨rfl,rfl⟩
 simp (disch:=first|omega|exact zF rfl|exact zG rfl|exact id|(simp only[zA,zB,zC,zD,bytesW];omega)) only[go_sem,c56D0,ha,hb]
 refine Ret.mono (compare_ok _ _ _) ?_
 rintro _ _ ⟨rfl,rfl⟩
 simp (disch:=first|omega|exact zF rfl|exact zG rfl|exact id|(simp only[zA,zB,zC,zD,bytesW];omega)) only[go_sem,c56D0,ha,hb]
 refine bsW_ones ty66mkI rfl rfl (by decide) (by decide) (by intro v hv; simp only [List.mem_cons,List.not_mem_nil,or_false] at hv; rcases hv with rfl | rfl <;> rfl) ?_
 simp (disch:=first|omega|exact zF rfl|exact zG rfl|exact id|(simp only[zA,zB,zC,zD,bytesW];omega)) only[go_sem,c56D0,ha,hb]
 refine ⟨chg_da,Ret.mono (or_ok _ [cmpI a.Invoke b.Invoke,cmpI a.ID b.ID] _ ((ints2_new _ _ (by simp)).below (Below.refl _ _).drew (by decide)) (by simp)) ?_⟩
 rintro _ _ ⟨rfl,rfl⟩
 simp (disch:=first|omega|exact zF rfl|exact zG rfl|exact id|(simp only[zA,zB,zC,zD,bytesW];omega)) only[go_sem,c56D0,ha,hb]
 exact ⟨chg_da,rfl,(((((Gr.refl w).alloc _).alloc _)).alloc _).drew⟩
end Go.Proofs.YteiciplnfjnfjaaGreat.Cut

namespace Go.Proofs.YteiciplnfjnfjaaGreat.Cut
open Go Go.Ann Go.RowKit
theorem sortnil1(fv:Value)(w:World):Ret Tryz.prog 98 [.slice none 0 0,.int .i64 0,.int .i64 0,fv] w fun u w'=>w'=w:=by
 refine ent98 _ _ _ _ _ _ ?_
 simp (disch:=first|omega|exact zF rfl|exact zG rfl|exact id|(simp only[zA,zB,zC,zD,bytesW];omega)) only[go_sem]
 refine ⟨⟨by decide,by decide⟩,?_⟩
 refine W_loopU (fun _:Unit=>[]) (fun _ w'=>w'=w) (fun _=>0) () rfl rfl ?_
 rintro _ _ rfl
 simp (disch:=first|omega|exact zF rfl|exact zG rfl|exact id|(simp only[zA,zB,zC,zD,bytesW];omega)) only[go_sem]
theorem sortnil2(fv:Value)(l:Int)(w:World):Ret Tryz.prog 66 [.slice none 0 0,.int .i64 0,.int .i64 0,.int .i64 l,fv] w fun u w'=>w'=w:=by
 refine ent66 _ _ _ _ _ _ _ ?_
 simp (disch:=first|omega|exact zF rfl|exact zG rfl|exact id|(simp only[zA,zB,zC,zD,bytesW];omega)) only[go_sem]
 refine W_loopU (fun _:Unit=>[]) (fun _ w'=>w'=w) (fun _=>0) () rfl rfl ?_
 rintro _ _ rfl
 simp (disch:=first|omega|exact zF rfl|exact zG rfl|exact id|(simp only[zA,zB,zC,zD,bytesW];omega)) only[go_sem]
 refine ⟨⟨by decide,by decide⟩,Ret.mono (sortnil1 _ _) ?_⟩
 rintro _ _ rfl
 simp (disch:=first|omega|exact zF rfl|exact zG rfl|exact id|(simp only[zA,zB,zC,zD,bytesW];omega)) only[go_sem]
theorem sortnil(fv:Value)(w:World):Ret Tryz.prog 41 [.slice none 0 0,fv] w fun u w'=>w'=w:=by
 refine ent41 _ _ _ _ ?_
 simp (disch:=first|omega|exact zF rfl|exact zG rfl|exact id|(simp only[zA,zB,zC,zD,bytesW];omega)) only[go_sem]
 have hb:=Any.bits_Len (SlLaysF0.n15.bits (P:=Tryz.prog) (ρ:=laySortOps_ren) { laySortOps with }) 0 w (by omega) (by omega)
 have hb':Ret Tryz.prog 67 [.int .u64 (IntKind.u64.wrap 0)] w fun u w'=>u=.int .i64 (Lib.bitLen 0:Nat)∧w'=w:=hb.mono fun e w' ⟨h1,h2⟩=>⟨_,h1,rfl,h2⟩
 refine Ret.mono hb' ?_
 rintro _ _ ⟨rfl,rfl⟩
 simp (disch:=first|omega|exact zF rfl|exact zG rfl|exact id|(simp only[zA,zB,zC,zD,bytesW];omega)) only[go_sem]
 refine Ret.mono (sortnil2 _ _ _) ?_
 rintro _ _ rfl
 simp (disch:=first|omega|exact zF rfl|exact zG rfl|exact id|(simp only[zA,zB,zC,zD,bytesW];omega)) only[go_sem]
theorem flatK_eq{α:Type}[Inhabited α]{enc:α→List Value}{k:Nat}(hk:∀ x,(enc x).length=k)(d:Array α):(Go.Sort.flatK enc k d).toList=d.toList.flatMap enc:=by
 have hl:(d.toList.flatMap enc).length=d.size * k:=by
  rw [List.length_flatMap,← Array.length_toList]
  generalize d.toList=l
  induction l with
  | nil=>simp
  | cons a l ih=>rw [List.map_cons,List.sum_cons,ih,hk,List.length_cons,Nat.add_mul]; omega
 refine List.ext_getElem (by rw [hl,Array.length_toList,Go.Sort.size_flatK]) fun t h1 h2=>?_
 have ht:t<d.size * k:=by omega
 have hk0:0<k:=Nat.pos_of_ne_zero fun h=>by subst h; omega
 have hi:t / k<d.size:=(Nat.div_lt_iff_lt_mul hk0).2 ht
 have hj:t % k<k:=Nat.mod_lt _ hk0
 have a:=Go.Sort.get_flatK enc k d t ht
 rw [getElem!_pos d _ hi,getElem!_pos (enc _) _ (by rw [hk]; exact hj),getElem!_pos _ _ (by rw [Go.Sort.size_flatK]; exact ht)] at a
 rw [Array.getElem_toList,a]
 have b:=flatten_at (sz:=k) (d.toList.map enc) (t / k) (t % k) (enc d[t / k]) ((enc d[t / k])[t % k]'(by rw [hk]; exact hj)) (fun c hc=>by obtain ⟨x,_,rfl⟩:=List.mem_map.1 hc; exact hk x) (by rw [List.getElem?_map,List.getElem?_eq_getElem (by simpa using hi)]; rfl) (List.getElem?_eq_getElem _)
 rw [show t / k * k+t % k=t by rw [Nat.mul_comm]; exact Nat.div_add_mod t k] at b
 have c:(d.toList.flatMap enc)[t]?=some ((enc d[t / k])[t % k]'(by rw [hk]; exact hj)):=b
 rw [List.getElem?_eq_getElem h2] at c
 exact (Option.some.inj c).symm
theorem own_holdsK{α:Type}[Inhabited α]{enc:α→List Value}{k B e g n cap:Nat}{w:World}{d:Array α}(hk:∀ x,(enc x).length=k)(hd:d.size=n)(h:w.ownsRow B e k (.slice (some ⟨g,0,none⟩) n cap) n (d.toList.flatMap enc)) :
  Go.Sort.HoldsK enc k w g 0 d:=by
 obtain ⟨hl,⟨h0,_⟩ | ⟨g',cap',cur,he,hB,hb,hc,hm,hs,hx⟩⟩:=h
 ·cases h0
 cases he
 have hblk:Blk w g cur e:=hb
 intro j hj
 rw [Go.Sort.size_flatK] at hj
 have hj':j<(Go.Sort.flatK enc k d).size:=by rw [Go.Sort.size_flatK]; exact hj
 refine ⟨?_,hblk.frozen _⟩
 rw [hblk.cell,Nat.zero_add,getElem!_pos (Go.Sort.flatK enc k d) j hj']
 have e1:=flatK_eq hk d
 rw [← hx] at e1
 have e2:(Go.Sort.flatK enc k d).toList[j]?=(cur.toList.take (n * k))[j]?:=by rw [e1]
 rw [List.getElem?_take_of_lt (by rw [← hd]; exact hj),Array.getElem?_toList,Array.getElem?_toList,Array.getElem?_eq_getElem hj'] at e2
 exact e2.symm
theorem own_sorted{α:Type}[Inhabited α]{enc:α→List Value}{k B e g n cap:Nat}{w:World}{d:Array α}(hk:∀ x,(enc x).length=k)(hd:d.size=n)(h:w.ownsRow B e k (.slice (some ⟨g,0,none⟩) n cap) n (d.toList.flatMap enc))
  (m:Nat) (d':Array α) (os:Array Obj) (hd':d'.size=n):(sortWorldK enc k w g 0 m d' os).ownsRow B e k (.slice (some ⟨g,0,none⟩) n cap) n (d'.toList.flatMap enc)∧Chg (fun k=>k=g) w (sortWorldK enc k w g 0 m d' os):=by
 obtain ⟨hl,⟨h0,_⟩ | ⟨g',cap',cur,he,hB,hb,hc,hm,hs,hx⟩⟩:=h
 ·cases h0
 cases he
 have hg:g<w.heap.size:=(Array.getElem?_eq_some_iff.1 hb).1
 have hh:(sortWorldK enc k w g 0 m d' os).heap=w.heap.modify g (Go.Sort.onCells (Go.Sort.putCells id 0 (Go.Sort.flatK enc k d')))++os:=rfl
 have hgb:(sortWorldK enc k w g 0 m d' os).heap[g]?=some (.cells (Go.Sort.putCells id 0 (Go.Sort.flatK enc k d') cur) e (0,0)):=by
  rw [hh,Array.getElem?_append_left (by rw [Array.size_modify]; exact hg),Array.getElem?_modify,if_pos rfl,hb]
  rfl
 have e1:=flatK_eq hk d'
 have hle:n * k≤cap * k:=Nat.mul_le_mul_right _ hc
 refine ⟨⟨by rw [← e1,Array.length_toList,Go.Sort.size_flatK,hd'],.inr ⟨g,cap,_,rfl,hB,hgb,hc,hm,by unfold Go.Sort.putCells; rw [Array.size_mapIdx]; exact hs,?_⟩⟩,rfl,rfl,rfl,?_,fun j hj hne=>?_⟩
 ·rw [← e1]
  refine List.ext_getElem (by simp only [Go.Sort.putCells,List.length_take,Array.length_toList,Array.size_mapIdx,Go.Sort.size_flatK,hs,hd']; omega) fun t h1 h2=>?_
  rw [Array.length_toList,Go.Sort.size_flatK,hd'] at h2
  rw [List.getElem_take,Array.getElem_toList,Array.getElem_toList]
  unfold Go.Sort.putCells
  rw [Array.getElem_mapIdx,if_pos ⟨Nat.zero_le _,by rw [Go.Sort.size_flatK,hd']; omega⟩,Nat.sub_zero,getElem!_pos (Go.Sort.flatK enc k d') t (by rw [Go.Sort.size_flatK,hd']; exact h2)]
  rfl
 ·rw [hh,Array.size_append,Array.size_modify]; omega
 ·rw [hh,Array.getElem?_append_left (by rw [Array.size_modify]; exact hj),Array.getElem?_modify,if_neg (fun e=>hne e.symm)]
theorem sort_ok(cf:OpT→OpT→Int)(g:Nat)(eg:∀ args w,(callFunc g args).run Tryz.prog w=.ok (.enter g args) w)(hO:Go.Sort.SWO (ltOf cf))(hf:∀ a b w,Ret Tryz.prog g [.agg a.enc.toArray,.agg b.enc.toArray] w fun u w'=>u=.int .i64 (cf a b)∧Gr w w')
  (v:Value) (l:List OpT) (w:World) (B:Nat) (h:w.ownsRow B 38 11 v l.length (l.flatMap OpT.enc)) (hl:l.length≤100) :
  Ret Tryz.prog 41 [v,.func (.func g) #[] #[]] w fun _ w'=>∃ l',Sorts cf l l'∧w'.ownsRow B 38 11 v l.length (l'.flatMap OpT.enc)∧Chg (fun k=>v.ownBlock=some k) w w':=by
 obtain ⟨hlen,⟨rfl,h0⟩ | ⟨g',cap,cur,rfl,hB,hb,hc,hm,hs,hx⟩⟩:=id h
 ·refine Ret.mono (sortnil _ _) ?_
  rintro _ _ rfl
  have hl0:l=[]:=List.eq_nil_of_length_eq_zero h0
  subst hl0
  exact ⟨[],⟨List.Perm.refl _,List.Pairwise.nil⟩,h,Chg.refl _ _⟩
 have hcl:CmpLays Tryz.prog g #[] OpT.enc 11 cf g' 0 l.toArray.size w:=fun m os dk hdk x y=>by
  have e:=hf x y (sortWorldK OpT.enc 11 w g' 0 m dk os)
  unfold Ret at e
  rw [Array.append_empty]
  exact e.mono fun e w' ⟨u,h1,h2,h3⟩=>⟨by rw [h1,h2],h3⟩
 have hH:Go.Sort.HoldsK OpT.enc 11 w g' 0 l.toArray:=own_holdsK OpT.len (by simp) h
 have hs:=AnyQ.slices_SortFunc laySortOps 11 Tryz.isAgg38 Tryz.sizeOf38 OpT.enc OpT.len OpT.one cf hO g #[] g' 0 cap l.toArray w eg hcl hH (Array.getElem?_eq_some_iff.1 hb).1 (by simp; omega)
 refine hs.mono ?_
 rintro e w' ⟨rfl,d',n,os,hp,hs,rfl⟩
 have hsz:d'.size=l.length:=hp.1
 obtain ⟨o1,o2⟩:=own_sorted OpT.len (by simp) (show w.ownsRow B 38 11 (.slice (some ⟨g',0,none⟩) l.length cap) l.length (l.toArray.toList.flatMap OpT.enc) from h) n d' os hsz
 refine ⟨_,rfl,d'.toList,⟨?_,?_⟩,o1,o2.mono fun k _ e=>by rw [e]; rfl⟩
 ·have:=hp.2.2
  simp only [List.size_toArray] at this
  rw [Array.extract_eq_self_of_le (by omega),Array.extract_eq_self_of_le (by simp)] at this
  exact this
 ·rw [List.pairwise_iff_getElem]
  intro i j hi hj hij
  have:=hs i j (Nat.zero_le _) hij (by simpa [hsz] using hj)
  rw [getElem!_pos d' i (by simpa using hi),getElem!_pos d' j (by simpa using hj)] at this
  simpa [ltOf] using this
end Go.Proofs.YteiciplnfjnfjaaGreat.Cut

namespace Go.Proofs.YteiciplnfjnfjaaGreat.Cut
open Go Go.Ann Go.RowKit
theorem swo_ear:Go.Sort.SWO (ltOf earI) where
 irrefl x:=by rw [lt_ear]; exact decide_eq_false (by omega)
 trans x y z h1 h2:=by rw [lt_ear,decide_eq_true_eq] at *; omega
 ntrans x y z h1 h2:=by rw [lt_ear,decide_eq_false_iff_not] at *; omega
def Cuts(W0 w:World)(more:List Res)(I0:List Inv)(vo:Value)(acc:List Seg):Prop :=
 (acc=[]∧vo=.slice none 0 0∧St W0 w (fun _=>False) more I0) ∨
 ∃ ini s vs vl,acc=ini++[s]∧vs.length=ini.length∧(∀ v∈vs,∀ k,slFoot v k→W0.heap.size≤k)∧St W0 w (fun _=>False) (.row vl 38 11 s.ops.length (s.ops.flatMap OpT.enc)::.row vo 24 3 (ini.length+1) (segCells ini vs++segC s vl)::more) (segInvs ini vs++I0)
theorem Cuts.form{W0 w:World}{more:List Res}{I0:List Inv}{vo:Value}{acc:List Seg}(h:Cuts W0 w more I0 vo acc):∃ a c,vo=.slice a acc.length c:=by
 rcases h with ⟨rfl,rfl,_⟩ | ⟨ini,s,vs,vl,rfl,_,_,h⟩
 ·exact ⟨_,_,rfl⟩
 ·obtain ⟨a,c,rfl,_⟩:=own_slice (h.row 1 rfl)
  exact ⟨a,c,by rw [List.length_append]; rfl⟩
theorem Cuts.bel{W0 w:World}{more:List Res}{I0:List Inv}{vo:Value}{acc:List Seg}(h:Cuts W0 w more I0 vo acc):Below W0.heap.size W0 w:=by
 rcases h with ⟨_,_,h⟩ | ⟨_,_,_,_,_,_,_,h⟩ <;> exact h.bel
theorem Cuts.call{W0 w w':World}{more:List Res}{I0:List Inv}{vo:Value}{acc:List Seg}(h:Cuts W0 w more I0 vo acc)(hb:Below w.heap.size w w'):Cuts W0 w' more I0 vo acc:=by
 rcases h with ⟨h1,h2,h⟩ | ⟨ini,s,vs,vl,h1,h2,hN,h⟩
 ·exact .inl ⟨h1,h2,h.call hb⟩
 ·exact .inr ⟨ini,s,vs,vl,h1,h2,hN,h.call hb⟩
theorem Cuts.base{W0 w:World}{more:List Res}{I0:List Inv}{vo:Value}{acc:List Seg}(h:Cuts W0 w more I0 vo acc):St W0 w (fun _=>False) more I0:=by
 rcases h with ⟨_,_,h⟩ | ⟨_,_,_,_,_,_,_,h⟩
 ·exact h
 ·exact (h.sub ((List.sublist_cons_self _ _).trans (List.sublist_cons_self _ _))).inv_sub fun a ha=>List.mem_append_right _ ha
theorem Cuts.box{W0 w:World}{more:List Res}{I0:List Inv}{vo:Value}{acc:List Seg}(h:Cuts W0 w more I0 vo acc)(cs:Array Value)(t:TypeId):Cuts W0 (w.alloc (.cells cs t)) (.blk w.heap.size cs t::more) I0 vo acc:=by
 rcases h with ⟨h1,h2,h⟩ | ⟨ini,s,vs,vl,h1,h2,hN,h⟩
 ·exact .inl ⟨h1,h2,h.box cs t⟩
 ·exact .inr ⟨ini,s,vs,vl,h1,h2,hN,(h.box cs t).perm (((List.Perm.swap _ _ _).cons _).trans (List.Perm.swap _ _ _))⟩
theorem Cuts.grow{W0 w:World}{more:List Res}{I0:List Inv}{vo x:Value}{acc:List Seg}(h:Cuts W0 w more I0 vo acc)(obj kind:Int)(hn:acc.length≤100)(hx:Rd w 3 x 1 (segC ⟨obj,kind,[]⟩ (.slice none 0 0))){K:Value→World→Prop}{cs:Array Bool}{ty:Nat}
  (hK:∀ v' w',Cuts W0 w' more I0 v' (acc++[⟨obj,kind,[]⟩])→K v' w'):rawB Tryz.prog .append #[47,47] ty cs [vo,x] w K:=by
 rcases h with ⟨rfl,rfl,h⟩ | ⟨ini,s,vs,vl,rfl,hl,hN,h⟩
 ·have s1:=h.nilRow 24 3
  refine s1.append 0 rfl ty47mkI rfl (by decide) hx (by intro u hu; simp only [segC,List.mem_cons,List.not_mem_nil,or_false] at hu; rcases hu with rfl | rfl | rfl <;> rfl) (by omega) (by omega) ?_
  intro v' w' s2 _
  simp only [List.set_cons_zero] at s2
  exact hK _ _ (.inr ⟨[],_,[],.slice none 0 0,rfl,rfl,(fun v hv=>by cases hv),s2.nilRow 38 11⟩)
 ·rw [List.length_append,List.length_singleton] at hn
  have s1:=h.seal (.rd 11 OpT.enc vl s.ops) (RdS.of_own (h.row 0 rfl)) fun k hk=>slFoot_own hk
  refine s1.append 0 rfl ty47mkI rfl (by decide) hx (by intro u hu; simp only [segC,List.mem_cons,List.not_mem_nil,or_false] at hu; rcases hu with rfl | rfl | rfl <;> rfl) (by omega) (by omega) ?_
  intro v' w' s2 _
  simp only [List.set_cons_zero] at s2
  have s3:=(s2.nilRow 38 11).inv_sub (I':=segInvs (ini++[s]) (vs++[vl])++I0) fun a ha=>by
   rcases List.mem_append.1 ha with ha | ha
   ·rcases (segInvs_snoc ini vs s vl hl a).1 ha with rfl | ha
    ·exact List.mem_cons_self
    ·exact List.mem_cons_of_mem _ (List.mem_append_left _ ha)
   ·exact List.mem_cons_of_mem _ (List.mem_append_right _ ha)
  rw [← segCells_snoc ini vs s vl hl] at s3
  refine hK _ _ (.inr ⟨ini++[s],_,vs++[vl],.slice none 0 0,rfl,by simp [hl],?_,?_⟩)
  ·intro v hv k hk
   rcases List.mem_append.1 hv with hv | hv
   ·exact hN v hv k hk
   ·rw [List.mem_singleton] at hv; subst hv
    exact ((h.row 0 rfl).lt k (slFoot_own hk)).1
  rw [List.length_append,List.length_singleton]
  exact s3
theorem Cuts.out{W0 w:World}{more:List Res}{I0:List Inv}{vo:Value}{acc:List Seg}(h:Cuts W0 w more I0 vo acc)(hs:∀ s∈acc,(s.ops.length:Int)≤9223372036854775806)(w2:World)(hw2:∀ k,W0.heap.size≤k→k<w.heap.size→w2.heap[k]?=w.heap[k]?):RdR w2 3 segR vo acc:=by
 rcases h with ⟨rfl,rfl,_⟩ | ⟨ini,s,vs,vl,rfl,hl,hN,h⟩
 ·exact RdR.nil
 refine ⟨List.zipWith segC (ini++[s]) (vs++[vl]),by simp [hl],?_,?_⟩
 ·intro i c x hc hx
  rw [List.getElem?_zipWith,hx] at hc
  cases hv:(vs++[vl])[i]? with
  | none=>rw [hv] at hc; cases hc
  | some v =>
   rw [hv] at hc
   simp only [Option.some.injEq] at hc
   subst hc
   refine ⟨rfl,v,rfl,?_,hs x (List.mem_of_getElem? hx)⟩
   rcases Nat.lt_or_ge i ini.length with hi | hi
   ·rw [List.getElem?_append_left hi] at hx
    rw [List.getElem?_append_left (by omega)] at hv
    have hi2:=h.inv _ (List.mem_append_left _ (segInvs_mem ini vs i x v hx hv))
    exact RdS.loc hi2.1 fun k hk=>hw2 k (hN v (List.mem_of_getElem? hv) k hk) (hi2.2 k hk).1
   ·rw [List.getElem?_append_right hi] at hx
    rw [List.getElem?_append_right (by omega),hl] at hv
    have hz:i - ini.length=0:=by
     have:=(List.getElem?_eq_some_iff.1 hx).1
     simp only [List.length_singleton] at this; omega
    rw [hz] at hx hv
    simp only [List.getElem?_cons_zero,Option.some.injEq] at hx hv
    subst hx; subst hv
    exact RdS.loc (RdS.of_own (h.row 0 rfl)) fun k hk=>hw2 k ((h.row 0 rfl).lt k (slFoot_own hk)).1 ((h.row 0 rfl).lt k (slFoot_own hk)).2
 ·rw [segCells_flat,segCells_snoc ini vs s vl hl,List.length_append,List.length_singleton]
  exact Rd.loc (Rd.of_own (h.row 1 rfl)) fun k hk=>hw2 k ((h.row 1 rfl).lt k (slFoot_own hk)).1 ((h.row 1 rfl).lt k (slFoot_own hk)).2
theorem own_mono{w:World}{B B' e sz n:Nat}{v:Value}{xs:List Value}(h:w.ownsRow B e sz v n xs)(hb:B'≤B):w.ownsRow B' e sz v n xs:=by
 obtain ⟨h1,h2 | ⟨g,cap,cur,h3,h4,h5⟩⟩:=h
 ·exact ⟨h1,.inl h2⟩
 ·exact ⟨h1,.inr ⟨g,cap,cur,h3,by omega,h5⟩⟩
theorem push16{W0 w:World}{more:List Res}{I0:List Inv}{vo:Value}{ini:List Seg}{s:Seg}{Q:Post}(o:OpT)(b:Nat)(v1 v13 v14 v15:Value)(h:Cuts W0 w (.blk b o.enc.toArray 38::more) I0 vo (ini++[s]))(hn:ini.length≤100)(hs:s.ops.length≤100)
  (hQ:∀ w',Cuts W0 w' more I0 vo (ini++[⟨s.obj,s.kind,s.ops++[o]⟩])→Q .normal [(1,v1),(4,vo),(13,v13),(14,v14),(15,v15)] w') :
  W Tryz.prog (c36S2 ()) [(1,v1),(4,vo),(6,.pointer (some ⟨b,0,none⟩)),(7,.int .i64 ini.length),(13,v13),(14,v14),(15,v15)] w Q:=by
 rcases h with ⟨h,_⟩ | ⟨ini',s',vs,vl,he,hl,hN,h⟩
 ·simp at h
 obtain ⟨rfl,rfl⟩:ini=ini'∧s=s':=by
  have:=List.append_inj' he rfl
  exact ⟨this.1,by simpa using this.2⟩
 obtain ⟨a,c,rfl,_⟩:=own_slice (h.row 1 rfl)
 obtain ⟨g,rfl⟩:∃ g,a=some ⟨g,0,none⟩:=by
  obtain ⟨_,⟨_,h0⟩ | ⟨g,cap,cur,e,_⟩⟩:=h.row 1 rfl
  ·omega
  ·cases e; exact ⟨g,rfl⟩
 have hrow:=(h.row 1 rfl)
 have hlen:=segCells_length ini vs hl
 have hc0:w.cell? ⟨g,ini.length * 3+2,none⟩=some vl:=by
  have:=hrow.cells rfl (ini.length * 3+2) vl (by rw [List.getElem?_append_right (by omega),hlen,show ini.length * 3+2 - ini.length * 3=2 by omega]; rfl)
  simpa [Addr.add] using this
 have hgl:=hrow.lt g rfl
 have hne:vl.ownBlock≠some g:=h.ne 1 0 rfl rfl (by decide) rfl
 obtain ⟨av,cv,rfl,_⟩:=own_slice (h.row 0 rfl)
 have ho:=h.blk 2 rfl
 have hbl:=ho.lt
 have hor:=ho.rules
 simp (disch:=first|omega|exact zF rfl|exact zG rfl|exact id|(simp only[zA,zB,zC,zD,bytesW];omega)) only[go_sem,c36S1,c36S2]
 refine c36draw1 (Chg (fun k=>(Value.slice av s.ops.length cv).ownBlock=some k) _) (Chg.refl _ _) ?_
 simp (disch:=first|omega|exact zF rfl|exact zG rfl|exact id|(simp only[zA,zB,zC,zD,bytesW];omega)) only[go_sem,c36S1,c36S2,c36D1,hc0,hor]
 refine ⟨⟨by omega,by omega⟩,bsW_agg ty22mkI rfl (by decide) (by decide) ?_⟩
 have h2:St W0 (w.alloc (.cells o.enc.toArray 38)).drew _ _ _:=(h.alloc' (.cells o.enc.toArray 38)).drew
 have hrd:Rd (w.alloc (.cells o.enc.toArray 38)).drew 11 (.slice (some ⟨w.heap.size,0,none⟩) 1 1) 1 o.enc:=rd_new (w:=w.drew) (t:=38) (sz:=11) (n:=1) (cs:=o.enc.toArray) rfl
 simp (disch:=first|omega|exact zF rfl|exact zG rfl|exact id|(simp only[zA,zB,zC,zD,bytesW];omega)) only[go_sem,c36S1,c36S2,c36D1,hc0,hor]
 refine ⟨chg_da,h2.append 0 rfl ty22mkI rfl (by decide) hrd o.one (by omega) (by omega) ?_⟩
 intro v3 w3 s3 c3
 simp only [List.set_cons_zero] at s3
 obtain ⟨a3,c3',rfl,_⟩:=own_slice (s3.row 0 rfl)
 have s3':=s3.row 1 rfl
 simp (disch:=first|omega|exact zF rfl|exact zG rfl|exact id|(simp only[zA,zB,zC,zD,bytesW];omega)) only[go_sem,c36S1,c36S2,c36D1,hc0,hor]
 have hc3:w3.cell? ⟨g,ini.length * 3+2,none⟩=some (.slice av s.ops.length cv):=by
  have:=s3'.cells rfl (ini.length * 3+2) (.slice av s.ops.length cv) (by rw [List.getElem?_append_right (by omega),hlen,show ini.length * 3+2 - ini.length * 3=2 by omega]; rfl)
  simpa [Addr.add] using this
 have hf3:w3.frozen? ⟨g,ini.length * 3+2,none⟩=false:=by
  obtain ⟨_,⟨h0,_⟩ | ⟨g',cap,cur,e,_,hb,_⟩⟩:=s3'
  ·cases h0
  ·cases e; exact Blk.frozen (show Blk w3 g cur _ from hb) _
 refine ⟨⟨by omega,by omega⟩,⟨_,hc3⟩,hf3,hQ _ (.inr ⟨ini,_,vs,.slice a3 (s.ops.length+1) c3',rfl,hl,hN,?_⟩)⟩
 have s4:=(s3.put 1 rfl (ini.length * 3+2) (.slice a3 (s.ops.length+1) c3')).sub (((List.sublist_cons_self _ _).cons_cons _).cons_cons _)
 rw [List.set_append_right _ _ (by omega),hlen,show ini.length * 3+2 - ini.length * 3=2 by omega] at s4
 have e1:(s.ops++[o]).flatMap OpT.enc=s.ops.flatMap OpT.enc++o.enc:=by rw [List.flatMap_append]; simp
 have e2:(s.ops++[o]).length=s.ops.length+1:=by simp
 show St W0 _ _ (.row _ _ 11 (s.ops++[o]).length ((s.ops++[o]).flatMap OpT.enc)::_) _
 rw [e1,e2]
 exact s4
theorem segments_ok(obj kind:Int)(v:Value)(l:List OpT)(w:World)(h:RdS w 11 OpT.enc v l)(hl:l.length≤100) :
  Ret Tryz.prog 36 [.agg #[.int .i64 obj,.int .i64 kind,v]] w fun u w'=>(∃ l',Sorts earI l l'∧∀ w2:World,(∀ k,w.heap.size≤k→k<w'.heap.size→w2.heap[k]?=w'.heap[k]?)→RdR w2 3 segR u (l'.foldl (cutStep (fun s o=>s.ops.all fun x=>before x o) fun _=>(obj,kind)) []))∧Below w.heap.size w w':=by
 obtain ⟨a,c,rfl,_⟩:=h.form
 refine ent36 _ _ _ ?_
 simp (disch:=first|omega|exact zF rfl|exact zG rfl|exact id|(simp only[zA,zB,zC,zD,bytesW];omega)) only[go_sem,c36S1,c36S2]
 have s1:=(St.start (W0:=w)).box #[.int .i64 obj,.int .i64 kind,.slice a l.length c] 24
 have h1:=h.below s1.bel (by decide)
 generalize w.alloc (.cells #[.int .i64 obj,.int .i64 kind,.slice a l.length c] 24)=w1 at s1 h1 ⊢
 refine Ret.mono (clone_ok _ _ _ h1 hl) ?_
 rintro vl w2 ⟨o2,b2⟩
 have s2:=s1.add b2 (.row vl 38 11 l.length (l.flatMap OpT.enc)) (own_mono o2 s1.size) fun k hk=>(o2.lt k hk).1
 simp (disch:=first|omega|exact zF rfl|exact zG rfl|exact id|(simp only[zA,zB,zC,zD,bytesW];omega)) only[go_sem,c36S1,c36S2]
 refine Ret.mono (sort_ok earI _ (enters_of Tryz.func56 (by kernel_rfl) rfl) swo_ear earlier_ok vl l w2 _ (s2.row 0 rfl) hl) ?_
 rintro _ w3 ⟨l',hs,o3,c3⟩
 have s3:=s2.upd 0 rfl c3 (.row vl 38 11 l.length (l'.flatMap OpT.enc)) o3 fun k hk=>.inl hk
 have hll:l'.length=l.length:=hs.1.length_eq
 simp only [List.set_cons_zero] at s3
 have s4:=s3.seal (.rd 11 OpT.enc vl l') (RdS.of_own' (s3.row 0 rfl) l' hll.symm rfl) fun k hk=>slFoot_own hk
 obtain ⟨al,cl,rfl,_⟩:=own_slice o3
 simp (disch:=first|omega|exact zF rfl|exact zG rfl|exact id|(simp only[zA,zB,zC,zD,bytesW];omega)) only[go_sem,c36S1,c36S2]
 refine W_loopU (fun x:Nat × Value=>[(4,x.2),(15,.int .i64 x.1)]) (fun x w'=>x.1≤l'.length∧Cuts w w' [.blk w.heap.size #[.int .i64 obj,.int .i64 kind,.slice a l.length c] 24] [.rd 11 OpT.enc (.slice al l.length cl) l'] x.2 ((l'.take x.1).foldl (cutStep (fun s o=>s.ops.all fun x=>before x o) fun _=>(obj,kind)) [])) (fun x=>l'.length - x.1) (0,.slice none 0 0) rfl ⟨Nat.zero_le _,.inl ⟨rfl,rfl,s4⟩⟩ ?_
 rintro ⟨k,vo⟩ w4 ⟨hk,hc⟩
 simp only at hk hc
 generalize ha:(l'.take k).foldl (cutStep (fun s o=>s.ops.all fun x=>before x o) fun _=>(obj,kind)) []=acc at hc
 obtain ⟨ao,co,rfl⟩:=hc.form
 by_cases hlt:k<l'.length
 ·have hlt':(k:Int)<l.length:=by omega
  have hstep:(l'.take (k+1)).foldl (cutStep (fun s o=>s.ops.all fun x=>before x o) fun _=>(obj,kind)) []=cutStep (fun s o=>s.ops.all fun x=>before x o) (fun _=>(obj,kind)) acc l'[k]:=by
   rw [List.take_succ_eq_append_getElem hlt,List.foldl_append,ha]; rfl
  have s5:St w w4 (fun _=>False) [.blk w.heap.size #[.int .i64 obj,.int .i64 kind,.slice a l.length c] 24] [.rd 11 OpT.enc (.slice al l.length cl) l']:=hc.base
  have r5:=s5.rules 0 rfl
  have g5:=s5.get 0 rfl
  have g5':RdS w4 11 OpT.enc (.slice al l.length cl) l':=g5
  obtain ⟨pl,rfl⟩:=RdS.ptr (by rw [← hll] at g5'; exact g5') (by omega)
  have el:=g5'.at OpT.len hlt
  simp (disch:=first|omega|exact zF rfl|exact zG rfl|exact id|(simp only[zA,zB,zC,zD,bytesW];omega)) only[go_sem,hlt',r5,el]
  have hflat:=cut_flat (fun s o=>s.ops.all fun x=>before x o) (fun _=>(obj,kind)) (l'.take k) []
  have hne:=cut_ne (fun s o=>s.ops.all fun x=>before x o) (fun _=>(obj,kind)) (l'.take k) [] (fun s h=>by cases h)
  rw [ha] at hflat hne
  simp only [List.flatMap_nil,List.nil_append] at hflat
  have hlen:=segs_len acc hne
  have hfl:(acc.flatMap Seg.ops).length=k:=by rw [hflat,List.length_take]; omega
  refine ⟨by omega,rfl,⟨by omega,by omega⟩,?_⟩
  have hc6:=hc.box l'[k].enc.toArray 38
  have hw6:=hc6.base.size
  have r6:=hc6.base.rules 1 rfl
  have ho:=hc6.base.blk 0 rfl
  generalize w4.heap.size=bo at hc6 ho ⊢
  generalize w4.alloc (.cells l'[k].enc.toArray 38)=w6 at hc6 ho r6 hw6 ⊢
  have ro:=ho.rules
  have hw7:=ho.lt
  rcases List.eq_nil_or_concat acc with rfl | ⟨ini,s,hacc⟩
  ·refine c36draw0 (Chg (fun _=>False) _) (Chg.refl _ _) ?_
   simp (disch:=first|omega|exact zF rfl|exact zG rfl|exact id|(simp only[zA,zB,zC,zD,bytesW];omega)) only[go_sem,c36S1,c36D0,r6]
   refine bdW_built (cells:=(segC ⟨obj,kind,[]⟩ (.slice none 0 0)).toArray) (by kernel_rfl) ?_
   simp (disch:=first|omega|exact zF rfl|exact zG rfl|exact id|(simp only[zA,zB,zC,zD,bytesW];omega)) only[go_sem,c36S1]
   refine bsW_agg ty47mkI rfl (by decide) (by decide) ?_
   simp (disch:=first|omega|exact zF rfl|exact zG rfl|exact id|(simp only[zA,zB,zC,zD,bytesW];omega)) only[go_sem,c36S1]
   have hrd:Rd (w6.alloc (.cells (segC ⟨obj,kind,[]⟩ (.slice none 0 0)).toArray 24)).drew 3 (.slice (some ⟨w6.heap.size,0,none⟩) 1 1) 1 (segC ⟨obj,kind,[]⟩ (.slice none 0 0)):=rd_new (w:=w6.drew) (t:=24) (sz:=3) (n:=1) (cs:=(segC ⟨obj,kind,[]⟩ (.slice none 0 0)).toArray) rfl
   refine (hc6.call (w':=(w6.alloc (.cells (segC ⟨obj,kind,[]⟩ (.slice none 0 0)).toArray 24)).drew) ((Below.refl _ w6).alloc (Nat.le_refl _) _).drew).grow obj kind (by simp) hrd ?_
   intro v8 w8 c8
   simp (disch:=first|omega|exact zF rfl|exact zG rfl|exact id|(simp only[zA,zB,zC,zD,bytesW];omega)) only[go_sem,c36S1]
   refine ⟨⟨by decide,by decide⟩,push16 (ini:=[]) l'[k] bo _ _ _ _ c8 (by simp) (by simp) ?_⟩
   intro w9 c9
   simp (disch:=first|omega|exact zF rfl|exact zG rfl|exact id|(simp only[zA,zB,zC,zD,bytesW];omega)) only[go_sem,c36S1,c36S2]
   refine ⟨⟨by omega,by omega⟩,(k+1,_),rfl,⟨by simp only; omega,?_⟩,by simp only; omega⟩
   simp only
   rw [hstep,cutStep_nil]
   exact c9
  ·rw [List.concat_eq_append] at hacc
   subst hacc
   rcases id hc6 with ⟨h0,_⟩ | ⟨ini',s',vs,vl,he,hvl,hN6,s6⟩
   ·simp at h0
   obtain ⟨rfl,rfl⟩:ini=ini'∧s=s':=by
    have:=List.append_inj' he rfl
    exact ⟨this.1,by simpa using this.2⟩
   have hnz:((ini++[s]).length:Int) - 1=ini.length:=by simp
   rw [hnz]
   rw [List.length_append,List.length_singleton] at hc6 s6 ⊢
   obtain ⟨g,rfl⟩:∃ g,ao=some ⟨g,0,none⟩:=by
    obtain ⟨_,⟨_,h0⟩ | ⟨g,cap,cur,e,_⟩⟩:=s6.row 1 rfl
    ·omega
    ·cases e; exact ⟨g,rfl⟩
   have hrow:=s6.row 1 rfl
   have hsl:=segCells_length ini vs hvl
   have hc0:w6.cell? ⟨g,ini.length * 3+2,none⟩=some vl:=by
    have:=hrow.cells rfl (ini.length * 3+2) vl (by rw [List.getElem?_append_right (by omega),hsl,show ini.length * 3+2 - ini.length * 3=2 by omega]; rfl)
    simpa [Addr.add] using this
   have hgl:=hrow.lt g rfl
   have hil:=s6.row 0 rfl
   obtain ⟨av,cv,rfl,_⟩:=own_slice (s6.row 0 rfl)
   refine c36draw0 (Chg (fun _=>False) _) (Chg.refl _ _) ?_
   simp (disch:=first|omega|exact zF rfl|exact zG rfl|exact id|(simp only[zA,zB,zC,zD,bytesW];omega)) only[go_sem,c36S1,c36D0,r6,ro,hc0]
   have hsl':=seg_len (ini++[s]) s (by simp)
   refine ⟨fun _=>⟨⟨by omega,by omega⟩,Ret.mono (quiet_ok _ s.ops l'[k] _ (RdS.of_own (hil.drew)) (by omega)) ?_⟩,fun h=>by omega⟩
   rintro _ w8 ⟨rfl,b8⟩
   have hc8:Cuts w w8 _ _ _ (ini++[s]):=(hc6.call ((Below.refl _ w6).drew)).call b8
   have r8:=hc8.base.rules 1 rfl
   simp (disch:=first|omega|exact zF rfl|exact zG rfl|exact id|(simp only[zA,zB,zC,zD,bytesW];omega)) only[go_sem,c36S1,c36D0,r6,ro,hc0,r8]
   refine ⟨fun hq=>?_,fun hq=>?_⟩
   ·refine bdW_built (cells:=(segC ⟨obj,kind,[]⟩ (.slice none 0 0)).toArray) (by kernel_rfl) ?_
    simp (disch:=first|omega|exact zF rfl|exact zG rfl|exact id|(simp only[zA,zB,zC,zD,bytesW];omega)) only[go_sem,c36S1]
    refine bsW_agg ty47mkI rfl (by decide) (by decide) ?_
    simp (disch:=first|omega|exact zF rfl|exact zG rfl|exact id|(simp only[zA,zB,zC,zD,bytesW];omega)) only[go_sem,c36S1]
    have hrd:Rd (w8.alloc (.cells (segC ⟨obj,kind,[]⟩ (.slice none 0 0)).toArray 24)) 3 (.slice (some ⟨w8.heap.size,0,none⟩) 1 1) 1 (segC ⟨obj,kind,[]⟩ (.slice none 0 0)):=rd_new (t:=24) (sz:=3) (n:=1) (cs:=(segC ⟨obj,kind,[]⟩ (.slice none 0 0)).toArray) rfl
    refine (hc8.call (w':=w8.alloc (.cells (segC ⟨obj,kind,[]⟩ (.slice none 0 0)).toArray 24)) ((Below.refl _ w8).alloc (Nat.le_refl _) _)).grow obj kind (by simp; omega) hrd ?_
    intro v9 w9 c9
    simp (disch:=first|omega|exact zF rfl|exact zG rfl|exact id|(simp only[zA,zB,zC,zD,bytesW];omega)) only[go_sem,c36S1]
    refine ⟨⟨by omega,by omega⟩,?_⟩
    rw [show (ini.length:Int)+1=((ini++[s]).length:Nat) by simp]
    refine push16 (ini:=ini++[s]) l'[k] bo _ _ _ _ c9 (by simp; omega) (by simp) ?_
    intro w10 c10
    simp (disch:=first|omega|exact zF rfl|exact zG rfl|exact id|(simp only[zA,zB,zC,zD,bytesW];omega)) only[go_sem,c36S1,c36S2]
    refine ⟨⟨by omega,by omega⟩,(k+1,_),rfl,⟨by simp only; omega,?_⟩,by simp only; omega⟩
    simp only
    rw [hstep,cutStep_new _ _ hq]
    exact c10
   ·refine push16 l'[k] bo _ _ _ _ hc8 (by omega) (by omega) ?_
    intro w9 c9
    simp (disch:=first|omega|exact zF rfl|exact zG rfl|exact id|(simp only[zA,zB,zC,zD,bytesW];omega)) only[go_sem,c36S1,c36S2]
    refine ⟨⟨by omega,by omega⟩,(k+1,_),rfl,⟨by simp only; omega,?_⟩,by simp only; omega⟩
    simp only
    rw [hstep,cutStep_old _ _ hq]
    exact c9
 ·have hlt':¬ (k:Int)<l.length:=by omega
  simp (disch:=first|omega|exact zF rfl|exact zG rfl|exact id|(simp only[zA,zB,zC,zD,bytesW];omega)) only[go_sem,c36S1,c36S2,hlt']
  have hkl:k=l'.length:=by omega
  subst hkl
  rw [List.take_length] at ha
  subst ha
  have hflat:=cut_flat (fun s o=>s.ops.all fun x=>before x o) (fun _=>(obj,kind)) l' []
  refine ⟨⟨l',hs,hc.out fun s hs=>?_⟩,hc.bel⟩
  have h1:=seg_len _ s hs
  rw [hflat] at h1
  simp only [List.flatMap_nil,List.nil_append] at h1
  omega
end Go.Proofs.YteiciplnfjnfjaaGreat.Cut

end
