/- Texts put together by program. -/
import Derived.Test.YtoadmihnihfjkaaGreatQD3
set_option linter.unusedSimpArgs false
set_option linter.unusedVariables false
set_option maxRecDepth 100000
noncomputable section

namespace Go.Proofs.YtoadmihnihfjkaaGreat
open Go Go.Ann Go.RowKit
structure RowS(w:World)(v:Value)(D:List VS):Prop where
 row:Rd w 1 v D.length (D.map Prod.fst)
 rd:∀ p∈D,RdS w 1 intE p.1 p.2
def RowS.foot(v:Value)(D:List VS)(k:Nat):Prop:=slFoot v k∨∃ p∈D,slFoot p.1 k
theorem RowS.loc{w w':World}{v:Value}{D:List VS}(h:RowS w v D)(hk:∀ k,RowS.foot v D k→w'.heap[k]?=w.heap[k]?):RowS w' v D :=
 ⟨Rd.loc h.row fun k hf=>hk k (.inl hf),fun p hp=>RdS.loc (h.rd p hp) fun k hf=>hk k (.inr ⟨p,hp,hf⟩)⟩
theorem RowS.below{w w':World}{v:Value}{D:List VS}(h:RowS w v D)(hb:Below w.heap.size w w'):RowS w' v D :=
 ⟨Rd.below h.row hb (by decide),fun p hp=>(h.rd p hp).below hb (by decide)⟩
theorem RowS.form{w:World}{v:Value}{D:List VS}(h:RowS w v D):∃ a c,v=.slice a D.length c∧D.length≤c:=by
 obtain ⟨_,a,c,e,hc,_⟩:=h.row
 exact ⟨a,c,e,hc⟩
theorem RowS.ptr{w:World}{a:Option Addr}{n c:Nat}{D:List VS}(h:RowS w (.slice a n c) D)(h0:0<D.length):∃ p,a=some p:=by
 obtain ⟨_,a',c',e,_,hp⟩:=h.row
 cases e
 obtain ⟨p,hp,_⟩:=hp (by omega)
 exact ⟨p,hp⟩
theorem RowS.at{w:World}{p:Addr}{n c:Nat}{D:List VS}(h:RowS w (.slice (some p) n c) D){k:Nat}(hk:k<D.length):w.cell? (p.add k)=some D[k].1:=by
 obtain ⟨_,a',c',e,_,hp⟩:=h.row
 cases e
 obtain ⟨q,hq,hc⟩:=hp (by omega)
 cases hq
 exact hc k _ (by simp [hk])
open Go Go.Ann Go.RowKit
theorem offA_zero{a:Option Addr}{c sz:Nat}:offA a c 0 sz=a:=by
 unfold offA
 rw [Nat.zero_mul]
 split
 ·rfl
 ·cases a with
  | none=>rfl
  | some a=>exact congrArg some (by unfold Addr.add; rfl)
theorem rd_take{w:World}{sz n k cap:Nat}{a:Option Addr}{xs:List Value}(h:Rd w sz (.slice a n cap) n xs)(hk:k≤n):Rd w sz (.slice (offA a cap 0 sz) k cap) k (xs.take (k * sz)):=by
 rw [offA_zero]; exact h.take hk
theorem rd_drop{w:World}{sz n k cap:Nat}{a:Option Addr}{xs:List Value}(h:Rd w sz (.slice a n cap) n xs)(hk:k≤n):Rd w sz (.slice (offA a cap k sz) (n - k) (cap - k)) (n - k) (xs.drop (k * sz)):=by
 obtain ⟨h1,a',cap',he,h2,h3⟩:=h
 simp only [Value.slice.injEq,true_and] at he
 obtain ⟨rfl,rfl⟩:=he
 refine ⟨by rw [List.length_drop,h1,Nat.sub_mul],_,_,rfl,by omega,fun h=>?_⟩
 obtain ⟨ad,rfl,h4⟩:=h3 (by omega)
 refine ⟨ad.add (k * sz),by unfold offA; rw [if_neg (by omega)]; rfl,fun j u hu=>?_⟩
 rw [add_add]
 rw [List.getElem?_drop] at hu
 exact h4 _ u hu
open Go Go.Ann Go.RowKit
theorem ints_ok(va vb:Value)(a b:List Int)(w:World)(ha:RdS w 1 intE va a)(hb:RdS w 1 intE vb b)(hl:a.length≤1000000) :
  Ret Tryz.prog 16 [va,vb] w fun u w'=>u=.bool (decide (a=b))∧Below w.heap.size w w':=by
 obtain ⟨pa,ca,rfl,_⟩:=ha.form
 obtain ⟨pb,cb,rfl,_⟩:=hb.form
 refine ent16 _ _ _ _ ?_
 simp (disch:=first|omega|exact zF rfl|exact zG rfl|exact fun h=>h|(simp only[zA,zB,zC,zD,bytesW];omega)) only[go_sem]
 refine ⟨fun hne=>⟨?_,Below.refl _ _⟩,fun heq=>?_⟩
 ·rw [decide_eq_false (fun e=>hne (by rw [e]))]
 have hlen:a.length=b.length:=by omega
 refine W_loopU (fun k:Nat=>[(5,.int .i64 k)]) (fun k w'=>Below w.heap.size w w'∧k≤a.length∧a.take k=b.take k) (fun k=>a.length - k) 0 rfl ⟨Below.refl _ _,Nat.zero_le _,rfl⟩ ?_
 rintro k w2 ⟨g2,hk,he⟩
 by_cases hlt:k<a.length
 ·have hlt':(k:Int)<a.length:=by omega
  obtain ⟨p,rfl⟩:=ha.ptr (by omega)
  obtain ⟨q,rfl⟩:=hb.ptr (by omega)
  have ea:=RdS.int (ha.below g2 (by decide)) hlt
  have eb:=RdS.int (hb.below g2 (by decide)) (show k<b.length by omega)
  simp (disch:=first|omega|exact zF rfl|exact zG rfl|exact fun h=>h|(simp only[zA,zB,zC,zD,bytesW];omega)) only[go_sem,hlt']
  refine c16draw0 ?_
  simp (disch:=first|omega|exact zF rfl|exact zG rfl|exact fun h=>h|(simp only[zA,zB,zC,zD,bytesW];omega)) only[go_sem,c16D0,ea,eb]
  have gd:Below w.heap.size w w2.drew:=Below.next g2 (Below.refl _ w2).drew
  have hkb:k<b.length:=by omega
  refine ⟨⟨by omega,by omega⟩,⟨by omega,by omega⟩,fun e=>⟨?_,gd⟩,fun e=>⟨⟨by omega,by omega⟩,k+1,rfl,⟨gd,by omega,?_⟩,by omega⟩⟩
  ·rw [decide_eq_false (fun h=>e (by subst h; rfl))]
  ·rw [List.take_succ_eq_append_getElem hlt,List.take_succ_eq_append_getElem hkb,he,e]
 ·have hlt':¬ (k:Int)<a.length:=by omega
  simp (disch:=first|omega|exact zF rfl|exact zG rfl|exact fun h=>h|(simp only[zA,zB,zC,zD,bytesW];omega)) only[go_sem,hlt']
  rw [List.take_of_length_le (by omega),List.take_of_length_le (by omega)] at he
  exact ⟨by rw [decide_eq_true he],g2⟩
open Go Go.Ann Go.RowKit
structure OpT where
 ID:Int
 Proc:Int
 Object:Int
 Kind:Int
 Method:Int
 Arg:Int
 Second:Int
 Done:Bool
 Result:Int
 Invoke:Int
 Return:Int
deriving DecidableEq
def OpT.enc(a:OpT):List Value:=[.int .i64 a.ID,.int .i64 a.Proc,.int .i64 a.Object,.int .i64 a.Kind,.int .i64 a.Method,.int .i64 a.Arg,.int .i64 a.Second,.bool a.Done,.int .i64 a.Result,.int .i64 a.Invoke,.int .i64 a.Return]
def OpT.wf(a:OpT):Prop:=kOk .i64 a.ID∧kOk .i64 a.Proc∧kOk .i64 a.Object∧kOk .i64 a.Kind∧kOk .i64 a.Method∧kOk .i64 a.Arg∧kOk .i64 a.Second∧kOk .i64 a.Result∧kOk .i64 a.Invoke∧kOk .i64 a.Return
theorem OpT.len(a:OpT):a.enc.length=11:=rfl
theorem OpT.one(a:OpT):∀ u∈a.enc,u.oneCell'=true:=by intro u hu; simp only [OpT.enc,List.mem_cons,List.not_mem_nil,or_false] at hu; rcases hu with rfl | rfl | rfl | rfl | rfl | rfl | rfl | rfl | rfl | rfl | rfl <;> rfl
theorem OpT.at(a:OpT):a.enc[0]?=some (.int .i64 a.ID)∧a.enc[1]?=some (.int .i64 a.Proc)∧a.enc[2]?=some (.int .i64 a.Object)∧a.enc[3]?=some (.int .i64 a.Kind)∧a.enc[4]?=some (.int .i64 a.Method)∧a.enc[5]?=some (.int .i64 a.Arg)∧a.enc[6]?=some (.int .i64 a.Second)∧a.enc[7]?=some (.bool a.Done)∧a.enc[8]?=some (.int .i64 a.Result)∧a.enc[9]?=some (.int .i64 a.Invoke)∧a.enc[10]?=some (.int .i64 a.Return):=⟨rfl,rfl,rfl,rfl,rfl,rfl,rfl,rfl,rfl,rfl,rfl⟩
theorem opens_OpT:Opens Tryz.prog 52 (fun _ (a:OpT) cs=>cs=a.enc∧a.wf):=by
 intro H enc w base sp hd fuel cs x hx
 obtain ⟨hl,hf⟩:=opens_fields Tryz.underlying52 hx
 rw [show Tryz.prog.cellsOf 52=11 by kernel_rfl] at hl
 have c_0:Tryz.prog.cellsOf 4=1:=by kernel_rfl
 have c_1:Tryz.prog.cellsOf 3=1:=by kernel_rfl
 match cs,hl with
 | [v0,v1,v2,v3,v4,v5,v6,v7,v8,v9,v10],_ =>
  obtain ⟨n0,y0,g0⟩:=hf 0 _ rfl
  have h0:DataW.trod enc Tryz.prog w base sp hd n0 3 (List.take (Tryz.prog.cellsOf 3) [v0,v1,v2,v3,v4,v5,v6,v7,v8,v9,v10])=some y0:=g0
  rw [c_1] at h0
  obtain ⟨a0,e0⟩:=opens_int Tryz.underlying3 enc w base sp hd n0 [v0] y0 h0
  have r0:v0=_:=(List.cons.inj e0.1).1
  obtain ⟨n1,y1,g1⟩:=hf 1 _ rfl
  have h1:DataW.trod enc Tryz.prog w base sp hd n1 3 (List.take (Tryz.prog.cellsOf 3) [v1,v2,v3,v4,v5,v6,v7,v8,v9,v10])=some y1:=g1
  rw [c_1] at h1
  obtain ⟨a1,e1⟩:=opens_int Tryz.underlying3 enc w base sp hd n1 [v1] y1 h1
  have r1:v1=_:=(List.cons.inj e1.1).1
  obtain ⟨n2,y2,g2⟩:=hf 2 _ rfl
  have h2:DataW.trod enc Tryz.prog w base sp hd n2 3 (List.take (Tryz.prog.cellsOf 3) [v2,v3,v4,v5,v6,v7,v8,v9,v10])=some y2:=g2
  rw [c_1] at h2
  obtain ⟨a2,e2⟩:=opens_int Tryz.underlying3 enc w base sp hd n2 [v2] y2 h2
  have r2:v2=_:=(List.cons.inj e2.1).1
  obtain ⟨n3,y3,g3⟩:=hf 3 _ rfl
  have h3:DataW.trod enc Tryz.prog w base sp hd n3 3 (List.take (Tryz.prog.cellsOf 3) [v3,v4,v5,v6,v7,v8,v9,v10])=some y3:=g3
  rw [c_1] at h3
  obtain ⟨a3,e3⟩:=opens_int Tryz.underlying3 enc w base sp hd n3 [v3] y3 h3
  have r3:v3=_:=(List.cons.inj e3.1).1
  obtain ⟨n4,y4,g4⟩:=hf 4 _ rfl
  have h4:DataW.trod enc Tryz.prog w base sp hd n4 3 (List.take (Tryz.prog.cellsOf 3) [v4,v5,v6,v7,v8,v9,v10])=some y4:=g4
  rw [c_1] at h4
  obtain ⟨a4,e4⟩:=opens_int Tryz.underlying3 enc w base sp hd n4 [v4] y4 h4
  have r4:v4=_:=(List.cons.inj e4.1).1
  obtain ⟨n5,y5,g5⟩:=hf 5 _ rfl
  have h5:DataW.trod enc Tryz.prog w base sp hd n5 3 (List.take (Tryz.prog.cellsOf 3) [v5,v6,v7,v8,v9,v10])=some y5:=g5
  rw [c_1] at h5
  obtain ⟨a5,e5⟩:=opens_int Tryz.underlying3 enc w base sp hd n5 [v5] y5 h5
  have r5:v5=_:=(List.cons.inj e5.1).1
  obtain ⟨n6,y6,g6⟩:=hf 6 _ rfl
  have h6:DataW.trod enc Tryz.prog w base sp hd n6 3 (List.take (Tryz.prog.cellsOf 3) [v6,v7,v8,v9,v10])=some y6:=g6
  rw [c_1] at h6
  obtain ⟨a6,e6⟩:=opens_int Tryz.underlying3 enc w base sp hd n6 [v6] y6 h6
  have r6:v6=_:=(List.cons.inj e6.1).1
  obtain ⟨n7,y7,g7⟩:=hf 7 _ rfl
  have h7:DataW.trod enc Tryz.prog w base sp hd n7 4 (List.take (Tryz.prog.cellsOf 4) [v7,v8,v9,v10])=some y7:=g7
  rw [c_0] at h7
  obtain ⟨a7,e7⟩:=opens_bool Tryz.underlying4 enc w base sp hd n7 [v7] y7 h7
  have r7:v7=_:=(List.cons.inj e7).1
  obtain ⟨n8,y8,g8⟩:=hf 8 _ rfl
  have h8:DataW.trod enc Tryz.prog w base sp hd n8 3 (List.take (Tryz.prog.cellsOf 3) [v8,v9,v10])=some y8:=g8
  rw [c_1] at h8
  obtain ⟨a8,e8⟩:=opens_int Tryz.underlying3 enc w base sp hd n8 [v8] y8 h8
  have r8:v8=_:=(List.cons.inj e8.1).1
  obtain ⟨n9,y9,g9⟩:=hf 9 _ rfl
  have h9:DataW.trod enc Tryz.prog w base sp hd n9 3 (List.take (Tryz.prog.cellsOf 3) [v9,v10])=some y9:=g9
  rw [c_1] at h9
  obtain ⟨a9,e9⟩:=opens_int Tryz.underlying3 enc w base sp hd n9 [v9] y9 h9
  have r9:v9=_:=(List.cons.inj e9.1).1
  obtain ⟨n10,y10,g10⟩:=hf 10 _ rfl
  have h10:DataW.trod enc Tryz.prog w base sp hd n10 3 (List.take (Tryz.prog.cellsOf 3) [v10])=some y10:=g10
  rw [c_1] at h10
  obtain ⟨a10,e10⟩:=opens_int Tryz.underlying3 enc w base sp hd n10 [v10] y10 h10
  have r10:v10=_:=(List.cons.inj e10.1).1
  exact ⟨⟨a0,a1,a2,a3,a4,a5,a6,a7,a8,a9,a10⟩,by rw [r0,r1,r2,r3,r4,r5,r6,r7,r8,r9,r10]; rfl,e0.2,e1.2,e2.2,e3.2,e4.2,e5.2,e6.2,e8.2,e9.2,e10.2⟩
theorem opens_Ops:Opens Tryz.prog 22 (fun w (xs:List OpT) cs=>∃ v,cs=[v]∧RdS w 11 OpT.enc v xs∧(∀ x∈xs,x.wf)∧(xs.length:Int)≤9223372036854775807) :=
 Opens.mono (opens_slice opens_OpT Tryz.underlying22 (by kernel_rfl)) fun w xs cs ⟨v,h1,h2,h3⟩ =>
  have h:=h2.plain (enc:=OpT.enc) (ok:=OpT.wf) fun _ _ h=>h
  ⟨xs,v,h1,h.1,h.2,h3⟩
open Go Go.Ann Go.RowKit
def numP(x:Int)(o:OpT):Option (List Int × Int) :=
 if o.Method=1 then some ([x],x)
 else if o.Kind=1∧o.Method=2 then some ([o.Arg],0)
 else if o.Kind=1∧o.Method=3 then (if x=o.Arg then some ([o.Second],1) else some ([x],0))
 else if o.Kind=2∧o.Method=4 then some ([IntKind.i64.wrap (x+1)],0)
 else if o.Kind=2∧o.Method=5 then some ([IntKind.i64.wrap (x - 1)],0)
 else none
def StepR(w w':World)(v:Value)(r:Option (List Int × Int))(t:Value):Prop :=
 ∃ u a ok,t=.tuple #[u,.int .i64 a,.bool ok]∧match r with
  | none=>ok=false
  | some (s,n)=>ok=true∧a=n∧RdS w' 1 intE u s∧∀ k,slFoot u k→v.ownBlock=some k∨w.heap.size≤k
theorem int_new{w:World}{b:Nat}(x:Int)(hb:b=w.heap.size):RdS (w.alloc (.cells #[.int .i64 x] 3)) 1 intE (.slice (some ⟨b,0,none⟩) 1 1) [x]:=by
 subst hb
 exact rd_new (n:=1) (cs:=#[.int .i64 x]) rfl
theorem number_ok(v:Value)(x:Int)(o:OpT)(w:World)(h:RdS w 1 intE v [x]) :
  Ret Tryz.prog 96 [v,.agg o.enc.toArray] w fun u w'=>StepR w w' v (numP x o) u∧Below w.heap.size w w':=by
 obtain ⟨a,c,rfl,_⟩:=h.form
 obtain ⟨p,rfl⟩:=h.ptr (by simp)
 refine ent96 _ _ _ _ ?_
 have ho:=o.at
 have hw1:Below w.heap.size w (w.alloc (.cells o.enc.toArray 52)):=(Below.refl _ w).alloc (Nat.le_refl _) _
 have h1:=h.below hw1 (by decide)
 have ep:=RdS.int h1 (k:=0) (by simp)
 rw [show p.add 0=p from rfl,show ([x]:List Int)[0]=x from rfl] at ep
 have hw2:Below w.heap.size w (w.alloc (.cells o.enc.toArray 52)).drew:=hw1.drew
 have ep2:(w.alloc (.cells o.enc.toArray 52)).drew.cell? p=some (.int .i64 x):=ep
 have lp:p.block<w.heap.size:=h.blt intE_len (by decide) (by simp)
 have one:∀ (n:Int) (K:Value→World→Prop),(∀ u w',RdS w' 1 intE u [n]→(∀ k,slFoot u k→w.heap.size≤k)→Below w.heap.size w w'→K u w')→bsW Tryz.prog 25 1 [0] [.int .i64 n] (w.alloc (.cells o.enc.toArray 52)) K:=fun n K hK=>by
  refine bsW_ones ty25mkI rfl rfl (by decide) (by decide) (intE_one n) ?_
  refine hK _ _ (int_new n rfl) (fun k hk=>?_) (Below.next hw1 ((Below.refl _ _).alloc (Nat.le_refl _) _))
  have:=slFoot_own hk
  simp only [Value.ownBlock,Option.some.injEq,World.size_alloc] at this
  omega
 have no:∀ {w':World},numP x o=none→StepR w w' (.slice (some p) 1 c) (numP x o) (.tuple #[.slice none 0 0,.int .i64 0,.bool false]):=fun e=>⟨_,_,_,rfl,by rw [e]⟩
 by_cases m1:o.Method=1
 ·have e:numP x o=some ([x],x):=by unfold numP; rw [if_pos m1]
  simp (disch:=first|omega|exact zF rfl|exact zG rfl|exact fun h=>h|(simp only[zA,zB,zC,zD,bytesW];omega)) only[go_sem,ho,m1]
  refine c96draw0 ?_
  have hd2:(w.alloc (.cells o.enc.toArray 52)).drew.heap.size=w.heap.size+1:=by simp
  simp (disch:=first|omega|exact zF rfl|exact zG rfl|exact fun h=>h|(simp only[zA,zB,zC,zD,bytesW];omega)) only[go_sem,c96D0,ep,ep2]
  exact ⟨⟨_,_,_,rfl,by rw [e]; exact ⟨rfl,rfl,h.below hw2 (by decide),fun k hk=>.inl (slFoot_own hk)⟩⟩,hw2⟩
 by_cases k1:o.Kind=1
 ·by_cases m2:o.Method=2
  ·have e:numP x o=some ([o.Arg],0):=by unfold numP; rw [if_neg m1,if_pos ⟨k1,m2⟩]
   simp (disch:=first|omega|exact zF rfl|exact zG rfl|exact fun h=>h|(simp only[zA,zB,zC,zD,bytesW];omega)) only[go_sem,ho,k1,m2]
   refine one _ _ fun u w' hr hf hb=>?_
   simp (disch:=first|omega|exact zF rfl|exact zG rfl|exact fun h=>h|(simp only[zA,zB,zC,zD,bytesW];omega)) only[go_sem]
   exact ⟨⟨u,_,_,rfl,by rw [e]; exact ⟨rfl,rfl,hr,fun k hk=>.inr (hf k hk)⟩⟩,hb⟩
  by_cases m3:o.Method=3
  ·simp (disch:=first|omega|exact zF rfl|exact zG rfl|exact fun h=>h|(simp only[zA,zB,zC,zD,bytesW];omega)) only[go_sem,ho,k1,m3]
   refine c96draw1 ?_
   simp (disch:=first|omega|exact zF rfl|exact zG rfl|exact fun h=>h|(simp only[zA,zB,zC,zD,bytesW];omega)) only[go_sem,c96D1,ep,ep2,ho]
   refine ⟨fun e0=>?_,fun e0=>?_⟩
   ·have e:numP x o=some ([o.Second],1):=by unfold numP; simp [m1,k1,m2,m3,e0]
    refine bsW_ones ty25mkI rfl rfl (by decide) (by decide) (intE_one _) ?_
    simp (disch:=first|omega|exact zF rfl|exact zG rfl|exact fun h=>h|(simp only[zA,zB,zC,zD,bytesW];omega)) only[go_sem]
    have hi:=int_new (w:=w.alloc (.cells o.enc.toArray 52)) (b:=w.heap.size+1) o.Second (by simp)
    have bb:=(Below.refl (w.alloc (.cells o.enc.toArray 52)).heap.size (w.alloc (.cells o.enc.toArray 52))).alloc (Nat.le_refl _) (.cells #[.int .i64 o.Second] 3)
    refine ⟨⟨_,_,_,rfl,by
     rw [e]
     refine ⟨rfl,rfl,hi.below (Below.refl _ _).drew (by decide),fun k hk=>.inr ?_⟩
     have:=slFoot_own hk
     simp only [Value.ownBlock,Option.some.injEq] at this
     omega⟩,(Below.next hw1 bb).drew⟩
   ·have e:numP x o=some ([x],0):=by unfold numP; simp [m1,k1,m2,m3,e0]
    exact ⟨⟨_,_,_,rfl,by rw [e]; exact ⟨rfl,rfl,h.below hw2 (by decide),fun k hk=>.inl (slFoot_own hk)⟩⟩,hw2⟩
  ·have e:numP x o=none:=by unfold numP; simp [m1,k1,m2,m3]
   simp (disch:=first|omega|exact zF rfl|exact zG rfl|exact fun h=>h|(simp only[zA,zB,zC,zD,bytesW];omega)) only[go_sem,ho,k1,m1,m2,m3]
   exact ⟨no e,hw1⟩
 by_cases k2:o.Kind=2
 ·by_cases m4:o.Method=4
  ·have e:numP x o=some ([IntKind.i64.wrap (x+1)],0):=by unfold numP; simp [m4,k2]
   simp (disch:=first|omega|exact zF rfl|exact zG rfl|exact fun h=>h|(simp only[zA,zB,zC,zD,bytesW];omega)) only[go_sem,ho,k2,m4,ep]
   refine one _ _ fun u w' hr hf hb=>?_
   simp (disch:=first|omega|exact zF rfl|exact zG rfl|exact fun h=>h|(simp only[zA,zB,zC,zD,bytesW];omega)) only[go_sem]
   exact ⟨⟨u,_,_,rfl,by rw [e]; exact ⟨rfl,rfl,hr,fun k hk=>.inr (hf k hk)⟩⟩,hb⟩
  by_cases m5:o.Method=5
  ·have e:numP x o=some ([IntKind.i64.wrap (x - 1)],0):=by unfold numP; simp [m5,k2]
   simp (disch:=first|omega|exact zF rfl|exact zG rfl|exact fun h=>h|(simp only[zA,zB,zC,zD,bytesW];omega)) only[go_sem,ho,k2,m5,ep]
   refine one _ _ fun u w' hr hf hb=>?_
   simp (disch:=first|omega|exact zF rfl|exact zG rfl|exact fun h=>h|(simp only[zA,zB,zC,zD,bytesW];omega)) only[go_sem]
   exact ⟨⟨u,_,_,rfl,by rw [e]; exact ⟨rfl,rfl,hr,fun k hk=>.inr (hf k hk)⟩⟩,hb⟩
  ·have e:numP x o=none:=by unfold numP; simp [m1,k2,m4,m5]
   simp (disch:=first|omega|exact zF rfl|exact zG rfl|exact fun h=>h|(simp only[zA,zB,zC,zD,bytesW];omega)) only[go_sem,ho,k2,m1,m4,m5]
   exact ⟨no e,hw1⟩
 ·have e:numP x o=none:=by unfold numP; simp [m1,k1,k2]
  simp (disch:=first|omega|exact zF rfl|exact zG rfl|exact fun h=>h|(simp only[zA,zB,zC,zD,bytesW];omega)) only[go_sem,ho,k1,k2,m1]
  exact ⟨no e,hw1⟩
open Go Go.Ann Go.RowKit
def listP(s:List Int)(o:OpT):Option (List Int × Int) :=
 if (o.Kind=3∧o.Method=6)∨(o.Kind=4∧o.Method=8) then some (s++[o.Arg],0)
 else if o.Kind=3∧o.Method=7 then (match s with | []=>some ([],-1) | x::r=>some (r,x))
 else if o.Kind=4∧o.Method=9 then (if h:s=[] then some ([],-1) else some (s.dropLast,s.getLast h))
 else none
theorem ints_take:∀ (s:List Int) (k:Nat),(s.take k).flatMap intE=(s.flatMap intE).take k
 | [],k=>by simp
 | x::s,0=>rfl
 | x::s,k+1=>by rw [List.take_succ_cons,List.flatMap_cons,List.flatMap_cons,ints_take s k]; rfl
theorem offA_own{ad:Addr}{c lo n m k:Nat}(h:slFoot (.slice (offA (some ad) c lo 1) n m) k):ad.block=k:=by
 have:=slFoot_own h
 unfold offA at this
 split at this
 ·simpa [Value.ownBlock] using this
 ·simpa [Value.ownBlock,add_block] using this
theorem list_ok(v:Value)(s:List Int)(o:OpT)(w:World)(B:Nat)(hB:B≤w.heap.size)(h:w.ownsRow B 3 1 v s.length (s.flatMap intE))(hl:s.length≤1000000) :
  Ret Tryz.prog 97 [v,.agg o.enc.toArray] w fun u w'=>StepR w w' v (listP s o) u∧Chg (fun k=>v.ownBlock=some k) w w':=by
 obtain ⟨a,c,rfl,_⟩:=own_slice h
 refine ent97 _ _ _ _ ?_
 have ho:=o.at
 have hw1:Below w.heap.size w (w.alloc (.cells o.enc.toArray 52)):=(Below.refl _ w).alloc (Nat.le_refl _) _
 have hc1:Chg (fun k=>(Value.slice a s.length c).ownBlock=some k) w (w.alloc (.cells o.enc.toArray 52)):=Chg.of_below hw1
 have hr:RdS w 1 intE (.slice a s.length c) s:=RdS.of_own' h s rfl rfl
 have no:∀ {w':World},listP s o=none→StepR w w' (.slice a s.length c) (listP s o) (.tuple #[.slice none 0 0,.int .i64 0,.bool false]):=fun e=>⟨_,_,_,rfl,by rw [e]⟩
 have emp:s=[]→listP s o=some ([],-1)→StepR w (w.alloc (.cells o.enc.toArray 52)) (.slice a s.length c) (listP s o) (.tuple #[.slice a s.length c,.int .i64 (-1),.bool true]):=fun e e2=>⟨_,_,_,rfl,by
  rw [e2]
  have:=hr.below hw1 (by decide)
  subst e
  exact ⟨rfl,rfl,this,fun k hk=>.inl (slFoot_own hk)⟩⟩
 have app:∀ {ty:TypeId} {cs:Array Bool} {K:Value→World→Prop},(∀ u w',RdS w' 1 intE u (s++[o.Arg])→(∀ k,slFoot u k→(Value.slice a s.length c).ownBlock=some k∨w.heap.size≤k)→Chg (fun k=>(Value.slice a s.length c).ownBlock=some k) w w'→K u w') →
   rawB Tryz.prog .append #[25,25] ty cs [.slice a s.length c,.slice (some ⟨w.heap.size+1,0,none⟩) 1 1] ((w.alloc (.cells o.enc.toArray 52)).alloc (.cells #[.int .i64 o.Arg] 3)) K:=by
  intro ty cs K hK
  have bb:=(Below.refl (w.alloc (.cells o.enc.toArray 52)).heap.size (w.alloc (.cells o.enc.toArray 52))).alloc (Nat.le_refl _) (.cells #[.int .i64 o.Arg] 3)
  have hb2:=Below.next hw1 bb
  have ho2:=(Chg.of_below (S:=fun _=>False) hb2).own h fun _ _ h=>h
  have hi:=int_new (w:=w.alloc (.cells o.enc.toArray 52)) (b:=w.heap.size+1) o.Arg (by simp)
  obtain ⟨_,a',c',e,_,hp⟩:=hi
  cases e
  obtain ⟨ad,had,hcell⟩:=hp (by simp)
  cases had
  refine rawB_append (m:=1) ty25mkI rfl (by decide) ho2 (by simp [intE]) hcell (ints_one _) (by decide) (by omega) (by omega) (by have:=hb2.size; omega) ?_
  intro g cap w' hown hg hgb hgl
  have hown':w'.ownsRow B 3 1 (.slice (some ⟨g,0,none⟩) (s.length+1) cap) (s.length+1) ((s++[o.Arg]).flatMap intE):=by
   rw [List.flatMap_append]; exact hown
  refine hK _ _ (RdS.of_own' hown' (s++[o.Arg]) (by simp) rfl) (fun k hk=>?_) ((Chg.of_below hb2).trans ⟨hg.os,hg.tape,hg.output,hg.size,fun k hk hS=>hg.block k hk fun e=>hS e.symm⟩)
  have:=slFoot_own hk
  simp only [Value.ownBlock,Option.some.injEq] at this
  subst this
  rcases hgb with h | h
  ·exact .inl h
  ·right; rw [h]; simp; omega
 by_cases k3:o.Kind=3
 ·by_cases m6:o.Method=6
  ·simp (disch:=first|omega|exact zF rfl|exact zG rfl|exact fun h=>h|(simp only[zA,zB,zC,zD,bytesW];omega)) only[go_sem,ho,k3,m6]
   refine bsW_ones ty25mkI rfl rfl (by decide) (by decide) (intE_one _) ?_
   simp (disch:=first|omega|exact zF rfl|exact zG rfl|exact fun h=>h|(simp only[zA,zB,zC,zD,bytesW];omega)) only[go_sem]
   refine app fun u w' hu hf hc=>?_
   simp (disch:=first|omega|exact zF rfl|exact zG rfl|exact fun h=>h|(simp only[zA,zB,zC,zD,bytesW];omega)) only[go_sem]
   exact ⟨⟨u,_,_,rfl,by rw [show listP s o=some (s++[o.Arg],0) by unfold listP; simp [k3,m6]]; exact ⟨rfl,rfl,hu,hf⟩⟩,hc⟩
  by_cases m7:o.Method=7
  ·simp (disch:=first|omega|exact zF rfl|exact zG rfl|exact fun h=>h|(simp only[zA,zB,zC,zD,bytesW];omega)) only[go_sem,ho,k3,m7]
   refine ⟨fun h0=>⟨emp (List.eq_nil_of_length_eq_zero (by omega)) (by have:s=[]:=List.eq_nil_of_length_eq_zero (by omega); subst this; unfold listP; simp [k3,m7]),hc1⟩,fun h0=>?_⟩
   have h0':0<s.length:=by omega
   obtain ⟨ad,rfl⟩:=hr.ptr h0'
   have hr2:RdS (w.alloc (.cells o.enc.toArray 52)).drew 1 intE (.slice (some ad) s.length c) s:=hr.below hw1.drew (by decide)
   have hcd:Chg (fun k=>(Value.slice (some ad) s.length c).ownBlock=some k) w (w.alloc (.cells o.enc.toArray 52)).drew:=Chg.of_below hw1.drew
   obtain ⟨x,r,rfl⟩:∃ x r,s=x::r:=by
    cases s with
    | nil=>simp at h0'
    | cons x r=>exact ⟨x,r,rfl⟩
   have ep:=RdS.int hr2 (k:=0) h0'
   rw [show ad.add 0=ad from rfl,show (x::r)[0]=x from rfl] at ep
   refine c97draw0 ?_
   simp (disch:=first|omega|exact zF rfl|exact zG rfl|exact fun h=>h|(simp only[zA,zB,zC,zD,bytesW];omega)) only[go_sem,c97D0,ep]
   refine ⟨by omega,by omega,⟨_,_,_,rfl,?_⟩⟩
   rw [show listP (x::r) o=some (r,x) by unfold listP; simp [k3,m7]]
   refine ⟨rfl,rfl,?_,fun k hk=>.inl ?_⟩
   ·have:=rd_drop (k:=1) (show Rd _ 1 (.slice (some ad) (x::r).length c) (x::r).length ((x::r).flatMap intE) from hr2) (by simp)
    exact this
   ·rw [← offA_own hk]; rfl
  ·simp (disch:=first|omega|exact zF rfl|exact zG rfl|exact fun h=>h|(simp only[zA,zB,zC,zD,bytesW];omega)) only[go_sem,ho,k3,m6,m7]
   exact ⟨no (by unfold listP; simp [k3,m6,m7]),hc1⟩
 by_cases k4:o.Kind=4
 ·by_cases m8:o.Method=8
  ·simp (disch:=first|omega|exact zF rfl|exact zG rfl|exact fun h=>h|(simp only[zA,zB,zC,zD,bytesW];omega)) only[go_sem,ho,k4,m8]
   refine bsW_ones ty25mkI rfl rfl (by decide) (by decide) (intE_one _) ?_
   simp (disch:=first|omega|exact zF rfl|exact zG rfl|exact fun h=>h|(simp only[zA,zB,zC,zD,bytesW];omega)) only[go_sem]
   refine app fun u w' hu hf hc=>?_
   simp (disch:=first|omega|exact zF rfl|exact zG rfl|exact fun h=>h|(simp only[zA,zB,zC,zD,bytesW];omega)) only[go_sem]
   exact ⟨⟨u,_,_,rfl,by rw [show listP s o=some (s++[o.Arg],0) by unfold listP; simp [k4,m8]]; exact ⟨rfl,rfl,hu,hf⟩⟩,hc⟩
  by_cases m9:o.Method=9
  ·simp (disch:=first|omega|exact zF rfl|exact zG rfl|exact fun h=>h|(simp only[zA,zB,zC,zD,bytesW];omega)) only[go_sem,ho,k4,m9]
   refine ⟨fun h0=>⟨emp (List.eq_nil_of_length_eq_zero (by omega)) (by have:s=[]:=List.eq_nil_of_length_eq_zero (by omega); subst this; unfold listP; simp [k4,m9]),hc1⟩,fun h0=>?_⟩
   have h0':0<s.length:=by omega
   obtain ⟨ad,rfl⟩:=hr.ptr h0'
   have hr2:RdS (w.alloc (.cells o.enc.toArray 52)).drew 1 intE (.slice (some ad) s.length c) s:=hr.below hw1.drew (by decide)
   have hcd:Chg (fun k=>(Value.slice (some ad) s.length c).ownBlock=some k) w (w.alloc (.cells o.enc.toArray 52)).drew:=Chg.of_below hw1.drew
   have hne:s≠[]:=fun e=>by subst e; simp at h0'
   have ep:=RdS.int hr2 (k:=s.length - 1) (by omega)
   have ti:((s.length:Int) - 1).toNat=s.length - 1:=by omega
   refine c97draw1 ?_
   simp (disch:=first|omega|exact zF rfl|exact zG rfl|exact fun h=>h|(simp only[zA,zB,zC,zD,bytesW];omega)) only[go_sem,c97D1,ti,ep]
   have hcap:s.length≤c:=by
    obtain ⟨_,c',e,hc⟩:=hr.form
    cases e; exact hc
   refine ⟨⟨by omega,by omega⟩,⟨by omega,by omega⟩,⟨by omega,by omega⟩,⟨by omega,by omega⟩,⟨_,_,_,rfl,?_⟩⟩
   rw [show listP s o=some (s.dropLast,s.getLast hne) by unfold listP; simp [k4,m9,hne]]
   refine ⟨rfl,(List.getLast_eq_getElem hne).symm,?_,fun k hk=>.inl ?_⟩
   ·have:=rd_take (k:=s.length - 1) (show Rd _ 1 (.slice (some ad) s.length c) s.length (s.flatMap intE) from hr2) (by omega)
    have e:s.dropLast.flatMap intE=(s.flatMap intE).take ((s.length - 1) * 1):=by
     rw [Nat.mul_one,List.dropLast_eq_take]
     exact ints_take s _
    have e2:s.dropLast.length=s.length - 1:=List.length_dropLast
    unfold RdS
    rw [e,e2]
    exact this
   ·rw [← offA_own hk]; rfl
  ·simp (disch:=first|omega|exact zF rfl|exact zG rfl|exact fun h=>h|(simp only[zA,zB,zC,zD,bytesW];omega)) only[go_sem,ho,k4,m8,m9]
   exact ⟨no (by unfold listP; simp [k4,m8,m9]),hc1⟩
 ·simp (disch:=first|omega|exact zF rfl|exact zG rfl|exact fun h=>h|(simp only[zA,zB,zC,zD,bytesW];omega)) only[go_sem,ho,k3,k4]
  exact ⟨no (by unfold listP; simp [k3,k4]),hc1⟩
open Go Go.Ann Go.RowKit Go.Shelf
theorem drewN_below{w:World}(q:Nat):Below w.heap.size w (w.drewN q):=⟨rfl,rfl,rfl,Nat.le_refl _,fun _ _=>rfl⟩
theorem bsearch_ok(v:Value)(s:List Int)(x:Int)(w:World)(h:RdS w 1 intE v s)(hv:∀ a n c,v=.slice (some a) n c→n≠0→a.spot=none)(hl:s.length≤1000000)(hs:s.Pairwise (·≤·)) :
  Ret Tryz.prog 118 [v,.int .i64 x] w fun u w'=>u=.tuple #[.int .i64 (s.countP (·<x):Nat),.bool (s.contains x)]∧Below w.heap.size w w':=by
 obtain ⟨a,c,rfl,_⟩:=h.form
 rcases Nat.eq_zero_or_pos s.length with h0 | h0
 ·have e:s=[]:=List.eq_nil_of_length_eq_zero h0
  subst e
  exact (Any.slices_BinarySearch_int_empty layBin a c x w).mono fun e w' ⟨h1,h2⟩=>⟨_,h1,rfl,by rw [h2]; exact Below.refl _ _⟩
 ·obtain ⟨ad,rfl⟩:=h.ptr h0
  have hsp:=hv ad _ _ rfl (by omega)
  have had:ad=⟨ad.block,ad.off,none⟩:=by cases ad; simp only at hsp; subst hsp; rfl
  have hc:∀ j,j<s.length→w.cell? ⟨ad.block,ad.off+j,none⟩=some (.int .i64 (s.getD j 0)):=fun j hj=>by
   have:=RdS.int h hj
   rw [had,Addr.add_lit] at this
   rw [this,List.getD_eq_getElem?_getD,List.getElem?_eq_getElem hj]; rfl
  have:=Any.slices_BinarySearch_int layBin ad.block ad.off s.length c s x w (Nat.le_refl _) (by omega) hc (by rw [List.take_length]; exact hs)
  rw [List.take_length,← had] at this
  exact this.mono fun e w' ⟨h1,q,h2⟩=>⟨_,h1,rfl,by rw [h2]; exact drewN_below q⟩
open Go Go.Ann Go.RowKit Go.Shelf Go.Sort
theorem delete_ok(g cap i:Nat)(s:List Int)(rest:List Value)(w:World)(hB:Blk w g (s.map (Value.int .i64)++rest).toArray 3)(hc:s.length≤cap)(hm:cap≤9223372036854775807)(hi:i<s.length) :
  Ret Tryz.prog 121 [.slice (some ⟨g,0,none⟩) s.length cap,.int .i64 i,.int .i64 (i+1)] w fun u w' =>
   u=.slice (some ⟨g,0,none⟩) (s.length - 1) cap∧(∃ rest',Blk w' g ((s.take i++s.drop (i+1)).map (Value.int .i64)++rest').toArray 3)∧Chg (fun k=>k=g) w w':=by
 have hH:Holds (Value.int .i64) w g 0 s.toArray:=by
  intro j hj
  have hj':j<s.length:=by simpa using hj
  rw [hB.cell,hB.frozen]
  refine ⟨?_,rfl⟩
  rw [List.getElem?_toArray,Nat.zero_add,List.getElem?_append_left (by simpa using hj'),List.getElem?_map,List.getElem?_eq_getElem hj',getElem!_pos s.toArray j hj]
  rfl
 have h:=Any.slices_Delete_int layDel g 0 cap i (i+1) s w hH hc hm (by omega) (by omega)
 refine h.mono ?_
 rintro e w' ⟨rfl,q,rfl⟩
 have hsz:(s.take i++s.drop (i+1)++List.replicate (i+1 - i) 0).toArray.size=s.toArray.size:=by simp; omega
 have hb:=sorted_blk (m:=q) (d:=s.toArray) (rest:=rest) (enc:=Value.int .i64) (by simpa using hB) hsz #[]
 have e:sortWorld (Value.int .i64) w g 0 q (s.take i++s.drop (i+1)++List.replicate (i+1 - i) 0).toArray #[]=putRow (Value.int .i64) (Sort.ahead w q) g 0 (s.take i++s.drop (i+1)++List.replicate (i+1 - i) 0).toArray:=grow_empty _
 rw [e] at hb
 refine ⟨_,rfl,by rw [show i+1 - i=1 by omega],⟨(List.replicate (i+1 - i) (0:Int)).map (Value.int .i64)++rest,?_⟩,hb.2⟩
 have:=hb.1
 simp only [List.toList_toArray,List.map_append,List.append_assoc] at this ⊢
 exact this
open Go Go.Ann Go.RowKit Go.Shelf
theorem setCells_blk{g:Nat}{e:TypeId}:∀ (vs mid pre post:List Value) (o:Nat) (w:World),Blk w g (pre++(mid++post)).toArray e→mid.length=vs.length→pre.length=o →
  Blk (w.setCells g o vs) g (pre++(vs++post)).toArray e∧Chg (fun k=>k=g) w (w.setCells g o vs)
 | [],[],pre,post,o,w,h,_,_=>⟨h,Chg.refl _ _⟩
 | [],_::_,pre,post,o,w,h,hl,_=>by simp at hl
 | _::_,[],pre,post,o,w,h,hl,_=>by simp at hl
 | v::vs,m::mid,pre,post,o,w,h,hl,ho=>by
  have h1:Blk (w.setCell ⟨g,o,none⟩ v) g ((pre++[v])++(mid++post)).toArray e:=by
   have:=h.set o v
   rw [List.setIfInBounds_toArray,List.set_append_right _ _ (by omega),ho,Nat.sub_self] at this
   simpa using this
  obtain ⟨h2,h3⟩:=setCells_blk vs mid (pre++[v]) post (o+1) _ h1 (by simpa using hl) (by simp [ho])
  refine ⟨by simpa [World.setCells] using h2,?_⟩
  simp only [World.setCells]
  exact Chg.trans ((Chg.refl (fun k=>k=g) w).setCell ⟨g,o,none⟩ v (fun _=>rfl)) h3
theorem intE_map(s:List Int):s.flatMap intE=s.map (Value.int .i64):=by
 induction s with
 | nil=>rfl
 | cons x s ih=>rw [List.flatMap_cons,ih]; rfl
theorem rd_of_blk{w:World}{g cap:Nat}{s:List Int}{rest:List Value}{t:TypeId}(hB:Blk w g (s.map (Value.int .i64)++rest).toArray t)(hc:s.length≤cap){n:Nat}(hn:n=s.length):RdS w 1 intE (.slice (some ⟨g,0,none⟩) n cap) s:=by
 subst hn
 refine ⟨by rw [intE_map]; simp,_,cap,rfl,hc,fun _=>⟨_,rfl,fun j u hu=>?_⟩⟩
 rw [intE_map] at hu
 rw [Addr.add_lit,Nat.zero_add,hB.cell,List.getElem?_toArray,List.getElem?_append_left (by have:=(List.getElem?_eq_some_iff.1 hu).1; exact this)]
 exact hu
theorem arr_app(l:List Value)(A:Array Value):l.toArray++A=(l++A.toList).toArray:=by apply Array.ext'; simp
theorem blk_new{w:World}{cs:Array Value}{t:TypeId}{l:List Value}{b:Nat}(hb:b=w.heap.size)(e:cs.toList=l):Blk (w.alloc (.cells cs t)) b l.toArray t:=by subst hb e; exact Blk.new
theorem zeroC_len(n:Nat):(Builtin.zeroCells (Value.int .i64 0).cells n).toList.length=n:=by
 simp [Builtin.zeroCells,Value.cells]
theorem ins_ok(v:Value)(s:List Int)(i:Nat)(x:Int)(b:Nat)(w:World)(B:Nat)(hB:B≤w.heap.size)(h:w.ownsRow B 3 1 v s.length (s.flatMap intE))(hx:Blk w b #[.int .i64 x] 3)(hne:v.ownBlock≠some b)(hi:i≤s.length)(hl:s.length≤1000000) :
  Ret Tryz.prog 120 [v,.int .i64 i,.slice (some ⟨b,0,none⟩) 1 1] w fun u w'=>RdS w' 1 intE u (s.take i++x::s.drop i)∧(∀ k,slFoot u k→v.ownBlock=some k∨w.heap.size≤k)∧Chg (fun k=>v.ownBlock=some k) w w':=by
 have h1v:∀ u∈[Value.int .i64 x],u.oneCell'=true:=by intro u hu; rw [List.mem_singleton] at hu; subst hu; rfl
 have hvs:∀ j u,[Value.int .i64 x][j]?=some u→w.cell? ⟨b,0+j,none⟩=some u:=fun j u hj=>by rw [Nat.zero_add,hx.cell]; simpa using hj
 have hcl:(s.map (Value.int .i64)).length=s.length:=by simp
 have h1c:∀ u∈s.map (Value.int .i64),u.oneCell'=true:=fun u hu=>by obtain ⟨y,_,rfl⟩:=List.mem_map.1 hu; rfl
 have hlen:(s.take i++x::s.drop i).length=s.length+1:=by simp; omega
 rw [intE_map] at h
 rcases h.2 with ⟨rfl,h0⟩ | ⟨g,c,cur,rfl,hg,hb,hnc,hcm,hcs,htk⟩
 ·have hs:s=[]:=List.eq_nil_of_length_eq_zero h0
  subst hs
  obtain rfl:i=0:=by simpa using hi
  have:=Any2.slices_Insert_int_end_grow layIns none 0 0 b 0 1 1 [] [.int .i64 x] w (by omega) (by omega) (by omega) (by omega) rfl rfl (fun _=>rfl) (fun a ha=>by cases ha) hvs h1v
  refine this.mono ?_
  rintro e w' ⟨rfl,rfl⟩
  refine ⟨_,rfl,rd_of_blk (s:=[x]) (rest:=(Builtin.zeroCells (Value.int .i64 0).cells (grownCap w (0+1) 0 3 - (0+1))).toList) (t:=3) ?_ (by simpa using grownCap_ge w (0+1) 0 _) rfl,fun k hk=>.inr ?_,Chg.of_below ((Below.refl _ w).drew.alloc (Nat.le_refl _) _)⟩
  ·exact blk_new rfl (by rw [arr_app]; rfl)
  ·have:=slFoot_own hk
   simp only [Value.ownBlock,Option.some.injEq] at this
   omega
 ·have hlt:g<w.heap.size:=Blk.lt hb
  have hgb:b≠g:=fun e=>hne (by rw [e]; rfl)
  simp only [Nat.mul_one] at hcs htk
  have hcur:cur=(s.map (Value.int .i64)++cur.toList.drop s.length).toArray:=by
   apply Array.ext'
   rw [List.toList_toArray,← htk,List.take_append_drop]
  obtain ⟨tl,htl⟩:∃ tl,tl=cur.toList.drop s.length:=⟨_,rfl⟩
  rw [← htl] at hcur
  have htll:tl.length=c - s.length:=by rw [htl,List.length_drop,Array.length_toList,hcs]
  have hbb:Blk w g (s.map (Value.int .i64)++tl).toArray 3:=by rw [← hcur]; exact hb
  have hmax:c≤9223372036854775807:=hcm
  have hcells:∀ j u,(s.map (Value.int .i64))[j]?=some u→w.cell? ⟨g,0+j,none⟩=some u:=fun j u hj=>by
   rw [Nat.zero_add,hbb.cell,List.getElem?_toArray,List.getElem?_append_left (List.getElem?_eq_some_iff.1 hj).1]; exact hj
  have hsome:∀ j,j<c→(w.cell? ⟨g,0+j,none⟩).isSome=true:=fun j hj=>by
   rw [Nat.zero_add,hbb.cell,List.getElem?_toArray,List.getElem?_eq_getElem (by simp; omega)]; rfl
  have hfz:∀ j,w.frozen? ⟨g,j,none⟩=false:=hbb.frozen
  have own:∀ {k n c'},slFoot (.slice (some ⟨g,0,none⟩) n c') k→(Value.slice (some ⟨g,0,none⟩) s.length c).ownBlock=some k∨w.heap.size≤k:=fun hk=>.inl (by have:=slFoot_own hk; simpa [Value.ownBlock] using this)
  have new:∀ {k n c'},slFoot (.slice (some ⟨w.heap.size,0,none⟩) n c') k→(Value.slice (some ⟨g,0,none⟩) s.length c).ownBlock=some k∨w.heap.size≤k:=fun hk=>.inr (by have:=slFoot_own hk; simp only [Value.ownBlock,Option.some.injEq] at this; omega)
  have chgo:∀ {w':World},Chg (fun k=>k=g) w w'→Chg (fun k=>(Value.slice (some ⟨g,0,none⟩) s.length c).ownBlock=some k) w w':=fun hc=>⟨hc.os,hc.tape,hc.output,hc.size,fun k hk hS=>hc.block k hk fun e=>hS (by rw [e]; rfl)⟩
  rcases Nat.lt_or_ge i s.length with hin | hin
  ·have e1:s.map (Value.int .i64)=(s.take i).map (Value.int .i64)++(s.drop i).map (Value.int .i64):=by rw [← List.map_append,List.take_append_drop]
   rcases Nat.lt_or_ge c (s.length+1) with hroom | hroom
   ·have:=Any2.slices_Insert_int_grow layIns g 0 s.length c i b 0 1 1 (s.map (Value.int .i64)) [.int .i64 x] w hin (by omega) hnc hroom (by omega) hcl rfl hcells hvs h1c h1v
    refine this.mono ?_
    rintro e w' ⟨rfl,rfl⟩
    obtain ⟨G,hG⟩:∃ G,G=grownCap w (s.length+1) c 3:=⟨_,rfl⟩
    have hGe:s.length+1≤G:=by rw [hG]; exact grownCap_ge w (s.length+1) c _
    obtain ⟨Z1,hZ1⟩:∃ Z,Z=(Builtin.zeroCells (Value.int .i64 0).cells (s.length+1 - i)).toList:=⟨_,rfl⟩
    obtain ⟨Z2,hZ2⟩:∃ Z,Z=(Builtin.zeroCells (Value.int .i64 0).cells (G - (s.length+1))).toList:=⟨_,rfl⟩
    have lz1:Z1.length=s.length+1 - i:=by rw [hZ1]; exact zeroC_len _
    obtain ⟨z,Z1',rfl⟩:∃ z Z,Z1=z::Z:=by
     cases Z1 with
     | nil=>simp at lz1; omega
     | cons z Z=>exact ⟨z,Z,rfl⟩
    have b0:Blk (w.alloc (.cells (((s.map (Value.int .i64)).take i).toArray++Builtin.zeroCells (Value.int .i64 0).cells (s.length+1 - i)++Builtin.zeroCells (Value.int .i64 0).cells (G - (s.length+1))) 3)) w.heap.size ((s.take i).map (Value.int .i64)++([z]++(Z1'++Z2))).toArray 3:=by
     refine blk_new rfl ?_
     rw [arr_app,arr_app,← hZ1,← hZ2,← List.map_take]
     simp
    have hlen1:((s.take i).map (Value.int .i64)).length=i:=by simp; omega
    obtain ⟨b1,c1⟩:=setCells_blk [Value.int .i64 x] [z] ((s.take i).map (Value.int .i64)) (Z1'++Z2) i _ b0.drew rfl hlen1
    have b1':=b1
    rw [← List.append_assoc] at b1'
    obtain ⟨b2,c2⟩:=setCells_blk ((s.drop i).map (Value.int .i64)) Z1' ((s.take i).map (Value.int .i64)++[Value.int .i64 x]) Z2 (i+1) _ b1'.drew (by simp at lz1 ⊢; omega) (by simp; omega)
    rw [← List.map_drop,show layIns_ren.t 3=3 from rfl]
    refine ⟨_,rfl,rd_of_blk (s:=s.take i++x::s.drop i) (rest:=Z2) (t:=3) (by rw [← hG]; simpa using b2) (by rw [hlen]; exact grownCap_ge w (s.length+1) c _) hlen.symm,fun k hk=>new hk,?_⟩
    rw [← hG]
    have hdr:∀ {S:Nat→Prop} {a:World},Chg S a a.drew:=fun {S a}=>(Chg.refl S a).drew
    have cc:Chg (fun k=>k=w.heap.size) (w.alloc (.cells (((s.map (Value.int .i64)).take i).toArray++Builtin.zeroCells (Value.int .i64 0).cells (s.length+1 - i)++Builtin.zeroCells (Value.int .i64 0).cells (G - (s.length+1))) 3)) _:=hdr.trans (c1.trans (hdr.trans c2))
    exact Chg.of_below (((Below.refl _ w).alloc (Nat.le_refl _) _).trans (cc.below (by simp) fun k hk e=>by omega))
   ·have hmid:∃ t0 tl',tl=t0::tl':=by
     cases tl with
     | nil=>simp at htll; omega
     | cons t0 tl'=>exact ⟨t0,tl',rfl⟩
    obtain ⟨t0,tl',rfl⟩:=hmid
    have hshA:w.shape? b=some (3,1):=by unfold World.shape?; rw [hx]; rfl
    have hshB:w.shape? g=some (3,cur.size):=by unfold World.shape?; rw [hb]
    have:=Any2.slices_Insert_int_shift layIns g 0 s.length c i b 0 1 1 (s.map (Value.int .i64)) [.int .i64 x] w hin (by omega) hroom hmax hgb hcl rfl hcells (fun j hj=>hsome j (by omega)) (fun j _=>hfz _) hvs h1c h1v _ _ _ _ hshA hshB (by omega) (hx.frozen 0) (hx.frozen 1)
    refine this.mono ?_
    rintro e w' ⟨rfl,rfl⟩
    have hdi:(s.drop i).map (Value.int .i64)=Value.int .i64 s[i]::(s.drop (i+1)).map (Value.int .i64):=by rw [List.drop_eq_getElem_cons hin]; rfl
    have b0:Blk w g (((s.take i).map (Value.int .i64)++[Value.int .i64 s[i]])++(((s.drop (i+1)).map (Value.int .i64)++[t0])++tl')).toArray 3:=by
     have:=hbb
     rw [e1,hdi] at this
     simpa using this
    obtain ⟨b1,c1⟩:=setCells_blk ((s.drop i).map (Value.int .i64)) _ _ _ (i+1) _ b0.drew (by simp; omega) (by simp; omega)
    have b1':Blk (w.drew.setCells g (i+1) ((s.drop i).map (Value.int .i64))) g ((s.take i).map (Value.int .i64)++([Value.int .i64 s[i]]++((s.drop i).map (Value.int .i64)++tl'))).toArray 3:=by simpa using b1
    obtain ⟨b2,c2⟩:=setCells_blk [Value.int .i64 x] _ _ _ i _ b1' rfl (by simp; omega)
    rw [← List.map_drop,Nat.zero_add,Nat.zero_add]
    refine ⟨_,rfl,rd_of_blk (s:=s.take i++x::s.drop i) (rest:=tl') (t:=3) (by simpa using b2) (by rw [hlen]; exact hroom) hlen.symm,fun k hk=>own hk,chgo ((Chg.refl _ w).drew.trans (c1.trans c2))⟩
  ·obtain rfl:i=s.length:=by omega
   have e2:s.take s.length++x::s.drop s.length=s++[x]:=by rw [List.take_length,List.drop_length]
   rw [e2] at hlen ⊢
   rcases Nat.lt_or_ge c (s.length+1) with hroom | hroom
   ·have:=Any2.slices_Insert_int_end_grow layIns (some ⟨g,0,none⟩) s.length c b 0 1 1 (s.map (Value.int .i64)) [.int .i64 x] w (by omega) hnc hroom (by omega) hcl rfl (fun h=>by cases h) (fun a ha j u hj=>by cases ha; rw [Addr.add_lit]; exact hcells j u hj) hvs h1v
    refine this.mono ?_
    rintro e w' ⟨rfl,rfl⟩
    refine ⟨_,rfl,rd_of_blk (s:=s++[x]) (rest:=(Builtin.zeroCells (Value.int .i64 0).cells (grownCap w (s.length+1) c 3 - (s.length+1))).toList) (t:=3) ?_ (by rw [hlen]; exact grownCap_ge w (s.length+1) c _) hlen.symm,fun k hk=>new hk,Chg.of_below ((Below.refl _ w).drew.alloc (Nat.le_refl _) _)⟩
    refine blk_new rfl ?_
    rw [arr_app,List.map_append]; rfl
   ·have hmid:∃ t0 tl',tl=t0::tl':=by
     cases tl with
     | nil=>simp at htll; omega
     | cons t0 tl'=>exact ⟨t0,tl',rfl⟩
    obtain ⟨t0,tl',rfl⟩:=hmid
    have:=Any2.slices_Insert_int_end_room layIns g 0 s.length c b 0 1 1 [.int .i64 x] w (by omega) hroom hmax rfl (fun j hj=>by have:=hsome (s.length+j) (by omega); rwa [← Nat.add_assoc] at this) (fun j _=>hfz _) hvs h1v
    refine this.mono ?_
    rintro e w' ⟨rfl,rfl⟩
    obtain ⟨b1,c1⟩:=setCells_blk [Value.int .i64 x] [t0] (s.map (Value.int .i64)) tl' s.length w hbb rfl (by simp)
    rw [Nat.zero_add]
    refine ⟨_,rfl,rd_of_blk (s:=s++[x]) (rest:=tl') (t:=3) (by rw [List.map_append]; simpa using b1) (by rw [hlen]; exact hroom) hlen.symm,fun k hk=>own hk,chgo c1⟩
open Go Go.Ann Go.RowKit Go.Shelf
def insP(s:List Int)(x:Int):List Int:=s.take (s.countP (·<x))++x::s.drop (s.countP (·<x))
def delP(s:List Int)(x:Int):List Int:=s.filter (fun y=>!decide (y=x))
def setP(s:List Int)(o:OpT):Option (List Int × Int) :=
 if o.Method=12 then some (s,if o.Arg∈s then 1 else 0)
 else if o.Method=10 then (if o.Arg∈s then some (s,0) else some (insP s o.Arg,1))
 else if o.Method=11 then (if o.Arg∈s then some (delP s o.Arg,1) else some (s,0))
 else none
theorem count_zero{x y:Int}{r:List Int}(h:∀ a∈r,y<a)(hx:x≤y):r.countP (·<x)=0:=by
 rw [List.countP_eq_zero]
 intro a ha
 have:=h a ha
 simp; omega
theorem insP_cons_lt{y x:Int}{r:List Int}(h:y<x):insP (y::r) x=y::insP r x:=by
 unfold insP
 rw [List.countP_cons_of_pos (by simpa using h)]
 rfl
theorem insP_cons_ge{y x:Int}{r:List Int}(hs:∀ a∈r,y<a)(h:x≤y):insP (y::r) x=x::y::r:=by
 unfold insP
 rw [List.countP_cons_of_neg (by simp; omega),count_zero hs h]
 rfl
theorem insP_mem{x a:Int}{s:List Int}:a∈insP s x↔a=x∨a∈s:=by
 unfold insP
 rw [List.mem_append,List.mem_cons]
 have:a∈s↔a∈s.take (s.countP (·<x))∨a∈s.drop (s.countP (·<x)):=by rw [← List.mem_append,List.take_append_drop]
 rw [this]
 constructor
 ·rintro (h | h | h)
  ·exact .inr (.inl h)
  ·exact .inl h
  ·exact .inr (.inr h)
 ·rintro (h | h | h)
  ·exact .inr (.inl h)
  ·exact .inl h
  ·exact .inr (.inr h)
theorem insP_sorted{x:Int}:∀ {s:List Int},s.Pairwise (· < ·)→x ∉ s→(insP s x).Pairwise (· < ·)
 | [],_,_=>by simp [insP]
 | y::r,hs,hx=>by
  obtain ⟨h1,h2⟩:=List.pairwise_cons.1 hs
  have hne:x≠y:=fun e=>hx (by rw [e]; exact List.mem_cons_self ..)
  rcases Int.lt_or_le y x with h | h
  ·rw [insP_cons_lt h]
   refine List.pairwise_cons.2 ⟨fun a ha=>?_,insP_sorted h2 fun hm=>hx (List.mem_cons_of_mem _ hm)⟩
   rcases insP_mem.1 ha with e | ha
   ·omega
   ·exact h1 a ha
  ·rw [insP_cons_ge h1 h]
   refine List.pairwise_cons.2 ⟨fun a ha=>?_,hs⟩
   rcases List.mem_cons.1 ha with e | ha
   ·omega
   ·have:=h1 a ha; omega
theorem delP_sorted{x:Int}{s:List Int}(hs:s.Pairwise (· < ·)):(delP s x).Pairwise (· < ·):=hs.filter _
theorem delP_cut{x:Int}:∀ {s:List Int},s.Pairwise (· < ·)→x∈s→s.countP (·<x)<s.length∧s.take (s.countP (·<x))++s.drop (s.countP (·<x)+1)=delP s x
 | y::r,hs,hx=>by
  obtain ⟨h1,h2⟩:=List.pairwise_cons.1 hs
  rcases Int.lt_or_le y x with h | h
  ·have hr:x∈r:=by
    rcases List.mem_cons.1 hx with e | e
    ·omega
    ·exact e
   obtain ⟨i1,i2⟩:=delP_cut h2 hr
   rw [List.countP_cons_of_pos (by simpa using h)]
   refine ⟨by simp; omega,?_⟩
   rw [List.take_succ_cons,List.drop_succ_cons,List.cons_append,i2]
   unfold delP
   rw [List.filter_cons_of_pos (by simp; omega)]
  ·have e:x=y:=by
    rcases List.mem_cons.1 hx with e | e
    ·exact e
    ·have:=h1 x e; omega
   subst e
   rw [List.countP_cons_of_neg (by simp),count_zero h1 (Int.le_refl _)]
   refine ⟨by simp,?_⟩
   unfold delP
   rw [List.filter_cons_of_neg (by simp),List.take_zero,List.nil_append,List.drop_succ_cons,List.drop_zero]
   exact (List.filter_eq_self.2 fun a ha=>by have:=h1 a ha; simp; omega).symm
theorem flag_ok(b:Bool)(w:World):Ret Tryz.prog 119 [.bool b] w fun u w'=>u=.int .i64 (if b=true then 1 else 0)∧w'=w:=by
 refine ent119 _ _ _ ?_
 cases b
 ·simp (disch:=first|omega|exact zF rfl|exact zG rfl|exact fun h=>h|(simp only[zA,zB,zC,zD,bytesW];omega)) only[go_sem]
 ·simp (disch:=first|omega|exact zF rfl|exact zG rfl|exact fun h=>h|(simp only[zA,zB,zC,zD,bytesW];omega)) only[go_sem]
theorem own_blk{w:World}{B n:Nat}{v:Value}{s:List Int}(h:w.ownsRow B 3 1 v n (s.flatMap intE))(h0:0<n):∃ g cap rest,v=.slice (some ⟨g,0,none⟩) n cap∧n≤cap∧cap≤9223372036854775807∧B≤g∧Blk w g (s.map (Value.int .i64)++rest).toArray 3:=by
 rcases h.2 with ⟨rfl,h1⟩ | ⟨g,c,cur,rfl,hg,hb,hnc,hcm,hcs,htk⟩
 ·omega
 ·rw [intE_map,Nat.mul_one] at htk
  refine ⟨g,c,cur.toList.drop n,rfl,hnc,hcm,hg,?_⟩
  rw [← htk,List.take_append_drop]; exact hb
theorem set_ok(v:Value)(s:List Int)(o:OpT)(w:World)(B:Nat)(hB:B≤w.heap.size)(h:w.ownsRow B 3 1 v s.length (s.flatMap intE))(hl:s.length≤1000000)(hs:s.Pairwise (· < ·)) :
  Ret Tryz.prog 98 [v,.agg o.enc.toArray] w fun u w'=>StepR w w' v (setP s o) u∧Chg (fun k=>v.ownBlock=some k) w w':=by
 obtain ⟨a,c,rfl,_⟩:=own_slice h
 refine ent98 _ _ _ _ ?_
 have ho:=o.at
 have hw1:Below w.heap.size w (w.alloc (.cells o.enc.toArray 52)):=(Below.refl _ w).alloc (Nat.le_refl _) _
 have hr:RdS w 1 intE (.slice a s.length c) s:=RdS.of_own' h s rfl rfl
 have hsp:∀ a' n c',Value.slice a s.length c=.slice (some a') n c'→n≠0→a'.spot=none:=fun a' n c' e hn=>by
  cases e
  obtain ⟨g,cap,rest,e,_⟩:=own_blk h (by omega)
  cases e; rfl
 simp (disch:=first|omega|exact zF rfl|exact zG rfl|exact fun h=>h|(simp only[zA,zB,zC,zD,bytesW];omega)) only[go_sem,ho]
 refine Ret.mono (bsearch_ok _ s o.Arg _ (hr.below hw1 (by decide)) hsp hl (hs.imp fun h=>Int.le_of_lt h)) ?_
 rintro _ w2 ⟨rfl,b2⟩
 have bb:=Below.next hw1 b2
 have cb:∀ {S:Nat→Prop},Chg S w w2:=Chg.of_below bb
 have hB2:Blk w2 w.heap.size o.enc.toArray 52:=Blk.new.below b2 Blk.new.lt
 have r2:=hB2.rules
 have same:∀ {n:Int} {b:Bool},setP s o=some (s,n)→StepR w w2 (.slice a s.length c) (setP s o) (.tuple #[.slice a s.length c,.int .i64 n,.bool true]):=fun e=>⟨_,_,_,rfl,by
  rw [e]; exact ⟨rfl,rfl,hr.below bb (by decide),fun k hk=>.inl (slFoot_own hk)⟩⟩
 have hcle:=List.countP_le_length (p:=fun y:Int=>decide (y<o.Arg)) (l:=s)
 have own2:=(cb (S:=fun _=>False)).own h fun _ _ h=>h
 by_cases m12:o.Method=12
 ·cases hin:s.contains o.Arg with
  | true =>
   have e:setP s o=some (s,1):=by unfold setP; rw [if_pos m12,if_pos (by simpa using hin)]
   simp (disch:=first|omega|exact zF rfl|exact zG rfl|exact fun h=>h|(simp only[zA,zB,zC,zD,bytesW];omega)) only[go_sem,c98S5,r2,ho,m12]
   refine Ret.mono (flag_ok _ _) ?_
   rintro _ _ ⟨rfl,rfl⟩
   simp (disch:=first|omega|exact zF rfl|exact zG rfl|exact fun h=>h|(simp only[zA,zB,zC,zD,bytesW];omega)) only[go_sem,c98S5]
   exact ⟨same (b:=true) e,cb⟩
  | false =>
   have e:setP s o=some (s,0):=by unfold setP; rw [if_pos m12,if_neg (by simpa using hin)]
   simp (disch:=first|omega|exact zF rfl|exact zG rfl|exact fun h=>h|(simp only[zA,zB,zC,zD,bytesW];omega)) only[go_sem,c98S5,r2,ho,m12]
   refine Ret.mono (flag_ok _ _) ?_
   rintro _ _ ⟨rfl,rfl⟩
   simp (disch:=first|omega|exact zF rfl|exact zG rfl|exact fun h=>h|(simp only[zA,zB,zC,zD,bytesW];omega)) only[go_sem,c98S5]
   exact ⟨same (b:=true) e,cb⟩
 by_cases m10:o.Method=10
 ·cases hin:s.contains o.Arg with
  | true =>
   have e:setP s o=some (s,0):=by unfold setP; rw [if_neg m12,if_pos m10,if_pos (by simpa using hin)]
   simp (disch:=first|omega|exact zF rfl|exact zG rfl|exact fun h=>h|(simp only[zA,zB,zC,zD,bytesW];omega)) only[go_sem,c98S5,r2,ho,m10]
   refine Ret.mono (flag_ok _ _) ?_
   rintro _ _ ⟨rfl,rfl⟩
   simp (disch:=first|omega|exact zF rfl|exact zG rfl|exact fun h=>h|(simp only[zA,zB,zC,zD,bytesW];omega)) only[go_sem,c98S5]
   exact ⟨same (b:=true) e,cb⟩
  | false =>
   have e:setP s o=some (insP s o.Arg,1):=by unfold setP; rw [if_neg m12,if_pos m10,if_neg (by simpa using hin)]
   simp (disch:=first|omega|exact zF rfl|exact zG rfl|exact fun h=>h|(simp only[zA,zB,zC,zD,bytesW];omega)) only[go_sem,c98S5,r2,ho,m10]
   refine bsW_ones ty25mkI rfl rfl (by decide) (by decide) (intE_one _) ?_
   simp (disch:=first|omega|exact zF rfl|exact zG rfl|exact fun h=>h|(simp only[zA,zB,zC,zD,bytesW];omega)) only[go_sem,c98S5]
   have b3:=(Below.refl w2.heap.size w2).alloc (Nat.le_refl _) (.cells #[.int .i64 o.Arg] 3)
   have own3:=(Chg.of_below (S:=fun _=>False) b3).own own2 fun _ _ h=>h
   have hsz:=b2.size
   have hsz1:=bb.size
   refine .inl ⟨by kernel_rfl,Ret.mono (ins_ok _ s (s.countP (·<o.Arg)) o.Arg w2.heap.size _ B (by simp; omega) own3 Blk.new (fun e=>?_) hcle hl) ?_⟩
   ·have:=World.ownsRow.lt h _ e
    omega
   rintro u w4 ⟨h4,f4,c4⟩
   simp (disch:=first|omega|exact zF rfl|exact zG rfl|exact fun h=>h|(simp only[zA,zB,zC,zD,bytesW];omega)) only[go_sem,c98S5]
   refine ⟨⟨_,_,_,rfl,?_⟩,(cb.trans (Chg.of_below b3)).trans c4⟩
   rw [e]
   refine ⟨rfl,rfl,h4,fun k hk=>(f4 k hk).imp id fun h=>?_⟩
   simp only [World.size_alloc] at h
   omega
 by_cases m11:o.Method=11
 ·cases hin:s.contains o.Arg with
  | true =>
   have hmem:o.Arg∈s:=by simpa using hin
   have e:setP s o=some (delP s o.Arg,1):=by unfold setP; rw [if_neg m12,if_neg m10,if_pos m11,if_pos hmem]
   obtain ⟨d1,d2⟩:=delP_cut hs hmem
   simp (disch:=first|omega|exact zF rfl|exact zG rfl|exact fun h=>h|(simp only[zA,zB,zC,zD,bytesW];omega)) only[go_sem,c98S5,r2,ho,m11]
   obtain ⟨g,cap,rest,e1,hnc,hcm,hg,hblk⟩:=own_blk own2 (by omega)
   cases e1
   refine ⟨⟨by omega,by omega⟩,.inl ⟨by kernel_rfl,Ret.mono (delete_ok g c (s.countP (·<o.Arg)) s rest w2 hblk hnc hcm d1) ?_⟩⟩
   rintro _ w4 ⟨rfl,⟨rest',h4⟩,c4⟩
   simp (disch:=first|omega|exact zF rfl|exact zG rfl|exact fun h=>h|(simp only[zA,zB,zC,zD,bytesW];omega)) only[go_sem,c98S5]
   rw [d2] at h4
   have hlen:s.length - 1=(delP s o.Arg).length:=by rw [← d2]; simp; omega
   refine ⟨⟨_,_,_,rfl,?_⟩,cb.trans ⟨c4.os,c4.tape,c4.output,c4.size,fun k hk hS=>c4.block k hk fun e=>hS (by rw [e]; rfl)⟩⟩
   rw [e]
   exact ⟨rfl,rfl,rd_of_blk h4 (by omega) hlen,fun k hk=>.inl (by have:=slFoot_own hk; exact this)⟩
  | false =>
   have e:setP s o=some (s,0):=by unfold setP; rw [if_neg m12,if_neg m10,if_pos m11,if_neg (by simpa using hin)]
   simp (disch:=first|omega|exact zF rfl|exact zG rfl|exact fun h=>h|(simp only[zA,zB,zC,zD,bytesW];omega)) only[go_sem,c98S5,r2,ho,m11]
   refine Ret.mono (flag_ok _ _) ?_
   rintro _ _ ⟨rfl,rfl⟩
   simp (disch:=first|omega|exact zF rfl|exact zG rfl|exact fun h=>h|(simp only[zA,zB,zC,zD,bytesW];omega)) only[go_sem,c98S5]
   exact ⟨same (b:=true) e,cb⟩
 ·have e:setP s o=none:=by unfold setP; rw [if_neg m12,if_neg m10,if_neg m11]
  cases hin:s.contains o.Arg
  all_goals
   simp (disch:=first|omega|exact zF rfl|exact zG rfl|exact fun h=>h|(simp only[zA,zB,zC,zD,bytesW];omega)) only[go_sem,c98S5,r2,ho,m10,m11,m12]
   exact ⟨⟨_,_,_,rfl,by rw [e]⟩,cb⟩
open Go Go.Ann Go.RowKit Go.Shelf
def numL(s:List Int)(o:OpT):Option (List Int × Int):=match s with | [x]=>numP x o | _=>none
theorem numL_not{s:List Int}{o:OpT}(h:∀ x,s=[x]→False):numL s o=none:=by
 unfold numL
 split
 ·exact absurd rfl (h _)
 ·rfl
def doP(s:List Int)(o:OpT):Option (List Int × Int) :=
 if o.Kind=1∨o.Kind=2 then numL s o
 else if o.Kind=3∨o.Kind=4 then listP s o
 else if o.Kind=5 then setP s o
 else if o.Kind=6 then (if o.Method=13∧s=[] then some ([o.Proc],0) else if o.Method=14∧s=[o.Proc] then some ([],0) else none)
 else none
def stepP(s:List Int)(o:OpT):Option (List Int) :=
 match doP s o with
 | some (t,n)=>if o.Done=true∧n≠o.Result then none else some t
 | none=>none
def StepF(w w':World)(r:Option (List Int × Int))(t:Value):Prop :=
 ∃ u a ok,t=.tuple #[u,.int .i64 a,.bool ok]∧match r with
  | none=>ok=false
  | some (s,n)=>ok=true∧a=n∧RdS w' 1 intE u s∧∀ k,slFoot u k→w.heap.size≤k
theorem StepR.fresh{w w2 w3:World}{v t:Value}{r:Option (List Int × Int)}(h:StepR w2 w3 v r t)(hv:∀ k,v.ownBlock=some k→w.heap.size≤k)(hs:w.heap.size≤w2.heap.size):StepF w w3 r t:=by
 obtain ⟨u,a,ok,e,hm⟩:=h
 refine ⟨u,a,ok,e,?_⟩
 cases r with
 | none=>exact hm
 | some p =>
  obtain ⟨s,n⟩:=p
  obtain ⟨h1,h2,h3,h4⟩:=hm
  exact ⟨h1,h2,h3,fun k hk=>(h4 k hk).elim (hv k) fun h=>Nat.le_trans hs h⟩
theorem do_ok(v:Value)(s:List Int)(o:OpT)(w:World)(h:RdS w 1 intE v s)(hl:s.length≤1000000)(hs:o.Kind=5→s.Pairwise (· < ·)) :
  Ret Tryz.prog 73 [v,.agg o.enc.toArray] w fun u w'=>StepF w w' (doP s o) u∧Below w.heap.size w w':=by
 refine ent73 _ _ _ _ ?_
 have ho:=o.at
 have hw1:Below w.heap.size w (w.alloc (.cells o.enc.toArray 52)):=(Below.refl _ w).alloc (Nat.le_refl _) _
 simp (disch:=first|omega|exact zF rfl|exact zG rfl|exact fun h=>h|(simp only[zA,zB,zC,zD,bytesW];omega)) only[go_sem]
 refine Ret.mono (iclone_ok v s _ (h.below hw1 (by decide)) hl) ?_
 rintro u w2 ⟨own2,b2⟩
 have bb:=Below.next hw1 b2
 have hB2:Blk w2 w.heap.size o.enc.toArray 52:=Blk.new.below b2 Blk.new.lt
 have r2:=hB2.rules
 have hl11:okSize o.enc.toArray 11=true:=rfl
 obtain ⟨a,c,rfl,hac⟩:=own_slice own2
 have rd2:RdS w2 1 intE (.slice a s.length c) s:=RdS.of_own' own2 s rfl rfl
 have lt2:∀ k,(Value.slice a s.length c).ownBlock=some k→w.heap.size≤k:=fun k hk=>by
  have:=(World.ownsRow.lt own2 k hk).1
  simp only [World.size_alloc] at this; omega
 have hsz1:w.heap.size+1≤w2.heap.size:=by have:=b2.size; simpa using this
 have chg:∀ {w':World},Chg (fun k=>(Value.slice a s.length c).ownBlock=some k) w2 w'→Below w.heap.size w w':=fun hc=>bb.trans (hc.below bb.size fun k hk e=>by have:=lt2 k e; omega)
 have bad:∀ {u:Value} {n:Int},doP s o=none→StepF w w2 (doP s o) (.tuple #[u,.int .i64 n,.bool false]):=fun e=>⟨_,_,_,rfl,by rw [e]⟩
 have number:o.Kind=1∨o.Kind=2→(∀ x,s=[x]→False)∨∃ x,s=[x]:=fun _=>by
  cases s with
  | nil=>exact .inl fun x e=>by cases e
  | cons x r=>cases r with
   | nil=>exact .inr ⟨x,rfl⟩
   | cons y r=>exact .inl fun x e=>by cases e
 have hd1:o.Kind=1∨o.Kind=2→doP s o=numL s o:=fun e=>by unfold doP; rw [if_pos e]
 by_cases k1:o.Kind=1
 ·simp (disch:=first|omega|exact zF rfl|exact zG rfl|exact fun h=>h|(simp only[zA,zB,zC,zD,bytesW];omega)) only[go_sem,c73S8,r2,ho,k1]
  rcases number (.inl k1) with hn | ⟨x,rfl⟩
  ·have hne:(s.length:Int)≠1:=fun e=>by
    obtain ⟨x,hx⟩:=List.length_eq_one_iff.1 (show s.length=1 by omega)
    exact hn x hx
   refine ⟨fun _=>⟨bad ?_,bb⟩,fun e=>absurd e hne⟩
   rw [hd1 (.inl k1),numL_not hn]
  ·refine ⟨fun e=>absurd rfl e,fun _=>?_⟩
   simp (disch:=first|omega|exact zF rfl|exact zG rfl|exact fun h=>h|(simp only[zA,zB,zC,zD,bytesW];omega)) only[go_sem,c73S8,r2]
   refine Ret.mono (number_ok _ x o w2 rd2) ?_
   rintro _ w3 ⟨h3,b3⟩
   have h3':=StepR.fresh h3 lt2 (by omega)
   obtain ⟨u3,a3,ok3,rfl,hm⟩:=h3
   simp (disch:=first|omega|exact zF rfl|exact zG rfl|exact fun h=>h|(simp only[zA,zB,zC,zD,bytesW];omega)) only[go_sem,c73S8]
   rw [hd1 (.inl k1)]
   exact ⟨h3',Below.next bb b3⟩
 by_cases k2:o.Kind=2
 ·simp (disch:=first|omega|exact zF rfl|exact zG rfl|exact fun h=>h|(simp only[zA,zB,zC,zD,bytesW];omega)) only[go_sem,c73S8,r2,ho,k2]
  rcases number (.inr k2) with hn | ⟨x,rfl⟩
  ·have hne:(s.length:Int)≠1:=fun e=>by
    obtain ⟨x,hx⟩:=List.length_eq_one_iff.1 (show s.length=1 by omega)
    exact hn x hx
   refine ⟨fun _=>⟨bad ?_,bb⟩,fun e=>absurd e hne⟩
   rw [hd1 (.inr k2),numL_not hn]
  ·refine ⟨fun e=>absurd rfl e,fun _=>?_⟩
   simp (disch:=first|omega|exact zF rfl|exact zG rfl|exact fun h=>h|(simp only[zA,zB,zC,zD,bytesW];omega)) only[go_sem,c73S8,r2]
   refine Ret.mono (number_ok _ x o w2 rd2) ?_
   rintro _ w3 ⟨h3,b3⟩
   have h3':=StepR.fresh h3 lt2 (by omega)
   obtain ⟨u3,a3,ok3,rfl,hm⟩:=h3
   simp (disch:=first|omega|exact zF rfl|exact zG rfl|exact fun h=>h|(simp only[zA,zB,zC,zD,bytesW];omega)) only[go_sem,c73S8]
   rw [hd1 (.inr k2)]
   exact ⟨h3',Below.next bb b3⟩
 have hb1:(w.alloc (.cells o.enc.toArray 52)).heap.size≤w2.heap.size:=b2.size
 by_cases k3:o.Kind=3
 ·have hd:doP s o=listP s o:=by unfold doP; rw [if_neg (by simp [k1,k2]),if_pos (.inl k3)]
  simp (disch:=first|omega|exact zF rfl|exact zG rfl|exact fun h=>h|(simp only[zA,zB,zC,zD,bytesW];omega)) only[go_sem,c73S8,r2,ho,k3]
  refine Ret.mono (list_ok _ s o w2 _ hb1 own2 hl) ?_
  rintro _ w3 ⟨h3,c3⟩
  have h3':=StepR.fresh h3 lt2 (by omega)
  obtain ⟨u3,a3,ok3,rfl,hm⟩:=h3
  simp (disch:=first|omega|exact zF rfl|exact zG rfl|exact fun h=>h|(simp only[zA,zB,zC,zD,bytesW];omega)) only[go_sem,c73S8]
  rw [hd]
  exact ⟨h3',chg c3⟩
 by_cases k4:o.Kind=4
 ·have hd:doP s o=listP s o:=by unfold doP; rw [if_neg (by simp [k1,k2]),if_pos (.inr k4)]
  simp (disch:=first|omega|exact zF rfl|exact zG rfl|exact fun h=>h|(simp only[zA,zB,zC,zD,bytesW];omega)) only[go_sem,c73S8,r2,ho,k4]
  refine Ret.mono (list_ok _ s o w2 _ hb1 own2 hl) ?_
  rintro _ w3 ⟨h3,c3⟩
  have h3':=StepR.fresh h3 lt2 (by omega)
  obtain ⟨u3,a3,ok3,rfl,hm⟩:=h3
  simp (disch:=first|omega|exact zF rfl|exact zG rfl|exact fun h=>h|(simp only[zA,zB,zC,zD,bytesW];omega)) only[go_sem,c73S8]
  rw [hd]
  exact ⟨h3',chg c3⟩
 by_cases k5:o.Kind=5
 ·have hd:doP s o=setP s o:=by unfold doP; rw [if_neg (by simp [k1,k2]),if_neg (by simp [k3,k4]),if_pos k5]
  simp (disch:=first|omega|exact zF rfl|exact zG rfl|exact fun h=>h|(simp only[zA,zB,zC,zD,bytesW];omega)) only[go_sem,c73S8,r2,ho,k5]
  refine Ret.mono (set_ok _ s o w2 _ hb1 own2 hl (hs k5)) ?_
  rintro _ w3 ⟨h3,c3⟩
  have h3':=StepR.fresh h3 lt2 (by omega)
  obtain ⟨u3,a3,ok3,rfl,hm⟩:=h3
  simp (disch:=first|omega|exact zF rfl|exact zG rfl|exact fun h=>h|(simp only[zA,zB,zC,zD,bytesW];omega)) only[go_sem,c73S8]
  rw [hd]
  exact ⟨h3',chg c3⟩
 by_cases k6:o.Kind=6
 ·have hd:doP s o=(if o.Method=13∧s=[] then some ([o.Proc],0) else if o.Method=14∧s=[o.Proc] then some ([],0) else none):=by unfold doP; rw [if_neg (by simp [k1,k2]),if_neg (by simp [k3,k4]),if_neg k5,if_pos k6]
  have rdd:=hB2.drew.rules
  have bbd:Below w.heap.size w w2.drew:=bb.drew
  have rd2d:RdS w2.drew 1 intE (.slice a s.length c) s:=rd2.below (Below.refl _ w2).drew (by decide)
  have fresh:∀ {k n c'},slFoot (.slice (some ⟨w2.heap.size,0,none⟩) n c') k→w.heap.size≤k:=fun hk=>by
   have:=slFoot_own hk
   simp only [Value.ownBlock,Option.some.injEq] at this
   omega
  have badd:∀ {u:Value} {n:Int},doP s o=none→StepF w w2.drew (doP s o) (.tuple #[u,.int .i64 n,.bool false]):=fun e=>⟨_,_,_,rfl,by rw [e]⟩
  by_cases m13:o.Method=13
  ·simp (disch:=first|omega|exact zF rfl|exact zG rfl|exact fun h=>h|(simp only[zA,zB,zC,zD,bytesW];omega)) only[go_sem,c73S8,r2,ho,k6,m13]
   refine ⟨fun h0=>?_,fun h0=>?_⟩
   ·obtain rfl:s=[]:=List.eq_nil_of_length_eq_zero (by omega)
    refine bsW_ones ty25mkI rfl rfl (by decide) (by decide) (intE_one _) ?_
    simp (disch:=first|omega|exact zF rfl|exact zG rfl|exact fun h=>h|(simp only[zA,zB,zC,zD,bytesW];omega)) only[go_sem,c73S8]
    refine ⟨⟨_,_,_,rfl,?_⟩,Below.next bb ((Below.refl _ _).alloc (Nat.le_refl _) _)⟩
    rw [hd,if_pos ⟨m13,rfl⟩]
    exact ⟨rfl,rfl,int_new o.Proc rfl,fun k hk=>fresh hk⟩
   ·refine c73draw0 ?_
    simp (disch:=first|omega|exact zF rfl|exact zG rfl|exact fun h=>h|(simp only[zA,zB,zC,zD,bytesW];omega)) only[go_sem,c73S8,c73D0,rdd,ho,m13]
    have:s≠[]:=fun e=>h0 (by rw [e]; rfl)
    exact ⟨badd (by rw [hd]; simp [this,m13]),bbd⟩
  ·simp (disch:=first|omega|exact zF rfl|exact zG rfl|exact fun h=>h|(simp only[zA,zB,zC,zD,bytesW];omega)) only[go_sem,c73S8,r2,ho,k6,m13]
   refine c73draw0 ?_
   by_cases m14:o.Method=14
   ·simp (disch:=first|omega|exact zF rfl|exact zG rfl|exact fun h=>h|(simp only[zA,zB,zC,zD,bytesW];omega)) only[go_sem,c73S8,c73D0,rdd,ho,m14]
    refine ⟨fun h1=>?_,fun h1=>?_⟩
    ·obtain ⟨x,rfl⟩:=List.length_eq_one_iff.1 (show s.length=1 by omega)
     obtain ⟨p,rfl⟩:=rd2d.ptr (by simp)
     have ep:=RdS.int rd2d (k:=0) (by simp)
     rw [show p.add 0=p from rfl,show ([x]:List Int)[0]=x from rfl] at ep
     simp (disch:=first|omega|exact zF rfl|exact zG rfl|exact fun h=>h|(simp only[zA,zB,zC,zD,bytesW];omega)) only[go_sem,c73S8,c73D0,rdd,ho,ep]
     refine ⟨fun e=>⟨⟨_,_,_,rfl,?_⟩,bbd⟩,fun e=>⟨badd ?_,bbd⟩⟩
     ·rw [hd,if_neg (by simp),if_pos ⟨m14,by rw [e]⟩]
      exact ⟨rfl,rfl,RdS.nil,fun k hk=>absurd hk slFoot_none⟩
     ·rw [hd,if_neg (by simp),if_neg (by simp [e])]
    ·have:s≠[o.Proc]:=fun e=>h1 (by rw [e]; rfl)
     exact ⟨badd (by rw [hd]; simp [m13,this]),bbd⟩
   ·simp (disch:=first|omega|exact zF rfl|exact zG rfl|exact fun h=>h|(simp only[zA,zB,zC,zD,bytesW];omega)) only[go_sem,c73S8,c73D0,rdd,ho,m14]
    exact ⟨badd (by rw [hd]; simp [m13,m14]),bbd⟩
 ·have hd:doP s o=none:=by unfold doP; rw [if_neg (by simp [k1,k2]),if_neg (by simp [k3,k4]),if_neg k5,if_neg k6]
  simp (disch:=first|omega|exact zF rfl|exact zG rfl|exact fun h=>h|(simp only[zA,zB,zC,zD,bytesW];omega)) only[go_sem,c73S8,r2,ho,k1,k2,k3,k4,k5,k6]
  exact ⟨bad hd,bb⟩
theorem step_ok(v:Value)(s:List Int)(o:OpT)(w:World)(h:RdS w 1 intE v s)(hl:s.length≤1000000)(hs:o.Kind=5→s.Pairwise (· < ·)) :
  Ret Tryz.prog 41 [v,.agg o.enc.toArray] w fun u w'=>(∃ t ok,u=.tuple #[t,.bool ok]∧match stepP s o with
   | none=>ok=false
   | some s'=>ok=true∧RdS w' 1 intE t s'∧∀ k,slFoot t k→w.heap.size≤k)∧Below w.heap.size w w':=by
 refine ent41 _ _ _ _ ?_
 have ho:=o.at
 have hw1:Below w.heap.size w (w.alloc (.cells o.enc.toArray 52)):=(Below.refl _ w).alloc (Nat.le_refl _) _
 simp (disch:=first|omega|exact zF rfl|exact zG rfl|exact fun h=>h|(simp only[zA,zB,zC,zD,bytesW];omega)) only[go_sem]
 refine Ret.mono (do_ok v s o _ (h.below hw1 (by decide)) hl hs) ?_
 rintro _ w2 ⟨⟨t,a,ok,rfl,hm⟩,b2⟩
 have bb:=Below.next hw1 b2
 have hB2:Blk w2 w.heap.size o.enc.toArray 52:=Blk.new.below b2 Blk.new.lt
 have r2:=hB2.rules
 cases hd:doP s o with
 | none =>
  rw [hd] at hm
  subst hm
  have e:stepP s o=none:=by unfold stepP; rw [hd]
  simp (disch:=first|omega|exact zF rfl|exact zG rfl|exact fun h=>h|(simp only[zA,zB,zC,zD,bytesW];omega)) only[go_sem,c41S1,r2,ho]
  exact ⟨⟨_,_,rfl,by rw [e]⟩,bb⟩
 | some p =>
  obtain ⟨s',n⟩:=p
  rw [hd] at hm
  obtain ⟨rfl,rfl,h3,f3⟩:=hm
  have f3':∀ k,slFoot t k→w.heap.size≤k:=fun k hk=>by have:=f3 k hk; simp only [World.size_alloc] at this; omega
  obtain ⟨ta,tc,rfl,_⟩:=h3.form
  cases hdn:o.Done with
  | false =>
   have e:stepP s o=some s':=by unfold stepP; rw [hd]; simp [hdn]
   simp (disch:=first|omega|exact zF rfl|exact zG rfl|exact fun h=>h|(simp only[zA,zB,zC,zD,bytesW];omega)) only[go_sem,c41S1,r2,ho,hdn]
   exact ⟨⟨_,_,rfl,by rw [e]; exact ⟨rfl,h3,f3'⟩⟩,bb⟩
  | true =>
   simp (disch:=first|omega|exact zF rfl|exact zG rfl|exact fun h=>h|(simp only[zA,zB,zC,zD,bytesW];omega)) only[go_sem,c41S1,r2,ho,hdn]
   refine ⟨fun hne=>⟨⟨_,_,rfl,?_⟩,bb⟩,fun heq=>⟨⟨_,_,rfl,?_⟩,bb⟩⟩
   ·rw [show stepP s o=none by unfold stepP; rw [hd]; simp [hdn,hne]]
   ·rw [show stepP s o=some s' by unfold stepP; rw [hd]; simp [hdn,heq]]
    exact ⟨rfl,h3,f3'⟩
open Go Go.Ann Go.RowKit
def before(a b:OpT):Bool:=a.Done && decide (a.Return<b.Invoke)
theorem rbefore_ok(a b:OpT)(w:World):Ret Tryz.prog 99 [.agg a.enc.toArray,.agg b.enc.toArray] w fun v w'=>v=.bool (before a b)∧Below w.heap.size w w':=by
 refine ent99 _ _ _ _ ?_
 have ha:=a.at; have hb:=b.at
 simp (disch:=first|omega|exact zF rfl|exact zG rfl|exact fun h=>h|(simp only[zA,zB,zC,zD,bytesW];omega)) only[go_sem,ha,hb]
 unfold before
 refine ⟨fun h=>?_,fun h=>?_⟩
 ·rw [h]; exact ⟨by simp,by (repeat' (first | with_reducible exact Below.refl _ _ | with_reducible assumption | (with_reducible refine Below.drew ?_) | (with_reducible refine Below.alloc ?_ ?_ _) | (with_reducible refine Below.setCell ?_ ?_ _) | (with_reducible refine Below.fill ?_ ?_) | (with_reducible refine Below.via (by assumption) ?_ ?_) | omega | (simp only [World.size_alloc,World.size_drew,World.size_setCell,size_fill,bytesW]; omega)))⟩
 ·rw [h]; exact ⟨by simp,by (repeat' (first | with_reducible exact Below.refl _ _ | with_reducible assumption | (with_reducible refine Below.drew ?_) | (with_reducible refine Below.alloc ?_ ?_ _) | (with_reducible refine Below.setCell ?_ ?_ _) | (with_reducible refine Below.fill ?_ ?_) | (with_reducible refine Below.via (by assumption) ?_ ?_) | omega | (simp only [World.size_alloc,World.size_drew,World.size_setCell,size_fill,bytesW]; omega)))⟩
open Go Go.Ann Go.RowKit
def maskN:List Bool→Nat
 | []=>0
 | b::l=>b.toNat+2 * maskN l
open Go Go.Ann Go.RowKit
abbrev Spot:=List Bool × List Int
def mayP(l:List OpT)(d:List Bool)(i:Nat)(o:OpT):Bool:=!(d.getD i false) && ((l.map fun p=>before p o).zip d).all (fun p=>p.2 || !p.1)
def fullP(l:List OpT)(d:List Bool):Bool:=((l.map fun o=>o.Done).zip d).all (fun p=>p.2 || !p.1)
def addP(t:List Spot)(p:Spot):List Spot:=if p∈t then t else t++[p]
def goP(l:List OpT)(p:Spot)(t:List Spot)(k:Nat):List Spot :=
 match l[k]? with
 | none=>t
 | some o=>if mayP l p.1 k o then (match stepP p.2 o with
  | some s=>addP t (p.1.set k true,s)
  | none=>t) else t
def roundK(l:List OpT)(p:Spot)(t:List Spot):Nat→List Spot
 | 0=>t
 | k+1=>goP l p (roundK l p t k) k
def bfsN(l:List OpT)(t0:List Spot):Nat→List Spot
 | 0=>t0
 | i+1=>match (bfsN l t0 i)[i]? with
  | some p=>roundK l p (bfsN l t0 i) l.length
  | none=>bfsN l t0 i
theorem addP_pre(t:List Spot)(p:Spot):t <+: addP t p:=by
 unfold addP; split
 ·exact List.prefix_rfl
 ·exact List.prefix_append _ _
theorem goP_pre(l:List OpT)(p:Spot)(t:List Spot)(k:Nat):t <+: goP l p t k:=by
 unfold goP
 split
 ·exact List.prefix_rfl
 ·split
  ·split
   ·exact addP_pre _ _
   ·exact List.prefix_rfl
  ·exact List.prefix_rfl
theorem roundK_pre(l:List OpT)(p:Spot)(t:List Spot):∀ k,t <+: roundK l p t k
 | 0=>List.prefix_rfl
 | k+1=>(roundK_pre l p t k).trans (goP_pre _ _ _ _)
theorem bfsN_step(l:List OpT)(t0:List Spot)(i:Nat):bfsN l t0 i <+: bfsN l t0 (i+1):=by
 rw [bfsN]; split
 ·exact roundK_pre _ _ _ _
 ·exact List.prefix_rfl
theorem bfsN_mono(l:List OpT)(t0:List Spot){i j:Nat}(h:i≤j):bfsN l t0 i <+: bfsN l t0 j:=by
 induction h with
 | refl=>exact List.prefix_rfl
 | step _ ih=>exact ih.trans (bfsN_step _ _ _)
theorem bfsN_closed{l:List OpT}{t0:List Spot}{i j:Nat}(h:i≤j)(hc:(bfsN l t0 i).length≤i):bfsN l t0 j=bfsN l t0 i:=by
 induction h with
 | refl=>rfl
 | step h ih =>
  rename_i m
  have hm:i≤m:=h
  rw [bfsN,ih,List.getElem?_eq_none (by omega)]
def SearchR(l:List OpT)(t0:List Spot)(b:Int):Option (List Spot)→Prop
 | none=>∃ N,b<((bfsN l t0 N).length:Int)
 | some T=>(∃ N,bfsN l t0 N=T∧T.length≤N)∧(T.length:Int)≤b
theorem SearchR.one{l:List OpT}{t0:List Spot}{b:Int}{r r':Option (List Spot)}(h:SearchR l t0 b r)(k:SearchR l t0 b r'):r=r':=by
 have key:∀ {T:List Spot},SearchR l t0 b none→SearchR l t0 b (some T)→False:=by
  rintro T ⟨N,hN⟩ ⟨⟨M,rfl,hM⟩,hb⟩
  rcases Nat.le_total N M with hle | hle
  ·have:=(bfsN_mono l t0 hle).length_le; omega
  ·rw [bfsN_closed hle hM] at hN; omega
 cases r with
 | none=>cases r' with
  | none=>rfl
  | some T=>exact (key h k).elim
 | some T=>cases r' with
  | none=>exact (key k h).elim
  | some T' =>
   obtain ⟨⟨N,h1,h2⟩,_⟩:=h
   obtain ⟨⟨M,k1,k2⟩,_⟩:=k
   subst h1 k1
   rcases Nat.le_total N M with hle | hle
   ·rw [bfsN_closed hle h2]
   ·rw [bfsN_closed hle k2]
theorem wrap_ok(n:Int):I64 (IntKind.i64.wrap n):=by
 constructor <;> simp [IntKind.wrap,IntKind.signed,IntKind.bits] <;> omega
theorem kOk_i64{n:Int}(h:kOk .i64 n):I64 n:=by
 unfold kOk Lit.wf at h
 simp [IntKind.min,IntKind.max,IntKind.signed,IntKind.bits] at h
 exact ⟨by omega,by omega⟩
theorem numP_ok{x:Int}{o:OpT}{s:List Int}{n:Int}(hw:o.wf)(hx:I64 x)(h:numP x o=some (s,n)):Ok64 s∧s.length=1:=by
 have h1:∀ y:Int,I64 y→Ok64 [y]∧[y].length=1:=fun y hy=>⟨fun z hz=>by rw [List.mem_singleton] at hz; subst hz; exact hy,rfl⟩
 obtain ⟨_,_,_,_,_,ha,hs,_⟩:=hw
 unfold numP at h
 repeat' split at h
 all_goals first | (cases h; done) | skip
 all_goals simp only [Option.some.injEq,Prod.mk.injEq] at h; obtain ⟨rfl,_⟩:=h
 ·exact h1 _ hx
 ·exact h1 _ (kOk_i64 ha)
 ·exact h1 _ (kOk_i64 hs)
 ·exact h1 _ hx
 ·exact h1 _ (wrap_ok _)
 ·exact h1 _ (wrap_ok _)
theorem listP_ok{s:List Int}{o:OpT}{t:List Int}{n:Int}(hw:o.wf)(hx:Ok64 s)(h:listP s o=some (t,n)):Ok64 t∧t.length≤s.length+1:=by
 obtain ⟨_,_,_,_,_,ha,hs,_⟩:=hw
 unfold listP at h
 repeat' split at h
 all_goals first | (cases h; done) | skip
 all_goals simp only [Option.some.injEq,Prod.mk.injEq] at h; obtain ⟨rfl,_⟩:=h
 ·refine ⟨fun z hz=>?_,by simp⟩
  rcases List.mem_append.1 hz with hz | hz
  ·exact hx z hz
  ·rw [List.mem_singleton] at hz; subst hz; exact kOk_i64 ha
 ·exact ⟨fun z hz=>(by cases hz),by simp⟩
 ·exact ⟨fun z hz=>hx z (List.mem_cons_of_mem _ hz),by simp; omega⟩
 ·exact ⟨fun z hz=>(by cases hz),by simp⟩
 ·exact ⟨fun z hz=>hx z ((List.dropLast_subset _) hz),by simp; omega⟩
theorem setP_ok{s:List Int}{o:OpT}{t:List Int}{n:Int}(hw:o.wf)(hx:Ok64 s)(hs:s.Pairwise (· < ·))(h:setP s o=some (t,n)):Ok64 t∧t.length≤s.length+1∧t.Pairwise (· < ·):=by
 obtain ⟨_,_,_,_,_,ha,_,_⟩:=hw
 unfold setP at h
 repeat' split at h
 all_goals first | (cases h; done) | skip
 all_goals simp only [Option.some.injEq,Prod.mk.injEq] at h; obtain ⟨rfl,_⟩:=h
 ·exact ⟨hx,by omega,hs⟩
 ·exact ⟨hx,by omega,hs⟩
 ·exact ⟨hx,by omega,hs⟩
 ·rename_i hni _
  refine ⟨fun z hz=>?_,by unfold insP; simp; omega,insP_sorted hs hni⟩
  rcases insP_mem.1 hz with e | hz
  ·subst e; exact kOk_i64 ha
  ·exact hx z hz
 ·exact ⟨fun z hz=>hx z ((List.mem_filter.1 hz).1),by have:=List.length_filter_le (fun y=>!decide (y=o.Arg)) s; unfold delP; omega,delP_sorted hs⟩
 ·exact ⟨hx,by omega,hs⟩
theorem stepP_ok{s:List Int}{o:OpT}{t:List Int}(hw:o.wf)(hx:Ok64 s)(hs:o.Kind=5→s.Pairwise (· < ·))(h:stepP s o=some t):Ok64 t∧t.length≤s.length+1∧(o.Kind=5→t.Pairwise (· < ·)):=by
 unfold stepP at h
 split at h
 case h_2=>cases h
 rename_i t' n hd
 have e:t'=t:=by
  split at h
  ·cases h
  ·simpa using h
 subst e
 unfold doP at hd
 split at hd
 ·rename_i hk
  have h5:o.Kind≠5:=by omega
  unfold numL at hd
  split at hd
  ·obtain ⟨h1,h2⟩:=numP_ok hw (hx _ (List.mem_singleton.2 rfl)) hd
   exact ⟨h1,by omega,fun e=>absurd e h5⟩
  ·cases hd
 split at hd
 ·rename_i hk
  have h5:o.Kind≠5:=by omega
  obtain ⟨h1,h2⟩:=listP_ok hw hx hd
  exact ⟨h1,h2,fun e=>absurd e h5⟩
 split at hd
 ·rename_i hk
  obtain ⟨h1,h2,h3⟩:=setP_ok hw hx (hs hk) hd
  exact ⟨h1,h2,fun _=>h3⟩
 split at hd
 ·rename_i hk
  have h5:o.Kind≠5:=by omega
  repeat' split at hd
  all_goals first | (cases hd; done) | skip
  all_goals simp only [Option.some.injEq,Prod.mk.injEq] at hd; obtain ⟨rfl,_⟩:=hd
  ·obtain ⟨_,hp,_⟩:=hw
   exact ⟨fun z hz=>by rw [List.mem_singleton] at hz; subst hz; exact kOk_i64 hp,by simp,fun e=>absurd e h5⟩
  ·exact ⟨fun z hz=>(by cases hz),by simp,fun e=>absurd e h5⟩
 ·cases hd
open Go Go.Ann Go.RowKit
structure Sp where
 done:List Nat
 st:List (List Int)
deriving DecidableEq
def opAt(P:List (List OpT))(d:List Nat)(k:Nat):Option OpT:=(P[k]?).bind fun p=>(d[k]?).bind fun n=>p[n]?
def mvP(P:List (List OpT))(obs:List Int)(s:Sp)(k:Nat):Option (Int × Sp):=match opAt P s.done k with
 | none=>none
 | some o=>match stepP (s.st.getD (obs.idxOf o.Object) []) o with
  | none=>none
  | some t=>some (o.ID,⟨s.done.set k (s.done.getD k 0+1),s.st.set (obs.idxOf o.Object) t⟩)
def mvsP(P:List (List OpT))(obs:List Int)(s:Sp):List (Int × Sp):=(List.range P.length).filterMap (mvP P obs s)
def endsP(P:List (List OpT))(d:List Nat):Bool:=(List.range P.length).all fun k=>((P.getD k []).drop (d.getD k 0)).all fun o=>!o.Done
def remP:List (List OpT)→List Nat→Nat
 | p::P,n::d=>(p.length - n)+remP P d
 | _,_=>0
theorem remP_set:∀ {P:List (List OpT)} {d:List Nat} {k:Nat} {o:OpT},opAt P d k=some o→remP P (d.set k (d.getD k 0+1))+1=remP P d
 | [],_,_,_,h=>by simp [opAt] at h
 | p::P,[],k,_,h=>by
  unfold opAt at h
  cases k <;> simp at h
 | p::P,n::d,0,o,h=>by
  unfold opAt at h
  simp only [List.getElem?_cons_zero,Option.bind_some] at h
  have:=(List.getElem?_eq_some_iff.1 h).choose
  simp only [List.set_cons_zero,List.getD_cons_zero,remP]
  omega
 | p::P,n::d,k+1,o,h=>by
  have:=remP_set (P:=P) (d:=d) (k:=k) (o:=o) (by unfold opAt at h ⊢; simpa using h)
  simp only [List.set_cons_succ,List.getD_cons_succ,remP]
  omega
theorem mvP_rem{P:List (List OpT)}{obs:List Int}{s:Sp}{k:Nat}{m:Int × Sp}(h:mvP P obs s k=some m):remP P m.2.done+1=remP P s.done:=by
 unfold mvP at h
 split at h
 ·cases h
 ·rename_i o ho
  split at h
  ·cases h
  ·cases h
   exact remP_set ho
theorem mv_count:∀ (P:List (List OpT)) (d:List Nat),((List.range P.length).filter fun k=>(opAt P d k).isSome).length≤remP P d
 | [],d=>by simp
 | p::P,[]=>by
  have:((List.range (p::P).length).filter fun k=>(opAt (p::P) [] k).isSome)=[]:=List.filter_eq_nil_iff.2 fun k _=>by
   unfold opAt
   cases (p::P)[k]? <;> simp
  rw [this]
  exact Nat.zero_le _
 | p::P,n::d=>by
  have ih:=mv_count P d
  rw [List.length_cons,List.range_succ_eq_map,List.filter_cons]
  have e:∀ k,opAt (p::P) (n::d) (k+1)=opAt P d k:=fun k=>by unfold opAt; simp
  have e0:opAt (p::P) (n::d) 0=p[n]?:=by unfold opAt; simp
  have e2:((List.range P.length).map Nat.succ).filter (fun k=>(opAt (p::P) (n::d) k).isSome)=((List.range P.length).filter fun k=>(opAt P d k).isSome).map Nat.succ:=by
   rw [List.filter_map]
   congr 1
  rw [e2,e0]
  simp only [remP]
  split
  ·rename_i h
   have:=(List.getElem?_eq_some_iff.1 (Option.eq_some_of_isSome h)).choose
   rw [List.length_cons,List.length_map]
   omega
  ·rw [List.length_map]
   omega
theorem filterMap_len{α β:Type}(f:α→Option β)(g:α→Bool)(h:∀ a b,f a=some b→g a=true):∀ l:List α,(l.filterMap f).length≤(l.filter g).length
 | []=>Nat.le_refl _
 | a::l=>by
  have ih:=filterMap_len f g h l
  rw [List.filterMap_cons,List.filter_cons]
  cases e:f a with
  | none =>
   simp only
   split
   ·rw [List.length_cons]; omega
   ·exact ih
  | some b =>
   simp only
   rw [if_pos (h a b e),List.length_cons,List.length_cons]
   omega
theorem mvs_len(P:List (List OpT))(obs:List Int)(s:Sp):(mvsP P obs s).length≤remP P s.done:=by
 refine Nat.le_trans (filterMap_len _ (fun k=>(opAt P s.done k).isSome) (fun k m h=>?_) _) (mv_count P s.done)
 unfold mvP at h
 split at h
 ·cases h
 ·rename_i o ho
  rw [ho]; rfl
theorem mvs_rem{P:List (List OpT)}{obs:List Int}{s:Sp}{m:Int × Sp}(h:m∈mvsP P obs s):remP P m.2.done+1=remP P s.done:=by
 obtain ⟨k,_,hk⟩:=List.mem_filterMap.1 h
 exact mvP_rem hk
def addW(L:List Sp)(s:Sp):List Sp:=if s∈L then L else L++[s]
def roundW(P:List (List OpT))(obs:List Int)(L:List Sp)(s:Sp):List Sp:=(mvsP P obs s).foldl (fun L m=>addW L m.2) L
inductive BfsR(P:List (List OpT))(obs:List Int)(most:Int):List Sp→Nat→List Sp→Prop
 | full {L:List Sp} {i:Nat} (h:most<L.length):BfsR P obs most L i L
 | last {L:List Sp} {i:Nat} (h:L.length≤i):BfsR P obs most L i L
 | go {L r:List Sp} {i:Nat} (h:i<L.length) (hm:¬ most<L.length) (k:BfsR P obs most (roundW P obs L L[i]) (i+1) r):BfsR P obs most L i r
theorem addAll:∀ (ms:List (Int × Sp)) (L:List Sp),∃ t,ms.foldl (fun L m=>addW L m.2) L=L++t∧t.length≤ms.length∧∀ x∈t,∃ m∈ms,x=m.2
 | [],L=>⟨[],by simp,by simp,fun x hx=>by cases hx⟩
 | m::ms,L=>by
  obtain ⟨t,h1,h2,h3⟩:=addAll ms (addW L m.2)
  obtain ⟨t1,h4,h5⟩:∃ t1,addW L m.2=L++t1∧t1.length≤1∧∀ x∈t1,x=m.2:=by
   unfold addW
   split
   ·exact ⟨[],by simp,by simp,fun x hx=>by cases hx⟩
   ·exact ⟨[m.2],rfl,by simp,fun x hx=>by simpa using hx⟩
  refine ⟨t1++t,?_,?_,fun x hx=>?_⟩
  ·rw [List.foldl_cons,h1,h4,List.append_assoc]
  ·rw [List.length_append,List.length_cons]; omega
  ·rcases List.mem_append.1 hx with hx | hx
   ·exact ⟨m,List.mem_cons_self,h5.2 x hx⟩
   ·obtain ⟨m',hm,e⟩:=h3 x hx
    exact ⟨m',List.mem_cons_of_mem _ hm,e⟩
theorem roundW_out(P:List (List OpT))(obs:List Int)(L:List Sp)(s:Sp):∃ t,roundW P obs L s=L++t∧t.length≤remP P s.done∧∀ x∈t,remP P x.done+1=remP P s.done:=by
 obtain ⟨t,h1,h2,h3⟩:=addAll (mvsP P obs s) L
 exact ⟨t,h1,Nat.le_trans h2 (mvs_len P obs s),fun x hx=>by
  obtain ⟨m,hm,rfl⟩:=h3 x hx
  exact mvs_rem hm⟩
theorem BfsR.one{P:List (List OpT)}{obs:List Int}{most:Int}{L r r':List Sp}{i:Nat}(h:BfsR P obs most L i r)(k:BfsR P obs most L i r'):r=r':=by
 induction h with
 | full h =>
  cases k with
  | full=>rfl
  | last=>rfl
  | go _ hm=>exact absurd h hm
 | last h =>
  cases k with
  | full=>rfl
  | last=>rfl
  | go h'=>omega
 | go h hm _ ih =>
  cases k with
  | full h'=>exact absurd h' hm
  | last h'=>omega
  | go _ _ k'=>exact ih k'
open Go Go.Ann Go.RowKit
def lessP:List Int→List Int→Bool
 | [],b=>!b.isEmpty
 | _::_,[]=>false
 | x::a,y::b=>if x=y then lessP a b else decide (x<y)
theorem lessP_irr:∀ a:List Int,lessP a a=false
 | []=>rfl
 | x::a=>by rw [lessP,if_pos rfl]; exact lessP_irr a
theorem lessP_nil(b:List Int):lessP b []=false:=by cases b <;> rfl
theorem lessP_trans:∀ {a b c:List Int},lessP a b=true→lessP b c=true→lessP a c=true
 | [],b,[],h1,h2=>by rw [lessP_nil] at h2; cases h2
 | [],b,z::c,h1,h2=>rfl
 | x::a,[],c,h1,h2=>by cases h1
 | x::a,y::b,[],h1,h2=>by cases h2
 | x::a,y::b,z::c,h1,h2=>by
  rw [lessP] at h1 h2 ⊢
  by_cases e1:x=y
  ·subst e1
   rw [if_pos rfl] at h1
   by_cases e2:x=z
   ·subst e2
    rw [if_pos rfl] at h2 ⊢
    exact lessP_trans h1 h2
   ·rw [if_neg e2] at h2 ⊢
    exact h2
  ·rw [if_neg e1] at h1
   have h1':=of_decide_eq_true h1
   by_cases e2:y=z
   ·subst e2
    rw [if_neg e1]
    exact h1
   ·rw [if_neg e2] at h2
    have h2':=of_decide_eq_true h2
    rw [if_neg (by omega)]
    exact decide_eq_true (by omega)
theorem lessP_tri:∀ {a b:List Int},lessP a b=false→lessP b a=false→a=b
 | [],[],_,_=>rfl
 | [],y::b,h1,_=>by cases h1
 | x::a,[],_,h2=>by cases h2
 | x::a,y::b,h1,h2=>by
  rw [lessP] at h1 h2
  by_cases e:x=y
  ·subst e
   rw [if_pos rfl] at h1 h2
   rw [lessP_tri h1 h2]
  ·rw [if_neg e] at h1
   rw [if_neg (fun h=>e h.symm)] at h2
   have h1':=of_decide_eq_false h1
   have h2':=of_decide_eq_false h2
   omega
theorem lessP_asym{a b:List Int}(h:lessP a b=true):lessP b a=false:=by
 cases e:lessP b a
 ·rfl
 ·have:=lessP_trans h e
  rw [lessP_irr] at this
  cases this
def lesser:Option (List Int)→Option (List Int)→Option (List Int)
 | none,b=>b
 | some a,none=>some a
 | some a,some b=>if lessP b a then some b else some a
def bestM(P:List (List OpT))(obs:List Int):Nat→Sp→Option (List Int)
 | 0,s=>if endsP P s.done then some [] else none
 | n+1,s=>if endsP P s.done then some [] else ((mvsP P obs s).map fun m=>(bestM P obs n m.2).map (m.1::·)).foldl lesser none
inductive PathR(P:List (List OpT))(obs:List Int):Sp→List Int→Prop
 | nil {s:Sp} (h:endsP P s.done=true):PathR P obs s []
 | cons {s:Sp} {m:Int × Sp} {ids:List Int} (h:m∈mvsP P obs s) (k:PathR P obs m.2 ids):PathR P obs s (m.1::ids)
theorem lesser_some{a b:Option (List Int)}{x:List Int}(h:lesser a b=some x):a=some x∨b=some x:=by
 cases a with
 | none=>exact .inr h
 | some a =>
  cases b with
  | none=>exact .inl h
  | some b =>
   simp only [lesser] at h
   split at h
   ·exact .inr h
   ·exact .inl h
theorem lesser_le{a b:Option (List Int)}{x:List Int}(h:lesser a b=some x):(∀ y,a=some y→lessP y x=false)∧∀ y,b=some y→lessP y x=false:=by
 cases a with
 | none =>
  have h':b=some x:=h
  subst h'
  refine ⟨fun y hy=>(by cases hy),fun y hy=>?_⟩
  cases hy
  exact lessP_irr _
 | some a =>
  cases b with
  | none =>
   cases h
   refine ⟨fun y hy=>?_,fun y hy=>(by cases hy)⟩
   cases hy
   exact lessP_irr _
  | some b =>
   simp only [lesser] at h
   split at h
   ·rename_i e
    cases h
    refine ⟨fun y hy=>?_,fun y hy=>?_⟩
    ·cases hy; exact lessP_asym e
    ·cases hy; exact lessP_irr _
   ·rename_i e
    cases h
    refine ⟨fun y hy=>?_,fun y hy=>?_⟩
    ·cases hy; exact lessP_irr _
    ·cases hy; simpa using e
theorem less_le_trans{a b c:List Int}(h:lessP b a=false)(k:lessP c b=false):lessP c a=false:=by
 cases e:lessP c a
 ·rfl
 ·cases e2:lessP a b
  ·have:=lessP_tri e2 h
   subst this
   rw [k] at e
   cases e
  ·have:=lessP_trans e e2
   rw [k] at this
   cases this
theorem fold_lesser':∀ (l:List (Option (List Int))) (b:Option (List Int)),(∀ x,l.foldl lesser b=some x→(b=some x∨some x∈l)∧(∀ y,b=some y→lessP y x=false)∧∀ y,some y∈l→lessP y x=false)∧(l.foldl lesser b=none→b=none∧∀ y,some y ∉ l)
 | [],b=>by
  refine ⟨fun x h=>⟨.inl h,fun y hy=>?_,fun y hy=>?_⟩,fun h=>⟨h,fun y hy=>?_⟩⟩
  ·have h':b=some x:=h
   rw [h'] at hy
   cases hy
   exact lessP_irr _
  ·cases hy
  ·cases hy
 | a::l,b=>by
  obtain ⟨f1,f2⟩:=fold_lesser' l (lesser b a)
  rw [List.foldl_cons]
  refine ⟨fun x h=>?_,fun h=>?_⟩
  ·obtain ⟨g1,g2,g3⟩:=f1 x h
   have key:∀ {y},b=some y∨a=some y→lessP y x=false:=fun {y} hy=>by
    cases e:lesser b a with
    | none =>
     exfalso
     cases b with
     | none =>
      have e':a=none:=e
      rcases hy with hy | hy
      ·cases hy
      ·rw [e'] at hy; cases hy
     | some b =>
      cases a with
      | none=>cases e
      | some a=>simp only [lesser] at e; split at e <;> cases e
    | some z =>
     obtain ⟨k1,k2⟩:=lesser_le e
     refine less_le_trans (g2 z e) ?_
     rcases hy with hy | hy
     ·exact k1 y hy
     ·exact k2 y hy
   refine ⟨?_,fun y hy=>key (.inl hy),fun y hy=>?_⟩
   ·rcases g1 with g1 | g1
    ·rcases lesser_some g1 with h1 | h1
     ·exact .inl h1
     ·exact .inr (by rw [h1]; exact List.mem_cons_self)
    ·exact .inr (List.mem_cons_of_mem _ g1)
   ·rcases List.mem_cons.1 hy with hy | hy
    ·exact key (.inr hy.symm)
    ·exact g3 y hy
  ·obtain ⟨g1,g2⟩:=f2 h
   have hb:b=none∧a=none:=by
    cases b with
    | none=>exact ⟨rfl,g1⟩
    | some b =>
     cases a with
     | none=>cases g1
     | some a=>simp only [lesser] at g1; split at g1 <;> cases g1
   refine ⟨hb.1,fun y hy=>?_⟩
   rcases List.mem_cons.1 hy with hy | hy
   ·rw [hb.2] at hy; cases hy
   ·exact g2 y hy
theorem fold_lesser{l:List (Option (List Int))}:(∀ x,l.foldl lesser none=some x→some x∈l∧∀ y,some y∈l→lessP y x=false)∧(l.foldl lesser none=none→∀ y,some y ∉ l):=by
 obtain ⟨f1,f2⟩:=fold_lesser' l none
 refine ⟨fun x h=>?_,fun h=>(f2 h).2⟩
 obtain ⟨g1,_,g3⟩:=f1 x h
 exact ⟨g1.resolve_left (fun h=>by cases h),g3⟩
theorem best_path{P:List (List OpT)}{obs:List Int}:∀ {n:Nat} {s:Sp},remP P s.done≤n→(∀ x,bestM P obs n s=some x→PathR P obs s x∧∀ y,PathR P obs s y→lessP y x=false)∧(bestM P obs n s=none→∀ y,¬ PathR P obs s y)
 | n,s,hn=>by
  by_cases he:endsP P s.done=true
  ·have e:bestM P obs n s=some []:=by cases n <;> rw [bestM,if_pos he]
   rw [e]
   refine ⟨fun x h=>?_,fun h=>(by cases h)⟩
   cases h
   exact ⟨.nil he,fun y _=>lessP_nil y⟩
  ·cases n with
   | zero =>
    rw [bestM,if_neg he]
    refine ⟨fun x h=>(by cases h),fun _ y h=>?_⟩
    cases h with
    | nil h=>exact he h
    | cons h k=>have:=mvs_rem h; omega
   | succ n =>
    rw [bestM,if_neg he]
    obtain ⟨f1,f2⟩:=fold_lesser (l:=(mvsP P obs s).map fun m=>(bestM P obs n m.2).map (m.1::·))
    have ih:∀ m∈mvsP P obs s,_:=fun m hm=>best_path (P:=P) (obs:=obs) (n:=n) (s:=m.2) (by have:=mvs_rem hm; omega)
    refine ⟨fun x h=>?_,fun h y hy=>?_⟩
    ·obtain ⟨g1,g2⟩:=f1 x h
     obtain ⟨m,hm,e⟩:=List.mem_map.1 g1
     obtain ⟨z,hz,rfl⟩:=Option.map_eq_some_iff.1 e
     refine ⟨.cons hm ((ih m hm).1 z hz).1,fun y hy=>?_⟩
     cases hy with
     | nil h=>exact absurd h he
     | cons hm' k =>
      rename_i m' ids
      cases e':bestM P obs n m'.2 with
      | none=>exact absurd k ((ih m' hm').2 e' ids)
      | some z' =>
       have h1:=((ih m' hm').1 z' e').2 ids k
       have h2:=g2 (m'.1::z') (List.mem_map.2 ⟨m',hm',by rw [e']; rfl⟩)
       cases e3:lessP (m'.1::ids) (m.1::z)
       ·rfl
       ·exfalso
        cases e4:lessP (m.1::z) (m'.1::z')
        ·have e5:=lessP_tri h2 e4
         rw [← e5,lessP,if_pos rfl,h1] at e3
         cases e3
        ·have e5:=lessP_trans e3 e4
         rw [lessP,if_pos rfl,h1] at e5
         cases e5
    ·cases hy with
     | nil h=>exact he h
     | cons hm' k =>
      rename_i m' ids
      cases e':bestM P obs n m'.2 with
      | none=>exact (ih m' hm').2 e' ids k
      | some z'=>exact f2 h (m'.1::z') (List.mem_map.2 ⟨m',hm',by rw [e']; rfl⟩)
open Go Go.Ann Go.RowKit
theorem best_ends{P:List (List OpT)}{obs:List Int}{n:Nat}{s:Sp}(h:endsP P s.done=true):bestM P obs n s=some []:=by cases n <;> rw [bestM,if_pos h]
theorem best_fuel{P:List (List OpT)}{obs:List Int}:∀ {n m:Nat} {s:Sp},remP P s.done≤n→remP P s.done≤m→bestM P obs n s=bestM P obs m s
 | n,m,s,hn,hm=>by
  by_cases he:endsP P s.done=true
  ·rw [best_ends he,best_ends he]
  ·have nomv:remP P s.done=0→mvsP P obs s=[]:=fun h=>List.eq_nil_of_length_eq_zero (by have:=mvs_len P obs s; omega)
   cases n with
   | zero =>
    have h0:=nomv (by omega)
    cases m with
    | zero=>rfl
    | succ m=>rw [bestM,bestM,if_neg he,if_neg he,h0]; rfl
   | succ n =>
    cases m with
    | zero=>rw [bestM,bestM,if_neg he,if_neg he,nomv (by omega)]; rfl
    | succ m =>
     rw [bestM,bestM,if_neg he,if_neg he]
     congr 1
     refine List.map_congr_left fun x hx=>?_
     have:=mvs_rem hx
     rw [best_fuel (n:=n) (m:=m) (by omega) (by omega)]
def bestS(P:List (List OpT))(obs:List Int)(s:Sp):Option (List Int):=bestM P obs (remP P s.done) s
theorem bestS_eq{P:List (List OpT)}{obs:List Int}{n:Nat}{s:Sp}(h:remP P s.done≤n):bestM P obs n s=bestS P obs s:=best_fuel h (Nat.le_refl _)
theorem bestS_ends{P:List (List OpT)}{obs:List Int}{s:Sp}(h:endsP P s.done=true):bestS P obs s=some []:=best_ends h
theorem bestS_step{P:List (List OpT)}{obs:List Int}{s:Sp}(h:¬ endsP P s.done=true):bestS P obs s=((mvsP P obs s).map fun m=>(bestS P obs m.2).map (m.1::·)).foldl lesser none:=by
 rw [← bestS_eq (Nat.le_succ (remP P s.done)),bestM,if_neg h]
 congr 1
 refine List.map_congr_left fun x hx=>?_
 have:=mvs_rem hx
 rw [bestS_eq (by omega)]
theorem good_step{P:List (List OpT)}{obs:List Int}{s:Sp}:(bestS P obs s).isSome=(endsP P s.done || (mvsP P obs s).any fun m=>(bestS P obs m.2).isSome):=by
 by_cases he:endsP P s.done=true
 ·rw [bestS_ends he,he]; rfl
 ·rw [bestS_step he]
  obtain ⟨f1,f2⟩:=fold_lesser (l:=(mvsP P obs s).map fun m=>(bestS P obs m.2).map (m.1::·))
  have he':endsP P s.done=false:=by simpa using he
  rw [he',Bool.false_or]
  cases e:((mvsP P obs s).map fun m=>(bestS P obs m.2).map (m.1::·)).foldl lesser none with
  | none =>
   refine (List.any_eq_false.2 fun m hm h=>?_).symm
   obtain ⟨z,hz⟩:=Option.isSome_iff_exists.1 h
   exact f2 e (m.1::z) (List.mem_map.2 ⟨m,hm,by rw [hz]; rfl⟩)
  | some x =>
   obtain ⟨g1,_⟩:=f1 x e
   obtain ⟨m,hm,h⟩:=List.mem_map.1 g1
   obtain ⟨z,hz,_⟩:=Option.map_eq_some_iff.1 h
   exact (List.any_eq_true.2 ⟨m,hm,by rw [hz]; rfl⟩).symm
theorem best_first{P:List (List OpT)}{obs:List Int}{s:Sp}{y:List Int}(he:¬ endsP P s.done=true)(h:bestS P obs s=some y):∃ m∈mvsP P obs s,∃ z,y=m.1::z∧bestS P obs m.2=some z∧∀ m'∈mvsP P obs s,(bestS P obs m'.2).isSome=true→m.1≤m'.1:=by
 rw [bestS_step he] at h
 obtain ⟨g1,g2⟩:=(fold_lesser (l:=(mvsP P obs s).map fun m=>(bestS P obs m.2).map (m.1::·))).1 y h
 obtain ⟨m,hm,h1⟩:=List.mem_map.1 g1
 obtain ⟨z,hz,rfl⟩:=Option.map_eq_some_iff.1 h1
 refine ⟨m,hm,z,rfl,hz,fun m' hm' hs=>?_⟩
 obtain ⟨z',hz'⟩:=Option.isSome_iff_exists.1 hs
 have:=g2 (m'.1::z') (List.mem_map.2 ⟨m',hm',by rw [hz']; rfl⟩)
 rw [lessP] at this
 by_cases e:m'.1=m.1
 ·omega
 ·rw [if_neg e] at this
  have:=of_decide_eq_false this
  omega
open Go Go.Ann Go.RowKit
def isOp(P:List (List OpT))(d:List Nat)(id:Int)(k:Nat):Bool:=match opAt P d k with
 | some o=>decide (o.ID=id)
 | none=>false
def kOf(P:List (List OpT))(d:List Nat)(id:Int):Option Nat:=(List.range P.length).find? (isOp P d id)
def validP(P:List (List OpT))(obs:List Int):Sp→List Int→Bool
 | s,[]=>endsP P s.done
 | s,id::r=>match kOf P s.done id with
  | none=>false
  | some k=>match mvP P obs s k with
   | none=>false
   | some m=>validP P obs m.2 r
theorem mvP_op{P:List (List OpT)}{obs:List Int}{s:Sp}{k:Nat}{m:Int × Sp}(h:mvP P obs s k=some m):∃ o,opAt P s.done k=some o∧m.1=o.ID:=by
 unfold mvP at h
 split at h
 ·cases h
 ·rename_i o ho
  split at h
  ·cases h
  ·cases h
   exact ⟨o,ho,rfl⟩
theorem opAt_lt{P:List (List OpT)}{d:List Nat}{k:Nat}{o:OpT}(h:opAt P d k=some o):k<P.length:=by
 unfold opAt at h
 cases e:P[k]? with
 | none=>rw [e] at h; cases h
 | some p=>exact (List.getElem?_eq_some_iff.1 e).choose
theorem kOf_some{P:List (List OpT)}{d:List Nat}{id:Int}{k:Nat}(h:kOf P d id=some k):∃ o,opAt P d k=some o∧o.ID=id:=by
 have:=List.find?_some h
 unfold isOp at this
 split at this
 ·rename_i o ho
  exact ⟨o,ho,by simpa using this⟩
 ·cases this
theorem kOf_of{P:List (List OpT)}{d:List Nat}{k:Nat}{o:OpT}(hd:∀ k k' o o',opAt P d k=some o→opAt P d k'=some o'→o.ID=o'.ID→k=k')(h:opAt P d k=some o):kOf P d o.ID=some k:=by
 cases e:kOf P d o.ID with
 | none =>
  have:=List.find?_eq_none.1 e k (List.mem_range.2 (opAt_lt h))
  unfold isOp at this
  rw [h] at this
  simp at this
 | some k' =>
  obtain ⟨o',h1,h2⟩:=kOf_some e
  rw [hd k' k o' o h1 h h2]
theorem validP_path{P:List (List OpT)}{obs:List Int}(hd:∀ d k k' o o',opAt P d k=some o→opAt P d k'=some o'→o.ID=o'.ID→k=k'):∀ {ids:List Int} {s:Sp},validP P obs s ids=true↔PathR P obs s ids
 | [],s=>by
  rw [validP]
  exact ⟨fun h=>.nil h,fun h=>by cases h; assumption⟩
 | id::r,s=>by
  rw [validP]
  constructor
  ·intro h
   split at h
   ·cases h
   ·rename_i k hk
    split at h
    ·cases h
    ·rename_i m hm
     obtain ⟨o,h1,h2⟩:=mvP_op hm
     obtain ⟨o',h3,h4⟩:=kOf_some hk
     rw [h1] at h3
     cases h3
     have e:id=m.1:=by rw [h2,h4]
     rw [e]
     exact .cons (List.mem_filterMap.2 ⟨k,List.mem_range.2 (opAt_lt h1),hm⟩) ((validP_path hd).1 h)
  ·intro h
   cases h with
   | cons hm k =>
    rename_i m
    obtain ⟨i,hi,hmi⟩:=List.mem_filterMap.1 hm
    obtain ⟨o,h1,h2⟩:=mvP_op hmi
    have e:=kOf_of (hd s.done) h1
    rw [h2,e]
    simp only [hmi]
    exact (validP_path hd).2 k
open Go Go.Ann Go.RowKit
theorem txt_cut{l m:List Int}{a b:List UInt8}(hl:OkS l)(hm:OkS m)(h:txt l++a=txt m++b):l=m∧a=b:=by
 unfold txt at h
 rw [List.append_assoc,List.append_assoc] at h
 have h1:=hl.2
 have h2:=hm.2
 obtain ⟨hlen,k⟩:=varL_cut (by omega) (by omega) h
 have hl':=hl.1
 have hm':=hm.1
 clear h h1 h2 hl hm
 induction l generalizing m with
 | nil =>
  simp at hlen
  obtain rfl:=List.eq_nil_of_length_eq_zero hlen.symm
  exact ⟨rfl,k⟩
 | cons x l ih =>
  cases m with
  | nil=>simp at hlen
  | cons y m =>
   rw [List.flatMap_cons,List.flatMap_cons,List.append_assoc,List.append_assoc] at k
   obtain ⟨e,r⟩:=varL_cut (foldN_lt _ (hl' x (by simp))) (foldN_lt _ (hm' y (by simp))) k
   obtain ⟨e2,r2⟩:=ih (by simpa using hlen) r (fun n hn=>hl' n (List.mem_cons_of_mem _ hn)) fun n hn=>hm' n (List.mem_cons_of_mem _ hn)
   exact ⟨by rw [foldN_inj e,e2],r2⟩
theorem txts_inj:∀ {a b:List (List Int)},(∀ x∈a,OkS x)→(∀ x∈b,OkS x)→a.length=b.length→a.flatMap txt=b.flatMap txt→a=b
 | [],[],_,_,_,_=>rfl
 | [],_::_,_,_,h,_=>by simp at h
 | _::_,[],_,_,h,_=>by simp at h
 | x::a,y::b,ha,hb,hl,h=>by
  rw [List.flatMap_cons,List.flatMap_cons] at h
  obtain ⟨e,r⟩:=txt_cut (ha x (by simp)) (hb y (by simp)) h
  rw [e,txts_inj (fun z hz=>ha z (List.mem_cons_of_mem _ hz)) (fun z hz=>hb z (List.mem_cons_of_mem _ hz)) (by simpa using hl) r]
def spT(s:Sp):List UInt8:=s.done.map u8++s.st.flatMap txt
structure OkSp(p q:Nat)(s:Sp):Prop where
 dl:s.done.length=p
 sl:s.st.length=q
 small:∀ n∈s.done,n<256
 ok:∀ x∈s.st,OkS x
theorem u8_inj:∀ {a b:List Nat},(∀ n∈a,n<256)→(∀ n∈b,n<256)→a.map u8=b.map u8→a=b
 | [],[],_,_,_=>rfl
 | [],_::_,_,_,h=>by simp at h
 | _::_,[],_,_,h=>by simp at h
 | x::a,y::b,ha,hb,h=>by
  rw [List.map_cons,List.map_cons,List.cons.injEq] at h
  have e:=congrArg UInt8.toNat h.1
  have:=ha x (by simp)
  have:=hb y (by simp)
  simp [u8] at e
  rw [u8_inj (fun z hz=>ha z (List.mem_cons_of_mem _ hz)) (fun z hz=>hb z (List.mem_cons_of_mem _ hz)) h.2]
  congr 1
  omega
theorem spT_inj{p q:Nat}{a b:Sp}(ha:OkSp p q a)(hb:OkSp p q b)(h:spT a=spT b):a=b:=by
 unfold spT at h
 have hl:(a.done.map u8).length=(b.done.map u8).length:=by rw [List.length_map,List.length_map,ha.dl,hb.dl]
 obtain ⟨h1,h2⟩:=List.append_inj h hl
 have e1:=u8_inj ha.small hb.small h1
 have e2:=txts_inj ha.ok hb.ok (by rw [ha.sl,hb.sl]) h2
 cases a
 cases b
 simp only at e1 e2
 rw [e1,e2]
open Go Go.Ann Go.RowKit
theorem getD_set_ne{α:Type}{l:List α}{i j:Nat}{a d:α}(h:i≠j):(l.set i a).getD j d=l.getD j d:=by
 rw [List.getD_eq_getElem?_getD,List.getD_eq_getElem?_getD,List.getElem?_set_ne h]
theorem getD_set_eq{α:Type}{l:List α}{i:Nat}{a d:α}(h:i<l.length):(l.set i a).getD i d=a:=by
 rw [List.getD_eq_getElem?_getD,List.getElem?_set_self h]
 rfl
open Go Go.Ann Go.RowKit
theorem own_mono{w:World}{B B' e sz n:Nat}{v:Value}{xs:List Value}(h:w.ownsRow B e sz v n xs)(hb:B'≤B):w.ownsRow B' e sz v n xs:=by
 refine ⟨h.1,?_⟩
 rcases h.2 with h | ⟨g,c,cur,e1,hg,h2⟩
 ·exact .inl h
 ·exact .inr ⟨g,c,cur,e1,Nat.le_trans hb hg,h2⟩
def Inv.vs(D:List VS):Inv:=⟨fun w=>∀ p∈D,RdS w 1 intE p.1 p.2,fun k=>∃ p∈D,slFoot p.1 k,fun w w' h hk p hp=>RdS.loc (h p hp) fun k hf=>hk k ⟨p,hp,hf⟩⟩
abbrev PS:=Value × Nat × List Int
open Go Go.Ann Go.RowKit
abbrev VSpot:=Value × Spot
def ps(q:VSpot):PS:=(q.1,maskN q.2.1,q.2.2)
open Go Go.Ann Go.RowKit
theorem own_ptr{w:World}{B e sz n m c:Nat}{a:Option Addr}{xs:List Value}(h:w.ownsRow B e sz (.slice a n c) m xs)(h0:0<m):∃ g,a=some ⟨g,0,none⟩:=by
 rcases h.2 with ⟨_,h1⟩ | ⟨g,cap,cur,e,_⟩
 ·omega
 ·simp only [Value.slice.injEq] at e
  exact ⟨g,e.1⟩
def SearchV(w':World)(l:List OpT)(E:List (List Int))(U0:List (List Int))(r:Option (List Spot))(u:Value):Prop :=
 match r with
 | none=>u=.tuple #[.agg #[.slice none 0 0,.slice none 0 0,.int .i64 0],.int .i64 35]
 | some T=>∃ uv xv U X,u=.tuple #[.agg #[uv,xv,.int .i64 T.length],.int .i64 0]∧RowS w' uv U∧U.map Prod.snd=U0∧RowS w' xv X∧Uniq ((T.filter fun p=>fullP l p.1).map Prod.snd) (X.map Prod.snd)
theorem nodup_le{α:Type}[DecidableEq α]:∀ {u l:List α},u.Nodup→(∀ x∈u,x∈l)→u.length≤l.length
 | [],l,_,_=>by simp
 | x::u,l,hn,h=>by
  obtain ⟨h1,h2⟩:=List.nodup_cons.1 hn
  have hx:=h x (List.mem_cons_self ..)
  have:=nodup_le (l:=l.erase x) h2 fun y hy=>(List.mem_erase_of_ne (fun e=>h1 (by rw [← e]; exact hy))).2 (h y (List.mem_cons_of_mem _ hy))
  rw [List.length_erase_of_mem hx] at this
  have hp:0<l.length:=List.length_pos_of_mem hx
  rw [List.length_cons]; omega
open Go Go.Ann Go.RowKit
def strE(l:List UInt8):Value:=.string (ofL l)
theorem keyT_s:KeyT Tryz.prog 9 strE .string:=keyT_str Tryz.underlying9
theorem own_cell{w:World}{B0 e sz n m c g:Nat}{xs:List Value}(h:w.ownsRow B0 e sz (.slice (some ⟨g,0,none⟩) n c) m xs):(∀ j u,xs[j]?=some u→w.cell? ⟨g,j,none⟩=some u)∧∀ j,w.frozen? ⟨g,j,none⟩=false:=by
 rcases h.2 with ⟨e,_⟩ | ⟨g',c',cur,e,hg,hb,_,_,_,ht⟩
 ·cases e
 ·simp only [Value.slice.injEq,Option.some.injEq,Addr.mk.injEq] at e
  obtain ⟨⟨rfl,_⟩,_⟩:=e
  have hB:Blk w g cur e:=hb
  refine ⟨fun j u hu=>?_,hB.frozen⟩
  rw [hB.cell,← Array.getElem?_toList]
  rw [← ht,List.getElem?_take] at hu
  split at hu
  ·exact hu
  ·cases hu
open Go Go.Ann Go.RowKit Go.WideShapes
structure Seg where
 obj:Int
 kind:Int
 ops:List OpT
open Go Go.Ann Go.RowKit
def Tells(u:Value)(p:Prop):Prop:=∃ b,u=.bool b∧(b=true→p)
open Go Go.Ann Go.RowKit
theorem RowS.ones{w:World}{v:Value}{D:List VS}(h:RowS w v D):∀ u∈D.map Prod.fst,u.oneCell'=true:=fun u hu=>by
 obtain ⟨p,hp,rfl⟩:=List.mem_map.1 hu
 obtain ⟨a,c,e,_⟩:=(h.rd p hp).form
 rw [e]; rfl
theorem SearchV.form{w':World}{l:List OpT}{E U0:List (List Int)}{r:Option (List Spot)}{u:Value}(h:SearchV w' l E U0 r u):∃ ya yn yc xa xn xc nn ue,u=.tuple #[.agg #[.slice ya yn yc,.slice xa xn xc,.int .i64 nn],.int .i64 ue]∧(ue=if r.isSome then 0 else 35):=by
 cases r with
 | none=>exact ⟨_,_,_,_,_,_,_,_,h,rfl⟩
 | some T =>
  obtain ⟨_,_,_,_,e,g1,_,g2,_⟩:=h
  obtain ⟨_,_,rfl,_⟩:=g1.form
  obtain ⟨_,_,rfl,_⟩:=g2.form
  exact ⟨_,_,_,_,_,_,_,_,e,rfl⟩
open Go Go.Ann Go.RowKit
theorem path_one{Q:List OpT}{obs:List Int}(hQ:Q.Pairwise fun a _=>a.Done=true):∀ {s:Sp} {y:List Int},PathR [Q] obs s y→s.done.length=1→PathR [Q] obs s (((Q.drop (s.done.getD 0 0)).filter fun o=>o.Done).map OpT.ID):=by
 intro s y h
 induction h with
 | nil h =>
  intro hl
  unfold endsP at h
  have h1:=List.all_eq_true.1 h 0 (by simp)
  have e:(Q.drop (_root_.List.getD _ 0 0)).filter (fun o=>o.Done)=[]:=List.filter_eq_nil_iff.2 fun o ho=>by
   have:=List.all_eq_true.1 h1 o (by simpa using ho)
   simpa using this
  rw [e]
  exact .nil h
 | cons hm k ih =>
  rename_i s m ids
  intro hl
  obtain ⟨i,hi,hmi⟩:=List.mem_filterMap.1 hm
  obtain rfl:i=0:=by have:=List.mem_range.1 hi; simp at this; omega
  obtain ⟨o,ho,hid⟩:=mvP_op hmi
  have hm2:=hmi
  unfold mvP at hmi
  rw [ho] at hmi
  simp only at hmi
  split at hmi
  ·cases hmi
  ·rename_i t ht
   cases hmi
   have hop:Q[s.done.getD 0 0]?=some o:=by
    unfold opAt at ho
    rw [List.getElem?_eq_getElem (show 0<s.done.length by omega)] at ho
    rw [List.getD_eq_getElem?_getD,List.getElem?_eq_getElem (show 0<s.done.length by omega)]
    simpa using ho
   obtain ⟨hlt,rfl⟩:=List.getElem?_eq_some_iff.1 hop
   have ih':=ih (by simp [hl])
   simp only [getD_set_eq (show 0<s.done.length by omega)] at ih'
   rw [List.drop_eq_getElem_cons hlt,List.filter_cons]
   by_cases hd:Q[s.done.getD 0 0].Done=true
   ·rw [if_pos hd,List.map_cons]
    exact .cons (List.mem_filterMap.2 ⟨0,hi,hm2⟩) ih'
   ·rw [if_neg hd]
    have hlast:Q.drop (s.done.getD 0 0+1)=[]:=by
     rw [List.drop_eq_nil_iff]
     rcases Nat.lt_or_ge (s.done.getD 0 0+1) Q.length with h1 | h1
     ·exact absurd (List.pairwise_iff_getElem.1 hQ _ _ hlt h1 (by omega)) hd
     ·exact h1
    rw [hlast,List.filter_nil,List.map_nil]
    refine .nil ?_
    unfold endsP
    refine List.all_eq_true.2 fun k hk=>?_
    obtain rfl:k=0:=by have:=List.mem_range.1 hk; simp at this; omega
    show ((Q.drop (s.done.getD 0 0)).all fun o=>!o.Done)=true
    rw [List.drop_eq_getElem_cons hlt,hlast]
    simpa using hd
open Go Go.Ann Go.RowKit
section
variable {α:Type} (key:α→Int)
def Ordd(l:List α):Prop:=l.Pairwise fun a b=>key a≤key b
variable {key}
theorem Ordd.app{a b:List α}(ha:Ordd key a)(hb:Ordd key b)(h:∀ x∈a,∀ y∈b,key x≤key y):Ordd key (a++b):=List.pairwise_append.2 ⟨ha,hb,h⟩
theorem Ordd.left{a b:List α}(h:Ordd key (a++b)):Ordd key a:=(List.pairwise_append.1 h).1
theorem Ordd.right{a b:List α}(h:Ordd key (a++b)):Ordd key b:=(List.pairwise_append.1 h).2.1
theorem Ordd.mid{a b:List α}(h:Ordd key (a++b)):∀ x∈a,∀ y∈b,key x≤key y:=(List.pairwise_append.1 h).2.2
theorem ends_le{a b:List α}(ha:Ordd key a)(hb:Ordd key b)(h:∀ (h1:0<a.length) (h2:0<b.length),key (a[a.length - 1]'(by omega))≤key b[0]):∀ x∈a,∀ y∈b,key x≤key y:=by
 intro x hx y hy
 obtain ⟨i,hi,rfl⟩:=List.mem_iff_getElem.1 hx
 obtain ⟨j,hj,rfl⟩:=List.mem_iff_getElem.1 hy
 have h1:key a[i]≤key (a[a.length - 1]'(by omega)):=by
  rcases Nat.lt_or_ge i (a.length - 1) with h' | h'
  ·exact List.pairwise_iff_getElem.1 ha i (a.length - 1) hi (by omega) h'
  ·obtain rfl:i=a.length - 1:=by omega
   exact Int.le_refl _
 have h2:key b[0]≤key b[j]:=by
  rcases Nat.eq_zero_or_pos j with rfl | h'
  ·exact Int.le_refl _
  ·exact List.pairwise_iff_getElem.1 hb 0 j (by omega) hj h'
 have:=h (by omega) (by omega)
 omega
theorem sym_split{U1 U2 V1 V2 W1 W2:List α}(hU:Ordd key (U1++U2))(hV:Ordd key (V1++V2))(h1:∀ x∈U1,∀ y∈V2,key x≤key y)(h2:∀ x∈V1,∀ y∈U2,key x≤key y)
  (p1:W1.Perm (U1++V1)) (s1:Ordd key W1) (p2:W2.Perm (U2++V2)) (s2:Ordd key W2):(W1++W2).Perm (U1++U2++(V1++V2))∧Ordd key (W1++W2):=by
 refine ⟨?_,s1.app s2 fun x hx y hy=>?_⟩
 ·refine (p1.append p2).trans ?_
  rw [List.append_assoc,List.append_assoc]
  refine List.Perm.append_left U1 ?_
  rw [← List.append_assoc,← List.append_assoc]
  exact List.Perm.append_right V2 List.perm_append_comm
 ·rcases List.mem_append.1 (p1.mem_iff.1 hx) with hx | hx <;> rcases List.mem_append.1 (p2.mem_iff.1 hy) with hy | hy
  ·exact hU.mid x hx y hy
  ·exact h1 x hx y hy
  ·exact h2 x hx y hy
  ·exact hV.mid x hx y hy
theorem put_in{V1 V2:List α}{u:α}(hV:Ordd key (V1++V2))(h1:∀ x∈V1,key x≤key u)(h2:∀ y∈V2,key u≤key y):(V1++u::V2).Perm (u::(V1++V2))∧Ordd key (V1++u::V2):=by
 refine ⟨List.perm_middle,Ordd.app hV.left (List.pairwise_cons.2 ⟨h2,hV.right⟩) fun x hx y hy=>?_⟩
 rcases List.mem_cons.1 hy with rfl | hy
 ·exact h1 x hx
 ·exact hV.mid x hx y hy
end
theorem BfsR.pre{P:List (List OpT)}{obs:List Int}{most:Int}{L r:List Sp}{i:Nat}(h:BfsR P obs most L i r):L <+: r:=by
 induction h with
 | full=>exact List.prefix_refl _
 | last=>exact List.prefix_refl _
 | go h hm k ih =>
  obtain ⟨t,h1,_⟩:=roundW_out P obs _ _
  rw [h1] at ih
  exact (List.prefix_append _ _).trans ih
end Go.Proofs.YtoadmihnihfjkaaGreat

namespace Go.Proofs.YtoadmihnihfjkaaGreat.Cut
open Go Go.Ann Go.RowKit
def Pure(l:List OpT):Prop:=∀ a∈l,∀ b∈l,a.ID=b.ID→a=b
def segR(w:World)(s:Seg)(c:List Value):Prop:=∃ v,c=[.int .i64 s.obj,.int .i64 s.kind,v]∧RdS w 11 OpT.enc v s.ops∧(s.ops.length:Int)≤9223372036854775806
theorem segR.below{w w':World}(hb:Below w.heap.size w w')(s:Seg)(c:List Value)(h:segR w s c):segR w' s c:=by
 obtain ⟨v,rfl,h1,h2⟩:=h
 exact ⟨v,rfl,h1.below hb (by decide),h2⟩
end Go.Proofs.YtoadmihnihfjkaaGreat.Cut

namespace Go.Proofs.YtoadmihnihfjkaaGreat.Cut
open Go Go.Ann Go.RowKit
def cmpI(a b:Int):Int:=if a<b then -1 else if b<a then 1 else 0
end Go.Proofs.YtoadmihnihfjkaaGreat.Cut

namespace Go.Proofs.YtoadmihnihfjkaaGreat.Cut
open Go Go.Ann Go.RowKit
def orI(l:List Int):Int:=(l.find? fun x=>!decide (x=0)).getD 0
def earI(a b:OpT):Int:=orI [cmpI a.Invoke b.Invoke,cmpI a.ID b.ID]
def objI(a b:OpT):Int:=orI [cmpI a.Object b.Object,earI a b]
theorem chg_da{S:Nat→Prop}{w:World}{o:Obj}:Chg S w.drew (w.alloc o).drew:=(Chg.refl S w.drew).alloc o
end Go.Proofs.YtoadmihnihfjkaaGreat.Cut

namespace Go.Proofs.YtoadmihnihfjkaaGreat.Cut
open Go Go.Ann Go.RowKit
instance:Inhabited OpT:=⟨⟨0,0,0,0,0,0,0,false,0,0,0⟩⟩
def Sorts(cf:OpT→OpT→Int)(l l':List OpT):Prop:=l'.Perm l∧l'.Pairwise fun a b=>¬ cf b a<0
end Go.Proofs.YtoadmihnihfjkaaGreat.Cut

namespace Go.Proofs.YtoadmihnihfjkaaGreat.Cut
open Go Go.Ann Go.RowKit
theorem orI2_neg(x y:Int):decide (orI [x,y]<0)=decide (x<0∨x=0∧y<0):=by
 unfold orI
 by_cases hx:x=0
 ·subst hx
  by_cases hy:y=0
  ·subst hy; simp
  ·simp [List.find?_cons,hy]
 ·simp [List.find?_cons,hx]
theorem cmpI_neg(a b:Int):(cmpI a b<0)=(a<b):=by
 unfold cmpI
 apply propext
 split
 ·omega
 ·split <;> omega
theorem cmpI_zero(a b:Int):(cmpI a b=0)=(a=b):=by
 unfold cmpI
 apply propext
 split
 ·omega
 ·split <;> omega
theorem lt_ear(a b:OpT):ltOf earI a b=decide (a.Invoke<b.Invoke∨a.Invoke=b.Invoke∧a.ID<b.ID):=by
 unfold ltOf earI
 rw [orI2_neg]
 simp only [cmpI_neg,cmpI_zero]
theorem ear_neg(a b:OpT):(earI a b<0)=(a.Invoke<b.Invoke∨a.Invoke=b.Invoke∧a.ID<b.ID):=by
 have:=lt_ear a b
 unfold ltOf at this
 exact propext (decide_eq_decide.1 this)
theorem lt_obj(a b:OpT):ltOf objI a b=decide (a.Object<b.Object∨a.Object=b.Object∧(a.Invoke<b.Invoke∨a.Invoke=b.Invoke∧a.ID<b.ID)):=by
 unfold ltOf objI
 rw [orI2_neg]
 simp only [cmpI_neg,cmpI_zero,ear_neg]
theorem obj_neg(a b:OpT):(objI a b<0)=(a.Object<b.Object∨a.Object=b.Object∧(a.Invoke<b.Invoke∨a.Invoke=b.Invoke∧a.ID<b.ID)):=by
 have:=lt_obj a b
 unfold ltOf at this
 exact propext (decide_eq_decide.1 this)
def cutStep(q:Seg→OpT→Bool)(mk:OpT→Int × Int)(acc:List Seg)(o:OpT):List Seg :=
 match acc.getLast? with
 | some s=>if q s o then acc++[⟨(mk o).1,(mk o).2,[o]⟩] else acc.dropLast++[⟨s.obj,s.kind,s.ops++[o]⟩]
 | none=>[⟨(mk o).1,(mk o).2,[o]⟩]
def segC(s:Seg)(v:Value):List Value:=[.int .i64 s.obj,.int .i64 s.kind,v]
def segCells:List Seg→List Value→List Value
 | s::l,v::vs=>segC s v++segCells l vs
 | _,_=>[]
def segInvs:List Seg→List Value→List Inv
 | s::l,v::vs=>.rd 11 OpT.enc v s.ops::segInvs l vs
 | _,_=>[]
theorem segInvs_mem:∀ (l:List Seg) (vs:List Value) (i:Nat) (s:Seg) (v:Value),l[i]?=some s→vs[i]?=some v→Inv.rd 11 OpT.enc v s.ops∈segInvs l vs
 | a::l,b::vs,0,s,v,h1,h2=>by
  simp only [List.getElem?_cons_zero,Option.some.injEq] at h1 h2; subst h1; subst h2
  exact List.mem_cons_self
 | a::l,b::vs,i+1,s,v,h1,h2=>List.mem_cons_of_mem _ (segInvs_mem l vs i s v (by simpa using h1) (by simpa using h2))
theorem segInvs_snoc:∀ (l:List Seg) (vs:List Value) (s:Seg) (v:Value),vs.length=l.length→∀ a,a∈segInvs (l++[s]) (vs++[v])↔a=Inv.rd 11 OpT.enc v s.ops∨a∈segInvs l vs
 | [],[],s,v,_,a=>by simp [segInvs]
 | x::l,b::vs,s,v,h,a=>by simp only [List.cons_append,segInvs,List.mem_cons,segInvs_snoc l vs s v (by simpa using h)]; exact ⟨fun h=>h.elim (fun h=>.inr (.inl h)) fun h=>h.elim .inl fun h=>.inr (.inr h),fun h=>h.elim (fun h=>.inr (.inl h)) fun h=>h.elim .inl fun h=>.inr (.inr h)⟩
theorem cutStep_new{q:Seg→OpT→Bool}(mk:OpT→Int × Int)(ini:List Seg){s:Seg}{o:OpT}(h:q s o=true):cutStep q mk (ini++[s]) o=ini++[s]++[⟨(mk o).1,(mk o).2,[o]⟩]:=by
 unfold cutStep
 rw [List.getLast?_concat]
 simp only [h,if_true]
theorem cutStep_old{q:Seg→OpT→Bool}(mk:OpT→Int × Int)(ini:List Seg){s:Seg}{o:OpT}(h:q s o=false):cutStep q mk (ini++[s]) o=ini++[⟨s.obj,s.kind,s.ops++[o]⟩]:=by
 unfold cutStep
 rw [List.getLast?_concat,List.dropLast_concat]
 simp only [h]
 rfl
end Go.Proofs.YtoadmihnihfjkaaGreat.Cut

namespace Go.Proofs.YtoadmihnihfjkaaGreat.Cut
open Go Go.Ann Go.RowKit
def leq(a b:OpT):Bool:=decide (a.Invoke<b.Invoke∨a.Invoke=b.Invoke∧a.ID≤b.ID)
theorem leq_ear(a b:OpT):leq a b=true↔¬ earI b a<0:=by
 unfold leq
 rw [ear_neg,decide_eq_true_eq]
 omega
theorem offA_zero{a:Option Addr}{c sz:Nat}:offA a c 0 sz=a:=by
 unfold offA
 rw [Nat.zero_mul]
 split
 ·rfl
 ·cases a with
  | none=>rfl
  | some a=>exact congrArg some (by unfold Addr.add; rfl)
theorem rd_take{w:World}{sz n k cap:Nat}{a:Option Addr}{xs:List Value}(h:Rd w sz (.slice a n cap) n xs)(hk:k≤n):Rd w sz (.slice (offA a cap 0 sz) k cap) k (xs.take (k * sz)):=by
 rw [offA_zero]; exact h.take hk
theorem rd_drop{w:World}{sz n k cap:Nat}{a:Option Addr}{xs:List Value}(h:Rd w sz (.slice a n cap) n xs)(hk:k≤n):Rd w sz (.slice (offA a cap k sz) (n - k) (cap - k)) (n - k) (xs.drop (k * sz)):=by
 obtain ⟨h1,a',cap',he,h2,h3⟩:=h
 simp only [Value.slice.injEq,true_and] at he
 obtain ⟨rfl,rfl⟩:=he
 refine ⟨by rw [List.length_drop,h1,Nat.sub_mul],_,_,rfl,by omega,fun h=>?_⟩
 obtain ⟨ad,rfl,h4⟩:=h3 (by omega)
 refine ⟨ad.add (k * sz),by unfold offA; rw [if_neg (by omega)]; rfl,fun j u hu=>?_⟩
 rw [add_add]
 rw [List.getElem?_drop] at hu
 exact h4 _ u hu
theorem take_flat{l:List OpT}{k:Nat}:(l.flatMap OpT.enc).take (k * 11)=(l.take k).flatMap OpT.enc:=by
 induction l generalizing k with
 | nil=>simp
 | cons a l ih =>
  cases k with
  | zero=>simp
  | succ k=>rw [List.flatMap_cons,List.take_succ_cons,List.flatMap_cons,show (k+1) * 11=a.enc.length+k * 11 by rw [OpT.len]; omega,List.take_length_add_append,ih]
theorem drop_flat{l:List OpT}{k:Nat}:(l.flatMap OpT.enc).drop (k * 11)=(l.drop k).flatMap OpT.enc:=by
 induction l generalizing k with
 | nil=>simp
 | cons a l ih =>
  cases k with
  | zero=>simp
  | succ k=>rw [List.flatMap_cons,List.drop_succ_cons,show (k+1) * 11=a.enc.length+k * 11 by rw [OpT.len]; omega,List.drop_length_add_append,ih]
end Go.Proofs.YtoadmihnihfjkaaGreat.Cut

namespace Go.Proofs.YtoadmihnihfjkaaGreat.Cut
open Go Go.Ann Go.RowKit
def Piece(r:List OpT)(al:Option Addr)(cl:Nat)(s:Seg)(v:Value):Prop:=∃ f t,f≤t∧t≤r.length∧v=.slice (offA al cl f 11) (t - f) (cl - f)∧s.ops=(r.take t).drop f
theorem Piece.rd{w:World}{r:List OpT}{al:Option Addr}{cl:Nat}{s:Seg}{v:Value}(h:Piece r al cl s v)(hr:RdS w 11 OpT.enc (.slice al r.length cl) r):RdS w 11 OpT.enc v s.ops:=by
 obtain ⟨f,t,h1,h2,rfl,h3⟩:=h
 have e1:=rd_drop (Rd.take (k:=t) hr h2) h1
 rw [take_flat,drop_flat] at e1
 have e2:s.ops.length=t - f:=by rw [h3,List.length_drop,List.length_take]; omega
 unfold RdS
 rw [e2,h3]
 exact e1
end Go.Proofs.YtoadmihnihfjkaaGreat.Cut

namespace Go.Proofs.YtoadmihnihfjkaaGreat.Cut
open Go Go.Ann Go.RowKit
def ofObj(x:Int)(l:List OpT):List OpT:=l.filter fun o=>decide (o.Object=x)
structure ByObj(l:List OpT)(acc:List Seg):Prop where
 up:acc.Pairwise fun a b=>a.obj<b.obj
 sorts:∀ s∈acc,Sorts earI (ofObj s.obj l) s.ops
 kind:∀ s∈acc,∃ o r,s.ops=o::r∧s.kind=o.Kind
 all:∀ o∈l,∃ s∈acc,s.obj=o.Object
def Next(l:List OpT)(any:Bool)(last:Int)(k:Nat)(found:Bool)(next:Int):Prop :=
 (found=false∧∀ o∈l.take k,any=true∧o.Object≤last)∨(found=true∧(∃ o∈l.take k,o.Object=next)∧(any=true→last<next)∧∀ o∈l.take k,(any=true→last<o.Object)→next≤o.Object)
theorem mem_take_succ{l:List OpT}{k:Nat}(hk:k<l.length){o:OpT}:o∈l.take (k+1)↔o∈l.take k∨o=l[k]:=by
 rw [List.take_succ_eq_append_getElem hk,List.mem_append,List.mem_singleton]
theorem Next.take{l:List OpT}{any found:Bool}{last next:Int}{k:Nat}(h:Next l any last k found next)(hk:k<l.length)(h1:any=true→last<l[k].Object)(h2:found=true→l[k].Object<next):Next l any last (k+1) true l[k].Object:=by
 refine .inr ⟨rfl,⟨_,(mem_take_succ hk).2 (.inr rfl),rfl⟩,h1,fun o ho hlo=>?_⟩
 rcases (mem_take_succ hk).1 ho with ho | rfl
 ·rcases h with ⟨_,h⟩ | ⟨hf,_,_,h⟩
  ·have:=h o ho; have:=hlo this.1; omega
  ·have:=h o ho hlo; have:=h2 hf; omega
 ·exact Int.le_refl _
end Go.Proofs.YtoadmihnihfjkaaGreat.Cut

namespace Go.Proofs.YtoadmihnihfjkaaGreat.Cut
open Go Go.Ann Go.RowKit
theorem sorts_unique{l a b:List OpT}(hp:Pure l)(ha:Sorts earI l a)(hb:Sorts earI l b):a=b:=by
 refine List.Perm.eq_of_pairwise ?_ ha.2 hb.2 (ha.1.trans hb.1.symm)
 intro x y hx hy h1 h2
 refine hp x (ha.1.mem_iff.1 hx) y (hb.1.mem_iff.1 hy) ?_
 rw [ear_neg] at h1 h2
 omega
theorem byObj_unique{l:List OpT}(hp:Pure l):∀ {a b:List Seg},ByObj l a→ByObj l b→a=b:=by
 intro a b ha hb
 have mem:∀ {a b:List Seg},ByObj l a→ByObj l b→∀ s∈a,s∈b:=by
  intro a b ha hb s hs
  obtain ⟨o,r,e,hk⟩:=ha.kind s hs
  have ho:o∈ofObj s.obj l:=(ha.sorts s hs).1.mem_iff.1 (by rw [e]; exact List.mem_cons_self)
  unfold ofObj at ho
  rw [List.mem_filter,decide_eq_true_eq] at ho
  obtain ⟨t,ht,hto⟩:=hb.all o ho.1
  have heq:t.obj=s.obj:=hto.trans ho.2
  have hops:t.ops=s.ops:=by
   have h1:=hb.sorts t ht
   rw [heq] at h1
   refine sorts_unique (l:=ofObj s.obj l) (fun x hx y hy=>hp x ?_ y ?_) h1 (ha.sorts s hs)
   ·exact (List.mem_filter.1 hx).1
   ·exact (List.mem_filter.1 hy).1
  obtain ⟨o2,r2,e2,hk2⟩:=hb.kind t ht
  have:t=s:=by
   rw [hops,e] at e2
   cases t; cases s
   simp only at heq hops hk hk2 e2 ⊢
   simp only [List.cons.injEq] at e2
   subst heq; subst hops
   rw [hk,hk2,e2.1]
  rw [← this]; exact ht
 have nd:∀ {a:List Seg},ByObj l a→a.Nodup:=fun h=>h.up.imp fun h e=>by rw [e] at h; omega
 have hperm:a.Perm b:=(List.perm_ext_iff_of_nodup (nd ha) (nd hb)).2 fun s=>⟨mem ha hb s,mem hb ha s⟩
 exact List.Perm.eq_of_pairwise (le:=fun x y:Seg=>x.obj<y.obj) (fun x y _ _ h1 h2=>by omega) ha.up hb.up hperm
end Go.Proofs.YtoadmihnihfjkaaGreat.Cut

namespace Go.Proofs.YtoadmihnihfjkaaGreat.Cut
open Go Go.Ann Go.RowKit
theorem blk_okSt{w:World}{b:Nat}{cs:Array Value}{t:TypeId}(h:Blk w b cs t){vs:List Value}(h1:∀ u∈vs,u.oneCell'=true)(h2:vs.length≤cs.size):okSt w b 0 vs:=by
 rw [okSt_iff]
 refine ⟨h1,fun j hj=>⟨⟨cs[j]'(by omega),?_⟩,?_⟩⟩
 ·rw [h.rules.1,Nat.zero_add]; exact Array.getElem?_eq_getElem (by omega)
 ·exact h.rules.2.1 _
structure Row4 where
 kind:Int
 method:Int
 args:Int
 how:Int
def Row4.enc(r:Row4):List Value:=[.int .i64 r.kind,.int .i64 r.method,.int .i64 r.args,.int .i64 r.how]
theorem Row4.len(r:Row4):r.enc.length=4:=rfl
theorem Row4.one(r:Row4):∀ u∈r.enc,u.oneCell'=true:=by intro u hu; simp only [Row4.enc,List.mem_cons,List.not_mem_nil,or_false] at hu; rcases hu with rfl | rfl | rfl | rfl <;> rfl
theorem Row4.at(r:Row4):r.enc[0]?=some (.int .i64 r.kind)∧r.enc[1]?=some (.int .i64 r.method)∧r.enc[2]?=some (.int .i64 r.args)∧r.enc[3]?=some (.int .i64 r.how):=⟨rfl,rfl,rfl,rfl⟩
def rowsTable:List Row4:=[⟨1,1,0,2⟩,⟨1,2,1,0⟩,⟨1,3,2,1⟩,⟨2,1,0,3⟩,⟨2,4,0,0⟩,⟨2,5,0,0⟩,⟨3,6,1,0⟩,⟨3,7,0,4⟩,⟨4,8,1,0⟩,⟨4,9,0,4⟩,⟨5,10,1,1⟩,⟨5,11,1,1⟩,⟨5,12,1,1⟩,⟨6,13,0,0⟩,⟨6,14,0,0⟩]
theorem rows_ok(w:World):Ret Tryz.prog 92 [] w fun v w'=>RdS w' 4 Row4.enc v rowsTable∧Below w.heap.size w w':=by
 refine ent92 _ _ ?_
 simp (disch:=first|omega|exact zF rfl|exact zG rfl|exact fun h=>h|(simp only[zA,zB,zC,zD,bytesW];omega)) only[go_sem]
 refine bdW_built (cells:=(Row4.enc ⟨1,1,0,2⟩).toArray) (by kernel_rfl) ?_
 simp (disch:=first|omega|exact zF rfl|exact zG rfl|exact fun h=>h|(simp only[zA,zB,zC,zD,bytesW];omega)) only[go_sem]
 refine bdW_built (cells:=(Row4.enc ⟨1,2,1,0⟩).toArray) (by kernel_rfl) ?_
 simp (disch:=first|omega|exact zF rfl|exact zG rfl|exact fun h=>h|(simp only[zA,zB,zC,zD,bytesW];omega)) only[go_sem]
 refine bdW_built (cells:=(Row4.enc ⟨1,3,2,1⟩).toArray) (by kernel_rfl) ?_
 simp (disch:=first|omega|exact zF rfl|exact zG rfl|exact fun h=>h|(simp only[zA,zB,zC,zD,bytesW];omega)) only[go_sem]
 refine bdW_built (cells:=(Row4.enc ⟨2,1,0,3⟩).toArray) (by kernel_rfl) ?_
 simp (disch:=first|omega|exact zF rfl|exact zG rfl|exact fun h=>h|(simp only[zA,zB,zC,zD,bytesW];omega)) only[go_sem]
 refine bdW_built (cells:=(Row4.enc ⟨2,4,0,0⟩).toArray) (by kernel_rfl) ?_
 simp (disch:=first|omega|exact zF rfl|exact zG rfl|exact fun h=>h|(simp only[zA,zB,zC,zD,bytesW];omega)) only[go_sem]
 refine bdW_built (cells:=(Row4.enc ⟨2,5,0,0⟩).toArray) (by kernel_rfl) ?_
 simp (disch:=first|omega|exact zF rfl|exact zG rfl|exact fun h=>h|(simp only[zA,zB,zC,zD,bytesW];omega)) only[go_sem]
 refine bdW_built (cells:=(Row4.enc ⟨3,6,1,0⟩).toArray) (by kernel_rfl) ?_
 simp (disch:=first|omega|exact zF rfl|exact zG rfl|exact fun h=>h|(simp only[zA,zB,zC,zD,bytesW];omega)) only[go_sem]
 refine bdW_built (cells:=(Row4.enc ⟨3,7,0,4⟩).toArray) (by kernel_rfl) ?_
 simp (disch:=first|omega|exact zF rfl|exact zG rfl|exact fun h=>h|(simp only[zA,zB,zC,zD,bytesW];omega)) only[go_sem]
 refine bdW_built (cells:=(Row4.enc ⟨4,8,1,0⟩).toArray) (by kernel_rfl) ?_
 simp (disch:=first|omega|exact zF rfl|exact zG rfl|exact fun h=>h|(simp only[zA,zB,zC,zD,bytesW];omega)) only[go_sem]
 refine bdW_built (cells:=(Row4.enc ⟨4,9,0,4⟩).toArray) (by kernel_rfl) ?_
 simp (disch:=first|omega|exact zF rfl|exact zG rfl|exact fun h=>h|(simp only[zA,zB,zC,zD,bytesW];omega)) only[go_sem]
 refine bdW_built (cells:=(Row4.enc ⟨5,10,1,1⟩).toArray) (by kernel_rfl) ?_
 simp (disch:=first|omega|exact zF rfl|exact zG rfl|exact fun h=>h|(simp only[zA,zB,zC,zD,bytesW];omega)) only[go_sem]
 refine bdW_built (cells:=(Row4.enc ⟨5,11,1,1⟩).toArray) (by kernel_rfl) ?_
 simp (disch:=first|omega|exact zF rfl|exact zG rfl|exact fun h=>h|(simp only[zA,zB,zC,zD,bytesW];omega)) only[go_sem]
 refine bdW_built (cells:=(Row4.enc ⟨5,12,1,1⟩).toArray) (by kernel_rfl) ?_
 simp (disch:=first|omega|exact zF rfl|exact zG rfl|exact fun h=>h|(simp only[zA,zB,zC,zD,bytesW];omega)) only[go_sem]
 refine bdW_built (cells:=(Row4.enc ⟨6,13,0,0⟩).toArray) (by kernel_rfl) ?_
 simp (disch:=first|omega|exact zF rfl|exact zG rfl|exact fun h=>h|(simp only[zA,zB,zC,zD,bytesW];omega)) only[go_sem]
 refine bdW_built (cells:=(Row4.enc ⟨6,14,0,0⟩).toArray) (by kernel_rfl) ?_
 simp (disch:=first|omega|exact zF rfl|exact zG rfl|exact fun h=>h|(simp only[zA,zB,zC,zD,bytesW];omega)) only[go_sem]
 refine bsW_cells (cells:=(rowsTable.flatMap Row4.enc).toArray) ty144mkI (by decide) (by decide) (by kernel_rfl) ?_
 simp (disch:=first|omega|exact zF rfl|exact zG rfl|exact fun h=>h|(simp only[zA,zB,zC,zD,bytesW];omega)) only[go_sem]
 exact ⟨rd_new (w:=w) (sz:=4) (n:=15) (cs:=(rowsTable.flatMap Row4.enc).toArray) rfl,by (repeat' (first | with_reducible exact Below.refl _ _ | with_reducible assumption | (with_reducible refine Below.drew ?_) | (with_reducible refine Below.alloc ?_ ?_ _) | (with_reducible refine Below.setCell ?_ ?_ _) | (with_reducible refine Below.fill ?_ ?_) | (with_reducible refine Below.via (by assumption) ?_ ?_) | omega | (simp only [World.size_alloc,World.size_drew,World.size_setCell,size_fill,bytesW]; omega)))⟩
theorem rising_pairwise{l:List OpT}(h:∀ j,(h:j+1<l.length)→l[j].ID<l[j+1].ID):l.Pairwise fun a b=>a.ID<b.ID:=by
 rw [List.pairwise_iff_getElem]
 intro i j hi hj hij
 induction j with
 | zero=>omega
 | succ j ih =>
  rcases Nat.lt_or_ge i j with h1 | h1
  ·exact Int.lt_trans (ih (by omega) h1) (h j hj)
  ·obtain rfl:i=j:=by omega
   exact h i hj
theorem pair_id{l:List OpT}(hp:l.Pairwise fun a b=>a.ID<b.ID):Pure l:=fun a ha b hb e=>by
 obtain ⟨i,hi,rfl⟩:=List.mem_iff_getElem.1 ha
 obtain ⟨j,hj,rfl⟩:=List.mem_iff_getElem.1 hb
 rw [List.pairwise_iff_getElem] at hp
 rcases Nat.lt_trichotomy i j with h | rfl | h
 ·have:=hp i j hi hj h; omega
 ·rfl
 ·have:=hp j i hj hi h; omega
end Go.Proofs.YtoadmihnihfjkaaGreat.Cut

namespace Go.Proofs.YtoadmihnihfjkaaGreat.Cut
open Go Go.Ann Go.RowKit
def Tells(w:World)(fv:Value)(p:OpT→Bool):Prop:=∀ x w',Below w.heap.size w w'→callW Tryz.prog fv [.agg x.enc.toArray] w' fun u w''=>u=.bool (p x)∧Below w'.heap.size w' w''
def firstI(p:OpT→Bool)(l:List OpT):Int:=match l.findIdx? p with | some i=>i | none => -1
theorem firstI_at{p:OpT→Bool}{l:List OpT}{k:Nat}(h:k<l.length)(hp:p l[k]=true)(hb:∀ j,(h:j<l.length)→j<k→p l[j]=false):firstI p l=k:=by
 unfold firstI
 rw [List.findIdx?_eq_some_iff_getElem.2 ⟨h,hp,fun j hj=>by rw [hb j (by omega) hj]; decide⟩]
theorem firstI_none{p:OpT→Bool}{l:List OpT}(hb:∀ j,(h:j<l.length)→p l[j]=false):firstI p l = -1:=by
 unfold firstI
 rw [List.findIdx?_eq_none_iff.2 fun x hx=>by obtain ⟨j,hj,rfl⟩:=List.mem_iff_getElem.1 hx; exact hb j hj]
theorem firstI_any{p:OpT→Bool}{l:List OpT}:decide (0≤firstI p l)=l.any p:=by
 rcases h:l.any p with _ | _
 ·rw [firstI_none fun j hj=>by simpa using (List.any_eq_false.1 h) _ (List.getElem_mem hj)]; decide
 ·unfold firstI
  cases e:l.findIdx? p with
  | none=>rw [List.findIdx?_eq_none_iff] at e; obtain ⟨x,hx,hp⟩:=List.any_eq_true.1 h; rw [e x hx] at hp; cases hp
  | some i=>exact decide_eq_true (by show (0:Int)≤(i:Int); omega)
theorem indexFunc_ok(fv:Value)(p:OpT→Bool)(v:Value)(l:List OpT)(w:World)(h:RdS w 11 OpT.enc v l)(hf:Tells w fv p)(hl:(l.length:Int)≤9223372036854775806) :
  Ret Tryz.prog 38 [v,fv] w fun u w'=>u=.int .i64 (firstI p l)∧Below w.heap.size w w':=by
 obtain ⟨a,c,rfl,_⟩:=h.form
 refine ent38 _ _ _ _ ?_
 simp (disch:=first|omega|exact zF rfl|exact zG rfl|exact fun h=>h|(simp only[zA,zB,zC,zD,bytesW];omega)) only[go_sem]
 refine W_loopU (fun k:Nat=>[(8,.int .i64 k)]) (fun k w'=>Below w.heap.size w w'∧k≤l.length∧∀ j,(h:j<l.length)→j<k→p l[j]=false) (fun k=>l.length - k) 0 rfl ⟨Below.refl _ _,Nat.zero_le _,fun j _ h=>by omega⟩ ?_
 rintro k w1 ⟨hw,hk,he⟩
 by_cases hlt:k<l.length
 ·obtain ⟨q,rfl⟩:=h.ptr (by omega)
  have ek:=h.eltB hw OpT.len (by decide) hlt
  have ck:=cellsO_below hw (h.at OpT.len hlt)
  have hlt':(k:Int)<l.length:=by omega
  simp (disch:=first|omega|exact zF rfl|exact zG rfl|exact fun h=>h|(simp only[zA,zB,zC,zD,bytesW];omega)) only[go_sem,hlt',ck,ek]
  refine ⟨by omega,callW_mono (hf _ _ hw) ?_⟩
  rintro _ w2 ⟨rfl,hb⟩
  simp (disch:=first|omega|exact zF rfl|exact zG rfl|exact fun h=>h|(simp only[zA,zB,zC,zD,bytesW];omega)) only[go_sem,hlt']
  have hwt:=hw.trans (hb.mono hw.size)
  refine ⟨fun hp=>⟨(firstI_at hlt hp he).symm,hwt⟩,fun hp=>⟨⟨by omega,by omega⟩,k+1,rfl,⟨hwt,by omega,fun j h1 h2=>?_⟩,by omega⟩⟩
  rcases Nat.lt_or_ge j k with h' | h'
  ·exact he j h1 h'
  ·obtain rfl:j=k:=by omega
   exact hp
 ·have hlt':¬ (k:Int)<l.length:=by omega
  simp (disch:=first|omega|exact zF rfl|exact zG rfl|exact fun h=>h|(simp only[zA,zB,zC,zD,bytesW];omega)) only[go_sem,hlt']
  exact ⟨(firstI_none fun j h=>he j h (by omega)).symm,hw⟩
theorem containsFunc_ok(fv:Value)(p:OpT→Bool)(v:Value)(l:List OpT)(w:World)(h:RdS w 11 OpT.enc v l)(hf:Tells w fv p)(hl:(l.length:Int)≤9223372036854775806) :
  Ret Tryz.prog 42 [v,fv] w fun u w'=>u=.bool (l.any p)∧Below w.heap.size w w':=by
 refine ent42 _ _ _ _ ?_
 simp (disch:=first|omega|exact zF rfl|exact zG rfl|exact fun h=>h|(simp only[zA,zB,zC,zD,bytesW];omega)) only[go_sem]
 refine Ret.mono (indexFunc_ok _ p _ _ _ h hf hl) ?_
 rintro _ w1 ⟨rfl,hb⟩
 simp (disch:=first|omega|exact zF rfl|exact zG rfl|exact fun h=>h|(simp only[zA,zB,zC,zD,bytesW];omega)) only[go_sem]
 exact ⟨firstI_any,hb⟩
theorem isNaN_ok(a:Int)(w:World):Ret Tryz.prog 82 [.int .i64 a] w fun u w'=>u=.bool false∧w'=w:=by
 refine ent82 _ _ _ ?_
 simp (disch:=first|omega|exact zF rfl|exact zG rfl|exact fun h=>h|(simp only[zA,zB,zC,zD,bytesW];omega)) only[go_sem]
theorem compare_ok(a b:Int)(w:World):Ret Tryz.prog 53 [.int .i64 a,.int .i64 b] w fun u w'=>u=.int .i64 (cmpI a b)∧w'=w:=by
 refine ent53 _ _ _ _ ?_
 simp (disch:=first|omega|exact zF rfl|exact zG rfl|exact fun h=>h|(simp only[zA,zB,zC,zD,bytesW];omega)) only[go_sem]
 refine Ret.mono (isNaN_ok _ _) ?_
 rintro _ _ ⟨rfl,rfl⟩
 simp (disch:=first|omega|exact zF rfl|exact zG rfl|exact fun h=>h|(simp only[zA,zB,zC,zD,bytesW];omega)) only[go_sem]
 refine Ret.mono (isNaN_ok _ _) ?_
 rintro _ _ ⟨rfl,rfl⟩
 simp (disch:=first|omega|exact zF rfl|exact zG rfl|exact fun h=>h|(simp only[zA,zB,zC,zD,bytesW];omega)) only[go_sem]
 unfold cmpI
 refine ⟨fun h=>by rw [if_pos h],fun h=>⟨fun h2=>by rw [if_neg (by omega),if_pos h2],fun h2=>by rw [if_neg (by omega),if_neg (by omega)]⟩⟩
theorem find_at{α:Type}{p:α→Bool}:∀ {l:List α} {k:Nat} (h:k<l.length),p l[k]=true→(∀ j,(h:j<l.length)→j<k→p l[j]=false)→l.find? p=some l[k]
 | a::l,0,h,hp,_=>by rw [List.find?_cons_of_pos (by exact hp)]; rfl
 | a::l,k+1,h,hp,hb=>by
  rw [List.find?_cons_of_neg (by have:=hb 0 (by simp) (by omega); exact Bool.eq_false_iff.1 this)]
  exact find_at (l:=l) (k:=k) (by simpa using h) hp fun j h1 h2=>hb (j+1) (by simpa using h1) (by omega)
theorem or_ok(v:Value)(l:List Int)(w:World)(h:RdS w 1 (fun n=>[.int .i64 n]) v l)(hl:(l.length:Int)≤9223372036854775806) :
  Ret Tryz.prog 52 [v] w fun u w'=>u=.int .i64 ((l.find? (·≠0)).getD 0)∧w'=w:=by
 obtain ⟨a,c,rfl,_⟩:=h.form
 refine ent52 _ _ _ ?_
 simp (disch:=first|omega|exact zF rfl|exact zG rfl|exact fun h=>h|(simp only[zA,zB,zC,zD,bytesW];omega)) only[go_sem]
 refine W_loopU (fun k:Nat=>[(8,.int .i64 k)]) (fun k w'=>w'=w∧k≤l.length∧∀ j,(h:j<l.length)→j<k→l[j]=0) (fun k=>l.length - k) 0 rfl ⟨rfl,Nat.zero_le _,fun j _ h=>by omega⟩ ?_
 rintro k _ ⟨rfl,hk,he⟩
 by_cases hlt:k<l.length
 ·obtain ⟨q,rfl⟩:=h.ptr (by omega)
  have ck:=h.at1 (e1:=fun n=>.int .i64 n) hlt
  have hlt':(k:Int)<l.length:=by omega
  simp (disch:=first|omega|exact zF rfl|exact zG rfl|exact fun h=>h|(simp only[zA,zB,zC,zD,bytesW];omega)) only[go_sem,hlt',ck]
  refine ⟨by omega,fun hne=>?_,fun h0=>⟨⟨by omega,by omega⟩,k+1,rfl,⟨by omega,fun j h1 h2=>?_⟩,by omega⟩⟩
  ·rw [find_at hlt (by simpa using hne) fun j h h2=>by simpa using he j h h2]; rfl
  ·rcases Nat.lt_or_ge j k with h' | h'
   ·exact he j h1 h'
   ·obtain rfl:j=k:=by omega
    exact h0
 ·have hlt':¬ (k:Int)<l.length:=by omega
  simp (disch:=first|omega|exact zF rfl|exact zG rfl|exact fun h=>h|(simp only[zA,zB,zC,zD,bytesW];omega)) only[go_sem,hlt']
  rw [List.find?_eq_none.2 fun x hx=>by obtain ⟨j,hj,rfl⟩:=List.mem_iff_getElem.1 hx; simpa using he j hj (by omega)]
  rfl
end Go.Proofs.YtoadmihnihfjkaaGreat.Cut

namespace Go.Proofs.YtoadmihnihfjkaaGreat.Cut
open Go Go.Ann Go.RowKit
def Gr(w w':World):Prop:=∃ q os,w'=Go.Sort.grow (w.drewN q) os
theorem Gr.refl(w:World):Gr w w:=⟨0,#[],by rw [Go.Sort.grow_empty]; rfl⟩
theorem Gr.alloc{w w':World}(h:Gr w w')(o:Obj):Gr w (w'.alloc o):=by
 obtain ⟨q,os,rfl⟩:=h
 exact ⟨q,os++#[o],by rw [Go.Sort.alloc_eq_grow,Go.Sort.grow_grow]⟩
theorem Gr.drew{w w':World}(h:Gr w w'):Gr w w'.drew:=by
 obtain ⟨q,os,rfl⟩:=h
 exact ⟨q+1,os,rfl⟩
theorem Gr.trans{a b c:World}(h:Gr a b)(k:Gr b c):Gr a c:=by
 obtain ⟨q,os,rfl⟩:=h
 obtain ⟨r,ps,rfl⟩:=k
 exact ⟨q+r,os++ps,by rw [← Go.Sort.grow_grow]; show Go.Sort.grow (Go.Sort.grow ((a.drewN q).drewN r) os) ps=_; rw [World.drewN_drewN]⟩
theorem Gr.below{w w':World}(h:Gr w w'):Below w.heap.size w w':=by
 obtain ⟨q,os,rfl⟩:=h
 refine ⟨rfl,rfl,rfl,?_,fun k hk=>?_⟩
 ·show w.heap.size≤(w.heap++os).size
  rw [Array.size_append]; omega
 ·show (w.heap++os)[k]?=_
  rw [Array.getElem?_append_left hk]
theorem ints2_new{w:World}{b:Nat}{t:TypeId}(x y:Int)(hb:b=w.heap.size):RdS (w.alloc (.cells #[.int .i64 x,.int .i64 y] t)) 1 (fun n=>[.int .i64 n]) (.slice (some ⟨b,0,none⟩) 2 2) [x,y]:=by
 subst hb
 exact rd_new (n:=2) (cs:=#[.int .i64 x,.int .i64 y]) rfl
end Go.Proofs.YtoadmihnihfjkaaGreat.Cut

namespace Go.Proofs.YtoadmihnihfjkaaGreat.Cut
open Go Go.Ann Go.RowKit
theorem sortnil1(fv:Value)(w:World):Ret Tryz.prog 102 [.slice none 0 0,.int .i64 0,.int .i64 0,fv] w fun u w'=>w'=w:=by
 refine ent102 _ _ _ _ _ _ ?_
 simp (disch:=first|omega|exact zF rfl|exact zG rfl|exact fun h=>h|(simp only[zA,zB,zC,zD,bytesW];omega)) only[go_sem]
 refine ⟨⟨by decide,by decide⟩,?_⟩
 refine W_loopU (fun _:Unit=>[]) (fun _ w'=>w'=w) (fun _=>0) () rfl rfl ?_
 rintro _ _ rfl
 simp (disch:=first|omega|exact zF rfl|exact zG rfl|exact fun h=>h|(simp only[zA,zB,zC,zD,bytesW];omega)) only[go_sem]
theorem sortnil2(fv:Value)(l:Int)(w:World):Ret Tryz.prog 80 [.slice none 0 0,.int .i64 0,.int .i64 0,.int .i64 l,fv] w fun u w'=>w'=w:=by
 refine ent80 _ _ _ _ _ _ _ ?_
 simp (disch:=first|omega|exact zF rfl|exact zG rfl|exact fun h=>h|(simp only[zA,zB,zC,zD,bytesW];omega)) only[go_sem]
 refine W_loopU (fun _:Unit=>[]) (fun _ w'=>w'=w) (fun _=>0) () rfl rfl ?_
 rintro _ _ rfl
 simp (disch:=first|omega|exact zF rfl|exact zG rfl|exact fun h=>h|(simp only[zA,zB,zC,zD,bytesW];omega)) only[go_sem]
 refine ⟨⟨by decide,by decide⟩,Ret.mono (sortnil1 _ _) ?_⟩
 rintro _ _ rfl
 simp (disch:=first|omega|exact zF rfl|exact zG rfl|exact fun h=>h|(simp only[zA,zB,zC,zD,bytesW];omega)) only[go_sem]
theorem sortnil(fv:Value)(w:World):Ret Tryz.prog 50 [.slice none 0 0,fv] w fun u w'=>w'=w:=by
 refine ent50 _ _ _ _ ?_
 simp (disch:=first|omega|exact zF rfl|exact zG rfl|exact fun h=>h|(simp only[zA,zB,zC,zD,bytesW];omega)) only[go_sem]
 have hb:=Any.bits_Len (SlLaysF0.n15.bits (P:=Tryz.prog) (ρ:=laySortOps_ren) { laySortOps with }) 0 w (by omega) (by omega)
 have hb':Ret Tryz.prog 81 [.int .u64 (IntKind.u64.wrap 0)] w fun u w'=>u=.int .i64 (Lib.bitLen 0:Nat)∧w'=w:=hb.mono fun e w' ⟨h1,h2⟩=>⟨_,h1,rfl,h2⟩
 refine Ret.mono hb' ?_
 rintro _ _ ⟨rfl,rfl⟩
 simp (disch:=first|omega|exact zF rfl|exact zG rfl|exact fun h=>h|(simp only[zA,zB,zC,zD,bytesW];omega)) only[go_sem]
 refine Ret.mono (sortnil2 _ _ _) ?_
 rintro _ _ rfl
 simp (disch:=first|omega|exact zF rfl|exact zG rfl|exact fun h=>h|(simp only[zA,zB,zC,zD,bytesW];omega)) only[go_sem]
theorem flatK_eq{α:Type}[Inhabited α]{enc:α→List Value}{k:Nat}(hk:∀ x,(enc x).length=k)(d:Array α):(Go.Sort.flatK enc k d).toList=d.toList.flatMap enc:=by
 have hl:(d.toList.flatMap enc).length=d.size * k:=by
  rw [List.length_flatMap,← Array.length_toList]
  generalize d.toList=l
  induction l with
  | nil=>simp
  | cons a l ih=>rw [List.map_cons,List.sum_cons,ih,hk,List.length_cons,Nat.add_mul]; omega
 refine List.ext_getElem (by rw [hl,Array.length_toList,Go.Sort.size_flatK]) fun t h1 h2=>?_
 have ht:t<d.size * k:=by omega
 have hk0:0<k:=Nat.pos_of_ne_zero fun h=>by subst h; omega
 have hi:t / k<d.size:=(Nat.div_lt_iff_lt_mul hk0).2 ht
 have hj:t % k<k:=Nat.mod_lt _ hk0
 have a:=Go.Sort.get_flatK enc k d t ht
 rw [getElem!_pos d _ hi,getElem!_pos (enc _) _ (by rw [hk]; exact hj),getElem!_pos _ _ (by rw [Go.Sort.size_flatK]; exact ht)] at a
 rw [Array.getElem_toList,a]
 have b:=flatten_at (sz:=k) (d.toList.map enc) (t / k) (t % k) (enc d[t / k]) ((enc d[t / k])[t % k]'(by rw [hk]; exact hj)) (fun c hc=>by obtain ⟨x,_,rfl⟩:=List.mem_map.1 hc; exact hk x) (by rw [List.getElem?_map,List.getElem?_eq_getElem (by simpa using hi)]; rfl) (List.getElem?_eq_getElem _)
 rw [show t / k * k+t % k=t by rw [Nat.mul_comm]; exact Nat.div_add_mod t k] at b
 have c:(d.toList.flatMap enc)[t]?=some ((enc d[t / k])[t % k]'(by rw [hk]; exact hj)):=b
 rw [List.getElem?_eq_getElem h2] at c
 exact (Option.some.inj c).symm
theorem own_holdsK{α:Type}[Inhabited α]{enc:α→List Value}{k B e g n cap:Nat}{w:World}{d:Array α}(hk:∀ x,(enc x).length=k)(hd:d.size=n)(h:w.ownsRow B e k (.slice (some ⟨g,0,none⟩) n cap) n (d.toList.flatMap enc)) :
  Go.Sort.HoldsK enc k w g 0 d:=by
 obtain ⟨hl,⟨h0,_⟩ | ⟨g',cap',cur,he,hB,hb,hc,hm,hs,hx⟩⟩:=h
 ·cases h0
 cases he
 have hblk:Blk w g cur e:=hb
 intro j hj
 rw [Go.Sort.size_flatK] at hj
 have hj':j<(Go.Sort.flatK enc k d).size:=by rw [Go.Sort.size_flatK]; exact hj
 refine ⟨?_,hblk.frozen _⟩
 rw [hblk.cell,Nat.zero_add,getElem!_pos (Go.Sort.flatK enc k d) j hj']
 have e1:=flatK_eq hk d
 rw [← hx] at e1
 have e2:(Go.Sort.flatK enc k d).toList[j]?=(cur.toList.take (n * k))[j]?:=by rw [e1]
 rw [List.getElem?_take_of_lt (by rw [← hd]; exact hj),Array.getElem?_toList,Array.getElem?_toList,Array.getElem?_eq_getElem hj'] at e2
 exact e2.symm
theorem own_sorted{α:Type}[Inhabited α]{enc:α→List Value}{k B e g n cap:Nat}{w:World}{d:Array α}(hk:∀ x,(enc x).length=k)(hd:d.size=n)(h:w.ownsRow B e k (.slice (some ⟨g,0,none⟩) n cap) n (d.toList.flatMap enc))
  (m:Nat) (d':Array α) (os:Array Obj) (hd':d'.size=n):(sortWorldK enc k w g 0 m d' os).ownsRow B e k (.slice (some ⟨g,0,none⟩) n cap) n (d'.toList.flatMap enc)∧Chg (fun k=>k=g) w (sortWorldK enc k w g 0 m d' os):=by
 obtain ⟨hl,⟨h0,_⟩ | ⟨g',cap',cur,he,hB,hb,hc,hm,hs,hx⟩⟩:=h
 ·cases h0
 cases he
 have hg:g<w.heap.size:=(Array.getElem?_eq_some_iff.1 hb).1
 have hh:(sortWorldK enc k w g 0 m d' os).heap=w.heap.modify g (Go.Sort.onCells (Go.Sort.putCells id 0 (Go.Sort.flatK enc k d')))++os:=rfl
 have hgb:(sortWorldK enc k w g 0 m d' os).heap[g]?=some (.cells (Go.Sort.putCells id 0 (Go.Sort.flatK enc k d') cur) e (0,0)):=by
  rw [hh,Array.getElem?_append_left (by rw [Array.size_modify]; exact hg),Array.getElem?_modify,if_pos rfl,hb]
  rfl
 have e1:=flatK_eq hk d'
 have hle:n * k≤cap * k:=Nat.mul_le_mul_right _ hc
 refine ⟨⟨by rw [← e1,Array.length_toList,Go.Sort.size_flatK,hd'],.inr ⟨g,cap,_,rfl,hB,hgb,hc,hm,by unfold Go.Sort.putCells; rw [Array.size_mapIdx]; exact hs,?_⟩⟩,rfl,rfl,rfl,?_,fun j hj hne=>?_⟩
 ·rw [← e1]
  refine List.ext_getElem (by simp only [Go.Sort.putCells,List.length_take,Array.length_toList,Array.size_mapIdx,Go.Sort.size_flatK,hs,hd']; omega) fun t h1 h2=>?_
  rw [Array.length_toList,Go.Sort.size_flatK,hd'] at h2
  rw [List.getElem_take,Array.getElem_toList,Array.getElem_toList]
  unfold Go.Sort.putCells
  rw [Array.getElem_mapIdx,if_pos ⟨Nat.zero_le _,by rw [Go.Sort.size_flatK,hd']; omega⟩,Nat.sub_zero,getElem!_pos (Go.Sort.flatK enc k d') t (by rw [Go.Sort.size_flatK,hd']; exact h2)]
  rfl
 ·rw [hh,Array.size_append,Array.size_modify]; omega
 ·rw [hh,Array.getElem?_append_left (by rw [Array.size_modify]; exact hj),Array.getElem?_modify,if_neg (fun e=>hne e.symm)]
theorem sort_ok(cf:OpT→OpT→Int)(g:Nat)(eg:∀ args w,(callFunc g args).run Tryz.prog w=.ok (.enter g args) w)(hO:Go.Sort.SWO (ltOf cf))(hf:∀ a b w,Ret Tryz.prog g [.agg a.enc.toArray,.agg b.enc.toArray] w fun u w'=>u=.int .i64 (cf a b)∧Gr w w')
  (v:Value) (l:List OpT) (w:World) (B:Nat) (h:w.ownsRow B 52 11 v l.length (l.flatMap OpT.enc)) (hl:l.length≤100) :
  Ret Tryz.prog 50 [v,.func (.func g) #[] #[]] w fun _ w'=>∃ l',Sorts cf l l'∧w'.ownsRow B 52 11 v l.length (l'.flatMap OpT.enc)∧Chg (fun k=>v.ownBlock=some k) w w':=by
 obtain ⟨hlen,⟨rfl,h0⟩ | ⟨g',cap,cur,rfl,hB,hb,hc,hm,hs,hx⟩⟩:=id h
 ·refine Ret.mono (sortnil _ _) ?_
  rintro _ _ rfl
  have hl0:l=[]:=List.eq_nil_of_length_eq_zero h0
  subst hl0
  exact ⟨[],⟨List.Perm.refl _,List.Pairwise.nil⟩,h,Chg.refl _ _⟩
 have hcl:CmpLays Tryz.prog g #[] OpT.enc 11 cf g' 0 l.toArray.size w:=fun m os dk hdk x y=>by
  have e:=hf x y (sortWorldK OpT.enc 11 w g' 0 m dk os)
  unfold Ret at e
  rw [Array.append_empty]
  exact e.mono fun e w' ⟨u,h1,h2,h3⟩=>⟨by rw [h1,h2],h3⟩
 have hH:Go.Sort.HoldsK OpT.enc 11 w g' 0 l.toArray:=own_holdsK OpT.len (by simp) h
 have hs:=AnyQ.slices_SortFunc laySortOps 11 Tryz.isAgg52 Tryz.sizeOf52 OpT.enc OpT.len OpT.one cf hO g #[] g' 0 cap l.toArray w eg hcl hH (Array.getElem?_eq_some_iff.1 hb).1 (by simp; omega)
 refine hs.mono ?_
 rintro e w' ⟨rfl,d',n,os,hp,hs,rfl⟩
 have hsz:d'.size=l.length:=hp.1
 obtain ⟨o1,o2⟩:=own_sorted OpT.len (by simp) (show w.ownsRow B 52 11 (.slice (some ⟨g',0,none⟩) l.length cap) l.length (l.toArray.toList.flatMap OpT.enc) from h) n d' os hsz
 refine ⟨_,rfl,d'.toList,⟨?_,?_⟩,o1,o2.mono fun k _ e=>by rw [e]; rfl⟩
 ·have:=hp.2.2
  simp only [List.size_toArray] at this
  rw [Array.extract_eq_self_of_le (by omega),Array.extract_eq_self_of_le (by simp)] at this
  exact this
 ·rw [List.pairwise_iff_getElem]
  intro i j hi hj hij
  have:=hs i j (Nat.zero_le _) hij (by simpa [hsz] using hj)
  rw [getElem!_pos d' i (by simpa using hi),getElem!_pos d' j (by simpa using hj)] at this
  simpa [ltOf] using this
end Go.Proofs.YtoadmihnihfjkaaGreat.Cut

namespace Go.Proofs.YtoadmihnihfjkaaGreat.Cut
open Go Go.Ann Go.RowKit
theorem swo_ear:Go.Sort.SWO (ltOf earI) where
 irrefl x:=by rw [lt_ear]; exact decide_eq_false (by omega)
 trans x y z h1 h2:=by rw [lt_ear,decide_eq_true_eq] at *; omega
 ntrans x y z h1 h2:=by rw [lt_ear,decide_eq_false_iff_not] at *; omega
def Cuts(W0 w:World)(more:List Res)(I0:List Inv)(vo:Value)(acc:List Seg):Prop :=
 (acc=[]∧vo=.slice none 0 0∧St W0 w (fun _=>False) more I0) ∨
 ∃ ini s vs vl,acc=ini++[s]∧vs.length=ini.length∧(∀ v∈vs,∀ k,slFoot v k→W0.heap.size≤k)∧St W0 w (fun _=>False) (.row vl 52 11 s.ops.length (s.ops.flatMap OpT.enc)::.row vo 47 3 (ini.length+1) (segCells ini vs++segC s vl)::more) (segInvs ini vs++I0)
theorem Cuts.form{W0 w:World}{more:List Res}{I0:List Inv}{vo:Value}{acc:List Seg}(h:Cuts W0 w more I0 vo acc):∃ a c,vo=.slice a acc.length c:=by
 rcases h with ⟨rfl,rfl,_⟩ | ⟨ini,s,vs,vl,rfl,_,_,h⟩
 ·exact ⟨_,_,rfl⟩
 ·obtain ⟨a,c,rfl,_⟩:=own_slice (h.row 1 rfl)
  exact ⟨a,c,by rw [List.length_append]; rfl⟩
theorem own_mono{w:World}{B B' e sz n:Nat}{v:Value}{xs:List Value}(h:w.ownsRow B e sz v n xs)(hb:B'≤B):w.ownsRow B' e sz v n xs:=by
 obtain ⟨h1,h2 | ⟨g,cap,cur,h3,h4,h5⟩⟩:=h
 ·exact ⟨h1,.inl h2⟩
 ·exact ⟨h1,.inr ⟨g,cap,cur,h3,by omega,h5⟩⟩
end Go.Proofs.YtoadmihnihfjkaaGreat.Cut

namespace Go.Proofs.YtoadmihnihfjkaaGreat.Cut
open Go Go.Ann Go.RowKit
def objQ(s:Seg)(o:OpT):Bool:=!decide (s.obj=o.Object)
def objMk(o:OpT):Int × Int:=(o.Object,o.Kind)
structure Seen(r:List OpT)(acc:List Seg):Prop where
 up:acc.Pairwise fun a b=>a.obj<b.obj
 ops:∀ s∈acc,s.ops=ofObj s.obj r
 kind:∀ s∈acc,∃ o r,s.ops=o::r∧s.kind=o.Kind
 all:∀ o∈r,∃ s∈acc,s.obj=o.Object
 top:∀ s∈acc,∃ o∈r,s.obj=o.Object
theorem ofObj_append(x:Int)(a b:List OpT):ofObj x (a++b)=ofObj x a++ofObj x b:=List.filter_append ..
theorem ofObj_one(x:Int)(o:OpT):ofObj x [o]=if o.Object=x then [o] else []:=by unfold ofObj; by_cases h:o.Object=x <;> simp [h]
theorem Seen.step{r:List OpT}{acc:List Seg}(h:Seen r acc)(o:OpT)(hle:∀ x∈r,x.Object≤o.Object):Seen (r++[o]) (cutStep objQ objMk acc o):=by
 have low:∀ s∈acc,s.obj≤o.Object:=fun s hs=>by obtain ⟨x,hx,e⟩:=h.top s hs; rw [e]; exact hle x hx
 have fresh:(∀ s∈acc,s.obj<o.Object)→Seen (r++[o]) (acc++[⟨o.Object,o.Kind,[o]⟩]):=by
  intro hlt
  have hno:ofObj o.Object r=[]:=by
   unfold ofObj
   rw [List.filter_eq_nil_iff]
   intro x hx
   obtain ⟨s,hs,e⟩:=h.all x hx
   have:=hlt s hs
   simp; omega
  refine ⟨?_,fun s hs=>?_,fun s hs=>?_,fun x hx=>?_,fun s hs=>?_⟩
  ·rw [List.pairwise_append]
   refine ⟨h.up,List.pairwise_singleton _ _,fun a ha b hb=>?_⟩
   simp only [List.mem_singleton] at hb; subst hb
   exact hlt a ha
  ·rcases List.mem_append.1 hs with hs | hs
   ·rw [ofObj_append,← h.ops s hs,ofObj_one,if_neg (by have:=hlt s hs; omega),List.append_nil]
   ·simp only [List.mem_singleton] at hs; subst hs
    rw [ofObj_append,hno,ofObj_one,if_pos rfl]; rfl
  ·rcases List.mem_append.1 hs with hs | hs
   ·exact h.kind s hs
   ·simp only [List.mem_singleton] at hs; subst hs; exact ⟨o,[],rfl,rfl⟩
  ·rcases List.mem_append.1 hx with hx | hx
   ·obtain ⟨s,hs,e⟩:=h.all x hx
    exact ⟨s,List.mem_append_left _ hs,e⟩
   ·simp only [List.mem_singleton] at hx; subst hx
    exact ⟨_,List.mem_append_right _ (List.mem_singleton_self _),rfl⟩
  ·rcases List.mem_append.1 hs with hs | hs
   ·obtain ⟨x,hx,e⟩:=h.top s hs
    exact ⟨x,List.mem_append_left _ hx,e⟩
   ·simp only [List.mem_singleton] at hs; subst hs
    exact ⟨o,List.mem_append_right _ (List.mem_singleton_self _),rfl⟩
 rcases List.eq_nil_or_concat acc with rfl | ⟨ini,s,he⟩
 ·exact fresh fun s hs=>by cases hs
 ·rw [List.concat_eq_append] at he
  subst he
  have hup:=List.pairwise_append.1 h.up
  have hslow:=low s (by simp)
  by_cases hso:s.obj=o.Object
  ·rw [cutStep_old _ _ (by unfold objQ; simp [hso])]
   have hini:∀ t∈ini,t.obj<s.obj:=fun t ht=>hup.2.2 t ht s (by simp)
   refine ⟨?_,fun t ht=>?_,fun t ht=>?_,fun x hx=>?_,fun t ht=>?_⟩
   ·rw [List.pairwise_append]
    refine ⟨hup.1,List.pairwise_singleton _ _,fun a ha b hb=>?_⟩
    simp only [List.mem_singleton] at hb; subst hb
    exact hini a ha
   ·rcases List.mem_append.1 ht with ht | ht
    ·rw [ofObj_append,← h.ops t (List.mem_append_left _ ht),ofObj_one,if_neg (by have:=hini t ht; omega),List.append_nil]
    ·simp only [List.mem_singleton] at ht; subst ht
     simp only
     rw [ofObj_append,← h.ops s (by simp),ofObj_one,if_pos hso.symm]
   ·rcases List.mem_append.1 ht with ht | ht
    ·exact h.kind t (List.mem_append_left _ ht)
    ·simp only [List.mem_singleton] at ht; subst ht
     obtain ⟨x,y,e,hk⟩:=h.kind s (by simp)
     exact ⟨x,y++[o],by simp only; rw [e]; rfl,hk⟩
   ·rcases List.mem_append.1 hx with hx | hx
    ·obtain ⟨t,ht,e⟩:=h.all x hx
     rcases List.mem_append.1 ht with ht | ht
     ·exact ⟨t,List.mem_append_left _ ht,e⟩
     ·simp only [List.mem_singleton] at ht; subst ht
      exact ⟨_,List.mem_append_right _ (List.mem_singleton_self _),e⟩
    ·simp only [List.mem_singleton] at hx; subst hx
     exact ⟨_,List.mem_append_right _ (List.mem_singleton_self _),hso⟩
   ·rcases List.mem_append.1 ht with ht | ht
    ·obtain ⟨x,hx,e⟩:=h.top t (List.mem_append_left _ ht)
     exact ⟨x,List.mem_append_left _ hx,e⟩
    ·simp only [List.mem_singleton] at ht; subst ht
     exact ⟨o,List.mem_append_right _ (List.mem_singleton_self _),hso⟩
  ·rw [cutStep_new _ _ (by unfold objQ; simp [hso])]
   refine fresh fun t ht=>?_
   rcases List.mem_append.1 ht with ht | ht
   ·have:=hup.2.2 t ht s (by simp); omega
   ·simp only [List.mem_singleton] at ht; subst ht; omega
theorem seen_fold:∀ (b a:List OpT) (acc:List Seg),Seen a acc→(a++b).Pairwise (fun x y=>x.Object≤y.Object)→Seen (a++b) (b.foldl (cutStep objQ objMk) acc)
 | [],a,acc,h,_=>by rw [List.append_nil]; exact h
 | o::b,a,acc,h,hp=>by
  have:=seen_fold b (a++[o]) _ (h.step o fun x hx=>(List.pairwise_append.1 hp).2.2 x hx o List.mem_cons_self) (by rw [List.append_assoc]; exact hp)
  rw [List.append_assoc] at this
  exact this
theorem objects_by{l r:List OpT}(h:Sorts objI l r):ByObj l (r.foldl (cutStep objQ objMk) []):=by
 have hp:r.Pairwise fun x y=>x.Object≤y.Object:=h.2.imp fun {a b} e=>by rw [obj_neg] at e; omega
 have s:=seen_fold r [] [] ⟨List.Pairwise.nil,(fun s h=>by cases h),(fun s h=>by cases h),(fun s h=>by cases h),(fun s h=>by cases h)⟩ hp
 rw [List.nil_append] at s
 refine ⟨s.up,fun t ht=>⟨?_,?_⟩,s.kind,fun o ho=>s.all o (h.1.mem_iff.2 ho)⟩
 ·rw [s.ops t ht]; exact h.1.filter _
 ·rw [s.ops t ht]
  have h2:(ofObj t.obj r).Pairwise fun a b=>¬ objI b a<0:=h.2.sublist List.filter_sublist
  refine List.Pairwise.imp_of_mem ?_ h2
  intro a b ha hb e
  have ea:=(List.mem_filter.1 ha).2
  have eb:=(List.mem_filter.1 hb).2
  rw [decide_eq_true_eq] at ea eb
  rw [obj_neg] at e
  rw [ear_neg]
  omega
end Go.Proofs.YtoadmihnihfjkaaGreat.Cut

namespace Go.Proofs.YtoadmihnihfjkaaGreat.Cut
open Go Go.Ann Go.RowKit Go.WideShapes
def ofProc(x:Int)(l:List OpT):List OpT:=l.filter fun o=>decide (o.Proc=x)
structure ByProc(l:List OpT)(acc:List Seg):Prop where
 up:acc.Pairwise fun a b=>a.obj<b.obj
 sorts:∀ s∈acc,Sorts earI (ofProc s.obj l) s.ops
 kind:∀ s∈acc,∃ o r,s.ops=o::r∧s.kind=o.Kind
 all:∀ o∈l,∃ s∈acc,s.obj=o.Proc
def NextP(l:List OpT)(any:Bool)(last:Int)(k:Nat)(found:Bool)(next:Int):Prop :=
 (found=false∧∀ o∈l.take k,any=true∧o.Proc≤last)∨(found=true∧(∃ o∈l.take k,o.Proc=next)∧(any=true→last<next)∧∀ o∈l.take k,(any=true→last<o.Proc)→next≤o.Proc)
theorem NextP.take{l:List OpT}{any found:Bool}{last next:Int}{k:Nat}(h:NextP l any last k found next)(hk:k<l.length)(h1:any=true→last<l[k].Proc)(h2:found=true→l[k].Proc<next):NextP l any last (k+1) true l[k].Proc:=by
 refine .inr ⟨rfl,⟨_,(mem_take_succ hk).2 (.inr rfl),rfl⟩,h1,fun o ho hlo=>?_⟩
 rcases (mem_take_succ hk).1 ho with ho | rfl
 ·rcases h with ⟨_,h⟩ | ⟨hf,_,_,h⟩
  ·have:=h o ho; have:=hlo this.1; omega
  ·have:=h o ho hlo; have:=h2 hf; omega
 ·exact Int.le_refl _
theorem ofProc_len(x:Int)(l:List OpT):(ofProc x l).length≤l.length:=List.length_filter_le _ _
theorem ofProc_snoc(x:Int){l:List OpT}{k:Nat}(hk:k<l.length):ofProc x (l.take (k+1))=ofProc x (l.take k)++if l[k].Proc=x then [l[k]] else []:=by
 rw [List.take_succ_eq_append_getElem hk]
 unfold ofProc
 rw [List.filter_append]
 by_cases h:l[k].Proc=x
 ·rw [if_pos h]; simp [h]
 ·rw [if_neg h]; simp [h]
theorem byProc_unique{l:List OpT}(hp:Pure l):∀ {a b:List Seg},ByProc l a→ByProc l b→a=b:=by
 intro a b ha hb
 have mem:∀ {a b:List Seg},ByProc l a→ByProc l b→∀ s∈a,s∈b:=by
  intro a b ha hb s hs
  obtain ⟨o,r,e,hk⟩:=ha.kind s hs
  have ho:o∈ofProc s.obj l:=(ha.sorts s hs).1.mem_iff.1 (by rw [e]; exact List.mem_cons_self)
  unfold ofProc at ho
  rw [List.mem_filter,decide_eq_true_eq] at ho
  obtain ⟨t,ht,hto⟩:=hb.all o ho.1
  have heq:t.obj=s.obj:=hto.trans ho.2
  have hops:t.ops=s.ops:=by
   have h1:=hb.sorts t ht
   rw [heq] at h1
   refine sorts_unique (l:=ofProc s.obj l) (fun x hx y hy=>hp x ?_ y ?_) h1 (ha.sorts s hs)
   ·exact (List.mem_filter.1 hx).1
   ·exact (List.mem_filter.1 hy).1
  obtain ⟨o2,r2,e2,hk2⟩:=hb.kind t ht
  have:t=s:=by
   rw [hops,e] at e2
   cases t; cases s
   simp only at heq hops hk hk2 e2 ⊢
   simp only [List.cons.injEq] at e2
   subst heq; subst hops
   rw [hk,hk2,e2.1]
  rw [← this]; exact ht
 have nd:∀ {a:List Seg},ByProc l a→a.Nodup:=fun h=>h.up.imp fun h e=>by rw [e] at h; omega
 have hperm:a.Perm b:=(List.perm_ext_iff_of_nodup (nd ha) (nd hb)).2 fun s=>⟨mem ha hb s,mem hb ha s⟩
 exact List.Perm.eq_of_pairwise (le:=fun x y:Seg=>x.obj<y.obj) (fun x y _ _ h1 h2=>by omega) ha.up hb.up hperm
end Go.Proofs.YtoadmihnihfjkaaGreat.Cut

namespace Go.Proofs.YtoadmihnihfjkaaGreat
open Go Go.Ann Go.RowKit
def fitsP(k m:Int):Bool :=
 if k=1 then decide (1≤m) && decide (m≤3) else if k=2 then decide (m=1) || decide (m=4) || decide (m=5) else if k=3 then decide (m=6) || decide (m=7) else if k=4 then decide (m=8) || decide (m=9) else if k=5 then decide (10≤m) && decide (m≤12) else if k=6 then decide (m=13) || decide (m=14) else false
theorem fits_ok(k m:Int)(w:World):Ret Tryz.prog 54 [.int .i64 k,.int .i64 m] w fun u w'=>u=.bool (fitsP k m)∧w'=w:=by
 refine ent54 _ _ _ _ ?_
 unfold fitsP
 by_cases h1:k=1
 ·simp (disch:=first|omega|exact zF rfl|exact zG rfl|exact fun h=>h|(simp only[zA,zB,zC,zD,bytesW];omega)) only[go_sem,h1]
  refine ⟨fun h=>?_,fun h=>?_⟩ <;> simp [h] <;> omega
 by_cases h2:k=2
 ·simp (disch:=first|omega|exact zF rfl|exact zG rfl|exact fun h=>h|(simp only[zA,zB,zC,zD,bytesW];omega)) only[go_sem,h1,h2]
  refine ⟨fun h=>?_,fun h=>?_⟩ <;> simp [*] <;> omega
 by_cases h3:k=3
 ·simp (disch:=first|omega|exact zF rfl|exact zG rfl|exact fun h=>h|(simp only[zA,zB,zC,zD,bytesW];omega)) only[go_sem,h1,h2,h3]
  refine ⟨fun h=>?_,fun h=>?_⟩ <;> simp [*]
 by_cases h4:k=4
 ·simp (disch:=first|omega|exact zF rfl|exact zG rfl|exact fun h=>h|(simp only[zA,zB,zC,zD,bytesW];omega)) only[go_sem,h1,h2,h3,h4]
  refine ⟨fun h=>?_,fun h=>?_⟩ <;> simp [*]
 by_cases h5:k=5
 ·simp (disch:=first|omega|exact zF rfl|exact zG rfl|exact fun h=>h|(simp only[zA,zB,zC,zD,bytesW];omega)) only[go_sem,h1,h2,h3,h4,h5]
  refine ⟨fun h=>?_,fun h=>?_⟩ <;> simp [h] <;> omega
 by_cases h6:k=6
 ·simp (disch:=first|omega|exact zF rfl|exact zG rfl|exact fun h=>h|(simp only[zA,zB,zC,zD,bytesW];omega)) only[go_sem,h1,h2,h3,h4,h5,h6]
  refine ⟨fun h=>?_,fun h=>?_⟩ <;> simp [*]
 simp (disch:=first|omega|exact zF rfl|exact zG rfl|exact fun h=>h|(simp only[zA,zB,zC,zD,bytesW];omega)) only[go_sem,h1,h2,h3,h4,h5,h6]
def valP(n:Int):Bool:=decide (0≤n) && decide (n≤1073741824)
theorem value_ok(n:Int)(w:World):Ret Tryz.prog 83 [.int .i64 n] w fun u w'=>u=.bool (valP n)∧w'=w:=by
 refine ent83 _ _ _ ?_
 unfold valP
 simp (disch:=first|omega|exact zF rfl|exact zG rfl|exact fun h=>h|(simp only[zA,zB,zC,zD,bytesW];omega)) only[go_sem]
 refine ⟨fun h=>?_,fun h=>?_⟩ <;> simp [h] <;> omega
def argsP(o:OpT):Bool :=
 if o.Method=3 then valP o.Arg && valP o.Second else if o.Method=2∨o.Method=6∨o.Method=8∨o.Method=10∨o.Method=11∨o.Method=12 then valP o.Arg && decide (o.Second=0) else decide (o.Arg=0) && decide (o.Second=0)
theorem args_one{o:OpT}{w:World}{g:Nat}{K:Value→World→Prop}(h:Blk w g o.enc.toArray 52)(hK:K (.bool (valP o.Arg && decide (o.Second=0))) w):W Tryz.prog (c55S2 ()) [(1,.pointer (some ⟨g,0,none⟩)),(15,.bool true)] w (blockQ 0 (thenQ Tryz.prog (sg c55S3) (finQ Tryz.prog [.tmp 2] K))):=by
 have ao:=o.at
 have r:=h.rules
 simp (disch:=first|omega|exact zF rfl|exact zG rfl|exact fun h=>h|(simp only[zA,zB,zC,zD,bytesW];omega)) only[go_sem,c55S2,r,ao]
 refine Ret.mono (value_ok _ _) ?_
 rintro _ _ ⟨rfl,rfl⟩
 cases e:valP o.Arg <;> rw [e] at hK <;> simp (disch:=first|omega|exact zF rfl|exact zG rfl|exact fun h=>h|(simp only[zA,zB,zC,zD,bytesW];omega)) only[go_sem,c55S2,r,ao] <;> exact hK
theorem args_ok(o:OpT)(w:World):Ret Tryz.prog 55 [.agg o.enc.toArray] w fun u w'=>u=.bool (argsP o)∧Below w.heap.size w w':=by
 refine ent55 _ _ _ ?_
 have s1:=(St.start (W0:=w)).box o.enc.toArray 52
 have r1:=s1.rules 0 rfl
 have ao:=o.at
 unfold argsP
 by_cases h1:o.Method=3
 ·simp (disch:=first|omega|exact zF rfl|exact zG rfl|exact fun h=>h|(simp only[zA,zB,zC,zD,bytesW];omega)) only[go_sem,c55S2,r1,ao,h1]
  refine Ret.mono (value_ok _ _) ?_
  rintro _ _ ⟨rfl,rfl⟩
  cases e:valP o.Arg
  ·simp (disch:=first|omega|exact zF rfl|exact zG rfl|exact fun h=>h|(simp only[zA,zB,zC,zD,bytesW];omega)) only[go_sem,c55S2,r1,ao,h1]
   exact ⟨rfl,s1.bel⟩
  ·simp (disch:=first|omega|exact zF rfl|exact zG rfl|exact fun h=>h|(simp only[zA,zB,zC,zD,bytesW];omega)) only[go_sem,c55S2,r1,ao,h1]
   refine Ret.mono (value_ok _ _) ?_
   rintro _ _ ⟨rfl,rfl⟩
   simp (disch:=first|omega|exact zF rfl|exact zG rfl|exact fun h=>h|(simp only[zA,zB,zC,zD,bytesW];omega)) only[go_sem,c55S2]
   exact ⟨rfl,s1.bel⟩
 have hb:=s1.blk 0 rfl
 by_cases h2:o.Method=2
 ·simp (disch:=first|omega|exact zF rfl|exact zG rfl|exact fun h=>h|(simp only[zA,zB,zC,zD,bytesW];omega)) only[go_sem,r1,ao,h1,h2]
  exact args_one hb ⟨rfl,s1.bel⟩
 by_cases h3:o.Method=6
 ·simp (disch:=first|omega|exact zF rfl|exact zG rfl|exact fun h=>h|(simp only[zA,zB,zC,zD,bytesW];omega)) only[go_sem,r1,ao,h1,h2,h3]
  exact args_one hb ⟨rfl,s1.bel⟩
 by_cases h4:o.Method=8
 ·simp (disch:=first|omega|exact zF rfl|exact zG rfl|exact fun h=>h|(simp only[zA,zB,zC,zD,bytesW];omega)) only[go_sem,r1,ao,h1,h2,h3,h4]
  exact args_one hb ⟨rfl,s1.bel⟩
 by_cases h5:o.Method=10
 ·simp (disch:=first|omega|exact zF rfl|exact zG rfl|exact fun h=>h|(simp only[zA,zB,zC,zD,bytesW];omega)) only[go_sem,r1,ao,h1,h2,h3,h4,h5]
  exact args_one hb ⟨rfl,s1.bel⟩
 by_cases h6:o.Method=11
 ·simp (disch:=first|omega|exact zF rfl|exact zG rfl|exact fun h=>h|(simp only[zA,zB,zC,zD,bytesW];omega)) only[go_sem,r1,ao,h1,h2,h3,h4,h5,h6]
  exact args_one hb ⟨rfl,s1.bel⟩
 by_cases h7:o.Method=12
 ·simp (disch:=first|omega|exact zF rfl|exact zG rfl|exact fun h=>h|(simp only[zA,zB,zC,zD,bytesW];omega)) only[go_sem,r1,ao,h1,h2,h3,h4,h5,h6,h7]
  exact args_one hb ⟨rfl,s1.bel⟩
 simp (disch:=first|omega|exact zF rfl|exact zG rfl|exact fun h=>h|(simp only[zA,zB,zC,zD,bytesW];omega)) only[go_sem,c55S2,r1,ao,h1,h2,h3,h4,h5,h6,h7]
 refine ⟨fun h=>?_,fun h=>?_⟩ <;> simp [h,s1.bel]
def bitP(n:Int):Bool:=decide (n=0) || decide (n=1)
def resP(o:OpT):Bool :=
 if o.Method=1 then valP o.Result || decide (o.Kind=2) && valP (0 - o.Result) else if o.Method=3∨o.Method=10∨o.Method=11∨o.Method=12 then bitP o.Result else if o.Method=7∨o.Method=9 then decide (o.Result = -1) || valP o.Result else decide (o.Result=0)
theorem res_bit{o:OpT}{w:World}{g:Nat}{K:Value→World→Prop}{n:Int}(h:Blk w g o.enc.toArray 52)(hK:K (.bool (bitP o.Result)) w):W Tryz.prog (c56S3 ()) [(1,.pointer (some ⟨g,0,none⟩)),(4,.int .i64 n),(21,.bool true)] w (blockQ 0 (thenQ Tryz.prog (sg c56S4) (finQ Tryz.prog [.tmp 2] K))):=by
 have ao:=o.at
 have r:=h.rules
 unfold bitP at hK
 simp (disch:=first|omega|exact zF rfl|exact zG rfl|exact fun h=>h|(simp only[zA,zB,zC,zD,bytesW];omega)) only[go_sem,c56S2,c56S3,r,ao]
 refine ⟨fun h=>?_,fun h=>?_⟩
 ·rw [decide_eq_false h] at hK; exact hK
 ·rw [decide_eq_true h] at hK; exact hK
theorem res_val{o:OpT}{w:World}{g:Nat}{K:Value→World→Prop}(h:Blk w g o.enc.toArray 52)(hK:K (.bool (decide (o.Result = -1) || valP o.Result)) w):W Tryz.prog (c56S2 ()) [(1,.pointer (some ⟨g,0,none⟩)),(34,.bool true)] w (blockQ 0 (thenQ Tryz.prog (sg c56S4) (finQ Tryz.prog [.tmp 2] K))):=by
 have ao:=o.at
 have r:=h.rules
 by_cases h1:o.Result = -1
 ·rw [decide_eq_true h1] at hK
  simp (disch:=first|omega|exact zF rfl|exact zG rfl|exact fun h=>h|(simp only[zA,zB,zC,zD,bytesW];omega)) only[go_sem,c56S2,c56S3,r,ao,h1]
  exact hK
 ·rw [decide_eq_false h1] at hK
  simp (disch:=first|omega|exact zF rfl|exact zG rfl|exact fun h=>h|(simp only[zA,zB,zC,zD,bytesW];omega)) only[go_sem,c56S2,c56S3,r,ao,h1]
  refine Ret.mono (value_ok _ _) ?_
  rintro _ _ ⟨rfl,rfl⟩
  simp (disch:=first|omega|exact zF rfl|exact zG rfl|exact fun h=>h|(simp only[zA,zB,zC,zD,bytesW];omega)) only[go_sem,c56S2,c56S3]
  exact hK
theorem valP_neg{r:Int}(h:I64 r):valP (IntKind.i64.wrap (0 - r))=valP (0 - r):=by
 by_cases e:r = -9223372036854775808
 ·subst e; decide
 ·have h1:-9223372036854775808≤r∧r≤9223372036854775807:=h
  congr 1
  simp [IntKind.wrap,IntKind.bits,IntKind.signed]
  omega
theorem result_ok(o:OpT)(hw:o.wf)(w:World):Ret Tryz.prog 56 [.agg o.enc.toArray] w fun u w'=>u=.bool (resP o)∧Below w.heap.size w w':=by
 refine ent56 _ _ _ ?_
 have s1:=(St.start (W0:=w)).box o.enc.toArray 52
 have r1:=s1.rules 0 rfl
 have hb:=s1.blk 0 rfl
 have ao:=o.at
 have hr:I64 o.Result:=by
  have h:=hw.2.2.2.2.2.2.2.1
  unfold kOk at h
  simp [Lit.wf,IntKind.min,IntKind.max,IntKind.signed,IntKind.bits] at h
  exact h
 unfold resP
 by_cases h1:o.Method=1
 ·simp (disch:=first|omega|exact zF rfl|exact zG rfl|exact fun h=>h|(simp only[zA,zB,zC,zD,bytesW];omega)) only[go_sem,c56S2,c56S3,r1,ao,h1]
  refine Ret.mono (value_ok _ _) ?_
  rintro _ _ ⟨rfl,rfl⟩
  cases e:valP o.Result
  ·by_cases h2:o.Kind=2
   ·simp (disch:=first|omega|exact zF rfl|exact zG rfl|exact fun h=>h|(simp only[zA,zB,zC,zD,bytesW];omega)) only[go_sem,c56S2,c56S3,r1,ao,h1,h2]
    refine Ret.mono (value_ok _ _) ?_
    rintro _ _ ⟨rfl,rfl⟩
    simp (disch:=first|omega|exact zF rfl|exact zG rfl|exact fun h=>h|(simp only[zA,zB,zC,zD,bytesW];omega)) only[go_sem,c56S2,c56S3]
    rw [valP_neg hr]
    exact ⟨by simp,s1.bel⟩
   ·simp (disch:=first|omega|exact zF rfl|exact zG rfl|exact fun h=>h|(simp only[zA,zB,zC,zD,bytesW];omega)) only[go_sem,c56S2,c56S3,r1,ao,h1,h2]
    exact ⟨by simp [h2],s1.bel⟩
  ·simp (disch:=first|omega|exact zF rfl|exact zG rfl|exact fun h=>h|(simp only[zA,zB,zC,zD,bytesW];omega)) only[go_sem,c56S2,c56S3,r1,ao,h1]
   exact ⟨by simp,s1.bel⟩
 by_cases h2:o.Method=3
 ·simp (disch:=first|omega|exact zF rfl|exact zG rfl|exact fun h=>h|(simp only[zA,zB,zC,zD,bytesW];omega)) only[go_sem,c56S2,r1,ao,h1,h2]
  exact res_bit hb ⟨rfl,s1.bel⟩
 by_cases h3:o.Method=10
 ·simp (disch:=first|omega|exact zF rfl|exact zG rfl|exact fun h=>h|(simp only[zA,zB,zC,zD,bytesW];omega)) only[go_sem,c56S2,r1,ao,h1,h2,h3]
  exact res_bit hb ⟨rfl,s1.bel⟩
 by_cases h4:o.Method=11
 ·simp (disch:=first|omega|exact zF rfl|exact zG rfl|exact fun h=>h|(simp only[zA,zB,zC,zD,bytesW];omega)) only[go_sem,c56S2,r1,ao,h1,h2,h3,h4]
  exact res_bit hb ⟨rfl,s1.bel⟩
 by_cases h5:o.Method=12
 ·simp (disch:=first|omega|exact zF rfl|exact zG rfl|exact fun h=>h|(simp only[zA,zB,zC,zD,bytesW];omega)) only[go_sem,c56S2,r1,ao,h1,h2,h3,h4,h5]
  exact res_bit hb ⟨rfl,s1.bel⟩
 by_cases h6:o.Method=7
 ·simp (disch:=first|omega|exact zF rfl|exact zG rfl|exact fun h=>h|(simp only[zA,zB,zC,zD,bytesW];omega)) only[go_sem,c56S3,r1,ao,h1,h2,h3,h4,h5,h6]
  exact res_val hb ⟨rfl,s1.bel⟩
 by_cases h7:o.Method=9
 ·simp (disch:=first|omega|exact zF rfl|exact zG rfl|exact fun h=>h|(simp only[zA,zB,zC,zD,bytesW];omega)) only[go_sem,c56S3,r1,ao,h1,h2,h3,h4,h5,h6,h7]
  exact res_val hb ⟨rfl,s1.bel⟩
 simp (disch:=first|omega|exact zF rfl|exact zG rfl|exact fun h=>h|(simp only[zA,zB,zC,zD,bytesW];omega)) only[go_sem,c56S2,c56S3,r1,ao,h1,h2,h3,h4,h5,h6,h7]
 exact s1.bel
def chkP(o:OpT):Int :=
 if o.ID<1∨o.ID > 1073741824∨o.Proc<0∨o.Proc > 1023∨o.Object<0∨o.Object > 1023 then 30
 else if fitsP o.Kind o.Method=false∨argsP o=false∨(o.Done=true∧resP o=false)∨(o.Done=false∧o.Result≠0) then 33
 else if o.Invoke<0∨o.Invoke > 1099511627776∨(o.Done=true∧(o.Return≤o.Invoke∨o.Return > 1099511627776))∨(o.Done=false∧o.Return≠0) then 31 else 0
theorem opCheck_ok(o:OpT)(hw:o.wf)(w:World):Ret Tryz.prog 28 [.agg o.enc.toArray] w fun u w'=>u=.int .i64 (chkP o)∧Below w.heap.size w w':=by
 refine ent28 _ _ _ ?_
 have s1:=(St.start (W0:=w)).box o.enc.toArray 52
 have r1:=s1.rules 0 rfl
 have ao:=o.at
 unfold chkP
 by_cases h1:o.ID<1∨o.ID > 1073741824∨o.Proc<0∨o.Proc > 1023∨o.Object<0∨o.Object > 1023
 ·rw [if_pos h1]
  by_cases a1:o.ID<1
  ·simp (disch:=first|omega|exact zF rfl|exact zG rfl|exact fun h=>h|(simp only[zA,zB,zC,zD,bytesW];omega)) only[go_sem,c28S0,r1,ao,a1]
   exact s1.bel
  by_cases a2:o.ID > 1073741824
  ·simp (disch:=first|omega|exact zF rfl|exact zG rfl|exact fun h=>h|(simp only[zA,zB,zC,zD,bytesW];omega)) only[go_sem,c28S0,r1,ao,a1,a2]
   exact s1.bel
  by_cases a3:o.Proc<0
  ·simp (disch:=first|omega|exact zF rfl|exact zG rfl|exact fun h=>h|(simp only[zA,zB,zC,zD,bytesW];omega)) only[go_sem,c28S0,r1,ao,a1,a2,a3]
   exact s1.bel
  by_cases a4:o.Proc > 1023
  ·simp (disch:=first|omega|exact zF rfl|exact zG rfl|exact fun h=>h|(simp only[zA,zB,zC,zD,bytesW];omega)) only[go_sem,c28S0,r1,ao,a1,a2,a3,a4]
   exact s1.bel
  by_cases a5:o.Object<0
  ·simp (disch:=first|omega|exact zF rfl|exact zG rfl|exact fun h=>h|(simp only[zA,zB,zC,zD,bytesW];omega)) only[go_sem,c28S0,r1,ao,a1,a2,a3,a4,a5]
   exact s1.bel
  have a6:o.Object > 1023:=by omega
  simp (disch:=first|omega|exact zF rfl|exact zG rfl|exact fun h=>h|(simp only[zA,zB,zC,zD,bytesW];omega)) only[go_sem,c28S0,r1,ao,a1,a2,a3,a4,a5,a6]
  exact s1.bel
 rw [if_neg h1]
 have a1:¬ o.ID<1:=by omega
 have a2:¬ o.ID > 1073741824:=by omega
 have a3:¬ o.Proc<0:=by omega
 have a4:¬ o.Proc > 1023:=by omega
 have a5:¬ o.Object<0:=by omega
 have a6:¬ o.Object > 1023:=by omega
 simp (disch:=first|omega|exact zF rfl|exact zG rfl|exact fun h=>h|(simp only[zA,zB,zC,zD,bytesW];omega)) only[go_sem,r1,ao,a1,a2,a3,a4,a5,a6]
 refine Ret.mono (fits_ok _ _ _) ?_
 rintro _ _ ⟨rfl,rfl⟩
 have bad:∀ w',Below w.heap.size w w'→W Tryz.prog (c28S0 ()) [(1,.pointer (some ⟨w.heap.size,0,none⟩)),(32,.bool true)] w' (blockQ 0 (thenQ Tryz.prog (sg c28S1) (finQ Tryz.prog [.tmp 2] fun u w'=>u=.int .i64 33∧Below w.heap.size w w'))):=fun w' hb=>by
  simp (disch:=first|omega|exact zF rfl|exact zG rfl|exact fun h=>h|(simp only[zA,zB,zC,zD,bytesW];omega)) only[go_sem,c28S0]
  exact hb
 have good:∀ w',Blk w' w.heap.size o.enc.toArray 52→Below w.heap.size w w'→W Tryz.prog (c28S0 ()) [(1,.pointer (some ⟨w.heap.size,0,none⟩)),(32,.bool false)] w' (blockQ 0 (thenQ Tryz.prog (sg c28S1) (finQ Tryz.prog [.tmp 2] fun u w'=>u=.int .i64 (if o.Invoke<0∨o.Invoke > 1099511627776∨(o.Done=true∧(o.Return≤o.Invoke∨o.Return > 1099511627776))∨(o.Done=false∧o.Return≠0) then 31 else 0)∧Below w.heap.size w w'))):=fun w' hB hb=>by
  have r:=hB.rules
  by_cases t1:o.Invoke<0
  ·simp (disch:=first|omega|exact zF rfl|exact zG rfl|exact fun h=>h|(simp only[zA,zB,zC,zD,bytesW];omega)) only[go_sem,c28S0,r,ao,t1]
   exact ⟨by simp,hb⟩
  by_cases t2:o.Invoke > 1099511627776
  ·simp (disch:=first|omega|exact zF rfl|exact zG rfl|exact fun h=>h|(simp only[zA,zB,zC,zD,bytesW];omega)) only[go_sem,c28S0,r,ao,t1,t2]
   exact ⟨by simp,hb⟩
  cases d:o.Done
  ·by_cases t3:o.Return=0
   ·simp (disch:=first|omega|exact zF rfl|exact zG rfl|exact fun h=>h|(simp only[zA,zB,zC,zD,bytesW];omega)) only[go_sem,c28S0,r,ao,t1,t2,d,t3]
    exact hb
   ·simp (disch:=first|omega|exact zF rfl|exact zG rfl|exact fun h=>h|(simp only[zA,zB,zC,zD,bytesW];omega)) only[go_sem,c28S0,r,ao,t1,t2,d,t3]
    exact hb
  ·by_cases t3:o.Return≤o.Invoke
   ·simp (disch:=first|omega|exact zF rfl|exact zG rfl|exact fun h=>h|(simp only[zA,zB,zC,zD,bytesW];omega)) only[go_sem,c28S0,r,ao,t1,t2,d,t3]
    exact ⟨by simp,hb⟩
   by_cases t4:o.Return > 1099511627776
   ·simp (disch:=first|omega|exact zF rfl|exact zG rfl|exact fun h=>h|(simp only[zA,zB,zC,zD,bytesW];omega)) only[go_sem,c28S0,r,ao,t1,t2,d,t3,t4]
    exact hb
   ·simp (disch:=first|omega|exact zF rfl|exact zG rfl|exact fun h=>h|(simp only[zA,zB,zC,zD,bytesW];omega)) only[go_sem,c28S0,r,ao,t1,t2,d,t3,t4]
    exact hb
 cases e1:fitsP o.Kind o.Method
 ·rw [if_pos (.inl rfl)]
  simp (disch:=first|omega|exact zF rfl|exact zG rfl|exact fun h=>h|(simp only[zA,zB,zC,zD,bytesW];omega)) only[go_sem,r1,ao]
  exact bad _ s1.bel
 simp (disch:=first|omega|exact zF rfl|exact zG rfl|exact fun h=>h|(simp only[zA,zB,zC,zD,bytesW];omega)) only[go_sem,r1,ao]
 refine Ret.mono (args_ok o _) ?_
 rintro _ w2 ⟨rfl,b2⟩
 have s2:=s1.call b2
 have r2:=s2.rules 0 rfl
 cases e2:argsP o
 ·rw [if_pos (.inl rfl)]
  simp (disch:=first|omega|exact zF rfl|exact zG rfl|exact fun h=>h|(simp only[zA,zB,zC,zD,bytesW];omega)) only[go_sem,r2,ao]
  exact bad _ s2.bel
 cases d:o.Done
 ·by_cases e3:o.Result=0
  ·simp (disch:=first|omega|exact zF rfl|exact zG rfl|exact fun h=>h|(simp only[zA,zB,zC,zD,bytesW];omega)) only[go_sem,r2,ao,d,e3]
   have:=good _ (s2.blk 0 rfl) s2.bel
   simp only [d,e3] at this
   simpa using this
  ·simp (disch:=first|omega|exact zF rfl|exact zG rfl|exact fun h=>h|(simp only[zA,zB,zC,zD,bytesW];omega)) only[go_sem,r2,ao,d,e3]
   exact bad _ s2.bel
 ·simp (disch:=first|omega|exact zF rfl|exact zG rfl|exact fun h=>h|(simp only[zA,zB,zC,zD,bytesW];omega)) only[go_sem,r2,ao,d]
  refine Ret.mono (result_ok o hw _) ?_
  rintro _ w3 ⟨rfl,b3⟩
  have s3:=s2.call b3
  have r3:=s3.rules 0 rfl
  cases e3:resP o
  ·simp (disch:=first|omega|exact zF rfl|exact zG rfl|exact fun h=>h|(simp only[zA,zB,zC,zD,bytesW];omega)) only[go_sem,r3,ao,d]
   exact bad _ s3.bel
  ·simp (disch:=first|omega|exact zF rfl|exact zG rfl|exact fun h=>h|(simp only[zA,zB,zC,zD,bytesW];omega)) only[go_sem,r3,ao,d]
   have:=good _ (s3.blk 0 rfl) s3.bel
   simp only [d] at this
   simpa using this
open Go Go.Ann Go.RowKit
open Cut (Row4 rowsTable rows_ok)
def btw(n a b:Int):Bool:=decide (a≤n) && decide (n≤b)
theorem between_x(n a b:Int)(w:World):Ret Tryz.prog 67 [.int .i64 n,.int .i64 a,.int .i64 b] w fun u w'=>u=.bool (btw n a b)∧w'=w:=by
 refine ent67 _ _ _ _ _ ?_
 unfold btw
 simp (disch:=first|omega|exact zF rfl|exact zG rfl|exact fun h=>h|(simp only[zA,zB,zC,zD,bytesW];omega)) only[go_sem]
 refine ⟨fun h=>?_,fun h=>?_⟩ <;> simp [h] <;> omega
def ansR(n how:Int):Bool:=if how=0 then decide (n=0) else if how=1 then bitP n else if how=2 then btw n 0 1073741824 else if how=3 then btw n (-1073741824) 1073741824 else btw n (-1) 1073741824
theorem answer_x(n how:Int)(w:World):Ret Tryz.prog 69 [.int .i64 n,.int .i64 how] w fun u w'=>u=.bool (ansR n how)∧w'=w:=by
 refine ent69 _ _ _ _ ?_
 unfold ansR bitP
 by_cases h0:how=0
 ·simp (disch:=first|omega|exact zF rfl|exact zG rfl|exact fun h=>h|(simp only[zA,zB,zC,zD,bytesW];omega)) only[go_sem,h0]
 by_cases h1:how=1
 ·simp (disch:=first|omega|exact zF rfl|exact zG rfl|exact fun h=>h|(simp only[zA,zB,zC,zD,bytesW];omega)) only[go_sem,h0,h1]
  refine ⟨fun h=>?_,fun h=>?_⟩ <;> simp [h]
 by_cases h2:how=2
 ·simp (disch:=first|omega|exact zF rfl|exact zG rfl|exact fun h=>h|(simp only[zA,zB,zC,zD,bytesW];omega)) only[go_sem,h0,h1,h2]
  refine Ret.mono (between_x _ _ _ _) ?_
  rintro _ _ ⟨rfl,rfl⟩
  simp (disch:=first|omega|exact zF rfl|exact zG rfl|exact fun h=>h|(simp only[zA,zB,zC,zD,bytesW];omega)) only[go_sem]
 by_cases h3:how=3
 ·simp (disch:=first|omega|exact zF rfl|exact zG rfl|exact fun h=>h|(simp only[zA,zB,zC,zD,bytesW];omega)) only[go_sem,h0,h1,h2,h3]
  refine Ret.mono (between_x _ _ _ _) ?_
  rintro _ _ ⟨rfl,rfl⟩
  simp (disch:=first|omega|exact zF rfl|exact zG rfl|exact fun h=>h|(simp only[zA,zB,zC,zD,bytesW];omega)) only[go_sem]
 simp (disch:=first|omega|exact zF rfl|exact zG rfl|exact fun h=>h|(simp only[zA,zB,zC,zD,bytesW];omega)) only[go_sem,h0,h1,h2,h3]
 refine Ret.mono (between_x _ _ _ _) ?_
 rintro _ _ ⟨rfl,rfl⟩
 simp (disch:=first|omega|exact zF rfl|exact zG rfl|exact fun h=>h|(simp only[zA,zB,zC,zD,bytesW];omega)) only[go_sem]
def rowOf(k m:Int):Option Row4:=rowsTable.find? fun r=>decide (r.kind=k) && decide (r.method=m)
theorem find_atG{α:Type}{p:α→Bool}{l:List α}{k:Nat}(h:k<l.length)(hp:p l[k]=true)(hb:∀ j,(h:j<l.length)→j<k→p l[j]=false):l.find? p=some l[k]:=by
 rw [List.find?_eq_some_iff_append]
 refine ⟨hp,l.take k,l.drop (k+1),?_,fun a ha=>?_⟩
 ·rw [← List.drop_eq_getElem_cons h,List.take_append_drop]
 ·obtain ⟨j,hj,rfl⟩:=List.mem_iff_getElem.1 ha
  rw [List.length_take] at hj
  rw [List.getElem_take,hb j (by omega) (by omega)]
  rfl
theorem find_x(a b:Int)(w:World):Ret Tryz.prog 68 [.int .i64 a,.int .i64 b] w fun v w'=>(∃ r:Row4,v=.tuple #[.agg r.enc.toArray,.bool (rowOf a b).isSome]∧(∀ x,rowOf a b=some x→x=r))∧Below w.heap.size w w':=by
 refine ent68 _ _ _ _ ?_
 simp (disch:=first|omega|exact zF rfl|exact zG rfl|exact fun h=>h|(simp only[zA,zB,zC,zD,bytesW];omega)) only[go_sem]
 obtain ⟨z,hz⟩:∃ z:Row4,z=⟨0,0,0,0⟩:=⟨_,rfl⟩
 have s1:=(St.start (W0:=w)).box z.enc.toArray 117
 have hzz:#[Value.int .i64 0,.int .i64 0,.int .i64 0,.int .i64 0]=z.enc.toArray:=by rw [hz]; rfl
 rw [hzz]
 generalize w.alloc (.cells z.enc.toArray 117)=w1 at s1 ⊢
 obtain ⟨b0,hb0⟩:∃ b,b=w.heap.size:=⟨_,rfl⟩
 have hbb:∀ w',Below w.heap.size w w'→Below b0 w w':=fun _ h=>by rw [hb0]; exact h
 rw [← hb0] at s1 ⊢
 have az:=z.at
 refine Ret.mono (rows_ok _) ?_
 rintro vt w2 ⟨ht,b2⟩
 obtain ⟨pt,ct,rfl,_⟩:=ht.form
 have s2:=s1.call b2
 simp (disch:=first|omega|exact zF rfl|exact zG rfl|exact fun h=>h|(simp only[zA,zB,zC,zD,bytesW];omega)) only[go_sem]
 refine W_loopU (fun k:Nat=>[(7,.int .i64 k)]) (fun k w'=>Below w2.heap.size w2 w'∧k≤rowsTable.length∧∀ j,(h:j<rowsTable.length)→j<k→(decide (rowsTable[j].kind=a) && decide (rowsTable[j].method=b))=false) (fun k=>rowsTable.length - k) 0 rfl ⟨Below.refl _ _,Nat.zero_le _,fun j _ h=>by omega⟩ ?_
 rintro k w3 ⟨b3,hk,hall⟩
 have s3:=s2.call b3
 have r3:=s3.rules 0 rfl
 have h3:=ht.below b3 (by decide)
 have b03:=s3.bel
 have hsz:rowsTable.length=15:=rfl
 unfold rowOf at *
 generalize rowsTable=tb at *
 by_cases hlt:k<tb.length
 ·have hlt':(k:Int)<tb.length:=by omega
  obtain ⟨p,rfl⟩:=ht.ptr (by omega)
  have ek:=h3.eltB (Below.refl _ _) Row4.len (by decide) hlt
  have ck:=h3.at Row4.len hlt
  have ak:=tb[k].at
  have nxt:¬ (tb[k].kind=a∧tb[k].method=b)→∀ j,(h:j<tb.length)→j<k+1→(decide (tb[j].kind=a) && decide (tb[j].method=b))=false:=fun hn j hj hjk=>by
   rcases Nat.lt_or_ge j k with h | h
   ·exact hall j hj h
   ·obtain rfl:j=k:=by omega
    rw [Bool.and_eq_false_iff,decide_eq_false_iff_not,decide_eq_false_iff_not]
    omega
  simp (disch:=first|omega|exact zF rfl|exact zG rfl|exact fun h=>h|(simp only[zA,zB,zC,zD,bytesW];omega)) only[go_sem,hlt',ek,ak,ck,r3,az]
  refine ⟨by omega,fun e1=>⟨by omega,fun e2=>⟨by omega,tb[k].len.symm,Cut.blk_okSt (s3.blk 0 rfl) tb[k].one (Nat.le_refl _),⟨tb[k],?_⟩,hbb _ ((s3.fill 0 rfl (cs:=tb[k].enc.toArray) rfl).bel)⟩,fun e2=>⟨⟨by omega,by omega⟩,k+1,rfl,⟨b3,by omega,nxt (fun h=>e2 h.2)⟩,by omega⟩⟩,fun e1=>⟨⟨by omega,by omega⟩,k+1,rfl,⟨b3,by omega,nxt (fun h=>e1 h.1)⟩,by omega⟩⟩
  have e:tb.find? (fun r=>decide (r.kind=a) && decide (r.method=b))=some tb[k]:=find_atG hlt (by simp [e1,e2]) fun j hj hjk=>hall j hj hjk
  rw [e]
  exact ⟨rfl,fun x hx=>(Option.some.inj hx).symm⟩
 ·have hlt':¬ (k:Int)<tb.length:=by omega
  simp (disch:=first|omega|exact zF rfl|exact zG rfl|exact fun h=>h|(simp only[zA,zB,zC,zD,bytesW];omega)) only[go_sem,hlt',r3]
  refine bdW_built (cells:=z.enc.toArray) (by rw [hz]; kernel_rfl) ?_
  simp (disch:=first|omega|exact zF rfl|exact zG rfl|exact fun h=>h|(simp only[zA,zB,zC,zD,bytesW];omega)) only[go_sem,hlt',r3,az]
  have e:tb.find? (fun r=>decide (r.kind=a) && decide (r.method=b))=none:=List.find?_eq_none.2 fun x hx=>by
   obtain ⟨j,hj,rfl⟩:=List.mem_iff_getElem.1 hx
   rw [hall j hj (by omega)]
   exact Bool.false_ne_true
  rw [e]
  exact ⟨z.len.symm,Cut.blk_okSt (s3.blk 0 rfl) z.one (Nat.le_refl _),⟨z,rfl,fun x hx=>by cases hx⟩,hbb _ ((s3.fill 0 rfl (cs:=z.enc.toArray) rfl).bel)⟩
def timeR(o:OpT):Int :=
 if btw o.Invoke 0 1099511627776=false∨(o.Done=false∧o.Return≠0) then 31 else if o.Done=true∧(o.Return≤o.Invoke∨o.Return > 1099511627776) then 31 else 0
theorem chk6{o:OpT}{w:World}{K:Value→World→Prop}{b0:Nat}(h0:Blk w b0 o.enc.toArray 52)(hK:K (.int .i64 (timeR o)) w) :
  W Tryz.prog (c33S6 ()) [(1,.pointer (some ⟨b0,0,none⟩))] w (finQ Tryz.prog [.tmp 2] K):=by
 have r0:=h0.rules
 have ao:=o.at
 unfold timeR at hK
 simp (disch:=first|omega|exact zF rfl|exact zG rfl|exact fun h=>h|(simp only[zA,zB,zC,zD,bytesW];omega)) only[go_sem,c33S6,c33S8,c33S11,c33S12,r0,ao]
 refine Ret.mono (between_x _ _ _ _) ?_
 rintro _ _ ⟨rfl,rfl⟩
 cases e1:btw o.Invoke 0 1099511627776
 ·rw [e1,if_pos (.inl rfl)] at hK
  simp (disch:=first|omega|exact zF rfl|exact zG rfl|exact fun h=>h|(simp only[zA,zB,zC,zD,bytesW];omega)) only[go_sem,c33S6,c33S8,c33S11,c33S12,r0,ao]
  exact hK
 cases d:o.Done
 ·by_cases e2:o.Return=0
  ·rw [if_neg (by simp [e1,e2]),if_neg (by simp [d])] at hK
   simp (disch:=first|omega|exact zF rfl|exact zG rfl|exact fun h=>h|(simp only[zA,zB,zC,zD,bytesW];omega)) only[go_sem,c33S6,c33S8,c33S11,c33S12,r0,ao,d,e2]
   exact hK
  ·rw [if_pos (.inr ⟨d,e2⟩)] at hK
   simp (disch:=first|omega|exact zF rfl|exact zG rfl|exact fun h=>h|(simp only[zA,zB,zC,zD,bytesW];omega)) only[go_sem,c33S6,c33S8,c33S11,c33S12,r0,ao,d,e2]
   exact hK
 ·rw [if_neg (by simp [e1,d])] at hK
  by_cases e2:o.Return≤o.Invoke
  ·rw [if_pos ⟨d,.inl e2⟩] at hK
   simp (disch:=first|omega|exact zF rfl|exact zG rfl|exact fun h=>h|(simp only[zA,zB,zC,zD,bytesW];omega)) only[go_sem,c33S6,c33S8,c33S11,c33S12,r0,ao,d,e2]
   exact hK
  by_cases e3:o.Return > 1099511627776
  ·rw [if_pos ⟨d,.inr e3⟩] at hK
   simp (disch:=first|omega|exact zF rfl|exact zG rfl|exact fun h=>h|(simp only[zA,zB,zC,zD,bytesW];omega)) only[go_sem,c33S6,c33S8,c33S11,c33S12,r0,ao,d,e2,e3]
   exact hK
  ·rw [if_neg (by simp only [d,true_and]; omega)] at hK
   simp (disch:=first|omega|exact zF rfl|exact zG rfl|exact fun h=>h|(simp only[zA,zB,zC,zD,bytesW];omega)) only[go_sem,c33S6,c33S8,c33S11,c33S12,r0,ao,d,e2,e3]
   exact hK
def rowR(o:OpT)(x:Row4)(a b:Int):Int :=
 if btw o.Arg 0 a=false∨btw o.Second 0 b=false then 33 else if (o.Done=true∧ansR o.Result x.how=false)∨(o.Done=false∧o.Result≠0) then 33 else timeR o
theorem chk8{o:OpT}{r:Row4}{w:World}{K:Value→World→Prop}{b0 b1:Nat}(m n:Int)(h0:Blk w b0 o.enc.toArray 52)(h1:Blk w b1 r.enc.toArray 117)
  (hK:K (.int .i64 (rowR o r m n)) w) :
  W Tryz.prog (c33S8 ()) [(1,.pointer (some ⟨b0,0,none⟩)),(3,.pointer (some ⟨b1,0,none⟩)),(5,.int .i64 m),(6,.int .i64 n)] w (finQ Tryz.prog [.tmp 2] K):=by
 have r0:=h0.rules
 have r1:=h1.rules
 have ao:=o.at
 have ar:=r.at
 unfold rowR at hK
 simp (disch:=first|omega|exact zF rfl|exact zG rfl|exact fun h=>h|(simp only[zA,zB,zC,zD,bytesW];omega)) only[go_sem,c33S8,c33S11,c33S12,r0,r1,ao,ar]
 refine Ret.mono (between_x _ _ _ _) ?_
 rintro _ _ ⟨rfl,rfl⟩
 cases e1:btw o.Arg 0 m
 ·rw [if_pos (.inl e1)] at hK
  simp (disch:=first|omega|exact zF rfl|exact zG rfl|exact fun h=>h|(simp only[zA,zB,zC,zD,bytesW];omega)) only[go_sem,c33S8,c33S11,c33S12,r0,r1,ao,ar]
  exact hK
 simp (disch:=first|omega|exact zF rfl|exact zG rfl|exact fun h=>h|(simp only[zA,zB,zC,zD,bytesW];omega)) only[go_sem,c33S8,c33S11,c33S12,r0,r1,ao,ar]
 refine Ret.mono (between_x _ _ _ _) ?_
 rintro _ _ ⟨rfl,rfl⟩
 cases e2:btw o.Second 0 n
 ·rw [if_pos (.inr e2)] at hK
  simp (disch:=first|omega|exact zF rfl|exact zG rfl|exact fun h=>h|(simp only[zA,zB,zC,zD,bytesW];omega)) only[go_sem,c33S8,c33S11,c33S12,r0,r1,ao,ar]
  exact hK
 rw [if_neg (by simp [e1,e2])] at hK
 cases d:o.Done
 ·by_cases e3:o.Result=0
  ·rw [if_neg (by simp [d,e3])] at hK
   simp (disch:=first|omega|exact zF rfl|exact zG rfl|exact fun h=>h|(simp only[zA,zB,zC,zD,bytesW];omega)) only[go_sem,c33S8,c33S11,c33S12,r0,r1,ao,ar,d,e3]
   exact chk6 h0 hK
  ·rw [if_pos (.inr ⟨d,e3⟩)] at hK
   simp (disch:=first|omega|exact zF rfl|exact zG rfl|exact fun h=>h|(simp only[zA,zB,zC,zD,bytesW];omega)) only[go_sem,c33S8,c33S11,c33S12,r0,r1,ao,ar,d,e3]
   exact hK
 ·simp (disch:=first|omega|exact zF rfl|exact zG rfl|exact fun h=>h|(simp only[zA,zB,zC,zD,bytesW];omega)) only[go_sem,c33S8,c33S11,c33S12,r0,r1,ao,ar,d]
  refine Ret.mono (answer_x _ _ _) ?_
  rintro _ _ ⟨rfl,rfl⟩
  cases e3:ansR o.Result r.how
  ·rw [if_pos (.inl ⟨d,e3⟩)] at hK
   simp (disch:=first|omega|exact zF rfl|exact zG rfl|exact fun h=>h|(simp only[zA,zB,zC,zD,bytesW];omega)) only[go_sem,c33S8,c33S11,c33S12,r0,r1,ao,ar,d]
   exact hK
  ·rw [if_neg (by simp [d,e3])] at hK
   simp (disch:=first|omega|exact zF rfl|exact zG rfl|exact fun h=>h|(simp only[zA,zB,zC,zD,bytesW];omega)) only[go_sem,c33S8,c33S11,c33S12,r0,r1,ao,ar,d]
   exact chk6 h0 hK
def chkR(o:OpT):Int :=
 if btw o.ID 1 1073741824=false∨btw o.Proc 0 1023=false∨btw o.Object 0 1023=false then 30 else match rowOf o.Kind o.Method with
  | none=>33
  | some x=>rowR o x (if 1≤x.args then 1073741824 else 0) (if 2≤x.args then 1073741824 else 0)
theorem checkOp_x(o:OpT)(w:World):Ret Tryz.prog 33 [.agg o.enc.toArray] w fun v w'=>v=.int .i64 (chkR o)∧Below w.heap.size w w':=by
 refine ent33 _ _ _ ?_
 simp (disch:=first|omega|exact zF rfl|exact zG rfl|exact fun h=>h|(simp only[zA,zB,zC,zD,bytesW];omega)) only[go_sem,c33S6,c33S8,c33S11,c33S12]
 have s1:=(St.start (W0:=w)).box o.enc.toArray 52
 generalize w.alloc (.cells o.enc.toArray 52)=w1 at s1 ⊢
 obtain ⟨b0,hb0⟩:∃ b,b=w.heap.size:=⟨_,rfl⟩
 have hbb:∀ w',Below w.heap.size w w'→Below b0 w w':=fun _ h=>by rw [hb0]; exact h
 rw [← hb0] at s1 ⊢
 have ao:=o.at
 have r1:=s1.rules 0 rfl
 unfold chkR
 simp (disch:=first|omega|exact zF rfl|exact zG rfl|exact fun h=>h|(simp only[zA,zB,zC,zD,bytesW];omega)) only[go_sem,c33S6,c33S8,c33S11,ao,r1]
 refine Ret.mono (between_x _ _ _ _) ?_
 rintro _ _ ⟨rfl,rfl⟩
 cases e1:btw o.ID 1 1073741824
 ·rw [if_pos (.inl rfl)]
  simp (disch:=first|omega|exact zF rfl|exact zG rfl|exact fun h=>h|(simp only[zA,zB,zC,zD,bytesW];omega)) only[go_sem,c33S6,c33S8,c33S11,c33S12,ao,r1]
  exact hbb _ s1.bel
 simp (disch:=first|omega|exact zF rfl|exact zG rfl|exact fun h=>h|(simp only[zA,zB,zC,zD,bytesW];omega)) only[go_sem,c33S6,c33S8,c33S11,ao,r1]
 refine Ret.mono (between_x _ _ _ _) ?_
 rintro _ _ ⟨rfl,rfl⟩
 cases e2:btw o.Proc 0 1023
 ·simp (disch:=first|omega|exact zF rfl|exact zG rfl|exact fun h=>h|(simp only[zA,zB,zC,zD,bytesW];omega)) only[go_sem,c33S6,c33S8,c33S11,c33S12,ao,r1]
  exact ⟨by simp,hbb _ s1.bel⟩
 simp (disch:=first|omega|exact zF rfl|exact zG rfl|exact fun h=>h|(simp only[zA,zB,zC,zD,bytesW];omega)) only[go_sem,c33S6,c33S8,c33S11,ao,r1]
 refine Ret.mono (between_x _ _ _ _) ?_
 rintro _ _ ⟨rfl,rfl⟩
 cases e3:btw o.Object 0 1023
 ·simp (disch:=first|omega|exact zF rfl|exact zG rfl|exact fun h=>h|(simp only[zA,zB,zC,zD,bytesW];omega)) only[go_sem,c33S6,c33S8,c33S11,c33S12,ao,r1]
  exact hbb _ s1.bel
 simp (disch:=first|omega|exact zF rfl|exact zG rfl|exact fun h=>h|(simp only[zA,zB,zC,zD,bytesW];omega)) only[go_sem,c33S6,c33S8,c33S12,ao,r1]
 refine Ret.mono (find_x _ _ _) ?_
 rintro _ w5 ⟨⟨r,rfl,hr⟩,b5⟩
 have s5:=s1.call b5
 have ar:=r.at
 have r5:=s5.rules 0 rfl
 simp (disch:=first|omega|exact zF rfl|exact zG rfl|exact fun h=>h|(simp only[zA,zB,zC,zD,bytesW];omega)) only[go_sem,c33S6,c33S8,c33S12,ao,ar,r5]
 have s6:=s5.box r.enc.toArray 117
 generalize w5.alloc (.cells r.enc.toArray 117)=w6 at s6 ⊢
 have r6:=s6.rules 0 rfl
 refine ⟨r.len.symm,?_⟩
 cases e4:rowOf o.Kind o.Method with
 | none =>
  simp (disch:=first|omega|exact zF rfl|exact zG rfl|exact fun h=>h|(simp only[zA,zB,zC,zD,bytesW];omega)) only[go_sem,c33S6,c33S8,c33S11,c33S12,Option.isSome_none]
  exact hbb _ s6.bel
 | some x =>
  obtain rfl:=hr x e4
  rw [Option.isSome_some]
  by_cases g1:1≤x.args
  ·by_cases g2:2≤x.args
   ·simp (disch:=first|omega|exact zF rfl|exact zG rfl|exact fun h=>h|(simp only[zA,zB,zC,zD,bytesW];omega)) only[go_sem,c33S6,c33S11,c33S12,r6,ar,g1,g2]
    refine chk8 _ _ (s6.blk 1 rfl) (s6.blk 0 rfl) ?_
    exact ⟨rfl,hbb _ s6.bel⟩
   ·simp (disch:=first|omega|exact zF rfl|exact zG rfl|exact fun h=>h|(simp only[zA,zB,zC,zD,bytesW];omega)) only[go_sem,c33S6,c33S11,c33S12,r6,ar,g1,g2]
    refine chk8 _ _ (s6.blk 1 rfl) (s6.blk 0 rfl) ?_
    exact ⟨rfl,hbb _ s6.bel⟩
  ·have g2:¬ 2≤x.args:=by omega
   simp (disch:=first|omega|exact zF rfl|exact zG rfl|exact fun h=>h|(simp only[zA,zB,zC,zD,bytesW];omega)) only[go_sem,c33S6,c33S11,c33S12,r6,ar,g1,g2]
   refine chk8 _ _ (s6.blk 1 rfl) (s6.blk 0 rfl) ?_
   exact ⟨rfl,hbb _ s6.bel⟩
theorem rowOf_eq(k m:Int):rowOf k m=if k=1∧m=1 then some ⟨1,1,0,2⟩ else if k=1∧m=2 then some ⟨1,2,1,0⟩ else if k=1∧m=3 then some ⟨1,3,2,1⟩ else if k=2∧m=1 then some ⟨2,1,0,3⟩ else if k=2∧m=4 then some ⟨2,4,0,0⟩ else if k=2∧m=5 then some ⟨2,5,0,0⟩ else if k=3∧m=6 then some ⟨3,6,1,0⟩ else if k=3∧m=7 then some ⟨3,7,0,4⟩ else if k=4∧m=8 then some ⟨4,8,1,0⟩ else if k=4∧m=9 then some ⟨4,9,0,4⟩ else if k=5∧m=10 then some ⟨5,10,1,1⟩ else if k=5∧m=11 then some ⟨5,11,1,1⟩ else if k=5∧m=12 then some ⟨5,12,1,1⟩ else if k=6∧m=13 then some ⟨6,13,0,0⟩ else if k=6∧m=14 then some ⟨6,14,0,0⟩ else none:=by
 unfold rowOf rowsTable
 have st:∀ (x:Row4) (l:List Row4),(x::l).find? (fun r=>decide (r.kind=k) && decide (r.method=m))=if k=x.kind∧m=x.method then some x else l.find? (fun r=>decide (r.kind=k) && decide (r.method=m)):=fun x l=>by
  rw [List.find?_cons]
  by_cases h:k=x.kind∧m=x.method
  ·rw [if_pos h,h.1,h.2]; simp
  ·rw [if_neg h]
   have:(decide (x.kind=k) && decide (x.method=m))=false:=by
    rw [Bool.and_eq_false_iff,decide_eq_false_iff_not,decide_eq_false_iff_not]
    omega
   rw [this]
 simp only [st,List.find?_nil]
theorem fits_row(k m:Int):fitsP k m=(rowOf k m).isSome:=by
 rw [rowOf_eq]
 unfold fitsP
 by_cases h1:k=1
 ·subst h1
  by_cases a1:m=1
  ·subst a1; rfl
  by_cases a2:m=2
  ·subst a2; rfl
  by_cases a3:m=3
  ·subst a3; rfl
  simp [a1,a2,a3]
  omega
 by_cases h2:k=2
 ·subst h2
  by_cases a1:m=1
  ·subst a1; rfl
  by_cases a2:m=4
  ·subst a2; rfl
  by_cases a3:m=5
  ·subst a3; rfl
  simp [a1,a2,a3]
 by_cases h3:k=3
 ·subst h3
  by_cases a1:m=6
  ·subst a1; rfl
  by_cases a2:m=7
  ·subst a2; rfl
  simp [a1,a2]
 by_cases h4:k=4
 ·subst h4
  by_cases a1:m=8
  ·subst a1; rfl
  by_cases a2:m=9
  ·subst a2; rfl
  simp [a1,a2]
 by_cases h5:k=5
 ·subst h5
  by_cases a1:m=10
  ·subst a1; rfl
  by_cases a2:m=11
  ·subst a2; rfl
  by_cases a3:m=12
  ·subst a3; rfl
  simp [a1,a2,a3]
  omega
 by_cases h6:k=6
 ·subst h6
  by_cases a1:m=13
  ·subst a1; rfl
  by_cases a2:m=14
  ·subst a2; rfl
  simp [a1,a2]
 simp [h1,h2,h3,h4,h5,h6]
theorem btw_f{n a b:Int}:btw n a b=false↔n<a∨n > b:=by
 unfold btw
 rw [Bool.and_eq_false_iff,decide_eq_false_iff_not,decide_eq_false_iff_not]
 omega
theorem val_btw(n:Int):valP n=btw n 0 1073741824:=rfl
theorem btw_zero(n:Int):btw n 0 0=decide (n=0):=by
 unfold btw
 rw [← Bool.decide_and]
 congr 1
 exact propext (by omega)
theorem rowOf_some{k m:Int}{x:Row4}(h:rowOf k m=some x):x∈rowsTable∧x.kind=k∧x.method=m :=
 ⟨List.mem_of_find?_eq_some h,by have:=List.find?_some h; simpa using this⟩
theorem args_row{o:OpT}{x:Row4}(h:rowOf o.Kind o.Method=some x):argsP o=false↔btw o.Arg 0 (if 1≤x.args then 1073741824 else 0)=false∨btw o.Second 0 (if 2≤x.args then 1073741824 else 0)=false:=by
 obtain ⟨hx,hk,hm⟩:=rowOf_some h
 unfold argsP
 simp only [rowsTable,List.mem_cons,List.not_mem_nil,or_false] at hx
 rcases hx with rfl | rfl | rfl | rfl | rfl | rfl | rfl | rfl | rfl | rfl | rfl | rfl | rfl | rfl | rfl <;> simp only at hk hm <;> simp [← hm,val_btw,btw_zero]
 all_goals first
  | omega
  | (cases btw o.Arg 0 1073741824 <;> simp; done)
  | (cases btw o.Arg 0 1073741824 <;> cases btw o.Second 0 1073741824 <;> simp; done)
theorem res_row{o:OpT}{x:Row4}(h:rowOf o.Kind o.Method=some x):resP o=ansR o.Result x.how:=by
 obtain ⟨hx,hk,hm⟩:=rowOf_some h
 unfold resP ansR
 simp only [rowsTable,List.mem_cons,List.not_mem_nil,or_false] at hx
 rcases hx with rfl | rfl | rfl | rfl | rfl | rfl | rfl | rfl | rfl | rfl | rfl | rfl | rfl | rfl | rfl <;> simp only at hk hm <;> rw [Bool.eq_iff_iff] <;> simp [← hm,← hk,bitP,valP,btw] <;> try omega
theorem chk_eq(o:OpT):chkP o=chkR o:=by
 unfold chkP chkR
 simp only [btw_f]
 by_cases h1:o.ID<1∨o.ID > 1073741824∨o.Proc<0∨o.Proc > 1023∨o.Object<0∨o.Object > 1023
 ·rw [if_pos h1,if_pos (by omega)]
 rw [if_neg h1,if_neg (show ¬ ((o.ID<1∨o.ID > 1073741824)∨(o.Proc<0∨o.Proc > 1023)∨(o.Object<0∨o.Object > 1023)) from by omega),fits_row]
 cases e:rowOf o.Kind o.Method with
 | none=>rw [if_pos (.inl rfl)]
 | some x =>
  unfold rowR timeR
  rw [Option.isSome_some]
  dsimp only
  by_cases a1:argsP o=false
  ·rw [if_pos (.inr (.inl a1)),if_pos ((args_row e).1 a1)]
  by_cases a2:(o.Done=true∧resP o=false)∨(o.Done=false∧o.Result≠0)
  ·rw [if_pos (.inr (.inr a2)),if_neg (fun h=>a1 ((args_row e).2 h)),if_pos (by rw [← res_row e]; exact a2)]
  rw [if_neg (by
   rintro (h | h | h)
   ·cases h
   ·exact a1 h
   ·exact a2 h),if_neg (fun h=>a1 ((args_row e).2 h)),if_neg (show ¬ (o.Done=true∧ansR o.Result x.how=false∨o.Done=false∧o.Result≠0) from by rw [← res_row e]; exact a2)]
  simp only [btw_f]
  by_cases t1:(o.Invoke<0∨o.Invoke > 1099511627776)∨(o.Done=false∧o.Return≠0)
  ·rw [if_pos t1,if_pos]
   rcases t1 with (t | t) | t
   ·exact .inl t
   ·exact .inr (.inl t)
   ·exact .inr (.inr (.inr t))
  ·rw [if_neg t1]
   by_cases t2:o.Done=true∧(o.Return≤o.Invoke∨o.Return > 1099511627776)
   ·rw [if_pos t2,if_pos (.inr (.inr (.inl t2)))]
   ·rw [if_neg t2,if_neg]
    rintro (t | t | t | t)
    ·exact t1 (.inl (.inl t))
    ·exact t1 (.inl (.inr t))
    ·exact t2 t
    ·exact t1 (.inr t)
open Go Go.Ann Go.RowKit
open Cut (containsFunc_ok)
def nz:List Int→Int
 | []=>0
 | x::r=>if x=0 then nz r else x
def badK(o p:OpT):Bool:=decide (p.Object=o.Object) && decide (p.Kind≠o.Kind)
def badP(o p:OpT):Bool:=decide (p.Proc=o.Proc) && (!before p o && !before o p)
def bes(l:List OpT)(o:OpT):Int:=if l.any (fun p=>!decide (p.ID=o.ID) && badK o p) then 33 else if l.any (fun p=>!decide (p.ID=o.ID) && badP o p) then 32 else 0
theorem rbeside_ok(va:Value)(l:List OpT)(o:OpT)(w:World)(ha:RdS w 11 OpT.enc va l)(hl:(l.length:Int)≤9223372036854775806) :
  Ret Tryz.prog 74 [va,.agg o.enc.toArray] w fun v w'=>v=.int .i64 (bes l o)∧Below w.heap.size w w':=by
 obtain ⟨pa,ca,rfl,_⟩:=ha.form
 refine ent74 _ _ _ _ ?_
 simp (disch:=first|omega|exact zF rfl|exact zG rfl|exact fun h=>h|(simp only[zA,zB,zC,zD,bytesW];omega)) only[go_sem]
 have s1:=(St.start (W0:=w)).box o.enc.toArray 52
 have h1:=ha.below s1.bel (by decide)
 generalize w.alloc (.cells o.enc.toArray 52)=w1 at s1 h1 ⊢
 obtain ⟨b0,hb0⟩:∃ b,b=w.heap.size:=⟨_,rfl⟩
 have hbb:∀ w',Below w.heap.size w w'→Below b0 w w':=fun _ h=>by rw [hb0]; exact h
 rw [← hb0] at s1 ⊢
 have ao:=o.at
 refine W_loopU (fun k:Nat=>[(5,.int .i64 k)]) (fun k w'=>Below w1.heap.size w1 w'∧k≤l.length∧∀ j,(h:j<l.length)→j<k→(!decide (l[j].ID=o.ID) && badK o l[j])=false) (fun k=>l.length - k) 0 rfl ⟨Below.refl _ _,Nat.zero_le _,fun j _ h=>by omega⟩ ?_
 rintro k w2 ⟨b2,hk,he⟩
 have s2:=s1.call b2
 have r2:=s2.rules 0 rfl
 have h2:=h1.below b2 (by decide)
 by_cases hlt:k<l.length
 ·have hlt':(k:Int)<l.length:=by omega
  obtain ⟨p,rfl⟩:=ha.ptr (by omega)
  have ek:=h2.eltB (Below.refl _ _) OpT.len (by decide) hlt
  have ak:=l[k].at
  simp (disch:=first|omega|exact zF rfl|exact zG rfl|exact fun h=>h|(simp only[zA,zB,zC,zD,bytesW];omega)) only[go_sem,hlt']
  refine c74draw0 ?_
  simp (disch:=first|omega|exact zF rfl|exact zG rfl|exact fun h=>h|(simp only[zA,zB,zC,zD,bytesW];omega)) only[go_sem,c74D0,r2,ek,ak,ao]
  have b02:Below w.heap.size w w2.drew:=(s1.bel.trans (b2.mono s1.size)).drew
  have go:(!decide (l[k].ID=o.ID) && badK o l[k])=false→∀ j,(h:j<l.length)→j<k+1→(!decide (l[j].ID=o.ID) && badK o l[j])=false:=fun hx j h1 h3=>by
   rcases Nat.lt_or_ge j k with h' | h'
   ·exact he j h1 h'
   ·obtain rfl:j=k:=by omega
    exact hx
  refine ⟨⟨by omega,by omega⟩,fun e1=>⟨⟨by omega,by omega⟩,fun e2=>⟨⟨by omega,by omega⟩,fun e3=>⟨?_,hbb _ (b02)⟩,fun e3=>⟨⟨by omega,by omega⟩,k+1,rfl,⟨b2.drew,by omega,go (by simp [badK,e3])⟩,by omega⟩⟩,fun e2=>⟨⟨by omega,by omega⟩,k+1,rfl,⟨b2.drew,by omega,go (by simp [badK,e2])⟩,by omega⟩⟩,fun e1=>⟨⟨by omega,by omega⟩,k+1,rfl,⟨b2.drew,by omega,go (by simp [e1])⟩,by omega⟩⟩
  unfold bes
  rw [if_pos (List.any_eq_true.2 ⟨l[k],List.getElem_mem hlt,by simp [badK,e1,e2,e3]⟩)]
 ·have hlt':¬ (k:Int)<l.length:=by omega
  simp (disch:=first|omega|exact zF rfl|exact zG rfl|exact fun h=>h|(simp only[zA,zB,zC,zD,bytesW];omega)) only[go_sem,hlt']
  have hall:(l.any fun p=>!decide (p.ID=o.ID) && badK o p)=false:=List.any_eq_false.2 fun x hx=>by
   obtain ⟨j,hj,rfl⟩:=List.mem_iff_getElem.1 hx
   rw [he j hj (by omega)]
   exact Bool.false_ne_true
  clear he
  unfold bes
  rw [if_neg (by rw [hall]; exact Bool.false_ne_true)]
  refine W_loopU (fun k:Nat=>[(6,.int .i64 k)]) (fun k w'=>Below w1.heap.size w1 w'∧k≤l.length∧∀ j,(h:j<l.length)→j<k→(!decide (l[j].ID=o.ID) && badP o l[j])=false) (fun k=>l.length - k) 0 rfl ⟨b2,Nat.zero_le _,fun j _ h=>by omega⟩ ?_
  clear r2 h2 s2 b2
  rintro k w3 ⟨b3,hk,he⟩
  have s3:=s1.call b3
  have r3:=s3.rules 0 rfl
  have h3:=h1.below b3 (by decide)
  by_cases hlt:k<l.length
  ·have hlt':(k:Int)<l.length:=by omega
   obtain ⟨p,rfl⟩:=ha.ptr (by omega)
   have ek:=h3.eltB (Below.refl _ _) OpT.len (by decide) hlt
   have ck:=h3.at OpT.len hlt
   have ak:=l[k].at
   have go:(!decide (l[k].ID=o.ID) && badP o l[k])=false→∀ j,(h:j<l.length)→j<k+1→(!decide (l[j].ID=o.ID) && badP o l[j])=false:=fun hx j h1 h3=>by
    rcases Nat.lt_or_ge j k with h' | h'
    ·exact he j h1 h'
    ·obtain rfl:j=k:=by omega
     exact hx
   have bad:(!decide (l[k].ID=o.ID) && badP o l[k])=true→32=(if (l.any fun p=>!decide (p.ID=o.ID) && badP o p)=true then (32:Int) else 0):=fun h=>by
    rw [if_pos (List.any_eq_true.2 ⟨l[k],List.getElem_mem hlt,h⟩)]
   simp (disch:=first|omega|exact zF rfl|exact zG rfl|exact fun h=>h|(simp only[zA,zB,zC,zD,bytesW];omega)) only[go_sem,hlt']
   have hp3:=h3.blt OpT.len (by decide) (by omega)
   have hb3:=s3.low 0 rfl
   have hd3:w3.drew.heap.size=w3.heap.size:=rfl
   refine c74draw1 (Chg (fun _=>False) _) (Chg.refl _ _) ?_
   simp (disch:=first|omega|exact zF rfl|exact zG rfl|exact fun h=>h|(simp only[zA,zB,zC,zD,bytesW];omega)) only[go_sem,c74D1,r3,ek,ak,ao,ck]
   have b03:Below w1.heap.size w1 w3.drew:=b3.drew
   refine ⟨⟨by omega,by omega⟩,fun e1=>⟨⟨by omega,by omega⟩,fun e2=>⟨⟨by omega,by omega⟩,Ret.mono (rbefore_ok _ _ _) ?_⟩,fun e2=>⟨⟨by omega,by omega⟩,k+1,rfl,⟨b03,by omega,go (by simp [badP,e2])⟩,by omega⟩⟩,fun e1=>⟨⟨by omega,by omega⟩,k+1,rfl,⟨b03,by omega,go (by simp [e1])⟩,by omega⟩⟩
   rintro _ w4 ⟨rfl,b4⟩
   have b34:Below w3.heap.size w3 w4:=(Below.refl _ w3).drew.trans b4
   have h4:=h3.below b34 (by decide)
   have ck4:=h4.at OpT.len hlt
   have s4:=s3.call b34
   have r4:=s4.rules 0 rfl
   have b04:Below w1.heap.size w1 w4:=b3.trans (b34.mono b3.size)
   simp (disch:=first|omega|exact zF rfl|exact zG rfl|exact fun h=>h|(simp only[zA,zB,zC,zD,bytesW];omega)) only[go_sem,c74D1,r3,r4,ek,ak,ao,ck,ck4]
   refine ⟨Chg.of_below b4,fun e3=>⟨⟨by omega,by omega⟩,Chg.of_below b4,Ret.mono (rbefore_ok _ _ _) ?_⟩,fun e3=>⟨⟨by omega,by omega⟩,k+1,rfl,⟨b04,by omega,go (by simp [badP,e3])⟩,by omega⟩⟩
   rintro _ w5 ⟨rfl,b5⟩
   have b05:Below w1.heap.size w1 w5:=b04.trans (b5.mono b04.size)
   simp (disch:=first|omega|exact zF rfl|exact zG rfl|exact fun h=>h|(simp only[zA,zB,zC,zD,bytesW];omega)) only[go_sem,c74D1,r3,r4,ek,ak,ao,ck,ck4]
   exact ⟨(Chg.of_below b4).trans (Chg.of_below b5),fun e4=>⟨bad (by simp [badP,e1,e2,e3,e4]),hbb _ (s1.bel.trans (b05.mono s1.size))⟩,fun e4=>⟨⟨by omega,by omega⟩,k+1,rfl,⟨b05,by omega,go (by simp [badP,e4])⟩,by omega⟩⟩
  ·have hlt':¬ (k:Int)<l.length:=by omega
   simp (disch:=first|omega|exact zF rfl|exact zG rfl|exact fun h=>h|(simp only[zA,zB,zC,zD,bytesW];omega)) only[go_sem,hlt']
   rw [if_neg (by
    rw [List.any_eq_false.2 fun x hx=>by
     obtain ⟨j,hj,rfl⟩:=List.mem_iff_getElem.1 hx
     rw [he j hj (by omega)]
     exact Bool.false_ne_true]
    exact Bool.false_ne_true)]
   exact ⟨rfl,hbb _ ((s1.bel.trans (b3.mono s1.size)))⟩
open Go Go.Ann Go.RowKit
def fAt(l:List OpT)(k:Nat):Int:=match l[k]? with
 | none=>0
 | some o=>if chkP o=0 then (if k=0 then 0 else match l[k - 1]? with
  | none=>0
  | some p=>if o.ID≤p.ID then 7 else 0) else chkP o
def fsAll(l:List OpT):List Int:=(List.range l.length).map (fAt l)
def histP(l:List OpT):Int:=if 64<l.length then 34 else nz (fsAll l++l.map (bes l))
theorem fs_drop{l:List OpT}{k:Nat}(h:k<l.length):(fsAll l).drop k=fAt l k::(fsAll l).drop (k+1):=by
 have hl:k<(fsAll l).length:=by unfold fsAll; simpa using h
 rw [List.drop_eq_getElem_cons hl]
 congr 1
 simp [fsAll]
theorem fAt_chk{l:List OpT}{k:Nat}(h:k<l.length)(he:¬ chkP l[k]=0):fAt l k=chkP l[k]:=by
 unfold fAt
 rw [List.getElem?_eq_getElem h]
 simp only
 rw [if_neg he]
theorem fAt_zero{l:List OpT}(h:0<l.length)(he:chkP l[0]=0):fAt l 0=0:=by
 unfold fAt
 rw [List.getElem?_eq_getElem h]
 simp only
 rw [if_pos he]
 simp
theorem fAt_id{l:List OpT}{k:Nat}(h:k<l.length)(hk:0<k)(he:chkP l[k]=0):fAt l k=if l[k].ID≤(l[k - 1]'(by omega)).ID then 7 else 0:=by
 unfold fAt
 rw [List.getElem?_eq_getElem h,List.getElem?_eq_getElem (show k - 1<l.length by omega)]
 simp only
 rw [if_pos he,if_neg (by omega)]
theorem nz_cons(x:Int)(r:List Int):nz (x::r)=if x=0 then nz r else x:=rfl
theorem rcheck_ok(va:Value)(l:List OpT)(w:World)(ha:RdS w 11 OpT.enc va l)(hl:(l.length:Int)≤9223372036854775807) :
  Ret Tryz.prog 44 [va] w fun v w'=>v=.int .i64 (histP l)∧Below w.heap.size w w':=by
 obtain ⟨pa,ca,rfl,_⟩:=ha.form
 refine ent44 _ _ _ ?_
 unfold histP
 by_cases h64:64<l.length
 ·have h64':64<(l.length:Int):=by omega
  rw [if_pos h64]
  simp (disch:=first|omega|exact zF rfl|exact zG rfl|exact fun h=>h|(simp only[zA,zB,zC,zD,bytesW];omega)) only[go_sem,h64']
  exact Below.refl _ _
 have h64':¬ 64<(l.length:Int):=by omega
 rw [if_neg h64]
 simp (disch:=first|omega|exact zF rfl|exact zG rfl|exact fun h=>h|(simp only[zA,zB,zC,zD,bytesW];omega)) only[go_sem,h64']
 generalize hN:nz (fsAll l++l.map (bes l))=N
 refine W_loopU (fun k:Nat=>[(3,.int .i64 k)]) (fun k w'=>Below w.heap.size w w'∧k≤l.length∧nz ((fsAll l).drop k++l.map (bes l))=N) (fun k=>l.length - k) 0 rfl ⟨Below.refl _ _,Nat.zero_le _,by rw [List.drop_zero]; exact hN⟩ ?_
 rintro k w2 ⟨b2,hk,he⟩
 have h2:=ha.below b2 (by decide)
 by_cases hlt:k<l.length
 ·have hlt':(k:Int)<l.length:=by omega
  obtain ⟨p,rfl⟩:=ha.ptr (by omega)
  have ek:=h2.at OpT.len hlt
  rw [fs_drop hlt,List.cons_append,nz_cons] at he
  simp (disch:=first|omega|exact zF rfl|exact zG rfl|exact fun h=>h|(simp only[zA,zB,zC,zD,bytesW];omega)) only[go_sem,hlt',ek]
  refine ⟨by omega,Ret.mono (checkOp_x _ _) ?_⟩
  rintro _ w3 ⟨rfl,b3⟩
  rw [← chk_eq]
  have b03:=b2.trans (b3.mono b2.size)
  by_cases e0:chkP l[k]=0
  ·simp (disch:=first|omega|exact zF rfl|exact zG rfl|exact fun h=>h|(simp only[zA,zB,zC,zD,bytesW];omega)) only[go_sem,e0]
   have h3:=ha.below b03 (by decide)
   have ek3:=h3.eltB (Below.refl _ _) OpT.len (by decide) hlt
   have ak:=l[k].at
   rcases Nat.eq_zero_or_pos k with rfl | hk0
   ·rw [fAt_zero hlt e0,if_pos rfl] at he
    refine c44draw0 ?_
    simp (disch:=first|omega|exact zF rfl|exact zG rfl|exact fun h=>h|(simp only[zA,zB,zC,zD,bytesW];omega)) only[go_sem,c44D0,hlt',ek3,ak]
    exact ⟨⟨by omega,by omega⟩,1,rfl,⟨b03.drew,by omega,he⟩,by omega⟩
   ·have ej3:=h3.eltB (Below.refl _ _) OpT.len (by decide) (show k - 1<l.length by omega)
    have aj:=l[k - 1].at
    have hk1:(k:Int) - 1=(k - 1:Nat):=by omega
    have hk2:0<(k:Int):=by omega
    rw [fAt_id hlt hk0 e0] at he
    refine c44draw0 ?_
    by_cases e1:l[k].ID≤l[k - 1].ID
    ·rw [if_pos e1,if_neg (by decide)] at he
     simp (disch:=first|omega|exact zF rfl|exact zG rfl|exact fun h=>h|(simp only[zA,zB,zC,zD,bytesW];omega)) only[go_sem,c44D0,hlt',ek3,ak,hk1,hk2,ej3,aj,e1]
     exact ⟨by omega,⟨by omega,by omega⟩,⟨by omega,by omega⟩,he,b03.drew⟩
    ·rw [if_neg e1,if_pos rfl] at he
     simp (disch:=first|omega|exact zF rfl|exact zG rfl|exact fun h=>h|(simp only[zA,zB,zC,zD,bytesW];omega)) only[go_sem,c44D0,hlt',ek3,ak,hk1,hk2,ej3,aj,e1]
     exact ⟨by omega,⟨by omega,by omega⟩,⟨by omega,by omega⟩,⟨by omega,by omega⟩,k+1,rfl,⟨b03.drew,by omega,he⟩,by omega⟩
  ·rw [fAt_chk hlt e0,if_neg e0] at he
   simp (disch:=first|omega|exact zF rfl|exact zG rfl|exact fun h=>h|(simp only[zA,zB,zC,zD,bytesW];omega)) only[go_sem,e0]
   exact ⟨he,b03⟩
 ·have hlt':¬ (k:Int)<l.length:=by omega
  obtain rfl:k=l.length:=by omega
  rw [List.drop_of_length_le (by unfold fsAll; simp),List.nil_append] at he
  simp (disch:=first|omega|exact zF rfl|exact zG rfl|exact fun h=>h|(simp only[zA,zB,zC,zD,bytesW];omega)) only[go_sem,hlt']
  refine W_loopU (fun k:Nat=>[(5,.int .i64 k)]) (fun k w'=>Below w.heap.size w w'∧k≤l.length∧nz ((l.drop k).map (bes l))=N) (fun k=>l.length - k) 0 rfl ⟨b2,Nat.zero_le _,by rw [List.drop_zero]; exact he⟩ ?_
  clear h2 b2 he
  rintro k w3 ⟨b3,hk,he⟩
  have h3:=ha.below b3 (by decide)
  by_cases hlt:k<l.length
  ·have hlt':(k:Int)<l.length:=by omega
   obtain ⟨p,rfl⟩:=ha.ptr (by omega)
   have ek:=h3.at OpT.len hlt
   rw [List.drop_eq_getElem_cons hlt,List.map_cons,nz_cons] at he
   simp (disch:=first|omega|exact zF rfl|exact zG rfl|exact fun h=>h|(simp only[zA,zB,zC,zD,bytesW];omega)) only[go_sem,hlt',ek]
   refine ⟨by omega,Ret.mono (rbeside_ok _ _ _ _ h3 (by omega)) ?_⟩
   rintro _ w4 ⟨rfl,b4⟩
   have b04:=b3.trans (b4.mono b3.size)
   by_cases e0:bes l l[k]=0
   ·rw [if_pos e0] at he
    simp (disch:=first|omega|exact zF rfl|exact zG rfl|exact fun h=>h|(simp only[zA,zB,zC,zD,bytesW];omega)) only[go_sem,e0]
    exact ⟨⟨by omega,by omega⟩,k+1,rfl,⟨b04,by omega,he⟩,by omega⟩
   ·rw [if_neg e0] at he
    simp (disch:=first|omega|exact zF rfl|exact zG rfl|exact fun h=>h|(simp only[zA,zB,zC,zD,bytesW];omega)) only[go_sem,e0]
    exact ⟨he,b04⟩
  ·have hlt':¬ (k:Int)<l.length:=by omega
   obtain rfl:k=l.length:=by omega
   rw [List.drop_length] at he
   simp (disch:=first|omega|exact zF rfl|exact zG rfl|exact fun h=>h|(simp only[zA,zB,zC,zD,bytesW];omega)) only[go_sem,hlt']
   exact ⟨he,b3⟩
open Go Go.Ann Go.RowKit
def firstP(k:Int):List Int:=if k=1∨k=2 then [0] else []
theorem mfirst_ok(k:Int)(w:World):Ret Tryz.prog 40 [.int .i64 k] w fun u w'=>(RdS w' 1 intE u (firstP k)∧∀ j,slFoot u j→w.heap.size≤j)∧Below w.heap.size w w':=by
 refine ent40 _ _ _ ?_
 by_cases h:k=1∨k=2
 ·have e:firstP k=[0]:=if_pos h
  rw [e]
  have fin:∀ {K:Value→World→Prop},K (.slice (some ⟨w.heap.size,0,none⟩) 1 1) (w.alloc (.cells #[.int .i64 0] 3))→bsW Tryz.prog 25 1 [0] [.int .i64 0] w K:=fun hK=>bsW_ones ty25mkI rfl rfl (by decide) (by decide) (fun u hu=>by rw [List.mem_singleton] at hu; subst hu; rfl) hK
  have res:(RdS (w.alloc (.cells #[.int .i64 0] 3)) 1 intE (.slice (some ⟨w.heap.size,0,none⟩) 1 1) [0]∧∀ j,slFoot (.slice (some ⟨w.heap.size,0,none⟩) 1 1) j→w.heap.size≤j)∧Below w.heap.size w (w.alloc (.cells #[.int .i64 0] 3)):=by
   refine ⟨⟨rd_new (sz:=1) (n:=1) rfl,fun j hj=>?_⟩,(Below.refl _ _).alloc (Nat.le_refl _) _⟩
   have:=slFoot_own hj
   simp only [Value.ownBlock,Option.some.injEq] at this
   omega
  rcases h with rfl | rfl
  ·simp (disch:=first|omega|exact zF rfl|exact zG rfl|exact fun h=>h|(simp only[zA,zB,zC,zD,bytesW];omega)) only[go_sem]
   refine fin ?_
   simp (disch:=first|omega|exact zF rfl|exact zG rfl|exact fun h=>h|(simp only[zA,zB,zC,zD,bytesW];omega)) only[go_sem]
   exact res
  ·simp (disch:=first|omega|exact zF rfl|exact zG rfl|exact fun h=>h|(simp only[zA,zB,zC,zD,bytesW];omega)) only[go_sem]
   refine fin ?_
   simp (disch:=first|omega|exact zF rfl|exact zG rfl|exact fun h=>h|(simp only[zA,zB,zC,zD,bytesW];omega)) only[go_sem]
   exact res
 ·have e:firstP k=[]:=if_neg h
  rw [e]
  have h1:¬ k=1:=fun e=>h (.inl e)
  have h2:¬ k=2:=fun e=>h (.inr e)
  simp (disch:=first|omega|exact zF rfl|exact zG rfl|exact fun h=>h|(simp only[zA,zB,zC,zD,bytesW];omega)) only[go_sem,h1,h2]
  refine ⟨⟨⟨by simp,none,0,rfl,Nat.le_refl _,fun h=>absurd rfl h⟩,fun j hj=>?_⟩,Below.refl _ _⟩
  have:=slFoot_own hj
  simp [Value.ownBlock] at this
theorem pure_nodup{l:List OpT}(h:(l.map OpT.ID).Nodup):Cut.Pure l:=by
 induction l with
 | nil=>exact fun a ha=>by cases ha
 | cons x r ih =>
  rw [List.map_cons,List.nodup_cons] at h
  intro a ha b hb e
  rcases List.mem_cons.1 ha with e1 | ha1
  ·rcases List.mem_cons.1 hb with e2 | hb1
   ·rw [e1,e2]
   ·exact absurd (by rw [← e1,e]; exact List.mem_map_of_mem hb1) h.1
  ·rcases List.mem_cons.1 hb with e2 | hb1
   ·exact absurd (by rw [← e2,← e]; exact List.mem_map_of_mem ha1) h.1
   ·exact ih h.2 a ha1 b hb1 e
theorem nz_zero{l:List Int}(h:nz l=0):∀ x∈l,x=0:=by
 induction l with
 | nil=>intro x hx; cases hx
 | cons y r ih =>
  rw [nz_cons] at h
  by_cases e:y=0
  ·rw [if_pos e] at h
   intro x hx
   rcases List.mem_cons.1 hx with rfl | hx
   ·exact e
   ·exact ih h x hx
  ·rw [if_neg e] at h
   exact absurd h e
theorem hist_good{l:List OpT}(h:histP l=0):l.length≤64∧l.Pairwise (fun a b=>a.ID<b.ID)∧∀ a∈l,∀ b∈l,a.Object=b.Object→a.Kind=b.Kind:=by
 unfold histP at h
 by_cases h64:64<l.length
 ·rw [if_pos h64] at h; cases h
 rw [if_neg h64] at h
 have hz:=nz_zero h
 refine ⟨by omega,Cut.rising_pairwise fun j hj=>?_,fun a ha b hb e=>?_⟩
 ·have h1:=hz (fAt l (j+1)) (List.mem_append_left _ (by unfold fsAll; exact List.mem_map_of_mem (List.mem_range.2 hj)))
  by_cases e0:chkP l[j+1]=0
  ·rw [fAt_id hj (by omega) e0] at h1
   have e2:l[j+1 - 1]'(by omega)=l[j]:=by congr 1
   rw [e2] at h1
   by_cases e1:l[j+1].ID≤l[j].ID
   ·rw [if_pos e1] at h1; cases h1
   ·omega
  ·rw [fAt_chk hj e0] at h1
   exact absurd h1 e0
 ·have h1:=hz (bes l b) (List.mem_append_right _ (List.mem_map_of_mem hb))
  unfold bes at h1
  by_cases hk:a.Kind=b.Kind
  ·exact hk
  ·by_cases hi:a.ID=b.ID
   ·have hp:l.Pairwise fun a b=>a.ID<b.ID:=Cut.rising_pairwise fun j hj=>by
     have h1:=hz (fAt l (j+1)) (List.mem_append_left _ (by unfold fsAll; exact List.mem_map_of_mem (List.mem_range.2 hj)))
     by_cases e0:chkP l[j+1]=0
     ·rw [fAt_id hj (by omega) e0] at h1
      have e2:l[j+1 - 1]'(by omega)=l[j]:=by congr 1
      rw [e2] at h1
      by_cases e1:l[j+1].ID≤l[j].ID
      ·rw [if_pos e1] at h1; cases h1
      ·omega
     ·rw [fAt_chk hj e0] at h1
      exact absurd h1 e0
    rw [Cut.pair_id hp a ha b hb hi]
   ·rw [if_pos (List.any_eq_true.2 ⟨a,ha,by simp [badK,hi,e,hk]⟩)] at h1
    cases h1
theorem nodup_sub_len:∀ {a b:List Int},a.Nodup→(∀ x∈a,x∈b)→a.length≤b.length
 | [],_,_,_=>Nat.zero_le _
 | x::r,b,h,hs=>by
  rw [List.nodup_cons] at h
  have hx:=hs x List.mem_cons_self
  have:=nodup_sub_len (a:=r) (b:=b.erase x) h.2 fun y hy=>(List.mem_erase_of_ne (fun e=>h.1 (by rw [← e]; exact hy))).2 (hs y (List.mem_cons_of_mem _ hy))
  rw [List.length_erase_of_mem hx] at this
  have:=List.length_pos_of_mem hx
  rw [List.length_cons]
  omega
theorem byObj_len{l:List OpT}{segs:List Seg}(h:Cut.ByObj l segs):segs.length≤l.length:=by
 have:=nodup_sub_len (a:=segs.map Seg.obj) (b:=l.map OpT.Object) (by
  unfold List.Nodup
  rw [List.pairwise_map]
  exact h.up.imp fun h=>Int.ne_of_lt h) (fun x hx=>by
  obtain ⟨s,hs,rfl⟩:=List.mem_map.1 hx
  obtain ⟨o,r,e,_⟩:=h.kind s hs
  have ho:o∈s.ops:=by rw [e]; exact List.mem_cons_self
  have:=(h.sorts s hs).1.mem_iff.1 ho
  unfold Cut.ofObj at this
  obtain ⟨a,b⟩:=List.mem_filter.1 this
  exact List.mem_map.2 ⟨o,a,by simpa using b⟩)
 simpa using this
theorem st_recast{W0 w:World}{F:Nat→Prop}{L L':List Res}{I:List Inv}(h:St W0 w F L I)(e:L=L'):St W0 w F L' I:=e ▸ h
theorem St.front{W0 w:World}{F:Nat→Prop}{A D L:List Res}{I:List Inv}(h:St W0 w F (A++(D++L)) I):St W0 w F (D++(A++L)) I :=
 h.perm (by rw [← List.append_assoc,← List.append_assoc]; exact List.perm_append_comm.append_right L)
open Go Go.Ann Go.RowKit
theorem idx_mem{l:List Int}{x:Int}(h:x∈l):∃ h1:l.idxOf x<l.length,l[l.idxOf x]=x:=⟨List.idxOf_lt_length_iff.2 h,List.getElem_idxOf (List.idxOf_lt_length_iff.2 h)⟩
theorem hist_more{l:List OpT}(h:histP l=0):(∀ o∈l,chkP o=0)∧∀ a∈l,∀ b∈l,a.ID≠b.ID→a.Proc=b.Proc→before a b=true∨before b a=true:=by
 obtain ⟨_,hup,_⟩:=hist_good h
 unfold histP at h
 by_cases h64:64<l.length
 ·rw [if_pos h64] at h; cases h
 rw [if_neg h64] at h
 have hz:=nz_zero h
 refine ⟨fun o ho=>?_,fun a ha b hb hi hp=>?_⟩
 ·obtain ⟨k,hk,rfl⟩:=List.mem_iff_getElem.1 ho
  have h1:=hz (fAt l k) (List.mem_append_left _ (by unfold fsAll; exact List.mem_map_of_mem (List.mem_range.2 hk)))
  by_cases e0:chkP l[k]=0
  ·exact e0
  ·rw [fAt_chk hk e0] at h1
   exact absurd h1 e0
 ·have h1:=hz (bes l b) (List.mem_append_right _ (List.mem_map_of_mem hb))
  unfold bes at h1
  split at h1
  ·cases h1
  ·split at h1
   ·cases h1
   ·rename_i h2
    cases e1:before a b
    ·cases e2:before b a
     ·exfalso
      exact h2 (List.any_eq_true.2 ⟨a,ha,by simp [badP,hi,hp,e1,e2]⟩)
     ·exact .inr rfl
    ·exact .inl rfl
theorem chk_times{o:OpT}(h:chkP o=0):0≤o.Invoke∧(o.Done=true→o.Invoke<o.Return):=by
 unfold chkP at h
 split at h
 ·cases h
 ·split at h
  ·cases h
  ·split at h
   ·cases h
   ·rename_i h1
    refine ⟨?_,fun hd=>?_⟩
    ·rcases Int.lt_or_le o.Invoke 0 with h2 | h2
     ·exact absurd (.inl h2) h1
     ·exact h2
    ·rcases Int.lt_or_le o.Invoke o.Return with h2 | h2
     ·exact h2
     ·exact absurd (.inr (.inr (.inl ⟨hd,.inl h2⟩))) h1
theorem nodup_ids{l:List OpT}(h:l.Pairwise fun a b=>a.ID<b.ID):(l.map OpT.ID).Nodup:=by
 unfold List.Nodup
 rw [List.pairwise_map]
 exact h.imp fun h=>Int.ne_of_lt h
def startW(accP accO:List Seg):Sp:=⟨List.replicate accP.length 0,accO.map fun s=>firstP s.kind⟩
def progsW(accP:List Seg):List (List OpT):=accP.map Seg.ops
def objsW(accO:List Seg):List Int:=accO.map Seg.obj
theorem byProc_mem{l:List OpT}{acc:List Seg}(h:Cut.ByProc l acc){s:Seg}(hs:s∈acc)(o:OpT):o∈s.ops↔o∈l∧o.Proc=s.obj:=by
 rw [(h.sorts s hs).1.mem_iff]
 unfold Cut.ofProc
 rw [List.mem_filter,decide_eq_true_eq]
theorem byObj_mem{l:List OpT}{acc:List Seg}(h:Cut.ByObj l acc){s:Seg}(hs:s∈acc)(o:OpT):o∈s.ops↔o∈l∧o.Object=s.obj:=by
 rw [(h.sorts s hs).1.mem_iff]
 unfold Cut.ofObj
 rw [List.mem_filter,decide_eq_true_eq]
open Go Go.Ann Go.RowKit
theorem mem_opAt{P:List (List OpT)}{d:List Nat}{k:Nat}{o:OpT}(h:opAt P d k=some o):k<P.length∧o∈P.getD k []:=by
 have hk:=opAt_lt h
 refine ⟨hk,?_⟩
 unfold opAt at h
 rw [List.getElem?_eq_getElem hk] at h
 rw [List.getD_eq_getElem?_getD,List.getElem?_eq_getElem hk]
 simp only [Option.bind_some] at h
 cases e:d[k]? with
 | none=>rw [e] at h; cases h
 | some n =>
  rw [e] at h
  exact List.mem_of_getElem? h
theorem progs_getD{accP:List Seg}{k:Nat}(hk:k<accP.length):(progsW accP).getD k []=accP[k].ops:=by
 unfold progsW
 rw [List.getD_eq_getElem?_getD,List.getElem?_map,List.getElem?_eq_getElem hk]
 rfl
theorem progs_one{l:List OpT}{accP:List Seg}(hp:Cut.ByProc l accP)(hl:Cut.Pure l):∀ d k k' o o',opAt (progsW accP) d k=some o→opAt (progsW accP) d k'=some o'→o.ID=o'.ID→k=k':=by
 intro d k k' o o' h h' e
 obtain ⟨h1,h2⟩:=mem_opAt h
 obtain ⟨h3,h4⟩:=mem_opAt h'
 have hlen:(progsW accP).length=accP.length:=List.length_map ..
 rw [hlen] at h1 h3
 rw [progs_getD h1] at h2
 rw [progs_getD h3] at h4
 obtain ⟨a1,a2⟩:=(byProc_mem hp (List.getElem_mem h1) o).1 h2
 obtain ⟨b1,b2⟩:=(byProc_mem hp (List.getElem_mem h3) o').1 h4
 rw [hl o a1 o' b1 e] at a2
 have hnd:(accP.map Seg.obj).Nodup:=by
  unfold List.Nodup
  rw [List.pairwise_map]
  exact hp.up.imp fun h=>Int.ne_of_lt h
 have h5:(accP.map Seg.obj)[k]'(by simpa using h1)=(accP.map Seg.obj)[k']'(by simpa using h3):=by
  rw [List.getElem_map,List.getElem_map,← a2,← b2]
 exact (List.getElem_inj hnd).1 h5
theorem rem_zero:∀ (P:List (List OpT)),remP P (List.replicate P.length 0)=(P.map List.length).sum
 | []=>rfl
 | p::P=>by rw [List.length_cons,List.replicate_succ,remP,rem_zero P,List.map_cons,List.sum_cons]; omega
theorem rem_start{l:List OpT}{accP accO:List Seg}(hp:Cut.ByProc l accP)(hl:(l.map OpT.ID).Nodup):remP (progsW accP) (startW accP accO).done≤l.length:=by
 have hlen:(progsW accP).length=accP.length:=List.length_map ..
 have e:(startW accP accO).done=List.replicate (progsW accP).length 0:=by rw [hlen]; rfl
 rw [e,rem_zero]
 have h1:((progsW accP).map List.length).sum=(progsW accP).flatten.length:=(List.length_flatten ..).symm
 rw [h1]
 have hpure:=pure_nodup hl
 have hnl:l.Nodup:=by
  unfold List.Nodup at hl ⊢
  rw [List.pairwise_map] at hl
  exact hl.imp fun h e=>h (by rw [e])
 have h2:((progsW accP).flatten.map OpT.ID).Nodup:=by
  have h3:(progsW accP).flatten.Pairwise fun a b=>a.ID≠b.ID:=by
   refine List.pairwise_flatten.2 ⟨fun Q hQ=>?_,?_⟩
   ·obtain ⟨s,hs,rfl⟩:=List.mem_map.1 hQ
    have:s.ops.Nodup:=((hp.sorts s hs).1.nodup_iff).2 (hnl.filter _)
    unfold List.Nodup at this
    refine this.imp_of_mem fun {a b} ha hb h e=>h (hpure a ((byProc_mem hp hs a).1 ha).1 b ((byProc_mem hp hs b).1 hb).1 e)
   ·unfold progsW
    rw [List.pairwise_map]
    refine hp.up.imp_of_mem fun {s t} hs ht h a ha b hb e=>?_
    obtain ⟨a1,a2⟩:=(byProc_mem hp hs a).1 ha
    obtain ⟨b1,b2⟩:=(byProc_mem hp ht b).1 hb
    rw [hpure a a1 b b1 e] at a2
    omega
  unfold List.Nodup
  rw [List.pairwise_map]
  exact h3
 have:=nodup_sub_len h2 (b:=l.map OpT.ID) fun x hx=>by
  obtain ⟨o,ho,rfl⟩:=List.mem_map.1 hx
  obtain ⟨Q,hQ,hoQ⟩:=List.mem_flatten.1 ho
  obtain ⟨s,hs,rfl⟩:=List.mem_map.1 hQ
  exact List.mem_map_of_mem ((byProc_mem hp hs o).1 hoQ).1
 rw [List.length_map,List.length_map] at this
 exact this
structure SpOk(P:List (List OpT))(accO:List Seg)(M:Nat)(s:Sp):Prop where
 dl:s.done.length=P.length
 sl:s.st.length=accO.length
 le:∀ k,s.done.getD k 0≤(P.getD k []).length
 ok:∀ x,(h:x<accO.length)→Ok64 (s.st.getD x [])∧(s.st.getD x []).length+remP P s.done≤M∧(accO[x].kind=5→(s.st.getD x []).Pairwise (· < ·))
theorem firstP_ok(k:Int):Ok64 (firstP k)∧(firstP k).length≤1∧(k=5→(firstP k).Pairwise (· < ·)):=by
 unfold firstP
 split
 ·exact ⟨fun n hn=>by rw [List.mem_singleton] at hn; subst hn; exact ⟨by decide,by decide⟩,Nat.le_refl _,fun _=>by simp⟩
 ·exact ⟨fun n hn=>(by cases hn),Nat.zero_le _,fun _=>List.Pairwise.nil⟩
theorem start_ok{accP accO:List Seg}{M:Nat}(h:remP (progsW accP) (startW accP accO).done+1≤M):SpOk (progsW accP) accO M (startW accP accO):=by
 refine ⟨by simp [startW,progsW],by simp [startW],fun k=>?_,fun x hx=>?_⟩
 ·have:(startW accP accO).done.getD k 0=0:=by
   unfold startW
   simp only
   rw [List.getD_eq_getElem?_getD,List.getElem?_replicate]
   split <;> rfl
  omega
 ·have e:(startW accP accO).st.getD x []=firstP accO[x].kind:=by
   unfold startW
   simp only
   rw [List.getD_eq_getElem?_getD,List.getElem?_map,List.getElem?_eq_getElem hx]
   rfl
  rw [e]
  obtain ⟨h1,h2,h3⟩:=firstP_ok accO[x].kind
  exact ⟨h1,by omega,h3⟩
structure PrOk(P:List (List OpT))(accO:List Seg):Prop where
 wf:∀ k,∀ o∈P.getD k [],o.wf
 ob:∀ k,∀ o∈P.getD k [],∃ h:(objsW accO).idxOf o.Object<accO.length,accO[(objsW accO).idxOf o.Object].kind=o.Kind
theorem mv_ok{P:List (List OpT)}{accO:List Seg}{M:Nat}{s:Sp}{k:Nat}{m:Int × Sp}(hP:PrOk P accO)(h:SpOk P accO M s)(hm:mvP P (objsW accO) s k=some m):SpOk P accO M m.2:=by
 have hrem:=mvP_rem hm
 unfold mvP at hm
 cases ho:opAt P s.done k with
 | none=>rw [ho] at hm; cases hm
 | some o =>
  rw [ho] at hm
  simp only at hm
  cases ht:stepP (s.st.getD ((objsW accO).idxOf o.Object) []) o with
  | none=>rw [ht] at hm; cases hm
  | some t =>
   rw [ht] at hm
   cases hm
   obtain ⟨hk,hmem⟩:=mem_opAt ho
   obtain ⟨hx,hkind⟩:=hP.ob k o hmem
   obtain ⟨a1,a2,a3⟩:=h.ok _ hx
   obtain ⟨b1,b2,b3⟩:=stepP_ok (hP.wf k o hmem) a1 (fun e=>a3 (hkind.trans e)) ht
   simp only at hrem
   refine ⟨by simp only [List.length_set]; exact h.dl,by simp only [List.length_set]; exact h.sl,fun j=>?_,fun x hxl=>?_⟩
   ·simp only
    by_cases e:k=j
    ·subst e
     rw [getD_set_eq (by rw [h.dl]; exact hk)]
     unfold opAt at ho
     rw [List.getElem?_eq_getElem hk,List.getElem?_eq_getElem (show k<s.done.length by rw [h.dl]; exact hk)] at ho
     simp only [Option.bind_some] at ho
     have:=(List.getElem?_eq_some_iff.1 ho).choose
     have e2:s.done.getD k 0=s.done[k]'(by rw [h.dl]; exact hk):=by rw [List.getD_eq_getElem?_getD,List.getElem?_eq_getElem]; rfl
     have e3:P.getD k []=P[k]:=by rw [List.getD_eq_getElem?_getD,List.getElem?_eq_getElem hk]; rfl
     rw [e2,e3]
     omega
    ·rw [getD_set_ne e]
     exact h.le j
   ·simp only
    by_cases e:(objsW accO).idxOf o.Object=x
    ·subst e
     rw [getD_set_eq (by rw [h.sl]; exact hx)]
     exact ⟨b1,by omega,fun e=>b3 (hkind.symm.trans e)⟩
    ·rw [getD_set_ne e]
     obtain ⟨c1,c2,c3⟩:=h.ok x hxl
     exact ⟨c1,by omega,c3⟩
theorem SpOk.text{P:List (List OpT)}{accO:List Seg}{M:Nat}{s:Sp}(h:SpOk P accO M s)(hM:M≤1000)(hP:∀ k,(P.getD k []).length≤200):OkSp P.length accO.length s:=by
 refine ⟨h.dl,h.sl,fun n hn=>?_,fun x hx=>?_⟩
 ·obtain ⟨k,hk,rfl⟩:=List.mem_iff_getElem.1 hn
  have:=h.le k
  have e:s.done.getD k 0=s.done[k]:=by rw [List.getD_eq_getElem?_getD,List.getElem?_eq_getElem hk]; rfl
  have:=hP k
  omega
 ·obtain ⟨k,hk,rfl⟩:=List.mem_iff_getElem.1 hx
  have e:s.st.getD k []=s.st[k]:=by rw [List.getD_eq_getElem?_getD,List.getElem?_eq_getElem hk]; rfl
  obtain ⟨a,b,_⟩:=h.ok k (by rw [← h.sl]; exact hk)
  rw [e] at a b
  exact ⟨a,by omega⟩
theorem prok_of{l:List OpT}{accP accO:List Seg}(hp:Cut.ByProc l accP)(ho:Cut.ByObj l accO)(hw:∀ o∈l,o.wf)(hk:∀ a∈l,∀ b∈l,a.Object=b.Object→a.Kind=b.Kind):PrOk (progsW accP) accO:=by
 have hin:∀ k,∀ o∈(progsW accP).getD k [],o∈l:=fun k o h=>by
  by_cases hkl:k<accP.length
  ·rw [progs_getD hkl] at h
   exact ((byProc_mem hp (List.getElem_mem hkl) o).1 h).1
  ·rw [List.getD_eq_getElem?_getD,List.getElem?_eq_none (by unfold progsW; simpa using hkl)] at h
   cases h
 refine ⟨fun k o h=>hw o (hin k o h),fun k o h=>?_⟩
 obtain ⟨s,hs,e⟩:=ho.all o (hin k o h)
 have hmem:o.Object∈objsW accO:=List.mem_map.2 ⟨s,hs,e⟩
 obtain ⟨h1,h2⟩:=idx_mem hmem
 have hlt:(objsW accO).idxOf o.Object<accO.length:=by simpa [objsW] using h1
 refine ⟨hlt,?_⟩
 have h3:accO[(objsW accO).idxOf o.Object].obj=o.Object:=by
  have:(objsW accO)[(objsW accO).idxOf o.Object]=accO[(objsW accO).idxOf o.Object].obj:=List.getElem_map ..
  rw [← this,h2]
 obtain ⟨o1,r,e1,e2⟩:=ho.kind _ (List.getElem_mem hlt)
 have ho1:o1∈accO[(objsW accO).idxOf o.Object].ops:=by rw [e1]; exact List.mem_cons_self
 obtain ⟨b1,b2⟩:=(byObj_mem ho (List.getElem_mem hlt) o1).1 ho1
 rw [e2]
 exact hk o1 b1 o (hin k o h) (by rw [b2,h3])
open Go Go.Ann Go.RowKit
theorem BfsR.bound1{P:List (List OpT)}{obs:List Int}{most:Int}{L r:List Sp}{i:Nat}(hP:P.length≤1)(h:BfsR P obs most L i r):r.length≤L.length+((L.drop i).map fun s=>remP P s.done).sum:=by
 induction h with
 | full=>omega
 | last=>omega
 | go h hm k ih =>
  rename_i L r i
  obtain ⟨t,h1,h2,h3⟩:=addAll (mvsP P obs L[i]) L
  have h1':roundW P obs L L[i]=L++t:=h1
  obtain ⟨t',h4,h5,h6⟩:=roundW_out P obs L L[i]
  have e:t=t':=List.append_cancel_left (h1'.symm.trans h4)
  subst e
  have hlen:t.length≤1:=by
   have h7:(mvsP P obs L[i]).length≤(List.range P.length).length:=List.length_filterMap_le _ _
   rw [List.length_range] at h7
   omega
  rw [h1'] at ih
  rw [List.drop_append_of_le_length (by omega),List.length_append,List.map_append,List.sum_append] at ih
  rw [List.drop_eq_getElem_cons h,List.map_cons,List.sum_cons]
  match t,h5,h6,hlen,ih with
  | [],_,_,_,ih =>
   simp only [List.map_nil,List.sum_nil,List.length_nil] at ih
   omega
  | [x],_,h6,_,ih =>
   have:=h6 x (by simp)
   simp only [List.map_cons,List.map_nil,List.sum_cons,List.sum_nil,List.length_singleton] at ih
   omega
theorem one_best{Q:List OpT}{obs:List Int}(hQ:Q.Pairwise fun a _=>a.Done=true)(hd:∀ d k k' o o',opAt [Q] d k=some o→opAt [Q] d k'=some o'→o.ID=o'.ID→k=k'){st:List (List Int)}:(bestS [Q] obs ⟨[0],st⟩).isSome=validP [Q] obs ⟨[0],st⟩ ((Q.filter fun o=>o.Done).map OpT.ID):=by
 obtain ⟨h1,h2⟩:=best_path (P:=[Q]) (obs:=obs) (n:=remP [Q] [0]) (s:=⟨[0],st⟩) (Nat.le_refl _)
 have e0:bestM [Q] obs (remP [Q] [0]) ⟨[0],st⟩=bestS [Q] obs ⟨[0],st⟩:=rfl
 rw [e0] at h1 h2
 cases e:bestS [Q] obs ⟨[0],st⟩ with
 | none =>
  cases e2:validP [Q] obs ⟨[0],st⟩ ((Q.filter fun o=>o.Done).map OpT.ID)
  ·rfl
  ·exact absurd ((validP_path hd).1 e2) (h2 e _)
 | some y =>
  have:=path_one hQ (h1 y e).1 rfl
  exact ((validP_path hd).2 this).symm
theorem proc_done{l:List OpT}{accP:List Seg}(hg:histP l=0){t:List OpT}(ht:∀ o∈t,o∈l)(htn:t.Nodup)(hp:Cut.ByProc t accP){s:Seg}(hs:s∈accP):s.ops.Pairwise fun a _=>a.Done=true:=by
 obtain ⟨hchk,hbes⟩:=hist_more hg
 obtain ⟨_,hup,_⟩:=hist_good hg
 have hnd:s.ops.Nodup:=((hp.sorts s hs).1.nodup_iff).2 (htn.filter _)
 have hso:=(hp.sorts s hs).2
 unfold List.Nodup at hnd
 refine (hnd.and hso).imp_of_mem fun {a b} ha hb h=>?_
 obtain ⟨h1,h2⟩:=h
 obtain ⟨a1,a2⟩:=(byProc_mem hp hs a).1 ha
 obtain ⟨b1,b2⟩:=(byProc_mem hp hs b).1 hb
 have h3:=(Cut.leq_ear a b).2 h2
 unfold Cut.leq at h3
 rw [decide_eq_true_eq] at h3
 have tb:=chk_times (hchk b (ht b b1))
 rcases hbes a (ht a a1) b (ht b b1) (fun e=>h1 (Cut.pair_id hup a (ht a a1) b (ht b b1) e)) (a2.trans b2.symm) with h4 | h4
 ·unfold before at h4
  rw [Bool.and_eq_true] at h4
  exact h4.1
 ·unfold before at h4
  rw [Bool.and_eq_true,decide_eq_true_eq] at h4
  have:=tb.2 h4.1
  omega
theorem sum_set:∀ {d:List Nat} {k:Nat},k<d.length→(d.set k (d.getD k 0+1)).sum=d.sum+1
 | [],_,h=>by simp at h
 | n::d,0,_=>by simp only [List.set_cons_zero,List.getD_cons_zero,List.sum_cons]; omega
 | n::d,k+1,h=>by
  have:=sum_set (d:=d) (k:=k) (by simpa using h)
  simp only [List.set_cons_succ,List.getD_cons_succ,List.sum_cons]
  omega
theorem mv_sum{P:List (List OpT)}{obs:List Int}{s:Sp}{m:Int × Sp}(hd:s.done.length=P.length)(h:m∈mvsP P obs s):m.2.done.sum=s.done.sum+1:=by
 obtain ⟨k,hk,hm⟩:=List.mem_filterMap.1 h
 unfold mvP at hm
 split at hm
 ·cases hm
 ·rename_i o ho
  split at hm
  ·cases hm
  ·cases hm
   exact sum_set (by rw [hd]; exact opAt_lt ho)
inductive SeqR(P:List (List OpT))(obs:List Int)(s:Sp)(most:Int):Int→Int→Option (List Int)→Prop
 | over {r:List Sp} (h:BfsR P obs most [s] 0 r) (hr:most<r.length):SeqR P obs s most 35 0 none
 | all {r:List Sp} (h:BfsR P obs most [s] 0 r) (hr:(r.length:Int)≤most):SeqR P obs s most 0 r.length (bestS P obs s)
theorem SeqR.one{P:List (List OpT)}{obs:List Int}{s:Sp}{most e e' n n':Int}{x x':Option (List Int)}(h:SeqR P obs s most e n x)(k:SeqR P obs s most e' n' x'):e=e'∧n=n'∧x=x':=by
 cases h with
 | over h hr =>
  cases k with
  | over=>exact ⟨rfl,rfl,rfl⟩
  | all h' hr'=>cases h.one h'; omega
 | all h hr =>
  cases k with
  | over h' hr'=>cases h.one h'; omega
  | all h'=>cases h.one h'; exact ⟨rfl,rfl,rfl⟩
open Go Go.Ann Go.RowKit
abbrev ObS:=Int × List Int
def posD(SL:List ObS)(x:Int):Option Nat:=SL.findIdx? fun p=>decide (p.1=x)
def findD(SL:List ObS)(x k:Int):List Int:=match posD SL x with
 | some i=>(SL.getD i (0,[])).2
 | none=>firstP k
def StD(accO:List Seg)(SL:List ObS)(st:List (List Int)):Prop:=∀ x,(h:x<accO.length)→findD SL accO[x].obj accO[x].kind=st.getD x []
theorem StD.start{accP accO:List Seg}:StD accO [] (startW accP accO).st:=fun x hx=>by
 unfold startW findD posD
 simp only [List.findIdx?_nil]
 rw [List.getD_eq_getElem?_getD,List.getElem?_map,List.getElem?_eq_getElem hx]
 rfl
end Go.Proofs.YtoadmihnihfjkaaGreat

namespace Go.Proofs.YtoadmihnihfjkaaGreat.Cut
open Go Go.Ann Go.RowKit Go.WideShapes
def progR(w:World)(s:Seg)(c:List Value):Prop:=∃ v,c=[v]∧RdS w 11 OpT.enc v s.ops∧(s.ops.length:Int)≤9223372036854775806
theorem progR.below{w w':World}(hb:Below w.heap.size w w')(s:Seg)(c:List Value)(h:progR w s c):progR w' s c:=by
 obtain ⟨v,rfl,h1,h2⟩:=h
 exact ⟨v,rfl,h1.below hb (by decide),h2⟩
end Go.Proofs.YtoadmihnihfjkaaGreat.Cut

namespace Go.Ann
open Go Go.RowKit
section
variable {P:Program} {N:Nat}
theorem RangeW_any{g:Operand}{ps:List Nat}{A B:Cmd}{ρ:Env}{w W0:World}{Q:Post}{F:Nat→Prop}{L0:List Res}{I:List Inv}{α β:Type}{gf:Nat}{lb:Array Value}
  (encs:α→List Value) (E:List α→α→Prop) (G:List α→Prop) (L:β→List α→List Res) (y0:β)
  (hg:ev ρ g=some (.func (.func gf) #[] lb)) (hgo:goFunc P gf=true) (s:St W0 w F L0 I) (hL:L y0 []=L0) (hlen:∀ x,(encs x).length=ps.length)
  (hit:∀ (fv:Value) (J:List Res→List α→World→Prop) (w1:World),(∀ R pre w',J R pre w'→∃ l D o y,St W0 w' F (.obj l o::.obj D (.deferred (some []))::(L y pre++R)) I)→(∀ R R' pre w' w'',J R pre w'→(∀ X,St W0 w' F (X++R) I→St W0 w'' F (X++R') I)→J R' pre w'') →
   (∀ R pre x w',J R pre w'→E pre x→callW P fv (encs x) w' fun v w''=>v=.bool true∧J R (pre++[x]) w'')→J [] [] w1→Ret P gf (fv::lb.toList) w1 fun _ w'=>∃ xs,G xs∧J [] xs w')
  (hbody:∀ R y pre x w' l D o o2,E pre x→St W0 w' F (.obj l o::.obj D (.deferred (some []))::(L y pre++R)) I→W P A (zipE ps (encs x) (lowE ρ)) w' fun e ρ1 w1=>match e with
   | .normal=>∃ M,St W0 w1 F (.obj l o::.obj D (.deferred (some []))::(M++R)) I∧∀ w2,St W0 w2 F (.obj l o2::.obj D (.deferred (some []))::(M++R)) I→W P B ρ1 w2 fun e2 _ w3=>match e2 with
    | .normal=>∃ y',St W0 w3 F (.obj l o2::.obj D (.deferred (some []))::(L y' (pre++[x])++R)) I
    | _=>False
   | _=>False)
  (hdone:∀ xs y D w',G xs→St W0 w' F (.obj D (.deferred (some []))::L y xs) I→Q .normal ((D+1000000,undef)::ρ) w'):RangeW P g ps A B ρ w Q:=by
 intro N a ca cb hca hcb hra hrb hps hs
 refine wpIn_rangeFunc fun fn _=>?_
 obtain ⟨rec,hrec⟩:∃ rec:LoopState→Option Code→Loop,rec=fun st pe=>{ state:=st,pending:=pe,fn,tmps:=a.tmps,params:=ps.toArray,assign:=ca,body:=cb,defers:=w.heap.size }:=⟨_,rfl⟩
 have hs1:St W0 ((w.alloc (.deferred (some []))).alloc (.loop (rec .ready none))) F (.obj (w.heap.size+1) (.loop (rec .ready none))::.obj w.heap.size (.deferred (some []))::L y0 []) I:=by
  rw [hL]
  have:=(s.lay (.deferred (some []))).lay (.loop (rec .ready none))
  rw [World.size_alloc] at this
  exact this
 generalize hw1:(w.alloc (.deferred (some []))).alloc (.loop (rec .ready none))=w1 at hs1
 refine ⟨w.heap.size+1,[{ target:=.collected w.heap.size,args:=#[] }],w1,{ target:=.fn (.func gf) lb,args:=#[.func (.yield (w.heap.size+1)) #[] #[]] },w1,gf,
  #[.func (.yield (w.heap.size+1)) #[] #[]]++lb,w1,?_,?_,?_,?_,fun _=>by decide,?_⟩
 ·rw [← hw1,hrec]; exact run_enterLoop_outer _ _ _ _ _
 ·simp only [resolve,hs.eval _ _ hg]
  simp [go_sem]
 ·intro f' _; exact trivial
 ·simp [invoke,go_sem,callFunc_run hgo]
 ·generalize w.heap.size+1=l at hs1 ⊢
  generalize w.heap.size=D at hrec hs1 ⊢
  have key:=hit (.func (.yield l) #[] #[]) (fun R pre w'=>∃ y,St W0 w' F (.obj l (.loop (rec .ready none))::.obj D (.deferred (some []))::(L y pre++R)) I) w1 (fun R pre w' ⟨y,h⟩=>⟨_,_,_,y,h⟩) (fun R R' pre w' w'' ⟨y,h⟩ hX=>⟨y,hX (.obj l (.loop (rec .ready none))::.obj D (.deferred (some []))::L y pre) h⟩) ?_ ⟨y0,by rw [List.append_nil]; exact hs1⟩
  ·have e:#[Value.func (.yield l) #[] #[]]++lb=(Value.func (.yield l) #[] #[]::lb.toList).toArray:=by simp
   rw [e]
   refine CallsIn.mono (callsIn_wide.2 key) fun e w2 ⟨v,he,xs,hG,y,h2⟩=>?_
   subst he
   simp only [List.append_nil] at h2
   have hl:=h2.obj 0 rfl
   refine ⟨none,w2.putObj l (.loop { rec .ready none with state:=.exhausted }),?_,?_⟩
   ·have:=run_endLoop (P:=P) hl (by rw [hrec]; simp)
    rw [hrec] at this ⊢
    exact this
   ·have h3:=(h2.putObj 0 rfl (.loop { rec .ready none with state:=.exhausted })).sub (L':=.obj D (.deferred (some []))::L y xs) (by simp)
    exact ⟨_,hs.mark D,hdone xs y D _ hG h3⟩
  ·rintro R pre x w' ⟨y,h⟩ hx
   have hl:=h.obj 0 rfl
   have hsz:(encs x).toArray.size=(rec .ready none).params.size:=by rw [hrec]; simp [hlen]
   have hy:=run_yield (P:=P) hl hsz
   rw [hrec] at hy
   refine ⟨rfl,rfl,fn,_,ca,cb,hy,?_⟩
   refine roundIn_of_wpIn trivial ?_
   have hsim:Sim N { tmps:=((ps.toArray.zip (encs x).toArray).foldl (fun t (p,v)=>t.setIfInBounds p v) a.tmps),defers:=[] } (zipE ps (encs x) (lowE ρ)):=by
    have:=Sim.zipE (a:={ tmps:=a.tmps,defers:=[] }) ps (encs x) (lowE ρ) a.tmps hps hs.lowE
    rw [← Array.foldl_toList,Array.toList_zip]
    exact this
   have hA:=W_sound (r:=some l) (n:=0) ca A hca (.inl hra) _ w' _ _ hsim (hbody R y pre x w' l D _ (.loop { rec .ready none with state:=.busy }) hx h)
   refine wpIn_mono hA fun e a1 w1 hh=>?_
   obtain ⟨ρ1,hs1,hq⟩:=hh
   cases e with
   | normal =>
    obtain ⟨M,hM,hB⟩:=hq
    have hl1:=hM.obj 0 rfl
    refine ⟨_,run_beginRound hl1 (by rw [hrec]),?_⟩
    have hB':=W_sound (r:=some l) (n:=0) cb B hcb (.inl hrb) _ _ _ a1 hs1 (hB _ (hM.putObj 0 rfl _))
    refine wpIn_mono hB' fun e2 a2 w2 hh=>?_
    obtain ⟨ρ2,hs2,hq2⟩:=hh
    cases e2 with
    | normal =>
     obtain ⟨y',hq2⟩:=hq2
     have hl2:=St.obj hq2 0 rfl
     have he:=run_endRound (P:=P) none hl2
     refine ⟨.bool true,w2.putObj l (.loop (rec .ready none)),?_,.bool true,rfl,rfl,?_⟩
     ·rw [hrec] at he ⊢; exact he
     ·exact ⟨y',St.putObj hq2 0 rfl _⟩
    | _=>exact hq2.elim
   | _=>exact hq.elim
end
end Go.Ann

namespace Go.Proofs.YtoadmihnihfjkaaGreat.Cut
open Go Go.Ann Go.RowKit Go.WideShapes Go.Shelf
def intK(n:Int):Value:=.int .i64 n
def idK(v:Value):Value:=v
theorem int_one(n:Int):∀ u∈intE n,u.oneCell'=true:=intE_one n
theorem keyT_i:KeyT Tryz.prog 3 intK (.int .i64):=keyT_int Tryz.underlying3
theorem intE_map(l:List Int):l.flatMap intE=l.map encZ:=by
 induction l with
 | nil=>rfl
 | cons a l ih=>rw [List.flatMap_cons,ih]; rfl
theorem left_in{ν:Type}{evK:ν→Value}{d:List (Int × ν × Nat)}{D:List (Int × ν × Nat)}{e:MapEntry}(h:e∈(leftOf (d.map (entG intK evK)).toArray (D.map fun x=>x.2.2).toArray).toList):∃ x∈d,e=entG intK evK x∧x.2.2 ∉ D.map fun x=>x.2.2:=by
 unfold leftOf at h
 rw [Array.toList_filter,List.mem_filter] at h
 obtain ⟨h1,h2⟩:=h
 obtain ⟨x,hx,rfl⟩:=List.mem_map.1 h1
 refine ⟨x,hx,rfl,?_⟩
 simpa [entG] using h2
theorem left_none{ν:Type}{evK:ν→Value}{d:List (Int × ν × Nat)}{D:List (Int × ν × Nat)}(h:(leftOf (d.map (entG intK evK)).toArray (D.map fun x=>x.2.2).toArray).size=0):∀ x∈d,x.2.2∈D.map fun x=>x.2.2:=by
 intro x hx
 unfold leftOf at h
 rw [← Array.length_toList,Array.toList_filter,List.length_eq_zero_iff,List.filter_eq_nil_iff] at h
 have:=h (entG intK evK x) (List.mem_map_of_mem hx)
 simpa [entG] using this
theorem all_perm{ν:Type}{d D:List (Int × ν × Nat)}(hb:(d.map fun x=>x.2.2).Nodup)(hD:(D.map fun x=>x.2.2).Nodup)(hs:∀ x∈D,x∈d)(ha:∀ x∈d,x.2.2∈D.map fun x=>x.2.2):D.Perm d:=by
 have inj:∀ x∈d,∀ y∈d,x.2.2=y.2.2→x=y:=fun x hx y hy e=>by
  obtain ⟨i,hi,rfl⟩:=List.mem_iff_getElem.1 hx
  obtain ⟨j,hj,rfl⟩:=List.mem_iff_getElem.1 hy
  have hp:=List.pairwise_iff_getElem.1 hb
  rcases Nat.lt_trichotomy i j with h | h | h
  ·exact absurd (by rw [List.getElem_map,List.getElem_map]; exact e) (hp i j (by simpa using hi) (by simpa using hj) h)
  ·subst h; rfl
  ·exact absurd (by rw [List.getElem_map,List.getElem_map]; exact e.symm) (hp j i (by simpa using hj) (by simpa using hi) h)
 have nd:∀ l:List (Int × ν × Nat),(l.map fun x=>x.2.2).Nodup→l.Nodup:=fun l h=>by
  unfold List.Nodup at h ⊢
  rw [List.pairwise_map] at h
  exact h.imp fun h e=>h (by rw [e])
 refine (List.perm_ext_iff_of_nodup (nd D hD) (nd d hb)).2 fun x=>⟨hs x,fun hx=>?_⟩
 obtain ⟨y,hy,e⟩:=List.mem_map.1 (ha x hx)
 have:=inj y (hs y hy) x hx e
 rw [← this]; exact hy
theorem nat_le{D d:List Nat}(nd:D.Nodup)(hs:∀ x∈D,x∈d):D.length≤d.length:=by
 induction D generalizing d with
 | nil=>exact Nat.zero_le _
 | cons a D ih =>
  rw [List.nodup_cons] at nd
  have h1:∀ x∈D,x∈d.erase a:=fun x hx=>(List.mem_erase_of_ne (fun e=>nd.1 (by rw [← e]; exact hx))).2 (hs x (List.mem_cons_of_mem _ hx))
  have:=ih nd.2 h1
  have ha:=hs a (List.mem_cons_self ..)
  rw [List.length_erase_of_mem ha] at this
  have:=List.length_pos_of_mem ha
  rw [List.length_cons]; omega
theorem nodup_le{ν:Type}{d D:List (Int × ν × Nat)}(hD:(D.map fun x=>x.2.2).Nodup)(hs:∀ x∈D,x∈d):D.length≤d.length:=by
 have:=nat_le hD (d:=d.map fun x=>x.2.2) fun x hx=>by
  obtain ⟨y,hy,rfl⟩:=List.mem_map.1 hx
  exact List.mem_map_of_mem (f:=fun x:Int × ν × Nat=>x.2.2) (hs y hy)
 simpa using this
theorem last_get{α:Type}(X:List α)(r:α):(X++[r])[X.length]?=some r:=by simp
theorem last_set{α:Type}(X:List α)(r r':α):(X++[r]).set X.length r'=X++[r']:=by simp
theorem not_in{ν:Type}{d D:List (Int × ν × Nat)}{x:Int × ν × Nat}(hk:(d.map Prod.fst).Nodup)(hs:∀ y∈D,y∈d)(hx:x∈d)(hn:x.2.2 ∉ D.map fun x=>x.2.2):x.1 ∉ D.map Prod.fst:=by
 intro h
 obtain ⟨y,hy,e⟩:=List.mem_map.1 h
 obtain ⟨i,hi,ei⟩:=List.mem_iff_getElem.1 (hs y hy)
 obtain ⟨j,hj,ej⟩:=List.mem_iff_getElem.1 hx
 have hp:=List.pairwise_iff_getElem.1 hk
 have hij:i=j:=by
  rcases Nat.lt_trichotomy i j with h | h | h
  ·exact absurd (by rw [List.getElem_map,List.getElem_map,ei,ej]; exact e) (hp i j (by simpa using hi) (by simpa using hj) h)
  ·exact h
  ·exact absurd (by rw [List.getElem_map,List.getElem_map,ei,ej]; exact e.symm) (hp j i (by simpa using hj) (by simpa using hi) h)
 subst hij
 have:y=x:=ei.symm.trans ej
 subst this
 exact hn (List.mem_map_of_mem hy)
section
variable {W0 w:World} {F:Nat→Prop} {L:List Res} {I:List Inv}
theorem sortI_ok{v:Value}{ks:List Int}(h:St W0 w F (.row v 3 1 ks.length (ks.flatMap intE)::L) I)(hl:ks.length≤100000) :
  Ret Tryz.prog 78 [v] w fun u w'=>u=.tuple #[]∧∃ ts:List Int,(ts.Perm ks∧ts.Pairwise (·≤·))∧St W0 w' F (.row v 3 1 ks.length (ts.flatMap intE)::L) I:=by
 have hr:=h.row 0 rfl
 obtain ⟨hlen,⟨rfl,h0⟩ | ⟨g',cap,cur,rfl,hB,hb,hc,hm,hs,hx⟩⟩:=id hr
 ·have hn:ks.length=0:=h0
  refine (Any.slices_Sort_int_none laySortI none 0 w).mono ?_
  rintro e w' ⟨rfl,rfl⟩
  exact ⟨_,rfl,rfl,ks,⟨List.Perm.refl _,by rw [List.eq_nil_of_length_eq_zero hn]; exact List.Pairwise.nil⟩,h⟩
 ·have hx':cur.toList.take ks.length=ks.map encZ:=by rw [← intE_map,← hx,Nat.mul_one]
  have hb':w.heap[g']?=some (.cells cur 3 (0,0)):=hb
  refine (Any.slices_Sort_int laySortI g' 0 cap ks w (holds_of_block_i hb' hx') (Array.getElem?_eq_some_iff.1 hb).1 (by omega)).mono ?_
  rintro e w' ⟨rfl,n,os,rfl⟩
  have hml:(ks.mergeSort fun x y=>decide (x≤y)).length=ks.length:=List.length_mergeSort _
  refine ⟨_,rfl,rfl,ks.mergeSort fun x y=>decide (x≤y),⟨List.mergeSort_perm _ _,(List.pairwise_mergeSort (le:=fun x y:Int=>decide (x≤y)) (fun a b c h1 h2=>by simp at h1 h2 ⊢; omega) (fun a b=>by simp; omega) ks).imp fun h=>by simpa using h⟩,?_⟩
  have ho:=ownsRow_sorted_i (n:=n) (os:=os) hml hB hb' hc hm hs
  rw [← intE_map] at ho
  exact h.grow 0 rfl (grownBy_sorted_i _) ho fun k hk=>.inl hk
end
section
variable {W0 w:World} {F:Nat→Prop} {L:List Res} {I:List Inv} {d:List (Int × Value × Nat)} {c bx mb:Nat}
theorem keys1_ok(fv:Value)(J:List Res→List Int→World→Prop)(w:World)(hJ:∀ R pre w',J R pre w'→w'.cell? ⟨bx,0,none⟩=some (.map (some mb))∧w'.heap[mb]?=some (mapG intK idK d c)∧∃ X,St W0 w' F (X++R) I)
  (hJ2:∀ R R' pre w' w'',J R pre w'→(∀ X,St W0 w' F (X++R) I→St W0 w'' F (X++R') I)→J R' pre w'')
  (hf:∀ R pre x w',J R pre w'→(x ∉ pre∧x∈d.map Prod.fst∧pre.length<d.length)→callW Tryz.prog fv [.int .i64 x] w' fun v w''=>v=.bool true∧J R (pre++[x]) w'')
  (hk:(d.map Prod.fst).Nodup) (hb:(d.map fun x=>x.2.2).Nodup) (hc:∀ x∈d,x.2.2<c) (h0:J [] [] w) :
  Ret Tryz.prog 79 [fv,.pointer (some ⟨bx,0,none⟩)] w fun _ w'=>∃ xs,xs.Perm (d.map Prod.fst)∧J [] xs w':=by
 refine ent79 _ _ _ _ ?_
 obtain ⟨k1,k2,_⟩:=hJ _ _ _ h0
 simp (disch:=first|omega|exact zF rfl|exact zG rfl|exact fun h=>h|(simp only[zA,zB,zC,zD,bytesW];omega)) only[go_sem,k1]
 refine rgG Tryz.underlying91 k2 ?_
 have j1:J [.obj w.heap.size (.mapIter (some mb) c #[] c)] [] (w.alloc (.mapIter (some mb) c #[] c)):=hJ2 _ _ _ _ _ h0 fun X hX=>by
  have:=hX.lay (.mapIter (some mb) c #[] c)
  rw [List.append_nil] at this
  exact this.perm (List.perm_append_singleton _ _)
 generalize w.heap.size=q at j1 ⊢
 generalize w.alloc (.mapIter (some mb) c #[] c)=w1 at j1 ⊢
 simp (disch:=first|omega|exact zF rfl|exact zG rfl|exact fun h=>h|(simp only[zA,zB,zC,zD,bytesW];omega)) only[go_sem]
 refine W_loopU (fun D:List (Int × Value × Nat)=>[]) (fun D w'=>(∀ x∈D,x∈d)∧(D.map fun x=>x.2.2).Nodup∧J [.obj q (.mapIter (some mb) c (D.map fun x=>x.2.2).toArray c)] (D.map Prod.fst) w') (fun D=>d.length - D.length) [] rfl ⟨fun _ h=>(by cases h),List.Pairwise.nil,j1⟩ ?_
 clear j1 k1 k2 h0
 rintro D w2 ⟨hD1,hD2,j2⟩
 have hle:=nodup_le hD2 hD1
 obtain ⟨k1,k2,X,sX⟩:=hJ _ _ _ j2
 simp (disch:=first|omega|exact zF rfl|exact zG rfl|exact fun h=>h|(simp only[zA,zB,zC,zD,bytesW];omega)) only[go_sem,c79L0,c79L0]
 refine nxG (sX.obj X.length (last_get X _)) k2 (fun e he=>?_) (Nat.le_refl _) (fun h0'=>?_) (fun e he w3 hw3=>?_)
 ·obtain ⟨x,hx,rfl⟩:=List.mem_map.1 he
  exact hc x hx
 ·simp (disch:=first|omega|exact zF rfl|exact zG rfl|exact fun h=>h|(simp only[zA,zB,zC,zD,bytesW];omega)) only[go_sem,c79L0]
  have hperm:=all_perm hb hD2 hD1 (left_none h0')
  refine ⟨D.map Prod.fst,hperm.map _,hJ2 _ _ _ _ _ j2 fun Y hY=>?_⟩
  rw [List.append_nil]
  exact hY.sub (List.sublist_append_left _ _)
 ·obtain ⟨x,hx,rfl,hxn⟩:=left_in he
  have j3:J [.obj q (.mapIter (some mb) c ((D.map fun x=>x.2.2).toArray.push x.2.2) c)] (D.map Prod.fst) (w3.putObj q (.mapIter (some mb) c ((D.map fun x=>x.2.2).toArray.push x.2.2) c)):=hJ2 _ _ _ _ _ j2 fun Y hY=>by
   have h3:St W0 w3 F (Y++[.obj q (.mapIter (some mb) c (D.map fun x=>x.2.2).toArray c)]) I:=by
    rcases hw3 with rfl | rfl
    ·exact hY
    ·exact hY.drew
   have:=h3.putObj Y.length (last_get Y _) (.mapIter (some mb) c ((D.map fun x=>x.2.2).toArray.push x.2.2) c)
   rwa [last_set] at this
  have hbn:((d.map (entG intK idK)).toArray.toList.map (·.born)).Nodup:=by
   rw [List.toList_toArray,List.map_map]
   exact hb
  simp (disch:=first|omega|exact zF rfl|exact zG rfl|exact fun h=>h|(simp only[zA,zB,zC,zD,bytesW];omega)) only[go_sem,c79L0]
  have e1:(entG intK idK x).born=x.2.2:=rfl
  rw [e1]
  obtain ⟨_,k4,Z,sZ⟩:=hJ _ _ _ j3
  refine enG (sZ.obj Z.length (last_get Z _)) k4 (by rw [List.toList_toArray]; exact List.mem_map_of_mem hx) hbn ?_
  simp (disch:=first|omega|exact zF rfl|exact zG rfl|exact fun h=>h|(simp only[zA,zB,zC,zD,bytesW];omega)) only[go_sem,c79L0,entG,intK,idK]
  have hnk:=not_in hk hD1 hx hxn
  have hn2:((x::D).map fun x=>x.2.2).Nodup:=by rw [List.map_cons,List.nodup_cons]; exact ⟨hxn,hD2⟩
  have hDl:=nodup_le hn2 fun y hy=>by
   rcases List.mem_cons.1 hy with rfl | hy
   ·exact hx
   ·exact hD1 y hy
  rw [List.length_cons] at hDl
  refine callW_mono (hf _ _ x.1 _ j3 ⟨hnk,List.mem_map_of_mem hx,by rw [List.length_map]; omega⟩) ?_
  rintro _ w5 ⟨rfl,j5⟩
  simp (disch:=first|omega|exact zF rfl|exact zG rfl|exact fun h=>h|(simp only[zA,zB,zC,zD,bytesW];omega)) only[go_sem,c79L0]
  refine ⟨D++[x],⟨fun y hy=>?_,?_,?_⟩,by rw [List.length_append,List.length_singleton]; omega⟩
  ·rcases List.mem_append.1 hy with hy | hy
   ·exact hD1 y hy
   ·rw [List.mem_singleton] at hy; subst hy; exact hx
  ·rw [List.map_append,List.nodup_append]
   refine ⟨hD2,List.pairwise_singleton _ _,fun a ha e he=>?_⟩
   rw [List.map_cons,List.map_nil,List.mem_singleton] at he
   subst he
   exact fun h=>hxn (h ▸ ha)
  ·have e2:((D++[x]).map fun x=>x.2.2).toArray=(D.map fun x=>x.2.2).toArray.push x.2.2:=by simp
   have e3:(D++[x]).map Prod.fst=D.map Prod.fst++[x.1]:=by simp
   rw [e2,e3]
   exact j5
theorem keys_ok(w:World):Ret Tryz.prog 49 [.map (some mb)] w fun v w'=>v=.func (.func 79) #[] #[.pointer (some ⟨w.heap.size,0,none⟩)]∧w'=w.alloc (.cells #[.map (some mb)] 91):=by
 refine ent49 _ _ _ ?_
 simp (disch:=first|omega|exact zF rfl|exact zG rfl|exact fun h=>h|(simp only[zA,zB,zC,zD,bytesW];omega)) only[go_sem]
theorem appendKeys_ok(h:St W0 w F (.blk bx #[.map (some mb)] 91::.obj mb (mapG intK idK d c)::L) I)(hk:(d.map Prod.fst).Nodup)(hb:(d.map fun x=>x.2.2).Nodup)(hc:∀ x∈d,x.2.2<c)(hd:d.length≤100000) :
  Ret Tryz.prog 100 [.slice none 0 0,.func (.func 79) #[] #[.pointer (some ⟨bx,0,none⟩)]] w fun u w'=>∃ ks:List Int,ks.Perm (d.map Prod.fst)∧St W0 w' F (.row u 3 1 ks.length (ks.flatMap intE)::.blk bx #[.map (some mb)] 91::.obj mb (mapG intK idK d c)::L) I:=by
 refine ent100 _ _ _ _ ?_
 simp (disch:=first|omega|exact zF rfl|exact zG rfl|exact fun h=>h|(simp only[zA,zB,zC,zD,bytesW];omega)) only[go_sem]
 have s1:=(h.nilRow 3 1).box #[.slice none 0 0] 25
 generalize w.heap.size=bs at s1 ⊢
 generalize w.alloc (.cells #[.slice none 0 0] 25)=w1 at s1 ⊢
 refine RangeW_any (β:=Value) (fun x:Int=>[.int .i64 x]) (fun pre x=>x ∉ pre∧x∈d.map Prod.fst∧pre.length<d.length) (fun xs=>xs.Perm (d.map Prod.fst)) (fun u pre=>.blk bs #[u] 25::.row u 3 1 pre.length (pre.flatMap intE)::.blk bx #[.map (some mb)] 91::.obj mb (mapG intK idK d c)::L) (.slice none 0 0) rfl (by kernel_rfl) s1 rfl (fun _=>rfl) ?_ ?_ ?_
 ·intro fv J w2 hJ1 hJ2 hf h0
  refine keys1_ok (mb:=mb) fv J w2 (fun R pre w' j=>?_) hJ2 (fun R pre x w' j e=>hf R pre x w' j e) hk hb hc h0
  obtain ⟨l,D,o,u,hX⟩:=hJ1 R pre w' j
  exact ⟨(hX.blk 4 rfl).cell 0,hX.obj 5 rfl,.obj l o::.obj D (.deferred (some []))::(.blk bs #[u] 25::.row u 3 1 pre.length (pre.flatMap intE)::.blk bx #[.map (some mb)] 91::.obj mb (mapG intK idK d c)::L),hX⟩
 ·intro R u pre x w' l D o o2 hx h1
  obtain ⟨e1,e2,e3⟩:=hx
  simp (disch:=first|omega|exact zF rfl|exact zG rfl|exact fun h=>h|(simp only[zA,zB,zC,zD,bytesW];omega)) only[go_sem,c100A0,c100B0,c100A0,c100B0]
  refine ⟨_,h1,fun w2 h2=>?_⟩
  obtain ⟨ao,co,rfl,_⟩:=own_slice (h2.row 3 rfl)
  have r2:=h2.rules 2 rfl
  simp (disch:=first|omega|exact zF rfl|exact zG rfl|exact fun h=>h|(simp only[zA,zB,zC,zD,bytesW];omega)) only[go_sem,c100A0,c100B0,r2]
  refine bsW_ones ty25mkI rfl rfl (Nat.le_of_ble_eq_true rfl) (by simp [intE]) (int_one x) ?_
  have hx:Rd (w2.alloc (.cells (intE x).toArray 3)) 1 (.slice (some ⟨w2.heap.size,0,none⟩) 1 1) 1 (intE x):=rd_new (n:=1) (cs:=(intE x).toArray) rfl
  simp (disch:=first|omega|exact zF rfl|exact zG rfl|exact fun h=>h|(simp only[zA,zB,zC,zD,bytesW];omega)) only[go_sem,c100A0,c100B0]
  refine (h2.alloc' (.cells (intE x).toArray 3)).append 3 rfl ty25mkI rfl (by decide) hx (int_one x) (by omega) (by omega) ?_
  intro u' w4 s4 _
  obtain ⟨ao',co',rfl,_⟩:=own_slice (s4.row 3 rfl)
  have r4:=s4.rules 2 rfl
  have s5:=s4.set 2 rfl 0 (.slice ao' (pre.length+1) co')
  simp (disch:=first|omega|exact zF rfl|exact zG rfl|exact fun h=>h|(simp only[zA,zB,zC,zD,bytesW];omega)) only[go_sem,c100A0,c100B0,r4]
  refine ⟨.slice ao' (pre.length+1) co',st_recast s5 ?_⟩
  rw [List.length_append,List.flatMap_append,List.flatMap_singleton]
  rfl
 ·intro xs u D w' hG h1
  obtain ⟨ao,co,rfl,_⟩:=own_slice (h1.row 2 rfl)
  have r1:=h1.rules 1 rfl
  have hD:=h1.obj 0 rfl
  simp (disch:=first|omega|exact zF rfl|exact zG rfl|exact fun h=>h|(simp only[zA,zB,zC,zD,bytesW];omega)) only[go_sem,c100A0,c100B0,r1,hD]
  refine ⟨xs,hG,?_⟩
  exact ((h1.putObj 0 rfl (.deferred none)).sub (L':=.row (.slice ao xs.length co) 3 1 xs.length (xs.flatMap intE)::.blk bx #[.map (some mb)] 91::.obj mb (mapG intK idK d c)::L) (by simp))
theorem collect_ok{d:List (Int × Value × Nat)}{c bx:Nat}(h:St W0 w F (.blk bx #[.map (some mb)] 91::.obj mb (mapG intK idK d c)::L) I)(hk:(d.map Prod.fst).Nodup)(hb:(d.map fun x=>x.2.2).Nodup)(hc:∀ x∈d,x.2.2<c)(hd:d.length≤100000) :
  Ret Tryz.prog 77 [.func (.func 79) #[] #[.pointer (some ⟨bx,0,none⟩)]] w fun u w'=>∃ ks:List Int,ks.Perm (d.map Prod.fst)∧St W0 w' F (.row u 3 1 ks.length (ks.flatMap intE)::.blk bx #[.map (some mb)] 91::.obj mb (mapG intK idK d c)::L) I:=by
 refine ent77 _ _ _ ?_
 simp (disch:=first|omega|exact zF rfl|exact zG rfl|exact fun h=>h|(simp only[zA,zB,zC,zD,bytesW];omega)) only[go_sem]
 refine Ret.mono (appendKeys_ok h hk hb hc hd) ?_
 rintro u w2 ⟨ks,hp,s2⟩
 obtain ⟨ao,co,rfl,_⟩:=own_slice (s2.row 0 rfl)
 simp (disch:=first|omega|exact zF rfl|exact zG rfl|exact fun h=>h|(simp only[zA,zB,zC,zD,bytesW];omega)) only[go_sem]
 exact ⟨ks,hp,s2⟩
theorem sortedK_ok{d:List (Int × Value × Nat)}{c bx:Nat}(h:St W0 w F (.blk bx #[.map (some mb)] 91::.obj mb (mapG intK idK d c)::L) I)(hk:(d.map Prod.fst).Nodup)(hb:(d.map fun x=>x.2.2).Nodup)(hc:∀ x∈d,x.2.2<c)(hd:d.length≤100000) :
  Ret Tryz.prog 48 [.func (.func 79) #[] #[.pointer (some ⟨bx,0,none⟩)]] w fun u w'=>∃ ts:List Int,ts.Perm (d.map Prod.fst)∧ts.Pairwise (·≤·)∧St W0 w' F (.row u 3 1 ts.length (ts.flatMap intE)::.blk bx #[.map (some mb)] 91::.obj mb (mapG intK idK d c)::L) I:=by
 refine ent48 _ _ _ ?_
 simp (disch:=first|omega|exact zF rfl|exact zG rfl|exact fun h=>h|(simp only[zA,zB,zC,zD,bytesW];omega)) only[go_sem]
 refine Ret.mono (collect_ok h hk hb hc hd) ?_
 rintro u w2 ⟨ks,hp,s2⟩
 have hkl:ks.length=d.length:=by rw [hp.length_eq,List.length_map]
 obtain ⟨ao,co,rfl,_⟩:=own_slice (s2.row 0 rfl)
 have gS:goFunc Tryz.prog 78=true:=by kernel_rfl
 simp (disch:=first|omega|exact zF rfl|exact zG rfl|exact fun h=>h|(simp only[zA,zB,zC,zD,bytesW];omega)) only[go_sem,gS]
 refine Ret.mono (sortI_ok s2 (by omega)) ?_
 rintro _ w3 ⟨rfl,ts,⟨h1,h2⟩,s3⟩
 simp (disch:=first|omega|exact zF rfl|exact zG rfl|exact fun h=>h|(simp only[zA,zB,zC,zD,bytesW];omega)) only[go_sem]
 exact ⟨ts,h1.trans hp,h2,by rw [h1.length_eq]; exact s3⟩
end
end Go.Proofs.YtoadmihnihfjkaaGreat.Cut

namespace Go.Proofs.YtoadmihnihfjkaaGreat.Cut
open Go Go.Ann Go.RowKit Go.WideShapes Go.Shelf
def rowO(t:List OpT)(p:Int)(v:Value):Res:=.row v 52 11 (ofProc p t).length ((ofProc p t).flatMap OpT.enc)
def rowsO(t:List OpT)(d:List (Int × Value × Nat)):List Res:=d.map fun x=>rowO t x.1 x.2.1
theorem ofProc_one(x:Int)(t:List OpT)(o:OpT):ofProc x (t++[o])=ofProc x t++if o.Proc=x then [o] else []:=by
 unfold ofProc
 rw [List.filter_append]
 by_cases h:o.Proc=x <;> simp [h]
theorem rowO_other{t:List OpT}{o:OpT}{p:Int}(h:o.Proc≠p)(v:Value):rowO (t++[o]) p v=rowO t p v:=by
 unfold rowO
 rw [ofProc_one,if_neg h,List.append_nil]
theorem rows_other{t:List OpT}{o:OpT}{d:List (Int × Value × Nat)}(h:∀ x∈d,o.Proc≠x.1):rowsO (t++[o]) d=rowsO t d:=by
 unfold rowsO
 exact List.map_congr_left fun x hx=>rowO_other (h x hx) _
theorem rows_some{t:List OpT}{o:OpT}{v:Value}:∀ {d:List (Int × Value × Nat)},(d.map Prod.fst).Nodup→getM o.Proc d=some v→∃ R,(rowsO t d).Perm (rowO t o.Proc v::R)∧∀ v' c,(rowO (t++[o]) o.Proc v'::R).Perm (rowsO (t++[o]) (setM o.Proc v' c d))
 | [],_,h=>by cases h
 | x::d,hn,h=>by
  rw [List.map_cons,List.nodup_cons] at hn
  simp only [getM] at h
  by_cases e:o.Proc=x.1
  ·rw [if_pos e] at h
   simp only [Option.some.injEq] at h
   refine ⟨rowsO t d,by unfold rowsO; rw [List.map_cons,e,h],fun v' c=>?_⟩
   rw [show setM o.Proc v' c (x::d)=(x.1,v',x.2.2)::d from if_pos e]
   have:rowsO (t++[o]) d=rowsO t d:=rows_other fun y hy e2=>hn.1 (by rw [← e,e2]; exact List.mem_map_of_mem hy)
   show (_::_).Perm (rowO (t++[o]) x.1 v'::rowsO (t++[o]) d)
   rw [this,e]
  ·rw [if_neg e] at h
   obtain ⟨R,h1,h2⟩:=rows_some hn.2 h
   refine ⟨rowO t x.1 x.2.1::R,(h1.cons _).trans (List.Perm.swap ..),fun v' c=>?_⟩
   rw [show setM o.Proc v' c (x::d)=x::setM o.Proc v' c d from if_neg e]
   show (_::_).Perm (rowO (t++[o]) x.1 x.2.1::rowsO (t++[o]) (setM o.Proc v' c d))
   rw [rowO_other e]
   exact (List.Perm.swap ..).trans ((h2 v' c).cons _)
theorem getM_none{p:Int}:∀ {d:List (Int × Value × Nat)},getM p d=none→∀ x∈d,p≠x.1
 | [],_,_,h=>by cases h
 | y::d,h,x,hx=>by
  simp only [getM] at h
  by_cases e:p=y.1
  ·rw [if_pos e] at h; cases h
  ·rw [if_neg e] at h
   rcases List.mem_cons.1 hx with rfl | hx
   ·exact e
   ·exact getM_none h x hx
theorem setM_none{p:Int}{v:Value}{c:Nat}:∀ {d:List (Int × Value × Nat)},getM p d=none→setM p v c d=d++[(p,v,c)]
 | [],_=>rfl
 | y::d,h=>by
  simp only [getM] at h
  by_cases e:p=y.1
  ·rw [if_pos e] at h; cases h
  ·rw [if_neg e] at h
   rw [show setM p v c (y::d)=y::setM p v c d from if_neg e,setM_none h]; rfl
theorem rows_none{t:List OpT}{o:OpT}{d:List (Int × Value × Nat)}(h:getM o.Proc d=none)(v':Value)(c:Nat):(rowO (t++[o]) o.Proc v'::rowsO t d).Perm (rowsO (t++[o]) (setM o.Proc v' c d)):=by
 rw [setM_none h]
 unfold rowsO
 rw [List.map_append]
 have:=rows_other (t:=t) (o:=o) (d:=d) (getM_none h)
 unfold rowsO at this
 rw [this]
 exact (List.perm_append_singleton _ _).symm
theorem getM_key{p:Int}{v:Value}:∀ {d:List (Int × Value × Nat)},getM p d=some v→∃ x∈d,x.1=p∧x.2.1=v
 | [],h=>by cases h
 | y::d,h=>by
  simp only [getM] at h
  by_cases e:p=y.1
  ·rw [if_pos e] at h
   exact ⟨y,List.mem_cons_self,e.symm,Option.some.inj h⟩
  ·rw [if_neg e] at h
   obtain ⟨x,hx,h1⟩:=getM_key h
   exact ⟨x,List.mem_cons_of_mem _ hx,h1⟩
theorem getM_mem{d:List (Int × Value × Nat)}(hn:(d.map Prod.fst).Nodup){x:Int × Value × Nat}(hx:x∈d):getM x.1 d=some x.2.1:=by
 induction d with
 | nil=>cases hx
 | cons y d ih =>
  rw [List.map_cons,List.nodup_cons] at hn
  simp only [getM]
  rcases List.mem_cons.1 hx with rfl | hx
  ·rw [if_pos rfl]
  ·rw [if_neg fun e=>hn.1 (by rw [← e]; exact List.mem_map_of_mem hx),ih hn.2 hx]
structure ByM(t:List OpT)(d:List (Int × Value × Nat))(c:Nat):Prop where
 nd:(d.map Prod.fst).Nodup
 bn:(d.map fun x=>x.2.2).Nodup
 lt:∀ x∈d,x.2.2<c
 mem:∀ p,p∈d.map Prod.fst↔∃ o∈t,o.Proc=p
 few:d.length≤t.length
theorem setM_keys{p:Int}{v v0:Value}{c:Nat}:∀ {d:List (Int × Value × Nat)},getM p d=some v0→(setM p v c d).map Prod.fst=d.map Prod.fst∧(setM p v c d).map (fun x=>x.2.2)=d.map fun x=>x.2.2
 | [],h=>by cases h
 | y::d,h=>by
  simp only [getM] at h
  by_cases e:p=y.1
  ·rw [show setM p v c (y::d)=(y.1,v,y.2.2)::d from if_pos e]; exact ⟨rfl,rfl⟩
  ·rw [if_neg e] at h
   obtain ⟨h1,h2⟩:=setM_keys (v:=v) (c:=c) h
   rw [show setM p v c (y::d)=y::setM p v c d from if_neg e]
   simp only [List.map_cons,h1,h2,and_self]
theorem ByM.step{t:List OpT}{d:List (Int × Value × Nat)}{c:Nat}(h:ByM t d c)(o:OpT)(v:Value):ByM (t++[o]) (setM o.Proc v c d) (if (getM o.Proc d).isSome then c else c+1):=by
 cases hg:getM o.Proc d with
 | some v0 =>
  obtain ⟨h1,h2⟩:=setM_keys (v:=v) (c:=c) hg
  simp only [Option.isSome_some,if_true]
  obtain ⟨y,hy,hy1,_⟩:=getM_key hg
  refine ⟨by rw [h1]; exact h.nd,by rw [h2]; exact h.bn,fun x hx=>?_,fun p=>?_,?_⟩
  ·have:x.2.2∈(setM o.Proc v c d).map fun x=>x.2.2:=List.mem_map_of_mem (f:=fun x:Int × Value × Nat=>x.2.2) hx
   rw [h2] at this
   obtain ⟨z,hz,e⟩:=List.mem_map.1 this
   rw [← e]; exact h.lt z hz
  ·rw [h1,h.mem]
   constructor
   ·rintro ⟨a,ha,e⟩; exact ⟨a,List.mem_append_left _ ha,e⟩
   ·rintro ⟨a,ha,e⟩
    rcases List.mem_append.1 ha with ha | ha
    ·exact ⟨a,ha,e⟩
    ·rw [List.mem_singleton] at ha; subst ha
     exact (h.mem p).1 (by rw [← e,← hy1]; exact List.mem_map_of_mem hy)
  ·have:=congrArg List.length h1
   rw [List.length_map,List.length_map] at this
   rw [this,List.length_append]; have:=h.few; omega
 | none =>
  rw [setM_none hg]
  simp only [Option.isSome_none,Bool.false_eq_true,if_false]
  refine ⟨?_,?_,fun x hx=>?_,fun p=>?_,by simp only [List.length_append,List.length_singleton]; have:=h.few; omega⟩
  ·rw [List.map_append,List.nodup_append]
   refine ⟨h.nd,List.pairwise_singleton _ _,fun a ha b hb e=>?_⟩
   simp only [List.map_cons,List.map_nil,List.mem_singleton] at hb
   obtain ⟨x,hx,rfl⟩:=List.mem_map.1 ha
   exact getM_none hg x hx (by rw [e,hb])
  ·rw [List.map_append,List.nodup_append]
   refine ⟨h.bn,List.pairwise_singleton _ _,fun a ha b hb e=>?_⟩
   simp only [List.map_cons,List.map_nil,List.mem_singleton] at hb
   obtain ⟨x,hx,rfl⟩:=List.mem_map.1 ha
   have:=h.lt x hx
   omega
  ·rcases List.mem_append.1 hx with hx | hx
   ·have:=h.lt x hx; omega
   ·rw [List.mem_singleton] at hx; subst hx; exact Nat.lt_succ_self _
  ·rw [List.map_append,List.mem_append,h.mem]
   constructor
   ·rintro (⟨a,ha,e⟩ | hp)
    ·exact ⟨a,List.mem_append_left _ ha,e⟩
    ·simp only [List.map_cons,List.map_nil,List.mem_singleton] at hp
     exact ⟨o,by simp,hp.symm⟩
   ·rintro ⟨a,ha,e⟩
    rcases List.mem_append.1 ha with ha | ha
    ·exact .inl ⟨a,ha,e⟩
    ·rw [List.mem_singleton] at ha; subst ha; exact .inr (by simp [e])
end Go.Proofs.YtoadmihnihfjkaaGreat.Cut

namespace Go.Proofs.YtoadmihnihfjkaaGreat.Cut
open Go Go.Ann Go.RowKit Go.WideShapes Go.Shelf
theorem progs1_ok(a b:OpT)(w:World):Ret Tryz.prog 51 [.agg a.enc.toArray,.agg b.enc.toArray] w fun u w'=>u=.int .i64 (earI a b)∧Gr w w':=by
 refine ent51 _ _ _ _ ?_
 have ha:=a.at; have hb:=b.at
 simp (disch:=first|omega|exact zF rfl|exact zG rfl|exact fun h=>h|(simp only[zA,zB,zC,zD,bytesW];omega)) only[go_sem,ha,hb]
 refine c51draw0 (Chg (fun _=>False) _) (Chg.refl _ _) ?_
 simp (disch:=first|omega|exact zF rfl|exact zG rfl|exact fun h=>h|(simp only[zA,zB,zC,zD,bytesW];omega)) only[go_sem,c51D0,ha,hb]
 refine Ret.mono (compare_ok _ _ _) ?_
 rintro _ _ ⟨rfl,rfl⟩
 simp (disch:=first|omega|exact zF rfl|exact zG rfl|exact fun h=>h|(simp only[zA,zB,zC,zD,bytesW];omega)) only[go_sem,c51D0,ha,hb]
 refine Ret.mono (compare_ok _ _ _) ?_
 rintro _ _ ⟨rfl,rfl⟩
 simp (disch:=first|omega|exact zF rfl|exact zG rfl|exact fun h=>h|(simp only[zA,zB,zC,zD,bytesW];omega)) only[go_sem,c51D0,ha,hb]
 refine bsW_ones ty25mkI rfl rfl (by decide) (by decide) (by intro v hv; simp only [List.mem_cons,List.not_mem_nil,or_false] at hv; rcases hv with rfl | rfl <;> rfl) ?_
 simp (disch:=first|omega|exact zF rfl|exact zG rfl|exact fun h=>h|(simp only[zA,zB,zC,zD,bytesW];omega)) only[go_sem,c51D0,ha,hb]
 refine ⟨chg_da,Ret.mono (or_ok _ [cmpI a.Invoke b.Invoke,cmpI a.ID b.ID] _ ((ints2_new _ _ (by simp)).below (Below.refl _ _).drew (by decide)) (by simp)) ?_⟩
 rintro _ _ ⟨rfl,rfl⟩
 simp (disch:=first|omega|exact zF rfl|exact zG rfl|exact fun h=>h|(simp only[zA,zB,zC,zD,bytesW];omega)) only[go_sem,c51D0,ha,hb]
 exact ⟨chg_da,rfl,(((((Gr.refl w).alloc _).alloc _)).alloc _).drew⟩
def oneE(v:Value):List Value:=[v]
theorem flatMap_one(vs:List Value):vs.flatMap oneE=vs:=by
 induction vs with
 | nil=>rfl
 | cons v vs ih=>rw [List.flatMap_cons,ih]; rfl
structure Progs(w:World)(B:Nat)(u:Value)(acc:List Seg)(vs:List Value):Prop where
 len:vs.length=acc.length
 top:RdS w 1 oneE u vs
 elt:∀ (j:Nat) (s:Seg) (v:Value),acc[j]?=some s→vs[j]?=some v→RdS w 11 OpT.enc v s.ops∧s.ops.length≤100
 newT:∀ k,slFoot u k→B≤k
 newE:∀ v∈vs,∀ k,slFoot v k→B≤k
theorem rowsO_keys{l:List OpT}{d:List (Int × Value × Nat)}{ks:List Int}(hn:(d.map Prod.fst).Nodup)(hp:ks.Perm (d.map Prod.fst)):(ks.map fun p=>rowO l p ((getM p d).getD (.slice none 0 0))).Perm (rowsO l d):=by
 refine (hp.map _).trans ?_
 rw [List.map_map]
 unfold rowsO
 refine List.Perm.of_eq (List.map_congr_left fun x hx=>?_)
 simp only [Function.comp]
 rw [getM_mem hn hx]; rfl
theorem progs7{W0 w2:World}{l:List OpT}{mb cl:Nat}{d:List (Int × Value × Nat)}(hM:ByM l d cl)(s2:St W0 w2 (fun _=>False) (.obj mb (mapG intK idK d cl)::rowsO l d) [])(hl:l.length≤100) :
  W Tryz.prog (c24S7 ()) [(3,.map (some mb))] w2 (finQ Tryz.prog [.tmp 2] fun u w'=>(∃ acc vs,ByProc l acc∧Progs w' W0.heap.size u acc vs)∧Below W0.heap.size W0 w'):=by
 simp (disch:=first|omega|exact zF rfl|exact zG rfl|exact fun h=>h|(simp only[zA,zB,zC,zD,bytesW];omega)) only[go_sem,c24L0,c24S7]
 refine Ret.mono (keys_ok w2) ?_
 rintro _ _ ⟨rfl,rfl⟩
 have s3:=s2.box #[.map (some mb)] 91
 generalize w2.heap.size=bx at s3 ⊢
 generalize w2.alloc (.cells #[.map (some mb)] 91)=w3 at s3 ⊢
 simp (disch:=first|omega|exact zF rfl|exact zG rfl|exact fun h=>h|(simp only[zA,zB,zC,zD,bytesW];omega)) only[go_sem,c24L0,c24S7]
 have hdl:=hM.few
 refine Ret.mono (sortedK_ok s3 hM.nd hM.bn hM.lt (by omega)) ?_
 rintro u w4 ⟨ks,hp,hord,s4⟩
 have hkl:ks.length=d.length:=by rw [hp.length_eq,List.length_map]
 obtain ⟨au,cu,rfl,_⟩:=own_slice (s4.row 0 rfl)
 have hnd:ks.Nodup:=hp.nodup_iff.2 hM.nd
 have hup:ks.Pairwise (· < ·):=by
  have:=hord.and hnd
  exact this.imp fun h=>by have:=h.1; have:=h.2; omega
 have hmem:∀ p,p∈ks↔∃ o∈l,o.Proc=p:=fun p=>by rw [hp.mem_iff]; exact hM.mem p
 have s5:=(s4.perm (L':=.blk bx #[.map (some mb)] 91::.row (.slice au ks.length cu) 3 1 ks.length (ks.flatMap intE)::.obj mb (mapG intK idK d cl)::(ks.map fun p=>rowO l p ((getM p d).getD (.slice none 0 0)))) ((List.Perm.swap ..).trans ((((rowsO_keys hM.nd hp).cons _).cons _).cons _))).sub (List.sublist_cons_self ..)
 have s6:=s5.nilRow 22 1
 clear s2 s3 s4 s5
 simp (disch:=first|omega|exact zF rfl|exact zG rfl|exact fun h=>h|(simp only[zA,zB,zC,zD,bytesW];omega)) only[go_sem,c24L0,c24S5,c24S7]
 refine W_loopU (fun x:Nat × Value=>[(6,x.2),(31,.int .i64 x.1)]) (fun x w'=>x.1≤ks.length∧∃ acc vs,vs.length=acc.length∧acc.map Seg.obj=ks.take x.1∧(∀ s∈acc,Sorts earI (ofProc s.obj l) s.ops)∧(∀ s∈acc,∃ o r,s.ops=o::r∧s.kind=o.Kind)∧(∀ v∈vs,∀ k,slFoot v k→W0.heap.size≤k)∧St W0 w' (fun _=>False) (.row x.2 22 1 acc.length vs::.row (.slice au ks.length cu) 3 1 ks.length (ks.flatMap intE)::.obj mb (mapG intK idK d cl)::((ks.drop x.1).map fun p=>rowO l p ((getM p d).getD (.slice none 0 0)))) (segInvs acc vs)) (fun x=>ks.length - x.1) (0,.slice none 0 0) rfl ⟨Nat.zero_le _,[],[],rfl,rfl,(fun s h=>by cases h),(fun s h=>by cases h),(fun v h=>by cases h),s6⟩ ?_
 rintro ⟨i,vo⟩ w5 ⟨hi,acc,vs,hvs,hobj,hsorts,hkind,hnew,s7⟩
 simp only at hi hobj s7
 have hal:acc.length=i:=by have:=congrArg List.length hobj; rw [List.length_map,List.length_take] at this; omega
 by_cases hlt:i<ks.length
 ·have hlt':(i:Int)<ks.length:=by omega
  have hR:RdS w5 1 intE (.slice au ks.length cu) ks:=RdS.of_own (s7.row 1 rfl)
  obtain ⟨q,rfl⟩:=hR.ptr (by omega)
  have ek:=hR.at1 (e1:=fun n=>.int .i64 n) hlt
  obtain ⟨p,hpe⟩:∃ p,p=ks[i]:=⟨_,rfl⟩
  have hpm:p∈ks:=by rw [hpe]; exact List.getElem_mem hlt
  obtain ⟨x,hx,hxe⟩:=List.mem_map.1 (hp.mem_iff.1 hpm)
  have hg:getM p d=some x.2.1:=by rw [← hxe]; exact getM_mem hM.nd hx
  obtain ⟨v,hv⟩:∃ v,v=x.2.1:=⟨_,rfl⟩
  rw [← hv] at hg
  rw [← hpe] at ek
  have hdr:ks.drop i=p::ks.drop (i+1):=by rw [hpe]; exact List.drop_eq_getElem_cons hlt
  rw [hdr,List.map_cons,hg] at s7
  change St W0 w5 (fun _=>False) (_::_::_::rowO l p v::_) _ at s7
  have hol:=ofProc_len p l
  simp (disch:=first|omega|exact zF rfl|exact zG rfl|exact fun h=>h|(simp only[zA,zB,zC,zD,bytesW];omega)) only[go_sem,c24L0,c24S5,c24S7,hlt',ek]
  refine ⟨by omega,luG_map (ek:=intK) (ev:=idK) keyT_i Tryz.underlying91 (s7.obj 2 rfl) p (by rfl) ?_⟩
  rw [hg]
  simp (disch:=first|omega|exact zF rfl|exact zG rfl|exact fun h=>h|(simp only[zA,zB,zC,zD,bytesW];omega)) only[go_sem,c24L0,c24S5,c24S7,luG,idK]
  refine Ret.mono (sort_ok earI _ (enters_of Tryz.func51 (by kernel_rfl) rfl) swo_ear progs1_ok v (ofProc p l) w5 _ (s7.row 3 rfl) (by omega)) ?_
  rintro _ w6 ⟨l',hs,o6,c6⟩
  have s8:=s7.upd 3 rfl c6 (.row v 52 11 (ofProc p l).length (l'.flatMap OpT.enc)) o6 fun k hk=>.inl hk
  have hll:l'.length=(ofProc p l).length:=hs.1.length_eq
  simp only [List.set_cons_succ,List.set_cons_zero] at s8
  have s9:=s8.perm (L':=.row v 52 11 (ofProc p l).length (l'.flatMap OpT.enc)::.row vo 22 1 acc.length vs::.row (.slice (some q) ks.length cu) 3 1 ks.length (ks.flatMap intE)::.obj mb (mapG intK idK d cl)::((ks.drop (i+1)).map fun p=>rowO l p ((getM p d).getD (.slice none 0 0)))) ((List.Perm.swap ..).trans (((List.Perm.swap ..).trans ((List.Perm.swap ..).cons _)).cons _))
  have s10:=s9.seal (.rd 11 OpT.enc v l') (RdS.of_own' (s9.row 0 rfl) l' hll.symm rfl) fun k hk=>slFoot_own hk
  clear s7 s8 s9 c6
  simp (disch:=first|omega|exact zF rfl|exact zG rfl|exact fun h=>h|(simp only[zA,zB,zC,zD,bytesW];omega)) only[go_sem,c24L0,c24S5,c24S7]
  refine luG_map (ek:=intK) (ev:=idK) keyT_i Tryz.underlying91 (s10.obj 2 rfl) p (by rfl) ?_
  rw [hg]
  simp (disch:=first|omega|exact zF rfl|exact zG rfl|exact fun h=>h|(simp only[zA,zB,zC,zD,bytesW];omega)) only[go_sem,c24L0,c24S5,c24S7,luG,idK]
  refine bsW_ones ty31mkI rfl rfl (by decide) (by decide) (by intro u hu; rw [List.mem_singleton] at hu; subst hu; obtain ⟨a,b,rfl,_⟩:=own_slice o6; rfl) ?_
  have s11:=s10.alloc' (.cells #[v] 22)
  have hrd:Rd (w6.alloc (.cells #[v] 22)) 1 (.slice (some ⟨w6.heap.size,0,none⟩) 1 1) 1 [v]:=rd_new (t:=22) (sz:=1) (n:=1) (cs:=#[v]) rfl
  simp (disch:=first|omega|exact zF rfl|exact zG rfl|exact fun h=>h|(simp only[zA,zB,zC,zD,bytesW];omega)) only[go_sem,c24L0,c24S5,c24S7]
  generalize w6.alloc (.cells #[v] 22)=w7 at s11 hrd ⊢
  refine s11.append 0 rfl ty31mkI rfl (by decide) hrd (by intro u hu; rw [List.mem_singleton] at hu; subst hu; obtain ⟨a,b,rfl,_⟩:=own_slice o6; rfl) (by omega) (by omega) ?_
  intro v8 w8 s12 _
  simp only [List.set_cons_zero] at s12
  simp (disch:=first|omega|exact zF rfl|exact zG rfl|exact fun h=>h|(simp only[zA,zB,zC,zD,bytesW];omega)) only[go_sem,c24L0,c24S5,c24S7]
  obtain ⟨o,ho,hop⟩:=(hmem p).1 hpm
  have hne:l'≠[]:=fun e=>by
   have hm:o∈ofProc p l:=by unfold ofProc; rw [List.mem_filter]; exact ⟨ho,by simpa using hop⟩
   rw [e] at hll
   rw [List.eq_nil_of_length_eq_zero hll.symm] at hm
   cases hm
  obtain ⟨y,r,rfl⟩:=List.exists_cons_of_ne_nil hne
  refine ⟨⟨by omega,by omega⟩,(i+1,v8),rfl,⟨by simp only; omega,acc++[⟨p,y.Kind,y::r⟩],vs++[v],by simp [hvs],?_,fun s hm=>?_,fun s hm=>?_,fun x hm=>?_,?_⟩,by simp only; omega⟩
  ·rw [List.map_append,hobj,List.take_succ_eq_append_getElem hlt,hpe]; rfl
  ·rcases List.mem_append.1 hm with hm | hm
   ·exact hsorts s hm
   ·rw [List.mem_singleton] at hm; subst hm; exact hs
  ·rcases List.mem_append.1 hm with hm | hm
   ·exact hkind s hm
   ·rw [List.mem_singleton] at hm; subst hm; exact ⟨y,r,rfl,rfl⟩
  ·rcases List.mem_append.1 hm with hm | hm
   ·exact hnew x hm
   ·rw [List.mem_singleton] at hm; subst hm
    exact fun k hk=>(o6.lt k (slFoot_own hk)).1
  ·simp only
   rw [List.length_append,List.length_singleton]
   refine St.inv_sub s12 fun a ha=>?_
   rcases (segInvs_snoc acc vs _ _ hvs a).1 ha with rfl | ha
   ·exact List.mem_cons_self
   ·exact List.mem_cons_of_mem _ ha
 ·have hlt':¬ (i:Int)<ks.length:=by omega
  have hii:i=ks.length:=by omega
  subst hii
  rw [List.take_length] at hobj
  simp (disch:=first|omega|exact zF rfl|exact zG rfl|exact fun h=>h|(simp only[zA,zB,zC,zD,bytesW];omega)) only[go_sem,c24L0,c24S5,c24S7,hlt']
  have o7:=s7.row 0 rfl
  rw [← hvs] at o7
  refine ⟨⟨acc,vs,⟨?_,hsorts,hkind,fun o ho=>?_⟩,hvs,RdS.of_own' o7 vs rfl (flatMap_one vs).symm,fun j s v hs hv=>⟨(s7.inv _ (segInvs_mem acc vs j s v hs hv)).1,?_⟩,fun k hk=>(o7.lt k (slFoot_own hk)).1,hnew⟩,s7.bel⟩
  ·rw [← List.pairwise_map (f:=Seg.obj) (R:=(· < ·)),hobj]; exact hup
  ·have:=(hmem o.Proc).2 ⟨o,ho,rfl⟩
   rw [← hobj] at this
   obtain ⟨s,hs,e⟩:=List.mem_map.1 this
   exact ⟨s,hs,e⟩
  ·have e1:=(hsorts s (List.mem_of_getElem? hs)).1.length_eq
   have e2:=ofProc_len s.obj l
   omega
theorem programs_ok(v:Value)(l:List OpT)(w:World)(h:RdS w 11 OpT.enc v l)(hl:l.length≤100) :
  Ret Tryz.prog 24 [v] w fun u w'=>(∃ acc vs,ByProc l acc∧Progs w' w.heap.size u acc vs)∧Below w.heap.size w w':=by
 obtain ⟨a,c,rfl,_⟩:=h.form
 refine ent24 _ _ _ ?_
 simp (disch:=first|omega|exact zF rfl|exact zG rfl|exact fun h=>h|(simp only[zA,zB,zC,zD,bytesW];omega)) only[go_sem,c24S5]
 refine mmG (ek:=intK) (ev:=idK) ?_
 have s1:=(St.start (W0:=w)).lay (mapG intK idK [] 0)
 generalize hw1:w.alloc (mapG intK idK [] 0)=w1 at s1 ⊢
 generalize hmb:w.heap.size=mb at s1 ⊢
 simp (disch:=first|omega|exact zF rfl|exact zG rfl|exact fun h=>h|(simp only[zA,zB,zC,zD,bytesW];omega)) only[go_sem,c24S5]
 refine W_loopU (fun k:Nat=>[(12,.int .i64 k)]) (fun k w'=>k≤l.length∧∃ d c,ByM (l.take k) d c∧St w w' (fun _=>False) (.obj mb (mapG intK idK d c)::rowsO (l.take k) d) []) (fun k=>l.length - k) 0 rfl ⟨Nat.zero_le _,[],0,⟨List.Pairwise.nil,List.Pairwise.nil,(fun x hx=>by cases hx),(fun p=>by simp),Nat.zero_le _⟩,s1⟩ ?_
 rintro k w2 ⟨hk,d,cl,hM,s2⟩
 by_cases hlt:k<l.length
 ·have hlt':(k:Int)<l.length:=by omega
  obtain ⟨q,rfl⟩:=h.ptr (by omega)
  have ek:=h.eltB s2.bel OpT.len (by decide) hlt
  have ck:=cellsO_below s2.bel (h.at OpT.len hlt)
  have hts:l.take (k+1)=l.take k++[l[k]]:=List.take_succ_eq_append_getElem hlt
  generalize l[k]=o at *
  have ao:=o.at
  simp (disch:=first|omega|exact zF rfl|exact zG rfl|exact fun h=>h|(simp only[zA,zB,zC,zD,bytesW];omega)) only[go_sem,c24L0,c24S5,c24L0,hlt',ck]
  refine ⟨by omega,?_⟩
  have s3:=s2.box o.enc.toArray 52
  generalize w2.heap.size=b0 at s3 ⊢
  generalize w2.alloc (.cells o.enc.toArray 52)=w3 at s3 ⊢
  refine ⟨by simp [OpT.len],c24draw0 (Same (fun k=>k=b0) _) (Same.refl _ _) ?_⟩
  have s4:=s3.drew
  have r4:=s4.rules 0 rfl
  generalize w3.drew=w4 at s4 r4 ⊢
  have sm:∀ w',Blk w' b0 o.enc.toArray 52→Same (fun k=>k=b0) w4 w':=fun w' hB b hb=>by subst hb; exact Eq.trans hB (s4.blk 0 rfl).symm
  obtain ⟨v,R,hv,hperm,s5⟩:∃ v R,luG idK (.slice none 0 0) (getM o.Proc d) false=v∧(∀ v' c',(rowO (l.take k++[o]) o.Proc v'::R).Perm (rowsO (l.take k++[o]) (setM o.Proc v' c' d)))∧St w w4 (fun _=>False) (rowO (l.take k) o.Proc v::.blk b0 o.enc.toArray 52::.obj mb (mapG intK idK d cl)::R) []:=by
   cases hg:getM o.Proc d with
   | some v =>
    obtain ⟨R,h1,h2⟩:=rows_some (t:=l.take k) hM.nd hg
    refine ⟨v,R,rfl,h2,s4.perm ?_⟩
    refine List.Perm.trans ?_ (((h1.symm.cons _).cons _))
    exact (List.Perm.swap ..).trans ((List.Perm.swap ..).cons _)
   | none =>
    have e0:ofProc o.Proc (l.take k)=[]:=by
     unfold ofProc
     rw [List.filter_eq_nil_iff]
     intro x hx hp
     rw [decide_eq_true_eq] at hp
     obtain ⟨y,hy,hy1⟩:=List.mem_map.1 ((hM.mem o.Proc).2 ⟨x,hx,hp⟩)
     exact getM_none hg y hy hy1.symm
    refine ⟨_,rowsO (l.take k) d,rfl,rows_none hg,?_⟩
    unfold rowO
    rw [e0]
    exact s4.nilRow 52 11
  have hol:(ofProc o.Proc (l.take k)).length≤100:=by
   have:=ofProc_len o.Proc (l.take k)
   rw [List.length_take] at this; omega
  have hK:∀ v5 w5 (hs:St w w5 (fun _=>False) (rowO (l.take k++[o]) o.Proc v5::.blk b0 o.enc.toArray 52::.obj mb (mapG intK idK d cl)::R) []),St w (w5.putObj mb (mapG intK idK (setM o.Proc v5 cl d) (if (getM o.Proc d).isSome then cl else cl+1))) (fun _=>False) (rowO (l.take k++[o]) o.Proc v5::.blk b0 o.enc.toArray 52::.obj mb (mapG intK idK (setM o.Proc v5 cl d) (if (getM o.Proc d).isSome then cl else cl+1))::R) []:=fun v5 w5 hs=>hs.putObj 2 rfl _
  have hK2:∀ v5 w5 (hs:St w w5 (fun _=>False) (rowO (l.take k++[o]) o.Proc v5::.blk b0 o.enc.toArray 52::.obj mb (mapG intK idK (setM o.Proc v5 cl d) (if (getM o.Proc d).isSome then cl else cl+1))::R) []),k+1≤l.length∧∃ d c,ByM (l.take (k+1)) d c∧St w w5 (fun _=>False) (.obj mb (mapG intK idK d c)::rowsO (l.take (k+1)) d) []:=by
   intro v5 w5 hs
   rw [hts]
   refine ⟨hlt,_,_,hM.step o v5,?_⟩
   have hs2:=hs.perm (L':=.blk b0 o.enc.toArray 52::.obj mb (mapG intK idK (setM o.Proc v5 cl d) (if (getM o.Proc d).isSome then cl else cl+1))::rowO (l.take k++[o]) o.Proc v5::R) (((List.Perm.swap ..).cons _).trans (List.Perm.swap ..))
   exact (hs2.sub (List.sublist_cons_self ..)).perm ((hperm v5 cl).symm.cons _)
  have hx:∀ w',Below w4.heap.size w4 w'→Rd (w'.alloc (.cells o.enc.toArray 52)) 11 (.slice (some ⟨w'.heap.size,0,none⟩) 1 1) 1 o.enc:=fun w' _=>rd_new (t:=52) (sz:=11) (n:=1) (cs:=o.enc.toArray) rfl
  have hx0:=hx w4 (Below.refl _ _)
  have s6:=s5.alloc' (.cells o.enc.toArray 52)
  have h0:Rd (w4.alloc (.cells o.enc.toArray 52)) 11 (.slice (some ⟨w4.heap.size,0,none⟩) 1 1) 1 o.enc:=hx0
  have hcast:∀ v7 w7,St w w7 (fun _=>False) ((rowO (l.take k) o.Proc v::.blk b0 o.enc.toArray 52::.obj mb (mapG intK idK d cl)::R).set 0 (.row v7 52 11 ((ofProc o.Proc (l.take k)).length+1) ((ofProc o.Proc (l.take k)).flatMap OpT.enc++o.enc))) []→St w w7 (fun _=>False) (rowO (l.take k++[o]) o.Proc v7::.blk b0 o.enc.toArray 52::.obj mb (mapG intK idK d cl)::R) []:=fun v7 w7 hs=>st_recast hs (by
   unfold rowO
   rw [ofProc_one,if_pos rfl,List.length_append,List.flatMap_append]
   simp)
  simp (disch:=first|omega|exact zF rfl|exact zG rfl|exact fun h=>h|(simp only[zA,zB,zC,zD,bytesW];omega)) only[go_sem,c24L0,c24S5,c24D0,r4,ao]
  refine ⟨luG_map (ek:=intK) (ev:=idK) keyT_i Tryz.underlying91 (s5.obj 2 rfl) o.Proc (by rfl) ?_,bsW_agg ty22mkI rfl (by decide) (by decide) ?_⟩
  ·rw [hv]
   simp (disch:=first|omega|exact zF rfl|exact zG rfl|exact fun h=>h|(simp only[zA,zB,zC,zD,bytesW];omega)) only[go_sem,c24L0,c24S5,c24D0,r4,ao]
   refine ⟨Same.refl _ _,bsW_agg ty22mkI rfl (by decide) (by decide) ?_⟩
   generalize w4.alloc (.cells o.enc.toArray 52)=w6 at s6 h0 ⊢
   simp (disch:=first|omega|exact zF rfl|exact zG rfl|exact fun h=>h|(simp only[zA,zB,zC,zD,bytesW];omega)) only[go_sem,c24L0,c24S5,c24D0,r4,ao]
   refine ⟨sm _ (s6.blk 1 rfl),s6.append 0 rfl ty22mkI rfl (by decide) h0 o.one (by omega) (by omega) ?_⟩
   intro v7 w7 s7 _
   have s7':=hcast v7 w7 s7
   simp (disch:=first|omega|exact zF rfl|exact zG rfl|exact fun h=>h|(simp only[zA,zB,zC,zD,bytesW];omega)) only[go_sem,c24L0,c24S5,c24D0,r4,ao]
   refine ⟨sm _ (s7'.blk 1 rfl),?_⟩
   refine muG_map (ek:=intK) (ev:=idK) keyT_i Tryz.underlying91 (fun a=>by simp [Instr.sameBits,intK]) (s7'.obj 2 rfl) o.Proc v7 ?_
   have s8:=hK v7 w7 s7'
   generalize w7.putObj mb (mapG intK idK (setM o.Proc v7 cl d) (if (getM o.Proc d).isSome then cl else cl+1))=w8 at s8 ⊢
   simp (disch:=first|omega|exact zF rfl|exact zG rfl|exact fun h=>h|(simp only[zA,zB,zC,zD,bytesW];omega)) only[go_sem,c24L0,c24S5,c24D0,r4,ao]
   exact ⟨sm _ (s8.blk 1 rfl),⟨by omega,by omega⟩,k+1,rfl,hK2 _ _ s8,by omega⟩
  ·generalize w4.alloc (.cells o.enc.toArray 52)=w6 at s6 h0 ⊢
   simp (disch:=first|omega|exact zF rfl|exact zG rfl|exact fun h=>h|(simp only[zA,zB,zC,zD,bytesW];omega)) only[go_sem,c24L0,c24S5,c24D0,r4,ao]
   refine ⟨sm _ (s6.blk 1 rfl),luG_map (ek:=intK) (ev:=idK) keyT_i Tryz.underlying91 (s6.obj 2 rfl) o.Proc (by rfl) ?_⟩
   rw [hv]
   simp (disch:=first|omega|exact zF rfl|exact zG rfl|exact fun h=>h|(simp only[zA,zB,zC,zD,bytesW];omega)) only[go_sem,c24L0,c24S5,c24D0,r4,ao]
   refine ⟨sm _ (s6.blk 1 rfl),s6.append 0 rfl ty22mkI rfl (by decide) h0 o.one (by omega) (by omega) ?_⟩
   intro v7 w7 s7 _
   have s7':=hcast v7 w7 s7
   simp (disch:=first|omega|exact zF rfl|exact zG rfl|exact fun h=>h|(simp only[zA,zB,zC,zD,bytesW];omega)) only[go_sem,c24L0,c24S5,c24D0,r4,ao]
   refine ⟨sm _ (s7'.blk 1 rfl),?_⟩
   refine muG_map (ek:=intK) (ev:=idK) keyT_i Tryz.underlying91 (fun a=>by simp [Instr.sameBits,intK]) (s7'.obj 2 rfl) o.Proc v7 ?_
   have s8:=hK v7 w7 s7'
   generalize w7.putObj mb (mapG intK idK (setM o.Proc v7 cl d) (if (getM o.Proc d).isSome then cl else cl+1))=w8 at s8 ⊢
   simp (disch:=first|omega|exact zF rfl|exact zG rfl|exact fun h=>h|(simp only[zA,zB,zC,zD,bytesW];omega)) only[go_sem,c24L0,c24S5,c24D0,r4,ao]
   exact ⟨sm _ (s8.blk 1 rfl),⟨by omega,by omega⟩,k+1,rfl,hK2 _ _ s8,by omega⟩
 ·have hlt':¬ (k:Int)<l.length:=by omega
  have hkk:k=l.length:=by omega
  subst hkk
  rw [List.take_length] at hM s2
  simp (disch:=first|omega|exact zF rfl|exact zG rfl|exact fun h=>h|(simp only[zA,zB,zC,zD,bytesW];omega)) only[go_sem,c24L0,c24S5,c24L0,hlt']
  have:=progs7 hM s2 hl
  rw [hmb] at this
  exact this
end Go.Proofs.YtoadmihnihfjkaaGreat.Cut

namespace Go.Proofs.YtoadmihnihfjkaaGreat
open Go Go.Ann Go.RowKit
def zN(d:List Nat):List Int:=d.map fun n:Nat=>(n:Int)
theorem zN_len(d:List Nat):(zN d).length=d.length:=by simp [zN]
theorem zN_get{d:List Nat}{k:Nat}(hk:k<(zN d).length):(zN d)[k]=((d.getD k 0:Nat):Int):=by
 rw [zN_len] at hk
 simp [zN,List.getD_eq_getElem?_getD,List.getElem?_eq_getElem hk]
theorem zN_cell{w:World}{p:Addr}{n c:Nat}{d:List Nat}(h:RdS w 1 intE (.slice (some p) n c) (zN d)){k:Nat}(hk:k<d.length):w.cell? (p.add k)=some (.int .i64 (d.getD k 0:Nat)):=by
 rw [RdS.int h (by rw [zN_len]; exact hk),zN_get]
theorem txts_len{U:List VS}(h:∀ p∈U,Ok64 p.2∧p.2.length≤1000):(U.flatMap fun p=>txt p.2).length≤10010 * U.length:=by
 induction U with
 | nil=>simp
 | cons p U ih =>
  have h1:=ih fun q hq=>h q (List.mem_cons_of_mem _ hq)
  obtain ⟨h2,h3⟩:=h p List.mem_cons_self
  have h4:=flat_len h2
  have h5:=varL_10 (show p.2.length<18446744073709551616 by omega)
  have e:(txt p.2).length=(varL p.2.length).length+(p.2.flatMap fun n=>varL (foldN n)).length:=by unfold txt; rw [List.length_append]
  rw [List.flatMap_cons,List.length_append,List.length_cons]
  omega
theorem wtext_ok(dv sv:Value)(d:List Nat)(U:List VS)(w:World)(hd:RdS w 1 intE dv (zN d))(hU:RowS w sv U)(hl:d.length≤1000)(hok:∀ p∈U,Ok64 p.2∧p.2.length≤1000)(hUl:U.length≤1000) :
  Ret Tryz.prog 86 [dv,sv] w fun u w'=>u=.string (ofL (d.map u8++U.flatMap fun p=>txt p.2))∧Below w.heap.size w w':=by
 obtain ⟨a,c,rfl,_⟩:=hd.form
 obtain ⟨sa,sc,rfl,_⟩:=hU.form
 rw [zN_len] at hd ⊢
 refine ent86 _ _ _ _ ?_
 simp (disch:=first|omega|exact zF rfl|exact zG rfl|exact fun h=>h|(simp only[zA,zB,zC,zD,bytesW];omega)) only[go_sem,c86L1,c86S4]
 refine msW_one ty120mkI rfl (by omega) (by omega) (by omega) (by omega) ?_
 simp (disch:=first|omega|exact zF rfl|exact zG rfl|exact fun h=>h|(simp only[zA,zB,zC,zD,bytesW];omega)) only[go_sem,c86L1,c86S4]
 have hz:Blk (w.alloc (.cells (zerosA (.int .u8 0) d.length) 5)) w.heap.size (zerosA (.int .u8 0) d.length) 5:=Blk.new
 have ho:=hz.own (n:=0) (cap:=d.length) (size:=1) (xs:=[]) (base:=w.heap.size) (Nat.le_refl _) (Nat.zero_le _) (by have:maxLen=9223372036854775807:=(by decide); omega) (by simp [zerosA]) (by simp)
 have s1:=(St.start (W0:=w)).add ((Below.refl _ w).alloc (Nat.le_refl _) (.cells (zerosA (.int .u8 0) d.length) 5)) (.row (.slice (some ⟨w.heap.size,0,none⟩) 0 d.length) 5 1 0 []) ho fun k hk=>(ho.lt k hk).1
 refine W_loopU (fun x:Nat × Value=>[(5,x.2),(16,.int .i64 x.1)]) (fun x w'=>St w w' (fun _=>False) [.row x.2 5 1 x.1 (((d.take x.1).map u8).map byteC)] []∧x.1≤d.length∧∃ g c,x.2=.slice (some ⟨g,0,none⟩) x.1 c) (fun x=>d.length - x.1) (0,.slice (some ⟨w.heap.size,0,none⟩) 0 d.length) rfl ⟨s1,Nat.zero_le _,_,_,rfl⟩ ?_
 rintro ⟨k,bv⟩ w2 ⟨s2,hk,g,cg,hu⟩
 simp only at s2 hk hu
 subst hu
 by_cases hlt:k<d.length
 ·have hlt':(k:Int)<d.length:=by omega
  obtain ⟨p,rfl⟩:=hd.ptr (by rw [zN_len]; omega)
  have ek:=zN_cell (hd.below s2.bel (by decide)) hlt
  simp (disch:=first|omega|exact zF rfl|exact zG rfl|exact fun h=>h|(simp only[zA,zB,zC,zD,bytesW];omega)) only[go_sem,c86L1,c86S4,hlt',ek]
  rw [wrap_u8]
  refine ⟨by omega,bsW_ones ty120mkI rfl rfl (by decide) (by decide) (byte_one _) ?_⟩
  simp (disch:=first|omega|exact zF rfl|exact zG rfl|exact fun h=>h|(simp only[zA,zB,zC,zD,bytesW];omega)) only[go_sem,c86L1,c86S4]
  have hx:Rd (w2.alloc (.cells #[byteC (u8 (d.getD k 0))] 5)) 1 (.slice (some ⟨w2.heap.size,0,none⟩) 1 1) 1 [byteC (u8 (d.getD k 0))]:=rd_new (n:=1) (cs:=#[byteC (u8 (d.getD k 0))]) rfl
  refine (s2.alloc' (.cells #[byteC (u8 (d.getD k 0))] 5)).append 0 rfl ty120mkI rfl (by decide) hx (byte_one _) (by omega) (by omega) ?_
  intro v6 w6 s6 c6
  simp only [List.set_cons_zero] at s6
  obtain ⟨a6,c6',rfl,_⟩:=own_slice (s6.row 0 rfl)
  obtain ⟨g6,rfl⟩:=own_ptr (s6.row 0 rfl) (by omega)
  have et:((d.take (k+1)).map u8).map byteC=((d.take k).map u8).map byteC++[byteC (u8 (d.getD k 0))]:=by
   rw [List.take_succ_eq_append_getElem hlt,List.map_append,List.map_append]
   simp [List.getD_eq_getElem?_getD,List.getElem?_eq_getElem hlt]
  rw [← et] at s6
  simp (disch:=first|omega|exact zF rfl|exact zG rfl|exact fun h=>h|(simp only[zA,zB,zC,zD,bytesW];omega)) only[go_sem,c86L1,c86S4]
  exact ⟨⟨by omega,by omega⟩,(k+1,.slice (some ⟨g6,0,none⟩) (k+1) c6'),rfl,⟨s6,by simp only; omega,_,_,rfl⟩,by simp only; omega⟩
 ·have hlt':¬ (k:Int)<d.length:=by omega
  obtain rfl:k=d.length:=by omega
  rw [List.take_length] at s2
  have hc:=(s2.row 0 rfl).cells rfl
  simp (disch:=first|omega|exact zF rfl|exact zG rfl|exact fun h=>h|(simp only[zA,zB,zC,zD,bytesW];omega)) only[go_sem,c86S5,hlt']
  refine ⟨d.map u8,by simp,fun j b hb=>?_,?_⟩
  ·refine hc j _ ?_
   rw [List.getElem?_map,hb]; rfl
  refine W_loopU (fun k:Nat=>[(8,.string (ofL (d.map u8++(U.take k).flatMap fun p=>txt p.2))),(30,.int .i64 k)]) (fun k w'=>Below w.heap.size w w'∧k≤U.length) (fun k=>U.length - k) 0 (by simp [ovr,lk]) ⟨s2.bel,Nat.zero_le _⟩ ?_
  rintro k w3 ⟨b3,hk3⟩
  by_cases hlt3:k<U.length
  ·have hlt3':(k:Int)<U.length:=by omega
   have hU3:=hU.below b3
   obtain ⟨p,rfl⟩:=hU.ptr (by omega)
   have ek:=hU3.at hlt3
   have rk:=hU3.rd _ (List.getElem_mem hlt3)
   obtain ⟨va,vc,hva,_⟩:=rk.form
   obtain ⟨o1,o2⟩:=hok _ (List.getElem_mem hlt3)
   simp (disch:=first|omega|exact zF rfl|exact zG rfl|exact fun h=>h|(simp only[zA,zB,zC,zD,bytesW];omega)) only[go_sem,c86L1,c86S5,c86L1,hlt3',ek,hva]
   rw [hva] at rk
   refine ⟨by omega,Ret.mono (text_ok _ U[k].2 w3 rk o1 (by omega)) ?_⟩
   rintro _ w4 ⟨rfl,g4⟩
   have hb:=txts_len (U:=U.take k) fun q hq=>hok q (List.mem_of_mem_take hq)
   rw [List.length_take] at hb
   have hv:=txts_len (U:=[U[k]]) fun q hq=>by rw [List.mem_singleton] at hq; subst hq; exact ⟨o1,o2⟩
   simp only [List.flatMap_cons,List.flatMap_nil,List.append_nil,List.length_singleton] at hv
   simp (disch:=first|omega|exact zF rfl|exact zG rfl|exact fun h=>h|(simp only[zA,zB,zC,zD,bytesW];omega)) only[go_sem,c86L1,c86S5]
   refine ⟨?_,⟨by omega,by omega⟩,k+1,?_,⟨Below.next b3 g4.below,by omega⟩,by omega⟩
   ·simp only [List.length_append,List.length_map]; omega
   ·rw [List.take_succ_eq_append_getElem hlt3,List.flatMap_append,List.append_assoc]; simp
  ·have hlt3':¬ (k:Int)<U.length:=by omega
   simp (disch:=first|omega|exact zF rfl|exact zG rfl|exact fun h=>h|(simp only[zA,zB,zC,zD,bytesW];omega)) only[go_sem,c86L1,c86S4,c86S5,c86L1,hlt3']
   rw [List.take_of_length_le (by omega)]
   exact ⟨rfl,b3⟩
open Go Go.Ann Go.RowKit
theorem flat_all{α:Type}{sz:Nat}{enc:α→List Value}(hsz:∀ x,(enc x).length=sz):∀ l:List α,(l.flatMap enc).length=l.length * sz
 | []=>by simp
 | x::l=>by rw [List.flatMap_cons,List.length_append,flat_all hsz l,hsz,List.length_cons,Nat.add_mul]; omega
theorem RdS.dropO{α:Type}{w:World}{sz cap:Nat}{enc:α→List Value}{a:Option Addr}{xs:List α}(h:RdS w sz enc (.slice a xs.length cap) xs)(hsz:∀ x,(enc x).length=sz){k:Nat}(hk:k≤xs.length):RdS w sz enc (.slice (offA a cap k sz) (xs.length - k) (cap - k)) (xs.drop k):=by
 have ht:((xs.take k).flatMap enc).length=k * sz:=by rw [flat_all hsz,List.length_take,Nat.min_eq_left hk]
 have hd:(xs.drop k).flatMap enc=(xs.flatMap enc).drop (k * sz):=by
  have e:xs.flatMap enc=(xs.take k).flatMap enc++(xs.drop k).flatMap enc:=by rw [← List.flatMap_append,List.take_append_drop]
  rw [e,← ht,List.drop_left]
 have:=Cut.rd_drop h hk
 rw [← hd] at this
 unfold RdS
 rw [List.length_drop]
 exact this
structure PgR(w:World)(pv:Value)(P:List (List OpT))(vs:List Value):Prop where
 len:vs.length=P.length
 top:RdS w 1 Cut.oneE pv vs
 elt:∀ (j:Nat) (p:List OpT) (v:Value),P[j]?=some p→vs[j]?=some v→RdS w 11 OpT.enc v p
def PgR.foot(pv:Value)(vs:List Value)(k:Nat):Prop:=slFoot pv k∨∃ v∈vs,slFoot v k
theorem PgR.loc{w w':World}{pv:Value}{P:List (List OpT)}{vs:List Value}(h:PgR w pv P vs)(hk:∀ k,PgR.foot pv vs k→w'.heap[k]?=w.heap[k]?):PgR w' pv P vs :=
 ⟨h.len,h.top.loc fun k hf=>hk k (.inl hf),fun j p v hp hv=>(h.elt j p v hp hv).loc fun k hf=>hk k (.inr ⟨v,List.mem_of_getElem? hv,hf⟩)⟩
def Inv.pg(pv:Value)(P:List (List OpT))(vs:List Value):Inv:=⟨fun w=>PgR w pv P vs,PgR.foot pv vs,fun _ _ h hk=>h.loc hk⟩
theorem PgR.below{w w':World}{pv:Value}{P:List (List OpT)}{vs:List Value}(h:PgR w pv P vs)(hb:Below w.heap.size w w'):PgR w' pv P vs :=
 ⟨h.len,h.top.below hb (by decide),fun j p v hp hv=>(h.elt j p v hp hv).below hb (by decide)⟩
theorem PgR.footLt{w:World}{pv:Value}{P:List (List OpT)}{vs:List Value}(h:PgR w pv P vs){k:Nat}(hk:PgR.foot pv vs k):k<w.heap.size:=by
 rcases hk with hk | ⟨v,hv,hk⟩
 ·exact h.top.footLt (by decide) hk
 ·obtain ⟨j,hj,rfl⟩:=List.mem_iff_getElem.1 hv
  have hjp:j<P.length:=by have:=h.len; omega
  exact (h.elt j P[j] vs[j] (List.getElem?_eq_getElem hjp) (List.getElem?_eq_getElem hj)).footLt (by decide) hk
theorem PgR.at{w:World}{p:Addr}{n c:Nat}{P:List (List OpT)}{vs:List Value}(h:PgR w (.slice (some p) n c) P vs){k:Nat}(hk:k<P.length):∃ a cc,w.cell? (p.add k)=some (.slice a P[k].length cc)∧RdS w 11 OpT.enc (.slice a P[k].length cc) P[k]:=by
 have hv:k<vs.length:=by have:=h.len; omega
 have r:=h.elt k P[k] vs[k] (List.getElem?_eq_getElem hk) (List.getElem?_eq_getElem hv)
 obtain ⟨a,cc,e,_⟩:=r.form
 have hc:=RdS.at1 (e1:=fun v=>v) (show RdS w 1 (fun v=>[v]) (.slice (some p) n c) vs from h.top) hv
 rw [e] at hc r
 exact ⟨a,cc,hc,r⟩
theorem PgR.form{w:World}{pv:Value}{P:List (List OpT)}{vs:List Value}(h:PgR w pv P vs):∃ a c,pv=.slice a P.length c:=by
 obtain ⟨a,c,e,_⟩:=h.top.form
 rw [h.len] at e
 exact ⟨a,c,e⟩
theorem PgR.ptr{w:World}{a:Option Addr}{n c:Nat}{P:List (List OpT)}{vs:List Value}(h:PgR w (.slice a n c) P vs)(h0:0<P.length):∃ p,a=some p:=h.top.ptr (by have:=h.len; omega)
theorem PgR.of{w:World}{B:Nat}{u:Value}{acc:List Seg}{vs:List Value}(h:Cut.Progs w B u acc vs):PgR w u (progsW acc) vs:=by
 refine ⟨by rw [h.len]; simp [progsW],h.top,fun j p v hp hv=>?_⟩
 unfold progsW at hp
 rw [List.getElem?_map] at hp
 cases hs:acc[j]? with
 | none=>rw [hs] at hp; cases hp
 | some s =>
  rw [hs] at hp
  cases hp
  exact (h.elt j s v hs hv).1
def endK(P:List (List OpT))(d:List Nat)(k:Nat):Bool:=((P.getD k []).drop (d.getD k 0)).all fun o=>!o.Done
theorem endsP_no{P:List (List OpT)}{d:List Nat}{k:Nat}(hk:k<P.length)(h:endK P d k=false):endsP P d=false:=by
 cases e:endsP P d
 ·rfl
 ·have:=List.all_eq_true.1 e k (List.mem_range.2 hk)
  unfold endK at h
  rw [h] at this
  cases this
theorem over_ok{w:World}{x:Nat}{c1 c2 c3 c4 dv pv:Value}{P:List (List OpT)}{vs:List Value}{d:List Nat}(hB:Blk w x #[pv,c1,c2,c3,c4] 60)(hP:PgR w pv P vs)(hd:RdS w 1 intE dv (zN d))(hl:d.length=P.length)(hn:P.length≤1000)(hp:∀ k,(P.getD k []).length≤1000)(hle:∀ k,d.getD k 0≤(P.getD k []).length) :
  Ret Tryz.prog 87 [.pointer (some ⟨x,0,none⟩),dv] w fun u w'=>u=.bool (endsP P d)∧Below w.heap.size w w':=by
 obtain ⟨a,c,rfl,_⟩:=hd.form
 obtain ⟨pa,pc,rfl⟩:=hP.form
 rw [zN_len] at hd ⊢
 have r:=hB.rules
 refine ent87 _ _ _ _ ?_
 simp (disch:=first|omega|exact zF rfl|exact zG rfl|exact fun h=>h|(simp only[zA,zB,zC,zD,bytesW];omega)) only[go_sem,c87L0,r]
 refine W_loopU (fun k:Nat=>[(14,.int .i64 k)]) (fun k w'=>Below w.heap.size w w'∧k≤P.length∧∀ j,j<k→endK P d j=true) (fun k=>P.length - k) 0 rfl ⟨Below.refl _ _,Nat.zero_le _,fun j h=>by omega⟩ ?_
 rintro k w2 ⟨b2,hk,hall⟩
 have z2:=b2.size
 by_cases hlt:k<P.length
 ·have hlt':(k:Int)<P.length:=by omega
  obtain ⟨p,rfl⟩:=hP.ptr (by omega)
  obtain ⟨q,rfl⟩:=hd.ptr (by rw [zN_len]; omega)
  obtain ⟨ra,rc,e1,e2⟩:=(hP.below b2).at hlt
  have e3:=zN_cell (hd.below b2 (by decide)) (k:=k) (by omega)
  have hk2:(k:Int)<d.length:=by omega
  have hpk:P.getD k []=P[k]:=by simp [List.getD_eq_getElem?_getD,List.getElem?_eq_getElem hlt]
  have hle2:=hle k
  have hp2:=hp k
  rw [hpk] at hle2 hp2
  simp (disch:=first|omega|exact zF rfl|exact zG rfl|exact fun h=>h|(simp only[zA,zB,zC,zD,bytesW];omega)) only[go_sem,c87L1,c87L1,hlt',e1,e3,hk2]
  refine ⟨by omega,by omega,⟨by omega,by omega⟩,?_⟩
  have e4:=RdS.dropO e2 OpT.len hle2
  have hkk:endK P d k=(P[k].drop (d.getD k 0)).all fun o=>!o.Done:=by unfold endK; rw [hpk]
  have hpl:=hp2
  generalize hQ:P[k].drop (d.getD k 0)=Q at e4 hkk
  have hQl:P[k].length - d.getD k 0=Q.length:=by rw [← hQ,List.length_drop]
  rw [hQl] at e4 ⊢
  generalize offA ra rc (d.getD k 0) 11=oa at e4 ⊢
  generalize rc - d.getD k 0=oc at e4 ⊢
  have hQb:Q.length≤1000:=by omega
  refine W_loopU (fun j:Nat=>[(26,.int .i64 j)]) (fun j w'=>Below w2.heap.size w2 w'∧j≤Q.length∧(Q.take j).all (fun o=>!o.Done)=true) (fun j=>Q.length - j) 0 rfl ⟨Below.refl _ _,Nat.zero_le _,rfl⟩ ?_
  rintro j w3 ⟨b3,hj,ha⟩
  have z3:=b3.size
  by_cases hjl:j<Q.length
  ·have hjl':(j:Int)<Q.length:=by omega
   obtain ⟨s,rfl⟩:=e4.ptr (by omega)
   have ej:=e4.eltB b3 OpT.len (by decide) hjl
   have cj:=cellsO_below b3 (e4.at OpT.len hjl)
   have aj:=Q[j].at
   have et:(Q.take (j+1)).all (fun o=>!o.Done)=!Q[j].Done:=by
    rw [List.take_succ_eq_append_getElem hjl,List.all_append,ha]
    simp
   simp (disch:=first|omega|exact zF rfl|exact zG rfl|exact fun h=>h|(simp only[zA,zB,zC,zD,bytesW];omega)) only[go_sem,c87L0,c87L1,c87L0,hjl',ej,cj,aj]
   refine ⟨by omega,by simp [OpT.len],fun hd1=>?_,fun hd0=>?_⟩
   ·refine ⟨(endsP_no hlt ?_).symm,by (repeat' (first | with_reducible exact Below.refl _ _ | with_reducible assumption | (with_reducible refine Below.drew ?_) | (with_reducible refine Below.alloc ?_ ?_ _) | (with_reducible refine Below.setCell ?_ ?_ _) | (with_reducible refine Below.fill ?_ ?_) | (with_reducible refine Below.via (by assumption) ?_ ?_) | omega | (simp only [World.size_alloc,World.size_drew,World.size_setCell,size_fill,bytesW]; omega)))⟩
    rw [hkk]
    cases e:Q.all (fun o=>!o.Done)
    ·rfl
    ·have:=List.all_eq_true.1 e _ (List.getElem_mem hjl)
     rw [hd1] at this
     cases this
   ·exact ⟨⟨by omega,by omega⟩,j+1,rfl,⟨by (repeat' (first | with_reducible exact Below.refl _ _ | with_reducible assumption | (with_reducible refine Below.drew ?_) | (with_reducible refine Below.alloc ?_ ?_ _) | (with_reducible refine Below.setCell ?_ ?_ _) | (with_reducible refine Below.fill ?_ ?_) | (with_reducible refine Below.via (by assumption) ?_ ?_) | omega | (simp only [World.size_alloc,World.size_drew,World.size_setCell,size_fill,bytesW]; omega))),by omega,by rw [et,hd0]; rfl⟩,by omega⟩
  ·have hjl':¬ (j:Int)<Q.length:=by omega
   simp (disch:=first|omega|exact zF rfl|exact zG rfl|exact fun h=>h|(simp only[zA,zB,zC,zD,bytesW];omega)) only[go_sem,c87L0,c87L1,c87L0,hjl']
   refine ⟨⟨by omega,by omega⟩,k+1,rfl,⟨Below.next b2 b3,by omega,fun i hi=>?_⟩,by omega⟩
   rcases Nat.lt_or_ge i k with h | h
   ·exact hall i h
   ·obtain rfl:i=k:=by omega
    rw [hkk,← ha,List.take_of_length_le (by omega)]
 ·have hlt':¬ (k:Int)<P.length:=by omega
  simp (disch:=first|omega|exact zF rfl|exact zG rfl|exact fun h=>h|(simp only[zA,zB,zC,zD,bytesW];omega)) only[go_sem,c87L0,c87L1,c87S4,c87L1,hlt']
  refine ⟨?_,b2⟩
  unfold endsP
  exact (List.all_eq_true.2 fun j hj=>hall j (by have:=List.mem_range.1 hj; omega)).symm
end Go.Proofs.YtoadmihnihfjkaaGreat

end
