/- Texts put together by program. -/
import Derived.Test.YtoadmihnihfjkaaGreatQF6
set_option linter.unusedSimpArgs false
set_option linter.unusedVariables false
set_option maxRecDepth 100000
noncomputable section

namespace Go.Proofs.YtoadmihnihfjkaaGreat
open Go Go.Ann Go.RowKit
def lD2:GT:=(.one 0 ⟨some 75,.move (.tmp 0),31,none⟩
 (.one 0 ⟨some 76,.move (.tmp 15),25,none⟩
 (.one 0 ⟨some 77,.move (.tmp 13),68,none⟩
 (.one 0 ⟨some 79,.move (.tmp 3),25,none⟩
 (.one 0 ⟨some 81,.fieldAddr 52 (.tmp 12) 0,0,none⟩
 (.one 1 ⟨some 82,.load 3 (.tmp 81),3,none⟩
 (.one 1 ⟨some 85,.load 34 (.tmp 9),34,none⟩
 (.alt ⟨some 78,.buildSlice 25 0 #[],25,none⟩
 (.alt ⟨some 80,.call ⟨.builtin .append,#[(.tmp 78),(.tmp 79)],#[25,25]⟩,25,none⟩
 (.one 2 ⟨some 83,.buildSlice 25 1 #[(0,(.tmp 82))],25,none⟩
 (.one 2 ⟨some 84,.call ⟨.builtin .append,#[(.tmp 80),(.tmp 83)],#[25,25]⟩,25,none⟩
 (.one 2 ⟨some 86,.call ⟨.value (.func 15),#[(.tmp 75),(.tmp 76),(.tmp 77),(.tmp 84),(.tmp 85)],#[31,25,68,25,34]⟩,34,none⟩
 (.one 3 ⟨none,.store 34 (.tmp 9) (.tmp 86),0,none⟩
 .nil))))
 (.alt ⟨some 83,.buildSlice 25 1 #[(0,(.tmp 82))],25,none⟩
 (.one 2 ⟨some 80,.call ⟨.builtin .append,#[(.tmp 78),(.tmp 79)],#[25,25]⟩,25,none⟩
 (.one 2 ⟨some 84,.call ⟨.builtin .append,#[(.tmp 80),(.tmp 83)],#[25,25]⟩,25,none⟩
 (.one 2 ⟨some 86,.call ⟨.value (.func 15),#[(.tmp 75),(.tmp 76),(.tmp 77),(.tmp 84),(.tmp 85)],#[31,25,68,25,34]⟩,34,none⟩
 (.one 3 ⟨none,.store 34 (.tmp 9) (.tmp 86),0,none⟩
 .nil))))
 .stop))
 (.alt ⟨some 83,.buildSlice 25 1 #[(0,(.tmp 82))],25,none⟩
 (.one 2 ⟨some 78,.buildSlice 25 0 #[],25,none⟩
 (.one 2 ⟨some 80,.call ⟨.builtin .append,#[(.tmp 78),(.tmp 79)],#[25,25]⟩,25,none⟩
 (.one 2 ⟨some 84,.call ⟨.builtin .append,#[(.tmp 80),(.tmp 83)],#[25,25]⟩,25,none⟩
 (.one 2 ⟨some 86,.call ⟨.value (.func 15),#[(.tmp 75),(.tmp 76),(.tmp 77),(.tmp 84),(.tmp 85)],#[31,25,68,25,34]⟩,34,none⟩
 (.one 3 ⟨none,.store 34 (.tmp 9) (.tmp 86),0,none⟩
 .nil)))))
 .stop)))))))))
theorem lDraw2{L:List Nat}{ρ:Env}{w:World}{Q:Post}(S:World→Prop)(hS:S w.drew)(h:DT Tryz.prog S lD2 L ρ w.drew Q):drawW Tryz.prog (drawOps 2 c15code) L ρ w Q :=
 drawW_treeU [7,10] (.one 0 0 (.one 0 1 (.one 0 2 (.one 0 4 (.one 0 6 (.one 1 7 (.one 1 10 (.alt 3 (.alt 5 (.one 2 8 (.one 2 9 (.one 2 11 (.one 3 12 .nil)))) (.alt 8 (.one 2 5 (.one 2 9 (.one 2 11 (.one 3 12 .nil)))) .stop)) (.alt 8 (.one 2 3 (.one 2 5 (.one 2 9 (.one 2 11 (.one 3 12 .nil))))) .stop))))))))) lD2 (by kernel_rfl) (by kernel_rfl) (by kernel_rfl) S hS h
theorem okSt_blk{w:World}{b:Nat}{cs:Array Value}{t:TypeId}{l:List Value}(h:Blk w b cs t)(hl:l.length≤cs.size)(h1:∀ u∈l,u.oneCell'=true):okSt w b 0 l :=
 (okSt_iff l 0).2 ⟨h1,fun j hj=>⟨⟨cs[0+j]'(by omega),by rw [h.cell]; exact Array.getElem?_eq_getElem (by omega)⟩,h.frozen _⟩⟩
theorem foldl_same{α β:Type}{f g:β→α→β}:∀ (l:List α) (b:β),(∀ b,∀ m∈l,f b m=g b m)→l.foldl f b=l.foldl g b
 | [],_,_=>rfl
 | m::l,b,h=>by
  rw [List.foldl_cons,List.foldl_cons,h b m List.mem_cons_self]
  exact foldl_same l _ fun b m hm=>h b m (List.mem_cons_of_mem _ hm)
def leastF(P:List (List OpT))(obs ids:List Int)(b:Option (List Int))(m:Int × Sp):Option (List Int):=lesser b ((bestS P obs m.2).map ((ids++[m.1])++·))
def leastB(P:List (List OpT))(s:Sp)(ids:List Int)(best:Option (List Int)):Option (List Int):=if endsP P s.done then lesser best (some ids) else best
theorem leastF_all(P:List (List OpT))(obs:List Int)(s:Sp)(ids:List Int)(best:Option (List Int)):(mvsP P obs s).foldl (leastF P obs ids) (leastB P s ids best)=lesser best ((bestS P obs s).map (ids++·)):=by
 rw [← leastD_eq (n:=remP P s.done+1) (Nat.le_succ _),leastD]
 refine foldl_same _ _ fun b m hm=>?_
 rw [leastD_eq (by have:=mvs_rem hm; omega)]
 rfl
def LeastV(w:World)(bv iv:Value)(r:Option (List Int))(w':World)(u:Value):Prop:=∃ bv',u=.agg #[bv',.bool r.isSome]∧RdS w' 1 intE bv' (r.getD [])∧∀ k,slFoot bv' k→slFoot bv k∨slFoot iv k∨w.heap.size≤k
theorem dleast_ok{P:List (List OpT)}{accO:List Seg}{M:Nat}(cx:Ctx P accO M)(huO:accO.Pairwise fun a b=>a.obj<b.obj):∀ (n:Nat) (w:World) (s:Sp) (S:List OVS) (ids:List Int) (best:Option (List Int)) (pv dv lv iv bv:Value) (vs:List Value),
  remP P s.done≤n→PgR w pv P vs→RdS w 1 intE dv (zN s.done)→StL w lv S→StD accO (osP S) s.st→SpOk P accO M s→RdS w 1 intE iv ids→RdS w 1 intE bv (best.getD [])→ids.length+remP P s.done≤900→S.length+remP P s.done≤900 →
  Ret Tryz.prog 15 [pv,dv,lv,iv,.agg #[bv,.bool best.isSome]] w fun u w'=>LeastV w bv iv (lesser best ((bestS P (objsW accO) s).map (ids++·))) w' u∧Below w.heap.size w w':=by
 intro n
 induction n using Nat.strongRecOn with
 | ind n ih =>
 intro w s S ids best pv dv lv iv bv vs hrem hP hd hS hstd hok hi hb hil hSl
 obtain ⟨pa,pc,rfl⟩:=hP.form
 obtain ⟨da,dc,rfl,_⟩:=hd.form
 obtain ⟨la,lc,rfl,_⟩:=hS.top.form
 obtain ⟨ia,ic,rfl,_⟩:=hi.form
 obtain ⟨ba,bc,rfl,_⟩:=hb.form
 have hpl:=cx.pl
 have hdl:s.done.length=P.length:=hok.dl
 refine ent15 _ _ _ _ _ _ _ ?_
 simp (disch:=first|omega|exact zF rfl|exact zG rfl|exact fun h=>h|(simp only[zA,zB,zC,zD,bytesW];omega)) only[go_sem,c15S1,c15S2,c15S4,c15S5,c15S6,c15L0,c15S9]
 have s1:=(St.start (W0:=w)).box #[.slice ba (best.getD []).length bc,.bool best.isSome] 34
 have s2:=s1.box #[.slice none 0 0,.bool false] 34
 rw [World.size_alloc] at s2
 generalize (w.alloc (.cells #[.slice ba (best.getD []).length bc,.bool best.isSome] 34)).alloc (.cells #[.slice none 0 0,.bool false] 34)=w2 at s2 ⊢
 have s2:=s2.perm (List.Perm.swap _ _ _)
 have main:∀ w4 bv0,St w w4 (fun _=>False) [.blk w.heap.size #[bv0,.bool (leastB P s ids best).isSome] 34,.blk (w.heap.size+1) #[.slice none 0 0,.bool false] 34] []→RdS w 1 intE bv0 ((leastB P s ids best).getD [])→(∀ k,slFoot bv0 k→(slFoot (.slice ba (best.getD []).length bc) k∨slFoot (.slice ia ids.length ic) k)) →
   W Tryz.prog (c15S10 ()) [(0,.slice pa P.length pc),(1,.slice da (zN s.done).length dc),(2,.slice la S.length lc),(3,.slice ia ids.length ic),(9,.pointer (some ⟨w.heap.size,0,none⟩)),(10,.pointer (some ⟨w.heap.size+1,0,none⟩))] w4 (finQ Tryz.prog [.cell 10 34] fun u w'=>LeastV w (.slice ba (best.getD []).length bc) (.slice ia ids.length ic) (lesser best ((bestS P (objsW accO) s).map (ids++·))) w' u∧Below w.heap.size w w'):=by
  intro w4 bv0 s4 hb0 hf0
  have s5:=s4.old hb0 (by decide)
  simp (disch:=first|omega|exact zF rfl|exact zG rfl|exact fun h=>h|(simp only[zA,zB,zC,zD,bytesW];omega)) only[go_sem,c15S0,c15S1,c15S2,c15S4,c15S5,c15S6,c15S10]
  refine W_loopU (fun z:Nat × Value × Option (List Int)=>[(11,.int .i64 z.1)]) (fun z w'=>St w w' (fun _=>False) [.blk w.heap.size #[z.2.1,.bool z.2.2.isSome] 34,.blk (w.heap.size+1) #[.slice none 0 0,.bool false] 34] [Inv.rd 1 intE z.2.1 (z.2.2.getD [])]∧z.1≤P.length∧z.2.2=((List.range z.1).filterMap (mvP P (objsW accO) s)).foldl (leastF P (objsW accO) ids) (leastB P s ids best)∧∀ k,slFoot z.2.1 k→slFoot (.slice ba (best.getD []).length bc) k∨slFoot (.slice ia ids.length ic) k∨w.heap.size≤k) (fun z=>P.length - z.1) (0,bv0,leastB P s ids best) rfl ⟨s5,Nat.zero_le _,rfl,fun k hk=>(hf0 k hk).imp id .inl⟩ ?_
  rintro ⟨i,zv,r⟩ w6 ⟨s6,hil6,hr,hzf⟩
  simp only at s6 hil6 hr hzf
  by_cases hlt:i<P.length
  ·have hlt':(i:Int)<P.length:=by omega
   obtain ⟨pp,rfl⟩:=hP.ptr (by omega)
   obtain ⟨dp,rfl⟩:=hd.ptr (by rw [zN_len]; omega)
   obtain ⟨ra,rc,rr⟩:=PgR.atV hP hlt
   have hmk:=mvsK_succ P (objsW accO) s i
   have hle:=hok.le i
   have hpi:=cx.pp i
   have hPi:P.getD i []=P[i]:=by simp [List.getD_eq_getElem?_getD,List.getElem?_eq_getElem hlt]
   rw [hPi] at hle hpi
   have hop:opAt P s.done i=P[i][s.done.getD i 0]?:=by
    unfold opAt
    rw [List.getElem?_eq_getElem hlt,List.getElem?_eq_getElem (by omega)]
    simp [List.getD_eq_getElem?_getD,List.getElem?_eq_getElem (show i<s.done.length by omega)]
   have hPw:∀ w',Below w.heap.size w w'→PgR w' (.slice (some pp) P.length pc) P vs:=fun w' hb=>hP.below hb
   have hdw:∀ w',Below w.heap.size w w'→w'.cell? (dp.add i)=some (.int .i64 (s.done.getD i 0:Nat)):=fun w' hb=>zN_cell (hd.below hb (by decide)) (by omega)
   have hid':(i:Int)<(zN s.done).length:=by rw [zN_len]; omega
   obtain ⟨e1,r1⟩:=rr _ (hPw _ s6.bel.drew)
   have ed:=hdw _ s6.bel.drew
   simp (disch:=first|omega|exact zF rfl|exact zG rfl|exact fun h=>h|(simp only[zA,zB,zC,zD,bytesW];omega)) only[go_sem,c15S0,c15S2,c15S4,c15S5,c15L0,c15S10,c15L0,hlt']
   refine c15draw0 ?_
   by_cases heq:s.done.getD i 0=P[i].length
   ·have heq':((s.done.getD i 0:Nat):Int)=P[i].length:=by omega
    simp (disch:=first|omega|exact zF rfl|exact zG rfl|exact fun h=>h|(simp only[zA,zB,zC,zD,bytesW];omega)) only[go_sem,c15S0,c15S1,c15S2,c15S4,c15S5,c15L0,c15S10,c15D0,hlt',hid',e1,ed,heq']
    have hno:mvP P (objsW accO) s i=none:=by unfold mvP; rw [hop,List.getElem?_eq_none (by omega)]
    exact ⟨by omega,by omega,⟨by omega,by omega⟩,(i+1,zv,r),rfl,⟨s6.drew,by simp only; omega,by simp only; rw [hmk,hno]; simpa using hr,hzf⟩,by simp only; omega⟩
   ·have hlt2:s.done.getD i 0<P[i].length:=by omega
    have heq':¬ ((s.done.getD i 0:Nat):Int)=P[i].length:=by omega
    have hlt2':((s.done.getD i 0:Nat):Int)<P[i].length:=by omega
    simp (disch:=first|omega|exact zF rfl|exact zG rfl|exact fun h=>h|(simp only[zA,zB,zC,zD,bytesW];omega)) only[go_sem,c15S0,c15S1,c15S2,c15S4,c15S6,c15L0,c15S10,c15D0,hlt',hid',e1,ed,heq']
    obtain ⟨rp,rfl⟩:=r1.ptr (by omega)
    have eo:=fun (w':World) (hb:Below w.heap.size w w')=>(rr _ (hPw _ hb)).2.at OpT.len hlt2
    rw [List.getElem?_eq_getElem hlt2] at hop
    have hmem:P[i][s.done.getD i 0]∈P.getD i []:=by rw [hPi]; exact List.getElem_mem hlt2
    generalize P[i][s.done.getD i 0]=o at eo hop hmem
    have s7:=s6.drew.drew
    refine ⟨by omega,by omega,?_⟩
    refine c15draw1 (Chg (fun _=>False) _) (Chg.refl _ _) ?_
    have e7:=(rr _ (hPw _ s7.bel)).1
    have ed7:=hdw _ s7.bel
    have eo7:=eo _ s7.bel
    have lpp:pp.block<w6.heap.size:=(hPw _ s6.bel).top.footLt (by decide) ⟨_,_,_,rfl,by omega,rfl⟩
    have ldp:dp.block<w6.heap.size:=Rd.footLt (hd.below s6.bel (by decide)) (by decide) ⟨_,_,_,rfl,by rw [zN_len]; omega,rfl⟩
    have lrp:rp.block<w6.heap.size:=Rd.footLt (rr _ (hPw _ s6.bel)).2 (by decide) ⟨_,_,_,rfl,by omega,rfl⟩
    simp (disch:=first|omega|exact zF rfl|exact zG rfl|exact fun h=>h|(simp only[zA,zB,zC,zD,bytesW];omega)) only[go_sem,c15S0,c15S1,c15S2,c15S4,c15S6,c15L0,c15S10,c15D1,hlt',hid',hlt2',e7,ed7,eo7]
    have hB8:=(s6.box #[.int .i64 0,.int .i64 0,.int .i64 0,.int .i64 0,.int .i64 0,.int .i64 0,.int .i64 0,.bool false,.int .i64 0,.int .i64 0,.int .i64 0] 52).drew.drew
    have s8:=hB8.fill 0 rfl (cs:=o.enc.toArray) (by simp [OpT.len])
    simp only [List.set_cons_zero] at s8
    refine ⟨by omega,by omega,by omega,?_,by simp [OpT.len],okSt_blk (hB8.blk 0 rfl) (by simp [OpT.len]) o.one,?_⟩
    ·exact Chg.of_below ((Below.refl _ w6.drew.drew).alloc (Nat.le_refl _) _)
    clear hB8
    generalize ((w6.alloc (.cells #[.int .i64 0,.int .i64 0,.int .i64 0,.int .i64 0,.int .i64 0,.int .i64 0,.int .i64 0,.bool false,.int .i64 0,.int .i64 0,.int .i64 0] 52)).drew.drew).fill w6.heap.size o.enc.toArray=w8 at s8 ⊢
    generalize w6.heap.size=c12 at s8 ⊢
    have r8:=s8.rules 0 rfl
    have ao:=o.at
    simp (disch:=first|omega|exact zF rfl|exact zG rfl|exact fun h=>h|(simp only[zA,zB,zC,zD,bytesW];omega)) only[go_sem,c15S0,c15S1,c15S2,c15S5,c15S6,c15L0,c15S10,r8]
    obtain ⟨hx,hxk⟩:=cx.pr.ob i o hmem
    have hfd:=std_find hstd hx hxk
    obtain ⟨q1,q2,q3⟩:=hok.ok _ hx
    have hM:=cx.m
    refine Ret.mono (dstep_ok _ S o w8 (hS.below s8.bel) (by omega) (by rw [hfd]; omega) (fun e=>by rw [hfd]; exact q3 (hxk.trans e))) ?_
    rintro _ w9 ⟨⟨lv',okk,rfl,hm⟩,b9⟩
    rw [hfd] at hm
    have s9:=s8.call b9
    have hmv:mvP P (objsW accO) s i=match stepP (s.st.getD ((objsW accO).idxOf o.Object) []) o with
      | none=>none
      | some t=>some (o.ID,⟨s.done.set i (s.done.getD i 0+1),s.st.set ((objsW accO).idxOf o.Object) t⟩):=by
     unfold mvP
     rw [hop]
     rfl
    cases hst2:stepP (s.st.getD ((objsW accO).idxOf o.Object) []) o with
    | none =>
     rw [hst2] at hm hmv
     have hm:okk=false:=hm
     subst hm
     simp (disch:=first|omega|exact zF rfl|exact zG rfl|exact fun h=>h|(simp only[zA,zB,zC,zD,bytesW];omega)) only[go_sem,c15S0,c15S1,c15S2,c15S4,c15S5,c15S6,c15L0,c15S10]
     exact ⟨⟨by omega,by omega⟩,(i+1,zv,r),rfl,⟨s9.sub (List.sublist_cons_self _ _),by simp only; omega,by simp only; rw [hmk,hmv]; simpa using hr,hzf⟩,by simp only; omega⟩
    | some t =>
     rw [hst2] at hm hmv
     obtain ⟨rfl,S',hS',eS',lS',fS'⟩:=hm
     obtain ⟨la',lc',rfl,_⟩:=hS'.top.form
     have hok':=mv_ok cx.pr hok hmv
     have hstd':=hstd.put hok.sl huO hx t
     rw [← eS'] at hstd'
     have hrm:=mvP_rem hmv
     simp only at hok' hrm
     simp (disch:=first|omega|exact zF rfl|exact zG rfl|exact fun h=>h|(simp only[zA,zB,zC,zD,bytesW];omega)) only[go_sem,c15S0,c15S1,c15S4,c15S5,c15S6,c15L0,c15S10]
     refine bsW_none ty25mkI ?_
     simp (disch:=first|omega|exact zF rfl|exact zG rfl|exact fun h=>h|(simp only[zA,zB,zC,zD,bytesW];omega)) only[go_sem,c15S0,c15S1,c15S4,c15S5,c15S6,c15L0,c15S10]
     have u1:=(St.start (W0:=w9)).emptyRow 3 1
     refine u1.append 0 rfl ty25mkI rfl (by decide) (hd.below (s9.bel.trans (u1.bel.mono s9.size)) (by decide)) (by intro u hu; obtain ⟨x,_,hx⟩:=List.mem_flatMap.1 hu; simp only [intE,List.mem_singleton] at hx; subst hx; rfl) (by rw [zN_len]; omega) (by rw [zN_len]; omega) ?_
     intro v11 w11 u11 _
     simp only [List.set_cons_zero,List.nil_append,Nat.zero_add] at u11
     obtain ⟨ma,mc,rfl,_⟩:=own_slice (u11.row 0 rfl)
     obtain ⟨mg,rfl⟩:=own_ptr (u11.row 0 rfl) (by rw [zN_len]; omega)
     have cd:=(own_cell (u11.row 0 rfl)).1 i _ (zN_flat (d:=s.done) (k:=i) (by omega))
     have fd:=(own_cell (u11.row 0 rfl)).2 i
     have u12:=u11.put 0 rfl i (.int .i64 ((s.done.getD i 0:Nat)+1))
     simp only [List.set_cons_zero] at u12
     rw [zN_flat_set] at u12
     simp (disch:=first|omega|exact zF rfl|exact zG rfl|exact fun h=>h|(simp only[zA,zB,zC,zD,bytesW];omega)) only[go_sem,c15S0,c15S1,c15S2,c15S4,c15S5,c15S6,c15L0,c15S10,cd,fd,hid']
     have hdk:s.done.getD i 0≤200:=by omega
     refine ⟨by omega,⟨by omega,by omega⟩,by omega,?_⟩
     generalize w11.setCell ⟨mg,i,none⟩ (.int .i64 ((s.done.getD i 0:Nat)+1))=w12 at u12 ⊢
     have s12:=s9.call u12.bel
     have hS12:=hS'.below u12.bel
     have hmore:RdS w12 1 intE (.slice (some ⟨mg,0,none⟩) (zN s.done).length mc) (zN (s.done.set i (s.done.getD i 0+1))):=RdS.of_own' (u12.row 0 rfl) _ (by rw [zN_len,zN_len,List.length_set]) rfl
     clear u12 u11 u1 cd fd s9 s8 r8 b9 hS' fS'
     have hm1:mvP P (objsW accO) s i=some (o.ID,⟨s.done.set i (s.done.getD i 0+1),s.st.set ((objsW accO).idxOf o.Object) t⟩):=hmv
     generalize hsp:(⟨s.done.set i (s.done.getD i 0+1),s.st.set ((objsW accO).idxOf o.Object) t⟩:Sp)=s' at hm1
     have hsd:s'.done=s.done.set i (s.done.getD i 0+1):=by rw [← hsp]
     have hss:s'.st=s.st.set ((objsW accO).idxOf o.Object) t:=by rw [← hsp]
     rw [← hsd] at hmore hrm
     rw [← hss] at hstd'
     have hok2:SpOk P accO M s':=by rw [← hsp]; exact hok'
     have hr2:leastF P (objsW accO) ids r (o.ID,s')=((List.range (i+1)).filterMap (mvP P (objsW accO) s)).foldl (leastF P (objsW accO) ids) (leastB P s ids best):=by
      rw [hmk,hm1,List.foldl_append,← hr]; rfl
     obtain ⟨za,zc,rfl,_⟩:=(show RdS w12 1 intE zv (r.getD []) from s12.get 0 rfl).form
     have call:∀ wz iv2,Below w12.heap.size w12 wz→RdS wz 1 intE iv2 (ids++[o.ID])→(∀ k,slFoot iv2 k→w12.heap.size≤k) →
       Ret Tryz.prog 15 [.slice (some pp) P.length pc,.slice (some ⟨mg,0,none⟩) (zN s.done).length mc,.slice la' S'.length lc',iv2,.agg #[.slice za (r.getD []).length zc,.bool r.isSome]] wz fun u w' =>
        (∃ ba2 bn bc2,u=.agg #[.slice ba2 bn bc2,.bool (leastF P (objsW accO) ids r (o.ID,s')).isSome]∧(∃ zz,Blk w' w.heap.size zz 34∧zz.size=2)∧St w (w'.fill w.heap.size #[.slice ba2 bn bc2,.bool (leastF P (objsW accO) ids r (o.ID,s')).isSome]) (fun _=>False) [.blk w.heap.size #[.slice ba2 bn bc2,.bool (leastF P (objsW accO) ids r (o.ID,s')).isSome] 34,.blk (w.heap.size+1) #[.slice none 0 0,.bool false] 34] [Inv.rd 1 intE (.slice ba2 bn bc2) ((leastF P (objsW accO) ids r (o.ID,s')).getD [])] ∧
         ∀ k,slFoot (.slice ba2 bn bc2) k→slFoot (.slice ba (best.getD []).length bc) k∨slFoot (.slice ia ids.length ic) k∨w.heap.size≤k)∧Below wz.heap.size wz w':=by
      intro wz iv2 bz hi2 fi2
      have sz:=St.addI s12 bz (Inv.rd 1 intE iv2 (ids++[o.ID])) hi2 (fun k hk=>hi2.footLt (by decide) hk) fun k hk=>.inr (fi2 k hk)
      refine Ret.mono (ih (n - 1) (by omega) wz s' S' (ids++[o.ID]) r _ _ _ _ _ vs (by omega) (hPw _ sz.bel) (hmore.below bz (by decide)) (hS12.below bz) hstd' hok2 hi2 (sz.get 1 rfl) (by simp only [List.length_append,List.length_singleton]; omega) (by omega)) ?_
      rintro u w' ⟨⟨bv',rfl,hb',fb'⟩,b'⟩
      have eF:lesser r ((bestS P (objsW accO) s').map ((ids++[o.ID])++·))=leastF P (objsW accO) ids r (o.ID,s'):=rfl
      rw [eF] at hb' ⊢
      generalize leastF P (objsW accO) ids r (o.ID,s')=r2 at hb' ⊢
      obtain ⟨ba2,bc2,rfl,_⟩:=hb'.form
      have s1':=St.addI sz b' (Inv.rd 1 intE (.slice ba2 (r2.getD []).length bc2) (r2.getD [])) hb' (fun k hk=>hb'.footLt (by decide) hk) fun k hk=>by
       rcases fb' k hk with h | h | h
       ·exact .inl ⟨Inv.rd 1 intE (.slice za (r.getD []).length zc) (r.getD []),by simp,h⟩
       ·exact .inl ⟨Inv.rd 1 intE iv2 (ids++[o.ID]),by simp,h⟩
       ·exact .inr h
      have s2':=(s1'.fill 1 rfl (cs:=#[.slice ba2 (r2.getD []).length bc2,.bool r2.isSome]) rfl).sub (List.sublist_cons_self _ _)
      refine ⟨⟨ba2,_,bc2,rfl,⟨_,s1'.blk 1 rfl,rfl⟩,s2'.inv_sub fun a ha=>by rw [List.mem_singleton] at ha; subst ha; exact List.mem_cons_self,fun k hk=>?_⟩,b'⟩
      rcases fb' k hk with h | h | h
      ·exact hzf k h
      ·exact .inr (.inr (Nat.le_trans s12.size (fi2 k h)))
      ·exact .inr (.inr (Nat.le_trans sz.size h))
     refine lDraw2 (Chg (fun _=>False) _) (Chg.refl _ _) ?_
     have s13:=s12.drew
     have r13:=s13.rules 0 rfl
     have q13:=s13.rules 1 rfl
     have l13:=s13.low 0 rfl
     have l14:=s13.low 1 rfl
     have hi13:=hi.below s13.bel (by decide)
     have b13:Below w12.heap.size w12 w12.drew:=(Below.refl _ _).drew
     generalize w12.drew=w13 at s13 r13 q13 l13 l14 hi13 b13 ⊢
     simp (disch:=first|omega|exact zF rfl|exact zG rfl|exact fun h=>h|(simp only[zA,zB,zC,zD,bytesW];omega)) only[go_sem,c15S0,c15S1,c15S2,c15S4,c15S5,c15S6,c15L0,c15S9,c15S10,lD2,r13,q13,ao]
     have chg:∀ {w':World},Below w13.heap.size w13 w'→Chg (fun _=>False) w13 w':=fun hb=>Chg.of_below hb
     have ones:∀ u∈ids.flatMap intE,u.oneCell'=true:=by intro u hu; obtain ⟨x,_,hx⟩:=List.mem_flatMap.1 hu; simp only [intE,List.mem_singleton] at hx; subst hx; rfl
     have fin:∀ {w5:World} {v5:Value} {L5:List Res},St w13 w5 (fun _=>False) (.row v5 3 1 (ids.length+1) (ids.flatMap intE++[.int .i64 o.ID])::L5) []→Below w12.heap.size w12 w5∧RdS w5 1 intE v5 (ids++[o.ID])∧∀ k,slFoot v5 k→w12.heap.size≤k:=fun {w5 v5 L5} u=>⟨b13.trans (u.bel.mono b13.size),RdS.of_own' (u.row 0 rfl) _ (by simp) (by rw [List.flatMap_append]; rfl),fun k hk=>Nat.le_trans b13.size (World.ownsRow.lt (u.row 0 rfl) k (slFoot_own hk)).1⟩
     refine ⟨?_,?_⟩
     ·refine bsW_none ty25mkI ?_
      have u1:=(St.start (W0:=w13)).emptyRow 3 1
      simp (disch:=first|omega|exact zF rfl|exact zG rfl|exact fun h=>h|(simp only[zA,zB,zC,zD,bytesW];omega)) only[go_sem,c15S0,c15S1,c15S2,c15S4,c15S5,c15S6,c15L0,c15S9,c15S10]
      refine ⟨chg u1.bel,?_,?_⟩
      ·refine u1.append 0 rfl ty25mkI rfl (by decide) (hi13.below u1.bel (by decide)) ones (by omega) (by omega) ?_
       intro v2 w2a u2 _
       simp only [List.set_cons_zero,List.nil_append,Nat.zero_add] at u2
       obtain ⟨a2,c2,rfl,_⟩:=own_slice (u2.row 0 rfl)
       simp (disch:=first|omega|exact zF rfl|exact zG rfl|exact fun h=>h|(simp only[zA,zB,zC,zD,bytesW];omega)) only[go_sem,c15S0,c15S1,c15S2,c15S4,c15S5,c15S6,c15L0,c15S9,c15S10]
       refine ⟨chg u2.bel,bsW_ones ty25mkI rfl rfl (by decide) (by decide) (intE_one _) ?_⟩
       have u3:=u2.alloc' (.cells #[.int .i64 o.ID] 3)
       have hx1:Rd (w2a.alloc (.cells #[.int .i64 o.ID] 3)) 1 (.slice (some ⟨w2a.heap.size,0,none⟩) 1 1) 1 [.int .i64 o.ID]:=rd_new (n:=1) (cs:=#[.int .i64 o.ID]) rfl
       simp (disch:=first|omega|exact zF rfl|exact zG rfl|exact fun h=>h|(simp only[zA,zB,zC,zD,bytesW];omega)) only[go_sem,c15S0,c15S1,c15S2,c15S4,c15S5,c15S6,c15L0,c15S9,c15S10]
       refine ⟨chg u3.bel,u3.append 0 rfl ty25mkI rfl (by decide) hx1 (intE_one _) (by omega) (by omega) ?_⟩
       intro v4 w4a u4 _
       simp only [List.set_cons_zero] at u4
       obtain ⟨f1,f2,f3⟩:=fin u4
       simp (disch:=first|omega|exact zF rfl|exact zG rfl|exact fun h=>h|(simp only[zA,zB,zC,zD,bytesW];omega)) only[go_sem,c15S0,c15S1,c15S2,c15S4,c15S5,c15S6,c15L0,c15S9,c15S10]
       refine ⟨chg u4.bel,Ret.mono (call _ _ f1 f2 f3) ?_⟩
       rintro _ w5 ⟨⟨ba2,bn,bc2,rfl,⟨zz,hz,hzs⟩,s5,hf5⟩,b5⟩
       have rz:=hz.rules
       simp (disch:=first|omega|exact zF rfl|exact zG rfl|exact fun h=>h|(simp only[zA,zB,zC,zD,bytesW];omega)) only[go_sem,c15S0,c15S1,c15S2,c15S4,c15S5,c15S6,c15L0,c15S9,c15S10]
       exact ⟨chg (u4.call b5).bel,⟨⟨_,(rz.1 0).trans (Array.getElem?_eq_getElem (by omega))⟩,rz.2.1 0,⟨_,(rz.1 1).trans (Array.getElem?_eq_getElem (by omega))⟩,rz.2.1 1⟩,⟨by omega,by omega⟩,(i+1,.slice ba2 bn bc2,leastF P (objsW accO) ids r (o.ID,s')),rfl,⟨s5,by simp only; omega,hr2,hf5⟩,by simp only; omega⟩
      ·refine bsW_ones ty25mkI rfl rfl (by decide) (by decide) (intE_one _) ?_
       have u2:=u1.alloc' (.cells #[.int .i64 o.ID] 3)
       have hx1:RdS ((w13.alloc (.cells #[] 3)).alloc (.cells #[.int .i64 o.ID] 3)) 1 intE (.slice (some ⟨(w13.alloc (.cells #[] 3)).heap.size,0,none⟩) 1 1) [o.ID]:=rd_new (n:=1) (cs:=#[.int .i64 o.ID]) rfl
       simp (disch:=first|omega|exact zF rfl|exact zG rfl|exact fun h=>h|(simp only[zA,zB,zC,zD,bytesW];omega)) only[go_sem,c15S0,c15S1,c15S2,c15S4,c15S5,c15S6,c15L0,c15S9,c15S10]
       refine ⟨chg u2.bel,u2.append 0 rfl ty25mkI rfl (by decide) (hi13.below u2.bel (by decide)) ones (by omega) (by omega) ?_⟩
       intro v3 w3a u3 c3
       simp only [List.set_cons_zero,List.nil_append,Nat.zero_add] at u3
       obtain ⟨a3,c3',rfl,_⟩:=own_slice (u3.row 0 rfl)
       have hx2:RdS w3a 1 intE (.slice (some ⟨(w13.alloc (.cells #[] 3)).heap.size,0,none⟩) 1 1) [o.ID]:=hx1.loc fun k hk=>by
        obtain ⟨q,_,_,e,_,rfl⟩:=hk
        cases e
        refine c3.block _ (by simp only [World.size_alloc]; omega) ?_
        simp [Value.ownBlock]
       rw [World.size_alloc] at hx2
       simp (disch:=first|omega|exact zF rfl|exact zG rfl|exact fun h=>h|(simp only[zA,zB,zC,zD,bytesW];omega)) only[go_sem,c15S0,c15S1,c15S2,c15S4,c15S5,c15S6,c15L0,c15S9,c15S10]
       refine ⟨chg u3.bel,u3.append 0 rfl ty25mkI rfl (by decide) (show Rd w3a 1 (.slice (some ⟨w13.heap.size+1,0,none⟩) 1 1) 1 [.int .i64 o.ID] from hx2) (intE_one _) (by omega) (by omega) ?_⟩
       intro v4 w4a u4 _
       simp only [List.set_cons_zero] at u4
       obtain ⟨f1,f2,f3⟩:=fin u4
       simp (disch:=first|omega|exact zF rfl|exact zG rfl|exact fun h=>h|(simp only[zA,zB,zC,zD,bytesW];omega)) only[go_sem,c15S0,c15S1,c15S2,c15S4,c15S5,c15S6,c15L0,c15S9,c15S10]
       refine ⟨chg u4.bel,Ret.mono (call _ _ f1 f2 f3) ?_⟩
       rintro _ w5 ⟨⟨ba2,bn,bc2,rfl,⟨zz,hz,hzs⟩,s5,hf5⟩,b5⟩
       have rz:=hz.rules
       simp (disch:=first|omega|exact zF rfl|exact zG rfl|exact fun h=>h|(simp only[zA,zB,zC,zD,bytesW];omega)) only[go_sem,c15S0,c15S1,c15S2,c15S4,c15S5,c15S6,c15L0,c15S9,c15S10]
       exact ⟨chg (u4.call b5).bel,⟨⟨_,(rz.1 0).trans (Array.getElem?_eq_getElem (by omega))⟩,rz.2.1 0,⟨_,(rz.1 1).trans (Array.getElem?_eq_getElem (by omega))⟩,rz.2.1 1⟩,⟨by omega,by omega⟩,(i+1,.slice ba2 bn bc2,leastF P (objsW accO) ids r (o.ID,s')),rfl,⟨s5,by simp only; omega,hr2,hf5⟩,by simp only; omega⟩
     ·refine bsW_ones ty25mkI rfl rfl (by decide) (by decide) (intE_one _) ?_
      have u1:=(St.start (W0:=w13)).alloc' (.cells #[.int .i64 o.ID] 3)
      have hx1:RdS (w13.alloc (.cells #[.int .i64 o.ID] 3)) 1 intE (.slice (some ⟨w13.heap.size,0,none⟩) 1 1) [o.ID]:=rd_new (n:=1) (cs:=#[.int .i64 o.ID]) rfl
      simp (disch:=first|omega|exact zF rfl|exact zG rfl|exact fun h=>h|(simp only[zA,zB,zC,zD,bytesW];omega)) only[go_sem,c15S0,c15S1,c15S2,c15S4,c15S5,c15S6,c15L0,c15S9,c15S10]
      refine ⟨chg u1.bel,bsW_none ty25mkI ?_⟩
      have u2:=u1.emptyRow 3 1
      have hx2:=hx1.below ((Below.refl _ _).alloc (Nat.le_refl _) (.cells #[] 3)) (by decide)
      rw [World.size_alloc] at u2
      simp (disch:=first|omega|exact zF rfl|exact zG rfl|exact fun h=>h|(simp only[zA,zB,zC,zD,bytesW];omega)) only[go_sem,c15S0,c15S1,c15S2,c15S4,c15S5,c15S6,c15L0,c15S9,c15S10]
      refine ⟨chg u2.bel,u2.append 0 rfl ty25mkI rfl (by decide) (hi13.below u2.bel (by decide)) ones (by omega) (by omega) ?_⟩
      intro v3 w3a u3 c3
      simp only [List.set_cons_zero,List.nil_append,Nat.zero_add] at u3
      obtain ⟨a3,c3',rfl,_⟩:=own_slice (u3.row 0 rfl)
      have hx3:RdS w3a 1 intE (.slice (some ⟨w13.heap.size,0,none⟩) 1 1) [o.ID]:=hx2.loc fun k hk=>by
       obtain ⟨q,_,_,e,_,rfl⟩:=hk
       cases e
       refine c3.block _ (by simp only [World.size_alloc]; omega) ?_
       simp [Value.ownBlock]
      simp (disch:=first|omega|exact zF rfl|exact zG rfl|exact fun h=>h|(simp only[zA,zB,zC,zD,bytesW];omega)) only[go_sem,c15S0,c15S1,c15S2,c15S4,c15S5,c15S6,c15L0,c15S9,c15S10]
      refine ⟨chg u3.bel,u3.append 0 rfl ty25mkI rfl (by decide) (show Rd w3a 1 (.slice (some ⟨w13.heap.size,0,none⟩) 1 1) 1 [.int .i64 o.ID] from hx3) (intE_one _) (by omega) (by omega) ?_⟩
      intro v4 w4a u4 _
      simp only [List.set_cons_zero] at u4
      obtain ⟨f1,f2,f3⟩:=fin u4
      simp (disch:=first|omega|exact zF rfl|exact zG rfl|exact fun h=>h|(simp only[zA,zB,zC,zD,bytesW];omega)) only[go_sem,c15S0,c15S1,c15S2,c15S4,c15S5,c15S6,c15L0,c15S9,c15S10]
      refine ⟨chg u4.bel,Ret.mono (call _ _ f1 f2 f3) ?_⟩
      rintro _ w5 ⟨⟨ba2,bn,bc2,rfl,⟨zz,hz,hzs⟩,s5,hf5⟩,b5⟩
      have rz:=hz.rules
      simp (disch:=first|omega|exact zF rfl|exact zG rfl|exact fun h=>h|(simp only[zA,zB,zC,zD,bytesW];omega)) only[go_sem,c15S0,c15S1,c15S2,c15S4,c15S5,c15S6,c15L0,c15S9,c15S10]
      exact ⟨chg (u4.call b5).bel,⟨⟨_,(rz.1 0).trans (Array.getElem?_eq_getElem (by omega))⟩,rz.2.1 0,⟨_,(rz.1 1).trans (Array.getElem?_eq_getElem (by omega))⟩,rz.2.1 1⟩,⟨by omega,by omega⟩,(i+1,.slice ba2 bn bc2,leastF P (objsW accO) ids r (o.ID,s')),rfl,⟨s5,by simp only; omega,hr2,hf5⟩,by simp only; omega⟩
  ·have hlt':¬ (i:Int)<P.length:=by omega
   obtain rfl:i=P.length:=by omega
   have r6:=s6.rules 0 rfl
   have q6:=s6.rules 1 rfl
   have hz:=s6.get 0 rfl
   obtain ⟨za,zc,rfl,_⟩:=(show RdS w6 1 intE zv (r.getD []) from hz).form
   simp (disch:=first|omega|exact zF rfl|exact zG rfl|exact fun h=>h|(simp only[zA,zB,zC,zD,bytesW];omega)) only[go_sem,c15S0,c15S1,c15S2,c15S4,c15S5,c15S6,c15L0,c15S9,c15S10,c15L0,hlt',r6,q6]
   have s7:=s6.fill 1 rfl (cs:=#[.slice za (r.getD []).length zc,.bool r.isSome]) rfl
   have er:r=lesser best ((bestS P (objsW accO) s).map (ids++·)):=by rw [hr]; exact leastF_all _ _ _ _ _
   rw [← er]
   exact ⟨⟨_,rfl,s7.get 0 rfl,hzf⟩,s7.bel⟩
 refine Ret.mono (dover_ok (hP.below s2.bel) (hd.below s2.bel (by decide)) hdl (by omega) (fun k=>Nat.le_trans (cx.pp k) (by decide)) hok.le) ?_
 rintro _ w3 ⟨rfl,b3⟩
 have s3:=s2.call b3
 have r3:=s3.rules 0 rfl
 cases he:endsP P s.done with
 | false =>
  simp (disch:=first|omega|exact zF rfl|exact zG rfl|exact fun h=>h|(simp only[zA,zB,zC,zD,bytesW];omega)) only[go_sem,c15S0,c15S1,c15S2,c15S4,c15S5,c15S6,c15L0,c15S9]
  have e0:leastB P s ids best=best:=by unfold leastB; rw [he]; rfl
  rw [← e0] at s3
  clear ih hrem
  rw [e0] at main
  rw [e0] at s3
  exact main _ _ s3 hb fun k hk=>.inl hk
 | true =>
  have e0:leastB P s ids best=lesser best (some ids):=by unfold leastB; rw [he]; rfl
  cases best with
  | none =>
   have e0:leastB P s ids none=some ids:=e0
   have hn:((none:Option (List Int)).isSome)=false:=rfl
   simp (disch:=first|omega|exact zF rfl|exact zG rfl|exact fun h=>h|(simp only[zA,zB,zC,zD,bytesW];omega)) only[go_sem,c15S0,c15S1,c15S2,c15S4,c15S5,c15S6,c15L0,c15S9,r3,hn]
   refine bdW_built (cells:=#[.slice ia ids.length ic,.bool true]) (by kernel_rfl) ?_
   simp (disch:=first|omega|exact zF rfl|exact zG rfl|exact fun h=>h|(simp only[zA,zB,zC,zD,bytesW];omega)) only[go_sem,c15S0,c15S1,c15S2,c15S4,c15S5,c15S6,c15L0,c15S9,r3]
   have s4:=s3.fill 0 rfl (cs:=#[.slice ia ids.length ic,.bool true]) rfl
   clear ih hrem
   rw [e0] at main
   exact main _ _ s4 hi fun k hk=>.inr hk
  | some b =>
   have hn:((some b:Option (List Int)).isSome)=true:=rfl
   simp (disch:=first|omega|exact zF rfl|exact zG rfl|exact fun h=>h|(simp only[zA,zB,zC,zD,bytesW];omega)) only[go_sem,c15S1,c15S2,c15S4,c15S5,c15S6,c15L0,c15S9,r3,hn]
   refine Ret.mono (rless_ok _ _ ids b w3 (hi.below s3.bel (by decide)) (hb.below s3.bel (by decide)) (by omega)) ?_
   rintro _ w4 ⟨rfl,b4⟩
   have s4:=s3.call b4
   have r4:=s4.rules 0 rfl
   cases hl:lessP ids b with
   | true =>
    simp (disch:=first|omega|exact zF rfl|exact zG rfl|exact fun h=>h|(simp only[zA,zB,zC,zD,bytesW];omega)) only[go_sem,c15S0,c15S1,c15S2,c15S4,c15S5,c15S6,c15L0,c15S9]
    refine bdW_built (cells:=#[.slice ia ids.length ic,.bool true]) (by kernel_rfl) ?_
    simp (disch:=first|omega|exact zF rfl|exact zG rfl|exact fun h=>h|(simp only[zA,zB,zC,zD,bytesW];omega)) only[go_sem,c15S0,c15S1,c15S2,c15S4,c15S5,c15S6,c15L0,c15S9,r4]
    have s5:=s4.fill 0 rfl (cs:=#[.slice ia ids.length ic,.bool true]) rfl
    have e1:leastB P s ids (some b)=some ids:=by rw [e0,lesser,if_pos hl]
    clear ih hrem
    rw [e1] at main
    exact main _ _ s5 hi fun k hk=>.inr hk
   | false =>
    simp (disch:=first|omega|exact zF rfl|exact zG rfl|exact fun h=>h|(simp only[zA,zB,zC,zD,bytesW];omega)) only[go_sem,c15S0,c15S1,c15S2,c15S4,c15S5,c15S6,c15L0,c15S9]
    have e1:leastB P s ids (some b)=some b:=by rw [e0,lesser,if_neg (by rw [hl]; decide)]
    clear ih hrem
    rw [e1] at main
    exact main _ _ s4 hb fun k hk=>.inl hk
open Go Go.Ann Go.RowKit Go.WideShapes
theorem checked_ok(v:Value)(l:List OpT)(w:World)(h:RdS w 11 OpT.enc v l)(hl:(l.length:Int)≤9223372036854775807) :
  Ret Tryz.prog 12 [v] w fun u w'=>u=.int .i64 (firstChk l)∧Below w.heap.size w w':=by
 obtain ⟨a,c,rfl,_⟩:=h.form
 refine ent12 _ _ _ ?_
 simp (disch:=first|omega|exact zF rfl|exact zG rfl|exact fun h=>h|(simp only[zA,zB,zC,zD,bytesW];omega)) only[go_sem,c12S0,c12S1]
 refine W_loopU (fun k:Nat=>[(3,.int .i64 k)]) (fun k w'=>Below w.heap.size w w'∧k≤l.length∧∀ o∈l.take k,chkP o=0) (fun k=>l.length - k) 0 rfl ⟨Below.refl _ _,Nat.zero_le _,fun o ho=>by simp at ho⟩ ?_
 rintro k w1 ⟨b1,hkl,hc⟩
 by_cases hlt:k<l.length
 ·have hlt':(k:Int)<l.length:=by omega
  obtain ⟨q,rfl⟩:=h.ptr (by omega)
  have ck:=cellsO_below b1 (h.at OpT.len hlt)
  simp (disch:=first|omega|exact zF rfl|exact zG rfl|exact fun h=>h|(simp only[zA,zB,zC,zD,bytesW];omega)) only[go_sem,c12S0,c12L0,c12L0,hlt',ck]
  refine ⟨by omega,Ret.mono (checkOp_x _ _) ?_⟩
  rintro _ w2 ⟨rfl,b2⟩
  rw [← chk_eq]
  have b12:=Below.next b1 b2
  have ck2:=cellsO_below b12 (h.at OpT.len hlt)
  by_cases h0:chkP l[k]=0
  ·simp (disch:=first|omega|exact zF rfl|exact zG rfl|exact fun h=>h|(simp only[zA,zB,zC,zD,bytesW];omega)) only[go_sem,c12S1,c12L0,h0]
   refine ⟨⟨by omega,by omega⟩,k+1,rfl,⟨b12,by omega,fun o ho=>?_⟩,by omega⟩
   rw [List.take_succ_eq_append_getElem hlt] at ho
   rcases List.mem_append.1 ho with ho | ho
   ·exact hc o ho
   ·rw [List.mem_singleton] at ho
    subst ho
    exact h0
  ·simp (disch:=first|omega|exact zF rfl|exact zG rfl|exact fun h=>h|(simp only[zA,zB,zC,zD,bytesW];omega)) only[go_sem,c12S0,c12S1,c12L0,c12S4,h0,hlt',ck2]
   refine ⟨by omega,Ret.mono (checkOp_x _ _) ?_⟩
   rintro _ w3 ⟨rfl,b3⟩
   rw [← chk_eq]
   simp (disch:=first|omega|exact zF rfl|exact zG rfl|exact fun h=>h|(simp only[zA,zB,zC,zD,bytesW];omega)) only[go_sem,c12S0,c12S1,c12L0,c12S4]
   exact ⟨by rw [firstChk_take hlt hc h0],Below.next b12 b3⟩
 ·have hlt':¬ (k:Int)<l.length:=by omega
  obtain rfl:k=l.length:=by omega
  rw [List.take_length] at hc
  simp (disch:=first|omega|exact zF rfl|exact zG rfl|exact fun h=>h|(simp only[zA,zB,zC,zD,bytesW];omega)) only[go_sem,c12S0,c12S1,c12L0,c12S4,c12L0,hlt']
  exact ⟨by rw [firstChk_all hc],b1⟩
theorem seq_count{P:List (List OpT)}{obs:List Int}{s:Sp}{b M e n:Int}{x:Option (List Int)}{r:List Sp}(h:SeqR P obs s (min b 32768) e n x)(k:BfsR P obs M [s] 0 r)(hr:r.length≤1957)(h1:b<0→M=0)(h2:0≤b→M=min b 32768) :
  (b<(r.length:Int)→e=35∧n=0∧x=none)∧(¬ b<(r.length:Int)→e=0∧n=r.length∧x=bestS P obs s):=by
 refine ⟨fun hb=>?_,fun hb=>?_⟩
 ·cases h with
  | over=>exact ⟨rfl,rfl,rfl⟩
  | all h' hr' =>
   by_cases h0:b<0
   ·omega
   ·rw [h2 (by omega)] at k
    cases h'.one k
    omega
 ·have h0:0≤b:=by omega
  rw [h2 h0] at k
  cases h with
  | over h' hr'=>cases h'.one k; omega
  | all h' hr'=>cases h'.one k; exact ⟨rfl,rfl,rfl⟩
theorem weakSequential_ok(v:Value)(l:List OpT)(b:Int)(w:World)(h:RdS w 11 OpT.enc v l)(hl:(l.length:Int)≤9223372036854775807)(hw:∀ o∈l,o.wf) :
  Ret Tryz.prog 3 [v,.int .i64 b] w fun u w'=>u=.bool true∧Below w.heap.size w w':=by
 obtain ⟨a,c,rfl,_⟩:=h.form
 refine ent3 _ _ _ _ ?_
 have out:∀ {w':World},Below w.heap.size w w'→Ret Tryz.prog 10 [] w' fun u w''=>u=.bool true∧Below w.heap.size w w'':=fun b=>by
  refine Ret.mono (awake_ok _) ?_
  rintro _ w2 ⟨rfl,b2⟩
  exact ⟨rfl,Below.next b b2⟩
 by_cases h6:(6<l.length∧l.length≤64)
 ·obtain ⟨h6a,h6b⟩:=h6
  have g1:(6:Int)<l.length:=by omega
  have g2:(l.length:Int)≤64:=by omega
  simp (disch:=first|omega|exact zF rfl|exact zG rfl|exact fun h=>h|(simp only[zA,zB,zC,zD,bytesW];omega)) only[go_sem,c3S1,c3S4,c3S6,c3S8,c3S9,c3S10,c3S11,c3S13,c3S15,c3S16,g1,g2]
  refine Ret.mono (out (Below.refl _ _)) ?_
  rintro _ w2 ⟨rfl,b2⟩
  simp (disch:=first|omega|exact zF rfl|exact zG rfl|exact fun h=>h|(simp only[zA,zB,zC,zD,bytesW];omega)) only[go_sem,c3S1,c3S4,c3S6,c3S8,c3S9,c3S10,c3S11,c3S13,c3S15,c3S16]
  exact b2
 have gA:¬ ((6:Int)<l.length∧(l.length:Int)≤64):=by omega
 by_cases h64:64<l.length
 ·have g1:(6:Int)<l.length:=by omega
  have g2:¬ (l.length:Int)≤64:=by omega
  have g3:(64:Int)<l.length:=by omega
  simp (disch:=first|omega|exact zF rfl|exact zG rfl|exact fun h=>h|(simp only[zA,zB,zC,zD,bytesW];omega)) only[go_sem,c3S4,c3S6,c3S8,c3S9,c3S10,c3S11,c3S13,c3S15,g1,g2]
  refine Ret.mono (alike_ok _ l w h hl) ?_
  rintro _ w1 ⟨⟨bb,rfl,hb⟩,b1⟩
  cases bb with
  | false =>
   simp (disch:=first|omega|exact zF rfl|exact zG rfl|exact fun h=>h|(simp only[zA,zB,zC,zD,bytesW];omega)) only[go_sem,c3S1,c3S4,c3S6,c3S8,c3S9,c3S10,c3S11,c3S13,c3S15,c3S16]
   refine Ret.mono (out b1) ?_
   rintro _ w2 ⟨rfl,b2⟩
   simp (disch:=first|omega|exact zF rfl|exact zG rfl|exact fun h=>h|(simp only[zA,zB,zC,zD,bytesW];omega)) only[go_sem,c3S1,c3S4,c3S6,c3S8,c3S9,c3S10,c3S11,c3S13,c3S15,c3S16]
   exact b2
  | true =>
   have hal:=hb rfl
   have hn:=alikeP_nodup hal
   have hk:=alikeP_kind hal
   obtain ⟨accO,hO⟩:=byObj_some l
   simp (disch:=first|omega|exact zF rfl|exact zG rfl|exact fun h=>h|(simp only[zA,zB,zC,zD,bytesW];omega)) only[go_sem,c3S1,c3S4,c3S6,c3S8,c3S9,c3S10,c3S11,c3S13,c3S16]
   refine Ret.mono (seq_ok _ _ b w1 (h.below b1 (by decide)) hw hn hk hO) ?_
   rintro _ w2 ⟨iv,ok,n,e,rfl,b2,sv⟩
   obtain ⟨rfl,rfl,rfl,rfl⟩:=sv.many h64
   simp (disch:=first|omega|exact zF rfl|exact zG rfl|exact fun h=>h|(simp only[zA,zB,zC,zD,bytesW];omega)) only[go_sem,c3S1,c3S4,c3S6,c3S8,c3S9,c3S10,c3S11,c3S13,c3S15,c3S16,g3]
   refine Ret.mono (out (Below.next b1 b2)) ?_
   rintro _ w2 ⟨rfl,b2⟩
   simp (disch:=first|omega|exact zF rfl|exact zG rfl|exact fun h=>h|(simp only[zA,zB,zC,zD,bytesW];omega)) only[go_sem,c3S1,c3S4,c3S6,c3S8,c3S9,c3S10,c3S11,c3S13,c3S15,c3S16]
   exact b2
 ·have hl6:l.length≤6:=by omega
  have g1:¬ (6:Int)<l.length:=by omega
  have g3:¬ (64:Int)<l.length:=by omega
  simp (disch:=first|omega|exact zF rfl|exact zG rfl|exact fun h=>h|(simp only[zA,zB,zC,zD,bytesW];omega)) only[go_sem,c3S4,c3S6,c3S8,c3S9,c3S10,c3S11,c3S13,c3S15,g1]
  refine Ret.mono (alike_ok _ l w h hl) ?_
  rintro _ w1 ⟨⟨bb,rfl,hb⟩,b1⟩
  cases bb with
  | false =>
   simp (disch:=first|omega|exact zF rfl|exact zG rfl|exact fun h=>h|(simp only[zA,zB,zC,zD,bytesW];omega)) only[go_sem,c3S1,c3S4,c3S6,c3S8,c3S9,c3S10,c3S11,c3S13,c3S15,c3S16]
   refine Ret.mono (out b1) ?_
   rintro _ w2 ⟨rfl,b2⟩
   simp (disch:=first|omega|exact zF rfl|exact zG rfl|exact fun h=>h|(simp only[zA,zB,zC,zD,bytesW];omega)) only[go_sem,c3S1,c3S4,c3S6,c3S8,c3S9,c3S10,c3S11,c3S13,c3S15,c3S16]
   exact b2
  | true =>
   have hal:=hb rfl
   have hn:=alikeP_nodup hal
   have hk:=alikeP_kind hal
   obtain ⟨accO,hO⟩:=byObj_some l
   have h1:=h.below b1 (by decide)
   simp (disch:=first|omega|exact zF rfl|exact zG rfl|exact fun h=>h|(simp only[zA,zB,zC,zD,bytesW];omega)) only[go_sem,c3S1,c3S4,c3S6,c3S8,c3S9,c3S10,c3S11,c3S13,c3S16]
   refine Ret.mono (seq_ok _ _ b w1 h1 hw hn hk hO) ?_
   rintro _ w2 ⟨iv,ok,n,e,rfl,b2,sv⟩
   have h2:=h1.below b2 (by decide)
   have b12:=Below.next b1 b2
   simp (disch:=first|omega|exact zF rfl|exact zG rfl|exact fun h=>h|(simp only[zA,zB,zC,zD,bytesW];omega)) only[go_sem,c3S1,c3S6,c3S8,c3S9,c3S10,c3S11,c3S15,c3S16,g3]
   refine Ret.mono (checked_ok _ l w2 h2 hl) ?_
   rintro _ w3 ⟨rfl,b3⟩
   have h3:=h2.below b3 (by decide)
   have b13:=Below.next b12 b3
   by_cases hf:firstChk l=0
   ·obtain ⟨x,accP,hP,hr,rfl,hiv⟩:=sv.good (by omega) hf
    obtain ⟨ia,ic,rfl,_⟩:=hiv.form
    have hiv3:=hiv.below b3 (by decide)
    have hrem:=rem_start (accO:=accO) hP hn
    have rest:∀ M:Int,0≤M→M≤32768→(b<0→M=0)→(0≤b→M=min b 32768) →
      W Tryz.prog (c3S11 ()) [(0,.slice a l.length c),(1,.int .i64 b),(5,.slice ia (x.getD []).length ic),(6,.bool x.isSome),(7,.int .i64 n),(8,.int .i64 e),(9,.int .i64 M)] w3 (finQ Tryz.prog [.tmp 4] fun u w'=>u=.bool true∧Below w.heap.size w w'):=by
     intro M hM0 hM1 hMa hMb
     simp (disch:=first|omega|exact zF rfl|exact zG rfl|exact fun h=>h|(simp only[zA,zB,zC,zD,bytesW];omega)) only[go_sem,c3S1,c3S4,c3S8,c3S9,c3S11,c3S13,c3S15,c3S16]
     refine Ret.mono (dspots_ok _ l M w3 h3 (by omega) hM0 hM1 hn hk hw hO) ?_
     rintro _ w4 ⟨⟨aP,r,hP2,hbf,rfl⟩,b4⟩
     obtain rfl:=Cut.byProc_unique (pure_nodup hn) hP2 hP
     have hfew:=hbf.few (by omega)
     obtain ⟨hc1,hc2⟩:=seq_count hr hbf hfew hMa hMb
     have h4:=h3.below b4 (by decide)
     have b14:=Below.next b13 b4
     by_cases hbr:b<(r.length:Int)
     ·obtain ⟨rfl,rfl,rfl⟩:=hc1 hbr
      simp (disch:=first|omega|exact zF rfl|exact zG rfl|exact fun h=>h|(simp only[zA,zB,zC,zD,bytesW];omega)) only[go_sem,c3S1,c3S4,c3S6,c3S8,c3S9,c3S10,c3S11,c3S13,c3S15,c3S16,hbr,Option.isSome_none]
      refine Ret.mono (out b14) ?_
      rintro _ w5 ⟨rfl,b5⟩
      simp (disch:=first|omega|exact zF rfl|exact zG rfl|exact fun h=>h|(simp only[zA,zB,zC,zD,bytesW];omega)) only[go_sem,c3S1,c3S4,c3S6,c3S8,c3S9,c3S10,c3S11,c3S13,c3S15,c3S16]
      exact b5
     ·obtain ⟨rfl,rfl,rfl⟩:=hc2 hbr
      simp (disch:=first|omega|exact zF rfl|exact zG rfl|exact fun h=>h|(simp only[zA,zB,zC,zD,bytesW];omega)) only[go_sem,c3S1,c3S4,c3S6,c3S8,c3S10,c3S11,c3S13,c3S15,c3S16,hbr]
      refine Ret.mono (Cut.rprogramsN_ok _ l w4 h4 (by omega)) ?_
      rintro pv w5 ⟨⟨aP2,vs,hP3,hpr⟩,b5⟩
      obtain rfl:=Cut.byProc_unique (pure_nodup hn) hP3 hP
      have h5:=h4.below b5 (by decide)
      have b15:=Below.next b14 b5
      have hpg:=PgR.of hpr
      obtain ⟨pa,pc,rfl⟩:=hpg.form
      have cx:=ctx_of hP hO hw hk (by omega)
      have hPl:(progsW aP2).length=aP2.length:=by simp [progsW]
      have hpl2:=cx.pl
      simp (disch:=first|omega|exact zF rfl|exact zG rfl|exact fun h=>h|(simp only[zA,zB,zC,zD,bytesW];omega)) only[go_sem,c3S1,c3S4,c3S6,c3S9,c3S10,c3S11,c3S13,c3S15,c3S16]
      refine msW_one ty25mkI rfl (by omega) (by omega) (by omega) (by omega) ?_
      rw [Int.toNat_natCast]
      have hz:Blk (w5.alloc (.cells (zerosA (.int .i64 0) (progsW aP2).length) 3)) w5.heap.size (zerosA (.int .i64 0) (progsW aP2).length) 3:=Blk.new
      have ez:(zerosA (.int .i64 0) (progsW aP2).length).toList=(zN (List.replicate (progsW aP2).length 0)).flatMap intE:=by
       unfold zerosA zN
       rw [List.map_replicate]
       generalize (progsW aP2).length=q
       induction q with
       | zero=>rfl
       | succ q ih=>simp only [List.replicate_succ,List.flatMap_cons,← ih]; rfl
      have ho:=hz.own (n:=(progsW aP2).length) (cap:=(progsW aP2).length) (size:=1) (xs:=(zN (List.replicate (progsW aP2).length 0)).flatMap intE) (base:=w5.heap.size) (Nat.le_refl _) (Nat.le_refl _) (by have:maxLen=9223372036854775807:=(by decide); omega) (by simp [zerosA]) (by rw [ez,List.take_of_length_le]; rw [flat_all (sz:=1) (fun _=>rfl),zN_len,List.length_replicate]; exact Nat.le_refl _)
      have b6:Below w5.heap.size w5 (w5.alloc (.cells (zerosA (.int .i64 0) (progsW aP2).length) 3)):=(Below.refl _ w5).alloc (Nat.le_refl _) _
      have hst:(startW aP2 accO).done=List.replicate (progsW aP2).length 0:=by simp [startW,progsW]
      have hd6:RdS (w5.alloc (.cells (zerosA (.int .i64 0) (progsW aP2).length) 3)) 1 intE (.slice (some ⟨w5.heap.size,0,none⟩) (progsW aP2).length (progsW aP2).length) (zN (startW aP2 accO).done):=RdS.of_own' ho _ (by rw [zN_len,hst,List.length_replicate]) (by rw [hst])
      generalize w5.alloc (.cells (zerosA (.int .i64 0) (progsW aP2).length) 3)=w6 at b6 hd6 ⊢
      generalize hgz:w5.heap.size=g at hd6 ⊢
      clear ho ez hz
      simp (disch:=first|omega|exact zF rfl|exact zG rfl|exact fun h=>h|(simp only[zA,zB,zC,zD,bytesW];omega)) only[go_sem,c3S1,c3S4,c3S6,c3S9,c3S10,c3S11,c3S13,c3S15,c3S16]
      refine bdW_built (cells:=#[.slice none 0 0,.bool false]) (by kernel_rfl) ?_
      simp (disch:=first|omega|exact zF rfl|exact zG rfl|exact fun h=>h|(simp only[zA,zB,zC,zD,bytesW];omega)) only[go_sem,c3S1,c3S4,c3S6,c3S9,c3S10,c3S11,c3S13,c3S15,c3S16]
      have b16:=Below.next b15 b6
      refine Ret.mono (dleast_ok cx hO.up (remP (progsW aP2) (startW aP2 accO).done) w6 (startW aP2 accO) [] [] none (.slice pa (progsW aP2).length pc) _ (.slice none 0 0) (.slice none 0 0) (.slice none 0 0) vs (Nat.le_refl _) (hpg.below b6) hd6 StL.nil StD.start (start_ok (by omega)) RdS.nil RdS.nil (by simp only [List.length_nil]; omega) (by simp only [List.length_nil]; omega)) ?_
      rintro _ w7 ⟨⟨bv,rfl,hbv,_⟩,b7⟩
      have eL:lesser none ((bestS (progsW aP2) (objsW accO) (startW aP2 accO)).map (([]:List Int)++·))=bestS (progsW aP2) (objsW accO) (startW aP2 accO):=by
       cases bestS (progsW aP2) (objsW accO) (startW aP2 accO) <;> rfl
      rw [eL] at hbv ⊢
      obtain ⟨ba,bc,rfl,_⟩:=hbv.form
      have b17:=Below.next b16 b7
      have h7:=(h5.below b6 (by decide)).below b7 (by decide)
      have hiv7:=(((hiv3.below b4 (by decide)).below b5 (by decide)).below b6 (by decide)).below b7 (by decide)
      have s7:=(St.start (W0:=w7)).box #[.slice ba ((bestS (progsW aP2) (objsW accO) (startW aP2 accO)).getD []).length bc,.bool (bestS (progsW aP2) (objsW accO) (startW aP2 accO)).isSome] 34
      have hbl:((bestS (progsW aP2) (objsW accO) (startW aP2 accO)).getD []).length≤10:=by
       obtain ⟨hv1,_⟩:=bestS_valid (obs:=objsW accO) (progs_one hP (pure_nodup hn)) (s:=startW aP2 accO)
       cases hbs:bestS (progsW aP2) (objsW accO) (startW aP2 accO) with
       | none=>simp
       | some y =>
        have:=path_len ((validP_path (progs_one hP (pure_nodup hn))).1 (hv1 y hbs).1)
        simp only [Option.getD_some]
        omega
      simp (disch:=first|omega|exact zF rfl|exact zG rfl|exact fun h=>h|(simp only[zA,zB,zC,zD,bytesW];omega)) only[go_sem,c3S1,c3S4,c3S6,c3S8,c3S9,c3S10,c3S11,c3S13,c3S15,c3S16]
      generalize bestS (progsW aP2) (objsW accO) (startW aP2 accO)=best at *
      generalize w7.alloc (.cells #[.slice ba (best.getD []).length bc,.bool best.isSome] 34)=w8 at s7 ⊢
      generalize hgb:w7.heap.size=gb at s7 ⊢
      have b78:=s7.bel
      refine Ret.mono (dspots_ok _ l M w8 (h7.below b78 (by decide)) (by omega) hM0 hM1 hn hk hw hO) ?_
      rintro _ w9 ⟨⟨aP,r9,hP9,hbf9,rfl⟩,b9⟩
      obtain rfl:=Cut.byProc_unique (pure_nodup hn) hP9 hP
      obtain rfl:=hbf9.one hbf
      have s9:=s7.call b9
      have q9:=s9.rules 0 rfl
      simp (disch:=first|omega|exact zF rfl|exact zG rfl|exact fun h=>h|(simp only[zA,zB,zC,zD,bytesW];omega)) only[go_sem,c3S1,c3S4,c3S6,c3S8,c3S9,c3S10,c3S11,c3S13,c3S15,c3S16,q9]
      refine Ret.mono (ints_ok _ _ _ _ w9 ((hiv7.below b78 (by decide)).below b9 (by decide)) ((hbv.below b78 (by decide)).below b9 (by decide)) (by omega)) ?_
      rintro _ w10 ⟨rfl,b10⟩
      rw [decide_eq_true rfl]
      simp (disch:=first|omega|exact zF rfl|exact zG rfl|exact fun h=>h|(simp only[zA,zB,zC,zD,bytesW];omega)) only[go_sem,c3S1,c3S4,c3S6,c3S8,c3S9,c3S10,c3S11,c3S13,c3S15,c3S16]
      refine Ret.mono (out (Below.next (Below.next (Below.next b17 b78) b9) b10)) ?_
      rintro _ w11 ⟨rfl,b11⟩
      simp (disch:=first|omega|exact zF rfl|exact zG rfl|exact fun h=>h|(simp only[zA,zB,zC,zD,bytesW];omega)) only[go_sem,c3S1,c3S4,c3S6,c3S8,c3S9,c3S10,c3S11,c3S13,c3S15,c3S16]
      exact b11
    by_cases hb1:b > 32768
    ·have hb2:¬ (32768:Int)<0:=by omega
     simp (disch:=first|omega|exact zF rfl|exact zG rfl|exact fun h=>h|(simp only[zA,zB,zC,zD,bytesW];omega)) only[go_sem,c3S1,c3S4,c3S6,c3S8,c3S9,c3S10,c3S13,c3S15,c3S16,hf,hb1]
     exact rest 32768 (by omega) (by omega) (by omega) (by omega)
    ·by_cases hb2:b<0
     ·simp (disch:=first|omega|exact zF rfl|exact zG rfl|exact fun h=>h|(simp only[zA,zB,zC,zD,bytesW];omega)) only[go_sem,c3S1,c3S4,c3S6,c3S8,c3S9,c3S10,c3S13,c3S15,c3S16,hf,hb1,hb2]
      exact rest 0 (by omega) (by omega) (by omega) (by omega)
     ·simp (disch:=first|omega|exact zF rfl|exact zG rfl|exact fun h=>h|(simp only[zA,zB,zC,zD,bytesW];omega)) only[go_sem,c3S1,c3S4,c3S6,c3S8,c3S9,c3S10,c3S13,c3S15,c3S16,hf,hb1,hb2]
      exact rest b (by omega) (by omega) (by omega) (by omega)
   ·obtain ⟨rfl,rfl,rfl,rfl⟩:=sv.bad (by omega) hf
    simp (disch:=first|omega|exact zF rfl|exact zG rfl|exact fun h=>h|(simp only[zA,zB,zC,zD,bytesW];omega)) only[go_sem,c3S1,c3S4,c3S6,c3S8,c3S9,c3S10,c3S11,c3S13,c3S15,c3S16,hf]
    refine Ret.mono (checked_ok _ l w3 h3 hl) ?_
    rintro _ w4 ⟨rfl,b4⟩
    simp (disch:=first|omega|exact zF rfl|exact zG rfl|exact fun h=>h|(simp only[zA,zB,zC,zD,bytesW];omega)) only[go_sem,c3S1,c3S4,c3S6,c3S8,c3S9,c3S10,c3S11,c3S13,c3S15,c3S16]
    refine Ret.mono (out (Below.next b13 b4)) ?_
    rintro _ w5 ⟨rfl,b5⟩
    simp (disch:=first|omega|exact zF rfl|exact zG rfl|exact fun h=>h|(simp only[zA,zB,zC,zD,bytesW];omega)) only[go_sem,c3S1,c3S4,c3S6,c3S8,c3S9,c3S10,c3S11,c3S13,c3S15,c3S16]
    exact b5
theorem weakSequential_law{H:Type}{enc:TypeId × Value→H}{w:World}{r:Reach}{b base:Nat}{sp:Nat→Bool}{hd:Bool}{v:Value}{d:DataW H}{p:List MemPlace}{x:Int}
  (h:Value.okWide Tryz.prog w r b 22 v) (k:DataW.Trod enc Tryz.prog w base sp hd 22 v d p) :
  Ret Tryz.prog 3 [v,.int .i64 x] w fun u w'=>u=.bool true∧Below w.heap.size w w':=by
 obtain ⟨xs,q1,q2,q3⟩:=Opens.slice_arg opens_Ops Tryz.underlying22 h k
 exact weakSequential_ok _ xs x w q1 (by omega) q2
end Go.Proofs.YtoadmihnihfjkaaGreat

end
