/- Texts put together by program. -/
import Derived.Test.YtkmjkmjpejmlnaaGreatQG2
set_option linter.unusedSimpArgs false
set_option linter.unusedVariables false
set_option maxRecDepth 100000
noncomputable section

namespace Go.Proofs.YtkmjkmjpejmlnaaGreat
open Go Go.Ann Go.RowKit Go.WideShapes
section
variable {W0 w:World} {F:Nat→Prop} {L:List Res} {I:List Inv} {g:Nat} {vb vl:Value} {m:Dk}
theorem emod2(n:Nat):((n:Int).tmod 2)=((n % 2:Nat):Int):=rfl
def putN(m:Dk)(h:Hd):Dk × Int:=if (writeN m (h.seq % 2:Nat) (headL h)).2≠0 then writeN m (h.seq % 2:Nat) (headL h) else flushN (writeN m (h.seq % 2:Nat) (headL h)).1
theorem put_ok(hd:Hd)(hh:hd.ok)(h:St W0 w F (DkL g vb vl m++L) I)(ok:m.ok)(hless:m.late.length<1000000) :
  Ret Tryz.prog 108 [.pointer (some ⟨g,0,none⟩),.agg hd.enc.toArray] w fun u w'=>u=.int .i64 (putN m hd).2∧∃ vl',St W0 w' F (DkL g vb vl' (putN m hd).1++L) I:=by
 refine ent108 _ _ _ _ ?_
 have s1:=h.box hd.enc.toArray 160
 simp (disch:=first|omega|exact zF rfl|exact zG rfl|exact fun h=>h|(simp only[zA,zB,zC,zD,bytesW];omega)) only[go_sem]
 generalize w.heap.size=y at s1 ⊢
 generalize w.alloc (.cells hd.enc.toArray 160)=w1 at s1 ⊢
 refine c108draw0 (Same (fun k=>k=y) _) (Same.refl _ _) ?_
 have s2:=s1.drew
 have r2:=s2.rules 0 rfl
 have l2:=s2.low 0 rfl
 generalize w1.drew=w2 at s2 r2 l2 ⊢
 have hseq:=hh.seq
 simp (disch:=first|omega|exact zF rfl|exact zG rfl|exact fun h=>h|(simp only[zA,zB,zC,zD,bytesW];omega)) only[go_sem,c108D0,r2,Hd.enc,emod2]
 refine ⟨by constructor <;> omega,Same.refl _ _,Ret.mono (writeHead_ok hd hh w2) ?_⟩
 rintro _ w3 ⟨rfl,b3⟩
 have s3:=s2.call b3
 have same:∀ w',Blk w' y hd.enc.toArray 160→Same (fun k=>k=y) w2 w':=fun w' hb k hk=>by subst hk; exact hb.trans (s2.blk 0 rfl).symm
 simp (disch:=first|omega|exact zF rfl|exact zG rfl|exact fun h=>h|(simp only[zA,zB,zC,zD,bytesW];omega)) only[go_sem]
 refine ⟨same _ (s3.blk 0 rfl),Ret.mono (write_ok ((hd.seq % 2:Nat):Int) (headL hd) (St.front (A:=[_]) (D:=DkL g vb vl m) (L:=L) s3) ok hless) ?_⟩
 rintro _ w4 ⟨rfl,vl',s4⟩
 have ok4:=writeN_ok ok hless ((hd.seq % 2:Nat):Int) (headL hd)
 have s4':=St.front (A:=DkL g vb vl' _) (D:=[.blk y hd.enc.toArray 160]) (L:=L) s4
 have sm:=same _ (s4'.blk 0 rfl)
 have s4:=s4'.sub (List.sublist_cons_self _ _)
 unfold putN
 by_cases he:(writeN m ((hd.seq % 2:Nat):Int) (headL hd)).2=0
 case neg =>
  rw [if_pos he]
  simp (disch:=first|omega|exact zF rfl|exact zG rfl|exact fun h=>h|(simp only[zA,zB,zC,zD,bytesW];omega)) only[go_sem,he]
  exact ⟨sm,vl',s4⟩
 rw [if_neg (by omega)]
 simp (disch:=first|omega|exact zF rfl|exact zG rfl|exact fun h=>h|(simp only[zA,zB,zC,zD,bytesW];omega)) only[go_sem,he]
 refine ⟨sm,Ret.mono (flush_ok s4 ok4) ?_⟩
 rintro _ w5 ⟨rfl,vl2,s5⟩
 simp (disch:=first|omega|exact zF rfl|exact zG rfl|exact fun h=>h|(simp only[zA,zB,zC,zD,bytesW];omega)) only[go_sem]
 exact ⟨vl2,s5⟩
def blkN(m:Dk)(i:Nat):List UInt8:=lastL m.late i (m.safe.getD i [])
def fitsH(m:Dk)(h:Hd):Bool:=decide (1≤h.room∧1≤h.pages∧h.pages≤1024∧h.used≤h.room∧h.room≤m.safe.length∧2+h.room+h.pages≤m.safe.length)
def candH(m:Dk)(i:Nat)(seq:Nat):Option Hd:=match readHd (blkN m i) with
 | some h=>if fitsH m h=true∧seq<h.seq∧h.seq % 2=i then some h else none
 | none=>none
def bestN(m:Dk):Nat→Option Hd
 | 0=>none
 | i+1=>match candH m i ((bestN m i).getD hd0).seq with
  | some h=>some h
  | none=>bestN m i
def newestH(m:Dk):Option Hd:=bestN m 2
theorem lastL_256{l:List (Int × List UInt8)}{i:Int}{s:List UInt8}(h:s.length=256)(hl:∀ x∈l,x.2.length=256):(lastL l i s).length=256:=by
 unfold lastL
 induction l generalizing s with
 | nil=>exact h
 | cons x l ih =>
  rw [List.foldl_cons]
  refine ih ?_ fun y hy=>hl y (List.mem_cons_of_mem _ hy)
  split
  ·exact hl x (List.mem_cons_self ..)
  ·exact h
theorem newest_ok(h:St W0 w F (DkL g vb vl m++L) I)(ok:m.ok)(hg:m.gone=false)(h2:2≤m.safe.length) :
  Ret Tryz.prog 109 [.pointer (some ⟨g,0,none⟩)] w fun u w'=>(match newestH m with
   | some hd=>u=.tuple #[.agg hd.enc.toArray,.int .i64 0]
   | none=>u=.tuple #[.agg hd0.enc.toArray,.int .i64 14])∧Below w.heap.size w w':=by
 refine ent109 _ _ _ ?_
 have s1:=((St.start (W0:=w)).box #[.int .u64 0,.int .i64 0,.int .i64 0,.int .i64 0] 160).box #[.int .u64 0,.int .i64 0,.int .i64 0,.int .i64 0] 160
 simp (disch:=first|omega|exact zF rfl|exact zG rfl|exact fun h=>h|(simp only[zA,zB,zC,zD,bytesW];omega)) only[go_sem]
 rw [World.size_alloc] at s1
 have hsz:=h.size
 generalize hy:w.heap.size=y at s1 ⊢
 generalize ((w.alloc (.cells #[.int .u64 0,.int .i64 0,.int .i64 0,.int .i64 0] 160)).alloc (.cells #[.int .u64 0,.int .i64 0,.int .i64 0,.int .i64 0] 160))=w1 at s1 ⊢
 refine W_loopU (fun k:Nat=>[(5,.bool (bestN m k).isSome),(12,.int .i64 k)]) (fun k w'=>k≤2∧St w w' (fun _=>False) [.blk (y+1) ((bestN m k).getD hd0).enc.toArray 160,.blk y hd0.enc.toArray 160] []) (fun k=>2 - k) 0 rfl ⟨by omega,s1⟩ ?_
 rintro k w2 ⟨hk,s2⟩
 by_cases hlt:k<2
 ·have hlt':(k:Int)<2:=by omega
  simp (disch:=first|omega|exact zF rfl|exact zG rfl|exact fun h=>h|(simp only[zA,zB,zC,zD,bytesW];omega)) only[go_sem,c109L0,c109L0,hlt']
  refine Ret.mono (read_ok (k:Int) (h.below s2.bel (by omega)) ok) ?_
  rintro _ w3 ⟨rfl,b3⟩
  have s3:=s2.call b3
  have er:readN m (k:Int)=(blkN m k,0):=by
   have e0:readyN m (k:Int)=0:=by
    unfold readyN
    rw [if_neg (by rw [hg]; decide),if_pos (by omega)]
   unfold readN
   rw [if_pos e0]
   rfl
  rw [er]
  simp (disch:=first|omega|exact zF rfl|exact zG rfl|exact fun h=>h|(simp only[zA,zB,zC,zD,bytesW];omega)) only[go_sem,c109L0]
  have hbl:(blkN m k).length≤1000:=by
   unfold blkN
   have h1:(m.safe.getD k []).length=256:=by
    rw [List.getD_eq_getElem?_getD,List.getElem?_eq_getElem (by omega)]
    exact ok.safe _ (List.getElem_mem _)
   have:=lastL_256 (i:=(k:Int)) h1 (fun x hx=>(ok.late x hx).2.2)
   omega
  refine Ret.mono (readHead_ok (blkN m k) hbl w3) ?_
  rintro _ w4 ⟨rfl,b4⟩
  have s4:=s3.call b4
  simp (disch:=first|omega|exact zF rfl|exact zG rfl|exact fun h=>h|(simp only[zA,zB,zC,zD,bytesW];omega)) only[go_sem,c109L0]
  generalize hrd:readHd (blkN m k)=rd
  generalize hq:rd.getD hd0=q
  have s5:=s4.box q.enc.toArray 160
  simp (disch:=first|omega|exact zF rfl|exact zG rfl|exact fun h=>h|(simp only[zA,zB,zC,zD,bytesW];omega)) only[go_sem,c109L0,Hd.enc]
  have hz:y+1<w4.heap.size:=(s4.low 0 rfl).2
  generalize w4.heap.size=z at s5 hz ⊢
  refine c109draw0 (Chg (fun _=>False) _) (Chg.refl _ _) ?_
  have s6:=s5.drew
  have s6:St w ((w4.alloc (.cells #[.int .u64 q.seq,.int .i64 q.used,.int .i64 q.room,.int .i64 q.pages] 160)).drew) (fun _=>False) [.blk z #[.int .u64 q.seq,.int .i64 q.used,.int .i64 q.room,.int .i64 q.pages] 160,.blk (y+1) #[.int .u64 ((bestN m k).getD hd0).seq,.int .i64 ((bestN m k).getD hd0).used,.int .i64 ((bestN m k).getD hd0).room,.int .i64 ((bestN m k).getD hd0).pages] 160,.blk y hd0.enc.toArray 160] []:=s6
  generalize (w4.alloc (.cells #[.int .u64 q.seq,.int .i64 q.used,.int .i64 q.room,.int .i64 q.pages] 160)).drew=w6 at s6 ⊢
  have r6:=s6.rules 0 rfl
  have q6:=s6.rules 1 rfl
  have l6:=s6.low 0 rfl
  have stay:bestN m (k+1)=bestN m k→∀ w',Below w6.heap.size w6 w'→k+1≤2∧St w w' (fun _=>False) [.blk (y+1) #[.int .u64 ((bestN m (k+1)).getD hd0).seq,.int .i64 ((bestN m (k+1)).getD hd0).used,.int .i64 ((bestN m (k+1)).getD hd0).room,.int .i64 ((bestN m (k+1)).getD hd0).pages] 160,.blk y #[.int .u64 hd0.seq,.int .i64 hd0.used,.int .i64 hd0.room,.int .i64 hd0.pages] 160] []:=fun e w' hb=>by
   rw [e]; exact ⟨by omega,(s6.call hb).sub (List.sublist_cons_self _ _)⟩
  cases rd with
  | none =>
   obtain rfl:q=hd0:=hq.symm
   have e1:bestN m (k+1)=bestN m k:=by
    have:∀ n,candH m k n=none:=fun n=>by unfold candH; rw [hrd]
    simp only [bestN,this]
   have c1:¬ (1:Int)≤(hd0.room:Nat):=by decide
   simp (disch:=first|omega|exact zF rfl|exact zG rfl|exact fun h=>h|(simp only[zA,zB,zC,zD,bytesW];omega)) only[go_sem,c109L0,c109D0,r6,q6,c1]
   exact ⟨fun h=>absurd h (by decide),fun _=>⟨⟨by omega,by omega⟩,k+1,by rw [e1]; rfl,stay e1 _ (Below.refl _ _),by omega⟩⟩
  | some hd =>
   obtain rfl:q=hd:=hq.symm
   have e1:fitsH m q=false→bestN m (k+1)=bestN m k:=fun hf=>by
    have:∀ n,candH m k n=none:=fun n=>by unfold candH; rw [hrd]; simp only [hf]; rfl
    simp only [bestN,this]
   have hfits:∀ b:Bool,(b=true↔(1≤q.room∧1≤q.pages∧q.pages≤1024∧q.used≤q.room∧q.room≤m.safe.length∧2+q.room+q.pages≤m.safe.length))→fitsH m q=b:=fun b hb=>by
    unfold fitsH; rw [Bool.eq_iff_iff,decide_eq_true_eq]; exact hb.symm
   have hb6:=h.below s6.bel (by omega)
   have hfew:=ok.few
   by_cases c1:1≤q.room
   case neg =>
    have d1:¬ (1:Int)≤q.room:=by omega
    have e2:=e1 (hfits false (by simp only [Bool.false_eq_true,false_iff]; omega))
    simp (disch:=first|omega|exact zF rfl|exact zG rfl|exact fun h=>h|(simp only[zA,zB,zC,zD,bytesW];omega)) only[go_sem,c109L0,c109D0,r6,q6,d1]
    exact ⟨fun _=>⟨⟨by omega,by omega⟩,k+1,by rw [e2]; rfl,stay e2 _ (Below.refl _ _),by omega⟩,fun _=>⟨⟨by omega,by omega⟩,k+1,by rw [e2]; rfl,stay e2 _ (Below.refl _ _),by omega⟩⟩
   have d1:(1:Int)≤q.room:=by omega
   by_cases c2:1≤q.pages
   case neg =>
    have d2:¬ (1:Int)≤q.pages:=by omega
    have e2:=e1 (hfits false (by simp only [Bool.false_eq_true,false_iff]; omega))
    simp (disch:=first|omega|exact zF rfl|exact zG rfl|exact fun h=>h|(simp only[zA,zB,zC,zD,bytesW];omega)) only[go_sem,c109L0,c109D0,r6,q6,d1,d2]
    exact ⟨fun _=>⟨⟨by omega,by omega⟩,k+1,by rw [e2]; rfl,stay e2 _ (Below.refl _ _),by omega⟩,fun _=>⟨⟨by omega,by omega⟩,k+1,by rw [e2]; rfl,stay e2 _ (Below.refl _ _),by omega⟩⟩
   have d2:(1:Int)≤q.pages:=by omega
   by_cases c3:q.pages≤1024
   case neg =>
    have d3:¬ (q.pages:Int)≤1024:=by omega
    have e2:=e1 (hfits false (by simp only [Bool.false_eq_true,false_iff]; omega))
    simp (disch:=first|omega|exact zF rfl|exact zG rfl|exact fun h=>h|(simp only[zA,zB,zC,zD,bytesW];omega)) only[go_sem,c109L0,c109D0,r6,q6,d1,d2,d3]
    exact ⟨fun _=>⟨⟨by omega,by omega⟩,k+1,by rw [e2]; rfl,stay e2 _ (Below.refl _ _),by omega⟩,fun _=>⟨⟨by omega,by omega⟩,k+1,by rw [e2]; rfl,stay e2 _ (Below.refl _ _),by omega⟩⟩
   have d3:(q.pages:Int)≤1024:=by omega
   by_cases c4:q.used≤q.room
   case neg =>
    have d4:¬ (q.used:Int)≤q.room:=by omega
    have e2:=e1 (hfits false (by simp only [Bool.false_eq_true,false_iff]; omega))
    simp (disch:=first|omega|exact zF rfl|exact zG rfl|exact fun h=>h|(simp only[zA,zB,zC,zD,bytesW];omega)) only[go_sem,c109L0,c109D0,r6,q6,d1,d2,d3,d4]
    exact ⟨fun _=>⟨⟨by omega,by omega⟩,k+1,by rw [e2]; rfl,stay e2 _ (Below.refl _ _),by omega⟩,fun _=>⟨⟨by omega,by omega⟩,k+1,by rw [e2]; rfl,stay e2 _ (Below.refl _ _),by omega⟩⟩
   have d4:(q.used:Int)≤q.room:=by omega
   by_cases c5:q.room≤m.safe.length
   case neg =>
    have d5:¬ (q.room:Int)≤m.safe.length:=by omega
    have e2:=e1 (hfits false (by simp only [Bool.false_eq_true,false_iff]; omega))
    simp (disch:=first|omega|exact zF rfl|exact zG rfl|exact fun h=>h|(simp only[zA,zB,zC,zD,bytesW];omega)) only[go_sem,c109L0,c109D0,r6,q6,d1,d2,d3,d4,d5]
    refine Ret.mono (len_ok hb6 ok) ?_
    rintro _ w7 ⟨rfl,e7⟩
    subst w7
    simp (disch:=first|omega|exact zF rfl|exact zG rfl|exact fun h=>h|(simp only[zA,zB,zC,zD,bytesW];omega)) only[go_sem,c109L0,c109D0,r6,q6,d1,d2,d3,d4,d5]
    exact ⟨fun _=>⟨⟨by omega,by omega⟩,k+1,by rw [e2]; rfl,stay e2 _ (Below.refl _ _),by omega⟩,fun _=>⟨⟨by omega,by omega⟩,k+1,by rw [e2]; rfl,stay e2 _ (Below.refl _ _),by omega⟩⟩
   have d5:(q.room:Int)≤m.safe.length:=by omega
   by_cases c6:2+q.room+q.pages≤m.safe.length
   case neg =>
    have d6:¬ 2+(q.room:Int)+q.pages≤m.safe.length:=by omega
    have e2:=e1 (hfits false (by simp only [Bool.false_eq_true,false_iff]; omega))
    simp (disch:=first|omega|exact zF rfl|exact zG rfl|exact fun h=>h|(simp only[zA,zB,zC,zD,bytesW];omega)) only[go_sem,c109L0,c109D0,r6,q6,d1,d2,d3,d4,d5,d6]
    refine Ret.mono (len_ok hb6 ok) ?_
    rintro _ w7 ⟨rfl,e7⟩
    subst w7
    simp (disch:=first|omega|exact zF rfl|exact zG rfl|exact fun h=>h|(simp only[zA,zB,zC,zD,bytesW];omega)) only[go_sem,c109L0,c109D0,r6,q6,d1,d2,d3,d4,d5,d6]
    refine ⟨⟨by omega,by omega⟩,⟨by omega,by omega⟩,Ret.mono (len_ok hb6 ok) ?_⟩
    rintro _ w7 ⟨rfl,e7⟩
    subst w7
    simp (disch:=first|omega|exact zF rfl|exact zG rfl|exact fun h=>h|(simp only[zA,zB,zC,zD,bytesW];omega)) only[go_sem,c109L0,c109D0,r6,q6,d1,d2,d3,d4,d5,d6]
    exact ⟨fun _=>⟨⟨by omega,by omega⟩,k+1,by rw [e2]; rfl,stay e2 _ (Below.refl _ _),by omega⟩,fun _=>⟨⟨by omega,by omega⟩,k+1,by rw [e2]; rfl,stay e2 _ (Below.refl _ _),by omega⟩⟩
   have d6:2+(q.room:Int)+q.pages≤m.safe.length:=by omega
   simp (disch:=first|omega|exact zF rfl|exact zG rfl|exact fun h=>h|(simp only[zA,zB,zC,zD,bytesW];omega)) only[go_sem,c109L0,c109D0,r6,q6,d1,d2,d3,d4,d5,d6]
   refine Ret.mono (len_ok hb6 ok) ?_
   rintro _ w7 ⟨rfl,e7⟩
   subst w7
   simp (disch:=first|omega|exact zF rfl|exact zG rfl|exact fun h=>h|(simp only[zA,zB,zC,zD,bytesW];omega)) only[go_sem,c109L0,c109D0,r6,q6,d1,d2,d3,d4,d5,d6]
   refine ⟨⟨by omega,by omega⟩,⟨by omega,by omega⟩,Ret.mono (len_ok hb6 ok) ?_⟩
   rintro _ w7 ⟨rfl,e7⟩
   subst w7
   simp (disch:=first|omega|exact zF rfl|exact zG rfl|exact fun h=>h|(simp only[zA,zB,zC,zD,bytesW];omega)) only[go_sem,c109L0,c109D0,r6,q6,d1,d2,d3,d4,d5,d6]
   have hf:fitsH m q=true:=hfits true (by simp only [true_iff]; omega)
   have eC:candH m k ((bestN m k).getD hd0).seq=if fitsH m q=true∧((bestN m k).getD hd0).seq<q.seq∧q.seq % 2=k then some q else none:=by unfold candH; rw [hrd]
   refine ⟨fun _=>⟨fun h1=>⟨by rw [emod2]; constructor <;> omega,fun h2=>?_,fun h2=>?_⟩,fun h1=>?_⟩,fun h=>absurd h (by simp)⟩
   ·rw [emod2] at h2
    have e2:bestN m (k+1)=some q:=by
     simp only [bestN]
     rw [eC,if_pos ⟨hf,by omega,by omega⟩]
    refine ⟨⟨by omega,by omega⟩,k+1,by rw [e2]; rfl,⟨by omega,?_⟩,by omega⟩
    rw [e2]
    exact ((s6.fill 1 rfl (cs:=#[.int .u64 q.seq,.int .i64 q.used,.int .i64 q.room,.int .i64 q.pages]) rfl)).sub (List.sublist_cons_self _ _)
   ·rw [emod2] at h2
    have e2:bestN m (k+1)=bestN m k:=by
     simp only [bestN]
     rw [eC,if_neg (fun hh=>h2 (by rw [hh.2.2]))]
    exact ⟨⟨by omega,by omega⟩,k+1,by rw [e2]; rfl,stay e2 _ (Below.refl _ _),by omega⟩
   ·have e2:bestN m (k+1)=bestN m k:=by
     simp only [bestN]
     rw [eC,if_neg (fun hh=>by have:=hh.2.1; omega)]
    exact ⟨⟨by omega,by omega⟩,k+1,by rw [e2]; rfl,stay e2 _ (Below.refl _ _),by omega⟩
 ·have hlt':¬ (k:Int)<2:=by omega
  obtain rfl:k=2:=by omega
  have r2:=s2.rules 0 rfl
  have q2:=s2.rules 1 rfl
  have e0:newestH m=bestN m 2:=rfl
  rw [e0]
  cases hb2:bestN m 2 with
  | none =>
   rw [hb2] at r2 s2
   simp (disch:=first|omega|exact zF rfl|exact zG rfl|exact fun h=>h|(simp only[zA,zB,zC,zD,bytesW];omega)) only[go_sem,c109L0,c109L0,hlt',r2,q2,Hd.enc]
   exact ⟨fun _=>by subst hy; exact (s2.fill 1 rfl (cs:=hd0.enc.toArray) rfl).bel,fun h=>absurd h (by decide)⟩
  | some hd =>
   rw [hb2] at r2 s2
   simp (disch:=first|omega|exact zF rfl|exact zG rfl|exact fun h=>h|(simp only[zA,zB,zC,zD,bytesW];omega)) only[go_sem,c109L0,c109L0,hlt',r2,q2,Hd.enc]
   exact ⟨fun h=>absurd h (by simp),fun _=>by subst hy; exact (s2.fill 1 rfl (cs:=hd.enc.toArray) rfl).bel⟩
end
open Go Go.Ann Go.RowKit Go.WideShapes
def headN(n room:Nat):Hd:=⟨2,0,room,min (n - 2 - room) 1024⟩
def fmtDk(n:Nat)(h:Hd):Dk:={ safe:=((List.replicate n zeroB).set 1 (filledL [])).set 0 (filledL (headL h)),late:=[],left:=-1,gone:=false }
theorem writeN_new{n:Nat}{l:List (Int × List UInt8)}{i:Int}{d:List UInt8}(h0:0≤i)(h1:i<n)(hd:d.length≤256):writeN { newDk n with late:=l } i d=({ newDk n with late:=l++[(i,filledL d)] },0):=by
 have e1:readyN { newDk n with late:=l } i=0:=by
  unfold readyN
  rw [if_neg (by simp [newDk]),if_pos (by simp [newDk]; omega)]
 have e2:useN { newDk n with late:=l }=({ newDk n with late:=l },0):=by
  unfold useN
  rw [if_neg (by simp [newDk]),if_neg (by simp [newDk])]
 unfold writeN
 rw [if_neg (by rw [e1]; decide),if_neg (by omega),e2,if_pos rfl]
theorem flushN_new{n:Nat}{l:List (Int × List UInt8)}(h0:0<n):flushN { newDk n with late:=l }=({ newDk n with safe:=doneL (newDk n).safe l,late:=[] },0):=by
 have e1:readyN { newDk n with late:=l } 0=0:=by
  unfold readyN
  rw [if_neg (by simp [newDk]),if_pos (by simp [newDk]; omega)]
 have e2:useN { newDk n with late:=l }=({ newDk n with late:=l },0):=by
  unfold useN
  rw [if_neg (by simp [newDk]),if_neg (by simp [newDk])]
 unfold flushN
 rw [if_neg (by rw [e1]; decide),e2,if_neg (by simp)]
theorem fmt_eq{n:Nat}{h:Hd}(h2:2≤n)(hs:h.seq=2):putN (writeN (newDk n) 1 []).1 h=(fmtDk n h,0):=by
 have e1:writeN (newDk n) 1 []=({ newDk n with late:=[(1,filledL [])] },0):=writeN_new (l:=[]) (by decide) (by omega) (by decide)
 rw [e1]
 unfold putN
 rw [hs]
 have e2:=writeN_new (n:=n) (l:=[(1,filledL [])]) (i:=((2 % 2:Nat):Int)) (d:=headL h) (by decide) (by omega) (by rw [headL_len]; decide)
 rw [e2,if_neg (by simp),flushN_new (by omega)]
 rfl
theorem cutL_app{a b:List UInt8}{i j:Nat}(h:j≤a.length):cutL (a++b) i j=cutL a i j:=by
 unfold cutL
 rw [List.take_append_of_le_length (by omega)]
theorem readHd_headL{h:Hd}(ok:h.ok)(r:List UInt8):readHd (headL h++r)=some h:=by
 have hl:=head0_len h
 have hL:=headL_len h
 have e20:(headL h++r).take 20=head0 h:=by
  rw [List.take_append_of_le_length (by omega)]
  unfold headL
  rw [List.take_append_of_le_length (by omega),List.take_of_length_le (by omega)]
 have c2:cutL (headL h++r) 20 40=notL (head0 h):=by
  rw [show cutL (headL h++r) 20 40=cutL (headL h++r) ((20:Nat):Int) ((40:Nat):Int) from rfl,cutL_app (by omega)]
  unfold cutL headL
  rw [List.take_of_length_le (by rw [List.length_append,notL_len,hl]; decide)]
  show (head0 h++notL (head0 h)).drop 20=_
  rw [List.drop_append_of_le_length (by omega),List.drop_of_length_le (by omega),List.nil_append]
 have f8:=fixL_len h.seq 8
 have f4:=fixL_len h.used 4
 have g4:=fixL_len h.room 4
 have k4:=fixL_len h.pages 4
 have e8:(headL h++r).take 8=fixL h.seq 8:=by
  have:(headL h++r).take 8=((headL h++r).take 20).take 8:=by rw [List.take_take]; rfl
  rw [this,e20]
  unfold head0
  rw [List.append_assoc,List.append_assoc,List.take_append_of_le_length (by omega),List.take_of_length_le (by omega)]
 have cut:∀ i j:Nat,j≤20→cutL (headL h++r) i j=cutL (head0 h) i j:=fun i j hj=>by
  rw [cutL_app (by omega)]
  unfold headL
  exact cutL_app (by omega)
 have a1:cutL (head0 h) (8:Nat) (12:Nat)=fixL h.used 4:=by
  unfold cutL head0
  show List.drop 8 (List.take 12 _)=_
  rw [List.append_assoc,List.append_assoc,List.take_append,List.take_of_length_le (by omega),f8,List.drop_append_of_le_length (by omega),List.drop_of_length_le (by omega),List.nil_append,List.take_append_of_le_length (by omega),List.take_of_length_le (by omega)]
 have a2:cutL (head0 h) (12:Nat) (16:Nat)=fixL h.room 4:=by
  unfold cutL head0
  show List.drop 12 (List.take 16 _)=_
  rw [List.take_append_of_le_length (by simp only [List.length_append,f8,f4,g4]; omega),List.take_of_length_le (by simp only [List.length_append,f8,f4,g4]; omega),List.drop_append,List.drop_of_length_le (by simp only [List.length_append,f8,f4]; omega),List.nil_append]
  simp only [List.length_append,f8,f4]
  rfl
 have a3:cutL (head0 h) (16:Nat) (20:Nat)=fixL h.pages 4:=by
  unfold cutL
  show List.drop 16 (List.take 20 _)=_
  rw [List.take_of_length_le (by omega)]
  unfold head0
  rw [List.drop_append,List.drop_of_length_le (by simp only [List.length_append,f8,f4,g4]; omega),List.nil_append]
  simp only [List.length_append,f8,f4,g4]
  rfl
 unfold readHd
 rw [if_neg (by rw [List.length_append,hL]; omega),e20,c2,if_pos rfl,e8]
 rw [show cutL (headL h++r) 8 12=_ from (cut 8 12 (by decide)).trans a1,show cutL (headL h++r) 12 16=_ from (cut 12 16 (by decide)).trans a2,show cutL (headL h++r) 16 20=_ from (cut 16 20 (by decide)).trans a3]
 simp only [unfixL_fixL]
 rw [Nat.mod_eq_of_lt ok.seq,Nat.mod_eq_of_lt ok.used,Nat.mod_eq_of_lt ok.room,Nat.mod_eq_of_lt ok.pages]
theorem readHd_zero:readHd (filledL [])=none:=by
 unfold readHd
 rw [if_neg (by decide),if_neg (by decide)]
theorem newest_fmt{n room:Nat}(h1:1≤room)(h2:room+3≤n)(h3:n≤2048):newestH (fmtDk n (headN n room))=some (headN n room):=by
 have hh:(headN n room).ok:=⟨by show 2<_; omega,by show 0<_; omega,by show room<_; omega,by show min (n - 2 - room) 1024<_; omega⟩
 have b0:blkN (fmtDk n (headN n room)) 0=filledL (headL (headN n room)):=by
  unfold blkN fmtDk
  simp only [lastL,List.foldl_nil]
  rw [List.getD_eq_getElem?_getD,List.getElem?_set_self (by simp; omega)]; rfl
 have b1:blkN (fmtDk n (headN n room)) 1=filledL []:=by
  unfold blkN fmtDk
  simp only [lastL,List.foldl_nil]
  rw [List.getD_eq_getElem?_getD,List.getElem?_set_ne (by decide),List.getElem?_set_self (by simp; omega)]; rfl
 have hl:(fmtDk n (headN n room)).safe.length=n:=by simp [fmtDk]
 have c0:candH (fmtDk n (headN n room)) 0 0=some (headN n room):=by
  unfold candH
  rw [b0]
  unfold filledL
  rw [readHd_headL hh]
  have hf:fitsH (fmtDk n (headN n room)) (headN n room)=true:=by
   unfold fitsH
   rw [decide_eq_true_eq,hl]
   simp only [headN]
   omega
  show (if fitsH _ _=true∧0<(headN n room).seq∧(headN n room).seq % 2=0 then some (headN n room) else none)=_
  rw [if_pos ⟨hf,by simp [headN],by simp [headN]⟩]
 have c1:∀ k,candH (fmtDk n (headN n room)) 1 k=none:=fun k=>by
  unfold candH
  rw [b1,readHd_zero]
 unfold newestH
 simp only [bestN,Option.getD_none]
 rw [show hd0.seq=0 from rfl,c0]
 simp only [c1]
section
variable {W0 w:World} {F:Nat→Prop} {L:List Res} {I:List Inv} {g:Nat} {vb vl:Value} {m:Dk}
theorem format_ok{n room:Nat}(h:St W0 w F (DkL g vb vl (newDk n)++L) I)(h1:1≤room)(h2:room+3≤n)(h3:n≤2048) :
  Ret Tryz.prog 41 [.pointer (some ⟨g,0,none⟩),.int .i64 room] w fun u w'=>u=.int .i64 0∧∃ vl',St W0 w' F (DkL g vb vl' (fmtDk n (headN n room))++L) I:=by
 have ok:=newDk_ok (n:=n) (by omega) h3
 have hln:(newDk n).safe.length=n:=List.length_replicate
 refine ent41 _ _ _ _ ?_
 simp (disch:=first|omega|exact zF rfl|exact zG rfl|exact fun h=>h|(simp only[zA,zB,zC,zD,bytesW];omega)) only[go_sem]
 refine Ret.mono (len_ok h ok) ?_
 rintro _ w2 ⟨rfl,e2⟩
 subst w2
 simp (disch:=first|omega|exact zF rfl|exact zG rfl|exact fun h=>h|(simp only[zA,zB,zC,zD,bytesW];omega)) only[go_sem]
 refine Ret.mono (read_ok 0 h ok) ?_
 rintro _ w2 ⟨rfl,b2⟩
 have er:(readN (newDk n) 0).2=0:=by
  have e1:readyN (newDk n) 0=0:=by
   unfold readyN
   rw [if_neg (by simp [newDk]),if_pos (by simp [newDk]; omega)]
  unfold readN; rw [if_pos e1]
 have s2:=h.call b2
 rw [hln]
 have c1:¬ (room:Int)<1:=by omega
 have c2:¬ (n:Int)<room:=by omega
 have c3:¬ (n:Int) - 2 - room<1:=by omega
 simp (disch:=first|omega|exact zF rfl|exact zG rfl|exact fun h=>h|(simp only[zA,zB,zC,zD,bytesW];omega)) only[go_sem,er,c1,c2,c3]
 refine ⟨by constructor <;> omega,by constructor <;> omega,Ret.mono (write_ok 1 [] s2 ok (by simp [newDk])) ?_⟩
 rintro _ w3 ⟨rfl,vl',s3⟩
 have ok3:=writeN_ok ok (by simp [newDk]) 1 []
 have e1:writeN (newDk n) 1 []=({ newDk n with late:=[(1,filledL [])] },0):=writeN_new (l:=[]) (by decide) (by omega) (by decide)
 have e1':(writeN (newDk n) 1 []).2=0:=by rw [e1]
 simp (disch:=first|omega|exact zF rfl|exact zG rfl|exact fun h=>h|(simp only[zA,zB,zC,zD,bytesW];omega)) only[go_sem,e1']
 have hh:(headN n room).ok:=⟨by show 2<_; omega,by show 0<_; omega,by show room<_; omega,by show min (n - 2 - room) 1024<_; omega⟩
 have e2:min ((n:Int) - 2 - room) 1024=((min (n - 2 - room) 1024:Nat):Int):=by omega
 rw [e2]
 refine ⟨by constructor <;> omega,by constructor <;> omega,bdW_built (cells:=(headN n room).enc.toArray) (by kernel_rfl) ?_⟩
 simp (disch:=first|omega|exact zF rfl|exact zG rfl|exact fun h=>h|(simp only[zA,zB,zC,zD,bytesW];omega)) only[go_sem]
 refine Ret.mono (put_ok (headN n room) hh s3 ok3 (by rw [e1]; simp)) ?_
 rintro _ w4 ⟨rfl,vl2,s4⟩
 rw [fmt_eq (by omega) rfl] at s4 ⊢
 simp (disch:=first|omega|exact zF rfl|exact zG rfl|exact fun h=>h|(simp only[zA,zB,zC,zD,bytesW];omega)) only[go_sem]
 exact ⟨vl2,s4⟩
theorem open0_ok(hd:Hd)(h:St W0 w F (DkL g vb vl m++L) I)(ok:m.ok)(hg:m.gone=false)(h2:2≤m.safe.length)(hn:newestH m=some hd)(hu:hd.used=0) :
  Ret Tryz.prog 42 [.pointer (some ⟨g,0,none⟩)] w fun u w'=>∃ b mb,u=.tuple #[.pointer (some ⟨b,0,none⟩),.int .i64 0]∧St W0 w' F (StoL b mb g vb vl ⟨hd,[],0,false,m⟩++L) I:=by
 refine ent42 _ _ _ ?_
 simp (disch:=first|omega|exact zF rfl|exact zG rfl|exact fun h=>h|(simp only[zA,zB,zC,zD,bytesW];omega)) only[go_sem]
 refine Ret.mono (newest_ok h ok hg h2) ?_
 rintro u w2 ⟨hu2,b2⟩
 rw [hn] at hu2
 obtain rfl:u=_:=hu2
 have s2:=h.call b2
 simp (disch:=first|omega|exact zF rfl|exact zG rfl|exact fun h=>h|(simp only[zA,zB,zC,zD,bytesW];omega)) only[go_sem,Hd.enc]
 have s3:=s2.box #[.int .u64 hd.seq,.int .i64 hd.used,.int .i64 hd.room,.int .i64 hd.pages] 160
 have r3:=s3.rules 0 rfl
 refine mmG (ek:=intK) (ev:=strK) ?_
 have s4:=s3.lay (mapG intK strK [] 0)
 rw [World.size_alloc] at s4
 have hzl:=s4.low 1 rfl
 simp (disch:=first|omega|exact zF rfl|exact zG rfl|exact fun h=>h|(simp only[zA,zB,zC,zD,bytesW];omega)) only[go_sem,r3]
 generalize (w2.alloc (.cells #[.int .u64 hd.seq,.int .i64 hd.used,.int .i64 hd.room,.int .i64 hd.pages] 160))=w3 at s3 s4 ⊢
 generalize w3.alloc (mapG intK strK [] 0)=w4 at s4 hzl ⊢
 generalize w2.heap.size=z at s4 hzl ⊢
 generalize hmb:z+1=mb at s4 ⊢
 refine bdW_built (cells:=#[.pointer (some ⟨g,0,none⟩),.int .u64 hd.seq,.int .i64 hd.used,.int .i64 hd.room,.int .i64 hd.pages,.map (some mb),.bool false]) (by kernel_rfl) ?_
 have s5:=s4.box #[.pointer (some ⟨g,0,none⟩),.int .u64 hd.seq,.int .i64 hd.used,.int .i64 hd.room,.int .i64 hd.pages,.map (some mb),.bool false] 165
 have r5:=s5.rules 2 rfl
 have hu':¬ (0:Int)<hd.used:=by omega
 simp (disch:=first|omega|exact zF rfl|exact zG rfl|exact fun h=>h|(simp only[zA,zB,zC,zD,bytesW];omega)) only[go_sem,r5,hu']
 generalize w4.heap.size=b at s5 ⊢
 refine ⟨b,mb,rfl,?_⟩
 exact s5.sub (List.Sublist.cons_cons _ (List.Sublist.cons_cons _ (List.sublist_cons_self _ _)))
end
open Go Go.Ann Go.RowKit Go.WideShapes
abbrev It:=Int × List UInt8
def itE(x:It):List Value:=[.int .i64 x.1,.string (ofL x.2),.int .i64 0]
theorem itE_len(x:It):(itE x).length=3:=rfl
theorem itE_one(x:It):∀ u∈itE x,u.oneCell'=true:=by
 intro u hu
 simp only [itE,List.mem_cons,List.not_mem_nil,or_false] at hu
 rcases hu with rfl | rfl | rfl <;> rfl
theorem itE_ones(l:List It):∀ u∈l.flatMap itE,u.oneCell'=true:=by
 intro u hu
 obtain ⟨s,_,h⟩:=List.mem_flatMap.1 hu
 exact itE_one s u h
theorem flat_len(l:List It):(l.flatMap itE).length=l.length * 3:=by
 induction l with
 | nil=>rfl
 | cons a l ih=>rw [List.flatMap_cons,List.length_append,ih,itE_len,List.length_cons]; omega
theorem flat_take(l:List It)(k:Nat):(l.flatMap itE).take (k * 3)=(l.take k).flatMap itE:=by
 induction l generalizing k with
 | nil=>simp
 | cons a l ih =>
  cases k with
  | zero=>simp
  | succ k =>
   rw [List.flatMap_cons,List.take_succ_cons,List.flatMap_cons,← ih,List.take_append,itE_len,List.take_of_length_le (by rw [itE_len]; omega),show (k+1) * 3 - 3=k * 3 by omega]
theorem flat_drop(l:List It)(k:Nat):(l.flatMap itE).drop (k * 3)=(l.drop k).flatMap itE:=by
 induction l generalizing k with
 | nil=>simp
 | cons a l ih =>
  cases k with
  | zero=>simp
  | succ k =>
   rw [List.flatMap_cons,List.drop_succ_cons,← ih,List.drop_append,itE_len,List.drop_of_length_le (by rw [itE_len]; omega),List.nil_append,show (k+1) * 3 - 3=k * 3 by omega]
theorem flat_get{l:List It}{i j:Nat}(hi:i<l.length)(hj:j<3):(l.flatMap itE)[i * 3+j]?=(itE l[i])[j]?:=by
 rw [← List.getElem?_drop,flat_drop,List.drop_eq_getElem_cons hi,List.flatMap_cons,List.getElem?_append_left (by rw [itE_len]; exact hj)]
theorem item_at{w:World}{B e g cap:Nat}{l:List It}{i:Nat}(h:w.ownsRow B e 3 (.slice (some ⟨g,0,none⟩) l.length cap) l.length (l.flatMap itE))(hi:i<l.length) :
  w.cell? ⟨g,i * 3,none⟩=some (.int .i64 l[i].1)∧w.cell? ⟨g,i * 3+1,none⟩=some (.string (ofL l[i].2))∧w.cell? ⟨g,i * 3+2,none⟩=some (.int .i64 0):=by
 refine ⟨?_,?_,?_⟩
 ·have:=h.cellAt (i * 3) (by omega); rw [this]; exact flat_get (j:=0) hi (by decide)
 ·have:=h.cellAt (i * 3+1) (by omega); rw [this]; exact flat_get (j:=1) hi (by decide)
 ·have:=h.cellAt (i * 3+2) (by omega); rw [this]; exact flat_get (j:=2) hi (by decide)
def CaL(c:Nat)(rv:Value)(l:List It):List Res:=[.blk c #[.int .i64 64,rv] 206,.row rv 223 3 l.length (l.flatMap itE)]
def findK(k:Int)(l:List It):Option Nat:=l.findIdx? fun x=>decide (x.1=k)
def placeI(k:Int)(l:List It):Int:=match findK k l with | some i=>i | none => -1
section
variable {W0 w:World} {F:Nat→Prop} {L:List Res} {I:List Inv} {c:Nat} {rv:Value} {l:List It}
theorem place1_ok(k:Int)(x:It)(b:Nat)(w:World)(hb:Blk w b #[.int .i64 k] 3) :
  Ret Tryz.prog 192 [.agg (itE x).toArray,.pointer (some ⟨b,0,none⟩)] w fun u w'=>u=.bool (decide (x.1=k))∧Below w.heap.size w w':=by
 refine ent192 _ _ _ _ ?_
 have hr:=hb.rules
 have hlt:=hb.lt
 simp (disch:=first|omega|exact zF rfl|exact zG rfl|exact fun h=>h|(simp only[zA,zB,zC,zD,bytesW];omega)) only[go_sem,hr,itE]
 (repeat' (first | with_reducible exact Below.refl _ _ | with_reducible assumption | (with_reducible refine Below.drew ?_) | (with_reducible refine Below.alloc ?_ ?_ _) | (with_reducible refine Below.setCell ?_ ?_ _) | (with_reducible refine Below.fill ?_ ?_) | (with_reducible refine Below.via (by assumption) ?_ ?_) | omega | (simp only [World.size_alloc,World.size_drew,World.size_setCell,size_fill,bytesW]; omega)))
theorem index_ok(k:Int)(v:Value)(b:Nat)(hb:Blk w b #[.int .i64 k] 3)(h:RdS w 3 itE v l)(hl:l.length≤1000000) :
  Ret Tryz.prog 191 [v,.func (.func 192) #[] #[.pointer (some ⟨b,0,none⟩)]] w fun u w'=>u=.int .i64 (placeI k l)∧Below w.heap.size w w':=by
 obtain ⟨a,c,rfl,_⟩:=h.form
 refine ent191 _ _ _ _ ?_
 simp (disch:=first|omega|exact zF rfl|exact zG rfl|exact fun h=>h|(simp only[zA,zB,zC,zD,bytesW];omega)) only[go_sem]
 refine W_loopU (fun j:Nat=>[(8,.int .i64 j)]) (fun j w'=>Below w.heap.size w w'∧j≤l.length∧∀ i,(h:i<l.length)→i<j→¬ l[i].1=k) (fun j=>l.length - j) 0 rfl ⟨Below.refl _ _,Nat.zero_le _,fun j _ h=>by omega⟩ ?_
 rintro j w1 ⟨hw,hj,he⟩
 by_cases hlt:j<l.length
 ·obtain ⟨q,rfl⟩:=h.ptr (by omega)
  have ck:=(h.below hw (by decide)).at itE_len hlt
  have hlt':(j:Int)<l.length:=by omega
  simp (disch:=first|omega|exact zF rfl|exact zG rfl|exact fun h=>h|(simp only[zA,zB,zC,zD,bytesW];omega)) only[go_sem,hlt',ck,itE_len]
  refine ⟨by omega,callW_go ⟨by kernel_rfl,Ret.mono (place1_ok k l[j] b w1 (hb.below hw hb.lt)) ?_⟩⟩
  rintro _ w2 ⟨rfl,b2⟩
  have hwt:=hw.trans (b2.mono hw.size)
  by_cases hp:l[j].1=k
  ·simp (disch:=first|omega|exact zF rfl|exact zG rfl|exact fun h=>h|(simp only[zA,zB,zC,zD,bytesW];omega)) only[go_sem,hp]
   have e:placeI k l=j:=by
    unfold placeI findK
    rw [List.findIdx?_eq_some_iff_getElem.2 ⟨hlt,by simp [hp],fun i hi=>by simp [he i (by omega) hi]⟩]
   exact ⟨by rw [e],hwt⟩
  ·simp (disch:=first|omega|exact zF rfl|exact zG rfl|exact fun h=>h|(simp only[zA,zB,zC,zD,bytesW];omega)) only[go_sem,hp]
   refine ⟨⟨by omega,by omega⟩,j+1,rfl,⟨hwt,by omega,fun i h1 h2=>?_⟩,by omega⟩
   rcases Nat.lt_or_ge i j with h' | h'
   ·exact he i h1 h'
   ·obtain rfl:i=j:=by omega
    exact hp
 ·have hlt':¬ (j:Int)<l.length:=by omega
  simp (disch:=first|omega|exact zF rfl|exact zG rfl|exact fun h=>h|(simp only[zA,zB,zC,zD,bytesW];omega)) only[go_sem,hlt']
  have e:placeI k l = -1:=by
   unfold placeI findK
   rw [List.findIdx?_eq_none_iff.2 fun x hx=>by obtain ⟨i,hi,rfl⟩:=List.mem_iff_getElem.1 hx; simp [he i hi (by omega)]]
  exact ⟨by rw [e],hw⟩
theorem place_ok(k:Int)(h:St W0 w F (CaL c rv l++L) I)(hl:l.length≤1000000) :
  Ret Tryz.prog 169 [.pointer (some ⟨c,0,none⟩),.int .i64 k] w fun u w'=>u=.int .i64 (placeI k l)∧Below w.heap.size w w':=by
 refine ent169 _ _ _ _ ?_
 obtain ⟨a,cc,rfl,_⟩:=own_slice (h.row 1 rfl)
 have s1:=h.box #[.int .i64 k] 3
 have r1:=s1.rules 1 rfl
 have t1:=(St.start (W0:=w)).box #[.int .i64 k] 3
 simp (disch:=first|omega|exact zF rfl|exact zG rfl|exact fun h=>h|(simp only[zA,zB,zC,zD,bytesW];omega)) only[go_sem,r1]
 refine Ret.mono (index_ok k _ _ (s1.blk 0 rfl) (RdS.of_own' (s1.row 2 rfl) l rfl rfl) hl) ?_
 rintro _ w2 ⟨rfl,b2⟩
 simp (disch:=first|omega|exact zF rfl|exact zG rfl|exact fun h=>h|(simp only[zA,zB,zC,zD,bytesW];omega)) only[go_sem]
 exact (t1.call b2).bel
theorem front_ok{i:Nat}(h:St W0 w F (CaL c rv l++L) I)(hi:i<l.length)(hl:l.length≤1000000) :
  Ret Tryz.prog 183 [.pointer (some ⟨c,0,none⟩),.int .i64 i] w fun u w'=>St W0 w' F (CaL c rv (l[i]::l.eraseIdx i)++L) I:=by
 refine ent183 _ _ _ _ ?_
 obtain ⟨g,cap,rfl,hg⟩:=(h.row 1 rfl).form (by omega)
 have r1:=h.rules 0 rfl
 obtain ⟨k0,k1,k2⟩:=item_at (h.row 1 rfl) hi
 have hi':(i:Int)<l.length:=by omega
 have s1:=h.box #[.int .i64 l[i].1,.string (ofL l[i].2),.int .i64 0] 223
 simp (disch:=first|omega|exact zF rfl|exact zG rfl|exact fun h=>h|(simp only[zA,zB,zC,zD,bytesW];omega)) only[go_sem,c183S0,r1,k0,k1,k2,hi']
 generalize w.heap.size=y at s1 ⊢
 generalize w.alloc (.cells #[.int .i64 l[i].1,.string (ofL l[i].2),.int .i64 0] 223)=w1 at s1 ⊢
 refine ⟨by omega,c183draw0 (Same (fun k=>k=c) _) (Same.refl _ _) ?_⟩
 have s2:=s1.drew
 have r2:=s2.rules 1 rfl
 have l2:=s2.low 1 rfl
 generalize w1.drew=w2 at s2 r2 l2 ⊢
 simp (disch:=first|omega|exact zF rfl|exact zG rfl|exact fun h=>h|(simp only[zA,zB,zC,zD,bytesW];omega)) only[go_sem,c183S0,c183D0,r2]
 have hcp:∀ w',(∃ xs,xs.length=3∧St W0 w' F ([.blk y #[.int .i64 l[i].1,.string (ofL l[i].2),.int .i64 0] 223,.blk c #[.int .i64 64,.slice (some ⟨g,0,none⟩) l.length cap] 206,.row (.slice (some ⟨g,0,none⟩) l.length cap) 223 3 l.length (xs++(l.eraseIdx i).flatMap itE)]++L) I) →
   W Tryz.prog (c183S0 ()) [(0,.pointer (some ⟨c,0,none⟩)),(4,.pointer (some ⟨y,0,none⟩))] w' (finQ Tryz.prog [] fun u w'=>St W0 w' F (CaL c (.slice (some ⟨g,0,none⟩) l.length cap) (l[i]::l.eraseIdx i)++L) I):=by
  rintro w3 ⟨xs,hx,s3⟩
  simp (disch:=first|omega|exact zF rfl|exact zG rfl|exact fun h=>h|(simp only[zA,zB,zC,zD,bytesW];omega)) only[go_sem,c183S0]
  refine c183draw1 (Chg (fun _=>False) _) (Chg.refl _ _) ?_
  have s4:=s3.drew
  have r4:=s4.rules 1 rfl
  have l4:=s4.low 1 rfl
  have q4:=s4.rules 0 rfl
  generalize w3.drew=w4 at s4 r4 l4 q4 ⊢
  simp (disch:=first|omega|exact zF rfl|exact zG rfl|exact fun h=>h|(simp only[zA,zB,zC,zD,bytesW];omega)) only[go_sem,c183S0,c183D1,r4,q4]
  obtain ⟨x0,x1,x2,rfl⟩:∃ x0 x1 x2,xs=[x0,x1,x2]:=by
   match xs,hx with
   | [a,b,c],_=>exact ⟨a,b,c,rfl⟩
  have hr:=s4.row 2 rfl
  have hc:∀ j,j<3→w4.cell? ⟨g,j,none⟩=([x0,x1,x2]++(l.eraseIdx i).flatMap itE)[j]?:=fun j hj=>hr.cellAt j (by omega)
  refine ⟨by omega,⟨⟨x0,hc 0 (by decide)⟩,hr.frozenAt 0,⟨x1,hc 1 (by decide)⟩,hr.frozenAt 1,⟨x2,hc 2 (by decide)⟩,hr.frozenAt 2⟩,?_⟩
  have s5:=((s4.put 2 rfl 0 (.int .i64 l[i].1)).put 2 rfl 1 (.string (ofL l[i].2))).put 2 rfl 2 (.int .i64 0)
  refine st_recast (s5.sub (List.sublist_cons_self _ _)) ?_
  have e:(l[i]::l.eraseIdx i).length=l.length:=by rw [List.length_cons,List.length_eraseIdx,if_pos hi]; omega
  simp only [CaL,e]
  rfl
 have hle:l.length≤cap:=by
  obtain ⟨_,cap',e,hc⟩:=own_slice (h.row 1 rfl)
  cases e; exact hc
 have e0:offA (some ⟨g,0,none⟩) cap 0 3=some ⟨g,0 * 3,none⟩:=by unfold offA; split <;> rfl
 have ek:(((i:Int)+1).toNat - 1)=i:=by omega
 rw [e0,ek]
 obtain ⟨o,ho1,ho2,ho3⟩:∃ o:Nat,o+i≤l.length∧offA (some ⟨g,0,none⟩) cap 1 3=some ⟨g,o * 3,none⟩∧(o=1∨i=0∧o=0):=by
  by_cases hc:cap=1
  ·exact ⟨0,by omega,by unfold offA; rw [if_pos hc],.inr ⟨by omega,rfl⟩⟩
  ·exact ⟨1,by omega,by unfold offA; rw [if_neg hc]; rfl,.inl rfl⟩
 rw [ho2]
 refine ⟨by constructor <;> omega,⟨by omega,by omega⟩,Same.refl _ _,⟨by omega,by omega⟩,?_⟩
 refine s2.copy (i:=2) (o:=o) (m:=0) (k:=i) rfl ty204mkI ho1 (by omega) (itE_ones l) (Nat.min_self i) ?_
 intro w3 s3
 have sm:Same (fun k=>k=c) w2 w3:=fun k hk=>by subst hk; exact (s3.blk 1 rfl).trans (s2.blk 1 rfl).symm
 simp (disch:=first|omega|exact zF rfl|exact zG rfl|exact fun h=>h|(simp only[zA,zB,zC,zD,bytesW];omega)) only[go_sem]
 refine ⟨sm,hcp w3 ⟨itE (l[0]'(by omega)),rfl,st_recast s3 ?_⟩⟩
 have e1:(l.flatMap itE).take (o * 3)++((l.flatMap itE).drop (0 * 3)).take (i * 3)++(l.flatMap itE).drop ((o+i) * 3)=itE (l[0]'(by omega))++(l.eraseIdx i).flatMap itE:=by
  rw [flat_take,flat_drop,flat_take,flat_drop,List.drop_zero,List.eraseIdx_eq_take_drop_succ,List.flatMap_append]
  have h0:0<l.length:=by omega
  rcases ho3 with rfl | ⟨rfl,rfl⟩
  ·have:l.take 1=[l[0]'h0]:=by
    have:=List.take_succ_eq_append_getElem h0
    simpa using this
   rw [this,List.flatMap_cons,List.flatMap_nil,List.append_nil,List.append_assoc,show 1+i=i+1 by omega]
  ·have:l.drop (0+0)=l[0]'h0::l.drop (0+1):=List.drop_eq_getElem_cons h0
   rw [this,List.flatMap_cons]
   simp
 simp only [List.set_cons_succ,List.set_cons_zero,List.cons_append,CaL,e1]
end
open Go Go.Ann Go.RowKit Go.WideShapes
theorem slice3W{P:Program}{t e sz bytes:Nat}{z:Value}{x lo hi mx:Operand}{ty:TypeId}{ρ:Env}{w:World}{K:Value→World→Prop}{a:Option Addr}{n c i j m:Nat}(hm:mkI P t=some (e,sz,bytes,z))(hx:ev ρ x=some (.slice a n c))(h1:ev ρ lo=some (.int .i64 i))(h2:ev ρ hi=some (.int .i64 j))(h3:ev ρ mx=some (.int .i64 m))(hij:i≤j)(hjm:j≤m)(hmc:m≤c)(hc:c≤9223372036854775807)
  (hK:∀ v,K v w):opW P (.slice t x (some lo) (some hi) (some mx)) ty ρ w K:=by
 show rawW _ _ _ _ _ _
 intro f hf
 obtain ⟨inf,hu,hi',_,hsi,_⟩:=mkI_some hm
 refine ⟨.slice (if m=i then a else a.map (·.add (i * P.cellsOf e))) (j - i) (m - i),w,?_,hK _⟩
 have b1:(0:Int)≤(m:Int)∧(m:Int)≤c:=by omega
 have b2:(0:Int)≤(j:Int)∧(j:Int)≤m:=by omega
 have b3:(0:Int)≤(i:Int)∧(i:Int)≤j:=by omega
 have hrun:(Instr.sliceAt t (.slice a n c) (some (.int .i64 i)) (some (.int .i64 j)) (some (.int .i64 m))).run P w=.ok (.slice (if m=i then a else a.map (·.add (i * P.cellsOf e))) (j - i) (m - i)) w:=by
  rw [run_sliceAt_slice w _ _ _ _ _ (by simp [Program.elem,hu])]
  simp only [Instr.slice,Sem.run_bind,run_underlying hu,Result.andThen,Instr.sliceBounds,Sem.run_pure,Option.isSome,if_true,run_sizeOf w hi',run_bound w b1.1 b1.2,Int.toNat_natCast,run_bound w b2.1 b2.2,run_bound w b3.1 b3.2]
 simp [execOp,rawOp,Option.map_some,hf _ _ hx,hf _ _ h1,hf _ _ h2,hf _ _ h3,hrun]
theorem overL_low{xs vs:List Value}{o k:Nat}(hk:k≤o)(ho:o≤xs.length):(overL xs o vs).take k=xs.take k:=by
 unfold overL
 rw [List.append_assoc,List.take_append_of_le_length (by rw [List.length_take]; omega),List.take_take,Nat.min_eq_left hk]
section
variable {W0 w:World} {F:Nat→Prop} {L:List Res} {I:List Inv} {rv:Value} {l:List It}
theorem delete_ok{i:Nat}(h:St W0 w F (.row rv 223 3 l.length (l.flatMap itE)::L) I)(hi:i<l.length)(hl:l.length≤1000000) :
  Ret Tryz.prog 170 [rv,.int .i64 i,.int .i64 ((i:Int)+1)] w fun u w'=>St W0 w' F (.row u 223 3 (l.eraseIdx i).length ((l.eraseIdx i).flatMap itE)::L) I:=by
 have hr:=h.row 0 rfl
 rcases hr.2 with ⟨_,h0⟩ | ⟨g,cap,cur,rfl,hb,hg,hnc,hcm,hcs,htake⟩
 ·omega
 refine ent170 _ _ _ _ _ ?_
 simp (disch:=first|omega|exact zF rfl|exact zG rfl|exact fun h=>h|(simp only[zA,zB,zC,zD,bytesW];omega)) only[go_sem]
 refine slice3W (a:=some ⟨g,0,none⟩) (n:=l.length) (c:=cap) (i:=i) (j:=i+1) (m:=l.length) ty204mkI rfl rfl rfl rfl (by omega) (by omega) hnc (by simp only [maxLen] at hcm; omega) ?_
 intro v
 have hne:¬ (i:Int)=(i:Int)+1:=by omega
 simp (disch:=first|omega|exact zF rfl|exact zG rfl|exact fun h=>h|(simp only[zA,zB,zC,zD,bytesW];omega)) only[go_sem,hne]
 refine c170draw0 ?_
 have h2:=h.drew
 simp (disch:=first|omega|exact zF rfl|exact zG rfl|exact fun h=>h|(simp only[zA,zB,zC,zD,bytesW];omega)) only[go_sem,c170D0]
 have hlen:=flat_len l
 have hclen:cur.toList.length=cap * 3:=by rw [Array.length_toList,hcs]
 have e0:offA (some ⟨g,0,none⟩) cap 0 3=some ⟨g,0,none⟩:=by unfold offA; split <;> rfl
 have e1:((i:Int)+1).toNat=i+1:=by omega
 rw [e0,e1]
 have hsrc:Rd w.drew 3 (.slice (offA (some ⟨g,0,none⟩) cap (i+1) 3) (l.length - (i+1)) (cap - (i+1))) (l.length - (i+1)) ((l.drop (i+1)).flatMap itE):=by
  refine ⟨by rw [flat_len,List.length_drop],_,_,rfl,by omega,fun hn=>?_⟩
  have hc:¬ cap=i+1:=by omega
  refine ⟨⟨g,(i+1) * 3,none⟩,by unfold offA; rw [if_neg hc]; simp [Addr.add_lit],fun j u hu=>?_⟩
  have hj:j<(l.length - (i+1)) * 3:=by
   have:=(List.getElem?_eq_some_iff.1 hu).1
   rwa [flat_len,List.length_drop] at this
  rw [Addr.add_lit]
  show w.cell? _=_
  rw [(h.row 0 rfl).cellAt _ (by omega),← List.getElem?_drop,flat_drop,hu]
 refine ⟨⟨by omega,by omega⟩,⟨by omega,by omega⟩,appendB (sz:=3) ty204mkI (show Blk w.drew g cur _ from hg) (by omega) (by omega) hsrc (itE_ones _) ?_⟩
 intro w3 b3 c3
 have hyl:((l.drop (i+1)).flatMap itE).length=(l.length - (i+1)) * 3:=by rw [flat_len,List.length_drop]
 have e2:i+(l.length - (i+1))=l.length - 1:=by omega
 rw [e2]
 have hl3:(overL cur.toList (i * 3) ((l.drop (i+1)).flatMap itE)).length=cap * 3:=by rw [overL_length (by rw [hyl,hclen]; omega),hclen]
 simp (disch:=first|omega|exact zF rfl|exact zG rfl|exact fun h=>h|(simp only[zA,zB,zC,zD,bytesW];omega)) only[go_sem]
 have e3:offA (some ⟨g,0,none⟩) cap (l.length - 1) 3=some ⟨g,(l.length - 1) * 3,none⟩:=by
  unfold offA; rw [if_neg (by omega)]; simp [Addr.add_lit]
 rw [e3]
 refine ⟨⟨by omega,by omega,by omega⟩,clearB (sz:=3) ty204mkI rfl (itE_ones [(0,[])]) b3 (by rw [List.size_toArray,hl3]; omega) ?_⟩
 intro w5 zs hzl b5 c5
 simp (disch:=first|omega|exact zF rfl|exact zG rfl|exact fun h=>h|(simp only[zA,zB,zC,zD,bytesW];omega)) only[go_sem]
 have hzl:zs.length=3:=by rw [hzl]; omega
 simp only [List.toList_toArray] at b5
 have hl5:(overL (overL cur.toList (i * 3) ((l.drop (i+1)).flatMap itE)) ((l.length - 1) * 3) zs).length=cap * 3:=by rw [overL_length (by rw [hzl,hl3]; omega),hl3]
 have hn':(l.eraseIdx i).length=l.length - 1:=by rw [List.length_eraseIdx,if_pos hi]
 have ht:(overL (overL cur.toList (i * 3) ((l.drop (i+1)).flatMap itE)) ((l.length - 1) * 3) zs).take ((l.length - 1) * 3)=(l.eraseIdx i).flatMap itE:=by
  have t1:=overL_low (vs:=zs) (show (l.length - 1) * 3≤(l.length - 1) * 3 from Nat.le_refl _) (show (l.length - 1) * 3≤(overL cur.toList (i * 3) ((l.drop (i+1)).flatMap itE)).length by rw [hl3]; omega)
  rw [t1,overL_take (by rw [hyl]; omega) (by rw [hclen]; omega)]
  have t2:cur.toList.take (i * 3)=(l.take i).flatMap itE:=by
   rw [← flat_take,← htake,List.take_take,Nat.min_eq_left (by omega)]
  rw [t2,List.eraseIdx_eq_take_drop_succ,List.flatMap_append]
 have hc:Chg (fun k=>(Res.row (.slice (some ⟨g,0,none⟩) l.length cap) 223 3 l.length (l.flatMap itE)).own=some k) w w5 :=
  (((Chg.refl (fun k=>k=g) w).drew.trans c3).trans c5).mono fun k _ hk=>by subst hk; rfl
 refine h.upd 0 rfl hc _ ⟨?_,.inr ⟨g,cap,_,by rw [hn'],hb,b5,by omega,hcm,?_,?_⟩⟩ fun k hk=>.inl hk
 ·rw [flat_len]
 ·rw [List.size_toArray,hl5]
 ·rw [hn']; exact ht
theorem capB{P:Program}{t e sz bytes ty:Nat}{z:Value}{cs:Array Bool}{w:World}{K:Value→World→Prop}{a:Option Addr}{n c:Nat}(hm:mkI P t=some (e,sz,bytes,z))(hK:K (.int .i64 c) w):biW P .cap #[t] ty cs [.slice a n c] w K:=by
 show rawB _ _ _ _ _ _ _ _
 obtain ⟨i,hu,_,_,_,_⟩:=mkI_some hm
 refine ⟨_,w,?_,hK⟩
 simp [builtin,Builtin.cap_,goInt,run_underlying hu]
theorem overL_head{ys xs:List Value}{k:Nat}(h:xs.length≤k):(overL ys 0 xs).take k=xs++(ys.take k).drop xs.length:=by
 unfold overL
 rw [List.take_zero,List.nil_append,Nat.zero_add,List.take_append,List.take_of_length_le h,List.drop_take]
@[go_sem] theorem goOverlaps:goFunc Tryz.prog 201=false:=by kernel_rfl
theorem insert_ok{x:It}{vb:Nat}(h:St W0 w F (.row rv 223 3 l.length (l.flatMap itE)::.blk vb (itE x).toArray 223::L) I)(hl:l.length≤1000000) :
  Ret Tryz.prog 184 [rv,.int .i64 0,.slice (some ⟨vb,0,none⟩) 1 1] w fun u w'=>St W0 w' F (.row u 223 3 (l.length+1) ((x::l).flatMap itE)::.blk vb (itE x).toArray 223::L) I:=by
 have hr:=h.row 0 rfl
 have hv:=h.blk 1 rfl
 obtain ⟨a,cap,rfl,hnc⟩:=own_slice hr
 have hx:Rd w 3 (.slice (some ⟨vb,0,none⟩) 1 1) 1 (itE x):=by
  refine ⟨rfl,_,_,rfl,Nat.le_refl _,fun _=>⟨_,rfl,fun j u hu=>?_⟩⟩
  rw [Addr.add_lit,Nat.zero_add,hv.cell,List.getElem?_toArray]
  exact hu
 refine ent184 _ _ _ _ _ ?_
 by_cases hn:l.length=0
 ·have hl0:l=[]:=List.eq_nil_of_length_eq_zero hn
  subst hl0
  simp (disch:=first|omega|exact zF rfl|exact zG rfl|exact fun h=>h|(simp only[zA,zB,zC,zD,bytesW];omega)) only[go_sem]
  refine h.append 0 rfl ty204mkI rfl (by decide) hx (itE_one x) (by simp) (by simp) ?_
  intro v2 w2 s2 _
  simp (disch:=first|omega|exact zF rfl|exact zG rfl|exact fun h=>h|(simp only[zA,zB,zC,zD,bytesW];omega)) only[go_sem]
  exact s2
 have hn':¬ (0:Int)=l.length:=by omega
 rcases hr.2 with ⟨_,h0⟩ | ⟨g,cap',cur,hv',hb,hg,hnc',hcm,hcs,htake⟩
 ·omega
 simp only [Value.slice.injEq,true_and] at hv'
 obtain ⟨rfl,rfl⟩:=hv'
 have hclen:cur.toList.length=cap * 3:=by rw [Array.length_toList,hcs]
 have hcells:∀ j u,(l.flatMap itE)[j]?=some u→w.cell? ((⟨g,0,none⟩:Addr).add j)=some u:=fun j u hu=>by
  have hj:j<l.length * 3:=by
   have:=(List.getElem?_eq_some_iff.1 hu).1
   rwa [flat_len] at this
  rw [Addr.add_lit,Nat.zero_add,hr.cellAt _ hj,hu]
 have hvcells:∀ j u,(itE x)[j]?=some u→w.cell? ((⟨vb,0,none⟩:Addr).add j)=some u:=fun j u hu=>by
  rw [Addr.add_lit,Nat.zero_add,hv.cell,List.getElem?_toArray]; exact hu
 have hgv:g≠vb:=fun e=>h.ne 0 1 rfl rfl (by decide) (k:=g) rfl (by rw [e]; rfl)
 have e0:offA (some ⟨g,0,none⟩) cap 0 3=some ⟨g,0,none⟩:=by unfold offA; split <;> rfl
 have hfl:=flat_len l
 by_cases hc:cap<l.length+1
 ·have hc':(cap:Int)<l.length+1:=by omega
  simp (disch:=first|omega|exact zF rfl|exact zG rfl|exact fun h=>h|(simp only[zA,zB,zC,zD,bytesW];omega)) only[go_sem,hn',hc']
  refine ⟨by omega,⟨by omega,by omega⟩,capB ty204mkI ?_⟩
  simp (disch:=first|omega|exact zF rfl|exact zG rfl|exact fun h=>h|(simp only[zA,zB,zC,zD,bytesW];omega)) only[go_sem,hc']
  rw [e0,show ((l.length:Int)+1 - 0)=((l.length+1:Nat):Int) by omega]
  refine ⟨by omega,⟨by omega,by omega⟩,⟨by omega,by omega⟩,growB ty204mkI Tryz.underlying3 rfl (by decide) (by omega) hc (by omega) (by omega) ?_⟩
  intro G Z hG1 hG2 hZ
  have b1:Below w.heap.size w (w.drew.alloc (.cells Z 223)):=((Below.refl _ w).drew).alloc (Nat.le_refl _) _
  have B1:Blk (w.drew.alloc (.cells Z 223)) w.heap.size Z 223:=Blk.new (w:=w.drew)
  have hlt:=hr.lt g rfl
  have hltv:=hv.lt
  generalize w.drew.alloc (.cells Z 223)=w1 at b1 B1 ⊢
  generalize hy:w.heap.size=y at b1 B1 hlt hltv ⊢
  simp (disch:=first|omega|exact zF rfl|exact zG rfl|exact fun h=>h|(simp only[zA,zB,zC,zD,bytesW];omega)) only[go_sem]
  have e1:offA (some ⟨y,0,none⟩) G 0 3=some ⟨y,0,none⟩:=by unfold offA; split <;> rfl
  have hZl:Z.toList.length=G * 3:=by rw [Array.length_toList,hZ]
  have old1:∀ p:Addr,p.block<y→w1.cell? p=w.cell? p:=fun p hp=>World.cell?_of_block (b1.block _ hp)
  rw [e1]
  refine ⟨by omega,copyB (sz:=3) (k:=1) (ys:=itE x) ty204mkI B1 (by omega) rfl (fun j u hu=>by rw [old1 _ (by rw [add_block]; exact hltv)]; exact hvcells j u hu) (itE_one x) (by rw [hZ,itE_len]; omega) ?_⟩
  intro w2 B2 c2
  have b2:Below y w w2:=b1.trans (c2.below (hy ▸ b1.size) fun k hk e=>by omega)
  simp (disch:=first|omega|exact zF rfl|exact zG rfl|exact fun h=>h|(simp only[zA,zB,zC,zD,bytesW];omega)) only[go_sem]
  refine c184draw0 ?_
  have b3:Below y w w2.drew:=b2.drew
  have B3:Blk w2.drew y (overL Z.toList 0 (itE x)).toArray 223:=B2
  have old3:∀ p:Addr,p.block<y→w2.drew.cell? p=w.cell? p:=fun p hp=>World.cell?_of_block (b3.block _ hp)
  generalize w2.drew=w3 at b3 B3 old3 ⊢
  have e3:offA (some ⟨y,0,none⟩) G 1 3=some ⟨y,3,none⟩:=by unfold offA; rw [if_neg (by omega)]; rfl
  have hl3:(overL Z.toList 0 (itE x)).length=G * 3:=by rw [overL_length (by rw [hZl,itE_len]; omega),hZl]
  simp (disch:=first|omega|exact zF rfl|exact zG rfl|exact fun h=>h|(simp only[zA,zB,zC,zD,bytesW];omega)) only[go_sem,c184D0]
  rw [e3,e0]
  refine ⟨⟨by omega,by omega⟩,by omega,by omega,copyB (sz:=3) (k:=l.length) (ys:=l.flatMap itE) ty204mkI B3 (by rw [Nat.sub_zero]; exact Nat.min_self _) hfl (fun j u hu=>by rw [old3 _ (by rw [add_block]; exact hlt.2)]; exact hcells j u hu) (itE_ones l) (by rw [List.size_toArray,hl3,hfl]; omega) ?_⟩
  intro w5 B5 c5
  simp only [List.toList_toArray] at B5
  have b5:Below w.heap.size w w5:=by
   rw [hy]
   exact b3.trans (c5.below (hy ▸ b3.size) fun k hk e=>by omega)
  simp (disch:=first|omega|exact zF rfl|exact zG rfl|exact fun h=>h|(simp only[zA,zB,zC,zD,bytesW];omega)) only[go_sem]
  have hl5:(overL (overL Z.toList 0 (itE x)) 3 (l.flatMap itE)).length=G * 3:=by rw [overL_length (by rw [hl3,hfl]; omega),hl3]
  have ht:(overL (overL Z.toList 0 (itE x)) 3 (l.flatMap itE)).take ((l.length+1) * 3)=(x::l).flatMap itE:=by
   rw [overL_take (by rw [hfl]; omega) (by rw [hl3]; omega),overL_take (by rw [itE_len]) (by omega),List.take_zero,List.nil_append,List.flatMap_cons]
  have hnew:(Res.row (.slice (some ⟨y,0,none⟩) (l.length+1) G) 223 3 (l.length+1) ((x::l).flatMap itE)).ok w5 W0.heap.size :=
   ⟨by rw [flat_len,List.length_cons],.inr ⟨y,G,_,rfl,by rw [← hy]; exact h.size,B5,hG1,hG2,by rw [List.size_toArray,hl5],ht⟩⟩
  have s5:=h.add b5 _ hnew fun k hk=>by
   simp only [Res.own,Value.ownBlock,Option.some.injEq] at hk; omega
  exact s5.sub (List.Sublist.cons_cons _ (List.sublist_cons_self _ _))
 ·have hc':¬ (cap:Int)<l.length+1:=by omega
  simp (disch:=first|omega|exact zF rfl|exact zG rfl|exact fun h=>h|(simp only[zA,zB,zC,zD,bytesW];omega)) only[go_sem,hn',hc']
  refine ⟨by omega,⟨by omega,by omega⟩,capB ty204mkI ?_⟩
  simp (disch:=first|omega|exact zF rfl|exact zG rfl|exact fun h=>h|(simp only[zA,zB,zC,zD,bytesW];omega)) only[go_sem,hc']
  have e1:offA (some ⟨g,0,none⟩) cap 1 3=some ⟨g,3,none⟩:=by unfold offA; rw [if_neg (by omega)]; rfl
  rw [e0,e1]
  refine ⟨⟨by omega,by omega⟩,⟨by omega,by omega⟩,⟨by omega,by omega⟩,by omega,overlapsW (t:=204) (tR:=4) Tryz.func201 (by kernel_rfl) (by kernel_rfl) (by kernel_rfl) (by kernel_rfl) ty204mkI (fun e=>hgv e.symm) hv hg (by omega) ?_⟩
  simp (disch:=first|omega|exact zF rfl|exact zG rfl|exact fun h=>h|(simp only[zA,zB,zC,zD,bytesW];omega)) only[go_sem]
  refine c184draw1 ?_
  have h2:=h.drew
  have hg2:Blk w.drew g cur 223:=hg
  have hc2:∀ j u,(l.flatMap itE)[j]?=some u→w.drew.cell? ((⟨g,0,none⟩:Addr).add j)=some u:=hcells
  have e2:((l.length:Int)+1).toNat=l.length+1:=by omega
  simp (disch:=first|omega|exact zF rfl|exact zG rfl|exact fun h=>h|(simp only[zA,zB,zC,zD,bytesW];omega)) only[go_sem,c184D1]
  rw [e2,e0,e1]
  refine ⟨by constructor <;> omega,by omega,by omega,copyB (sz:=3) (k:=l.length) (ys:=l.flatMap itE) ty204mkI hg2 (by omega) hfl hc2 (itE_ones l) (by rw [hfl]; omega) ?_⟩
  intro w3 B3 c3
  have hl3:(overL cur.toList 3 (l.flatMap itE)).length=cap * 3:=by rw [overL_length (by rw [hclen,hfl]; omega),hclen]
  have hvc3:∀ j u,(itE x)[j]?=some u→w3.cell? ((⟨vb,0,none⟩:Addr).add j)=some u:=fun j u hu=>by
   have:w3.cell? ((⟨vb,0,none⟩:Addr).add j)=w.cell? ((⟨vb,0,none⟩:Addr).add j):=World.cell?_of_block (by rw [add_block]; exact c3.block vb hv.lt (fun e=>hgv e.symm))
   rw [this]; exact hvcells j u hu
  simp (disch:=first|omega|exact zF rfl|exact zG rfl|exact fun h=>h|(simp only[zA,zB,zC,zD,bytesW];omega)) only[go_sem]
  rw [e0]
  refine ⟨by omega,copyB (sz:=3) (k:=1) (ys:=itE x) ty204mkI B3 (by omega) rfl hvc3 (itE_one x) (by rw [List.size_toArray,hl3,itE_len]; omega) ?_⟩
  intro w5 B5 c5
  simp only [List.toList_toArray] at B5
  simp (disch:=first|omega|exact zF rfl|exact zG rfl|exact fun h=>h|(simp only[zA,zB,zC,zD,bytesW];omega)) only[go_sem]
  have hl5:(overL (overL cur.toList 3 (l.flatMap itE)) 0 (itE x)).length=cap * 3:=by rw [overL_length (by rw [hl3,itE_len]; omega),hl3]
  have ht:(overL (overL cur.toList 3 (l.flatMap itE)) 0 (itE x)).take ((l.length+1) * 3)=(x::l).flatMap itE:=by
   rw [overL_head (by rw [itE_len]; omega),overL_take (by rw [hfl]; omega) (by rw [hclen]; omega),itE_len,List.drop_append,List.drop_of_length_le (by rw [List.length_take]; omega),List.nil_append,List.length_take,Nat.min_eq_left (by omega),Nat.sub_self,List.drop_zero,List.flatMap_cons]
  have hc:Chg (fun k=>(Res.row (.slice (some ⟨g,0,none⟩) l.length cap) 223 3 l.length (l.flatMap itE)).own=some k) w w5 :=
   (((Chg.refl (fun k=>k=g) w).drew.trans c3).trans c5).mono fun k _ hk=>by subst hk; rfl
  exact h.upd 0 rfl hc (.row (.slice (some ⟨g,0,none⟩) (l.length+1) cap) 223 3 (l.length+1) ((x::l).flatMap itE)) ⟨by rw [flat_len,List.length_cons],.inr ⟨g,cap,_,rfl,hb,B5,by omega,hcm,by rw [List.size_toArray,hl5],ht⟩⟩ fun k hk=>.inl hk
end
open Go Go.Ann Go.RowKit Go.WideShapes
section
variable {W0 w:World} {F:Nat→Prop} {L:List Res} {I:List Inv} {c:Nat} {rv:Value} {l:List It}
theorem place_some{k:Int}{i:Nat}(h:findK k l=some i):placeI k l=i∧∃ hi:i<l.length,l[i].1=k:=by
 unfold placeI; rw [h]
 unfold findK at h
 obtain ⟨h1,h2,_⟩:=List.findIdx?_eq_some_iff_getElem.1 h
 exact ⟨rfl,h1,by simpa using h2⟩
theorem place_none{k:Int}(h:findK k l=none):placeI k l = -1:=by unfold placeI; rw [h]
theorem cnew_ok(h:St W0 w F L I) :
  Ret Tryz.prog 113 [.int .i64 64] w fun u w'=>∃ c,u=.tuple #[.pointer (some ⟨c,0,none⟩),.int .i64 0]∧St W0 w' F (CaL c (.slice none 0 0) []++L) I:=by
 refine ent113 _ _ _ ?_
 simp (disch:=first|omega|exact zF rfl|exact zG rfl|exact fun h=>h|(simp only[zA,zB,zC,zD,bytesW];omega)) only[go_sem]
 refine bdW_built (cells:=#[.int .i64 64,.slice none 0 0]) (by kernel_rfl) ?_
 have s1:=(h.box #[.int .i64 64,.slice none 0 0] 206).nilRow 223 3
 simp (disch:=first|omega|exact zF rfl|exact zG rfl|exact fun h=>h|(simp only[zA,zB,zC,zD,bytesW];omega)) only[go_sem]
 exact ⟨_,rfl,St.front (A:=[.row (.slice none 0 0) 223 3 0 []]) (D:=[_]) (L:=L) s1⟩
def getC(k:Int)(l:List It):List UInt8 × Bool × List It:=match findK k l with
 | some i=>((l.getD i (0,[])).2,true,l.getD i (0,[])::l.eraseIdx i)
 | none=>([],false,l)
theorem cget_ok(k:Int)(h:St W0 w F (CaL c rv l++L) I)(hl:l.length≤1000000) :
  Ret Tryz.prog 145 [.pointer (some ⟨c,0,none⟩),.int .i64 k] w fun u w'=>u=.tuple #[.string (ofL (getC k l).1),.bool (getC k l).2.1]∧St W0 w' F (CaL c rv (getC k l).2.2++L) I:=by
 refine ent145 _ _ _ _ ?_
 simp (disch:=first|omega|exact zF rfl|exact zG rfl|exact fun h=>h|(simp only[zA,zB,zC,zD,bytesW];omega)) only[go_sem]
 refine Ret.mono (place_ok k h hl) ?_
 rintro _ w2 ⟨rfl,b2⟩
 have s2:=h.call b2
 unfold getC
 cases hf:findK k l with
 | none =>
  rw [place_none hf]
  simp (disch:=first|omega|exact zF rfl|exact zG rfl|exact fun h=>h|(simp only[zA,zB,zC,zD,bytesW];omega)) only[go_sem]
  exact s2
 | some i =>
  obtain ⟨e1,hi,e2⟩:=place_some hf
  rw [e1]
  have hi':¬ (i:Int)<0:=by omega
  simp (disch:=first|omega|exact zF rfl|exact zG rfl|exact fun h=>h|(simp only[zA,zB,zC,zD,bytesW];omega)) only[go_sem,hi']
  refine Ret.mono (front_ok s2 hi hl) ?_
  rintro u w3 s3
  have eg:l.getD i (0,[])=l[i]:=by rw [List.getD_eq_getElem?_getD,List.getElem?_eq_getElem hi]; rfl
  simp only [eg]
  have hlen:(l[i]::l.eraseIdx i).length=l.length:=by rw [List.length_cons,List.length_eraseIdx,if_pos hi]; omega
  obtain ⟨g,cap,rfl,_⟩:=(s3.row 1 rfl).form (by rw [hlen]; omega)
  obtain ⟨k0,k1,k2⟩:=item_at (i:=0) (s3.row 1 rfl) (by rw [hlen]; omega)
  have r3:=s3.rules 0 rfl
  have h0:(0:Int)<(l[i]::l.eraseIdx i).length:=by rw [hlen]; omega
  have k1':w3.cell? ⟨g,1,none⟩=some (.string (ofL l[i].2)):=k1
  simp (disch:=first|omega|exact zF rfl|exact zG rfl|exact fun h=>h|(simp only[zA,zB,zC,zD,bytesW];omega)) only[go_sem,r3,h0,k1']
  exact ⟨by omega,s3⟩
def cutC(l:List It):List It:=if l.length<64 then l else l.eraseIdx (l.length - 1)
theorem cutC_sub(l:List It):(cutC l).Sublist l:=by
 unfold cutC
 split
 ·exact List.Sublist.refl _
 ·exact List.eraseIdx_sublist _ _
theorem cutC_len{l:List It}(h:l.length≤64):(cutC l).length≤63:=by
 unfold cutC
 split
 ·omega
 ·rw [List.length_eraseIdx]
  split <;> omega
theorem cput_ok{k:Int}{v:List UInt8}(h:St W0 w F (CaL c rv l++L) I)(hf:findK k l=none)(hl:l.length≤64) :
  Ret Tryz.prog 146 [.pointer (some ⟨c,0,none⟩),.int .i64 k,.string (ofL v)] w fun u w'=>∃ rv',St W0 w' F (CaL c rv' ((k,v)::cutC l)++L) I:=by
 refine ent146 _ _ _ _ _ ?_
 have r1:=h.rules 0 rfl
 simp (disch:=first|omega|exact zF rfl|exact zG rfl|exact fun h=>h|(simp only[zA,zB,zC,zD,bytesW];omega)) only[go_sem,c146L0,c146S4,c146S7,r1]
 refine Ret.mono (place_ok k h (by omega)) ?_
 rintro _ w2 ⟨rfl,b2⟩
 rw [place_none hf]
 have s2:=h.call b2
 have r2:=s2.rules 0 rfl
 simp (disch:=first|omega|exact zF rfl|exact zG rfl|exact fun h=>h|(simp only[zA,zB,zC,zD,bytesW];omega)) only[go_sem,c146L0,c146S4,c146S7,r2]
 refine c146draw0 ?_
 have s3:=s2.drew
 have r3:=s3.rules 0 rfl
 obtain ⟨a,cap,rfl,_⟩:=own_slice (s3.row 1 rfl)
 have key:∀ (w3:World) (a:Option Addr) (cap:Nat) (l:List It) (x9 x11:Value),l.length≤63→St W0 w3 F (CaL c (.slice a l.length cap) l++L) I→W Tryz.prog (sg c146S7) [(0,.pointer (some ⟨c,0,none⟩)),(1,.int .i64 k),(2,.string (ofL v)),(9,x9),(11,x11)] w3 (finQ Tryz.prog [.tmp 6,.tmp 7,.tmp 8] fun u w'=>∃ rv',St W0 w' F (CaL c rv' ((k,v)::l)++L) I):=by
  intro w3 a cap l x9 x11 hl s3
  have r3:=s3.rules 0 rfl
  simp (disch:=first|omega|exact zF rfl|exact zG rfl|exact fun h=>h|(simp only[zA,zB,zC,zD,bytesW];omega)) only[go_sem,c146L0,c146S4,c146S7,r3]
  refine bdW_built (cells:=(itE (k,v)).toArray) (by kernel_rfl) ?_
  simp (disch:=first|omega|exact zF rfl|exact zG rfl|exact fun h=>h|(simp only[zA,zB,zC,zD,bytesW];omega)) only[go_sem,c146L0,c146S4,c146S7]
  refine bsW_agg ty204mkI rfl (by decide) (by decide) ?_
  have s4:=s3.box (itE (k,v)).toArray 223
  simp (disch:=first|omega|exact zF rfl|exact zG rfl|exact fun h=>h|(simp only[zA,zB,zC,zD,bytesW];omega)) only[go_sem,c146L0,c146S4,c146S7]
  generalize w3.heap.size=y at s4 ⊢
  generalize w3.alloc (.cells (itE (k,v)).toArray 223)=w4 at s4 ⊢
  have s5:St W0 w4 F (.row (.slice a l.length cap) 223 3 l.length (l.flatMap itE)::.blk y (itE (k,v)).toArray 223::.blk c #[.int .i64 64,.slice a l.length cap] 206::L) I :=
   St.front (A:=[_,_]) (D:=[_]) (L:=L) s4
  refine Ret.mono (insert_ok s5 (by omega)) ?_
  rintro u w6 s6
  have s8:St W0 w6 F ([.blk c #[.int .i64 64,.slice a l.length cap] 206,.row u 223 3 (l.length+1) (((k,v)::l).flatMap itE)]++L) I:=by
   have:=s6.sub (L':=.row u 223 3 (l.length+1) (((k,v)::l).flatMap itE)::.blk c #[.int .i64 64,.slice a l.length cap] 206::L) (List.Sublist.cons_cons _ (List.sublist_cons_self _ _))
   exact St.front (A:=[_]) (D:=[_]) (L:=L) this
  obtain ⟨a8,cap8,rfl,_⟩:=own_slice (s8.row 1 rfl)
  have r8:=s8.rules 0 rfl
  simp (disch:=first|omega|exact zF rfl|exact zG rfl|exact fun h=>h|(simp only[zA,zB,zC,zD,bytesW];omega)) only[go_sem,c146L0,c146S4,c146S7,r8]
  exact ⟨_,s8.set 0 rfl 1 (.slice a8 (l.length+1) cap8)⟩
 by_cases h63:l.length<64
 ·have h64:¬ (64:Int)≤l.length:=by omega
  have ec:cutC l=l:=by unfold cutC; rw [if_pos h63]
  rw [ec]
  generalize w2.drew=w3 at s3 r3 ⊢
  simp (disch:=first|omega|exact zF rfl|exact zG rfl|exact fun h=>h|(simp only[zA,zB,zC,zD,bytesW];omega)) only[go_sem,c146L0,c146S4,c146D0,r3,h64]
  exact key _ _ _ _ _ _ (by omega) s3
 have h64:(64:Int)≤l.length:=by omega
 have ec:cutC l=l.eraseIdx (l.length - 1):=by unfold cutC; rw [if_neg h63]
 generalize w2.drew=w3 at s3 r3 ⊢
 simp (disch:=first|omega|exact zF rfl|exact zG rfl|exact fun h=>h|(simp only[zA,zB,zC,zD,bytesW];omega)) only[go_sem,c146D0,r3,h64]
 have hil:l.length - 1<l.length:=by omega
 have e63:(l.length:Int) - 1=((l.length - 1:Nat):Int):=by omega
 rw [e63]
 refine ⟨by constructor <;> omega,?_⟩
 refine W_loopU (fun _:Unit=>[]) (fun _ w'=>w'=w3) (fun _=>0) () rfl rfl ?_
 rintro _ _ rfl
 obtain ⟨g,cp,hg,_⟩:=(s3.row 1 rfl).form (by omega)
 cases hg
 obtain ⟨k0,k1,k2⟩:=item_at (i:=l.length - 1) (s3.row 1 rfl) hil
 rename_i w3
 have h0:(0:Int)≤((l.length - 1:Nat):Int):=by omega
 have h1:¬ ((l.length - 1:Nat):Int)<0:=by omega
 have h2:((l.length - 1:Nat):Int)<l.length:=by omega
 simp (disch:=first|omega|exact zF rfl|exact zG rfl|exact fun h=>h|(simp only[zA,zB,zC,zD,bytesW];omega)) only[go_sem,c146L0,c146S4,c146L0,r3,k0,k2,h0,h1,h2]
 refine ⟨by constructor <;> omega,Ret.mono (delete_ok (i:=l.length - 1) (St.front (A:=[_]) (D:=[_]) (L:=L) s3) hil (by omega)) ?_⟩
 rintro u w4 s4
 have s5:=St.front (A:=[_]) (D:=[.blk c #[.int .i64 64,.slice (some ⟨g,0,none⟩) l.length cap] 206]) (L:=L) s4
 obtain ⟨a5,cap5,rfl,_⟩:=own_slice (s5.row 1 rfl)
 have r5:=s5.rules 0 rfl
 have s6:=s5.set 0 rfl 1 (.slice a5 (l.eraseIdx (l.length - 1)).length cap5)
 simp (disch:=first|omega|exact zF rfl|exact zG rfl|exact fun h=>h|(simp only[zA,zB,zC,zD,bytesW];omega)) only[go_sem,c146L0,c146S4,r5]
 rw [ec]
 have hl63:=cutC_len hl
 rw [ec] at hl63
 exact key _ _ _ _ _ _ hl63 s6
def dropK(k:Int)(l:List It):List It:=match findK k l with | some i=>l.eraseIdx i | none=>l
theorem cdrop_ok(k:Int)(h:St W0 w F (CaL c rv l++L) I)(hl:l.length≤1000000) :
  Ret Tryz.prog 131 [.pointer (some ⟨c,0,none⟩),.int .i64 k] w fun u w'=>∃ rv',St W0 w' F (CaL c rv' (dropK k l)++L) I:=by
 unfold dropK
 refine ent131 _ _ _ _ ?_
 simp (disch:=first|omega|exact zF rfl|exact zG rfl|exact fun h=>h|(simp only[zA,zB,zC,zD,bytesW];omega)) only[go_sem]
 refine Ret.mono (place_ok k h hl) ?_
 rintro _ w2 ⟨rfl,b2⟩
 have s2:=h.call b2
 have r2:=s2.rules 0 rfl
 cases hf:findK k l with
 | none =>
  rw [place_none hf]
  simp (disch:=first|omega|exact zF rfl|exact zG rfl|exact fun h=>h|(simp only[zA,zB,zC,zD,bytesW];omega)) only[go_sem]
  exact ⟨rv,s2⟩
 | some i =>
  obtain ⟨e1,hi,e2⟩:=place_some hf
  rw [e1]
  have hi':(0:Int)≤(i:Int):=by omega
  obtain ⟨a,cap,rfl,_⟩:=own_slice (s2.row 1 rfl)
  simp (disch:=first|omega|exact zF rfl|exact zG rfl|exact fun h=>h|(simp only[zA,zB,zC,zD,bytesW];omega)) only[go_sem,hi',r2]
  refine ⟨by constructor <;> omega,Ret.mono (delete_ok (St.front (A:=[_]) (D:=[_]) (L:=L) s2) hi hl) ?_⟩
  rintro u w3 s3
  have s4:=St.front (A:=[_]) (D:=[.blk c #[.int .i64 64,.slice a l.length cap] 206]) (L:=L) s3
  obtain ⟨a4,cap4,rfl,_⟩:=own_slice (s4.row 1 rfl)
  have r4:=s4.rules 0 rfl
  simp (disch:=first|omega|exact zF rfl|exact zG rfl|exact fun h=>h|(simp only[zA,zB,zC,zD,bytesW];omega)) only[go_sem,r4]
  exact ⟨_,s4.set 0 rfl 1 (.slice a4 (l.eraseIdx i).length cap4)⟩
end
open Go Go.Ann Go.RowKit Go.WideShapes
def nowP(s:Sto)(i:Int):List UInt8:=(stRead s i).2.1
def pgs(s:Sto):List (List UInt8):=(List.range s.hd.pages).map fun i:Nat=>nowP s i
theorem pgs_len(s:Sto):(pgs s).length=s.hd.pages:=by unfold pgs; simp
theorem pgs_get{s:Sto}{i:Nat}(h:i<(pgs s).length):(pgs s)[i]=nowP s i:=by simp [pgs]
structure Live(s:Sto)(l:List It):Prop where
 ok:s.ok
 dead:s.dead=false
 gone:s.disk.gone=false
 few:s.hd.pages≤500
 room:l.length≤64
 nd:(l.map Prod.fst).Nodup
 kept:∀ x∈l,0≤x.1∧x.1<s.hd.pages∧x.2=nowP s x.1
theorem getM_set{κ ν:Type}[DecidableEq κ](a b:κ)(v:ν)(c:Nat):∀ l:List (κ × ν × Nat),getM b (setM a v c l)=if b=a then some v else getM b l
 | []=>by simp only [setM,getM]
 | x::l=>by
  simp only [setM]
  by_cases h:a=x.1
  ·rw [if_pos h]
   simp only [getM]
   by_cases h2:b=x.1
   ·rw [if_pos h2,if_pos (h2.trans h.symm)]
   ·rw [if_neg h2,if_neg h2,if_neg (fun e=>h2 (e.trans h))]
  ·rw [if_neg h]
   simp only [getM]
   by_cases h2:b=x.1
   ·rw [if_pos h2,if_pos h2,if_neg (fun e=>h (e.symm.trans h2))]
   ·rw [if_neg h2,if_neg h2,getM_set a b v c l]
theorem setM_mem{κ ν:Type}[DecidableEq κ]{a:κ}{v:ν}{c:Nat}:∀ {l:List (κ × ν × Nat)} {x:κ × ν × Nat},x∈setM a v c l→(x=(a,v,c)∧getM a l=none)∨(∃ y∈l,x.1=y.1∧x.2.2=y.2.2∧(x=y∨x=(y.1,v,y.2.2)∧a=y.1))
 | [],x,h=>by simp only [setM,List.mem_singleton] at h; exact .inl ⟨h,rfl⟩
 | y::l,x,h=>by
  simp only [setM] at h
  split at h
  ·rename_i e
   rcases List.mem_cons.1 h with rfl | h
   ·exact .inr ⟨y,List.mem_cons_self ..,rfl,rfl,.inr ⟨rfl,e⟩⟩
   ·exact .inr ⟨x,List.mem_cons_of_mem _ h,rfl,rfl,.inl rfl⟩
  ·rename_i hne
   rcases List.mem_cons.1 h with rfl | h
   ·exact .inr ⟨x,List.mem_cons_self ..,rfl,rfl,.inl rfl⟩
   ·rcases setM_mem h with ⟨h,hn⟩ | ⟨z,hz,h⟩
    ·exact .inl ⟨h,by simp only [getM]; rw [if_neg hne]; exact hn⟩
    ·exact .inr ⟨z,List.mem_cons_of_mem _ hz,h⟩
theorem setM_keys{κ ν:Type}[DecidableEq κ]{a:κ}{v:ν}{c:Nat}:∀ {l:List (κ × ν × Nat)},(setM a v c l).map Prod.fst=if (getM a l).isSome then l.map Prod.fst else l.map Prod.fst++[a]
 | []=>rfl
 | x::l=>by
  simp only [setM,getM]
  split
  ·simp
  ·simp only [List.map_cons,setM_keys (l:=l)]
   split <;> simp
theorem setM_born{κ ν:Type}[DecidableEq κ]{a:κ}{v:ν}{c:Nat}:∀ {l:List (κ × ν × Nat)},(setM a v c l).map (fun x=>x.2.2)=if (getM a l).isSome then l.map (fun x=>x.2.2) else l.map (fun x=>x.2.2)++[c]
 | []=>rfl
 | x::l=>by
  simp only [setM,getM]
  split
  ·simp
  ·simp only [List.map_cons,setM_born (l:=l)]
   split <;> simp
theorem getM_none{κ ν:Type}[DecidableEq κ]{a:κ}:∀ {l:List (κ × ν × Nat)},getM a l=none→a ∉ l.map Prod.fst
 | [],_=>by simp
 | x::l,h=>by
  simp only [getM] at h
  split at h
  ·cases h
  ·rename_i hne
   simp only [List.map_cons,List.mem_cons,not_or]
   exact ⟨hne,getM_none h⟩
section
variable {s:Sto}
theorem stReady_ok{i:Int}(hd:s.dead=false)(h0:0≤i)(h1:i<s.hd.pages):stReady s i=0:=by
 unfold stReady
 rw [if_neg (by rw [hd]; decide),if_pos ⟨h0,h1⟩]
theorem home_ready{i:Int}(ok:s.ok)(hg:s.disk.gone=false)(h0:0≤i)(h1:i<s.hd.pages):readyN s.disk (homeN s i)=0:=by
 have:=ok.fit
 unfold readyN homeN
 rw [if_neg (by rw [hg]; decide),if_pos (by omega)]
theorem nowP_eq{i:Int}(ok:s.ok)(hd:s.dead=false)(hg:s.disk.gone=false)(h0:0≤i)(h1:i<s.hd.pages) :
  stRead s i=(s,nowP s i,0)∧nowP s i=(getM i s.dirty).getD (lastL s.disk.late (homeN s i) (s.disk.safe.getD (homeN s i).toNat [])):=by
 have e1:=stReady_ok hd h0 h1
 have e2:=home_ready ok hg h0 h1
 have e3:readN s.disk (homeN s i)=(lastL s.disk.late (homeN s i) (s.disk.safe.getD (homeN s i).toNat []),0):=by unfold readN; rw [if_pos e2]
 unfold nowP stRead
 rw [if_neg (by omega)]
 cases hm:getM i s.dirty with
 | some x=>exact ⟨rfl,rfl⟩
 | none=>simp only [e3]; exact ⟨rfl,rfl⟩
theorem nowP_len{i:Int}(ok:s.ok)(hd:s.dead=false)(hg:s.disk.gone=false)(h0:0≤i)(h1:i<s.hd.pages):(nowP s i).length=256:=by
 rw [(nowP_eq ok hd hg h0 h1).2]
 cases hm:getM i s.dirty with
 | some x =>
  have:∃ b,(i,x,b)∈s.dirty:=by
   revert hm
   generalize s.dirty=l
   induction l with
   | nil=>intro h; cases h
   | cons y l ih =>
    intro h
    simp only [getM] at h
    split at h
    ·rename_i e
     simp only [Option.some.injEq] at h
     exact ⟨y.2.2,by rw [e,← h]; exact List.mem_cons_self ..⟩
    ·obtain ⟨b,hb⟩:=ih h
     exact ⟨b,List.mem_cons_of_mem _ hb⟩
  obtain ⟨b,hb⟩:=this
  exact (ok.keys _ hb).2.2
 | none =>
  refine lastL_256 ?_ fun x hx=>(ok.disk.late x hx).2.2
  have:=ok.fit
  have hh:homeN s i=2+s.hd.room+i:=rfl
  rw [List.getD_eq_getElem?_getD,List.getElem?_eq_getElem (by omega)]
  exact ok.disk.safe _ (List.getElem_mem _)
theorem stWrite_in{i:Int}{d:List UInt8}(ok:s.ok)(hd:s.dead=false)(hg:s.disk.gone=false)(h0:0≤i)(h1:i<s.hd.pages)(hl:d.length≤256) :
  (stWrite s i d).2=0∧(stWrite s i d).1.ok∧(stWrite s i d).1.dead=false∧(stWrite s i d).1.disk=s.disk∧(stWrite s i d).1.hd=s.hd∧∀ j:Int,0≤j→j<s.hd.pages→nowP (stWrite s i d).1 j=if j=i then filledL d else nowP s j:=by
 have e1:=stReady_ok hd h0 h1
 have e:stWrite s i d=({ s with dirty:=setM i (filledL d) s.clock s.dirty,clock:=if (getM i s.dirty).isSome then s.clock else s.clock+1 },0):=by
  unfold stWrite
  rw [if_neg (by omega),if_neg (by omega)]
 have ok':(stWrite s i d).1.ok:=by
  rw [e]
  refine ⟨ok.hd,ok.disk,ok.room,ok.pages,ok.few,ok.fit,fun x hx=>?_,?_,?_,fun x hx=>?_⟩
  ·rcases setM_mem hx with ⟨rfl,_⟩ | ⟨y,hy,h2,h3,rfl | ⟨h4,h5⟩⟩
   ·exact ⟨h0,h1,filledL_length hl⟩
   ·exact ok.keys _ hy
   ·rw [h4]; exact ⟨(ok.keys _ hy).1,(ok.keys _ hy).2.1,filledL_length hl⟩
  ·show ((setM i (filledL d) s.clock s.dirty).map Prod.fst).Nodup
   rw [setM_keys]
   split
   ·exact ok.nd
   ·rename_i hn
    rw [List.nodup_append]
    refine ⟨ok.nd,List.pairwise_singleton _ _,fun a ha b hb=>?_⟩
    rw [List.mem_singleton] at hb
    subst hb
    have:=getM_none (a:=b) (l:=s.dirty) (by simpa using hn)
    exact fun e=>this (e ▸ ha)
  ·show ((setM i (filledL d) s.clock s.dirty).map fun x=>x.2.2).Nodup
   rw [setM_born]
   split
   ·exact ok.born
   ·rw [List.nodup_append]
    refine ⟨ok.born,List.pairwise_singleton _ _,fun a ha b hb=>?_⟩
    rw [List.mem_singleton] at hb
    subst hb
    obtain ⟨x,hx,rfl⟩:=List.mem_map.1 ha
    have:=ok.clock x hx
    omega
  ·show x.2.2<if (getM i s.dirty).isSome then s.clock else s.clock+1
   rcases setM_mem hx with ⟨rfl,hn⟩ | ⟨y,hy,_,h3,_⟩
   ·rw [hn]
    exact Nat.lt_succ_self _
   ·have:=ok.clock y hy
    rw [h3]
    split <;> omega
 refine ⟨by rw [e],ok',by rw [e]; exact hd,by rw [e],by rw [e],fun j hj0 hj1=>?_⟩
 have g1:=(nowP_eq ok hd hg hj0 hj1).2
 have g2:=(nowP_eq (s:=(stWrite s i d).1) ok' (by rw [e]; exact hd) (by rw [e]; exact hg) hj0 (by rw [e]; exact hj1)).2
 rw [g2,g1,e]
 show (getM j (setM i (filledL d) s.clock s.dirty)).getD _=_
 rw [getM_set]
 split
 ·rfl
 ·rfl
end
structure En where
 p:Nat
 b:Nat
 mb:Nat
 g:Nat
 c:Nat
 vb:Value
 vl:Value
 hd:Hd
 m:Dk
 mx:Nat
def PgL(e:En)(rv:Value)(l:List It)(s:Sto):List Res :=
 [.blk e.p #[.pointer (some ⟨e.b,0,none⟩),.pointer (some ⟨e.c,0,none⟩)] 98]++(StoL e.b e.mb e.g e.vb e.vl s++CaL e.c rv l)
theorem St.mid{W0 w:World}{F:Nat→Prop}{A B C L:List Res}{I:List Inv}(h:St W0 w F (A++(B++C)++L) I):St W0 w F (B++((A++C)++L)) I :=
 h.perm (by
  have:=(List.perm_append_comm (l₁:=B) (l₂:=A)).append_right (C++L)
  simpa only [List.append_assoc] using this)
theorem St.unmid{W0 w:World}{F:Nat→Prop}{A B C L:List Res}{I:List Inv}(h:St W0 w F (B++((A++C)++L)) I):St W0 w F (A++(B++C)++L) I :=
 h.perm (by
  have:=(List.perm_append_comm (l₁:=A) (l₂:=B)).append_right (C++L)
  simpa only [List.append_assoc] using this)
theorem St.last{W0 w:World}{F:Nat→Prop}{A B C L:List Res}{I:List Inv}(h:St W0 w F (A++(B++C)++L) I):St W0 w F (C++((A++B)++L)) I :=
 h.perm (by
  have:=(List.perm_append_comm (l₁:=C) (l₂:=A++B)).append_right L
  simpa only [List.append_assoc] using this)
theorem St.unlast{W0 w:World}{F:Nat→Prop}{A B C L:List Res}{I:List Inv}(h:St W0 w F (C++((A++B)++L)) I):St W0 w F (A++(B++C)++L) I :=
 h.perm (by
  have:=(List.perm_append_comm (l₁:=A++B) (l₂:=C)).append_right L
  simpa only [List.append_assoc] using this)
def LowD(s:Sto)(mx:Nat):Prop:=2≤mx∧∀ x∈s.dirty,x.1<mx
theorem stWrite_low{s:Sto}{i:Int}{d:List UInt8}{mx:Nat}(h:LowD s mx)(hi:i<mx):LowD (stWrite s i d).1 mx:=by
 unfold stWrite
 split
 ·exact h
 ·split
  ·exact h
  ·refine ⟨h.1,fun x hx=>?_⟩
   rcases setM_mem hx with ⟨rfl,_⟩ | ⟨y,hy,h2,_,_⟩
   ·exact hi
   ·rw [h2]; exact h.2 y hy
def Pgr(e:En)(P:List (List UInt8))(W0 w:World)(F:Nat→Prop)(L:List Res)(I:List Inv):Prop :=
 ∃ rv l s,St W0 w F (PgL e rv l s++L) I∧Live s l∧s.hd=e.hd∧s.disk=e.m∧LowD s e.mx∧pgs s=P
theorem nodup_few:∀ (n:Nat) (l:List Int),l.Nodup→(∀ x∈l,0≤x∧x<n)→l.length≤n
 | 0,l,_,h=>by
  cases l with
  | nil=>exact Nat.le_refl _
  | cons x l=>have:=h x (List.mem_cons_self ..); omega
 | n+1,l,hn,h=>by
  by_cases hm:(n:Int)∈l
  ·have h1:=nodup_few n (l.erase n) (hn.erase _) fun x hx=>by
    have h2:=h x (List.mem_of_mem_erase hx)
    have h3:x≠(n:Int):=fun e=>by subst e; exact (List.Nodup.not_mem_erase hn) hx
    omega
   rw [List.length_erase_of_mem hm] at h1
   have:0<l.length:=List.length_pos_of_mem hm
   omega
  ·have h1:=nodup_few n l hn fun x hx=>by
    have h2:=h x hx
    have h3:x≠(n:Int):=fun e=>hm (e ▸ hx)
    omega
   omega
theorem Live.len{s:Sto}{l:List It}(h:Live s l):l.length≤s.hd.pages:=by
 have:=nodup_few s.hd.pages (l.map Prod.fst) h.nd fun x hx=>by
  obtain ⟨y,hy,rfl⟩:=List.mem_map.1 hx
  exact ⟨(h.kept y hy).1,(h.kept y hy).2.1⟩
 rwa [List.length_map] at this
theorem get_erase_perm{α:Type}:∀ {l:List α} {i:Nat} (hi:i<l.length),(l[i]::l.eraseIdx i).Perm l
 | a::l,0,_=>List.Perm.refl _
 | a::l,i+1,hi=>by
  have:=get_erase_perm (l:=l) (i:=i) (by simpa using hi)
  simp only [List.getElem_cons_succ,List.eraseIdx_cons_succ]
  exact (List.Perm.swap _ _ _).trans (this.cons a)
theorem Live.front{s:Sto}{l:List It}{i:Nat}(h:Live s l)(hi:i<l.length):Live s (l[i]::l.eraseIdx i) :=
 ⟨h.ok,h.dead,h.gone,h.few,by rw [(get_erase_perm hi).length_eq]; exact h.room,((get_erase_perm hi).map Prod.fst).nodup_iff.2 h.nd,fun x hx=>h.kept x ((get_erase_perm hi).subset hx)⟩
theorem Live.erase{s:Sto}{l:List It}(h:Live s l)(i:Nat):Live s (l.eraseIdx i) :=
 ⟨h.ok,h.dead,h.gone,h.few,Nat.le_trans (List.eraseIdx_sublist l i).length_le h.room,h.nd.sublist ((List.eraseIdx_sublist l i).map _),fun x hx=>h.kept x ((List.eraseIdx_sublist l i).subset hx)⟩
theorem findK_none{k:Int}{l:List It}(h:findK k l=none):∀ x∈l,x.1≠k:=by
 unfold findK at h
 rw [List.findIdx?_eq_none_iff] at h
 intro x hx
 simpa using h x hx
theorem pgs_now{s:Sto}{P:List (List UInt8)}(e:pgs s=P){i:Int}(h0:0≤i)(h1:i<P.length):nowP s i=P.getD i.toNat []∧i<s.hd.pages:=by
 subst e
 have hl:=pgs_len s
 refine ⟨?_,by omega⟩
 rw [List.getD_eq_getElem?_getD,List.getElem?_eq_getElem (by omega),Option.getD_some,pgs_get]
 congr 1; omega
theorem pgs_eq{s:Sto}{P:List (List UInt8)}(hl:P.length=s.hd.pages)(h:∀ i:Nat,i<P.length→nowP s i=P.getD i []):pgs s=P:=by
 refine List.ext_getElem (by rw [pgs_len,hl]) fun i h1 h2=>?_
 rw [pgs_get,h i h2,List.getD_eq_getElem?_getD,List.getElem?_eq_getElem h2]; rfl
section
variable {W0 w:World} {F:Nat→Prop} {L:List Res} {I:List Inv} {e:En} {P:List (List UInt8)}
theorem Pgr.below(h:Pgr e P W0 w F L I){w':World}(hb:Below w.heap.size w w'):Pgr e P W0 w' F L I:=by
 obtain ⟨rv,l,s,h1,h2⟩:=h
 exact ⟨rv,l,s,h1.call hb,h2⟩
theorem Pgr.drew(h:Pgr e P W0 w F L I):Pgr e P W0 w.drew F L I:=by
 obtain ⟨rv,l,s,h1,h2⟩:=h
 exact ⟨rv,l,s,h1.drew,h2⟩
theorem Pgr.len(h:Pgr e P W0 w F L I):P.length=e.hd.pages∧P.length≤500:=by
 obtain ⟨rv,l,s,h1,h2,h3,h4,h0,h5⟩:=h
 have:=h2.few
 rw [← h5,pgs_len,h3]
 rw [h3] at this
 exact ⟨rfl,this⟩
theorem Pgr.full(h:Pgr e P W0 w F L I):∀ x∈P,x.length=256:=by
 obtain ⟨rv,l,s,h1,h2,h3,h4,h0,h5⟩:=h
 subst h5
 intro x hx
 obtain ⟨i,hi,rfl⟩:=List.mem_map.1 hx
 rw [List.mem_range] at hi
 exact nowP_len h2.ok h2.dead h2.gone (by omega) (by omega)
theorem pread_ok(i:Int)(h:Pgr e P W0 w F L I)(h0:0≤i)(h1:i<P.length) :
  Ret Tryz.prog 97 [.pointer (some ⟨e.p,0,none⟩),.int .i64 i] w fun u w'=>u=.tuple #[.string (ofL (P.getD i.toNat [])),.int .i64 0]∧Pgr e P W0 w' F L I:=by
 obtain ⟨rv,l,s,hs,hv,e1,e2,e0,e3⟩:=h
 obtain ⟨en,hlt⟩:=pgs_now e3 h0 h1
 have hll:=hv.len
 have hfw:=hv.few
 have r1:=hs.rules 0 rfl
 refine ent97 _ _ _ _ ?_
 simp (disch:=first|omega|exact zF rfl|exact zG rfl|exact fun h=>h|(simp only[zA,zB,zC,zD,bytesW];omega)) only[go_sem,r1]
 refine Ret.mono (cget_ok i (St.last hs) (by omega)) ?_
 rintro _ w2 ⟨rfl,s2⟩
 cases hf:findK i l with
 | some j =>
  obtain ⟨_,hj,hk⟩:=place_some hf
  have eg:l.getD j (0,[])=l[j]:=by rw [List.getD_eq_getElem?_getD,List.getElem?_eq_getElem hj]; rfl
  have ec:getC i l=(l[j].2,true,l[j]::l.eraseIdx j):=by unfold getC; rw [hf]; simp only [eg]
  rw [ec] at s2 ⊢
  simp (disch:=first|omega|exact zF rfl|exact zG rfl|exact fun h=>h|(simp only[zA,zB,zC,zD,bytesW];omega)) only[go_sem]
  refine ⟨?_,rv,_,s,St.unlast s2,hv.front hj,e1,e2,e0,e3⟩
  rw [(hv.kept l[j] (List.getElem_mem hj)).2.2,hk,en]
 | none =>
  have ec:getC i l=([],false,l):=by unfold getC; rw [hf]
  rw [ec] at s2 ⊢
  have s2':=St.unlast s2
  have r2:=s2'.rules 0 rfl
  simp (disch:=first|omega|exact zF rfl|exact zG rfl|exact fun h=>h|(simp only[zA,zB,zC,zD,bytesW];omega)) only[go_sem,r2]
  refine Ret.mono (sread_ok i (St.mid s2') hv.ok) ?_
  rintro _ w3 ⟨rfl,s3⟩
  have hq:=(nowP_eq hv.ok hv.dead hv.gone h0 hlt).1
  rw [hq] at s3 ⊢
  have s3':=St.unmid s3
  have r3:=s3'.rules 0 rfl
  have hnk:=findK_none hf
  simp (disch:=first|omega|exact zF rfl|exact zG rfl|exact fun h=>h|(simp only[zA,zB,zC,zD,bytesW];omega)) only[go_sem,r3]
  refine Ret.mono (cput_ok (v:=nowP s i) (St.last s3') hf hv.room) ?_
  rintro u w4 ⟨rv',s4⟩
  simp (disch:=first|omega|exact zF rfl|exact zG rfl|exact fun h=>h|(simp only[zA,zB,zC,zD,bytesW];omega)) only[go_sem]
  have hsub:=cutC_sub l
  refine ⟨by rw [en],rv',_,s,St.unlast s4,⟨hv.ok,hv.dead,hv.gone,hv.few,by have:=cutC_len hv.room; rw [List.length_cons]; show (cutC l).length+1≤64; omega,?_,?_⟩,e1,e2,e0,e3⟩
  ·rw [List.map_cons,List.nodup_cons]
   refine ⟨fun hm=>?_,hv.nd.sublist (hsub.map _)⟩
   obtain ⟨y,hy,he⟩:=List.mem_map.1 hm
   exact hnk y (hsub.subset hy) he
  ·intro x hx
   rcases List.mem_cons.1 hx with rfl | hx
   ·exact ⟨h0,hlt,rfl⟩
   ·exact hv.kept x (hsub.subset hx)
theorem Pgr.two(h:Pgr e P W0 w F L I):2≤e.mx:=by
 obtain ⟨rv,l,s,h1,h2,h3,h4,h0,h5⟩:=h
 exact h0.1
theorem pwrite_ok(i:Int)(d:List UInt8)(h:Pgr e P W0 w F L I)(h0:0≤i)(h1:i<P.length)(hm:i<e.mx) :
  Ret Tryz.prog 70 [.pointer (some ⟨e.p,0,none⟩),.int .i64 i,.string (ofL d)] w fun u w'=>u=.int .i64 (if 256<d.length then 21 else 0)∧Pgr e (if 256<d.length then P else P.set i.toNat (filledL d)) W0 w' F L I:=by
 obtain ⟨rv,l,s,hs,hv,e1,e2,e0,e3⟩:=h
 obtain ⟨en,hlt⟩:=pgs_now e3 h0 h1
 have hll:=hv.len
 have hfw:=hv.few
 have r1:=hs.rules 0 rfl
 refine ent70 _ _ _ _ _ ?_
 simp (disch:=first|omega|exact zF rfl|exact zG rfl|exact fun h=>h|(simp only[zA,zB,zC,zD,bytesW];omega)) only[go_sem,r1]
 refine Ret.mono (cdrop_ok i (St.last hs) (by omega)) ?_
 rintro u w2 ⟨rv',s2⟩
 have hv2:∃ l',dropK i l=l'∧Live s l'∧∀ x∈l',x.1≠i:=by
  refine ⟨_,rfl,?_⟩
  unfold dropK
  cases hf:findK i l with
  | none=>exact ⟨hv,findK_none hf⟩
  | some j =>
   obtain ⟨_,hj,hk⟩:=place_some hf
   refine ⟨hv.erase j,fun x hx he=>?_⟩
   have hn:=((get_erase_perm hj).map Prod.fst).nodup_iff.2 hv.nd
   rw [List.map_cons,List.nodup_cons] at hn
   exact hn.1 (by rw [hk,← he]; exact List.mem_map_of_mem hx)
 obtain ⟨l',el,hv2,hne⟩:=hv2
 rw [el] at s2
 have s2':=St.unlast s2
 have r2:=s2'.rules 0 rfl
 simp (disch:=first|omega|exact zF rfl|exact zG rfl|exact fun h=>h|(simp only[zA,zB,zC,zD,bytesW];omega)) only[go_sem,r2]
 refine Ret.mono (swrite_ok i d (St.mid s2')) ?_
 rintro _ w3 ⟨rfl,s3⟩
 have s3':=St.unmid s3
 simp (disch:=first|omega|exact zF rfl|exact zG rfl|exact fun h=>h|(simp only[zA,zB,zC,zD,bytesW];omega)) only[go_sem]
 by_cases hd:256<d.length
 ·have ew:stWrite s i d=(s,21):=by
   unfold stWrite
   rw [if_neg (by rw [stReady_ok hv.dead h0 hlt]; decide),if_pos hd]
  rw [ew] at s3' ⊢
  rw [if_pos hd,if_pos hd]
  exact ⟨rfl,rv',l',s,s3',hv2,e1,e2,e0,e3⟩
 ·obtain ⟨w1,w2,w3,w4,w5,w6⟩:=stWrite_in hv.ok hv.dead hv.gone h0 hlt (d:=d) (by omega)
  rw [w1,if_neg hd,if_neg hd]
  refine ⟨rfl,rv',l',_,s3',⟨w2,w3,by rw [w4]; exact hv.gone,by rw [w5]; exact hv.few,hv2.room,hv2.nd,fun x hx=>?_⟩,w5.trans e1,w4.trans e2,stWrite_low e0 hm,?_⟩
  ·obtain ⟨k0,k1,k2⟩:=hv2.kept x hx
   refine ⟨k0,by rw [w5]; exact k1,?_⟩
   rw [w6 _ k0 k1,if_neg (hne x hx)]
   exact k2
  ·have hpl:P.length=s.hd.pages:=by rw [← e3,pgs_len]
   refine pgs_eq (by rw [w5,List.length_set,hpl]) fun j hj=>?_
   rw [List.length_set] at hj
   rw [w6 j (by omega) (by omega)]
   have:=(pgs_now e3 (i:=(j:Int)) (by omega) (by omega)).1
   by_cases he:(j:Int)=i
   ·rw [if_pos he]
    subst he
    rw [List.getD_eq_getElem?_getD,Int.toNat_natCast,List.getElem?_set_self hj]; rfl
   ·rw [if_neg he,this,List.getD_eq_getElem?_getD,List.getD_eq_getElem?_getD,List.getElem?_set_ne (by omega),Int.toNat_natCast]
end
open Go Go.Ann Go.RowKit Go.WideShapes
def usedP(P:List (List UInt8)):List UInt8:=P.getD 0 []
def chkN(P:List (List UInt8))(i:Int):Int:=if 2≤i∧i<P.length∧hasL (usedP P) i=true then 0 else 6
def markP(P:List (List UInt8))(i:Int)(b:Bool):List (List UInt8):=P.set 0 (filledL (withL (usedP P) i b))
def emptyP(P:List (List UInt8))(i:Int):List (List UInt8):=P.set i.toNat (filledL [])
def cntN(U:List UInt8)(m:Nat):Nat:=((List.range m).filter fun j:Nat=>hasL U j).length
theorem cntN_succ(U:List UInt8)(m:Nat):cntN U (m+1)=cntN U m+if hasL U m=true then 1 else 0:=by
 unfold cntN
 rw [List.range_succ,List.filter_append,List.length_append]
 congr 1
 by_cases h:hasL U m=true
 ·rw [if_pos h]; simp only [List.filter_cons,List.filter_nil,h]; rfl
 ·rw [if_neg h]; simp only [List.filter_cons,List.filter_nil,h]; rfl
theorem cntN_le(U:List UInt8)(m:Nat):cntN U m≤m:=by
 unfold cntN
 exact Nat.le_trans (List.length_filter_le _ _) (by simp)
theorem cnt8(U:List UInt8):∀ k,k≤U.length→cntN U (8 * k)=countL (U.take k)
 | 0,_=>by simp [cntN,countL]
 | k+1,h=>by
  rw [countL_take U k (by omega),← cnt8 U k (by omega)]
  unfold cntN popN
  rw [show 8 * (k+1)=8 * k+8 by omega,List.range_add,List.filter_append,List.length_append,List.filter_map,List.length_map]
  congr 2
  refine List.filter_congr fun r hr=>?_
  rw [List.mem_range] at hr
  have hl:=hasL_in U ((8 * k+r:Nat):Int) (by omega)
  rw [Function.comp_apply,hl]
  congr 1
  ·congr 1; omega
  ·omega
def roomN(P:List (List UInt8)):Nat:=P.length - cntN (usedP P) P.length
def lowP(P:List (List UInt8)):Option Nat:=(List.range P.length).find? fun i:Nat=>decide (2≤i) && !hasL (usedP P) i
theorem low_same{P:List (List UInt8)}{v:Int}{ok:Bool}(hu:(usedP P).length=256)(hp:P.length≤500)(h:IsLow (usedP P) 2 P.length v ok) :
  (lowP P=none∧ok=false)∨(∃ k:Nat,lowP P=some k∧v=k∧ok=true∧2≤k∧k<P.length):=by
 rcases h with ⟨rfl,h1,h2,h3,h4,h5,h6⟩ | ⟨rfl,rfl,h6⟩
 ·refine .inr ⟨v.toNat,?_,by omega,rfl,by omega,by omega⟩
  unfold lowP
  rw [List.find?_range_eq_some]
  refine ⟨?_,?_,?_⟩
  ·rw [show ((v.toNat:Nat):Int)=v by omega,h5]; simp; omega
  ·rw [List.mem_range]; omega
  ·intro j hj
   by_cases h2j:2≤j
   ·rw [h6 j (by omega) (by omega) (by omega)]; simp
   ·simp [h2j]
 ·refine .inl ⟨?_,rfl⟩
  unfold lowP
  rw [List.find?_eq_none]
  intro j hj
  rw [List.mem_range] at hj
  by_cases h2j:2≤j
  ·rw [h6 j (by omega) (by omega) (by omega) (by omega)]; simp
  ·simp [h2j]
section
variable {W0 w:World} {F:Nat→Prop} {L:List Res} {I:List Inv} {e:En} {P:List (List UInt8)}
theorem Pgr.blk(h:Pgr e P W0 w F L I):Blk w e.p #[.pointer (some ⟨e.b,0,none⟩),.pointer (some ⟨e.c,0,none⟩)] 98:=by
 obtain ⟨rv,l,s,hs,_⟩:=h
 exact hs.blk 0 rfl
theorem pslen_ok(h:Pgr e P W0 w F L I) :
  Ret Tryz.prog 47 [.pointer (some ⟨e.b,0,none⟩)] w fun u w'=>u=.int .i64 P.length∧w'=w:=by
 obtain ⟨rv,l,s,hs,hv,e1,e2,e0,e3⟩:=h
 refine Ret.mono (slen_ok (St.mid hs)) ?_
 rintro _ w2 ⟨rfl,e⟩
 exact ⟨by rw [← e3,pgs_len],e⟩
theorem made_ok(h:Pgr e P W0 w F L I) :
  Ret Tryz.prog 96 [.pointer (some ⟨e.p,0,none⟩)] w fun u w'=>u=.bool true∧w'=w:=by
 have r1:=h.blk.rules
 refine ent96 _ _ _ ?_
 simp (disch:=first|omega|exact zF rfl|exact zG rfl|exact fun h=>h|(simp only[zA,zB,zC,zD,bytesW];omega)) only[go_sem,r1]
theorem used_ok(h:Pgr e P W0 w F L I)(h3:3≤P.length) :
  Ret Tryz.prog 46 [.pointer (some ⟨e.p,0,none⟩)] w fun u w'=>u=.tuple #[.string (ofL (usedP P)),.int .i64 0]∧Pgr e P W0 w' F L I:=by
 refine ent46 _ _ _ ?_
 simp (disch:=first|omega|exact zF rfl|exact zG rfl|exact fun h=>h|(simp only[zA,zB,zC,zD,bytesW];omega)) only[go_sem]
 refine Ret.mono (made_ok h) ?_
 rintro _ w2 ⟨rfl,e2⟩
 subst w2
 simp (disch:=first|omega|exact zF rfl|exact zG rfl|exact fun h=>h|(simp only[zA,zB,zC,zD,bytesW];omega)) only[go_sem]
 refine Ret.mono (pread_ok 0 h (by decide) (by omega)) ?_
 rintro _ w2 ⟨rfl,h2⟩
 simp (disch:=first|omega|exact zF rfl|exact zG rfl|exact fun h=>h|(simp only[zA,zB,zC,zD,bytesW];omega)) only[go_sem]
 first | exact h2 | exact ⟨rfl,h2⟩
theorem Pgr.used256(h:Pgr e P W0 w F L I)(h3:3≤P.length):(usedP P).length=256:=by
 refine h.full _ ?_
 unfold usedP
 rw [List.getD_eq_getElem?_getD,List.getElem?_eq_getElem (by omega)]
 exact List.getElem_mem _
theorem check_ok(i:Int)(h:Pgr e P W0 w F L I)(h3:3≤P.length)(hi:I64 i) :
  Ret Tryz.prog 69 [.pointer (some ⟨e.p,0,none⟩),.int .i64 i] w fun u w'=>u=.int .i64 (chkN P i)∧Pgr e P W0 w' F L I:=by
 refine ent69 _ _ _ _ ?_
 simp (disch:=first|omega|exact zF rfl|exact zG rfl|exact fun h=>h|(simp only[zA,zB,zC,zD,bytesW];omega)) only[go_sem]
 refine Ret.mono (used_ok h h3) ?_
 rintro _ w2 ⟨rfl,h2⟩
 simp (disch:=first|omega|exact zF rfl|exact zG rfl|exact fun h=>h|(simp only[zA,zB,zC,zD,bytesW];omega)) only[go_sem]
 by_cases c1:2≤i
 case neg =>
  have c1':i<2:=by omega
  have e:chkN P i=6:=by unfold chkN; rw [if_neg (fun hc=>c1 hc.1)]
  rw [e]
  simp (disch:=first|omega|exact zF rfl|exact zG rfl|exact fun h=>h|(simp only[zA,zB,zC,zD,bytesW];omega)) only[go_sem,c1,c1']
  exact h2
 have c1':¬ i<2:=by omega
 have r2:=h2.blk.rules
 simp (disch:=first|omega|exact zF rfl|exact zG rfl|exact fun h=>h|(simp only[zA,zB,zC,zD,bytesW];omega)) only[go_sem,c1,c1',r2]
 refine Ret.mono (pslen_ok h2) ?_
 rintro _ w3 ⟨rfl,e3⟩
 subst w3
 by_cases c2:i<P.length
 case neg =>
  have c2':(P.length:Int)≤i:=by omega
  have e:chkN P i=6:=by unfold chkN; rw [if_neg (fun hc=>c2 hc.2.1)]
  rw [e]
  simp (disch:=first|omega|exact zF rfl|exact zG rfl|exact fun h=>h|(simp only[zA,zB,zC,zD,bytesW];omega)) only[go_sem,c2,c2']
  exact h2
 have c2':¬ (P.length:Int)≤i:=by omega
 simp (disch:=first|omega|exact zF rfl|exact zG rfl|exact fun h=>h|(simp only[zA,zB,zC,zD,bytesW];omega)) only[go_sem,c2,c2']
 refine Ret.mono (has_ok _ i _ hi) ?_
 rintro _ w4 ⟨rfl,e4⟩
 subst w4
 cases hh:hasL (usedP P) i with
 | true =>
  have e:chkN P i=0:=by unfold chkN; rw [if_pos ⟨c1,c2,hh⟩]
  rw [e]
  simp (disch:=first|omega|exact zF rfl|exact zG rfl|exact fun h=>h|(simp only[zA,zB,zC,zD,bytesW];omega)) only[go_sem]
  exact h2
 | false =>
  have e:chkN P i=6:=by unfold chkN; rw [if_neg (fun hc=>by rw [hh] at hc; cases hc.2.2)]
  rw [e]
  simp (disch:=first|omega|exact zF rfl|exact zG rfl|exact fun h=>h|(simp only[zA,zB,zC,zD,bytesW];omega)) only[go_sem]
  exact h2
def allocN(P:List (List UInt8)):List (List UInt8) × Int × Int:=match lowP P with
 | some k=>(emptyP (markP P k true) k,k,0)
 | none=>(P,0,13)
theorem filled256{l:List UInt8}(h:l.length=256):filledL l=l:=by unfold filledL; rw [h]; simp
theorem palloc_ok(h:Pgr e P W0 w F L I)(h3:3≤P.length)(hcap:∀ k:Nat,lowP P=some k→k<e.mx) :
  Ret Tryz.prog 64 [.pointer (some ⟨e.p,0,none⟩)] w fun u w'=>u=.tuple #[.int .i64 (allocN P).2.1,.int .i64 (allocN P).2.2]∧Pgr e (allocN P).1 W0 w' F L I:=by
 have h64:=h.len.2
 have hu:=h.used256 h3
 refine ent64 _ _ _ ?_
 simp (disch:=first|omega|exact zF rfl|exact zG rfl|exact fun h=>h|(simp only[zA,zB,zC,zD,bytesW];omega)) only[go_sem]
 refine Ret.mono (used_ok h h3) ?_
 rintro _ w2 ⟨rfl,h2⟩
 have r2:=h2.blk.rules
 simp (disch:=first|omega|exact zF rfl|exact zG rfl|exact fun h=>h|(simp only[zA,zB,zC,zD,bytesW];omega)) only[go_sem,r2]
 refine Ret.mono (pslen_ok h2) ?_
 rintro _ w3 ⟨rfl,e3⟩
 subst w3
 simp (disch:=first|omega|exact zF rfl|exact zG rfl|exact fun h=>h|(simp only[zA,zB,zC,zD,bytesW];omega)) only[go_sem]
 refine Ret.mono (lowest_ok (usedP P) 2 P.length w2 ⟨by omega,by omega⟩ ⟨by omega,by omega⟩ (by rw [hu]; decide)) ?_
 rintro _ w4 ⟨v,ok,rfl,hlow,e4⟩
 subst w4
 unfold allocN
 rcases low_same hu h64 hlow with ⟨hn,rfl⟩ | ⟨k,hk,rfl,rfl,h2k,hlk⟩
 ·rw [hn]
  simp (disch:=first|omega|exact zF rfl|exact zG rfl|exact fun h=>h|(simp only[zA,zB,zC,zD,bytesW];omega)) only[go_sem]
  first | exact h2 | exact ⟨rfl,h2⟩
 ·rw [hk]
  simp (disch:=first|omega|exact zF rfl|exact zG rfl|exact fun h=>h|(simp only[zA,zB,zC,zD,bytesW];omega)) only[go_sem]
  refine Ret.mono (with_ok (usedP P) k true w2 ⟨by omega,by omega⟩) ?_
  rintro _ w5 ⟨rfl,b5⟩
  have h5:=h2.below b5
  simp (disch:=first|omega|exact zF rfl|exact zG rfl|exact fun h=>h|(simp only[zA,zB,zC,zD,bytesW];omega)) only[go_sem]
  refine Ret.mono (pwrite_ok 0 _ h5 (by decide) (by omega) (by have:=h5.two; omega)) ?_
  rintro _ w6 ⟨rfl,h6⟩
  rw [if_neg (by rw [withL_length,hu]; decide)] at h6 ⊢
  simp (disch:=first|omega|exact zF rfl|exact zG rfl|exact fun h=>h|(simp only[zA,zB,zC,zD,bytesW];omega)) only[go_sem]
  refine Ret.mono (pwrite_ok k [] h6 (by omega) (by rw [List.length_set]; omega) (by have:=hcap k hk; omega)) ?_
  rintro _ w7 ⟨rfl,h7⟩
  simp (disch:=first|omega|exact zF rfl|exact zG rfl|exact fun h=>h|(simp only[zA,zB,zC,zD,bytesW];omega)) only[go_sem]
  first | exact h7 | exact ⟨rfl,h7⟩
def getN(P:List (List UInt8))(i:Int):List UInt8 × Int:=if chkN P i≠0 then ([],chkN P i) else (P.getD i.toNat [],0)
theorem chk_in{P:List (List UInt8)}{i:Int}(h:chkN P i=0):2≤i∧i<P.length:=by
 unfold chkN at h
 split at h
 ·rename_i hh; exact ⟨hh.1,hh.2.1⟩
 ·cases h
theorem pget_ok(i:Int)(h:Pgr e P W0 w F L I)(h3:3≤P.length)(hi:I64 i) :
  Ret Tryz.prog 39 [.pointer (some ⟨e.p,0,none⟩),.int .i64 i] w fun u w'=>u=.tuple #[.string (ofL (getN P i).1),.int .i64 (getN P i).2]∧Pgr e P W0 w' F L I:=by
 refine ent39 _ _ _ _ ?_
 simp (disch:=first|omega|exact zF rfl|exact zG rfl|exact fun h=>h|(simp only[zA,zB,zC,zD,bytesW];omega)) only[go_sem]
 refine Ret.mono (check_ok i h h3 hi) ?_
 rintro _ w2 ⟨rfl,h2⟩
 unfold getN
 by_cases hc:chkN P i=0
 case neg =>
  rw [if_pos hc]
  simp (disch:=first|omega|exact zF rfl|exact zG rfl|exact fun h=>h|(simp only[zA,zB,zC,zD,bytesW];omega)) only[go_sem,hc]
  first | exact h2 | exact ⟨rfl,h2⟩
 obtain ⟨c1,c2⟩:=chk_in hc
 rw [if_neg (by omega)]
 simp (disch:=first|omega|exact zF rfl|exact zG rfl|exact fun h=>h|(simp only[zA,zB,zC,zD,bytesW];omega)) only[go_sem,hc]
 refine Ret.mono (pread_ok i h2 (by omega) c2) ?_
 rintro _ w3 ⟨rfl,h3'⟩
 simp (disch:=first|omega|exact zF rfl|exact zG rfl|exact fun h=>h|(simp only[zA,zB,zC,zD,bytesW];omega)) only[go_sem]
 first | exact h3' | exact ⟨rfl,h3'⟩
def setPN(P:List (List UInt8))(i:Int)(d:List UInt8):List (List UInt8) × Int:=if chkN P i≠0 then (P,chkN P i) else if 256<d.length then (P,21) else (P.set i.toNat (filledL d),0)
theorem pset_ok(i:Int)(d:List UInt8)(h:Pgr e P W0 w F L I)(h3:3≤P.length)(hi:I64 i)(hm:chkN P i=0→i<e.mx) :
  Ret Tryz.prog 19 [.pointer (some ⟨e.p,0,none⟩),.int .i64 i,.string (ofL d)] w fun u w'=>u=.int .i64 (setPN P i d).2∧Pgr e (setPN P i d).1 W0 w' F L I:=by
 refine ent19 _ _ _ _ _ ?_
 simp (disch:=first|omega|exact zF rfl|exact zG rfl|exact fun h=>h|(simp only[zA,zB,zC,zD,bytesW];omega)) only[go_sem]
 refine Ret.mono (check_ok i h h3 hi) ?_
 rintro _ w2 ⟨rfl,h2⟩
 unfold setPN
 by_cases hc:chkN P i=0
 case neg =>
  rw [if_pos hc]
  simp (disch:=first|omega|exact zF rfl|exact zG rfl|exact fun h=>h|(simp only[zA,zB,zC,zD,bytesW];omega)) only[go_sem,hc]
  first | exact h2 | exact ⟨rfl,h2⟩
 obtain ⟨c1,c2⟩:=chk_in hc
 rw [if_neg (by omega)]
 simp (disch:=first|omega|exact zF rfl|exact zG rfl|exact fun h=>h|(simp only[zA,zB,zC,zD,bytesW];omega)) only[go_sem,hc]
 refine Ret.mono (pwrite_ok i d h2 (by omega) c2 (hm hc)) ?_
 rintro _ w3 ⟨rfl,h3'⟩
 simp (disch:=first|omega|exact zF rfl|exact zG rfl|exact fun h=>h|(simp only[zA,zB,zC,zD,bytesW];omega)) only[go_sem]
 by_cases hd:256<d.length
 ·rw [if_pos hd] at h3'
  rw [if_pos hd,if_pos hd]
  first | exact h3' | exact ⟨rfl,h3'⟩
 ·rw [if_neg hd] at h3'
  rw [if_neg hd,if_neg hd]
  first | exact h3' | exact ⟨rfl,h3'⟩
def rootB(P:List (List UInt8)):List UInt8:=P.getD 1 []
def rootN(P:List (List UInt8))(i:Int):Int × Int:=if 0≤i∧i<16 then (unfixL (cutL (rootB P) (4 * i) (4 * i+4)),0) else (0,1)
theorem Pgr.root256(h:Pgr e P W0 w F L I)(h3:3≤P.length):(rootB P).length=256:=by
 refine h.full _ ?_
 unfold rootB
 rw [List.getD_eq_getElem?_getD,List.getElem?_eq_getElem (by omega)]
 exact List.getElem_mem _
theorem proot_ok(i:Int)(h:Pgr e P W0 w F L I)(h3:3≤P.length)(hi:I64 i) :
  Ret Tryz.prog 36 [.pointer (some ⟨e.p,0,none⟩),.int .i64 i] w fun u w'=>u=.tuple #[.int .i64 (rootN P i).1,.int .i64 (rootN P i).2]∧Pgr e P W0 w' F L I:=by
 have hr:=h.root256 h3
 refine ent36 _ _ _ _ ?_
 simp (disch:=first|omega|exact zF rfl|exact zG rfl|exact fun h=>h|(simp only[zA,zB,zC,zD,bytesW];omega)) only[go_sem]
 refine Ret.mono (made_ok h) ?_
 rintro _ w2 ⟨rfl,e2⟩
 subst w2
 unfold rootN
 by_cases c:0≤i∧i<16
 case neg =>
  rw [if_neg c]
  by_cases c1:i<0
  ·simp (disch:=first|omega|exact zF rfl|exact zG rfl|exact fun h=>h|(simp only[zA,zB,zC,zD,bytesW];omega)) only[go_sem,c1]
   first | exact h | exact ⟨rfl,h⟩
  ·have c2:(16:Int)≤i:=by omega
   simp (disch:=first|omega|exact zF rfl|exact zG rfl|exact fun h=>h|(simp only[zA,zB,zC,zD,bytesW];omega)) only[go_sem,c1,c2]
   first | exact h | exact ⟨rfl,h⟩
 rw [if_pos c]
 have c1:¬ i<0:=by omega
 have c2:¬ (16:Int)≤i:=by omega
 simp (disch:=first|omega|exact zF rfl|exact zG rfl|exact fun h=>h|(simp only[zA,zB,zC,zD,bytesW];omega)) only[go_sem,c1,c2]
 refine Ret.mono (pread_ok 1 h (by decide) (by omega)) ?_
 rintro _ w2 ⟨rfl,h2⟩
 have e1:P.getD (1:Int).toNat []=rootB P:=rfl
 rw [e1]
 simp (disch:=first|omega|exact zF rfl|exact zG rfl|exact fun h=>h|(simp only[zA,zB,zC,zD,bytesW];omega)) only[go_sem]
 have hc:(cutL (rootB P) (4 * i) (4 * i+4)).length=4:=by
  unfold cutL; rw [List.length_drop,List.length_take,hr]; omega
 refine ⟨⟨by omega,by omega⟩,⟨by omega,by omega⟩,⟨by omega,by omega⟩,⟨by omega,by omega,by omega⟩,Ret.mono (unfixed_ok _ w2 (by rw [hc]; omega)) ?_⟩
 rintro _ w3 ⟨rfl,e3⟩
 subst w3
 have hlt:=unfixL_lt (cutL (rootB P) (4 * i) (4 * i+4))
 rw [hc] at hlt
 have hlt:unfixL (cutL (rootB P) (4 * i) (4 * i+4))<4294967296:=hlt
 simp (disch:=first|omega|exact zF rfl|exact zG rfl|exact fun h=>h|(simp only[zA,zB,zC,zD,bytesW];omega)) only[go_sem]
 refine ⟨by constructor <;> omega,?_⟩
 exact h2
def setRootN(P:List (List UInt8))(i at':Int):List (List UInt8) × Int :=
 if (rootN P i).2≠0 then (P,(rootN P i).2) else if at'≠0∧chkN P at'≠0 then (P,chkN P at') else
 (P.set 1 (filledL ((rootB P).take (4 * i).toNat++fixL at'.toNat 4++(rootB P).drop (4 * i+4).toNat)),0)
theorem psetRoot_ok(i j:Int)(h:Pgr e P W0 w F L I)(h3:3≤P.length)(hi:I64 i)(hj:I64 j) :
  Ret Tryz.prog 66 [.pointer (some ⟨e.p,0,none⟩),.int .i64 i,.int .i64 j] w fun u w'=>u=.int .i64 (setRootN P i j).2∧Pgr e (setRootN P i j).1 W0 w' F L I:=by
 have hr:=h.root256 h3
 refine ent66 _ _ _ _ _ ?_
 simp (disch:=first|omega|exact zF rfl|exact zG rfl|exact fun h=>h|(simp only[zA,zB,zC,zD,bytesW];omega)) only[go_sem,c66S5]
 refine Ret.mono (proot_ok i h h3 hi) ?_
 rintro _ w2 ⟨rfl,h2⟩
 unfold setRootN
 by_cases hc:(rootN P i).2=0
 case neg =>
  rw [if_pos hc]
  simp (disch:=first|omega|exact zF rfl|exact zG rfl|exact fun h=>h|(simp only[zA,zB,zC,zD,bytesW];omega)) only[go_sem,c66S5,hc]
  first | exact h2 | exact ⟨rfl,h2⟩
 have hin:0≤i∧i<16:=by
  unfold rootN at hc
  split at hc
  ·assumption
  ·cases hc
 rw [if_neg (by omega)]
 have fin:∀ w',Pgr e P W0 w' F L I→W Tryz.prog (c66S5 ()) [(0,.pointer (some ⟨e.p,0,none⟩)),(1,.int .i64 i),(2,.int .i64 j)] w' (finQ Tryz.prog [.tmp 6] fun u w''=>u=.int .i64 0∧Pgr e (P.set 1 (filledL ((rootB P).take (4 * i).toNat++fixL (IntKind.u64.wrap j).toNat 4++(rootB P).drop (4 * i+4).toNat))) W0 w'' F L I):=by
  intro w' h'
  simp (disch:=first|omega|exact zF rfl|exact zG rfl|exact fun h=>h|(simp only[zA,zB,zC,zD,bytesW];omega)) only[go_sem,c66S5]
  refine Ret.mono (pread_ok 1 h' (by decide) (by omega)) ?_
  rintro _ w4 ⟨rfl,h4⟩
  have e1:P.getD (1:Int).toNat []=rootB P:=rfl
  rw [e1]
  simp (disch:=first|omega|exact zF rfl|exact zG rfl|exact fun h=>h|(simp only[zA,zB,zC,zD,bytesW];omega)) only[go_sem,c66S5]
  refine c66draw0 ?_
  have h5:=h4.drew
  generalize w4.drew=w5 at h5 ⊢
  have hwj:0≤IntKind.u64.wrap j∧IntKind.u64.wrap j<18446744073709551616:=by rw [wrap_u64_mod]; omega
  obtain ⟨n,hn⟩:=Int.eq_ofNat_of_zero_le hwj.1
  rw [hn] at hwj ⊢
  simp (disch:=first|omega|exact zF rfl|exact zG rfl|exact fun h=>h|(simp only[zA,zB,zC,zD,bytesW];omega)) only[go_sem,c66S5,c66D0,hn]
  refine ⟨⟨by omega,by omega⟩,⟨by omega,by omega⟩,⟨by omega,by omega⟩,⟨by omega,by omega⟩,⟨by omega,by omega⟩,Ret.mono (fixed_ok n 4 w5 (by omega) (by omega)) ?_⟩
  rintro _ w6 ⟨rfl,b6⟩
  have h6:=h5.below b6
  simp (disch:=first|omega|exact zF rfl|exact zG rfl|exact fun h=>h|(simp only[zA,zB,zC,zD,bytesW];omega)) only[go_sem,c66S5]
  have lf:(fixL n 4).length=4:=fixL_len n 4
  refine ⟨?_,?_,Ret.mono (pwrite_ok 1 _ h6 (by decide) (by omega) (by have:=h6.two; omega)) ?_⟩
  ·rw [lf,List.length_take]; omega
  ·rw [List.length_append,lf,List.length_take,List.length_drop]; omega
  rintro _ w7 ⟨rfl,h7⟩
  rw [if_neg (by rw [List.length_append,List.length_append,lf,List.length_take,List.length_drop]; omega)] at h7 ⊢
  simp (disch:=first|omega|exact zF rfl|exact zG rfl|exact fun h=>h|(simp only[zA,zB,zC,zD,bytesW];omega)) only[go_sem,c66S5]
  first | exact h7 | exact ⟨rfl,h7⟩
 by_cases h0:j=0
 ·subst h0
  rw [if_neg (by simp)]
  simp (disch:=first|omega|exact zF rfl|exact zG rfl|exact fun h=>h|(simp only[zA,zB,zC,zD,bytesW];omega)) only[go_sem,hc]
  exact fin w2 h2
 ·simp (disch:=first|omega|exact zF rfl|exact zG rfl|exact fun h=>h|(simp only[zA,zB,zC,zD,bytesW];omega)) only[go_sem,hc,h0]
  refine Ret.mono (check_ok j h2 h3 hj) ?_
  rintro _ w3 ⟨rfl,h3'⟩
  by_cases hk:chkN P j=0
  ·have hin2:=chk_in hk
   rw [if_neg (fun hh=>hh hk)]
   simp (disch:=first|omega|exact zF rfl|exact zG rfl|exact fun h=>h|(simp only[zA,zB,zC,zD,bytesW];omega)) only[go_sem,hk]
   have:=fin w3 h3'
   rw [wrap_u64_id j (by omega) (by have:=h.len; omega)] at this
   exact this
  ·rw [if_pos hk]
   simp (disch:=first|omega|exact zF rfl|exact zG rfl|exact fun h=>h|(simp only[zA,zB,zC,zD,bytesW];omega)) only[go_sem,hk]
   first | exact h3' | exact ⟨rfl,h3'⟩
theorem proom_ok(h:Pgr e P W0 w F L I)(h3:3≤P.length) :
  Ret Tryz.prog 12 [.pointer (some ⟨e.p,0,none⟩)] w fun u w'=>u=.int .i64 (roomN P)∧Pgr e P W0 w' F L I:=by
 have hu:=h.used256 h3
 have h64:=h.len.2
 refine ent12 _ _ _ ?_
 simp (disch:=first|omega|exact zF rfl|exact zG rfl|exact fun h=>h|(simp only[zA,zB,zC,zD,bytesW];omega)) only[go_sem]
 refine Ret.mono (used_ok h h3) ?_
 rintro _ w2 ⟨rfl,h2⟩
 have r2:=h2.blk.rules
 simp (disch:=first|omega|exact zF rfl|exact zG rfl|exact fun h=>h|(simp only[zA,zB,zC,zD,bytesW];omega)) only[go_sem,r2]
 refine Ret.mono (pslen_ok h2) ?_
 rintro _ w3 ⟨rfl,e3⟩
 subst w3
 simp (disch:=first|omega|exact zF rfl|exact zG rfl|exact fun h=>h|(simp only[zA,zB,zC,zD,bytesW];omega)) only[go_sem]
 obtain ⟨k,hk⟩:∃ k:Nat,k=P.length / 8:=⟨_,rfl⟩
 have ek:(P.length:Int).tdiv 8=k:=by rw [Int.tdiv_eq_ediv_of_nonneg (by omega)]; omega
 rw [ek]
 have et:((usedP P).take (k:Int).toNat)=(usedP P).take k:=by rw [Int.toNat_natCast]
 have c8:=cnt8 (usedP P) k (by omega)
 have cl:=cntN_le (usedP P) (8 * k)
 rw [Int.toNat_natCast]
 refine ⟨by constructor <;> omega,by omega,Ret.mono (count_ok _ w2 (by rw [List.length_take,hu]; omega)) ?_⟩
 rintro _ w4 ⟨rfl,e4⟩
 subst w4
 rw [← c8]
 simp (disch:=first|omega|exact zF rfl|exact zG rfl|exact fun h=>h|(simp only[zA,zB,zC,zD,bytesW];omega)) only[go_sem,ek]
 refine ⟨by constructor <;> omega,by constructor <;> omega,by constructor <;> omega,?_⟩
 refine W_loopU (fun m:Nat=>[(6,.int .i64 (P.length - cntN (usedP P) m:Int)),(7,.int .i64 m)]) (fun m w'=>8 * k≤m∧m≤P.length∧w'=w2) (fun m=>P.length - m) (8 * k) (by rw [show ((8 * k:Nat):Int)=(k:Int) * 8 by omega]; rfl) ⟨Nat.le_refl _,by omega,rfl⟩ ?_
 rintro m w5 ⟨hm0,hm,e5⟩
 subst w5
 have cm:=cntN_le (usedP P) m
 have cs:=cntN_succ (usedP P) m
 by_cases hlt:m<P.length
 ·have hlt':(m:Int)<P.length:=by omega
  simp (disch:=first|omega|exact zF rfl|exact zG rfl|exact fun h=>h|(simp only[zA,zB,zC,zD,bytesW];omega)) only[go_sem,c12L0,c12L0,hlt']
  refine Ret.mono (has_ok _ m w2 ⟨by omega,by omega⟩) ?_
  rintro _ w6 ⟨rfl,e6⟩
  subst w6
  cases hh:hasL (usedP P) m with
  | true =>
   rw [if_pos hh] at cs
   simp (disch:=first|omega|exact zF rfl|exact zG rfl|exact fun h=>h|(simp only[zA,zB,zC,zD,bytesW];omega)) only[go_sem,c12L0]
   exact ⟨by constructor <;> omega,by constructor <;> omega,m+1,by simp; omega,⟨by omega,by omega⟩,by omega⟩
  | false =>
   rw [if_neg (by rw [hh]; decide)] at cs
   simp (disch:=first|omega|exact zF rfl|exact zG rfl|exact fun h=>h|(simp only[zA,zB,zC,zD,bytesW];omega)) only[go_sem,c12L0]
   exact ⟨by constructor <;> omega,m+1,by simp; omega,⟨by omega,by omega⟩,by omega⟩
 ·have hlt':¬ (m:Int)<P.length:=by omega
  obtain rfl:m=P.length:=by omega
  simp (disch:=first|omega|exact zF rfl|exact zG rfl|exact fun h=>h|(simp only[zA,zB,zC,zD,bytesW];omega)) only[go_sem,c12L0,c12L0,hlt']
  refine ⟨?_,h2⟩
  unfold roomN
  have:=cntN_le (usedP P) P.length
  omega
def fmtU:List UInt8:=withL (withL (emptyL 2048) 0 true) 1 true
def fmtP(P:List (List UInt8)):List (List UInt8):=(P.set 0 (filledL fmtU)).set 1 (filledL [])
theorem pformat_ok(h:Pgr e P W0 w F L I)(h3:3≤P.length) :
  Ret Tryz.prog 44 [.pointer (some ⟨e.p,0,none⟩)] w fun u w'=>u=.int .i64 0∧Pgr e (fmtP P) W0 w' F L I:=by
 refine ent44 _ _ _ ?_
 simp (disch:=first|omega|exact zF rfl|exact zG rfl|exact fun h=>h|(simp only[zA,zB,zC,zD,bytesW];omega)) only[go_sem]
 refine Ret.mono (made_ok h) ?_
 rintro _ w2 ⟨rfl,e2⟩
 subst w2
 have r2:=h.blk.rules
 simp (disch:=first|omega|exact zF rfl|exact zG rfl|exact fun h=>h|(simp only[zA,zB,zC,zD,bytesW];omega)) only[go_sem,r2]
 refine Ret.mono (pslen_ok h) ?_
 rintro _ w2 ⟨rfl,e2⟩
 subst w2
 have hle:¬ (P.length:Int)≤2:=by omega
 simp (disch:=first|omega|exact zF rfl|exact zG rfl|exact fun h=>h|(simp only[zA,zB,zC,zD,bytesW];omega)) only[go_sem,hle]
 refine Ret.mono (empty_ok 2048 w ⟨by decide,by decide⟩ (by decide)) ?_
 rintro _ w2 ⟨rfl,b2⟩
 have h2:=h.below b2
 simp (disch:=first|omega|exact zF rfl|exact zG rfl|exact fun h=>h|(simp only[zA,zB,zC,zD,bytesW];omega)) only[go_sem]
 refine W_loopU (fun k:Nat=>[(3,.string (ofL (if k=0 then emptyL 2048 else if k=1 then withL (emptyL 2048) 0 true else fmtU))),(16,.int .i64 k)]) (fun k w'=>k≤2∧Pgr e P W0 w' F L I) (fun k=>2 - k) 0 rfl ⟨by omega,h2⟩ ?_
 rintro k w3 ⟨hk,h3'⟩
 by_cases hlt:k<2
 ·have hlt':(k:Int)<2:=by omega
  simp (disch:=first|omega|exact zF rfl|exact zG rfl|exact fun h=>h|(simp only[zA,zB,zC,zD,bytesW];omega)) only[go_sem,c44L0,c44L0,hlt']
  refine Ret.mono (with_ok _ k true w3 ⟨by omega,by omega⟩) ?_
  rintro _ w4 ⟨rfl,b4⟩
  simp (disch:=first|omega|exact zF rfl|exact zG rfl|exact fun h=>h|(simp only[zA,zB,zC,zD,bytesW];omega)) only[go_sem,c44L0]
  refine ⟨by constructor <;> omega,k+1,?_,⟨by omega,h3'.below b4⟩,by omega⟩
  have:k=0∨k=1:=by omega
  rcases this with rfl | rfl <;> rfl
 ·have hlt':¬ (k:Int)<2:=by omega
  obtain rfl:k=2:=by omega
  simp (disch:=first|omega|exact zF rfl|exact zG rfl|exact fun h=>h|(simp only[zA,zB,zC,zD,bytesW];omega)) only[go_sem,c44L0,c44L0,hlt']
  have hfl:¬ 256<fmtU.length:=by unfold fmtU; rw [withL_length,withL_length]; decide
  refine Ret.mono (pwrite_ok 0 fmtU h3' (by decide) (by omega) (by have:=h3'.two; omega)) ?_
  rintro _ w4 ⟨rfl,h4⟩
  rw [if_neg hfl] at h4 ⊢
  simp (disch:=first|omega|exact zF rfl|exact zG rfl|exact fun h=>h|(simp only[zA,zB,zC,zD,bytesW];omega)) only[go_sem,c44L0]
  refine Ret.mono (pwrite_ok 1 [] h4 (by decide) (by rw [List.length_set]; omega) (by have:=h4.two; omega)) ?_
  rintro _ w5 ⟨rfl,h5⟩
  simp (disch:=first|omega|exact zF rfl|exact zG rfl|exact fun h=>h|(simp only[zA,zB,zC,zD,bytesW];omega)) only[go_sem,c44L0]
  first | exact h5 | exact ⟨rfl,h5⟩
end
open Go Go.Ann Go.RowKit Go.WideShapes
def newHd(n j:Nat):Hd:=headN (n+j+2) j
def newDkP(n j:Nat):Dk:=fmtDk (n+j+2) (newHd n j)
def newSto(n j:Nat):Sto:=⟨newHd n j,[],0,false,newDkP n j⟩
theorem fmtDk_ok{n:Nat}{h:Hd}(h0:2≤n)(h1:n≤2048):(fmtDk n h).ok:=by
 have hl:=headL_len h
 refine ⟨fun s hs=>?_,fun _ h=>(by cases h),⟨by simp [fmtDk],by simp [fmtDk]⟩,by simp [fmtDk]; omega,by simp [fmtDk]; omega,by simp [fmtDk]⟩
 unfold fmtDk at hs
 rcases List.mem_or_eq_of_mem_set hs with hs | rfl
 ·rcases List.mem_or_eq_of_mem_set hs with hs | rfl
  ·rw [List.eq_of_mem_replicate hs]; exact List.length_replicate
  ·exact filledL_length (by decide)
 ·exact filledL_length (by omega)
theorem newHd_pages{n j:Nat}(h:n≤1024):(newHd n j).pages=n:=by unfold newHd headN; simp only; omega
theorem newSto_ok{n j:Nat}(h0:1≤n)(h1:n≤500)(j0:2≤j)(j1:j≤500):(newSto n j).ok:=by
 have hp:=newHd_pages (n:=n) (j:=j) (by omega)
 refine ⟨⟨by simp [newSto,newHd,headN] <;> omega,by simp [newSto,newHd,headN] <;> omega,by simp [newSto,newHd,headN] <;> omega,by simp only [newSto,hp]; omega⟩,fmtDk_ok (by omega) (by omega),by simp [newSto,newHd,headN] <;> omega,by simp only [newSto,hp]; omega,by simp only [newSto,hp]; omega,?_,fun _ h=>(by cases h),List.Pairwise.nil,List.Pairwise.nil,fun _ h=>(by cases h)⟩
 simp only [newSto,hp,newDkP,fmtDk,List.length_set,List.length_replicate]
 simp only [newHd,headN]
 omega
theorem newSto_live{n j:Nat}(h0:1≤n)(h1:n≤500)(j0:2≤j)(j1:j≤500):Live (newSto n j) [] :=
 ⟨newSto_ok h0 h1 j0 j1,rfl,rfl,by simp only [newSto,newHd_pages (show n≤1024 by omega)]; exact h1,by simp,List.Pairwise.nil,fun _ h=>(by cases h)⟩
theorem newSto_pgs{n j:Nat}(h0:1≤n)(h1:n≤500)(j0:2≤j)(j1:j≤500):pgs (newSto n j)=List.replicate n zeroB:=by
 have hv:=newSto_live h0 h1 j0 j1
 have hp:=newHd_pages (n:=n) (j:=j) (by omega)
 refine pgs_eq (by rw [List.length_replicate]; exact hp.symm) fun i hi=>?_
 rw [List.length_replicate] at hi
 rw [(nowP_eq hv.ok hv.dead hv.gone (by omega) (by show (i:Int)<(newHd n j).pages; omega)).2]
 show (none:Option (List UInt8)).getD (lastL [] _ ((fmtDk (n+j+2) (newHd n j)).safe.getD (homeN (newSto n j) i).toNat []))=_
 have e:(homeN (newSto n j) i).toNat=j+2+i:=by
  unfold homeN
  show (2+((j:Nat):Int)+i).toNat=_
  omega
 rw [e]
 simp only [Option.getD_none,lastL,List.foldl_nil,fmtDk]
 rw [List.getD_eq_getElem?_getD,List.getD_eq_getElem?_getD,List.getElem?_set_ne (by omega),List.getElem?_set_ne (by omega),List.getElem?_replicate,List.getElem?_replicate,if_pos (by omega),if_pos hi]
section
variable {W0 w:World} {F:Nat→Prop} {L:List Res} {I:List Inv}
theorem pnew_ok{b mb g:Nat}{vb vl:Value}{s:Sto}(mx:Nat)(h:St W0 w F (StoL b mb g vb vl s++L) I)(hv:Live s [])(hlow:LowD s mx) :
  Ret Tryz.prog 43 [.pointer (some ⟨b,0,none⟩)] w fun u w'=>∃ p c,u=.tuple #[.pointer (some ⟨p,0,none⟩),.int .i64 0]∧Pgr ⟨p,b,mb,g,c,vb,vl,s.hd,s.disk,mx⟩ (pgs s) W0 w' F L I:=by
 refine ent43 _ _ _ ?_
 simp (disch:=first|omega|exact zF rfl|exact zG rfl|exact fun h=>h|(simp only[zA,zB,zC,zD,bytesW];omega)) only[go_sem]
 have hpg:=hv.ok.pages
 refine Ret.mono (sread_ok 0 h hv.ok) ?_
 rintro _ w2 ⟨rfl,s2⟩
 rw [(nowP_eq hv.ok hv.dead hv.gone (by omega) (by omega)).1] at s2 ⊢
 simp (disch:=first|omega|exact zF rfl|exact zG rfl|exact fun h=>h|(simp only[zA,zB,zC,zD,bytesW];omega)) only[go_sem]
 refine Ret.mono (cnew_ok s2) ?_
 rintro _ w3 ⟨c,rfl,s3⟩
 simp (disch:=first|omega|exact zF rfl|exact zG rfl|exact fun h=>h|(simp only[zA,zB,zC,zD,bytesW];omega)) only[go_sem]
 refine bdW_built (cells:=#[.pointer (some ⟨b,0,none⟩),.pointer (some ⟨c,0,none⟩)]) (by kernel_rfl) ?_
 have s4:=s3.box #[.pointer (some ⟨b,0,none⟩),.pointer (some ⟨c,0,none⟩)] 98
 simp (disch:=first|omega|exact zF rfl|exact zG rfl|exact fun h=>h|(simp only[zA,zB,zC,zD,bytesW];omega)) only[go_sem]
 refine ⟨_,c,rfl,.slice none 0 0,[],s,?_,hv,rfl,rfl,hlow,rfl⟩
 generalize w3.heap.size=p at s4 ⊢
 refine s4.perm ?_
 unfold PgL
 have:=(List.perm_append_comm (l₁:=StoL b mb g vb vl s) (l₂:=CaL c (.slice none 0 0) [])).append_right L
 simp only [List.append_assoc,List.cons_append,List.nil_append] at this ⊢
 exact this.cons _
end
structure Given(n:Nat)(P:List (List UInt8))(G:Nat→Bool):Prop where
 len:P.length=n
 u:(usedP P).length=256
 has:∀ j:Nat,j<n→hasL (usedP P) j=G j
theorem usedP_set0{P:List (List UInt8)}{l:List UInt8}(h:0<P.length):usedP (P.set 0 l)=l:=by
 unfold usedP
 rw [List.getD_eq_getElem?_getD,List.getElem?_set_self h]; rfl
theorem usedP_set{P:List (List UInt8)}{l:List UInt8}{i:Nat}(h:i≠0):usedP (P.set i l)=usedP P:=by
 unfold usedP
 rw [List.getD_eq_getElem?_getD,List.getD_eq_getElem?_getD,List.getElem?_set_ne h]
theorem Given.mark{n:Nat}{P:List (List UInt8)}{G:Nat→Bool}(h:Given n P G)(hn:n≤2048){i:Nat}(hi:i<n)(b:Bool):Given n (markP P i b) (fun j=>if j=i then b else G j):=by
 have h0:0<P.length:=by rw [h.len]; omega
 have hl:(withL (usedP P) i b).length=256:=by rw [withL_length,h.u]
 have e:usedP (markP P i b)=withL (usedP P) i b:=by unfold markP; rw [usedP_set0 h0,filled256 hl]
 refine ⟨by unfold markP; rw [List.length_set,h.len],by rw [e,hl],fun j hj=>?_⟩
 rw [e,withL_has _ _ _ (by unfold fitsL; rw [decide_eq_true_eq,h.u]; omega)]
 by_cases hji:j=i
 ·rw [if_pos (by omega),if_pos hji]
 ·rw [if_neg (by omega),if_neg hji]; exact h.has j hj
theorem Given.set{n:Nat}{P:List (List UInt8)}{G:Nat→Bool}(h:Given n P G){i:Nat}(hi:i≠0)(l:List UInt8):Given n (P.set i l) G :=
 ⟨by rw [List.length_set,h.len],by rw [usedP_set hi]; exact h.u,fun j hj=>by rw [usedP_set hi]; exact h.has j hj⟩
theorem Given.ext{n:Nat}{P:List (List UInt8)}{G G':Nat→Bool}(h:Given n P G)(e:∀ j,j<n→G j=G' j):Given n P G':=⟨h.len,h.u,fun j hj=>(h.has j hj).trans (e j hj)⟩
theorem Given.alloc{n:Nat}{P:List (List UInt8)}{G:Nat→Bool}(h:Given n P G)(hn:n≤2048){k:Nat}(h2:2≤k)(hk:k<n)(hg:G k=false)(hall:∀ j,2≤j→j<k→G j=true) :
  allocN P=(emptyP (markP P k true) k,(k:Int),0)∧lowP P=some k∧Given n (emptyP (markP P k true) k) (fun j=>if j=k then true else G j):=by
 have e:lowP P=some k:=by
  unfold lowP
  rw [List.find?_range_eq_some,h.len]
  refine ⟨by rw [h.has k hk,hg]; simp; omega,by rw [List.mem_range]; exact hk,fun j hj=>?_⟩
  by_cases h2j:2≤j
  ·rw [h.has j (by omega),hall j h2j hj]; simp
  ·simp [h2j]
 refine ⟨by unfold allocN; rw [e],e,?_⟩
 have:=(h.mark hn hk true).set (i:=k) (by omega) (filledL [])
 unfold emptyP
 rw [Int.toNat_natCast]
 exact this
theorem Given.chk{n:Nat}{P:List (List UInt8)}{G:Nat→Bool}(h:Given n P G){i:Nat}(h2:2≤i)(hi:i<n):chkN P i=if G i=true then 0 else 6:=by
 unfold chkN
 rw [h.len,h.has i hi]
 by_cases hg:G i=true
 ·rw [if_pos ⟨by omega,by omega,hg⟩,if_pos hg]
 ·rw [if_neg (fun hh=>hg hh.2.2),if_neg hg]
theorem Given.room{n:Nat}{P:List (List UInt8)}{G:Nat→Bool}(h:Given n P G):roomN P=n - ((List.range n).filter G).length:=by
 unfold roomN cntN
 rw [h.len]
 congr 2
 exact List.filter_congr fun j hj=>h.has j (List.mem_range.1 hj)
theorem fmtU_has:∀ j:Fin 512,hasL fmtU j.val=decide (j.val<2):=by decide +kernel
theorem fmtU_len:fmtU.length=256:=by unfold fmtU; rw [withL_length,withL_length]; decide
theorem fmt_given{n:Nat}{P:List (List UInt8)}(hl:P.length=n)(h3:3≤n)(h64:n≤500):Given n (fmtP P) (fun j=>decide (j<2)):=by
 have e:usedP (fmtP P)=fmtU:=by
  unfold fmtP
  rw [usedP_set (by decide),usedP_set0 (by omega),filled256 fmtU_len]
 refine ⟨by unfold fmtP; rw [List.length_set,List.length_set,hl],by rw [e]; exact fmtU_len,fun j hj=>?_⟩
 rw [e]
 exact fmtU_has ⟨j,by omega⟩
open Go Go.Ann Go.RowKit Go.WideShapes
theorem Pgr.lift{e:En}{P:List (List UInt8)}{W0 w:World}{F:Nat→Prop}{L:List Res}{I:List Inv}(h:Pgr e P W0 w F L I):∃ A,St W0 w F (L++A) I∧∀ w' L' I',St W0 w' F (L'++A) I'→Pgr e P W0 w' F L' I':=by
 obtain ⟨rv,l,s,hs,h2⟩:=h
 refine ⟨PgL e rv l s,hs.perm List.perm_append_comm,fun w' L' I' h'=>⟨rv,l,s,h'.perm List.perm_append_comm,h2⟩⟩
end Go.Proofs.YtkmjkmjpejmlnaaGreat

namespace Go.Proofs.YtkmjkmjpejmlnaaGreat.Slt
open Go Go.Ann Go.RowKit
def strE(r:List UInt8):List Value:=[.string (ofL r)]
structure Pg(s:List UInt8)(L:List (List UInt8)):Prop where
 lo:8≤s.length
 hi:s.length≤256
 n:bN s 0=L.length
 room:1+2 * L.length≤s.length
 free:∀ i:Nat,i<L.length→bN s (2+2 * i)=0→bN s (1+2 * i)=0∧i+1≠L.length
 taken:∀ i:Nat,i<L.length→0<bN s (2+2 * i)→1+2 * L.length≤bN s (1+2 * i)∧bN s (1+2 * i)+bN s (2+2 * i)≤s.length
 apart:∀ i k:Nat,i<L.length→k<i→0<bN s (2+2 * i)→0<bN s (2+2 * k)→bN s (1+2 * i)<bN s (1+2 * k)+bN s (2+2 * k)→bN s (1+2 * k)<bN s (1+2 * i)+bN s (2+2 * i)→False
 recs:∀ i:Nat,(h:i<L.length)→L[i]=cutL s (bN s (1+2 * i)) (bN s (1+2 * i)+bN s (2+2 * i))
def getP(L:List (List UInt8))(i:Int):List UInt8 × Bool:=if 0≤i then match L[i.toNat]? with | some r=>(r,decide (r≠[])) | none=>([],false) else ([],false)
theorem strs_set:∀ (l:List (List UInt8)) (i:Nat) (r:List UInt8),(l.set i r).flatMap strE=(l.flatMap strE).set i (.string (ofL r))
 | [],_,_=>rfl
 | a::l,0,r=>rfl
 | a::l,i+1,r=>by
  rw [List.set_cons_succ,List.flatMap_cons,List.flatMap_cons,strs_set l i r]; rfl
end Go.Proofs.YtkmjkmjpejmlnaaGreat.Slt

namespace Go.Proofs.YtkmjkmjpejmlnaaGreat.Slt
open Go Go.Ann Go.RowKit
def sumP(L:List (List UInt8)):Nat:=(L.map List.length).sum
def takesP(L:List (List UInt8)):Nat:=1+2 * L.length+sumP L
def vacantP(L:List (List UInt8)):Nat:=L.findIdx fun r=>decide (r=[])
def PgV(w:World)(u:Value)(n:Int)(L:List (List UInt8)):Prop:=∃ vL,u=.agg #[.int .i64 n,vL]∧RdS w 1 strE vL L
theorem PgV.below{w w':World}{u:Value}{n:Int}{L:List (List UInt8)}(h:PgV w u n L)(hb:Below w.heap.size w w'):PgV w' u n L:=by
 obtain ⟨v,rfl,h⟩:=h
 exact ⟨v,rfl,h.below hb (by decide)⟩
theorem offA_zero{a:Option Addr}{c sz:Nat}:offA a c 0 sz=a:=by
 unfold offA
 rw [Nat.zero_mul]
 split
 ·rfl
 ·cases a with
  | none=>rfl
  | some a=>exact congrArg some (by unfold Addr.add; rfl)
end Go.Proofs.YtkmjkmjpejmlnaaGreat.Slt

namespace Go.Proofs.YtkmjkmjpejmlnaaGreat.Slt
open Go Go.Ann Go.RowKit
def u8(n:Nat):UInt8:=UInt8.ofNat n
theorem wrap_u8(n:Nat):IntKind.u8.wrap (n:Int)=((u8 n).toNat:Int):=by
 rw [wrap_u8_mod]
 unfold u8
 simp
def putTo(b:List UInt8)(e:Nat)(r:List UInt8)(k:Nat):List UInt8:=b.take e++r.take k++b.drop (e+k)
def putAt(b:List UInt8)(e:Nat)(r:List UInt8):List UInt8:=putTo b e r r.length
def layS(i:Nat)(st:List UInt8 × Nat)(r:List UInt8):List UInt8 × Nat :=
 if r=[] then st else (putAt ((st.1.set (1+2 * i) (u8 (st.2 - r.length))).set (2+2 * i) (u8 r.length)) (st.2 - r.length) r,st.2 - r.length)
def layTo(size:Nat)(L:List (List UInt8)):Nat→List UInt8 × Nat
 | 0=>((List.replicate size 0).set 0 (u8 L.length),size)
 | k+1=>match L[k]? with | some r=>layS k (layTo size L k) r | none=>layTo size L k
def textP(size:Nat)(L:List (List UInt8)):List UInt8:=(layTo size L L.length).1
end Go.Proofs.YtkmjkmjpejmlnaaGreat.Slt

namespace Go.Proofs.YtkmjkmjpejmlnaaGreat.Slt
open Go Go.Ann Go.RowKit
theorem Pg.ne{s:List UInt8}{L:List (List UInt8)}(h:Pg s L):s≠[]:=by rintro rfl; have:=h.lo; simp at this
theorem vacant_nil{L:List (List UInt8)}(h:vacantP L<L.length):L[vacantP L]=[]:=by
 unfold vacantP at h ⊢
 have:=List.findIdx_getElem (w:=h)
 exact of_decide_eq_true this
end Go.Proofs.YtkmjkmjpejmlnaaGreat.Slt

namespace Go.Proofs.YtkmjkmjpejmlnaaGreat.Slt
open Go Go.Ann Go.RowKit
def badSet(size:Nat)(L:List (List UInt8))(i:Int)(r:List UInt8):Prop:=(getP L i).2=false∨r=[]∨255<r.length∨(size:Int)<(takesP L:Int) - (getP L i).1.length+r.length
instance (size:Nat) (L:List (List UInt8)) (i:Int) (r:List UInt8):Decidable (badSet size L i r):=by unfold badSet; exact inferInstance
end Go.Proofs.YtkmjkmjpejmlnaaGreat.Slt

namespace Go.Proofs.YtkmjkmjpejmlnaaGreat
open Go Go.Ann Go.RowKit Go.WideShapes
def nxtN(P:List (List UInt8))(a:Nat):Nat:=unfixL ((P.getD a []).take 4)
def resN(P:List (List UInt8))(a:Nat):List UInt8:=(P.getD a []).drop 4
inductive Ent
 | no
 | sh (r:List UInt8)
 | lo (r:List UInt8) (g:List Nat)
 | gh (s:List UInt8)
namespace Ent
def stub:Ent→List UInt8
 | .no=>[]
 | .sh r=>115::r
 | .lo r g=>108::(fixL r.length 4++fixL (g.headD 0) 4)
 | .gh s=>s
def pgs:Ent→List Nat
 | .lo _ g=>g
 | _=>[]
def rec?:Ent→Option (List UInt8)
 | .sh r=>some r
 | .lo r _=>some r
 | _=>none
end Ent
def SpellN(P:List (List UInt8)):List UInt8→List Nat→Prop
 | r,[]=>r=[]
 | r,a::g=>r≠[]∧nxtN P a=g.headD 0∧(resN P a).take r.length=r.take 252∧SpellN P (r.drop 252) g
def EntOk(P:List (List UInt8)):Ent→Prop
 | .no=>True
 | .sh r=>r≠[]∧r.length≤62
 | .lo r g=>62<r.length∧r.length≤2000∧SpellN P r g
 | .gh s=>s≠[]∧s.length≤63
def PageOk(P:List (List UInt8))(x:Nat × List Ent):Prop:=Slt.Pg (resN P x.1) (x.2.map Ent.stub)∧∀ e∈x.2,EntOk P e
def LinkN(P:List (List UInt8)):Nat→List Nat→Nat→Prop
 | a,[],b=>a=b
 | a,c::C,b=>a=c∧LinkN P (nxtN P c) C b
def entsG(es:List Ent):List Nat:=es.flatMap Ent.pgs
def pagesX(X:List (Nat × List Ent)):List Nat:=X.flatMap fun x=>x.1::entsG x.2
def rootM(P:List (List UInt8))(i:Int):Nat:=unfixL (cutL (rootB P) (4 * i) (4 * i+4))
structure HpN(mx n:Nat)(i:Int)(P:List (List UInt8))(X:List (Nat × List Ent))(E:List Nat):Prop where
 given:Given n P fun j=>decide (j<2∨j∈E++pagesX X)
 low:∀ a∈E++pagesX X,2≤a∧a<mx
 nd:(E++pagesX X).Nodup
 full:∀ p∈P,p.length=256
 idx:0≤i∧i<16
 big:3≤n∧n≤500∧3≤mx∧mx≤n
 root:LinkN P (rootM P i) (X.map Prod.fst) 0
 pg:∀ x∈X,PageOk P x
 some:∀ x∈X,∃ e∈x.2,e.stub≠[]
def SameOn(P P':List (List UInt8))(C:List Nat):Prop:=∀ c∈C,P'.getD c []=P.getD c []
theorem SameOn.sub{P P':List (List UInt8)}{C D:List Nat}(h:SameOn P P' C)(hs:∀ d∈D,d∈C):SameOn P P' D:=fun c hc=>h c (hs c hc)
theorem SameOn.nxt{P P':List (List UInt8)}{C:List Nat}(h:SameOn P P' C){c:Nat}(hc:c∈C):nxtN P' c=nxtN P c:=by unfold nxtN; rw [h c hc]
theorem SameOn.res{P P':List (List UInt8)}{C:List Nat}(h:SameOn P P' C){c:Nat}(hc:c∈C):resN P' c=resN P c:=by unfold resN; rw [h c hc]
theorem SpellN.same{P P':List (List UInt8)}:∀ {g:List Nat} {r:List UInt8},SameOn P P' g→SpellN P r g→SpellN P' r g
 | [],_,_,h=>h
 | a::g,r,hs,h=>by
  obtain ⟨h1,h2,h3,h4⟩:=h
  refine ⟨h1,?_,?_,SpellN.same (hs.sub fun d hd=>List.mem_cons_of_mem _ hd) h4⟩
  ·rw [hs.nxt List.mem_cons_self]; exact h2
  ·rw [hs.res List.mem_cons_self]; exact h3
theorem EntOk.same{P P':List (List UInt8)}{e:Ent}(hs:SameOn P P' e.pgs)(h:EntOk P e):EntOk P' e:=by
 cases e with
 | lo r g=>exact ⟨h.1,h.2.1,h.2.2.same hs⟩
 | no=>exact h
 | sh r=>exact h
 | gh s=>exact h
theorem ents_sub{es:List Ent}{e:Ent}(he:e∈es):∀ d∈e.pgs,d∈entsG es:=fun d hd=>List.mem_flatMap.2 ⟨e,he,hd⟩
theorem page_sub{X:List (Nat × List Ent)}{x:Nat × List Ent}(hx:x∈X):∀ d∈x.1::entsG x.2,d∈pagesX X:=fun d hd=>List.mem_flatMap.2 ⟨x,hx,hd⟩
theorem PageOk.same{P P':List (List UInt8)}{x:Nat × List Ent}(hs:SameOn P P' (x.1::entsG x.2))(h:PageOk P x):PageOk P' x:=by
 refine ⟨?_,fun e he=>(h.2 e he).same (hs.sub fun d hd=>List.mem_cons_of_mem _ (ents_sub he d hd))⟩
 rw [hs.res List.mem_cons_self]; exact h.1
theorem LinkN.same{P P':List (List UInt8)}:∀ {C:List Nat} {a b:Nat},SameOn P P' C→LinkN P a C b→LinkN P' a C b
 | [],_,_,_,h=>h
 | c::C,a,b,hs,h=>by
  refine ⟨h.1,?_⟩
  rw [hs.nxt List.mem_cons_self]
  exact LinkN.same (hs.sub fun d hd=>List.mem_cons_of_mem _ hd) h.2
theorem LinkN.app{P:List (List UInt8)}:∀ {C D:List Nat} {a b:Nat},LinkN P a (C++D) b↔∃ c,LinkN P a C c∧LinkN P c D b
 | [],D,a,b=>⟨fun h=>⟨a,rfl,h⟩,fun ⟨c,h1,h2⟩=>by cases h1; exact h2⟩
 | c::C,D,a,b=>by
  refine ⟨fun h=>?_,fun ⟨d,h1,h2⟩=>⟨h1.1,LinkN.app.2 ⟨d,h1.2,h2⟩⟩⟩
  obtain ⟨d,h1,h2⟩:=LinkN.app.1 h.2
  exact ⟨d,⟨h.1,h1⟩,h2⟩
theorem rootN_eq{P:List (List UInt8)}{i:Int}(h:0≤i∧i<16):rootN P i=(((rootM P i:Nat):Int),0):=by unfold rootN rootM; rw [if_pos h]
section
variable {mx n:Nat} {i:Int} {P:List (List UInt8)} {X:List (Nat × List Ent)} {E:List Nat}
theorem HpN.memX(h:HpN mx n i P X E){a:Nat}(ha:a∈pagesX X):a∈E++pagesX X:=List.mem_append_right _ ha
theorem HpN.memE(h:HpN mx n i P X E){a:Nat}(ha:a∈E):a∈E++pagesX X:=List.mem_append_left _ ha
theorem count_given{n:Nat}{l:List Nat}(h2:2≤n)(hr:∀ a∈l,2≤a∧a<n)(hn:l.Nodup):((List.range n).filter fun j=>decide (j<2∨j∈l)).length=2+l.length:=by
 have hp:((List.range n).filter fun j=>decide (j<2∨j∈l)).Perm ([0,1]++l):=by
  rw [List.perm_ext_iff_of_nodup (List.nodup_range.filter _)]
  ·intro a
   simp only [List.mem_filter,List.mem_range,decide_eq_true_eq,List.cons_append,List.nil_append,List.mem_cons]
   constructor
   ·rintro ⟨h1,h3 | h3⟩
    ·have:a=0∨a=1:=by omega
     rcases this with rfl | rfl
     ·exact .inl rfl
     ·exact .inr (.inl rfl)
    ·exact .inr (.inr h3)
   ·rintro (rfl | rfl | h3)
    ·exact ⟨by omega,.inl (by omega)⟩
    ·exact ⟨by omega,.inl (by omega)⟩
    ·exact ⟨(hr a h3).2,.inr h3⟩
  ·simp only [List.cons_append,List.nil_append,List.nodup_cons,List.mem_cons]
   refine ⟨?_,?_,hn⟩
   ·rintro (h | h)
    ·cases h
    ·have:=(hr 0 h).1; omega
   ·intro h; have:=(hr 1 h).1; omega
 rw [hp.length_eq,List.length_append]; rfl
end
open Go Go.Ann Go.RowKit Go.WideShapes
def setR(R:List UInt8)(i v:Nat):List UInt8:=R.take (4 * i)++fixL v 4++R.drop (4 * i+4)
theorem setR_len{R:List UInt8}{i v:Nat}(h:R.length=256)(hi:i<16):(setR R i v).length=256:=by
 unfold setR; rw [List.length_append,List.length_append,fixL_len,List.length_take,List.length_drop,h]; omega
theorem setR_get{R:List UInt8}{i v m:Nat}(h:R.length=256)(hi:i<16):(setR R i v)[m]?=if 4 * i≤m∧m<4 * i+4 then (fixL v 4)[m - 4 * i]? else R[m]?:=by
 have l1:(R.take (4 * i)).length=4 * i:=by rw [List.length_take,h]; omega
 have l2:(R.take (4 * i)++fixL v 4).length=4 * i+4:=by rw [List.length_append,l1,fixL_len]
 unfold setR
 rw [List.getElem?_append,l2]
 by_cases h1:m<4 * i+4
 ·rw [if_pos h1,List.getElem?_append,l1]
  by_cases h2:m<4 * i
  ·rw [if_pos h2,if_neg (by omega),List.getElem?_take,if_pos h2]
  ·rw [if_neg h2,if_pos ⟨by omega,h1⟩]
 ·rw [if_neg h1,if_neg (by omega),List.getElem?_drop]
  congr 1; omega
theorem cut_get{R:List UInt8}{k m:Nat}:(cutL R (4 * (k:Int)) (4 * (k:Int)+4))[m]?=if m<4 then R[4 * k+m]? else none:=by
 unfold cutL
 rw [List.getElem?_drop,show (4 * (k:Int)).toNat=4 * k by omega,show (4 * (k:Int)+4).toNat=4 * k+4 by omega,List.getElem?_take]
 by_cases h:m<4
 ·rw [if_pos (by omega),if_pos h]
 ·rw [if_neg (by omega),if_neg h]
theorem root_same{R:List UInt8}{i v:Nat}(h:R.length=256)(hi:i<16):cutL (setR R i v) (4 * (i:Int)) (4 * (i:Int)+4)=fixL v 4:=by
 refine List.ext_getElem? fun m=>?_
 rw [cut_get,setR_get h hi]
 by_cases hm:m<4
 ·rw [if_pos hm,if_pos (by omega)]
  congr 1; omega
 ·rw [if_neg hm,List.getElem?_eq_none (by rw [fixL_len]; omega)]
theorem root_other{R:List UInt8}{i v k:Nat}(h:R.length=256)(hi:i<16)(hk:k≠i):cutL (setR R i v) (4 * (k:Int)) (4 * (k:Int)+4)=cutL R (4 * (k:Int)) (4 * (k:Int)+4):=by
 refine List.ext_getElem? fun m=>?_
 rw [cut_get,cut_get,setR_get h hi]
 by_cases hm:m<4
 ·rw [if_pos hm,if_pos hm,if_neg (by omega)]
 ·rw [if_neg hm,if_neg hm]
def rootAt(R:List UInt8)(k:Nat):Nat:=unfixL (cutL R (4 * (k:Int)) (4 * (k:Int)+4))
theorem rootAt_set{R:List UInt8}{i v k:Nat}(h:R.length=256)(hi:i<16)(hv:v<4294967296):rootAt (setR R i v) k=if k=i then v else rootAt R k:=by
 unfold rootAt
 by_cases hk:k=i
 ·subst hk
  rw [root_same h hi,if_pos rfl,unfixL_fixL]
  exact Nat.mod_eq_of_lt hv
 ·rw [root_other h hi hk,if_neg hk]
theorem rootAt_zero(k:Nat):rootAt (filledL []) k=0:=by
 have h:∀ l:List UInt8,(∀ u∈l,u=0)→unfixL l=0:=by
  intro l
  induction l with
  | nil=>intro _; rfl
  | cons a l ih =>
   intro hl
   rw [unfixL,ih fun u hu=>hl u (List.mem_cons_of_mem _ hu),hl a (List.mem_cons_self ..)]; rfl
 refine h _ fun u hu=>?_
 unfold cutL at hu
 have:=List.mem_of_mem_take (List.mem_of_mem_drop hu)
 unfold filledL at this
 rw [List.nil_append] at this
 exact List.eq_of_mem_replicate this
theorem setRootN_in{P:List (List UInt8)}{i j:Int}(hi:0≤i∧i<16)(hr:(rootB P).length=256)(hj:j=0∨chkN P j=0)(h0:0≤j):setRootN P i j=(P.set 1 (setR (rootB P) i.toNat j.toNat),0):=by
 unfold setRootN
 have e0:(rootN P i).2=0:=by unfold rootN; rw [if_pos hi]
 rw [if_neg (by rw [e0]; decide),if_neg (by rintro ⟨h1,h2⟩; rcases hj with h | h; exact h1 h; exact h2 h)]
 rw [show (4 * i).toNat=4 * i.toNat by omega,show (4 * i+4).toNat=4 * i.toNat+4 by omega]
 have:=setR_len (R:=rootB P) (i:=i.toNat) (v:=j.toNat) hr (by omega)
 unfold setR at this
 rw [filled256 this]
 rfl
theorem rootB_set{P:List (List UInt8)}{l:List UInt8}(h:1<P.length):rootB (P.set 1 l)=l:=by
 unfold rootB
 rw [List.getD_eq_getElem?_getD,List.getElem?_set_self h]; rfl
theorem rootM_at{P:List (List UInt8)}{i:Int}(h:0≤i):rootM P i=rootAt (rootB P) i.toNat:=by
 unfold rootM rootAt
 rw [Int.toNat_of_nonneg h]
theorem full_set{P:List (List UInt8)}{a:Nat}{s:List UInt8}(h:∀ p∈P,p.length=256)(hs:s.length=256):∀ p∈P.set a s,p.length=256:=by
 intro p hp
 rcases List.mem_or_eq_of_mem_set hp with hp | rfl
 ·exact h p hp
 ·exact hs
section
variable {mx n:Nat} {i:Int} {P P':List (List UInt8)} {X:List (Nat × List Ent)} {E E':List Nat}
theorem HpN.upd(h:HpN mx n i P X E)(hg:Given n P' fun j=>decide (j<2∨j∈E'++pagesX X))(hr:∀ a∈E',2≤a∧a<mx)(hn:(E'++pagesX X).Nodup)(hf:∀ p∈P',p.length=256)(hs:SameOn P P' (1::pagesX X)):HpN mx n i P' X E':=by
 have hb:rootM P' i=rootM P i:=by
  unfold rootM rootB
  rw [hs 1 List.mem_cons_self]
 refine ⟨hg,fun a ha=>?_,hn,hf,h.idx,h.big,?_,fun x hx=>(h.pg x hx).same (hs.sub fun d hd=>List.mem_cons_of_mem _ (page_sub hx d hd)),h.some⟩
 ·rcases List.mem_append.1 ha with ha | ha
  ·exact hr a ha
  ·exact h.low a (h.memX ha)
 ·rw [hb]
  refine h.root.same (hs.sub fun d hd=>?_)
  obtain ⟨x,hx,rfl⟩:=List.mem_map.1 hd
  exact List.mem_cons_of_mem _ (page_sub hx _ List.mem_cons_self)
theorem HpN.perm(h:HpN mx n i P X E)(hp:E.Perm E'):HpN mx n i P X E':=by
 have hm:∀ a,a∈E'++pagesX X↔a∈E++pagesX X:=fun a=>(hp.append_right (pagesX X)).mem_iff.symm
 exact h.upd (h.given.ext fun j hj=>by simp only [hm]) (fun a ha=>h.low a (h.memE (hp.mem_iff.2 ha))) ((hp.append_right _).nodup_iff.1 h.nd) h.full fun c _=>rfl
theorem pagesX_mid{A B:List (Nat × List Ent)}{x:Nat × List Ent}:pagesX (A++x::B)=pagesX A++(x.1::entsG x.2)++pagesX B:=by
 unfold pagesX
 rw [List.flatMap_append,List.flatMap_cons,List.append_assoc]
end
open Go Go.Ann Go.RowKit Go.WideShapes
section
variable {mx n:Nat} {i:Int} {P P':List (List UInt8)} {X:List (Nat × List Ent)} {E E':List Nat}
theorem rootM_set{P:List (List UInt8)}{i:Int}{v:Nat}(hi:0≤i∧i<16)(hr:(rootB P).length=256)(h1:1<P.length)(hv:v<4294967296):rootM (P.set 1 (setR (rootB P) i.toNat v)) i=v:=by
 rw [rootM_at hi.1,rootB_set h1,rootAt_set hr (by omega) hv,if_pos rfl]
end
end Go.Proofs.YtkmjkmjpejmlnaaGreat

namespace Go.Proofs.YtkmjkmjpejmlnaaGreat.Slt
open Go Go.Ann Go.RowKit
theorem vacant_le(L:List (List UInt8)):vacantP L≤L.length:=List.findIdx_le_length
end Go.Proofs.YtkmjkmjpejmlnaaGreat.Slt

namespace Go.Proofs.YtkmjkmjpejmlnaaGreat
open Go Go.Ann Go.RowKit Go.WideShapes
def stubs(es:List Ent):List (List UInt8):=es.map Ent.stub
def vacE(es:List Ent):Nat:=Slt.vacantP (stubs es)
def putE(e:Ent)(es:List Ent):List Ent:=if vacE es=es.length then es++[e] else es.set (vacE es) e
theorem stubs_len(es:List Ent):(stubs es).length=es.length:=List.length_map ..
theorem nil_no{e:Ent}(h:e.stub=[]):e.rec?=none∧e.pgs=[]:=by
 cases e with
 | no=>exact ⟨rfl,rfl⟩
 | sh r=>cases h
 | lo r g=>cases h
 | gh s=>exact ⟨rfl,rfl⟩
def recE(a k:Nat)(e:Ent):List (Nat × List UInt8):=match e.rec? with | some r=>[(256 * a+k,r)] | none=>[]
def recsE(a:Nat):Nat→List Ent→List (Nat × List UInt8)
 | _,[]=>[]
 | k,e::es=>recE a k e++recsE a (k+1) es
def recsX(X:List (Nat × List Ent)):List (Nat × List UInt8):=X.flatMap fun x=>recsE x.1 0 x.2
theorem ents_split{es:List Ent}{k:Nat}(h:k<es.length):es=es.take k++es[k]::es.drop (k+1):=by
 rw [List.getElem_cons_drop,List.take_append_drop]
theorem ents_set{es:List Ent}{k:Nat}(h:k<es.length)(e:Ent):es.set k e=es.take k++e::es.drop (k+1):=by
 rw [List.set_eq_take_append_cons_drop,if_pos h]
theorem entsG_set{k:Nat}{es:List Ent}(h:k<es.length)(e:Ent):(es[k].pgs++entsG (es.set k e)).Perm (e.pgs++entsG es):=by
 rw [ents_set h e]
 conv=>rhs; rw [ents_split h]
 unfold entsG
 rw [List.flatMap_append,List.flatMap_append,List.flatMap_cons,List.flatMap_cons]
 have hp:∀ (A B C D:List Nat),(A++(C++(B++D))).Perm (B++(C++(A++D))):=fun A B C D=>by
  have h1:(A++(C++(B++D))).Perm ((B++(C++A))++D):=by
   have h2:(A++(C++B)).Perm (B++(C++A)):=by
    refine List.perm_append_comm.trans ?_
    have:=(List.perm_append_comm (l₁:=C) (l₂:=B)).append_right A
    rwa [List.append_assoc B C A] at this
   have:=h2.append_right D
   simpa only [List.append_assoc] using this
  simpa only [List.append_assoc] using h1
 exact hp _ _ _ _
theorem vac_at{es:List Ent}(h:vacE es≠es.length):∃ hk:vacE es<es.length,es[vacE es].stub=[]:=by
 have hle:vacE es≤es.length:=by
  have:=Slt.vacant_le (stubs es)
  rwa [stubs_len] at this
 have hlt:vacE es<es.length:=by omega
 refine ⟨hlt,?_⟩
 have:=Slt.vacant_nil (L:=stubs es) (by rw [stubs_len]; exact hlt)
 simp only [stubs,List.getElem_map] at this
 exact this
theorem entsG_put{es:List Ent}(e:Ent):(entsG (putE e es)).Perm (e.pgs++entsG es):=by
 unfold putE
 split
 ·unfold entsG
  rw [List.flatMap_append,List.flatMap_cons,List.flatMap_nil,List.append_nil]
  exact List.perm_append_comm
 ·rename_i h
  obtain ⟨hk,h0⟩:=vac_at h
  have:=entsG_set hk e
  rwa [(nil_no h0).2,List.nil_append] at this
open Go Go.Ann Go.RowKit Go.WideShapes
def chainN(n:Nat):Nat:=(n+251) / 252
theorem Pgr.perm{e:En}{P:List (List UInt8)}{W0 w:World}{F:Nat→Prop}{L L':List Res}{I:List Inv}(h:Pgr e P W0 w F L I)(hp:L.Perm L'):Pgr e P W0 w F L' I:=by
 obtain ⟨A,s,k⟩:=h.lift
 exact k _ _ _ (s.perm (hp.symm.append_right A))
section
variable {W0 w:World} {F:Nat→Prop} {L:List Res} {I:List Inv} {e:En} {P:List (List UInt8)}
end
open Go Go.Ann Go.RowKit Go.WideShapes
section
variable {W0 w:World} {F:Nat→Prop} {L:List Res} {I:List Inv} {e:En} {P:List (List UInt8)}
def curN(C:List Nat)(k:Nat):Nat:=C.getD k 0
theorem LinkN.at{P:List (List UInt8)}:∀ {C:List Nat} {a:Nat},LinkN P a C 0→(curN C 0=a)∧∀ k,k<C.length→nxtN P (curN C k)=curN C (k+1)
 | [],a,h=>⟨by have:a=0:=h; subst this; rfl,fun k hk=>by simp at hk⟩
 | c::C,a,h=>by
  obtain ⟨h1,h2⟩:=LinkN.at h.2
  refine ⟨h.1.symm,fun k hk=>?_⟩
  cases k with
  | zero=>exact h1.symm
  | succ k=>exact h2 k (by simpa using hk)
end
open Go Go.Ann Go.RowKit Go.WideShapes
section
variable {W0 w:World} {F:Nat→Prop} {L:List Res} {I:List Inv} {e:En} {P:List (List UInt8)}
theorem Pgr.box(h:Pgr e P W0 w F L I)(cs:Array Value)(t:TypeId):Pgr e P W0 (w.alloc (.cells cs t)) F (.blk w.heap.size cs t::L) I:=by
 obtain ⟨A,s,k⟩:=h.lift
 exact k _ _ _ (s.box cs t)
theorem Pgr.rules(h:Pgr e P W0 w F L I)(i:Nat){b:Nat}{cs:Array Value}{t:TypeId}(hi:L[i]?=some (.blk b cs t)):(∀ i,w.cell? ⟨b,i,none⟩=cs[i]?)∧(∀ i,w.frozen? ⟨b,i,none⟩=false)∧(∀ n,okSize cs n=true→cellsO w ⟨b,0,none⟩ 0 n=some cs.toList):=by
 obtain ⟨A,s,k⟩:=h.lift
 have hl:=(List.getElem?_eq_some_iff.1 hi).1
 exact s.rules i (by rw [List.getElem?_append_left hl]; exact hi)
theorem Pgr.bk(h:Pgr e P W0 w F L I)(i:Nat){b:Nat}{cs:Array Value}{t:TypeId}(hi:L[i]?=some (.blk b cs t)):Blk w b cs t:=by
 obtain ⟨A,s,k⟩:=h.lift
 have hl:=(List.getElem?_eq_some_iff.1 hi).1
 exact s.blk i (by rw [List.getElem?_append_left hl]; exact hi)
theorem Pgr.set(h:Pgr e P W0 w F L I)(i:Nat){b:Nat}{cs:Array Value}{t:TypeId}(hi:L[i]?=some (.blk b cs t))(j:Nat)(v:Value):Pgr e P W0 (w.setCell ⟨b,j,none⟩ v) F (L.set i (.blk b (cs.setIfInBounds j v) t)) I:=by
 obtain ⟨A,s,k⟩:=h.lift
 have hl:=(List.getElem?_eq_some_iff.1 hi).1
 have:=s.set i (by rw [List.getElem?_append_left hl]; exact hi) j v
 rw [List.set_append_left _ _ hl] at this
 exact k _ _ _ this
theorem Pgr.ob(h:Pgr e P W0 w F L I)(i:Nat){b:Nat}{o:Obj}(hi:L[i]?=some (.obj b o)):w.heap[b]?=some o:=by
 obtain ⟨A,s,k⟩:=h.lift
 have hl:=(List.getElem?_eq_some_iff.1 hi).1
 exact s.obj i (by rw [List.getElem?_append_left hl]; exact hi)
theorem Pgr.putOb(h:Pgr e P W0 w F L I)(i:Nat){b:Nat}{o:Obj}(hi:L[i]?=some (.obj b o))(o':Obj):Pgr e P W0 (w.putObj b o') F (L.set i (.obj b o')) I:=by
 obtain ⟨A,s,k⟩:=h.lift
 have hl:=(List.getElem?_eq_some_iff.1 hi).1
 have:=s.putObj i (by rw [List.getElem?_append_left hl]; exact hi) o'
 rw [List.set_append_left _ _ hl] at this
 exact k _ _ _ this
theorem Pgr.sub{L':List Res}(h:Pgr e P W0 w F L I)(hs:L'.Sublist L):Pgr e P W0 w F L' I:=by
 obtain ⟨A,s,k⟩:=h.lift
 exact k _ _ _ (s.sub (hs.append_right A))
end
def moreN(r:List UInt8):Nat:=if r.length≤62 then 0 else chainN r.length
def PutX(X:List (Nat × List Ent))(r:List UInt8)(id:Nat)(X':List (Nat × List Ent)):Prop :=
 ∃ t:Ent,t.rec?=some r∧t.pgs.length=moreN r ∧
  ((∃ A B a es,X=A++(a,es)::B∧X'=A++(a,putE t es)::B∧id=256 * a+vacE es)∨∃ a,X'=(a,[t])::X∧id=256 * a)
section
variable {W0 w:World} {F:Nat→Prop} {L:List Res} {I:List Inv} {e:En} {P:List (List UInt8)} {X:List (Nat × List Ent)} {E:List Nat} {n hb:Nat} {i:Int}
end
open Go Go.Ann Go.RowKit Go.WideShapes
def Real(X:List (Nat × List Ent)):Prop:=∀ x∈X,∀ e∈x.2,e.stub≠[]→∃ r,e.rec?=some r
theorem recsE_mem{a:Nat}{id:Nat}{r:List UInt8}:∀ {es:List Ent} {k:Nat},(id,r)∈recsE a k es↔∃ j,∃ hj:j<es.length,es[j].rec?=some r∧id=256 * a+(k+j)
 | [],k=>by simp [recsE]
 | e::es,k=>by
  rw [recsE,List.mem_append,recsE_mem]
  constructor
  ·rintro (h | ⟨j,hj,h1,h2⟩)
   ·unfold recE at h
    split at h
    ·rename_i r' hr
     rw [List.mem_singleton] at h
     cases h
     exact ⟨0,by simp,hr,rfl⟩
    ·cases h
   ·exact ⟨j+1,by simpa using hj,h1,by omega⟩
  ·rintro ⟨j,hj,h1,h2⟩
   cases j with
   | zero =>
    left
    have h1:e.rec?=some r:=h1
    unfold recE
    rw [h1,h2]; simp
   | succ j=>exact .inr ⟨j,by simpa using hj,h1,by omega⟩
theorem recsX_mem{X:List (Nat × List Ent)}{id:Nat}{r:List UInt8}:(id,r)∈recsX X↔∃ x∈X,∃ j,∃ hj:j<x.2.length,x.2[j].rec?=some r∧id=256 * x.1+j:=by
 unfold recsX
 rw [List.mem_flatMap]
 constructor
 ·rintro ⟨x,hx,h⟩
  obtain ⟨j,hj,h1,h2⟩:=recsE_mem.1 h
  exact ⟨x,hx,j,hj,h1,by omega⟩
 ·rintro ⟨x,hx,j,hj,h1,h2⟩
  exact ⟨x,hx,recsE_mem.2 ⟨j,hj,h1,by omega⟩⟩
theorem PutX.pages{X X':List (Nat × List Ent)}{r:List UInt8}{id:Nat}(h:PutX X r id X'):(pagesX X').length≤(pagesX X).length+(moreN r+1):=by
 obtain ⟨t,h1,h2,⟨A,B,a,es,rfl,rfl,rfl⟩ | ⟨a,rfl,rfl⟩⟩:=h
 ·rw [pagesX_mid,pagesX_mid]
  have:=(entsG_put (es:=es) t).length_eq
  rw [List.length_append,h2] at this
  simp only [List.length_append,List.length_cons]
  omega
 ·show (a::entsG [t]++pagesX X).length≤_
  have:entsG [t]=t.pgs:=by unfold entsG; simp
  rw [this]
  simp only [List.length_append,List.length_cons,h2]
  omega
section
variable {mx n:Nat} {i:Int} {P P':List (List UInt8)} {X:List (Nat × List Ent)} {E E':List Nat}
theorem HpN.none(h:HpN mx n i P X E)(hr:Real X)(h0:recsX X=[]):X=[]:=by
 cases X with
 | nil=>rfl
 | cons x X =>
  obtain ⟨e,he,h1⟩:=h.some x List.mem_cons_self
  obtain ⟨r,h2⟩:=hr x List.mem_cons_self e he h1
  obtain ⟨j,hj,rfl⟩:=List.mem_iff_getElem.1 he
  have:(256 * x.1+j,r)∈recsX (x::X):=recsX_mem.2 ⟨x,List.mem_cons_self,j,hj,h2,rfl⟩
  rw [h0] at this; cases this
end
open Go Go.Ann Go.RowKit Go.WideShapes
theorem Pgr.bel{e:En}{P:List (List UInt8)}{W0 w:World}{F:Nat→Prop}{L:List Res}{I:List Inv}(h:Pgr e P W0 w F L I):Below W0.heap.size W0 w:=by
 obtain ⟨rv,l,s,h1,h2⟩:=h
 exact h1.bel
section
variable {W0 w:World} {F:Nat→Prop} {L:List Res} {I:List Inv} {e:En} {P:List (List UInt8)} {X:List (Nat × List Ent)} {E:List Nat} {n hb:Nat} {i:Int}
theorem hpN_start{mx n:Nat}{i:Int}(h3:3≤n)(h4:n≤500)(hm:3≤mx∧mx≤n)(hi:0≤i∧i<16):HpN mx n i (fmtP (List.replicate n zeroB)) [] []:=by
 have hg:=fmt_given (P:=List.replicate n zeroB) (n:=n) List.length_replicate h3 h4
 have hfull:∀ p∈fmtP (List.replicate n zeroB),p.length=256:=by
  unfold fmtP
  refine full_set (full_set (fun p hp=>?_) (filledL_length (by rw [fmtU_len]; exact Nat.le_refl _))) (filledL_length (by decide))
  rw [List.eq_of_mem_replicate hp]; exact List.length_replicate
 have hn:∀ a,a∈([]:List Nat)++pagesX []→False:=fun a ha=>by simp [pagesX] at ha
 refine { given:=hg.ext fun j hj=>by simp [pagesX],low:=fun a ha=>(hn a ha).elim,nd:=List.Pairwise.nil,full:=hfull,idx:=hi,big:=⟨h3,h4,hm⟩,root:=?_,pg:=fun x hx=>(by simp at hx),some:=fun x hx=>(by simp at hx) }
 show rootM _ i=0
 rw [rootM_at hi.1]
 have:rootB (fmtP (List.replicate n zeroB))=filledL []:=by
  unfold fmtP
  exact rootB_set (by rw [List.length_set,List.length_replicate]; omega)
 rw [this]
 exact rootAt_zero _
end
open Go Go.Ann Go.RowKit Go.WideShapes
def natE(n:Nat):List Value:=[.int .i64 n]
theorem nat_one(n:Nat):∀ u∈natE n,u.oneCell'=true:=by intro u hu; rw [natE,List.mem_singleton] at hu; subst hu; rfl
theorem nats_len(l:List Nat):(l.flatMap natE).length=l.length:=by
 induction l with
 | nil=>rfl
 | cons a l ih=>rw [List.flatMap_cons,List.length_append,ih,List.length_cons]; simp only [natE,List.length_singleton]; omega
section
variable {W0 w:World} {F:Nat→Prop} {L:List Res} {I:List Inv}
end
open Go Go.Ann Go.RowKit Go.WideShapes
section
variable {W0 w:World} {F:Nat→Prop} {L:List Res} {I:List Inv} {e:En} {P:List (List UInt8)} {X:List (Nat × List Ent)} {E:List Nat} {n hb:Nat} {i:Int}
theorem Pgr.row(h:Pgr e P W0 w F L I)(i:Nat){v:Value}{t sz n:Nat}{xs:List Value}(hi:L[i]?=some (.row v t sz n xs)):w.ownsRow W0.heap.size t sz v n xs:=by
 obtain ⟨A,s,k⟩:=h.lift
 have hl:=(List.getElem?_eq_some_iff.1 hi).1
 exact s.row i (by rw [List.getElem?_append_left hl]; exact hi)
end
end Go.Proofs.YtkmjkmjpejmlnaaGreat

namespace Go.Ann
open Go Go.RowKit
section
variable {P:Program} {ops:Array Oper} {Q:Exit→Act→World→Prop} {md:Region.Mode} {S T:World→Prop} {hb:List Nat} {rd:Option Nat} {n:Nat}
theorem semAt_nd{o:Oper}(ho:∀ c,o.op≠.defer c){a:Operand→Value}:o.semAt (FR rd).round a=execOp a o:=Oper.semAt_eq _ _ _ ho
theorem yieldsIf_in{i:Nat}{o:Oper}{v:Value}{a:Act}(hnd:∀ c,o.op≠.defer c)(hi:ops[i]?=some o)(hy:YieldsIf P ops S o v a)
  {K:Act→World→Prop} {w:World} (hS:S w) (h:K (a.put o.dst v) w):wpOpIn (FR rd) n P ops Q i K a w:=by
 unfold Go.wpOpIn
 simp only [hi]
 rcases hy with ⟨hw,hv⟩ | ⟨hw,rfl⟩
 ·simp only [hw,if_true,Oper.wpIn,semAt_nd hnd,hv w hS,Oper.uponIn]; exact ⟨fun _ _=>trivial,h⟩
 ·simp only [hw,Bool.false_eq_true,if_false]; exact ⟨fun _ _=>trivial,h⟩
theorem wpOpIn_putIf{j:Nat}{oi oj:Oper}{v:Value}(hnd:∀ c,oj.op≠.defer c)(hj:ops[j]?=some oj)(hap:oi.apart ops oj=true)
  (hsi:∀ cs b,oi.op≠.select cs b) (hsj:∀ cs b,oj.op≠.select cs b)
  (hQ:∀ c a w,Q (.panic c) (a.put oi.dst v) w→Q (.panic c) a w) {K:Act→World→Prop} {a:Act} {w:World}
  (hy:YieldsIf P ops T oi v a) (h:wpOpIn (FR rd) n P ops Q j K (a.put oi.dst v) w) :
  wpOpIn (FR rd) n P ops Q j (fun a' w'=>YieldsIf P ops T oi v a'∧K (a'.put oi.dst v) w') a w:=by
 obtain ⟨h1,h2,h3⟩:=Oper.apart_spec hap
 have keep:∀ (a:Act),YieldsIf P ops T oi v a→∀ u,YieldsIf P ops T oi v (a.put oj.dst u):=fun a hy u =>
  hy.of_same (execOp_put oi hsi a oj.dst u h3) (wanted_put oi a oj.dst u h3)
 have keepD:∀ d,YieldsIf P ops T oi v { a with defers:=d::a.defers }:=fun d=>hy.of_same rfl rfl
 unfold wpOpIn at *
 simp only [hj] at *
 rw [wanted_put oj a oi.dst v h1] at h
 split
 ·rename_i hw
  simp only [hw,if_true] at h
  unfold Oper.wpIn at *
  refine ⟨fun _ _=>trivial,?_⟩
  have h:=h.2
  rw [semAt_nd hnd,execOp_put oj hsj a oi.dst v h1] at h
  rw [semAt_nd hnd]
  generalize (execOp a.eval oj).run P w=x at *
  cases x with
  | ok x w' =>
   cases x <;> simp only [Oper.uponIn] at h ⊢
   case value u=>exact ⟨keep a hy u,by rw [← Act.put_comm a v u h2]; exact h⟩
   case skip=>exact ⟨keep a hy _,by rw [← Act.put_comm a v undef h2]; exact h⟩
   case defer d =>
    refine ⟨keep _ (keepD d) _,?_⟩
    rw [← Act.put_comm _ v undef h2,← Act.put_defers]
    exact h
   case enter f args =>
    refine ⟨h.1,CallsIn.mono h.2 fun e w'' he=>?_⟩
    cases e with
    | returned u=>exact ⟨keep a hy u,by rw [← Act.put_comm a v u h2]; exact he⟩
    | panicked c=>exact hQ _ _ _ he
    | outgrown=>exact he
   case row row args=>exact ⟨h.1,RowsIn.mono h.2 fun u w'' he=>⟨keep a hy u,by rw [← Act.put_comm a v u h2]; exact he⟩⟩
   case round l f tmps assign body =>
    refine ⟨h.1,RoundIn.mono h.2 fun e w'' he=>?_⟩
    cases e with
    | returned u=>exact ⟨keep a hy u,by rw [← Act.put_comm a v u h2]; exact he⟩
    | panicked c=>exact hQ _ _ _ he
    | outgrown=>exact he
  | halt x w' =>
   cases x <;> simp only [Oper.uponIn] at h ⊢
   case panic u=>exact hQ _ _ _ h
 ·rename_i hw
  simp only [hw] at h
  exact ⟨fun _ _=>trivial,keep a hy _,by rw [← Act.put_comm a v undef h2]; exact h.2⟩
def wpAnyY(rd:Option Nat)(n:Nat)(P:Program)(md:Region.Mode)(ops:Array Oper)(Q:Exit→Act→World→Prop)(S:World→Prop)(hb:List Nat):Nat→Array Bool→Act→World→Prop
 | 0,listed,a,w=>Region.ready md ops listed=[]∧Q .normal a w
 | fuel+1,listed,a,w =>
  (Region.ready md ops listed=[]→Q .normal a w) ∧
  ∀ i∈Region.ready md ops listed,wpOpIn (FR rd) n P ops Q i (fun a' w'=>(needB md ops hb i=true→S w→S w')∧wpAnyY rd n P md ops Q S hb fuel (listed.setIfInBounds i true) a' w') a w
theorem wpAny_of_Y:∀ (fuel:Nat) (listed:Array Bool) (a:Act) (w:World),wpAnyY rd n P md ops Q S hb fuel listed a w→wpAnyIn (FR rd) n P md ops Q fuel listed a w
 | 0,_,_,_,h=>h
 | fuel+1,_,_,_,h=>⟨h.1,fun i hi=>wpOpIn_mono (fun a' w' h'=>wpAny_of_Y fuel _ a' w' h'.2) (h.2 i hi)⟩
theorem wpAnyY_first{i:Nat}{oi:Oper}{v:Value}(hi:ops[i]?=some oi)(hnd:∀ (j:Nat) (o:Oper),ops[j]?=some o→∀ c,o.op≠.defer c)(hsel:∀ (j:Nat) (o:Oper) cs b,ops[j]?=some o→o.op≠.select cs b)
  (hT:(∀ w,T w)∨(i∈hb∧T=S)) (hQ:∀ c a w,Q (.panic c) (a.put oi.dst v) w→Q (.panic c) a w) :
  ∀ (fuel:Nat) (listed:Array Bool) (a:Act) (w:World),
   (∀ j oj,ops[j]?=some oj→j≠i→listed.getD j true=false→(∀ e∈oj.after,Region.binds md e=true→e.on≠i)→oi.apart ops oj=true) →
   i∈Region.ready md ops listed→YieldsIf P ops T oi v a→T w →
   wpAnyY rd n P md ops Q S hb fuel (listed.setIfInBounds i true) (a.put oi.dst v) w→wpAnyY rd n P md ops Q S hb (fuel+1) listed a w:=by
 intro fuel
 induction fuel with
 | zero =>
  intro listed a w _ hr hy hS H
  refine ⟨fun h=>(by rw [h] at hr; cases hr),fun j hj=>?_⟩
  by_cases hji:j=i
  ·subst hji; exact yieldsIf_in (hnd _ oi hi) hi hy hS ⟨fun _ h=>h,H⟩
  ·have:=ready_mono hj hji
   rw [H.1] at this
   cases this
 | succ fuel ih =>
  intro listed a w hfree hr hy hS H
  refine ⟨fun h=>(by rw [h] at hr; cases hr),fun j hj=>?_⟩
  by_cases hji:j=i
  ·subst hji; exact yieldsIf_in (hnd _ oi hi) hi hy hS ⟨fun _ h=>h,H⟩
  ·have h1:=H.2 j (ready_mono hj hji)
   obtain ⟨hjun,oj,hoj,hall⟩:=mem_ready.1 hj
   have hnot:=unlisted_after (j:=j) hr hall
   have h2:=wpOpIn_putIf (hnd j oj hoj) hoj (hfree j oj hoj hji hjun hnot) (fun cs b=>hsel i oi cs b hi) (fun cs b=>hsel j oj cs b hoj) hQ hy h1
   have hfree':∀ k ok,ops[k]?=some ok→k≠i→(listed.setIfInBounds j true).getD k true=false →
     (∀ e∈ok.after,Region.binds md e=true→e.on≠i)→oi.apart ops ok=true:=fun k ok hk hki hun hno=>by
    refine hfree k ok hk hki ?_ hno
    by_cases hjk:j=k
    ·subst hjk; exact hjun
    ·rw [getD_set_ne true hjk] at hun; exact hun
   refine wpOpIn_mono (fun a' w' h3=>⟨h3.2.1,ih (listed.setIfInBounds j true) a' w' hfree' (ready_mono hr (Ne.symm hji)) h3.1 ?_ ?_⟩) h2
   ·rcases hT with hT | ⟨hib,rfl⟩
    ·exact hT w'
    ·refine h3.2.1 ?_ hS
     unfold needB
     rw [hoj]
     simp only [Bool.not_eq_true']
     rw [Bool.eq_false_iff]
     intro hc
     have:=List.all_eq_true.1 hc i hib
     obtain ⟨e,he,hb'⟩:=Array.any_eq_true'.1 this
     simp only [Bool.and_eq_true,beq_iff_eq] at hb'
     exact hnot e he hb'.1 hb'.2
   ·rw [Array.setIfInBounds_comm _ _ hji]
    exact h3.2.2
theorem wpAnyY_take(hnd:∀ (j:Nat) (o:Oper),ops[j]?=some o→∀ c,o.op≠.defer c){i:Nat}{oi:Oper}{v:Value}{fuel:Nat}{listed:Array Bool}{a:Act}{w:World}(hi:ops[i]?=some oi)
  (hs:Region.noSelect ops=true) (hf:Region.free md ops listed i=true) (hr:(Region.ready md ops listed).contains i=true)
  (hT:(∀ w,T w)∨(i∈hb∧T=S)) (hQ:∀ c a w,Q (.panic c) (a.put oi.dst v) w→Q (.panic c) a w) (hy:YieldsIf P ops T oi v a) (hTw:T w)
  (h:wpAnyY rd n P md ops Q S hb fuel (listed.setIfInBounds i true) (a.put oi.dst v) w):wpAnyY rd n P md ops Q S hb (fuel+1) listed a w :=
 wpAnyY_first hi hnd (Region.noSelect_spec hs) hT hQ fuel listed a w (Region.free_spec hi hf) (by simpa using hr) hy hTw h
theorem wpAnyY_all{rs:List Nat}{fuel:Nat}{listed:Array Bool}{a:Act}{w:World}(hr:Region.ready md ops listed=rs)(hne:rs≠[])
  (h:∀ i∈rs,wpOpIn (FR rd) n P ops Q i (fun a' w'=>(needB md ops hb i=true→S w→S w')∧wpAnyY rd n P md ops Q S hb fuel (listed.setIfInBounds i true) a' w') a w):wpAnyY rd n P md ops Q S hb (fuel+1) listed a w :=
 ⟨fun h0=>absurd (hr ▸ h0) hne,hr ▸ h⟩
end
section
variable {P:Program} {N:Nat} {S:World→Prop} {rd:Option Nat} {n:Nat}
def opY(P:Program)(S:World→Prop)(k:Nat)(op:Op)(ty:TypeId)(ρ:Env)(w:World)(K:Value→World→Prop):Prop :=
 match k with
 | 0=>pureW P op ty ρ w K
 | 1=>opH P S op ty ρ w K
 | 2=>opW P op ty ρ w fun v w'=>S w'∧K v w'
 | _=>opW P op ty ρ w K
def DY(P:Program)(S:World→Prop):List (Nat × Ins)→List Nat→Env→World→Post→Prop
 | [],L,ρ,w,Q=>Q .normal (restr L ρ) w
 | (k,⟨d,op,ty,none⟩)::r,L,ρ,w,Q=>opY P S k op ty ρ w fun v w'=>DY P S r L (put ρ d v) w' Q
 | (k,⟨d,op,ty,some (s,b)⟩)::r,L,ρ,w,Q=>match lk ρ s with
  | some (.bool c)=>(c=b→opY P S k op ty ((s,.bool b)::ρ) w fun v w'=>DY P S r L (put ((s,.bool b)::ρ) d v) w' Q) ∧
    (c=!b→DY P S r L (put ((s,.bool !b)::ρ) d undef) w Q)
  | some (.tuple _)=>DY P S r L (put ρ d undef) w Q
  | _=>False
theorem wpOpIn_done{ops:Array Oper}{i:Nat}{o:Oper}{a:Act}{w:World}{K:Value→World→Prop}{next:Act→World→Prop}{Q:Exit→Act→World→Prop}(hi:ops[i]?=some o)(hd:∀ c,o.op≠.defer c)
  (hw:Region.wanted o (yielded ops a.tmps)=true) (h:DoneY P (execOp a.eval (rawOp o.op o.type)) w K) (hk:∀ v w',K v w'→next (a.put o.dst v) w'):wpOpIn (FR rd) n P ops Q i next a w:=by
 unfold wpOpIn
 simp only [hi,hw,if_true]
 exact done_wpIn hd (execOp_raw _ _) h hk
theorem wpOpIn_skip{ops:Array Oper}{i:Nat}{o:Oper}{a:Act}{w:World}{next:Act→World→Prop}{Q:Exit→Act→World→Prop}(hi:ops[i]?=some o)
  (hw:Region.wanted o (yielded ops a.tmps)=false) (h:next (a.put o.dst undef) w):wpOpIn (FR rd) n P ops Q i next a w:=by
 unfold wpOpIn
 simp only [hi,hw,Bool.false_eq_true,if_false]
 exact ⟨fun _ _=>trivial,h⟩
theorem noDefer_ne{o:Op}(h:noDefer o=true):∀ c,o≠.defer c:=by
 rintro c rfl
 cases h
theorem DY_sound{l:List Oper}(hall:l.all (fun o=>okDst N o.dst)=true)(hns:Region.noSelect l.toArray=true)(hnd:∀ (j:Nat) (o:Oper),l.toArray[j]?=some o→∀ c,o.op≠.defer c)(hb:List Nat):∀ (sched:List (Nat × Nat)) (ins:List (Nat × Ins)) (L:List Nat) (ρ:Env) (w:World) (Q:Post) (a:Act) (listed:Array Bool),
  insG l sched=some ins→schedG l.toArray hb sched listed=true→Sim N a ρ→((sched.any fun x=>x.1 == 1)=true→S w)→DY P S ins L ρ w Q→wpAnyY rd n P .any l.toArray (drawQ N L Q) S hb sched.length listed a w
 | [],ins,L,ρ,w,Q,a,listed,hi,hok,hs,hSw,h=>by
  simp only [insG,Option.some.injEq] at hi; subst hi
  simp only [schedG,List.isEmpty_iff] at hok
  exact ⟨hok,ρ,hs,rfl,h⟩
 | (k,i)::r,ins,L,ρ,w,Q,a,listed,hi,hok,hs,hSw,h=>by
  simp only [insG] at hi
  split at hi
  ·cases hi
  rename_i o ho
  split at hi
  case h_2=>cases hi
  rename_i g q hg hq
  simp only [Option.some.injEq] at hi; subst hi
  have ho':l.toArray[i]?=some o:=by simpa using ho
  have hd:okDst N o.dst=true:=List.all_eq_true.1 hall o (List.mem_of_getElem? ho)
  have hSr:(r.any fun x=>x.1 == 1)=true→S w:=fun h=>hSw (by simp only [List.any_cons,h,Bool.or_true])
  have hnd':=hnd i o ho'
  have hpan:∀ (d:Option Nat) (v:Value) c (a:Act) (w:World),drawQ N L Q (.panic c) (a.put d v) w→drawQ N L Q (.panic c) a w:=by
   rintro d v c a w ⟨_,_,hn,_⟩; cases hn
  have take:∀ (ρ':Env),Sim N a ρ'→(Region.wanted o (yielded l.toArray a.tmps)=true) →
    opY P S k o.op o.type ρ' w (fun v w'=>DY P S q L (put ρ' o.dst v) w' Q) →
    wpAnyY rd n P .any l.toArray (drawQ N L Q) S hb (r.length+1) listed a w:=by
   intro ρ' hs' hw h
   match k,hok,hSw,h with
   | 0,hok,hSw,h =>
    simp only [schedG,Bool.and_eq_true] at hok
    obtain ⟨v,hv,hk⟩:=pureW_runs (show pureW P o.op o.type ρ' w _ from h)
    refine wpAnyY_take hnd (T:=fun _=>True) ho' hns hok.1.2 hok.1.1 (.inl fun _=>trivial) (hpan _ _) (.inl ⟨hw,fun w' _=>?_⟩) trivial (DY_sound hall hns hnd hb r q L _ w Q _ _ hq hok.2 (hs'.put hd v) hSr hk)
    rw [execOp_raw]; exact hv a.eval hs'.eval w'
   | 1,hok,hSw,h =>
    simp only [schedG,Bool.and_eq_true,List.contains_iff_mem] at hok
    obtain ⟨v,hv,hk⟩:=opH_runs (show opH P S o.op o.type ρ' w _ from h)
    refine wpAnyY_take hnd (T:=S) ho' hns hok.1.2 (by simpa using hok.1.1.2) (.inr ⟨hok.1.1.1,rfl⟩) (hpan _ _) (.inl ⟨hw,fun w' hw'=>?_⟩) (hSw (by simp)) (DY_sound hall hns hnd hb r q L _ w Q _ _ hq hok.2 (hs'.put hd v) hSr hk)
    rw [execOp_raw]; exact hv a.eval hs'.eval w' hw'
   | 2,hok,hSw,h =>
    simp only [schedG,Bool.and_eq_true,beq_iff_eq] at hok
    refine wpAnyY_all hok.1 (by simp) fun j hj=>?_
    simp only [List.mem_singleton] at hj; subst hj
    refine wpOpIn_done ho' hnd' hw (opW_doneY (show opW P o.op o.type ρ' w _ from h) a.eval hs'.eval) fun v w' hk=>⟨fun _ _=>hk.1,DY_sound hall hns hnd hb r q L _ w' Q _ _ hq hok.2 (hs'.put hd v) (fun _=>hk.1) hk.2⟩
   | k+3,hok,hSw,h =>
    simp only [schedG,Bool.and_eq_true,beq_iff_eq,Bool.not_eq_true'] at hok
    refine wpAnyY_all hok.1.1.1 (by simp) fun j hj=>?_
    simp only [List.mem_singleton] at hj; subst hj
    refine wpOpIn_done ho' hnd' hw (opW_doneY (show opW P o.op o.type ρ' w _ from h) a.eval hs'.eval) fun v w' hk=>⟨fun hn=>?_,DY_sound hall hns hnd hb r q L _ w' Q _ _ hq hok.2 (hs'.put hd v) (fun hn=>?_) hk⟩
    ·rw [hok.1.1.2] at hn; cases hn
    ·rw [hok.1.2] at hn; cases hn
  have skip:∀ (ρ':Env),Sim N a ρ'→(Region.wanted o (yielded l.toArray a.tmps)=false)→DY P S q L (put ρ' o.dst undef) w Q→wpAnyY rd n P .any l.toArray (drawQ N L Q) S hb (r.length+1) listed a w:=by
   intro ρ' hs' hw h2
   match k,hok with
   | 0,hok =>
    simp only [schedG,Bool.and_eq_true] at hok
    exact wpAnyY_take hnd (T:=fun _=>True) ho' hns hok.1.2 hok.1.1 (.inl fun _=>trivial) (hpan _ _) (.inr ⟨hw,rfl⟩) trivial (DY_sound hall hns hnd hb r q L _ w Q _ _ hq hok.2 (hs'.put hd undef) hSr h2)
   | 1,hok =>
    simp only [schedG,Bool.and_eq_true,List.contains_iff_mem] at hok
    exact wpAnyY_take hnd (T:=fun _=>True) ho' hns hok.1.2 (by simpa using hok.1.1.2) (.inl fun _=>trivial) (hpan _ _) (.inr ⟨hw,rfl⟩) trivial (DY_sound hall hns hnd hb r q L _ w Q _ _ hq hok.2 (hs'.put hd undef) hSr h2)
   | 2,hok =>
    simp only [schedG,Bool.and_eq_true,beq_iff_eq] at hok
    refine wpAnyY_all hok.1 (by simp) fun j hj=>?_
    simp only [List.mem_singleton] at hj; subst hj
    exact wpOpIn_skip ho' hw ⟨fun _ h=>h,DY_sound hall hns hnd hb r q L _ w Q _ _ hq hok.2 (hs'.put hd undef) hSr h2⟩
   | k+3,hok =>
    simp only [schedG,Bool.and_eq_true,beq_iff_eq,Bool.not_eq_true'] at hok
    refine wpAnyY_all hok.1.1.1 (by simp) fun j hj=>?_
    simp only [List.mem_singleton] at hj; subst hj
    exact wpOpIn_skip ho' hw ⟨fun _ h=>h,DY_sound hall hns hnd hb r q L _ w Q _ _ hq hok.2 (hs'.put hd undef) hSr h2⟩
  cases hgo:o.guard with
  | none =>
   rw [hgo] at hg
   simp only [stripG,Option.some.injEq] at hg; subst hg
   simp only [DY] at h
   exact take ρ hs (by simp only [Region.wanted,hgo]) h
  | some jb =>
   obtain ⟨j,b⟩:=jb
   rw [hgo] at hg
   simp only [stripG] at hg
   split at hg
   case h_2=>cases hg
   rename_i s hs0
   simp only [Option.some.injEq] at hg; subst hg
   simp only [DY] at h
   split at h
   ·rename_i c hc
    have hy:=yielded_of hs hs0 hc
    by_cases hcb:c=b
    ·subst hcb
     exact take _ (hs.know hc) (by simp only [Region.wanted,hgo,hy,beq_self_eq_true]) (h.1 rfl)
    ·have hcb':c=!b:=bool_ne hcb
     have hc':lk ρ s=some (.bool !b):=by rw [← hcb']; exact hc
     exact skip _ (hs.know hc') (by simp only [Region.wanted,hgo,hy]; simpa using hcb) (h.2 hcb')
   ·rename_i u hc
    exact skip ρ hs (by simp only [Region.wanted,hgo,yielded_undef hs hs0 hc]; rfl) h
   ·exact h.elim
theorem drawW_heldY{l:List Oper}{L:List Nat}{ρ:Env}{w:World}{Q:Post}(hb:List Nat)(sched:List (Nat × Nat))(ins:List (Nat × Ins))(hm:P.follows .mixedOrders=true)
  (hi:insG l sched=some ins) (hok:(Region.noSelect l.toArray && (sched.length == l.length) && schedG l.toArray hb sched (Array.replicate l.length false))=true) (hd:l.all (fun o=>noDefer o.op)=true)
  (S:World→Prop) (hS:S w.drew) (h:DY P S ins L ρ w.drew Q):drawW P l L ρ w Q:=by
 intro N a hall hs
 refine .inr fun rd n t=>?_
 simp only [Bool.and_eq_true,beq_iff_eq] at hok
 simp only [Region.schedule,hm,Bool.true_or,if_true]
 have hnd:∀ (j:Nat) (o:Oper),l.toArray[j]?=some o→∀ c,o.op≠.defer c:=fun j o ho=>noDefer_ne (List.all_eq_true.1 hd o (List.mem_of_getElem? (by simpa using ho)))
 refine wpAnyIn_sound _ t _ a _ (wpAny_of_Y (rd:=rd) (n:=n) (S:=S) (hb:=hb) _ _ _ _ ?_)
 have:=DY_sound (S:=S) (rd:=rd) (n:=n) hall hok.1.1 hnd hb sched ins L ρ w.drew Q a (Array.replicate l.length false) hi hok.2 hs (fun _=>hS) h
 rw [hok.1.2] at this
 have e:l.toArray.size=l.length:=by simp
 rw [e]
 exact this
end
section
variable {P:Program} {S:World→Prop} {w:World} {K:Value→World→Prop} {ρ:Env} {Q:Post} {r:List (Nat × Ins)} {L:List Nat} {d:Option Nat} {ty:TypeId} {k:Nat} {op:Op} {s:Nat} {b c:Bool}
def DYn(P:Program)(S:World→Prop)(r:List (Nat × Ins))(L:List Nat)(ρ:Env)(d:Option Nat)(Q:Post):Value→World→Prop:=fun v w=>DY P S r L (put ρ d v) w Q
def DYs(P:Program)(S:World→Prop)(r:List (Nat × Ins))(L:List Nat)(ρ:Env)(d:Option Nat)(Q:Post):Value→World→Prop:=fun v w=>S w∧DY P S r L (put ρ d v) w Q
def opY'(P:Program)(S:World→Prop)(k:Nat)(op:Op)(ty:TypeId)(r:List (Nat × Ins))(L:List Nat)(ρ:Env)(d:Option Nat)(w:World)(Q:Post):Prop:=opY P S k op ty ρ w (DYn P S r L ρ d Q)
def dY(P:Program)(S:World→Prop)(o:Option Value)(s:Nat)(b:Bool)(k:Nat)(d:Option Nat)(op:Op)(ty:TypeId)(r:List (Nat × Ins))(L:List Nat)(ρ:Env)(w:World)(Q:Post):Prop :=
 match o with
 | some (.bool c)=>(c=b→opY' P S k op ty r L ((s,.bool b)::ρ) d w Q)∧(c=!b→DY P S r L (put ((s,.bool !b)::ρ) d undef) w Q)
 | some (.tuple _)=>DY P S r L (put ρ d undef) w Q
 | _=>False
theorem DY_nil:DY P S [] L ρ w Q=Q .normal (restr L ρ) w:=(rfl)
theorem DY_cons:DY P S ((k,⟨d,op,ty,none⟩)::r) L ρ w Q=opY' P S k op ty r L ρ d w Q:=(rfl)
theorem DY_guard:DY P S ((k,⟨d,op,ty,some (s,b)⟩)::r) L ρ w Q=dY P S (lk ρ s) s b k d op ty r L ρ w Q:=by
 simp only [DY,dY]; rfl
theorem DYn_app{v:Value}:DYn P S r L ρ d Q v w=DY P S r L (put ρ d v) w Q:=(rfl)
theorem DYs_app{v:Value}:DYs P S r L ρ d Q v w=(S w∧DY P S r L (put ρ d v) w Q):=(rfl)
theorem opY_0:opY' P S 0 op ty r L ρ d w Q=pureW P op ty ρ w (DYn P S r L ρ d Q):=(rfl)
theorem opY_1{t:TypeId}{x:Operand}:opY' P S 1 (.load t x) ty r L ρ d w Q=ptrW (fun p=>heldW P S t p w (DYn P S r L ρ d Q)) (ev ρ x):=(rfl)
theorem opY_2:opY' P S 2 op ty r L ρ d w Q=opW P op ty ρ w (DYs P S r L ρ d Q):=(rfl)
theorem opY_3:opY' P S 3 op ty r L ρ d w Q=opW P op ty ρ w (DYn P S r L ρ d Q):=(rfl)
theorem dY_t:dY P S (some (.bool true)) s true k d op ty r L ρ w Q=opY' P S k op ty r L ((s,.bool true)::ρ) d w Q:=by simp [dY]
theorem dY_f:dY P S (some (.bool false)) s false k d op ty r L ρ w Q=opY' P S k op ty r L ((s,.bool false)::ρ) d w Q:=by simp [dY]
theorem dY_tf:dY P S (some (.bool true)) s false k d op ty r L ρ w Q=DY P S r L (put ((s,.bool true)::ρ) d undef) w Q:=by simp [dY]
theorem dY_ft:dY P S (some (.bool false)) s true k d op ty r L ρ w Q=DY P S r L (put ((s,.bool false)::ρ) d undef) w Q:=by simp [dY]
theorem dY_gen:dY P S (some (.bool c)) s b k d op ty r L ρ w Q=((c=b→opY' P S k op ty r L ((s,.bool b)::ρ) d w Q)∧(c=!b→DY P S r L (put ((s,.bool !b)::ρ) d undef) w Q)):=(rfl)
theorem dY_undef:dY P S (some undef) s b k d op ty r L ρ w Q=DY P S r L (put ρ d undef) w Q:=(rfl)
end
attribute [go_sem low] dY_gen
attribute [go_sem] DY_nil DY_cons DY_guard DYn_app DYs_app opY_0 opY_1 opY_2 opY_3 dY_t dY_f dY_tf dY_ft dY_undef
end Go.Ann

end
