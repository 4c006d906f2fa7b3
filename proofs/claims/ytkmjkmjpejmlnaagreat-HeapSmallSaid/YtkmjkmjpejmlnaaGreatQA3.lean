/- Texts put together by program. -/
import Derived.Test.YtkmjkmjpejmlnaaGreatQA2
set_option linter.unusedSimpArgs false
set_option linter.unusedVariables false
set_option maxRecDepth 100000
noncomputable section

namespace Go.Proofs.YtkmjkmjpejmlnaaGreat
open Go Go.Ann Go.RowKit Go.WideShapes
def zeroB:List UInt8:=List.replicate 256 0
def filledL(l:List UInt8):List UInt8:=l++List.replicate (256 - l.length) 0
theorem filledL_length{l:List UInt8}(h:l.length≤256):(filledL l).length=256:=by
 unfold filledL; rw [List.length_append,List.length_replicate]; omega
structure Dk where
 safe:List (List UInt8)
 late:List (Int × List UInt8)
 left:Int
 gone:Bool
structure Dk.ok(m:Dk):Prop where
 safe:∀ s∈m.safe,s.length=256
 late:∀ x∈m.late,0≤x.1∧x.1<m.safe.length∧x.2.length=256
 left:I64 m.left
 some:0<m.safe.length
 few:m.safe.length≤2048
 less:m.late.length≤1048576
def strE(s:List UInt8):List Value:=[.string (ofL s)]
theorem strE_ones(l:List (List UInt8)):∀ u∈l.flatMap strE,u.oneCell'=true:=by
 intro u hu
 obtain ⟨s,_,h⟩:=List.mem_flatMap.1 hu
 rw [strE,List.mem_singleton] at h
 subst h; rfl
def pendV(x:Int × List UInt8):List Value:=[.int .i64 x.1,.string (ofL x.2)]
theorem pendV_len(x:Int × List UInt8):(pendV x).length=2:=rfl
theorem pendV_ones(l:List (Int × List UInt8)):∀ u∈l.flatMap pendV,u.oneCell'=true:=by
 intro u hu
 obtain ⟨s,_,h⟩:=List.mem_flatMap.1 hu
 simp only [pendV,List.mem_cons,List.not_mem_nil,or_false] at h
 rcases h with rfl | rfl <;> rfl
theorem strE_map(l:List (List UInt8)):l.flatMap strE=l.map fun s=>Value.string (ofL s):=by
 induction l with
 | nil=>rfl
 | cons a l ih=>rw [List.flatMap_cons,ih]; rfl
theorem strE_set(l:List (List UInt8))(j:Nat)(s:List UInt8):(l.flatMap strE).set j (.string (ofL s))=(l.set j s).flatMap strE:=by
 rw [strE_map,strE_map,List.map_set]
def DkL(g:Nat)(vb vl:Value)(m:Dk):List Res :=
 [.blk g #[vb,vl,.int .i64 m.left,.bool m.gone,.string (ofL zeroB)] 157,.row vb 9 1 m.safe.length (m.safe.flatMap strE),.row vl 199 2 m.late.length (m.late.flatMap pendV)]
theorem st_recast{W0 w:World}{F:Nat→Prop}{L L':List Res}{I:List Inv}(h:St W0 w F L I)(e:L=L'):St W0 w F L' I:=e ▸ h
theorem St.front{W0 w:World}{F:Nat→Prop}{A D L:List Res}{I:List Inv}(h:St W0 w F (A++(D++L)) I):St W0 w F (D++(A++L)) I :=
 h.perm (by rw [← List.append_assoc,← List.append_assoc]; exact List.perm_append_comm.append_right L)
section
variable {W0 w:World} {F:Nat→Prop} {L:List Res} {I:List Inv} {g:Nat} {vb vl:Value} {m:Dk}
def readyN(m:Dk)(i:Int):Int:=if m.gone=true then 11 else if 0≤i∧i<m.safe.length then 0 else 10
theorem dk_form(h:St W0 w F (DkL g vb vl m++L) I)(ok:m.ok):∃ gb cb al cl,vb=.slice (some ⟨gb,0,none⟩) m.safe.length cb∧vl=.slice al m.late.length cl∧m.late.length≤cl:=by
 obtain ⟨gb,cb,h1,_⟩:=(h.row 1 rfl).form ok.some
 obtain ⟨al,cl,h2,h3⟩:=own_slice (h.row 2 rfl)
 exact ⟨gb,cb,al,cl,h1,h2,h3⟩
theorem ready_ok(i:Int)(h:St W0 w F (DkL g vb vl m++L) I)(ok:m.ok) :
  Ret Tryz.prog 150 [.pointer (some ⟨g,0,none⟩),.int .i64 i] w fun u w'=>u=.int .i64 (readyN m i)∧w'=w:=by
 obtain ⟨gb,cb,al,cl,rfl,rfl,_⟩:=dk_form h ok
 refine ent150 _ _ _ _ ?_
 have r1:=h.rules 0 rfl
 simp (disch:=first|omega|exact zF rfl|exact zG rfl|exact fun h=>h|(simp only[zA,zB,zC,zD,bytesW];omega)) only[go_sem,r1]
 unfold readyN
 refine ⟨fun hg=>?_,fun hg=>?_⟩
 ·rw [if_pos hg]
 ·rw [if_neg (by rw [hg]; decide)]
  by_cases h0:0≤i
  ·by_cases h1:i<m.safe.length
   ·rw [if_pos ⟨h0,h1⟩]
    exact ⟨fun _=>⟨fun h=>by omega,fun _=>rfl⟩,fun h=>by omega⟩
   ·rw [if_neg (by omega)]
    exact ⟨fun _=>⟨fun _=>rfl,fun h=>by omega⟩,fun h=>by omega⟩
  ·rw [if_neg (by omega)]
   exact ⟨fun h=>by omega,fun _=>rfl⟩
def useN(m:Dk):Dk × Int:=if m.left=0 then ({ m with gone:=true },11) else if 0<m.left then ({ m with left:=m.left - 1 },0) else (m,0)
theorem useN_ok(ok:m.ok):(useN m).1.ok:=by
 unfold useN
 have hl:=ok.left
 split
 ·exact ⟨ok.safe,ok.late,ok.left,ok.some,ok.few,ok.less⟩
 ·split
  ·exact ⟨ok.safe,ok.late,⟨by have:=hl.1; simp only; omega,by have:=hl.2; simp only; omega⟩,ok.some,ok.few,ok.less⟩
  ·exact ok
theorem useN_late(m:Dk):(useN m).1.late=m.late∧(useN m).1.safe=m.safe:=by
 unfold useN; split
 ·exact ⟨rfl,rfl⟩
 ·split <;> exact ⟨rfl,rfl⟩
theorem use_ok(h:St W0 w F (DkL g vb vl m++L) I)(ok:m.ok) :
  Ret Tryz.prog 151 [.pointer (some ⟨g,0,none⟩)] w fun u w'=>u=.int .i64 (useN m).2∧St W0 w' F (DkL g vb vl (useN m).1++L) I:=by
 refine ent151 _ _ _ ?_
 have r1:=h.rules 0 rfl
 simp (disch:=first|omega|exact zF rfl|exact zG rfl|exact fun h=>h|(simp only[zA,zB,zC,zD,bytesW];omega)) only[go_sem,r1]
 unfold useN
 have hl:=ok.left
 refine ⟨fun h0=>?_,fun h0=>⟨fun h1=>?_,fun h1=>?_⟩⟩
 ·rw [if_pos h0]
  exact ⟨rfl,h.set 0 rfl 3 (.bool true)⟩
 ·rw [if_neg h0,if_pos h1]
  exact ⟨⟨by have:=hl.1; omega,by have:=hl.2; omega⟩,rfl,h.set 0 rfl 2 (.int .i64 (m.left - 1))⟩
 ·rw [if_neg h0,if_neg (by omega)]
  exact ⟨rfl,h⟩
def lastL(l:List (Int × List UInt8))(i:Int)(s:List UInt8):List UInt8:=l.foldl (fun s x=>if x.1=i then x.2 else s) s
def readN(m:Dk)(i:Int):List UInt8 × Int:=if readyN m i=0 then (lastL m.late i (m.safe.getD i.toNat []),0) else ([],readyN m i)
theorem lastL_snoc(l:List (Int × List UInt8))(x:Int × List UInt8)(i:Int)(s:List UInt8):lastL (l++[x]) i s=if x.1=i then x.2 else lastL l i s:=by
 unfold lastL; rw [List.foldl_append]; rfl
theorem readyN_in{i:Int}(hr:readyN m i=0):0≤i∧i<m.safe.length:=by
 unfold readyN at hr
 split at hr
 ·cases hr
 ·split at hr
  ·assumption
  ·cases hr
theorem read_ok(i:Int)(h:St W0 w F (DkL g vb vl m++L) I)(ok:m.ok) :
  Ret Tryz.prog 106 [.pointer (some ⟨g,0,none⟩),.int .i64 i] w fun u w'=>u=.tuple #[.string (ofL (readN m i).1),.int .i64 (readN m i).2]∧Below w.heap.size w w':=by
 refine ent106 _ _ _ _ ?_
 simp (disch:=first|omega|exact zF rfl|exact zG rfl|exact fun h=>h|(simp only[zA,zB,zC,zD,bytesW];omega)) only[go_sem,c106L0]
 refine Ret.mono (ready_ok i h ok) ?_
 rintro _ w2 ⟨rfl,e2⟩
 subst w2
 obtain ⟨gb,cb,al,cl,rfl,rfl,hcl⟩:=dk_form h ok
 have r1:=h.rules 0 rfl
 unfold readN
 by_cases hr:readyN m i=0
 case neg =>
  rw [if_neg hr]
  simp (disch:=first|omega|exact zF rfl|exact zG rfl|exact fun h=>h|(simp only[zA,zB,zC,zD,bytesW];omega)) only[go_sem,c106L0,hr]
  exact Below.refl _ _
 rw [if_pos hr]
 obtain ⟨h0,hlt⟩:=readyN_in hr
 have hS:RdS w 1 strE (.slice (some ⟨gb,0,none⟩) m.safe.length cb) m.safe:=RdS.of_own' (h.row 1 rfl) m.safe rfl rfl
 have hL:RdS w 2 pendV (.slice al m.late.length cl) m.late:=RdS.of_own' (h.row 2 rfl) m.late rfl rfl
 obtain ⟨k0,rfl⟩:=Int.eq_ofNat_of_zero_le h0
 have hk0:k0<m.safe.length:=by omega
 have eS:=RdS.at1 (e1:=fun s=>.string (ofL s)) hS hk0
 rw [Addr.add_lit,Nat.zero_add] at eS
 have e0:m.safe.getD ((k0:Int).toNat) []=m.safe[k0]:=by simp [List.getD_eq_getElem?_getD,List.getElem?_eq_getElem hk0]
 rw [e0]
 simp (disch:=first|omega|exact zF rfl|exact zG rfl|exact fun h=>h|(simp only[zA,zB,zC,zD,bytesW];omega)) only[go_sem,hr,r1,eS,hlt]
 refine ⟨by omega,?_⟩
 refine W_loopU (fun k:Nat=>[(7,.string (ofL (lastL (m.late.take k) k0 m.safe[k0]))),(28,.int .i64 k)]) (fun k w'=>k≤m.late.length∧Below w.heap.size w w') (fun k=>m.late.length - k) 0 rfl ⟨Nat.zero_le _,Below.refl _ _⟩ ?_
 rintro k w3 ⟨hk,hb⟩
 by_cases hlt2:k<m.late.length
 ·have hlt':(k:Int)<m.late.length:=by omega
  obtain ⟨p,rfl⟩:=hL.ptr (by omega)
  have eL:=(hL.below hb (by decide)).at pendV_len hlt2
  simp (disch:=first|omega|exact zF rfl|exact zG rfl|exact fun h=>h|(simp only[zA,zB,zC,zD,bytesW];omega)) only[go_sem,c106L0,c106L0,hlt',eL,pendV]
  have es:lastL (m.late.take (k+1)) k0 m.safe[k0]=if m.late[k].1=k0 then m.late[k].2 else lastL (m.late.take k) k0 m.safe[k0]:=by
   rw [List.take_succ_eq_append_getElem hlt2,lastL_snoc]
  have b':Below w.heap.size w (w3.alloc (.cells #[.int .i64 m.late[k].1,.string (ofL m.late[k].2)] 199)):=hb.alloc hb.size _
  have hless:=ok.less
  clear r1
  refine ⟨by omega,fun e=>⟨⟨by omega,by omega⟩,k+1,?_,⟨by omega,b'⟩,by omega⟩,fun e=>⟨⟨by omega,by omega⟩,k+1,?_,⟨by omega,b'⟩,by omega⟩⟩
  ·rw [es,if_pos e]; rfl
  ·rw [es,if_neg e]; rfl
 ·have hlt':¬ (k:Int)<m.late.length:=by omega
  simp (disch:=first|omega|exact zF rfl|exact zG rfl|exact fun h=>h|(simp only[zA,zB,zC,zD,bytesW];omega)) only[go_sem,c106L0,c106L0,hlt']
  rw [List.take_of_length_le (by omega)]
  exact ⟨rfl,hb⟩
def writeN(m:Dk)(i:Int)(data:List UInt8):Dk × Int :=
 if readyN m i≠0 then (m,readyN m i) else if 256<data.length then (m,21) else
 if (useN m).2=0 then ({ (useN m).1 with late:=(useN m).1.late++[(i,filledL data)] },0) else useN m
theorem writeN_ok(ok:m.ok)(hless:m.late.length<1000000)(i:Int)(data:List UInt8):(writeN m i data).1.ok:=by
 unfold writeN
 split
 ·exact ok
 ·rename_i hr
  have hr:readyN m i=0:=Decidable.not_not.1 hr
  split
  ·exact ok
  ·have hu:=useN_ok ok
   have hl:=useN_late m
   have hin:=readyN_in hr
   split
   ·refine ⟨hu.safe,fun x hx=>?_,hu.left,hu.some,hu.few,?_⟩
    ·rcases List.mem_append.1 hx with h | h
     ·exact hu.late x h
     ·rw [List.mem_singleton] at h; subst h
      rw [hl.2]
      exact ⟨hin.1,hin.2,filledL_length (by omega)⟩
    ·simp only [List.length_append,List.length_singleton,hl.1]; omega
   ·exact hu
theorem write_ok(i:Int)(data:List UInt8)(h:St W0 w F (DkL g vb vl m++L) I)(ok:m.ok)(hless:m.late.length<1000000) :
  Ret Tryz.prog 107 [.pointer (some ⟨g,0,none⟩),.int .i64 i,.string (ofL data)] w fun u w'=>u=.int .i64 (writeN m i data).2∧∃ vl',St W0 w' F (DkL g vb vl' (writeN m i data).1++L) I:=by
 refine ent107 _ _ _ _ _ ?_
 simp (disch:=first|omega|exact zF rfl|exact zG rfl|exact fun h=>h|(simp only[zA,zB,zC,zD,bytesW];omega)) only[go_sem]
 refine Ret.mono (ready_ok i h ok) ?_
 rintro _ w2 ⟨rfl,e2⟩
 subst w2
 unfold writeN
 by_cases hr:readyN m i=0
 case neg =>
  rw [if_pos hr]
  simp (disch:=first|omega|exact zF rfl|exact zG rfl|exact fun h=>h|(simp only[zA,zB,zC,zD,bytesW];omega)) only[go_sem,hr]
  exact ⟨vl,h⟩
 rw [if_neg (by omega)]
 by_cases hd:256<data.length
 ·have hd':(256:Int)<data.length:=by omega
  rw [if_pos hd]
  simp (disch:=first|omega|exact zF rfl|exact zG rfl|exact fun h=>h|(simp only[zA,zB,zC,zD,bytesW];omega)) only[go_sem,hr,hd']
  exact ⟨vl,h⟩
 have hd':¬ (256:Int)<data.length:=by omega
 rw [if_neg hd]
 simp (disch:=first|omega|exact zF rfl|exact zG rfl|exact fun h=>h|(simp only[zA,zB,zC,zD,bytesW];omega)) only[go_sem,hr,hd']
 refine Ret.mono (use_ok h ok) ?_
 rintro _ w2 ⟨rfl,h2⟩
 have ok2:=useN_ok ok
 have hl:=useN_late m
 by_cases hu:(useN m).2=0
 case neg =>
  rw [if_neg hu]
  simp (disch:=first|omega|exact zF rfl|exact zG rfl|exact fun h=>h|(simp only[zA,zB,zC,zD,bytesW];omega)) only[go_sem,hu]
  exact ⟨vl,h2⟩
 rw [if_pos hu]
 generalize (useN m).1=m1 at h2 ok2 hl ⊢
 obtain ⟨gb,cb,al,cl,rfl,rfl,hcl⟩:=dk_form h2 ok2
 have r1:=h2.rules 0 rfl
 simp (disch:=first|omega|exact zF rfl|exact zG rfl|exact fun h=>h|(simp only[zA,zB,zC,zD,bytesW];omega)) only[go_sem,hu,r1]
 refine c107draw0 (Chg (fun _=>False) _) (Chg.refl _ _) ?_
 have h3:=h2.drew
 have r3:=h3.rules 0 rfl
 have l3:=h3.low 0 rfl
 generalize w2.drew=w3 at h3 r3 l3 ⊢
 simp (disch:=first|omega|exact zF rfl|exact zG rfl|exact fun h=>h|(simp only[zA,zB,zC,zD,bytesW];omega)) only[go_sem,c107D0,r3]
 have ez:data++zeroB.drop data.length=filledL data:=by unfold zeroB filledL; rw [List.drop_replicate]
 have hz:zeroB.length=256:=List.length_replicate
 rw [ez]
 refine ⟨by rw [hz]; omega,by rw [List.length_drop,hz]; omega,?_⟩
 refine bdW_built (cells:=(pendV (i,filledL data)).toArray) (by kernel_rfl) ?_
 simp (disch:=first|omega|exact zF rfl|exact zG rfl|exact fun h=>h|(simp only[zA,zB,zC,zD,bytesW];omega)) only[go_sem]
 refine bsW_agg ty155mkI rfl (by decide) (by decide) ?_
 have hx:Rd (w3.alloc (.cells (pendV (i,filledL data)).toArray 199)) 2 (.slice (some ⟨w3.heap.size,0,none⟩) 1 1) 1 (pendV (i,filledL data)):=rd_new (n:=1) (cs:=(pendV (i,filledL data)).toArray) rfl
 simp (disch:=first|omega|exact zF rfl|exact zG rfl|exact fun h=>h|(simp only[zA,zB,zC,zD,bytesW];omega)) only[go_sem]
 have h1:∀ u∈pendV (i,filledL data),u.oneCell'=true:=by simpa using pendV_ones [(i,filledL data)]
 refine ⟨(Chg.refl _ _).alloc _,?_⟩
 refine (h3.alloc' (.cells (pendV (i,filledL data)).toArray 199)).append 2 rfl ty155mkI rfl (by decide) hx h1 (by have:=ok.less; rw [hl.1]; omega) (by have:=ok.less; rw [hl.1]; omega) ?_
 intro v6 w6 h6 c6
 obtain ⟨a6,d6,rfl,_⟩:=own_slice (h6.row 2 rfl)
 have r6:=h6.rules 0 rfl
 simp (disch:=first|omega|exact zF rfl|exact zG rfl|exact fun h=>h|(simp only[zA,zB,zC,zD,bytesW];omega)) only[go_sem,r6]
 refine ⟨.slice a6 (m1.late.length+1) d6,st_recast (h6.set 0 rfl 1 (.slice a6 (m1.late.length+1) d6)) ?_⟩
 simp only [DkL,List.length_append,List.length_singleton,List.flatMap_append,List.flatMap_cons,List.flatMap_nil,List.append_nil]
 rfl
def doneL(safe:List (List UInt8))(late:List (Int × List UInt8)):List (List UInt8):=late.foldl (fun s x=>s.set x.1.toNat x.2) safe
theorem doneL_length(safe:List (List UInt8)):∀ late,(doneL safe late).length=safe.length:=by
 intro late
 unfold doneL
 induction late generalizing safe with
 | nil=>rfl
 | cons x l ih=>rw [List.foldl_cons,ih]; simp
theorem doneL_snoc(safe:List (List UInt8))(l:List (Int × List UInt8))(x:Int × List UInt8):doneL safe (l++[x])=(doneL safe l).set x.1.toNat x.2:=by
 unfold doneL; rw [List.foldl_append]; rfl
def flushN(m:Dk):Dk × Int :=
 if readyN m 0≠0 then (m,readyN m 0) else if (useN m).2≠0 then useN m else ({ (useN m).1 with safe:=doneL m.safe m.late,late:=[] },0)
theorem flush_ok(h:St W0 w F (DkL g vb vl m++L) I)(ok:m.ok) :
  Ret Tryz.prog 153 [.pointer (some ⟨g,0,none⟩)] w fun u w'=>u=.int .i64 (flushN m).2∧∃ vl',St W0 w' F (DkL g vb vl' (flushN m).1++L) I:=by
 refine ent153 _ _ _ ?_
 simp (disch:=first|omega|exact zF rfl|exact zG rfl|exact fun h=>h|(simp only[zA,zB,zC,zD,bytesW];omega)) only[go_sem,c153L0]
 refine Ret.mono (ready_ok 0 h ok) ?_
 rintro _ w2 ⟨rfl,e2⟩
 subst w2
 unfold flushN
 by_cases hr:readyN m 0=0
 case neg =>
  rw [if_pos hr]
  simp (disch:=first|omega|exact zF rfl|exact zG rfl|exact fun h=>h|(simp only[zA,zB,zC,zD,bytesW];omega)) only[go_sem,c153L0,hr]
  exact ⟨vl,h⟩
 rw [if_neg (by omega)]
 simp (disch:=first|omega|exact zF rfl|exact zG rfl|exact fun h=>h|(simp only[zA,zB,zC,zD,bytesW];omega)) only[go_sem,c153L0,hr]
 refine Ret.mono (use_ok h ok) ?_
 rintro _ w2 ⟨rfl,h2⟩
 have ok2:=useN_ok ok
 have hl:=useN_late m
 by_cases hu:(useN m).2=0
 case neg =>
  rw [if_pos hu]
  simp (disch:=first|omega|exact zF rfl|exact zG rfl|exact fun h=>h|(simp only[zA,zB,zC,zD,bytesW];omega)) only[go_sem,c153L0,hu]
  exact ⟨vl,h2⟩
 rw [if_neg (by omega),← hl.1,← hl.2]
 generalize (useN m).1=m1 at h2 ok2 ⊢
 obtain ⟨gb,cb,al,cl,rfl,rfl,hcl⟩:=dk_form h2 ok2
 have r1:=h2.rules 0 rfl
 simp (disch:=first|omega|exact zF rfl|exact zG rfl|exact fun h=>h|(simp only[zA,zB,zC,zD,bytesW];omega)) only[go_sem,hu,r1]
 refine W_loopU (fun k:Nat=>[(19,.int .i64 k)]) (fun k w'=>St W0 w' F (DkL g (.slice (some ⟨gb,0,none⟩) m1.safe.length cb) (.slice al m1.late.length cl) { m1 with safe:=doneL m1.safe (m1.late.take k) }++L) I∧k≤m1.late.length) (fun k=>m1.late.length - k) 0 rfl ⟨h2,Nat.zero_le _⟩ ?_
 rintro k w4 ⟨h4,hk⟩
 have r4:=h4.rules 0 rfl
 have l4:=h4.low 0 rfl
 by_cases hlt:k<m1.late.length
 ·have hlt':(k:Int)<m1.late.length:=by omega
  have hL:RdS w4 2 pendV (.slice al m1.late.length cl) m1.late:=RdS.of_own' (h4.row 2 rfl) m1.late rfl rfl
  obtain ⟨p,rfl⟩:=hL.ptr (by omega)
  have eL:=hL.at pendV_len hlt
  obtain ⟨x0,x1,x2⟩:=ok2.late _ (List.getElem_mem hlt)
  obtain ⟨i0,ei⟩:=Int.eq_ofNat_of_zero_le x0
  have x1':(i0:Int)<m1.safe.length:=by omega
  simp (disch:=first|omega|exact zF rfl|exact zG rfl|exact fun h=>h|(simp only[zA,zB,zC,zD,bytesW];omega)) only[go_sem,c153L0,c153L0,hlt',eL,pendV,r4,ei]
  refine ⟨by omega,c153draw0 (Chg (fun _=>False) _) (Chg.refl _ _) ?_⟩
  have hlen:(doneL m1.safe (m1.late.take k)).length=m1.safe.length:=doneL_length ..
  have h4':=st_recast h4 (L':=[.blk g #[.slice (some ⟨gb,0,none⟩) m1.safe.length cb,.slice (some p) m1.late.length cl,.int .i64 m1.left,.bool m1.gone,.string (ofL zeroB)] 157,.row (.slice (some ⟨gb,0,none⟩) m1.safe.length cb) 9 1 m1.safe.length ((doneL m1.safe (m1.late.take k)).flatMap strE),.row (.slice (some p) m1.late.length cl) 199 2 m1.late.length (m1.late.flatMap pendV)]++L) (by simp only [DkL,hlen])
  have h5:=(h4'.box #[.int .i64 i0,.string (ofL m1.late[k].2)] 199).drew
  generalize w4.heap.size=y at h5 ⊢
  generalize (w4.alloc (.cells #[.int .i64 i0,.string (ofL m1.late[k].2)] 199)).drew=w5 at h5 ⊢
  have r5:=h5.rules 0 rfl
  have l5:=h5.low 0 rfl
  have q5:=h5.rules 1 rfl
  have m5:=h5.low 1 rfl
  clear r4 l4
  have hS:RdS w5 1 strE (.slice (some ⟨gb,0,none⟩) m1.safe.length cb) (doneL m1.safe (m1.late.take k)):=RdS.of_own' (h5.row 2 rfl) _ hlen.symm rfl
  simp (disch:=first|omega|exact zF rfl|exact zG rfl|exact fun h=>h|(simp only[zA,zB,zC,zD,bytesW];omega)) only[go_sem,c153L0,c153D0,r5,q5,x1']
  have eS:=RdS.at1 (e1:=fun s=>.string (ofL s)) hS (k:=i0) (by rw [hlen]; omega)
  rw [Addr.add_lit,Nat.zero_add] at eS
  have hfz:=(h5.row 2 rfl).frozenAt i0
  have h6:=(h5.put 2 rfl i0 (.string (ofL m1.late[k].2))).sub (List.sublist_cons_self _ _)
  have e1:doneL m1.safe (m1.late.take (k+1))=(doneL m1.safe (m1.late.take k)).set i0 m1.late[k].2:=by
   rw [List.take_succ_eq_append_getElem hlt,doneL_snoc,ei]; rfl
  have hless:=ok2.less
  refine ⟨by omega,⟨_,eS⟩,hfz,⟨by omega,by omega⟩,k+1,rfl,⟨st_recast h6 ?_,by omega⟩,by omega⟩
  simp only [DkL,e1,List.length_set,hlen]
  rw [← strE_set]
  rfl
 ·have hlt':¬ (k:Int)<m1.late.length:=by omega
  simp (disch:=first|omega|exact zF rfl|exact zG rfl|exact fun h=>h|(simp only[zA,zB,zC,zD,bytesW];omega)) only[go_sem,c153L0,c153L0,hlt',r4]
  refine ⟨.slice none 0 0,?_⟩
  have h5:=h4.set 0 rfl 1 (.slice none 0 0)
  rw [List.take_of_length_le (by omega)] at h5
  have h6:=h5.sub (L':=[.blk g #[.slice (some ⟨gb,0,none⟩) m1.safe.length cb,.slice none 0 0,.int .i64 m1.left,.bool m1.gone,.string (ofL zeroB)] 157,.row (.slice (some ⟨gb,0,none⟩) m1.safe.length cb) 9 1 (doneL m1.safe m1.late).length ((doneL m1.safe m1.late).flatMap strE)]++L) (by
   refine List.Sublist.cons_cons _ (List.Sublist.cons_cons _ ?_)
   exact List.sublist_cons_self _ _)
  exact St.front (A:=[.row (.slice none 0 0) 199 2 0 []]) (D:=[.blk g #[.slice (some ⟨gb,0,none⟩) m1.safe.length cb,.slice none 0 0,.int .i64 m1.left,.bool m1.gone,.string (ofL zeroB)] 157,.row (.slice (some ⟨gb,0,none⟩) m1.safe.length cb) 9 1 (doneL m1.safe m1.late).length ((doneL m1.safe m1.late).flatMap strE)]) (L:=L) (h6.nilRow 199 2)
end
open Go Go.Ann Go.RowKit Go.WideShapes
theorem zeros_ok(w:World) :
  Ret Tryz.prog 104 [] w fun v w'=>v=.string (ofL zeroB)∧Below w.heap.size w w':=by
 refine ent104 _ _ ?_
 simp only[go_sem,loadK_int,loadK_bool,loadK_str,loadK_slice,loadK_ptr,loadK_map,loadK_agg,loadK_other,heldW]
 refine msW_one ty181mkI rfl (by omega) (by omega) (by omega) (by omega) ?_
 simp only[go_sem,loadK_int,loadK_bool,loadK_str,loadK_slice,loadK_ptr,loadK_map,loadK_agg,loadK_other,heldW]
 exact ⟨zeroB,List.length_replicate,bytesAt_new w 256 _,rfl,(Below.refl _ _).alloc (Nat.le_refl _) _⟩
def newDk(n:Nat):Dk:={ safe:=List.replicate n zeroB,late:=[],left:=-1,gone:=false }
theorem newDk_ok{n:Nat}(h0:0<n)(h1:n≤2048):(newDk n).ok :=
 ⟨fun s hs=>by rw [List.eq_of_mem_replicate hs]; exact List.length_replicate,fun _ h=>(by cases h),⟨by simp [newDk],by simp [newDk]⟩,by simp [newDk]; omega,by simp [newDk]; omega,by simp [newDk]⟩
section
variable {W0 w:World} {F:Nat→Prop} {L:List Res} {I:List Inv}
theorem new_ok{n:Nat}(h:St W0 w F L I)(h0:0<n)(h1:n≤2048) :
  Ret Tryz.prog 40 [.int .i64 n] w fun u w'=>∃ g vb vl,u=.tuple #[.pointer (some ⟨g,0,none⟩),.int .i64 0]∧St W0 w' F (DkL g vb vl (newDk n)++L) I:=by
 have h0':¬ (n:Int)<1:=by omega
 have h1':¬ (2048:Int)<n:=by omega
 refine ent40 _ _ _ ?_
 simp (disch:=first|omega|exact zF rfl|exact zG rfl|exact fun h=>h|(simp only[zA,zB,zC,zD,bytesW];omega)) only[go_sem,h0',h1']
 refine Ret.mono (zeros_ok w) ?_
 rintro _ w2 ⟨rfl,b2⟩
 have s2:=h.call b2
 simp (disch:=first|omega|exact zF rfl|exact zG rfl|exact fun h=>h|(simp only[zA,zB,zC,zD,bytesW];omega)) only[go_sem]
 refine bdW_built (cells:=#[.slice none 0 0,.slice none 0 0,.int .i64 (-1),.bool false,.string (ofL zeroB)]) (by kernel_rfl) ?_
 have s3:=(s2.box #[.slice none 0 0,.slice none 0 0,.int .i64 (-1),.bool false,.string (ofL zeroB)] 157)
 simp (disch:=first|omega|exact zF rfl|exact zG rfl|exact fun h=>h|(simp only[zA,zB,zC,zD,bytesW];omega)) only[go_sem]
 generalize w2.heap.size=g at s3 ⊢
 generalize w2.alloc (.cells #[.slice none 0 0,.slice none 0 0,.int .i64 (-1),.bool false,.string (ofL zeroB)] 157)=w3 at s3 ⊢
 have s3:St W0 w3 F (DkL g (.slice none 0 0) (.slice none 0 0) (newDk 0)++L) I :=
  St.front (A:=[.row (.slice none 0 0) 9 1 0 [],.row (.slice none 0 0) 199 2 0 []]) (D:=[.blk g #[.slice none 0 0,.slice none 0 0,.int .i64 (-1),.bool false,.string (ofL zeroB)] 157]) (L:=L) ((s3.nilRow 199 2).nilRow 9 1)
 refine W_loopU (fun q:Nat × Value=>[(15,.int .i64 q.1)]) (fun q w'=>St W0 w' F (DkL g q.2 (.slice none 0 0) (newDk q.1)++L) I∧q.1≤n) (fun q=>n - q.1) (0,.slice none 0 0) rfl ⟨s3,Nat.zero_le _⟩ ?_
 clear s3 s2 b2
 rintro ⟨k,v⟩ w4 ⟨s4,hk⟩
 simp only at s4 hk
 by_cases hlt:k<n
 ·have hlt':(k:Int)<n:=by omega
  simp (disch:=first|omega|exact zF rfl|exact zG rfl|exact fun h=>h|(simp only[zA,zB,zC,zD,bytesW];omega)) only[go_sem,c40L0,c40L0,hlt']
  refine c40draw0 (Chg (fun _=>False) _) (Chg.refl _ _) ?_
  have s5:=s4.drew
  have r5:=s5.rules 0 rfl
  have l5:=s5.low 0 rfl
  obtain ⟨va,vc,rfl,_⟩:=own_slice (s5.row 1 rfl)
  generalize w4.drew=w5 at s5 r5 l5 ⊢
  simp (disch:=first|omega|exact zF rfl|exact zG rfl|exact fun h=>h|(simp only[zA,zB,zC,zD,bytesW];omega)) only[go_sem,c40L0,c40D0,r5]
  have ones:∀ u∈strE zeroB,u.oneCell'=true:=by simpa using strE_ones [zeroB]
  refine bsW_ones ty22mkI rfl rfl (by decide) (by decide) ones ?_
  have hx:Rd (w5.alloc (.cells (strE zeroB).toArray 9)) 1 (.slice (some ⟨w5.heap.size,0,none⟩) 1 1) 1 (strE zeroB):=rd_new (n:=1) (cs:=(strE zeroB).toArray) rfl
  simp (disch:=first|omega|exact zF rfl|exact zG rfl|exact fun h=>h|(simp only[zA,zB,zC,zD,bytesW];omega)) only[go_sem,c40L0]
  refine ⟨(Chg.refl _ _).alloc _,?_⟩
  have hlk:(newDk k).safe.length=k:=List.length_replicate
  refine (s5.alloc' (.cells (strE zeroB).toArray 9)).append 1 rfl ty22mkI rfl (by decide) hx ones (by omega) (by omega) ?_
  intro v6 w6 h6 c6
  obtain ⟨a6,d6,rfl,_⟩:=own_slice (h6.row 1 rfl)
  have r6:=h6.rules 0 rfl
  simp (disch:=first|omega|exact zF rfl|exact zG rfl|exact fun h=>h|(simp only[zA,zB,zC,zD,bytesW];omega)) only[go_sem,c40L0,r6]
  refine ⟨⟨by omega,by omega⟩,(k+1,.slice a6 ((newDk k).safe.length+1) d6),rfl,⟨st_recast (h6.set 0 rfl 0 (.slice a6 ((newDk k).safe.length+1) d6)) ?_,by simp only; omega⟩,by simp only; omega⟩
  have e:(newDk (k+1)).safe=(newDk k).safe++[zeroB]:=List.replicate_succ'
  simp only [DkL,e,List.length_append,List.length_singleton,List.flatMap_append,List.flatMap_cons,List.flatMap_nil,List.append_nil]
  rfl
 ·have hlt':¬ (k:Int)<n:=by omega
  obtain rfl:k=n:=by omega
  simp (disch:=first|omega|exact zF rfl|exact zG rfl|exact fun h=>h|(simp only[zA,zB,zC,zD,bytesW];omega)) only[go_sem,c40L0,c40L0,hlt']
  exact ⟨g,v,_,rfl,s4⟩
theorem len_ok{g:Nat}{vb vl:Value}{m:Dk}(h:St W0 w F (DkL g vb vl m++L) I)(ok:m.ok) :
  Ret Tryz.prog 105 [.pointer (some ⟨g,0,none⟩)] w fun u w'=>u=.int .i64 m.safe.length∧w'=w:=by
 obtain ⟨gb,cb,al,cl,rfl,rfl,_⟩:=dk_form h ok
 refine ent105 _ _ _ ?_
 have r1:=h.rules 0 rfl
 simp (disch:=first|omega|exact zF rfl|exact zG rfl|exact fun h=>h|(simp only[zA,zB,zC,zD,bytesW];omega)) only[go_sem,r1]
end
open Go Go.Ann Go.RowKit
def bitOf(c:Int)(k:Nat):Bool:=decide (c / 2 ^ k % 2=1)
def hasL(l:List UInt8)(i:Int):Bool:=decide (0≤i) && decide (i<8 * l.length) && bitOf (bN l (i / 8)) (i % 8).toNat
theorem and_one_u8(x:Int)(h0:0≤x)(h1:x≤255):bits BinOp.and IntKind.u8 x 1=x % 2:=by
 obtain ⟨n,rfl⟩:=Int.eq_ofNat_of_zero_le h0
 have:∀ m:Fin 256,bits BinOp.and IntKind.u8 ((m.val:Nat):Int) 1=(m.val:Int) % 2:=by decide +kernel
 exact this ⟨n,by omega⟩
theorem div_pow_bd(c:Int)(k:Nat)(hc0:0≤c)(hc:c≤255):0≤c / 2 ^ k∧c / 2 ^ k≤255:=by
 have h1:(0:Int)<2 ^ k:=Int.pow_pos (by decide)
 refine ⟨Int.ediv_nonneg hc0 (Int.le_of_lt h1),?_⟩
 exact Int.le_trans (Int.ediv_le_self _ hc0) hc
theorem has_ok(l:List UInt8)(i:Int)(w:World)(hi:I64 i) :
  Ret Tryz.prog 49 [.string (ofL l),.int .i64 i] w fun v w'=>v=.bool (hasL l i)∧w'=w:=by
 refine ent49 _ _ _ _ ?_
 simp only[go_sem,loadK_int,loadK_bool,loadK_str,loadK_slice,loadK_ptr,loadK_map,loadK_agg,loadK_other,heldW]
 refine ⟨fun h0=>?_,fun h0=>?_⟩
 ·rw [Int.tdiv_eq_ediv_of_nonneg h0,Int.tmod_eq_emod_of_nonneg h0]
  refine ⟨hi,fun h1=>⟨hi,⟨by omega,h1⟩,?_⟩,fun h1=>?_⟩
  ·have b:=bN_bd l (i / 8)
   rw [wrap_u64_id _ (by omega) (by omega),show min (i % 8).toNat 8=(i % 8).toNat by omega]
   have b':=div_pow_bd _ (i % 8).toNat b.1 b.2
   rw [and_one_u8 _ b'.1 b'.2]
   have e1:decide (0≤i)=true:=by simpa using h0
   have e2:decide (i<8 * (l.length:Int))=true:=by simp; omega
   simp [hasL,e1,e2,bitOf]
  ·have e2:decide (i<8 * (l.length:Int))=false:=by simp; omega
   simp [hasL,e2]
 ·have e2:decide (0≤i)=false:=by simp; omega
  simp [hasL,e2]
def setBit(c:Int)(k:Nat)(b:Bool):Int:=if b then (if bitOf c k then c else c+2 ^ k) else (if bitOf c k then c - 2 ^ k else c)
theorem setBit_or(c:Int)(k:Nat)(h0:0≤c)(h1:c≤255)(hk:k<8):bits .or .u8 c (IntKind.u8.wrap (1 * 2 ^ k))=setBit c k true:=by
 obtain ⟨n,rfl⟩:=Int.eq_ofNat_of_zero_le h0
 have:∀ (m:Fin 256) (k:Fin 8),bits .or .u8 ((m.val:Nat):Int) (IntKind.u8.wrap (1 * 2 ^ k.val))=setBit (m.val:Int) k.val true:=by decide +kernel
 exact this ⟨n,by omega⟩ ⟨k,hk⟩
theorem setBit_andNot(c:Int)(k:Nat)(h0:0≤c)(h1:c≤255)(hk:k<8):bits .andNot .u8 c (IntKind.u8.wrap (1 * 2 ^ k))=setBit c k false:=by
 obtain ⟨n,rfl⟩:=Int.eq_ofNat_of_zero_le h0
 have:∀ (m:Fin 256) (k:Fin 8),bits .andNot .u8 ((m.val:Nat):Int) (IntKind.u8.wrap (1 * 2 ^ k.val))=setBit (m.val:Int) k.val false:=by decide +kernel
 exact this ⟨n,by omega⟩ ⟨k,hk⟩
theorem setBit_bd(c:Int)(k:Nat)(b:Bool)(h0:0≤c)(h1:c≤255)(hk:k<8):0≤setBit c k b∧setBit c k b≤255:=by
 obtain ⟨n,rfl⟩:=Int.eq_ofNat_of_zero_le h0
 have:∀ (m:Fin 256) (k:Fin 8) (b:Bool),0≤setBit (m.val:Int) k.val b∧setBit (m.val:Int) k.val b≤255:=by decide +kernel
 exact this ⟨n,by omega⟩ ⟨k,hk⟩ b
def withL(l:List UInt8)(i:Int)(b:Bool):List UInt8 :=
 if 0≤i∧i<8 * l.length then l.set (i / 8).toNat (UInt8.ofNat (setBit (bN l (i / 8)) (i % 8).toNat b).toNat) else l
def fitsL(l:List UInt8)(i:Int):Bool:=decide (0≤i∧i<8 * l.length)
theorem with_ok(l:List UInt8)(i:Int)(b:Bool)(w:World)(hi:I64 i) :
  Ret Tryz.prog 115 [.string (ofL l),.int .i64 i,.bool b] w fun v w'=>v=.tuple #[.string (ofL (withL l i b)),.bool (fitsL l i)]∧Below w.heap.size w w':=by
 refine ent115 _ _ _ _ _ ?_
 simp only[go_sem,loadK_int,loadK_bool,loadK_str,loadK_slice,loadK_ptr,loadK_map,loadK_agg,loadK_other,heldW]
 refine ⟨fun h0=>?_,fun h0=>?_⟩
 ·rw [Int.tdiv_eq_ediv_of_nonneg h0,Int.tmod_eq_emod_of_nonneg h0]
  refine ⟨hi,fun h1=>?_,fun h1 c hc=>?_⟩
  ·have h2:¬ (0≤i∧i<8 * (l.length:Int)):=by omega
   rw [withL,fitsL,if_neg h2,decide_eq_false h2]
   exact ⟨rfl,Below.refl _ _⟩
  ·have h2:(0≤i∧i<8 * (l.length:Int)):=by omega
   have h3:0≤i / 8:=by omega
   have hlt:(i / 8).toNat<l.length:=by omega
   have hg:=List.getElem?_eq_getElem hlt
   have hcell:=cell_bytesW w l c 5 _ _ hg
   have hfr:=frozen_bytesW w l c 5 (i / 8).toNat (by omega)
   have hbn:bN l (i / 8)=(l[(i / 8).toNat].toNat:Int):=by
    rw [← bN_get l _ _ hg,Int.toNat_of_nonneg h3]
   have bd:=bN_bd l (i / 8)
   have e5:min (i % 8).toNat 8=(i % 8).toNat:=by omega
   rw [hcell,hfr,wrap_u64_id _ (show 0≤i % 8 by omega) (by omega),e5,← hbn]
   have hat:=bytesAt_bytesW w l c 5
   have key:∀ bb,bytesAt ((bytesW w l c 5).setCell ⟨w.heap.size,(i / 8).toNat,none⟩ (.int .u8 (setBit (bN l (i / 8)) (i % 8).toNat bb))) (some ⟨w.heap.size,0,none⟩) (withL l i bb):=by
    intro bb
    have bd2:=setBit_bd (bN l (i / 8)) (i % 8).toNat bb bd.1 bd.2 (by omega)
    have:=bytesAt_set hat bd2.1 bd2.2 hlt
    rw [Nat.zero_add] at this
    rw [withL,if_pos h2]
    exact this
   have hlen:∀ bb,(withL l i bb).length=l.length:=fun bb=>by rw [withL,if_pos h2,List.length_set]
   refine ⟨fun hb=>?_,fun hb=>?_⟩ <;> subst hb
   ·refine ⟨hi,⟨h3,h1⟩,_,rfl,⟨h3,h1⟩,⟨_,rfl⟩,rfl,withL l i true,hlen true,?_,?_,(below_bytesW _ _ _ _).setCell (Nat.le_refl _) _⟩
    ·rw [setBit_or _ _ bd.1 bd.2 (by omega)]; exact key true
    ·rw [fitsL,decide_eq_true h2]
   ·refine ⟨hi,⟨h3,h1⟩,_,rfl,⟨h3,h1⟩,⟨_,rfl⟩,rfl,withL l i false,hlen false,?_,?_,(below_bytesW _ _ _ _).setCell (Nat.le_refl _) _⟩
    ·rw [setBit_andNot _ _ bd.1 bd.2 (by omega)]; exact key false
    ·rw [fitsL,decide_eq_true h2]
 ·have h2:¬ (0≤i∧i<8 * (l.length:Int)):=by omega
  rw [withL,fitsL,if_neg h2,decide_eq_false h2]
  exact ⟨rfl,Below.refl _ _⟩
def emptyL(n:Int):List UInt8:=List.replicate ((n+7) / 8).toNat 0
theorem bytesAt_zeros(w:World)(n:Nat)(e:Nat):bytesAt (w.alloc (.cells (zerosA (.int .u8 0) n) e)) (some ⟨w.heap.size,0,none⟩) (List.replicate n 0):=by
 intro i b h
 simp only [Addr.add_lit,Nat.zero_add]
 obtain ⟨hi,hb⟩:=List.getElem?_eq_some_iff.1 h
 simp only [List.length_replicate] at hi
 simp only [List.getElem_replicate] at hb
 subst hb
 rw [World.cell?_alloc_at _ _ _ _ rfl]
 simp [zerosA,hi]
theorem empty_ok(n:Int)(w:World)(hi:I64 n)(hn:n≤100000000) :
  Ret Tryz.prog 114 [.int .i64 n] w fun v w'=>v=.string (ofL (emptyL n))∧Below w.heap.size w w':=by
 have hk:max 0 (n.tdiv 8+min 1 (max 0 (n.tmod 8)))=max 0 ((n+7) / 8):=by
  rcases Int.le_total 0 n with h | h
  ·rw [Int.tdiv_eq_ediv_of_nonneg h,Int.tmod_eq_emod_of_nonneg h]; omega
  ·have h1:n.tdiv 8≤0:=by
    have h2:n.tdiv 8 = -((-n) / 8):=by
     rw [← Int.tdiv_eq_ediv_of_nonneg (by omega),Int.neg_tdiv,Int.neg_neg]
    omega
   have h2:n.tmod 8≤0:=by
    have h2:n.tmod 8 = -((-n) % 8):=by
     rw [← Int.tmod_eq_emod_of_nonneg (by omega),Int.neg_tmod,Int.neg_neg]
    omega
   omega
 have hd:I64 (n.tdiv 8):=tdiv_i64 n 8 (by decide) (by decide) hi
 refine ent114 _ _ _ ?_
 simp only[go_sem,loadK_int,loadK_bool,loadK_str,loadK_slice,loadK_ptr,loadK_map,loadK_agg,loadK_other,heldW]
 refine ⟨hi,?_,?_⟩
 ·obtain ⟨h1,h2⟩:=hd
  have h3:n.tdiv 8≤100000000:=by
   rcases Int.le_total 0 n with h | h
   ·rw [Int.tdiv_eq_ediv_of_nonneg h]; omega
   ·have h2:n.tdiv 8 = -((-n) / 8):=by
     rw [← Int.tdiv_eq_ediv_of_nonneg (by omega),Int.neg_tdiv,Int.neg_neg]
    omega
  exact ⟨by omega,by omega⟩
 ·rw [hk]
  refine msW_one ty181mkI rfl (by omega) (by omega) (by omega) (by omega) ?_
  simp only[go_sem,loadK_int,loadK_bool,loadK_str,loadK_slice,loadK_ptr,loadK_map,loadK_agg,loadK_other,heldW]
  have hb:=bytesAt_zeros w (max 0 ((n+7) / 8)).toNat 5
  have e:List.replicate (max 0 ((n+7) / 8)).toNat (0:UInt8)=emptyL n:=by unfold emptyL; congr 1; omega
  rw [e] at hb
  exact ⟨emptyL n,by unfold emptyL; rw [List.length_replicate]; omega,hb,rfl,(Below.refl _ _).alloc (Nat.le_refl _) _⟩
def IsLow(l:List UInt8)(a b v:Int)(ok:Bool):Prop :=
 (ok=true∧a≤v∧0≤v∧v<b∧v<8 * l.length∧hasL l v=false∧∀ j,a≤j→0≤j→j<v→hasL l j=true) ∨
 (ok=false∧v=0∧∀ j,a≤j→0≤j→j<b→j<8 * l.length→hasL l j=true)
theorem IsLow.same{l:List UInt8}{a b v v':Int}{ok ok':Bool}(h:IsLow l a b v ok)(h':IsLow l a b v' ok'):v=v'∧ok=ok':=by
 rcases h with ⟨rfl,h1,h2,h3,h4,h5,h6⟩ | ⟨rfl,rfl,h6⟩ <;> rcases h' with ⟨rfl,g1,g2,g3,g4,g5,g6⟩ | ⟨rfl,rfl,g6⟩
 ·refine ⟨?_,rfl⟩
  rcases Int.lt_trichotomy v v' with h | h | h
  ·have:=g6 v h1 h2 h; rw [h5] at this; cases this
  ·exact h
  ·have:=h6 v' g1 g2 h; rw [g5] at this; cases this
 ·have:=g6 v h1 h2 h3 h4; rw [h5] at this; cases this
 ·have:=h6 v' g1 g2 g3 g4; rw [g5] at this; cases this
 ·exact ⟨rfl,rfl⟩
theorem hasL_255(l:List UInt8)(i:Int)(h0:0≤i)(h1:i<8 * l.length)(hb:bN l (i / 8)=255):hasL l i=true:=by
 have e1:decide (0≤i)=true:=by simpa using h0
 have e2:decide (i<8 * (l.length:Int))=true:=by simpa using h1
 have:∀ k:Fin 8,bitOf 255 k.val=true:=by decide
 have:=this ⟨(i % 8).toNat,by omega⟩
 simp [hasL,e1,e2,hb,this]
theorem lowest_ok(l:List UInt8)(a b:Int)(w:World)(ha:I64 a)(hb:I64 b)(hl:(l.length:Int)≤140737488355328) :
  Ret Tryz.prog 126 [.string (ofL l),.int .i64 a,.int .i64 b] w fun v w'=>∃ n ok,v=.tuple #[.int .i64 n,.bool ok]∧IsLow l a b n ok∧w'=w:=by
 obtain ⟨b1,b2⟩:=hb
 obtain ⟨a1,a2⟩:=ha
 refine ent126 _ _ _ _ _ ?_
 simp only[go_sem,loadK_int,loadK_bool,loadK_str,loadK_slice,loadK_ptr,loadK_map,loadK_agg,loadK_other,heldW]
 refine W_loop (fun i:Int=>[(0,.string (ofL l)),(2,.int .i64 b),(8,.int .i64 i)]) (fun i w'=>max 0 a≤i∧i≤9223372036854775807∧(∀ j,a≤j→0≤j→j<i→j<b→j<8 * l.length→hasL l j=true)∧w'=w)
  (fun i=>(9223372036854775807 - i).toNat) (max 0 a) (by rfl) ⟨by omega,by omega,fun j h1 h2 h3=>by omega,rfl⟩ ?_
 rintro i w' ⟨hi0,hi1,hall,rfl⟩
 have hii:I64 i:=⟨by omega,by omega⟩
 have i0:0≤i:=by omega
 have none:(i<b→(l.length:Int)≤i / 8)→∃ n ok,Value.tuple #[.int .i64 0,.bool false]=.tuple #[.int .i64 n,.bool ok]∧IsLow l a b n ok:=by
  intro h
  refine ⟨0,false,rfl,.inr ⟨rfl,rfl,fun j h1 h2 h3 h4=>?_⟩⟩
  rcases Int.lt_or_le j i with h5 | h5
  ·exact hall j h1 h2 h5 h3 h4
  ·have:=h (by omega); omega
 have next:∀ d:Int,1≤d→d≤8→i<b→i / 8<l.length→(∀ j,i≤j→j<i+d→j<8 * l.length→hasL l j=true) →
   ∃ s',[(0,Value.string (ofL l)),(2,Value.int .i64 b),(8,Value.int .i64 (i+d))]=[(0,Value.string (ofL l)),(2,Value.int .i64 b),(8,Value.int .i64 s')] ∧
    (max 0 a≤s'∧s'≤9223372036854775807∧(∀ j,a≤j→0≤j→j<s'→j<b→j<8 * l.length→hasL l j=true))∧(9223372036854775807 - s').toNat<(9223372036854775807 - i).toNat:=by
  intro d d1 d8 h1 h2 h3
  refine ⟨i+d,rfl,⟨by omega,by omega,fun j g1 g2 g3 g4 g5=>?_⟩,by omega⟩
  rcases Int.lt_or_le j i with h5 | h5
  ·exact hall j g1 g2 h5 g4 g5
  ·exact h3 j h5 g3 g5
 have done:i<b→i / 8<l.length→hasL l i=false→∃ n ok,Value.tuple #[.int .i64 i,.bool true]=.tuple #[.int .i64 n,.bool ok]∧IsLow l a b n ok:=by
  intro h1 h2 h3
  exact ⟨i,true,rfl,.inl ⟨rfl,by omega,i0,h1,by omega,h3,fun j g1 g2 g3=>hall j g1 g2 g3 (by omega) (by omega)⟩⟩
 simp only[go_sem,loadK_int,loadK_bool,loadK_str,loadK_slice,loadK_ptr,loadK_map,loadK_agg,loadK_other,heldW]
 rw [Int.tdiv_eq_ediv_of_nonneg i0,Int.tmod_eq_emod_of_nonneg i0]
 refine ⟨fun h1=>⟨hii,fun h2=>⟨fun h3=>⟨hii,⟨by omega,h2⟩,fun h4=>⟨⟨by omega,by omega⟩,⟨by omega,by omega⟩,?_⟩,fun h4=>?_⟩,fun h3=>?_⟩,fun h2=>?_⟩,fun h1=>?_⟩
 ·have:=next 8 (by omega) (by omega) h1 h2 (fun j g1 g2 g3=>hasL_255 l j (by omega) g3 (by rw [show j / 8=i / 8 by omega]; exact h4))
  rw [show i+7+1=i+8 by omega]
  exact this
 ·refine (has_ok l i _ hii).mono ?_
  rintro _ _ ⟨rfl,rfl⟩
  simp only[go_sem,loadK_int,loadK_bool,loadK_str,loadK_slice,loadK_ptr,loadK_map,loadK_agg,loadK_other,heldW]
  refine ⟨fun h5=>done h1 h2 h5,fun h5=>⟨⟨by omega,by omega⟩,next 1 (by omega) (by omega) h1 h2 (fun j g1 g2 g3=>by rw [show j=i by omega]; exact h5)⟩⟩
 ·refine (has_ok l i _ hii).mono ?_
  rintro _ _ ⟨rfl,rfl⟩
  simp only[go_sem,loadK_int,loadK_bool,loadK_str,loadK_slice,loadK_ptr,loadK_map,loadK_agg,loadK_other,heldW]
  refine ⟨fun h5=>done h1 h2 h5,fun h5=>⟨⟨by omega,by omega⟩,next 1 (by omega) (by omega) h1 h2 (fun j g1 g2 g3=>by rw [show j=i by omega]; exact h5)⟩⟩
 ·exact none (fun _=>h2)
 ·exact none (fun h=>by omega)
def popN(c:Int):Nat:=((List.range 8).filter (bitOf c)).length
def countL(l:List UInt8):Nat:=(l.map fun b=>popN b.toNat).sum
theorem popN_le(c:Int):popN c≤8:=by
 unfold popN
 exact Nat.le_trans (List.length_filter_le _ _) (by simp)
theorem countL_le:∀ l:List UInt8,countL l≤8 * l.length
 | []=>by simp [countL]
 | b::l=>by
  have:=countL_le l
  have h:=popN_le b.toNat
  simp only [countL,List.map_cons,List.sum_cons,List.length_cons] at *
  omega
theorem countL_take(l:List UInt8)(k:Nat)(h:k<l.length):countL (l.take (k+1))=countL (l.take k)+popN (bN l k):=by
 rw [List.take_succ_eq_append_getElem h]
 have:bN l k=(l[k].toNat:Int):=bN_get l k _ (List.getElem?_eq_getElem h)
 rw [this]
 unfold countL
 rw [List.map_append,List.sum_append]
 simp
theorem ones_ok(c:Int)(w:World)(h0:0≤c)(h1:c≤255) :
  Ret Tryz.prog 116 [.int .u8 c] w fun v w'=>v=.int .i64 (popN c)∧w'=w:=by
 refine ent116 _ _ _ ?_
 simp only[go_sem,loadK_int,loadK_bool,loadK_str,loadK_slice,loadK_ptr,loadK_map,loadK_agg,loadK_other,heldW]
 have len:str256x1466348926.length=256:=by decide +kernel
 have all:∀ m:Fin 256,bN str256x1466348926 (m.val:Int)=(popN (m.val:Int):Int):=by decide +kernel
 have e:bN str256x1466348926 c=popN c:=by
  have:=all ⟨c.toNat,by omega⟩
  rwa [show ((c.toNat:Nat):Int)=c by omega] at this
 have:=popN_le c
 refine ⟨⟨h0,by omega⟩,?_,?_⟩
 ·rw [e]; constructor <;> omega
 ·rw [e]
theorem count_ok(l:List UInt8)(w:World)(hl:(l.length:Int)≤140737488355328) :
  Ret Tryz.prog 48 [.string (ofL l)] w fun v w'=>v=.int .i64 (countL l)∧w'=w:=by
 refine ent48 _ _ _ ?_
 simp only[go_sem,loadK_int,loadK_bool,loadK_str,loadK_slice,loadK_ptr,loadK_map,loadK_agg,loadK_other,heldW]
 refine W_loop (fun k:Nat=>[(0,Value.string (ofL l)),(3,.int .i64 (countL (l.take k))),(6,.int .i64 l.length),(7,.int .i64 (k:Int))])
  (fun k w'=>k≤l.length∧w'=w) (fun k=>l.length - k) 0 (by rfl) ⟨Nat.zero_le _,rfl⟩ ?_
 rintro k w' ⟨hk,rfl⟩
 simp only[go_sem,loadK_int,loadK_bool,loadK_str,loadK_slice,loadK_ptr,loadK_map,loadK_agg,loadK_other,heldW]
 refine ⟨fun h=>⟨⟨by omega,h⟩,?_⟩,fun h=>?_⟩
 ·have bd:=bN_bd l k
  have h':k<l.length:=by omega
  have ct:=countL_take l k h'
  have c1:=countL_le (l.take (k+1))
  have c2:=countL_le (l.take k)
  have l1:(l.take (k+1)).length=k+1:=by rw [List.length_take]; omega
  have l2:(l.take k).length=k:=by rw [List.length_take]; omega
  rw [l1] at c1
  rw [l2] at c2
  refine (ones_ok _ _ bd.1 bd.2).mono ?_
  rintro _ w3 ⟨rfl,rfl⟩
  simp only[go_sem,loadK_int,loadK_bool,loadK_str,loadK_slice,loadK_ptr,loadK_map,loadK_agg,loadK_other,heldW]
  refine ⟨by constructor <;> omega,by constructor <;> omega,k+1,?_,by omega,by omega⟩
  rw [ct]; simp
 ·rw [List.take_of_length_le (by omega)]
theorem set_bits:∀ (c:Fin 256) (k j:Fin 8) (b:Bool),bitOf ((UInt8.ofNat (setBit (c.val:Int) k.val b).toNat).toNat:Int) j.val=if j=k then b else bitOf c.val j.val:=by decide +kernel
theorem bN_set(l:List UInt8)(j:Int)(u:UInt8)(h0:0≤j)(h:j<l.length)(k:Int)(hk:0≤k):bN (l.set j.toNat u) k=if k=j then (u.toNat:Int) else bN l k:=by
 by_cases e:k=j
 ·subst e
  rw [if_pos rfl]
  have:=bN_get (l.set k.toNat u) k.toNat u (by rw [List.getElem?_set_self (by omega)])
  rwa [show ((k.toNat:Nat):Int)=k by omega] at this
 ·rw [if_neg e]
  unfold bN
  rw [List.getD_eq_getElem?_getD,List.getD_eq_getElem?_getD,List.getElem?_set_ne (by omega)]
theorem hasL_in(l:List UInt8)(i:Int)(h:0≤i∧i<8 * l.length):hasL l i=bitOf (bN l (i / 8)) (i % 8).toNat:=by
 simp [hasL,h.1,h.2]
theorem withL_length(l:List UInt8)(i:Int)(b:Bool):(withL l i b).length=l.length:=by
 unfold withL; split <;> simp
theorem withL_has(l:List UInt8)(i:Int)(b:Bool)(h:fitsL l i=true)(k:Int):hasL (withL l i b) k=if k=i then b else hasL l k:=by
 have h':=of_decide_eq_true h
 by_cases hk:0≤k∧k<8 * l.length
 ·rw [hasL_in _ k (by rw [withL_length]; exact hk),hasL_in l k hk]
  unfold withL
  rw [if_pos h',bN_set _ _ _ (by omega) (by omega) _ (by omega)]
  have bd:=bN_bd l (i / 8)
  by_cases e:k / 8=i / 8
  ·rw [if_pos e]
   have:=set_bits ⟨(bN l (i / 8)).toNat,by omega⟩ ⟨(i % 8).toNat,by omega⟩ ⟨(k % 8).toNat,by omega⟩ b
   rw [show ((bN l (i / 8)).toNat:Int)=bN l (i / 8) by omega] at this
   rw [this,e]
   by_cases e2:k=i
   ·subst e2; simp
   ·rw [if_neg e2,if_neg (by intro h; have:=congrArg Fin.val h; simp only at this; omega)]
  ·rw [if_neg e,if_neg (by rintro rfl; exact e rfl)]
 ·have hn:∀ m:List UInt8,m.length=l.length→hasL m k=false:=by
   intro m hm
   unfold hasL
   rw [hm]
   rw [← Bool.decide_and,decide_eq_false hk]; rfl
  rw [hn l rfl,hn _ (withL_length l i b),if_neg (by rintro rfl; exact hk h')]
open Go Go.Ann Go.RowKit Go.WideShapes
def u8(n:Nat):UInt8:=UInt8.ofNat n
def byteC(b:UInt8):Value:=.int .u8 b.toNat
theorem byte_one(b:UInt8):∀ u∈[byteC b],u.oneCell'=true:=by intro u hu; rw [List.mem_singleton] at hu; subst hu; rfl
theorem wrap_u8(n:Nat):IntKind.u8.wrap (n:Int)=((u8 n).toNat:Int):=by
 rw [wrap_u8_mod]; unfold u8; simp
def fixL(n k:Nat):List UInt8:=(List.range k).map fun i=>u8 (n / 256 ^ i)
theorem fixL_len(n k:Nat):(fixL n k).length=k:=by unfold fixL; simp
theorem fixL_succ(n k:Nat):fixL n (k+1)=fixL n k++[u8 (n / 256 ^ k)]:=by unfold fixL; rw [List.range_succ,List.map_append]; rfl
def unfixL:List UInt8→Nat
 | []=>0
 | b::l=>b.toNat+256 * unfixL l
theorem unfixL_snoc(b:UInt8):∀ l:List UInt8,unfixL (l++[b])=unfixL l+b.toNat * 256 ^ l.length
 | []=>by simp [unfixL]
 | a::l=>by
  rw [List.cons_append,unfixL,unfixL,unfixL_snoc b l,List.length_cons,Nat.pow_succ,Nat.mul_add,← Nat.add_assoc,Nat.mul_comm (256 ^ l.length) 256,Nat.mul_left_comm]
theorem unfixL_lt:∀ l:List UInt8,unfixL l<256 ^ l.length
 | []=>by decide
 | b::l=>by
  have h1:=unfixL_lt l
  have h2:=b.toNat_lt
  rw [unfixL,List.length_cons,Nat.pow_succ]
  omega
theorem unfixL_fixL(n:Nat):∀ k,unfixL (fixL n k)=n % 256 ^ k
 | 0=>by simp [fixL,unfixL,Nat.mod_one]
 | k+1=>by
  rw [fixL_succ,unfixL_snoc,unfixL_fixL n k,fixL_len,Nat.pow_succ]
  have e:(u8 (n / 256 ^ k)).toNat=n / 256 ^ k % 256:=by unfold u8; simp
  rw [e,Nat.mod_mul,Nat.mul_comm (256 ^ k)]
theorem pow256(k:Nat):(256:Nat) ^ k=2 ^ (8 * k):=by rw [show (256:Nat)=2 ^ 8 from rfl,← Nat.pow_mul]
theorem or_next{a b i:Nat}(ha:a<2 ^ i)(hb:b<256)(hi:i≤56):bits .or .u64 (a:Int) (IntKind.u64.wrap ((b:Int) * 2 ^ i))=((a+b * 2 ^ i:Nat):Int):=by
 have h56:2 ^ i≤2 ^ 56:=Nat.pow_le_pow_right (by decide) hi
 have hb2:b * 2 ^ i≤255 * 2 ^ 56:=Nat.mul_le_mul (by omega) h56
 have e0:IntKind.u64.wrap ((b:Int) * 2 ^ i)=((b * 2 ^ i:Nat):Int):=by
  have:((b:Int) * 2 ^ i)=((b * 2 ^ i:Nat):Int):=by push_cast; rfl
  rw [this,wrap_u64_id _ (by omega) (by omega)]
 rw [e0]
 have e:(BitVec.ofInt 64 (a:Int) ||| BitVec.ofInt 64 ((b * 2 ^ i:Nat):Int)).toNat=a+b * 2 ^ i:=by
  rw [BitVec.toNat_or,BitVec.ofInt_natCast,BitVec.ofInt_natCast,BitVec.toNat_ofNat,BitVec.toNat_ofNat,Nat.mod_eq_of_lt (by omega),Nat.mod_eq_of_lt (by omega),Nat.or_comm]
  have:=Nat.shiftLeft_add_eq_or_of_lt ha b
  rw [Nat.shiftLeft_eq] at this
  rw [← this]; omega
 show IntKind.u64.wrap (((BitVec.ofInt 64 (a:Int) ||| BitVec.ofInt 64 ((b * 2 ^ i:Nat):Int)).toNat:Nat):Int)=_
 rw [e,wrap_u64_id _ (by omega) (by omega)]
theorem row_bytes{w:World}{B e n c:Nat}{a:Option Addr}{l:List UInt8}(h:w.ownsRow B e 1 (.slice a n c) n (l.map byteC)):bytesAt w a l:=by
 rcases h.2 with ⟨e,h0⟩ | ⟨g,cap,cur,e,_⟩
 ·have hl:=h.1
  rw [List.length_map] at hl
  have hn:l=[]:=List.eq_nil_of_length_eq_zero (by omega)
  simp only [Value.slice.injEq] at e
  obtain ⟨rfl,_,_⟩:=e
  exact hn
 ·simp only [Value.slice.injEq] at e
  obtain ⟨rfl,_,rfl⟩:=e
  intro j b hb
  refine h.cells rfl j _ ?_
  rw [List.getElem?_map,hb]; rfl
theorem fixed_ok(n k:Nat)(w:World)(hn:n<18446744073709551616)(hk:k≤8):Ret Tryz.prog 118 [.int .u64 n,.int .i64 k] w fun u w'=>u=.string (ofL (fixL n k))∧Below w.heap.size w w':=by
 refine ent118 _ _ _ _ ?_
 simp (disch:=first|omega|exact zF rfl|exact zG rfl|exact fun h=>h|(simp only[zA,zB,zC,zD,bytesW];omega)) only[go_sem]
 refine msW_one ty181mkI rfl (by omega) (by omega) (by omega) (by omega) ?_
 have s1:St w (w.alloc (.cells (zerosA (.int .u8 0) 8) 5)) (fun _=>False) [.row (.slice (some ⟨w.heap.size,0,none⟩) 0 8) 5 1 0 []] [] :=
  St.start.add ((Below.refl _ w).alloc (Nat.le_refl _) _) _ (World.ownsRow_made _ _ 8 (Nat.le_refl _) (by decide) (by rfl)) fun k hk=>by simp only [Res.own,Value.ownBlock,Option.some.injEq] at hk; omega
 have e8:max 0 (min (k:Int) 8)=k:=by omega
 simp (disch:=first|omega|exact zF rfl|exact zG rfl|exact fun h=>h|(simp only[zA,zB,zC,zD,bytesW];omega)) only[go_sem,e8]
 refine W_loopU (fun q:Nat × Value=>[(5,q.2),(11,.int .i64 q.1)]) (fun q w'=>St w w' (fun _=>False) [.row q.2 5 1 q.1 ((fixL n q.1).map byteC)] []∧q.1≤k) (fun q=>k - q.1) (0,.slice (some ⟨w.heap.size,0,none⟩) 0 8) rfl ⟨s1,Nat.zero_le _⟩ ?_
 clear s1
 rintro ⟨j,v⟩ w1 ⟨s1,hj⟩
 simp only at s1 hj
 obtain ⟨a,c,rfl,_⟩:=own_slice (s1.row 0 rfl)
 by_cases hlt:j<k
 ·have hlt':(j:Int)<k:=by omega
  simp (disch:=first|omega|exact zF rfl|exact zG rfl|exact fun h=>h|(simp only[zA,zB,zC,zD,bytesW];omega)) only[go_sem,c118L0,c118L0,hlt']
  have e1:IntKind.u8.wrap ((n:Int) / 2 ^ min (IntKind.u64.wrap (8 * (j:Int))).toNat 64)=((u8 (n / 256 ^ j)).toNat:Int):=by
   rw [wrap_u64_id _ (by omega) (by omega)]
   have e2:min (8 * (j:Int)).toNat 64=8 * j:=by omega
   rw [e2,← wrap_u8,pow256]
   congr 1
  rw [e1]
  refine ⟨⟨by omega,by omega⟩,bsW_ones ty181mkI rfl rfl (by decide) (by decide) (byte_one (u8 (n / 256 ^ j))) ?_⟩
  simp (disch:=first|omega|exact zF rfl|exact zG rfl|exact fun h=>h|(simp only[zA,zB,zC,zD,bytesW];omega)) only[go_sem,c118L0]
  have hx:Rd (w1.alloc (.cells #[byteC (u8 (n / 256 ^ j))] 5)) 1 (.slice (some ⟨w1.heap.size,0,none⟩) 1 1) 1 [byteC (u8 (n / 256 ^ j))]:=rd_new (n:=1) (cs:=#[byteC (u8 (n / 256 ^ j))]) rfl
  refine (s1.alloc' (.cells #[byteC (u8 (n / 256 ^ j))] 5)).append 0 rfl ty181mkI rfl (by decide) hx (byte_one _) (by omega) (by omega) ?_
  intro v6 w6 s6 c6
  simp only [List.set_cons_zero] at s6
  simp (disch:=first|omega|exact zF rfl|exact zG rfl|exact fun h=>h|(simp only[zA,zB,zC,zD,bytesW];omega)) only[go_sem,c118L0]
  refine ⟨⟨by omega,by omega⟩,(j+1,v6),rfl,⟨st_recast s6 ?_,by simp only; omega⟩,by simp only; omega⟩
  simp only [fixL_succ,List.map_append,List.map_cons,List.map_nil]
 ·have hlt':¬ (j:Int)<k:=by omega
  obtain rfl:j=k:=by omega
  simp (disch:=first|omega|exact zF rfl|exact zG rfl|exact fun h=>h|(simp only[zA,zB,zC,zD,bytesW];omega)) only[go_sem,c118L0,c118L0,hlt']
  refine ⟨fixL n j,fixL_len n j,?_,rfl,s1.bel⟩
  exact row_bytes (s1.row 0 rfl)
theorem unfixed_ok(l:List UInt8)(w:World)(hl:l.length≤8):Ret Tryz.prog 98 [.string (ofL l)] w fun u w'=>u=.int .u64 (unfixL l)∧w'=w:=by
 refine ent98 _ _ _ ?_
 have e8:min (l.length:Int) 8=l.length:=by omega
 simp (disch:=first|omega|exact zF rfl|exact zG rfl|exact fun h=>h|(simp only[zA,zB,zC,zD,bytesW];omega)) only[go_sem,e8]
 refine W_loopU (fun j:Nat=>[(3,.int .u64 (unfixL (l.take j))),(8,.int .i64 j)]) (fun j w'=>w'=w∧j≤l.length) (fun j=>l.length - j) 0 rfl ⟨rfl,Nat.zero_le _⟩ ?_
 rintro j w1 ⟨e1,hj⟩
 subst w1
 by_cases hlt:j<l.length
 ·have hlt':(j:Int)<l.length:=by omega
  simp (disch:=first|omega|exact zF rfl|exact zG rfl|exact fun h=>h|(simp only[zA,zB,zC,zD,bytesW];omega)) only[go_sem,c98L0,c98L0,hlt']
  have hb:bN l (j:Int)=((l[j].toNat:Nat):Int):=(bN_get l j _ (List.getElem?_eq_getElem hlt))
  have e2:min (8 * (j:Int)).toNat 64=8 * j:=by omega
  have hlt2:=unfixL_lt (l.take j)
  rw [List.length_take,Nat.min_eq_left (by omega),pow256] at hlt2
  have hbl:=l[j].toNat_lt
  rw [hb,wrap_u64_id _ (show 0≤((l[j].toNat:Nat):Int) by omega) (by omega),wrap_u64_id (8 * (j:Int)) (by omega) (by omega),e2,or_next hlt2 (by omega) (by omega)]
  refine ⟨by omega,⟨by omega,by omega⟩,⟨by omega,by omega⟩,j+1,?_,by omega,by omega⟩
  rw [List.take_succ_eq_append_getElem hlt,unfixL_snoc,List.length_take,Nat.min_eq_left (by omega),pow256]
  rfl
 ·have hlt':¬ (j:Int)<l.length:=by omega
  simp (disch:=first|omega|exact zF rfl|exact zG rfl|exact fun h=>h|(simp only[zA,zB,zC,zD,bytesW];omega)) only[go_sem,c98L0,c98L0,hlt']
  rw [List.take_of_length_le (by omega)]
def notB(b:UInt8):UInt8:=255 - b
def notL(l:List UInt8):List UInt8:=l.map notB
theorem notL_len(l:List UInt8):(notL l).length=l.length:=by unfold notL; simp
theorem xor255:∀ x:Fin 256,bits BinOp.xor IntKind.u8 (x.val:Int) 255=((255 - x.val:Nat):Int):=by decide +kernel
theorem xor_u8(b:UInt8):bits BinOp.xor IntKind.u8 ((b.toNat:Nat):Int) 255=(((notB b).toNat:Nat):Int):=by
 have h:=xor255 ⟨b.toNat,b.toNat_lt⟩
 rw [h]
 unfold notB
 have:=b.toNat_lt
 rw [UInt8.toNat_sub_of_le _ _ (by rw [UInt8.le_iff_toNat_le]; show b.toNat≤255; omega)]
 rfl
theorem not_ok(l:List UInt8)(w:World)(hl:(l.length:Int)≤1000000):Ret Tryz.prog 185 [.string (ofL l)] w fun u w'=>u=.string (ofL (notL l))∧Below w.heap.size w w':=by
 refine ent185 _ _ _ ?_
 simp (disch:=first|omega|exact zF rfl|exact zG rfl|exact fun h=>h|(simp only[zA,zB,zC,zD,bytesW];omega)) only[go_sem]
 intro c hc
 have hf0:∀ i,i<l.length→(bytesW w l c 5).frozen? ⟨w.heap.size,i,none⟩=false:=fun i hi=>frozen_bytesW w l c 5 i (by omega)
 refine W_loopU (fun j:Nat=>[(9,.int .i64 j)]) (fun j w'=>j≤l.length∧bytesAt w' (some ⟨w.heap.size,0,none⟩) (notL (l.take j)++l.drop j)∧(∀ i,i<l.length→w'.frozen? ⟨w.heap.size,i,none⟩=false)∧Below w.heap.size w w') (fun j=>l.length - j) 0 rfl ⟨Nat.zero_le _,bytesAt_bytesW w l c 5,hf0,below_bytesW w l c 5⟩ ?_
 rintro j w1 ⟨hj,ha,hf,hb⟩
 by_cases hlt:j<l.length
 ·have hlt':(j:Int)<l.length:=by omega
  have e1:(notL (l.take j)++l.drop j)[j]?=some l[j]:=by
   rw [List.getElem?_append_right (by rw [notL_len,List.length_take]; omega),notL_len,List.length_take,Nat.min_eq_left (by omega),Nat.sub_self,List.getElem?_drop,Nat.add_zero,List.getElem?_eq_getElem hlt]
  have ec:=ha j _ e1
  rw [Addr.add_lit,Nat.zero_add] at ec
  have ef:=hf j hlt
  simp (disch:=first|omega|exact zF rfl|exact zG rfl|exact fun h=>h|(simp only[zA,zB,zC,zD,bytesW];omega)) only[go_sem,c185L0,c185L0,hlt',ec,ef]
  rw [xor_u8]
  have hs:=bytesAt_set ha (j:=j) (n:=(((notB l[j]).toNat:Nat):Int)) (by omega) (by have:=(notB l[j]).toNat_lt; omega) (by rw [List.length_append,notL_len,List.length_take,List.length_drop]; omega)
  rw [Nat.zero_add] at hs
  refine ⟨by omega,by omega,⟨by omega,by omega⟩,j+1,rfl,⟨by omega,?_,hf,hb.setCell (Nat.le_refl _) _⟩,by omega⟩
  have e2:(notL (l.take j)++l.drop j).set j (UInt8.ofNat (((notB l[j]).toNat:Nat):Int).toNat)=notL (l.take (j+1))++l.drop (j+1):=by
   rw [List.set_append_right _ _ (by rw [notL_len,List.length_take]; omega),notL_len,List.length_take,Nat.min_eq_left (by omega),Nat.sub_self,List.drop_eq_getElem_cons hlt,List.set_cons_zero,List.take_succ_eq_append_getElem hlt]
   unfold notL
   rw [List.map_append,List.append_assoc]
   simp
  rw [e2] at hs
  exact hs
 ·have hlt':¬ (j:Int)<l.length:=by omega
  obtain rfl:j=l.length:=by omega
  simp (disch:=first|omega|exact zF rfl|exact zG rfl|exact fun h=>h|(simp only[zA,zB,zC,zD,bytesW];omega)) only[go_sem,c185L0,c185L0,hlt']
  rw [List.take_length,List.drop_length,List.append_nil] at ha
  exact ⟨notL l,notL_len l,ha,rfl,hb⟩
open Go Go.Ann Go.RowKit Go.WideShapes
structure Hd where
 seq:Nat
 used:Nat
 room:Nat
 pages:Nat
deriving DecidableEq
structure Hd.ok(h:Hd):Prop where
 seq:h.seq<18446744073709551616
 used:h.used<4294967296
 room:h.room<4294967296
 pages:h.pages<4294967296
def Hd.enc(h:Hd):List Value:=[.int .u64 h.seq,.int .i64 h.used,.int .i64 h.room,.int .i64 h.pages]
theorem Hd.len(h:Hd):h.enc.length=4:=rfl
def head0(h:Hd):List UInt8:=fixL h.seq 8++fixL h.used 4++fixL h.room 4++fixL h.pages 4
def headL(h:Hd):List UInt8:=head0 h++notL (head0 h)
theorem head0_len(h:Hd):(head0 h).length=20:=by unfold head0; simp only [List.length_append,fixL_len]
theorem headL_len(h:Hd):(headL h).length=40:=by unfold headL; rw [List.length_append,notL_len,head0_len]
def hd0:Hd:=⟨0,0,0,0⟩
def readHd(b:List UInt8):Option Hd :=
 if b.length<40 then none else if notL (b.take 20)=cutL b 20 40 then some ⟨unfixL (b.take 8),unfixL (cutL b 8 12),unfixL (cutL b 12 16),unfixL (cutL b 16 20)⟩ else none
theorem writeHead_ok(h:Hd)(ok:h.ok)(w:World):Ret Tryz.prog 152 [.agg h.enc.toArray] w fun u w'=>u=.string (ofL (headL h))∧Below w.heap.size w w':=by
 refine ent152 _ _ _ ?_
 have s1:=(St.start (W0:=w)).box h.enc.toArray 160
 have r1:=s1.rules 0 rfl
 simp (disch:=first|omega|exact zF rfl|exact zG rfl|exact fun h=>h|(simp only[zA,zB,zC,zD,bytesW];omega)) only[go_sem]
 generalize hb:w.heap.size=b at s1 r1 ⊢
 generalize w.alloc (.cells h.enc.toArray 160)=w1 at s1 r1 ⊢
 refine c152draw0 (Chg (fun _=>False) _) (Chg.refl _ _) ?_
 have s2:=s1.drew
 have r2:=s2.rules 0 rfl
 have l2:=s2.low 0 rfl
 generalize w1.drew=w2 at s2 r2 l2 ⊢
 obtain ⟨o1,o2,o3,o4⟩:=ok
 simp (disch:=first|omega|exact zF rfl|exact zG rfl|exact fun h=>h|(simp only[zA,zB,zC,zD,bytesW];omega)) only[go_sem,c152D0,r2,Hd.enc]
 rw [wrap_u64_id (h.used:Int) (by omega) (by omega),wrap_u64_id (h.room:Int) (by omega) (by omega),wrap_u64_id (h.pages:Int) (by omega) (by omega)]
 refine Ret.mono (fixed_ok h.seq 8 w2 o1 (by omega)) ?_
 rintro _ w3 ⟨rfl,b3⟩
 simp (disch:=first|omega|exact zF rfl|exact zG rfl|exact fun h=>h|(simp only[zA,zB,zC,zD,bytesW];omega)) only[go_sem]
 refine ⟨Chg.of_below b3,Ret.mono (fixed_ok h.used 4 w3 (by omega) (by omega)) ?_⟩
 rintro _ w4 ⟨rfl,b4⟩
 have b4:=Below.next b3 b4
 simp (disch:=first|omega|exact zF rfl|exact zG rfl|exact fun h=>h|(simp only[zA,zB,zC,zD,bytesW];omega)) only[go_sem]
 refine ⟨Chg.of_below b4,by simp only [fixL_len]; omega,Ret.mono (fixed_ok h.room 4 w4 (by omega) (by omega)) ?_⟩
 rintro _ w5 ⟨rfl,b5⟩
 have b5:=Below.next b4 b5
 simp (disch:=first|omega|exact zF rfl|exact zG rfl|exact fun h=>h|(simp only[zA,zB,zC,zD,bytesW];omega)) only[go_sem]
 refine ⟨Chg.of_below b5,by simp only [List.length_append,fixL_len]; omega,Ret.mono (fixed_ok h.pages 4 w5 (by omega) (by omega)) ?_⟩
 rintro _ w6 ⟨rfl,b6⟩
 have b6:=Below.next b5 b6
 simp (disch:=first|omega|exact zF rfl|exact zG rfl|exact fun h=>h|(simp only[zA,zB,zC,zD,bytesW];omega)) only[go_sem]
 refine ⟨Chg.of_below b6,by simp only [List.length_append,fixL_len]; omega,Ret.mono (not_ok (head0 h) w6 (by rw [head0_len]; omega)) ?_⟩
 rintro _ w7 ⟨rfl,b7⟩
 have hl:=head0_len h
 simp (disch:=first|omega|exact zF rfl|exact zG rfl|exact fun h=>h|(simp only[zA,zB,zC,zD,bytesW];omega)) only[go_sem]
 refine ⟨?_,rfl,?_⟩
 ·rw [notL_len,hl]
  show ((head0 h).length:Int)+(20:Nat)≤_
  rw [hl]; omega
 ·rw [← hb]
  exact (s2.call (Below.next b6 b7)).bel
theorem readAt_ok(b:List UInt8)(y:Nat)(i j:Nat)(w:World)(hy:w.cell? ⟨y,0,none⟩=some (.string (ofL b)))(hj:j=i+4)(hi:j≤b.length)(hb:b.length≤1000) :
  Ret Tryz.prog 186 [.int .i64 i,.pointer (some ⟨y,0,none⟩)] w fun u w'=>u=.int .i64 (unfixL (cutL b i j))∧w'=w:=by
 refine ent186 _ _ _ _ ?_
 simp (disch:=first|omega|exact zF rfl|exact zG rfl|exact fun h=>h|(simp only[zA,zB,zC,zD,bytesW];omega)) only[go_sem,hy]
 subst hj
 have hc:(cutL b (i:Int) ((i:Int)+4)).length=4:=by
  unfold cutL; rw [List.length_drop,List.length_take]; omega
 refine ⟨⟨by omega,by omega⟩,⟨by omega,by omega,by omega⟩,Ret.mono (unfixed_ok _ w (by rw [hc]; omega)) ?_⟩
 rintro _ w2 ⟨rfl,e2⟩
 subst w2
 have hlt:=unfixL_lt (cutL b (i:Int) ((i:Int)+4))
 rw [hc] at hlt
 have hlt:unfixL (cutL b (i:Int) ((i:Int)+4))<4294967296:=hlt
 simp (disch:=first|omega|exact zF rfl|exact zG rfl|exact fun h=>h|(simp only[zA,zB,zC,zD,bytesW];omega)) only[go_sem]
 constructor <;> omega
theorem readHead_ok(b:List UInt8)(hb:b.length≤1000)(w:World):Ret Tryz.prog 154 [.string (ofL b)] w fun u w'=>u=.tuple #[.agg ((readHd b).getD hd0).enc.toArray,.bool (readHd b).isSome]∧Below w.heap.size w w':=by
 refine ent154 _ _ _ ?_
 have s1:=((St.start (W0:=w)).box #[.string (ofL b)] 9).box #[.int .u64 0,.int .i64 0,.int .i64 0,.int .i64 0] 160
 simp (disch:=first|omega|exact zF rfl|exact zG rfl|exact fun h=>h|(simp only[zA,zB,zC,zD,bytesW];omega)) only[go_sem]
 rw [World.size_alloc] at s1
 generalize hw:w.heap.size=y at s1 ⊢
 refine c154draw0 (Chg (fun _=>False) _) (Chg.refl _ _) ?_
 have s2:=s1.drew
 have r2:=s2.rules 1 rfl
 have l2:=s2.low 1 rfl
 generalize hw2:((w.alloc (.cells #[.string (ofL b)] 9)).alloc (.cells #[.int .u64 0,.int .i64 0,.int .i64 0,.int .i64 0] 160)).drew=w2 at s2 r2 l2 ⊢
 by_cases h40:b.length<40
 ·have h40':(b.length:Int)<40:=by omega
  have e0:readHd b=none:=by unfold readHd; rw [if_pos h40]
  have q2:=s2.rules 0 rfl
  simp (disch:=first|omega|exact zF rfl|exact zG rfl|exact fun h=>h|(simp only[zA,zB,zC,zD,bytesW];omega)) only[go_sem,c154D0,r2,h40',q2]
  refine bdW_built (cells:=#[.int .u64 0,.int .i64 0,.int .i64 0,.int .i64 0]) (by kernel_rfl) ?_
  simp (disch:=first|omega|exact zF rfl|exact zG rfl|exact fun h=>h|(simp only[zA,zB,zC,zD,bytesW];omega)) only[go_sem,q2]
  rw [e0]
  exact ⟨rfl,hw ▸ (s2.fill 0 rfl (cs:=#[.int .u64 0,.int .i64 0,.int .i64 0,.int .i64 0]) rfl).bel⟩
 ·have h40':¬ (b.length:Int)<40:=by omega
  simp (disch:=first|omega|exact zF rfl|exact zG rfl|exact fun h=>h|(simp only[zA,zB,zC,zD,bytesW];omega)) only[go_sem,c154D0,r2,h40']
  refine ⟨by omega,by omega,Ret.mono (not_ok (b.take 20) w2 (by rw [List.length_take]; omega)) ?_⟩
  rintro _ w3 ⟨rfl,b3⟩
  have s3:=s2.call b3
  have r3:=s3.rules 1 rfl
  have q3:=s3.rules 0 rfl
  by_cases hn:notL (b.take 20)=cutL b 20 40
  ·have e0:readHd b=some ⟨unfixL (b.take 8),unfixL (cutL b 8 12),unfixL (cutL b 12 16),unfixL (cutL b 16 20)⟩:=by unfold readHd; rw [if_neg h40,if_pos hn]
   rw [e0]
   simp (disch:=first|omega|exact zF rfl|exact zG rfl|exact fun h=>h|(simp only[zA,zB,zC,zD,bytesW];omega)) only[go_sem,c154D0,hn,r3]
   have l8:(b.take 8).length=8:=by rw [List.length_take]; omega
   have h8:=unfixL_lt (b.take 8)
   rw [l8] at h8
   have h8:unfixL (b.take 8)<18446744073709551616:=h8
   refine ⟨Chg.of_below b3,by omega,Ret.mono (unfixed_ok (b.take 8) w3 (by omega)) ?_⟩
   rintro _ w4 ⟨rfl,e4⟩
   subst w4
   have hy:w3.cell? ⟨y,0,none⟩=some (.string (ofL b)):=(s3.blk 1 rfl).cell 0
   simp (disch:=first|omega|exact zF rfl|exact zG rfl|exact fun h=>h|(simp only[zA,zB,zC,zD,bytesW];omega)) only[go_sem]
   refine callW_go ⟨by kernel_rfl,Ret.mono (readAt_ok b y 8 12 w3 hy rfl (by omega) hb) ?_⟩
   rintro _ w4 ⟨rfl,e4⟩
   subst w4
   simp (disch:=first|omega|exact zF rfl|exact zG rfl|exact fun h=>h|(simp only[zA,zB,zC,zD,bytesW];omega)) only[go_sem]
   refine callW_go ⟨by kernel_rfl,Ret.mono (readAt_ok b y 12 16 w3 hy rfl (by omega) hb) ?_⟩
   rintro _ w4 ⟨rfl,e4⟩
   subst w4
   simp (disch:=first|omega|exact zF rfl|exact zG rfl|exact fun h=>h|(simp only[zA,zB,zC,zD,bytesW];omega)) only[go_sem]
   refine callW_go ⟨by kernel_rfl,Ret.mono (readAt_ok b y 16 20 w3 hy rfl (by omega) hb) ?_⟩
   rintro _ w4 ⟨rfl,e4⟩
   subst w4
   simp (disch:=first|omega|exact zF rfl|exact zG rfl|exact fun h=>h|(simp only[zA,zB,zC,zD,bytesW];omega)) only[go_sem]
   refine bdW_built (cells:=(Hd.mk (unfixL (b.take 8)) (unfixL (cutL b 8 12)) (unfixL (cutL b 12 16)) (unfixL (cutL b 16 20))).enc.toArray) (by kernel_rfl) ?_
   simp (disch:=first|omega|exact zF rfl|exact zG rfl|exact fun h=>h|(simp only[zA,zB,zC,zD,bytesW];omega)) only[go_sem,q3,Hd.enc]
   exact ⟨rfl,hw ▸ (s3.fill 0 rfl (cs:=(Hd.mk (unfixL (b.take 8)) (unfixL (cutL b 8 12)) (unfixL (cutL b 12 16)) (unfixL (cutL b 16 20))).enc.toArray) rfl).bel⟩
  ·have e0:readHd b=none:=by unfold readHd; rw [if_neg h40,if_neg hn]
   rw [e0]
   simp (disch:=first|omega|exact zF rfl|exact zG rfl|exact fun h=>h|(simp only[zA,zB,zC,zD,bytesW];omega)) only[go_sem,c154D0,hn,r3]
   refine ⟨Chg.of_below b3,bdW_built (cells:=#[.int .u64 0,.int .i64 0,.int .i64 0,.int .i64 0]) (by kernel_rfl) ?_⟩
   simp (disch:=first|omega|exact zF rfl|exact zG rfl|exact fun h=>h|(simp only[zA,zB,zC,zD,bytesW];omega)) only[go_sem,q3]
   exact ⟨rfl,hw ▸ (s3.fill 0 rfl (cs:=#[.int .u64 0,.int .i64 0,.int .i64 0,.int .i64 0]) rfl).bel⟩
open Go Go.Ann Go.RowKit Go.WideShapes
def intK(n:Int):Value:=.int .i64 n
def strK(l:List UInt8):Value:=.string (ofL l)
structure Sto where
 hd:Hd
 dirty:List (Int × List UInt8 × Nat)
 clock:Nat
 dead:Bool
 disk:Dk
def StoH(b mb g:Nat)(s:Sto):List Res :=
 [.blk b #[.pointer (some ⟨g,0,none⟩),.int .u64 s.hd.seq,.int .i64 s.hd.used,.int .i64 s.hd.room,.int .i64 s.hd.pages,.map (some mb),.bool s.dead] 165,.obj mb (mapG intK strK s.dirty s.clock)]
def StoL(b mb g:Nat)(vb vl:Value)(s:Sto):List Res:=StoH b mb g s++DkL g vb vl s.disk
theorem sto_disk{W0 w:World}{F:Nat→Prop}{L:List Res}{I:List Inv}{b mb g:Nat}{vb vl:Value}{s:Sto}(h:St W0 w F (StoL b mb g vb vl s++L) I):St W0 w F (DkL g vb vl s.disk++(StoH b mb g s++L)) I :=
 St.front (A:=StoH b mb g s) (D:=DkL g vb vl s.disk) (L:=L) (by rw [← List.append_assoc]; exact h)
structure Sto.ok(s:Sto):Prop where
 hd:s.hd.ok
 disk:s.disk.ok
 room:1≤s.hd.room
 pages:1≤s.hd.pages
 few:s.hd.pages≤1024
 fit:2+s.hd.room+s.hd.pages≤s.disk.safe.length
 keys:∀ x∈s.dirty,0≤x.1∧x.1<s.hd.pages∧x.2.1.length=256
 nd:(s.dirty.map Prod.fst).Nodup
 born:(s.dirty.map fun x=>x.2.2).Nodup
 clock:∀ x∈s.dirty,x.2.2<s.clock
theorem keyT_n:KeyT Tryz.prog 3 intK (.int .i64):=keyT_int Tryz.underlying3
section
variable {W0 w:World} {F:Nat→Prop} {L:List Res} {I:List Inv} {b mb g:Nat} {vb vl:Value} {s:Sto}
def stReady(s:Sto)(i:Int):Int:=if s.dead=true then 11 else if 0≤i∧i<s.hd.pages then 0 else 10
theorem sready_ok(i:Int)(h:St W0 w F (StoL b mb g vb vl s++L) I) :
  Ret Tryz.prog 159 [.pointer (some ⟨b,0,none⟩),.int .i64 i] w fun u w'=>u=.int .i64 (stReady s i)∧w'=w:=by
 refine ent159 _ _ _ _ ?_
 have r1:=h.rules 0 rfl
 simp (disch:=first|omega|exact zF rfl|exact zG rfl|exact fun h=>h|(simp only[zA,zB,zC,zD,bytesW];omega)) only[go_sem,r1]
 unfold stReady
 refine ⟨fun hg=>?_,fun hg=>?_⟩
 ·rw [if_pos hg]
 ·rw [if_neg (by rw [hg]; decide)]
  by_cases h0:0≤i
  ·by_cases h1:i<s.hd.pages
   ·rw [if_pos ⟨h0,h1⟩]
    exact ⟨fun _=>⟨fun h=>by omega,fun _=>rfl⟩,fun h=>by omega⟩
   ·rw [if_neg (by omega)]
    exact ⟨fun _=>⟨fun _=>rfl,fun h=>by omega⟩,fun h=>by omega⟩
  ·rw [if_neg (by omega)]
   exact ⟨fun h=>by omega,fun _=>rfl⟩
theorem stReady_in{i:Int}(h:stReady s i=0):0≤i∧i<s.hd.pages∧s.dead=false:=by
 unfold stReady at h
 split at h
 ·cases h
 ·rename_i hd
  split at h
  ·rename_i h2
   exact ⟨h2.1,h2.2,by simpa using hd⟩
  ·cases h
theorem slen_ok(h:St W0 w F (StoL b mb g vb vl s++L) I) :
  Ret Tryz.prog 47 [.pointer (some ⟨b,0,none⟩)] w fun u w'=>u=.int .i64 s.hd.pages∧w'=w:=by
 refine ent47 _ _ _ ?_
 have r1:=h.rules 0 rfl
 simp (disch:=first|omega|exact zF rfl|exact zG rfl|exact fun h=>h|(simp only[zA,zB,zC,zD,bytesW];omega)) only[go_sem,r1]
def homeN(s:Sto)(i:Int):Int:=2+s.hd.room+i
def stRead(s:Sto)(i:Int):Sto × List UInt8 × Int :=
 if stReady s i≠0 then (s,[],stReady s i) else
 match getM i s.dirty with
 | some x=>(s,x,0)
 | none=>(if (readN s.disk (homeN s i)).2=0 then s else { s with dead:=true },readN s.disk (homeN s i))
theorem sread_ok(i:Int)(h:St W0 w F (StoL b mb g vb vl s++L) I)(ok:s.ok) :
  Ret Tryz.prog 112 [.pointer (some ⟨b,0,none⟩),.int .i64 i] w fun u w'=>u=.tuple #[.string (ofL (stRead s i).2.1),.int .i64 (stRead s i).2.2]∧St W0 w' F (StoL b mb g vb vl (stRead s i).1++L) I:=by
 refine ent112 _ _ _ _ ?_
 simp (disch:=first|omega|exact zF rfl|exact zG rfl|exact fun h=>h|(simp only[zA,zB,zC,zD,bytesW];omega)) only[go_sem]
 refine Ret.mono (sready_ok i h) ?_
 rintro _ w2 ⟨rfl,e2⟩
 subst w2
 unfold stRead
 by_cases hr:stReady s i=0
 case neg =>
  rw [if_pos hr]
  simp (disch:=first|omega|exact zF rfl|exact zG rfl|exact fun h=>h|(simp only[zA,zB,zC,zD,bytesW];omega)) only[go_sem,hr]
  exact h
 rw [if_neg (by omega)]
 have r1:=h.rules 0 rfl
 simp (disch:=first|omega|exact zF rfl|exact zG rfl|exact fun h=>h|(simp only[zA,zB,zC,zD,bytesW];omega)) only[go_sem,hr,r1]
 refine luG_map (ek:=intK) (ev:=strK) keyT_n Tryz.underlying163 (h.obj 1 rfl) i (by rfl) ?_
 cases hg:getM i s.dirty with
 | some x =>
  simp (disch:=first|omega|exact zF rfl|exact zG rfl|exact fun h=>h|(simp only[zA,zB,zC,zD,bytesW];omega)) only[go_sem,luG]
  exact ⟨rfl,h⟩
 | none =>
  simp (disch:=first|omega|exact zF rfl|exact zG rfl|exact fun h=>h|(simp only[zA,zB,zC,zD,bytesW];omega)) only[go_sem,luG]
  refine c112draw0 (Chg (fun _=>False) _) (Chg.refl _ _) ?_
  have h2:=h.drew
  have r2:=h2.rules 0 rfl
  have l2:=h2.low 0 rfl
  generalize w.drew=w2 at h2 r2 l2 ⊢
  have hin:=stReady_in hr
  have hp:=ok.few
  have hf:=ok.fit
  have hs:=ok.disk.few
  simp (disch:=first|omega|exact zF rfl|exact zG rfl|exact fun h=>h|(simp only[zA,zB,zC,zD,bytesW];omega)) only[go_sem,c112D0,r2]
  refine ⟨by constructor <;> omega,by constructor <;> omega,Ret.mono (read_ok (2+(s.hd.room:Int)+i) (sto_disk h2) ok.disk) ?_⟩
  rintro _ w3 ⟨rfl,b3⟩
  have h3:=h2.call b3
  have r3:=h3.rules 0 rfl
  rw [show (2+(s.hd.room:Int)+i)=homeN s i from rfl]
  by_cases he:(readN s.disk (homeN s i)).2=0
  ·rw [if_pos he]
   simp (disch:=first|omega|exact zF rfl|exact zG rfl|exact fun h=>h|(simp only[zA,zB,zC,zD,bytesW];omega)) only[go_sem,he]
   exact h3
  ·rw [if_neg he]
   simp (disch:=first|omega|exact zF rfl|exact zG rfl|exact fun h=>h|(simp only[zA,zB,zC,zD,bytesW];omega)) only[go_sem,he,r3]
   exact h3.set 0 rfl 6 (.bool true)
def stWrite(s:Sto)(i:Int)(data:List UInt8):Sto × Int :=
 if stReady s i≠0 then (s,stReady s i) else if 256<data.length then (s,21) else
 ({ s with dirty:=setM i (filledL data) s.clock s.dirty,clock:=if (getM i s.dirty).isSome then s.clock else s.clock+1 },0)
theorem swrite_ok(i:Int)(data:List UInt8)(h:St W0 w F (StoL b mb g vb vl s++L) I) :
  Ret Tryz.prog 132 [.pointer (some ⟨b,0,none⟩),.int .i64 i,.string (ofL data)] w fun u w'=>u=.int .i64 (stWrite s i data).2∧St W0 w' F (StoL b mb g vb vl (stWrite s i data).1++L) I:=by
 refine ent132 _ _ _ _ _ ?_
 simp (disch:=first|omega|exact zF rfl|exact zG rfl|exact fun h=>h|(simp only[zA,zB,zC,zD,bytesW];omega)) only[go_sem]
 refine Ret.mono (sready_ok i h) ?_
 rintro _ w2 ⟨rfl,e2⟩
 subst w2
 unfold stWrite
 by_cases hr:stReady s i=0
 case neg =>
  rw [if_pos hr]
  simp (disch:=first|omega|exact zF rfl|exact zG rfl|exact fun h=>h|(simp only[zA,zB,zC,zD,bytesW];omega)) only[go_sem,hr]
  exact h
 rw [if_neg (by omega)]
 by_cases hd:256<data.length
 ·have hd':(256:Int)<data.length:=by omega
  rw [if_pos hd]
  simp (disch:=first|omega|exact zF rfl|exact zG rfl|exact fun h=>h|(simp only[zA,zB,zC,zD,bytesW];omega)) only[go_sem,hr,hd']
  exact h
 have hd':¬ (256:Int)<data.length:=by omega
 rw [if_neg hd]
 simp (disch:=first|omega|exact zF rfl|exact zG rfl|exact fun h=>h|(simp only[zA,zB,zC,zD,bytesW];omega)) only[go_sem,hr,hd']
 refine c132draw0 (Chg (fun _=>False) _) (Chg.refl _ _) ?_
 have h2:=h.drew
 have r2:=h2.rules 0 rfl
 have l2:=h2.low 0 rfl
 generalize w.drew=w2 at h2 r2 l2 ⊢
 simp (disch:=first|omega|exact zF rfl|exact zG rfl|exact fun h=>h|(simp only[zA,zB,zC,zD,bytesW];omega)) only[go_sem,c132D0,r2]
 refine ⟨by constructor <;> omega,msW_one ty181mkI rfl (by omega) (by omega) (by omega) (by omega) ?_⟩
 have e:((256:Int) - (data.length:Int)).toNat=256 - data.length:=by omega
 rw [e]
 have h3:=h2.alloc' (.cells (zerosA (.int .u8 0) (256 - data.length)) 5)
 have hat:bytesAt (w2.alloc (.cells (zerosA (.int .u8 0) (256 - data.length)) 5)) (some ⟨w2.heap.size,0,none⟩) (List.replicate (256 - data.length) 0):=bytesAt_zeros w2 (256 - data.length) _
 have ch:Chg (fun _=>False) w2 (w2.alloc (.cells (zerosA (.int .u8 0) (256 - data.length)) 5)):=(Chg.refl _ _).alloc _
 generalize w2.alloc (.cells (zerosA (.int .u8 0) (256 - data.length)) 5)=w3 at h3 hat ch ⊢
 simp (disch:=first|omega|exact zF rfl|exact zG rfl|exact fun h=>h|(simp only[zA,zB,zC,zD,bytesW];omega)) only[go_sem]
 refine ⟨ch,_,List.length_replicate,hat,ch,by rw [List.length_replicate]; omega,?_⟩
 refine muG_map (ek:=intK) (ev:=strK) keyT_n Tryz.underlying163 (fun a=>by simp [Instr.sameBits,intK]) (h3.obj 1 rfl) i (filledL data) ?_
 simp (disch:=first|omega|exact zF rfl|exact zG rfl|exact fun h=>h|(simp only[zA,zB,zC,zD,bytesW];omega)) only[go_sem]
 exact h3.putObj 1 rfl (mapG intK strK (setM i (filledL data) s.clock s.dirty) (if (getM i s.dirty).isSome then s.clock else s.clock+1))
end
open Go Go.Ann Go.RowKit Go.WideShapes
section
variable {W0 w:World} {F:Nat→Prop} {L:List Res} {I:List Inv} {g:Nat} {vb vl:Value} {m:Dk}
theorem emod2(n:Nat):((n:Int).tmod 2)=((n % 2:Nat):Int):=rfl
def putN(m:Dk)(h:Hd):Dk × Int:=if (writeN m (h.seq % 2:Nat) (headL h)).2≠0 then writeN m (h.seq % 2:Nat) (headL h) else flushN (writeN m (h.seq % 2:Nat) (headL h)).1
theorem put_ok(hd:Hd)(hh:hd.ok)(h:St W0 w F (DkL g vb vl m++L) I)(ok:m.ok)(hless:m.late.length<1000000) :
  Ret Tryz.prog 108 [.pointer (some ⟨g,0,none⟩),.agg hd.enc.toArray] w fun u w'=>u=.int .i64 (putN m hd).2∧∃ vl',St W0 w' F (DkL g vb vl' (putN m hd).1++L) I:=by
 refine ent108 _ _ _ _ ?_
 have s1:=h.box hd.enc.toArray 160
 simp (disch:=first|omega|exact zF rfl|exact zG rfl|exact fun h=>h|(simp only[zA,zB,zC,zD,bytesW];omega)) only[go_sem]
 generalize w.heap.size=y at s1 ⊢
 generalize w.alloc (.cells hd.enc.toArray 160)=w1 at s1 ⊢
 refine c108draw0 (Same (fun k=>k=y) _) (Same.refl _ _) ?_
 have s2:=s1.drew
 have r2:=s2.rules 0 rfl
 have l2:=s2.low 0 rfl
 generalize w1.drew=w2 at s2 r2 l2 ⊢
 have hseq:=hh.seq
 simp (disch:=first|omega|exact zF rfl|exact zG rfl|exact fun h=>h|(simp only[zA,zB,zC,zD,bytesW];omega)) only[go_sem,c108D0,r2,Hd.enc,emod2]
 refine ⟨by constructor <;> omega,Same.refl _ _,Ret.mono (writeHead_ok hd hh w2) ?_⟩
 rintro _ w3 ⟨rfl,b3⟩
 have s3:=s2.call b3
 have same:∀ w',Blk w' y hd.enc.toArray 160→Same (fun k=>k=y) w2 w':=fun w' hb k hk=>by subst hk; exact hb.trans (s2.blk 0 rfl).symm
 simp (disch:=first|omega|exact zF rfl|exact zG rfl|exact fun h=>h|(simp only[zA,zB,zC,zD,bytesW];omega)) only[go_sem]
 refine ⟨same _ (s3.blk 0 rfl),Ret.mono (write_ok ((hd.seq % 2:Nat):Int) (headL hd) (St.front (A:=[_]) (D:=DkL g vb vl m) (L:=L) s3) ok hless) ?_⟩
 rintro _ w4 ⟨rfl,vl',s4⟩
 have ok4:=writeN_ok ok hless ((hd.seq % 2:Nat):Int) (headL hd)
 have s4':=St.front (A:=DkL g vb vl' _) (D:=[.blk y hd.enc.toArray 160]) (L:=L) s4
 have sm:=same _ (s4'.blk 0 rfl)
 have s4:=s4'.sub (List.sublist_cons_self _ _)
 unfold putN
 by_cases he:(writeN m ((hd.seq % 2:Nat):Int) (headL hd)).2=0
 case neg =>
  rw [if_pos he]
  simp (disch:=first|omega|exact zF rfl|exact zG rfl|exact fun h=>h|(simp only[zA,zB,zC,zD,bytesW];omega)) only[go_sem,he]
  exact ⟨sm,vl',s4⟩
 rw [if_neg (by omega)]
 simp (disch:=first|omega|exact zF rfl|exact zG rfl|exact fun h=>h|(simp only[zA,zB,zC,zD,bytesW];omega)) only[go_sem,he]
 refine ⟨sm,Ret.mono (flush_ok s4 ok4) ?_⟩
 rintro _ w5 ⟨rfl,vl2,s5⟩
 simp (disch:=first|omega|exact zF rfl|exact zG rfl|exact fun h=>h|(simp only[zA,zB,zC,zD,bytesW];omega)) only[go_sem]
 exact ⟨vl2,s5⟩
def blkN(m:Dk)(i:Nat):List UInt8:=lastL m.late i (m.safe.getD i [])
def fitsH(m:Dk)(h:Hd):Bool:=decide (1≤h.room∧1≤h.pages∧h.pages≤1024∧h.used≤h.room∧h.room≤m.safe.length∧2+h.room+h.pages≤m.safe.length)
def candH(m:Dk)(i:Nat)(seq:Nat):Option Hd:=match readHd (blkN m i) with
 | some h=>if fitsH m h=true∧seq<h.seq∧h.seq % 2=i then some h else none
 | none=>none
def bestN(m:Dk):Nat→Option Hd
 | 0=>none
 | i+1=>match candH m i ((bestN m i).getD hd0).seq with
  | some h=>some h
  | none=>bestN m i
def newestH(m:Dk):Option Hd:=bestN m 2
theorem lastL_256{l:List (Int × List UInt8)}{i:Int}{s:List UInt8}(h:s.length=256)(hl:∀ x∈l,x.2.length=256):(lastL l i s).length=256:=by
 unfold lastL
 induction l generalizing s with
 | nil=>exact h
 | cons x l ih =>
  rw [List.foldl_cons]
  refine ih ?_ fun y hy=>hl y (List.mem_cons_of_mem _ hy)
  split
  ·exact hl x (List.mem_cons_self ..)
  ·exact h
theorem newest_ok(h:St W0 w F (DkL g vb vl m++L) I)(ok:m.ok)(hg:m.gone=false)(h2:2≤m.safe.length) :
  Ret Tryz.prog 109 [.pointer (some ⟨g,0,none⟩)] w fun u w'=>(match newestH m with
   | some hd=>u=.tuple #[.agg hd.enc.toArray,.int .i64 0]
   | none=>u=.tuple #[.agg hd0.enc.toArray,.int .i64 14])∧Below w.heap.size w w':=by
 refine ent109 _ _ _ ?_
 have s1:=((St.start (W0:=w)).box #[.int .u64 0,.int .i64 0,.int .i64 0,.int .i64 0] 160).box #[.int .u64 0,.int .i64 0,.int .i64 0,.int .i64 0] 160
 simp (disch:=first|omega|exact zF rfl|exact zG rfl|exact fun h=>h|(simp only[zA,zB,zC,zD,bytesW];omega)) only[go_sem]
 rw [World.size_alloc] at s1
 have hsz:=h.size
 generalize hy:w.heap.size=y at s1 ⊢
 generalize ((w.alloc (.cells #[.int .u64 0,.int .i64 0,.int .i64 0,.int .i64 0] 160)).alloc (.cells #[.int .u64 0,.int .i64 0,.int .i64 0,.int .i64 0] 160))=w1 at s1 ⊢
 refine W_loopU (fun k:Nat=>[(5,.bool (bestN m k).isSome),(12,.int .i64 k)]) (fun k w'=>k≤2∧St w w' (fun _=>False) [.blk (y+1) ((bestN m k).getD hd0).enc.toArray 160,.blk y hd0.enc.toArray 160] []) (fun k=>2 - k) 0 rfl ⟨by omega,s1⟩ ?_
 rintro k w2 ⟨hk,s2⟩
 by_cases hlt:k<2
 ·have hlt':(k:Int)<2:=by omega
  simp (disch:=first|omega|exact zF rfl|exact zG rfl|exact fun h=>h|(simp only[zA,zB,zC,zD,bytesW];omega)) only[go_sem,c109L0,c109L0,hlt']
  refine Ret.mono (read_ok (k:Int) (h.below s2.bel (by omega)) ok) ?_
  rintro _ w3 ⟨rfl,b3⟩
  have s3:=s2.call b3
  have er:readN m (k:Int)=(blkN m k,0):=by
   have e0:readyN m (k:Int)=0:=by
    unfold readyN
    rw [if_neg (by rw [hg]; decide),if_pos (by omega)]
   unfold readN
   rw [if_pos e0]
   rfl
  rw [er]
  simp (disch:=first|omega|exact zF rfl|exact zG rfl|exact fun h=>h|(simp only[zA,zB,zC,zD,bytesW];omega)) only[go_sem,c109L0]
  have hbl:(blkN m k).length≤1000:=by
   unfold blkN
   have h1:(m.safe.getD k []).length=256:=by
    rw [List.getD_eq_getElem?_getD,List.getElem?_eq_getElem (by omega)]
    exact ok.safe _ (List.getElem_mem _)
   have:=lastL_256 (i:=(k:Int)) h1 (fun x hx=>(ok.late x hx).2.2)
   omega
  refine Ret.mono (readHead_ok (blkN m k) hbl w3) ?_
  rintro _ w4 ⟨rfl,b4⟩
  have s4:=s3.call b4
  simp (disch:=first|omega|exact zF rfl|exact zG rfl|exact fun h=>h|(simp only[zA,zB,zC,zD,bytesW];omega)) only[go_sem,c109L0]
  generalize hrd:readHd (blkN m k)=rd
  generalize hq:rd.getD hd0=q
  have s5:=s4.box q.enc.toArray 160
  simp (disch:=first|omega|exact zF rfl|exact zG rfl|exact fun h=>h|(simp only[zA,zB,zC,zD,bytesW];omega)) only[go_sem,c109L0,Hd.enc]
  have hz:y+1<w4.heap.size:=(s4.low 0 rfl).2
  generalize w4.heap.size=z at s5 hz ⊢
  refine c109draw0 (Chg (fun _=>False) _) (Chg.refl _ _) ?_
  have s6:=s5.drew
  have s6:St w ((w4.alloc (.cells #[.int .u64 q.seq,.int .i64 q.used,.int .i64 q.room,.int .i64 q.pages] 160)).drew) (fun _=>False) [.blk z #[.int .u64 q.seq,.int .i64 q.used,.int .i64 q.room,.int .i64 q.pages] 160,.blk (y+1) #[.int .u64 ((bestN m k).getD hd0).seq,.int .i64 ((bestN m k).getD hd0).used,.int .i64 ((bestN m k).getD hd0).room,.int .i64 ((bestN m k).getD hd0).pages] 160,.blk y hd0.enc.toArray 160] []:=s6
  generalize (w4.alloc (.cells #[.int .u64 q.seq,.int .i64 q.used,.int .i64 q.room,.int .i64 q.pages] 160)).drew=w6 at s6 ⊢
  have r6:=s6.rules 0 rfl
  have q6:=s6.rules 1 rfl
  have l6:=s6.low 0 rfl
  have stay:bestN m (k+1)=bestN m k→∀ w',Below w6.heap.size w6 w'→k+1≤2∧St w w' (fun _=>False) [.blk (y+1) #[.int .u64 ((bestN m (k+1)).getD hd0).seq,.int .i64 ((bestN m (k+1)).getD hd0).used,.int .i64 ((bestN m (k+1)).getD hd0).room,.int .i64 ((bestN m (k+1)).getD hd0).pages] 160,.blk y #[.int .u64 hd0.seq,.int .i64 hd0.used,.int .i64 hd0.room,.int .i64 hd0.pages] 160] []:=fun e w' hb=>by
   rw [e]; exact ⟨by omega,(s6.call hb).sub (List.sublist_cons_self _ _)⟩
  cases rd with
  | none =>
   obtain rfl:q=hd0:=hq.symm
   have e1:bestN m (k+1)=bestN m k:=by
    have:∀ n,candH m k n=none:=fun n=>by unfold candH; rw [hrd]
    simp only [bestN,this]
   have c1:¬ (1:Int)≤(hd0.room:Nat):=by decide
   simp (disch:=first|omega|exact zF rfl|exact zG rfl|exact fun h=>h|(simp only[zA,zB,zC,zD,bytesW];omega)) only[go_sem,c109L0,c109D0,r6,q6,c1]
   exact ⟨fun h=>absurd h (by decide),fun _=>⟨⟨by omega,by omega⟩,k+1,by rw [e1]; rfl,stay e1 _ (Below.refl _ _),by omega⟩⟩
  | some hd =>
   obtain rfl:q=hd:=hq.symm
   have e1:fitsH m q=false→bestN m (k+1)=bestN m k:=fun hf=>by
    have:∀ n,candH m k n=none:=fun n=>by unfold candH; rw [hrd]; simp only [hf]; rfl
    simp only [bestN,this]
   have hfits:∀ b:Bool,(b=true↔(1≤q.room∧1≤q.pages∧q.pages≤1024∧q.used≤q.room∧q.room≤m.safe.length∧2+q.room+q.pages≤m.safe.length))→fitsH m q=b:=fun b hb=>by
    unfold fitsH; rw [Bool.eq_iff_iff,decide_eq_true_eq]; exact hb.symm
   have hb6:=h.below s6.bel (by omega)
   have hfew:=ok.few
   by_cases c1:1≤q.room
   case neg =>
    have d1:¬ (1:Int)≤q.room:=by omega
    have e2:=e1 (hfits false (by simp only [Bool.false_eq_true,false_iff]; omega))
    simp (disch:=first|omega|exact zF rfl|exact zG rfl|exact fun h=>h|(simp only[zA,zB,zC,zD,bytesW];omega)) only[go_sem,c109L0,c109D0,r6,q6,d1]
    exact ⟨fun _=>⟨⟨by omega,by omega⟩,k+1,by rw [e2]; rfl,stay e2 _ (Below.refl _ _),by omega⟩,fun _=>⟨⟨by omega,by omega⟩,k+1,by rw [e2]; rfl,stay e2 _ (Below.refl _ _),by omega⟩⟩
   have d1:(1:Int)≤q.room:=by omega
   by_cases c2:1≤q.pages
   case neg =>
    have d2:¬ (1:Int)≤q.pages:=by omega
    have e2:=e1 (hfits false (by simp only [Bool.false_eq_true,false_iff]; omega))
    simp (disch:=first|omega|exact zF rfl|exact zG rfl|exact fun h=>h|(simp only[zA,zB,zC,zD,bytesW];omega)) only[go_sem,c109L0,c109D0,r6,q6,d1,d2]
    exact ⟨fun _=>⟨⟨by omega,by omega⟩,k+1,by rw [e2]; rfl,stay e2 _ (Below.refl _ _),by omega⟩,fun _=>⟨⟨by omega,by omega⟩,k+1,by rw [e2]; rfl,stay e2 _ (Below.refl _ _),by omega⟩⟩
   have d2:(1:Int)≤q.pages:=by omega
   by_cases c3:q.pages≤1024
   case neg =>
    have d3:¬ (q.pages:Int)≤1024:=by omega
    have e2:=e1 (hfits false (by simp only [Bool.false_eq_true,false_iff]; omega))
    simp (disch:=first|omega|exact zF rfl|exact zG rfl|exact fun h=>h|(simp only[zA,zB,zC,zD,bytesW];omega)) only[go_sem,c109L0,c109D0,r6,q6,d1,d2,d3]
    exact ⟨fun _=>⟨⟨by omega,by omega⟩,k+1,by rw [e2]; rfl,stay e2 _ (Below.refl _ _),by omega⟩,fun _=>⟨⟨by omega,by omega⟩,k+1,by rw [e2]; rfl,stay e2 _ (Below.refl _ _),by omega⟩⟩
   have d3:(q.pages:Int)≤1024:=by omega
   by_cases c4:q.used≤q.room
   case neg =>
    have d4:¬ (q.used:Int)≤q.room:=by omega
    have e2:=e1 (hfits false (by simp only [Bool.false_eq_true,false_iff]; omega))
    simp (disch:=first|omega|exact zF rfl|exact zG rfl|exact fun h=>h|(simp only[zA,zB,zC,zD,bytesW];omega)) only[go_sem,c109L0,c109D0,r6,q6,d1,d2,d3,d4]
    exact ⟨fun _=>⟨⟨by omega,by omega⟩,k+1,by rw [e2]; rfl,stay e2 _ (Below.refl _ _),by omega⟩,fun _=>⟨⟨by omega,by omega⟩,k+1,by rw [e2]; rfl,stay e2 _ (Below.refl _ _),by omega⟩⟩
   have d4:(q.used:Int)≤q.room:=by omega
   by_cases c5:q.room≤m.safe.length
   case neg =>
    have d5:¬ (q.room:Int)≤m.safe.length:=by omega
    have e2:=e1 (hfits false (by simp only [Bool.false_eq_true,false_iff]; omega))
    simp (disch:=first|omega|exact zF rfl|exact zG rfl|exact fun h=>h|(simp only[zA,zB,zC,zD,bytesW];omega)) only[go_sem,c109L0,c109D0,r6,q6,d1,d2,d3,d4,d5]
    refine Ret.mono (len_ok hb6 ok) ?_
    rintro _ w7 ⟨rfl,e7⟩
    subst w7
    simp (disch:=first|omega|exact zF rfl|exact zG rfl|exact fun h=>h|(simp only[zA,zB,zC,zD,bytesW];omega)) only[go_sem,c109L0,c109D0,r6,q6,d1,d2,d3,d4,d5]
    exact ⟨fun _=>⟨⟨by omega,by omega⟩,k+1,by rw [e2]; rfl,stay e2 _ (Below.refl _ _),by omega⟩,fun _=>⟨⟨by omega,by omega⟩,k+1,by rw [e2]; rfl,stay e2 _ (Below.refl _ _),by omega⟩⟩
   have d5:(q.room:Int)≤m.safe.length:=by omega
   by_cases c6:2+q.room+q.pages≤m.safe.length
   case neg =>
    have d6:¬ 2+(q.room:Int)+q.pages≤m.safe.length:=by omega
    have e2:=e1 (hfits false (by simp only [Bool.false_eq_true,false_iff]; omega))
    simp (disch:=first|omega|exact zF rfl|exact zG rfl|exact fun h=>h|(simp only[zA,zB,zC,zD,bytesW];omega)) only[go_sem,c109L0,c109D0,r6,q6,d1,d2,d3,d4,d5,d6]
    refine Ret.mono (len_ok hb6 ok) ?_
    rintro _ w7 ⟨rfl,e7⟩
    subst w7
    simp (disch:=first|omega|exact zF rfl|exact zG rfl|exact fun h=>h|(simp only[zA,zB,zC,zD,bytesW];omega)) only[go_sem,c109L0,c109D0,r6,q6,d1,d2,d3,d4,d5,d6]
    refine ⟨⟨by omega,by omega⟩,⟨by omega,by omega⟩,Ret.mono (len_ok hb6 ok) ?_⟩
    rintro _ w7 ⟨rfl,e7⟩
    subst w7
    simp (disch:=first|omega|exact zF rfl|exact zG rfl|exact fun h=>h|(simp only[zA,zB,zC,zD,bytesW];omega)) only[go_sem,c109L0,c109D0,r6,q6,d1,d2,d3,d4,d5,d6]
    exact ⟨fun _=>⟨⟨by omega,by omega⟩,k+1,by rw [e2]; rfl,stay e2 _ (Below.refl _ _),by omega⟩,fun _=>⟨⟨by omega,by omega⟩,k+1,by rw [e2]; rfl,stay e2 _ (Below.refl _ _),by omega⟩⟩
   have d6:2+(q.room:Int)+q.pages≤m.safe.length:=by omega
   simp (disch:=first|omega|exact zF rfl|exact zG rfl|exact fun h=>h|(simp only[zA,zB,zC,zD,bytesW];omega)) only[go_sem,c109L0,c109D0,r6,q6,d1,d2,d3,d4,d5,d6]
   refine Ret.mono (len_ok hb6 ok) ?_
   rintro _ w7 ⟨rfl,e7⟩
   subst w7
   simp (disch:=first|omega|exact zF rfl|exact zG rfl|exact fun h=>h|(simp only[zA,zB,zC,zD,bytesW];omega)) only[go_sem,c109L0,c109D0,r6,q6,d1,d2,d3,d4,d5,d6]
   refine ⟨⟨by omega,by omega⟩,⟨by omega,by omega⟩,Ret.mono (len_ok hb6 ok) ?_⟩
   rintro _ w7 ⟨rfl,e7⟩
   subst w7
   simp (disch:=first|omega|exact zF rfl|exact zG rfl|exact fun h=>h|(simp only[zA,zB,zC,zD,bytesW];omega)) only[go_sem,c109L0,c109D0,r6,q6,d1,d2,d3,d4,d5,d6]
   have hf:fitsH m q=true:=hfits true (by simp only [true_iff]; omega)
   have eC:candH m k ((bestN m k).getD hd0).seq=if fitsH m q=true∧((bestN m k).getD hd0).seq<q.seq∧q.seq % 2=k then some q else none:=by unfold candH; rw [hrd]
   refine ⟨fun _=>⟨fun h1=>⟨by rw [emod2]; constructor <;> omega,fun h2=>?_,fun h2=>?_⟩,fun h1=>?_⟩,fun h=>absurd h (by simp)⟩
   ·rw [emod2] at h2
    have e2:bestN m (k+1)=some q:=by
     simp only [bestN]
     rw [eC,if_pos ⟨hf,by omega,by omega⟩]
    refine ⟨⟨by omega,by omega⟩,k+1,by rw [e2]; rfl,⟨by omega,?_⟩,by omega⟩
    rw [e2]
    exact ((s6.fill 1 rfl (cs:=#[.int .u64 q.seq,.int .i64 q.used,.int .i64 q.room,.int .i64 q.pages]) rfl)).sub (List.sublist_cons_self _ _)
   ·rw [emod2] at h2
    have e2:bestN m (k+1)=bestN m k:=by
     simp only [bestN]
     rw [eC,if_neg (fun hh=>h2 (by rw [hh.2.2]))]
    exact ⟨⟨by omega,by omega⟩,k+1,by rw [e2]; rfl,stay e2 _ (Below.refl _ _),by omega⟩
   ·have e2:bestN m (k+1)=bestN m k:=by
     simp only [bestN]
     rw [eC,if_neg (fun hh=>by have:=hh.2.1; omega)]
    exact ⟨⟨by omega,by omega⟩,k+1,by rw [e2]; rfl,stay e2 _ (Below.refl _ _),by omega⟩
 ·have hlt':¬ (k:Int)<2:=by omega
  obtain rfl:k=2:=by omega
  have r2:=s2.rules 0 rfl
  have q2:=s2.rules 1 rfl
  have e0:newestH m=bestN m 2:=rfl
  rw [e0]
  cases hb2:bestN m 2 with
  | none =>
   rw [hb2] at r2 s2
   simp (disch:=first|omega|exact zF rfl|exact zG rfl|exact fun h=>h|(simp only[zA,zB,zC,zD,bytesW];omega)) only[go_sem,c109L0,c109L0,hlt',r2,q2,Hd.enc]
   exact ⟨fun _=>by subst hy; exact (s2.fill 1 rfl (cs:=hd0.enc.toArray) rfl).bel,fun h=>absurd h (by decide)⟩
  | some hd =>
   rw [hb2] at r2 s2
   simp (disch:=first|omega|exact zF rfl|exact zG rfl|exact fun h=>h|(simp only[zA,zB,zC,zD,bytesW];omega)) only[go_sem,c109L0,c109L0,hlt',r2,q2,Hd.enc]
   exact ⟨fun h=>absurd h (by simp),fun _=>by subst hy; exact (s2.fill 1 rfl (cs:=hd.enc.toArray) rfl).bel⟩
end
open Go Go.Ann Go.RowKit Go.WideShapes
def headN(n room:Nat):Hd:=⟨2,0,room,min (n - 2 - room) 1024⟩
def fmtDk(n:Nat)(h:Hd):Dk:={ safe:=((List.replicate n zeroB).set 1 (filledL [])).set 0 (filledL (headL h)),late:=[],left:=-1,gone:=false }
theorem writeN_new{n:Nat}{l:List (Int × List UInt8)}{i:Int}{d:List UInt8}(h0:0≤i)(h1:i<n)(hd:d.length≤256):writeN { newDk n with late:=l } i d=({ newDk n with late:=l++[(i,filledL d)] },0):=by
 have e1:readyN { newDk n with late:=l } i=0:=by
  unfold readyN
  rw [if_neg (by simp [newDk]),if_pos (by simp [newDk]; omega)]
 have e2:useN { newDk n with late:=l }=({ newDk n with late:=l },0):=by
  unfold useN
  rw [if_neg (by simp [newDk]),if_neg (by simp [newDk])]
 unfold writeN
 rw [if_neg (by rw [e1]; decide),if_neg (by omega),e2,if_pos rfl]
theorem flushN_new{n:Nat}{l:List (Int × List UInt8)}(h0:0<n):flushN { newDk n with late:=l }=({ newDk n with safe:=doneL (newDk n).safe l,late:=[] },0):=by
 have e1:readyN { newDk n with late:=l } 0=0:=by
  unfold readyN
  rw [if_neg (by simp [newDk]),if_pos (by simp [newDk]; omega)]
 have e2:useN { newDk n with late:=l }=({ newDk n with late:=l },0):=by
  unfold useN
  rw [if_neg (by simp [newDk]),if_neg (by simp [newDk])]
 unfold flushN
 rw [if_neg (by rw [e1]; decide),e2,if_neg (by simp)]
theorem fmt_eq{n:Nat}{h:Hd}(h2:2≤n)(hs:h.seq=2):putN (writeN (newDk n) 1 []).1 h=(fmtDk n h,0):=by
 have e1:writeN (newDk n) 1 []=({ newDk n with late:=[(1,filledL [])] },0):=writeN_new (l:=[]) (by decide) (by omega) (by decide)
 rw [e1]
 unfold putN
 rw [hs]
 have e2:=writeN_new (n:=n) (l:=[(1,filledL [])]) (i:=((2 % 2:Nat):Int)) (d:=headL h) (by decide) (by omega) (by rw [headL_len]; decide)
 rw [e2,if_neg (by simp),flushN_new (by omega)]
 rfl
theorem cutL_app{a b:List UInt8}{i j:Nat}(h:j≤a.length):cutL (a++b) i j=cutL a i j:=by
 unfold cutL
 rw [List.take_append_of_le_length (by omega)]
theorem readHd_headL{h:Hd}(ok:h.ok)(r:List UInt8):readHd (headL h++r)=some h:=by
 have hl:=head0_len h
 have hL:=headL_len h
 have e20:(headL h++r).take 20=head0 h:=by
  rw [List.take_append_of_le_length (by omega)]
  unfold headL
  rw [List.take_append_of_le_length (by omega),List.take_of_length_le (by omega)]
 have c2:cutL (headL h++r) 20 40=notL (head0 h):=by
  rw [show cutL (headL h++r) 20 40=cutL (headL h++r) ((20:Nat):Int) ((40:Nat):Int) from rfl,cutL_app (by omega)]
  unfold cutL headL
  rw [List.take_of_length_le (by rw [List.length_append,notL_len,hl]; decide)]
  show (head0 h++notL (head0 h)).drop 20=_
  rw [List.drop_append_of_le_length (by omega),List.drop_of_length_le (by omega),List.nil_append]
 have f8:=fixL_len h.seq 8
 have f4:=fixL_len h.used 4
 have g4:=fixL_len h.room 4
 have k4:=fixL_len h.pages 4
 have e8:(headL h++r).take 8=fixL h.seq 8:=by
  have:(headL h++r).take 8=((headL h++r).take 20).take 8:=by rw [List.take_take]; rfl
  rw [this,e20]
  unfold head0
  rw [List.append_assoc,List.append_assoc,List.take_append_of_le_length (by omega),List.take_of_length_le (by omega)]
 have cut:∀ i j:Nat,j≤20→cutL (headL h++r) i j=cutL (head0 h) i j:=fun i j hj=>by
  rw [cutL_app (by omega)]
  unfold headL
  exact cutL_app (by omega)
 have a1:cutL (head0 h) (8:Nat) (12:Nat)=fixL h.used 4:=by
  unfold cutL head0
  show List.drop 8 (List.take 12 _)=_
  rw [List.append_assoc,List.append_assoc,List.take_append,List.take_of_length_le (by omega),f8,List.drop_append_of_le_length (by omega),List.drop_of_length_le (by omega),List.nil_append,List.take_append_of_le_length (by omega),List.take_of_length_le (by omega)]
 have a2:cutL (head0 h) (12:Nat) (16:Nat)=fixL h.room 4:=by
  unfold cutL head0
  show List.drop 12 (List.take 16 _)=_
  rw [List.take_append_of_le_length (by simp only [List.length_append,f8,f4,g4]; omega),List.take_of_length_le (by simp only [List.length_append,f8,f4,g4]; omega),List.drop_append,List.drop_of_length_le (by simp only [List.length_append,f8,f4]; omega),List.nil_append]
  simp only [List.length_append,f8,f4]
  rfl
 have a3:cutL (head0 h) (16:Nat) (20:Nat)=fixL h.pages 4:=by
  unfold cutL
  show List.drop 16 (List.take 20 _)=_
  rw [List.take_of_length_le (by omega)]
  unfold head0
  rw [List.drop_append,List.drop_of_length_le (by simp only [List.length_append,f8,f4,g4]; omega),List.nil_append]
  simp only [List.length_append,f8,f4,g4]
  rfl
 unfold readHd
 rw [if_neg (by rw [List.length_append,hL]; omega),e20,c2,if_pos rfl,e8]
 rw [show cutL (headL h++r) 8 12=_ from (cut 8 12 (by decide)).trans a1,show cutL (headL h++r) 12 16=_ from (cut 12 16 (by decide)).trans a2,show cutL (headL h++r) 16 20=_ from (cut 16 20 (by decide)).trans a3]
 simp only [unfixL_fixL]
 rw [Nat.mod_eq_of_lt ok.seq,Nat.mod_eq_of_lt ok.used,Nat.mod_eq_of_lt ok.room,Nat.mod_eq_of_lt ok.pages]
theorem readHd_zero:readHd (filledL [])=none:=by
 unfold readHd
 rw [if_neg (by decide),if_neg (by decide)]
theorem newest_fmt{n room:Nat}(h1:1≤room)(h2:room+3≤n)(h3:n≤2048):newestH (fmtDk n (headN n room))=some (headN n room):=by
 have hh:(headN n room).ok:=⟨by show 2<_; omega,by show 0<_; omega,by show room<_; omega,by show min (n - 2 - room) 1024<_; omega⟩
 have b0:blkN (fmtDk n (headN n room)) 0=filledL (headL (headN n room)):=by
  unfold blkN fmtDk
  simp only [lastL,List.foldl_nil]
  rw [List.getD_eq_getElem?_getD,List.getElem?_set_self (by simp; omega)]; rfl
 have b1:blkN (fmtDk n (headN n room)) 1=filledL []:=by
  unfold blkN fmtDk
  simp only [lastL,List.foldl_nil]
  rw [List.getD_eq_getElem?_getD,List.getElem?_set_ne (by decide),List.getElem?_set_self (by simp; omega)]; rfl
 have hl:(fmtDk n (headN n room)).safe.length=n:=by simp [fmtDk]
 have c0:candH (fmtDk n (headN n room)) 0 0=some (headN n room):=by
  unfold candH
  rw [b0]
  unfold filledL
  rw [readHd_headL hh]
  have hf:fitsH (fmtDk n (headN n room)) (headN n room)=true:=by
   unfold fitsH
   rw [decide_eq_true_eq,hl]
   simp only [headN]
   omega
  show (if fitsH _ _=true∧0<(headN n room).seq∧(headN n room).seq % 2=0 then some (headN n room) else none)=_
  rw [if_pos ⟨hf,by simp [headN],by simp [headN]⟩]
 have c1:∀ k,candH (fmtDk n (headN n room)) 1 k=none:=fun k=>by
  unfold candH
  rw [b1,readHd_zero]
 unfold newestH
 simp only [bestN,Option.getD_none]
 rw [show hd0.seq=0 from rfl,c0]
 simp only [c1]
section
variable {W0 w:World} {F:Nat→Prop} {L:List Res} {I:List Inv} {g:Nat} {vb vl:Value} {m:Dk}
theorem format_ok{n room:Nat}(h:St W0 w F (DkL g vb vl (newDk n)++L) I)(h1:1≤room)(h2:room+3≤n)(h3:n≤2048) :
  Ret Tryz.prog 41 [.pointer (some ⟨g,0,none⟩),.int .i64 room] w fun u w'=>u=.int .i64 0∧∃ vl',St W0 w' F (DkL g vb vl' (fmtDk n (headN n room))++L) I:=by
 have ok:=newDk_ok (n:=n) (by omega) h3
 have hln:(newDk n).safe.length=n:=List.length_replicate
 refine ent41 _ _ _ _ ?_
 simp (disch:=first|omega|exact zF rfl|exact zG rfl|exact fun h=>h|(simp only[zA,zB,zC,zD,bytesW];omega)) only[go_sem]
 refine Ret.mono (len_ok h ok) ?_
 rintro _ w2 ⟨rfl,e2⟩
 subst w2
 simp (disch:=first|omega|exact zF rfl|exact zG rfl|exact fun h=>h|(simp only[zA,zB,zC,zD,bytesW];omega)) only[go_sem]
 refine Ret.mono (read_ok 0 h ok) ?_
 rintro _ w2 ⟨rfl,b2⟩
 have er:(readN (newDk n) 0).2=0:=by
  have e1:readyN (newDk n) 0=0:=by
   unfold readyN
   rw [if_neg (by simp [newDk]),if_pos (by simp [newDk]; omega)]
  unfold readN; rw [if_pos e1]
 have s2:=h.call b2
 rw [hln]
 have c1:¬ (room:Int)<1:=by omega
 have c2:¬ (n:Int)<room:=by omega
 have c3:¬ (n:Int) - 2 - room<1:=by omega
 simp (disch:=first|omega|exact zF rfl|exact zG rfl|exact fun h=>h|(simp only[zA,zB,zC,zD,bytesW];omega)) only[go_sem,er,c1,c2,c3]
 refine ⟨by constructor <;> omega,by constructor <;> omega,Ret.mono (write_ok 1 [] s2 ok (by simp [newDk])) ?_⟩
 rintro _ w3 ⟨rfl,vl',s3⟩
 have ok3:=writeN_ok ok (by simp [newDk]) 1 []
 have e1:writeN (newDk n) 1 []=({ newDk n with late:=[(1,filledL [])] },0):=writeN_new (l:=[]) (by decide) (by omega) (by decide)
 have e1':(writeN (newDk n) 1 []).2=0:=by rw [e1]
 simp (disch:=first|omega|exact zF rfl|exact zG rfl|exact fun h=>h|(simp only[zA,zB,zC,zD,bytesW];omega)) only[go_sem,e1']
 have hh:(headN n room).ok:=⟨by show 2<_; omega,by show 0<_; omega,by show room<_; omega,by show min (n - 2 - room) 1024<_; omega⟩
 have e2:min ((n:Int) - 2 - room) 1024=((min (n - 2 - room) 1024:Nat):Int):=by omega
 rw [e2]
 refine ⟨by constructor <;> omega,by constructor <;> omega,bdW_built (cells:=(headN n room).enc.toArray) (by kernel_rfl) ?_⟩
 simp (disch:=first|omega|exact zF rfl|exact zG rfl|exact fun h=>h|(simp only[zA,zB,zC,zD,bytesW];omega)) only[go_sem]
 refine Ret.mono (put_ok (headN n room) hh s3 ok3 (by rw [e1]; simp)) ?_
 rintro _ w4 ⟨rfl,vl2,s4⟩
 rw [fmt_eq (by omega) rfl] at s4 ⊢
 simp (disch:=first|omega|exact zF rfl|exact zG rfl|exact fun h=>h|(simp only[zA,zB,zC,zD,bytesW];omega)) only[go_sem]
 exact ⟨vl2,s4⟩
theorem open0_ok(hd:Hd)(h:St W0 w F (DkL g vb vl m++L) I)(ok:m.ok)(hg:m.gone=false)(h2:2≤m.safe.length)(hn:newestH m=some hd)(hu:hd.used=0) :
  Ret Tryz.prog 42 [.pointer (some ⟨g,0,none⟩)] w fun u w'=>∃ b mb,u=.tuple #[.pointer (some ⟨b,0,none⟩),.int .i64 0]∧St W0 w' F (StoL b mb g vb vl ⟨hd,[],0,false,m⟩++L) I:=by
 refine ent42 _ _ _ ?_
 simp (disch:=first|omega|exact zF rfl|exact zG rfl|exact fun h=>h|(simp only[zA,zB,zC,zD,bytesW];omega)) only[go_sem]
 refine Ret.mono (newest_ok h ok hg h2) ?_
 rintro u w2 ⟨hu2,b2⟩
 rw [hn] at hu2
 obtain rfl:u=_:=hu2
 have s2:=h.call b2
 simp (disch:=first|omega|exact zF rfl|exact zG rfl|exact fun h=>h|(simp only[zA,zB,zC,zD,bytesW];omega)) only[go_sem,Hd.enc]
 have s3:=s2.box #[.int .u64 hd.seq,.int .i64 hd.used,.int .i64 hd.room,.int .i64 hd.pages] 160
 have r3:=s3.rules 0 rfl
 refine mmG (ek:=intK) (ev:=strK) ?_
 have s4:=s3.lay (mapG intK strK [] 0)
 rw [World.size_alloc] at s4
 have hzl:=s4.low 1 rfl
 simp (disch:=first|omega|exact zF rfl|exact zG rfl|exact fun h=>h|(simp only[zA,zB,zC,zD,bytesW];omega)) only[go_sem,r3]
 generalize (w2.alloc (.cells #[.int .u64 hd.seq,.int .i64 hd.used,.int .i64 hd.room,.int .i64 hd.pages] 160))=w3 at s3 s4 ⊢
 generalize w3.alloc (mapG intK strK [] 0)=w4 at s4 hzl ⊢
 generalize w2.heap.size=z at s4 hzl ⊢
 generalize hmb:z+1=mb at s4 ⊢
 refine bdW_built (cells:=#[.pointer (some ⟨g,0,none⟩),.int .u64 hd.seq,.int .i64 hd.used,.int .i64 hd.room,.int .i64 hd.pages,.map (some mb),.bool false]) (by kernel_rfl) ?_
 have s5:=s4.box #[.pointer (some ⟨g,0,none⟩),.int .u64 hd.seq,.int .i64 hd.used,.int .i64 hd.room,.int .i64 hd.pages,.map (some mb),.bool false] 165
 have r5:=s5.rules 2 rfl
 have hu':¬ (0:Int)<hd.used:=by omega
 simp (disch:=first|omega|exact zF rfl|exact zG rfl|exact fun h=>h|(simp only[zA,zB,zC,zD,bytesW];omega)) only[go_sem,r5,hu']
 generalize w4.heap.size=b at s5 ⊢
 refine ⟨b,mb,rfl,?_⟩
 exact s5.sub (List.Sublist.cons_cons _ (List.Sublist.cons_cons _ (List.sublist_cons_self _ _)))
end
open Go Go.Ann Go.RowKit Go.WideShapes
abbrev It:=Int × List UInt8
def itE(x:It):List Value:=[.int .i64 x.1,.string (ofL x.2),.int .i64 0]
theorem itE_len(x:It):(itE x).length=3:=rfl
theorem itE_one(x:It):∀ u∈itE x,u.oneCell'=true:=by
 intro u hu
 simp only [itE,List.mem_cons,List.not_mem_nil,or_false] at hu
 rcases hu with rfl | rfl | rfl <;> rfl
theorem itE_ones(l:List It):∀ u∈l.flatMap itE,u.oneCell'=true:=by
 intro u hu
 obtain ⟨s,_,h⟩:=List.mem_flatMap.1 hu
 exact itE_one s u h
theorem flat_len(l:List It):(l.flatMap itE).length=l.length * 3:=by
 induction l with
 | nil=>rfl
 | cons a l ih=>rw [List.flatMap_cons,List.length_append,ih,itE_len,List.length_cons]; omega
theorem flat_take(l:List It)(k:Nat):(l.flatMap itE).take (k * 3)=(l.take k).flatMap itE:=by
 induction l generalizing k with
 | nil=>simp
 | cons a l ih =>
  cases k with
  | zero=>simp
  | succ k =>
   rw [List.flatMap_cons,List.take_succ_cons,List.flatMap_cons,← ih,List.take_append,itE_len,List.take_of_length_le (by rw [itE_len]; omega),show (k+1) * 3 - 3=k * 3 by omega]
theorem flat_drop(l:List It)(k:Nat):(l.flatMap itE).drop (k * 3)=(l.drop k).flatMap itE:=by
 induction l generalizing k with
 | nil=>simp
 | cons a l ih =>
  cases k with
  | zero=>simp
  | succ k =>
   rw [List.flatMap_cons,List.drop_succ_cons,← ih,List.drop_append,itE_len,List.drop_of_length_le (by rw [itE_len]; omega),List.nil_append,show (k+1) * 3 - 3=k * 3 by omega]
theorem flat_get{l:List It}{i j:Nat}(hi:i<l.length)(hj:j<3):(l.flatMap itE)[i * 3+j]?=(itE l[i])[j]?:=by
 rw [← List.getElem?_drop,flat_drop,List.drop_eq_getElem_cons hi,List.flatMap_cons,List.getElem?_append_left (by rw [itE_len]; exact hj)]
theorem item_at{w:World}{B e g cap:Nat}{l:List It}{i:Nat}(h:w.ownsRow B e 3 (.slice (some ⟨g,0,none⟩) l.length cap) l.length (l.flatMap itE))(hi:i<l.length) :
  w.cell? ⟨g,i * 3,none⟩=some (.int .i64 l[i].1)∧w.cell? ⟨g,i * 3+1,none⟩=some (.string (ofL l[i].2))∧w.cell? ⟨g,i * 3+2,none⟩=some (.int .i64 0):=by
 refine ⟨?_,?_,?_⟩
 ·have:=h.cellAt (i * 3) (by omega); rw [this]; exact flat_get (j:=0) hi (by decide)
 ·have:=h.cellAt (i * 3+1) (by omega); rw [this]; exact flat_get (j:=1) hi (by decide)
 ·have:=h.cellAt (i * 3+2) (by omega); rw [this]; exact flat_get (j:=2) hi (by decide)
def CaL(c:Nat)(rv:Value)(l:List It):List Res:=[.blk c #[.int .i64 64,rv] 206,.row rv 223 3 l.length (l.flatMap itE)]
def findK(k:Int)(l:List It):Option Nat:=l.findIdx? fun x=>decide (x.1=k)
def placeI(k:Int)(l:List It):Int:=match findK k l with | some i=>i | none => -1
section
variable {W0 w:World} {F:Nat→Prop} {L:List Res} {I:List Inv} {c:Nat} {rv:Value} {l:List It}
theorem place1_ok(k:Int)(x:It)(b:Nat)(w:World)(hb:Blk w b #[.int .i64 k] 3) :
  Ret Tryz.prog 192 [.agg (itE x).toArray,.pointer (some ⟨b,0,none⟩)] w fun u w'=>u=.bool (decide (x.1=k))∧Below w.heap.size w w':=by
 refine ent192 _ _ _ _ ?_
 have hr:=hb.rules
 have hlt:=hb.lt
 simp (disch:=first|omega|exact zF rfl|exact zG rfl|exact fun h=>h|(simp only[zA,zB,zC,zD,bytesW];omega)) only[go_sem,hr,itE]
 (repeat' (first | with_reducible exact Below.refl _ _ | with_reducible assumption | (with_reducible refine Below.drew ?_) | (with_reducible refine Below.alloc ?_ ?_ _) | (with_reducible refine Below.setCell ?_ ?_ _) | (with_reducible refine Below.fill ?_ ?_) | (with_reducible refine Below.via (by assumption) ?_ ?_) | omega | (simp only [World.size_alloc,World.size_drew,World.size_setCell,size_fill,bytesW]; omega)))
theorem index_ok(k:Int)(v:Value)(b:Nat)(hb:Blk w b #[.int .i64 k] 3)(h:RdS w 3 itE v l)(hl:l.length≤1000000) :
  Ret Tryz.prog 191 [v,.func (.func 192) #[] #[.pointer (some ⟨b,0,none⟩)]] w fun u w'=>u=.int .i64 (placeI k l)∧Below w.heap.size w w':=by
 obtain ⟨a,c,rfl,_⟩:=h.form
 refine ent191 _ _ _ _ ?_
 simp (disch:=first|omega|exact zF rfl|exact zG rfl|exact fun h=>h|(simp only[zA,zB,zC,zD,bytesW];omega)) only[go_sem]
 refine W_loopU (fun j:Nat=>[(8,.int .i64 j)]) (fun j w'=>Below w.heap.size w w'∧j≤l.length∧∀ i,(h:i<l.length)→i<j→¬ l[i].1=k) (fun j=>l.length - j) 0 rfl ⟨Below.refl _ _,Nat.zero_le _,fun j _ h=>by omega⟩ ?_
 rintro j w1 ⟨hw,hj,he⟩
 by_cases hlt:j<l.length
 ·obtain ⟨q,rfl⟩:=h.ptr (by omega)
  have ck:=(h.below hw (by decide)).at itE_len hlt
  have hlt':(j:Int)<l.length:=by omega
  simp (disch:=first|omega|exact zF rfl|exact zG rfl|exact fun h=>h|(simp only[zA,zB,zC,zD,bytesW];omega)) only[go_sem,hlt',ck,itE_len]
  refine ⟨by omega,callW_go ⟨by kernel_rfl,Ret.mono (place1_ok k l[j] b w1 (hb.below hw hb.lt)) ?_⟩⟩
  rintro _ w2 ⟨rfl,b2⟩
  have hwt:=hw.trans (b2.mono hw.size)
  by_cases hp:l[j].1=k
  ·simp (disch:=first|omega|exact zF rfl|exact zG rfl|exact fun h=>h|(simp only[zA,zB,zC,zD,bytesW];omega)) only[go_sem,hp]
   have e:placeI k l=j:=by
    unfold placeI findK
    rw [List.findIdx?_eq_some_iff_getElem.2 ⟨hlt,by simp [hp],fun i hi=>by simp [he i (by omega) hi]⟩]
   exact ⟨by rw [e],hwt⟩
  ·simp (disch:=first|omega|exact zF rfl|exact zG rfl|exact fun h=>h|(simp only[zA,zB,zC,zD,bytesW];omega)) only[go_sem,hp]
   refine ⟨⟨by omega,by omega⟩,j+1,rfl,⟨hwt,by omega,fun i h1 h2=>?_⟩,by omega⟩
   rcases Nat.lt_or_ge i j with h' | h'
   ·exact he i h1 h'
   ·obtain rfl:i=j:=by omega
    exact hp
 ·have hlt':¬ (j:Int)<l.length:=by omega
  simp (disch:=first|omega|exact zF rfl|exact zG rfl|exact fun h=>h|(simp only[zA,zB,zC,zD,bytesW];omega)) only[go_sem,hlt']
  have e:placeI k l = -1:=by
   unfold placeI findK
   rw [List.findIdx?_eq_none_iff.2 fun x hx=>by obtain ⟨i,hi,rfl⟩:=List.mem_iff_getElem.1 hx; simp [he i hi (by omega)]]
  exact ⟨by rw [e],hw⟩
theorem place_ok(k:Int)(h:St W0 w F (CaL c rv l++L) I)(hl:l.length≤1000000) :
  Ret Tryz.prog 169 [.pointer (some ⟨c,0,none⟩),.int .i64 k] w fun u w'=>u=.int .i64 (placeI k l)∧Below w.heap.size w w':=by
 refine ent169 _ _ _ _ ?_
 obtain ⟨a,cc,rfl,_⟩:=own_slice (h.row 1 rfl)
 have s1:=h.box #[.int .i64 k] 3
 have r1:=s1.rules 1 rfl
 have t1:=(St.start (W0:=w)).box #[.int .i64 k] 3
 simp (disch:=first|omega|exact zF rfl|exact zG rfl|exact fun h=>h|(simp only[zA,zB,zC,zD,bytesW];omega)) only[go_sem,r1]
 refine Ret.mono (index_ok k _ _ (s1.blk 0 rfl) (RdS.of_own' (s1.row 2 rfl) l rfl rfl) hl) ?_
 rintro _ w2 ⟨rfl,b2⟩
 simp (disch:=first|omega|exact zF rfl|exact zG rfl|exact fun h=>h|(simp only[zA,zB,zC,zD,bytesW];omega)) only[go_sem]
 exact (t1.call b2).bel
theorem front_ok{i:Nat}(h:St W0 w F (CaL c rv l++L) I)(hi:i<l.length)(hl:l.length≤1000000) :
  Ret Tryz.prog 183 [.pointer (some ⟨c,0,none⟩),.int .i64 i] w fun u w'=>St W0 w' F (CaL c rv (l[i]::l.eraseIdx i)++L) I:=by
 refine ent183 _ _ _ _ ?_
 obtain ⟨g,cap,rfl,hg⟩:=(h.row 1 rfl).form (by omega)
 have r1:=h.rules 0 rfl
 obtain ⟨k0,k1,k2⟩:=item_at (h.row 1 rfl) hi
 have hi':(i:Int)<l.length:=by omega
 have s1:=h.box #[.int .i64 l[i].1,.string (ofL l[i].2),.int .i64 0] 223
 simp (disch:=first|omega|exact zF rfl|exact zG rfl|exact fun h=>h|(simp only[zA,zB,zC,zD,bytesW];omega)) only[go_sem,c183S0,r1,k0,k1,k2,hi']
 generalize w.heap.size=y at s1 ⊢
 generalize w.alloc (.cells #[.int .i64 l[i].1,.string (ofL l[i].2),.int .i64 0] 223)=w1 at s1 ⊢
 refine ⟨by omega,c183draw0 (Same (fun k=>k=c) _) (Same.refl _ _) ?_⟩
 have s2:=s1.drew
 have r2:=s2.rules 1 rfl
 have l2:=s2.low 1 rfl
 generalize w1.drew=w2 at s2 r2 l2 ⊢
 simp (disch:=first|omega|exact zF rfl|exact zG rfl|exact fun h=>h|(simp only[zA,zB,zC,zD,bytesW];omega)) only[go_sem,c183S0,c183D0,r2]
 have hcp:∀ w',(∃ xs,xs.length=3∧St W0 w' F ([.blk y #[.int .i64 l[i].1,.string (ofL l[i].2),.int .i64 0] 223,.blk c #[.int .i64 64,.slice (some ⟨g,0,none⟩) l.length cap] 206,.row (.slice (some ⟨g,0,none⟩) l.length cap) 223 3 l.length (xs++(l.eraseIdx i).flatMap itE)]++L) I) →
   W Tryz.prog (c183S0 ()) [(0,.pointer (some ⟨c,0,none⟩)),(4,.pointer (some ⟨y,0,none⟩))] w' (finQ Tryz.prog [] fun u w'=>St W0 w' F (CaL c (.slice (some ⟨g,0,none⟩) l.length cap) (l[i]::l.eraseIdx i)++L) I):=by
  rintro w3 ⟨xs,hx,s3⟩
  simp (disch:=first|omega|exact zF rfl|exact zG rfl|exact fun h=>h|(simp only[zA,zB,zC,zD,bytesW];omega)) only[go_sem,c183S0]
  refine c183draw1 (Chg (fun _=>False) _) (Chg.refl _ _) ?_
  have s4:=s3.drew
  have r4:=s4.rules 1 rfl
  have l4:=s4.low 1 rfl
  have q4:=s4.rules 0 rfl
  generalize w3.drew=w4 at s4 r4 l4 q4 ⊢
  simp (disch:=first|omega|exact zF rfl|exact zG rfl|exact fun h=>h|(simp only[zA,zB,zC,zD,bytesW];omega)) only[go_sem,c183S0,c183D1,r4,q4]
  obtain ⟨x0,x1,x2,rfl⟩:∃ x0 x1 x2,xs=[x0,x1,x2]:=by
   match xs,hx with
   | [a,b,c],_=>exact ⟨a,b,c,rfl⟩
  have hr:=s4.row 2 rfl
  have hc:∀ j,j<3→w4.cell? ⟨g,j,none⟩=([x0,x1,x2]++(l.eraseIdx i).flatMap itE)[j]?:=fun j hj=>hr.cellAt j (by omega)
  refine ⟨by omega,⟨⟨x0,hc 0 (by decide)⟩,hr.frozenAt 0,⟨x1,hc 1 (by decide)⟩,hr.frozenAt 1,⟨x2,hc 2 (by decide)⟩,hr.frozenAt 2⟩,?_⟩
  have s5:=((s4.put 2 rfl 0 (.int .i64 l[i].1)).put 2 rfl 1 (.string (ofL l[i].2))).put 2 rfl 2 (.int .i64 0)
  refine st_recast (s5.sub (List.sublist_cons_self _ _)) ?_
  have e:(l[i]::l.eraseIdx i).length=l.length:=by rw [List.length_cons,List.length_eraseIdx,if_pos hi]; omega
  simp only [CaL,e]
  rfl
 have hle:l.length≤cap:=by
  obtain ⟨_,cap',e,hc⟩:=own_slice (h.row 1 rfl)
  cases e; exact hc
 have e0:offA (some ⟨g,0,none⟩) cap 0 3=some ⟨g,0 * 3,none⟩:=by unfold offA; split <;> rfl
 have ek:(((i:Int)+1).toNat - 1)=i:=by omega
 rw [e0,ek]
 obtain ⟨o,ho1,ho2,ho3⟩:∃ o:Nat,o+i≤l.length∧offA (some ⟨g,0,none⟩) cap 1 3=some ⟨g,o * 3,none⟩∧(o=1∨i=0∧o=0):=by
  by_cases hc:cap=1
  ·exact ⟨0,by omega,by unfold offA; rw [if_pos hc],.inr ⟨by omega,rfl⟩⟩
  ·exact ⟨1,by omega,by unfold offA; rw [if_neg hc]; rfl,.inl rfl⟩
 rw [ho2]
 refine ⟨by constructor <;> omega,⟨by omega,by omega⟩,Same.refl _ _,⟨by omega,by omega⟩,?_⟩
 refine s2.copy (i:=2) (o:=o) (m:=0) (k:=i) rfl ty204mkI ho1 (by omega) (itE_ones l) (Nat.min_self i) ?_
 intro w3 s3
 have sm:Same (fun k=>k=c) w2 w3:=fun k hk=>by subst hk; exact (s3.blk 1 rfl).trans (s2.blk 1 rfl).symm
 simp (disch:=first|omega|exact zF rfl|exact zG rfl|exact fun h=>h|(simp only[zA,zB,zC,zD,bytesW];omega)) only[go_sem]
 refine ⟨sm,hcp w3 ⟨itE (l[0]'(by omega)),rfl,st_recast s3 ?_⟩⟩
 have e1:(l.flatMap itE).take (o * 3)++((l.flatMap itE).drop (0 * 3)).take (i * 3)++(l.flatMap itE).drop ((o+i) * 3)=itE (l[0]'(by omega))++(l.eraseIdx i).flatMap itE:=by
  rw [flat_take,flat_drop,flat_take,flat_drop,List.drop_zero,List.eraseIdx_eq_take_drop_succ,List.flatMap_append]
  have h0:0<l.length:=by omega
  rcases ho3 with rfl | ⟨rfl,rfl⟩
  ·have:l.take 1=[l[0]'h0]:=by
    have:=List.take_succ_eq_append_getElem h0
    simpa using this
   rw [this,List.flatMap_cons,List.flatMap_nil,List.append_nil,List.append_assoc,show 1+i=i+1 by omega]
  ·have:l.drop (0+0)=l[0]'h0::l.drop (0+1):=List.drop_eq_getElem_cons h0
   rw [this,List.flatMap_cons]
   simp
 simp only [List.set_cons_succ,List.set_cons_zero,List.cons_append,CaL,e1]
end
open Go Go.Ann Go.RowKit Go.WideShapes
theorem slice3W{P:Program}{t e sz bytes:Nat}{z:Value}{x lo hi mx:Operand}{ty:TypeId}{ρ:Env}{w:World}{K:Value→World→Prop}{a:Option Addr}{n c i j m:Nat}(hm:mkI P t=some (e,sz,bytes,z))(hx:ev ρ x=some (.slice a n c))(h1:ev ρ lo=some (.int .i64 i))(h2:ev ρ hi=some (.int .i64 j))(h3:ev ρ mx=some (.int .i64 m))(hij:i≤j)(hjm:j≤m)(hmc:m≤c)(hc:c≤9223372036854775807)
  (hK:∀ v,K v w):opW P (.slice t x (some lo) (some hi) (some mx)) ty ρ w K:=by
 show rawW _ _ _ _ _ _
 intro f hf
 obtain ⟨inf,hu,hi',_,hsi,_⟩:=mkI_some hm
 refine ⟨.slice (if m=i then a else a.map (·.add (i * P.cellsOf e))) (j - i) (m - i),w,?_,hK _⟩
 have b1:(0:Int)≤(m:Int)∧(m:Int)≤c:=by omega
 have b2:(0:Int)≤(j:Int)∧(j:Int)≤m:=by omega
 have b3:(0:Int)≤(i:Int)∧(i:Int)≤j:=by omega
 have hrun:(Instr.sliceAt t (.slice a n c) (some (.int .i64 i)) (some (.int .i64 j)) (some (.int .i64 m))).run P w=.ok (.slice (if m=i then a else a.map (·.add (i * P.cellsOf e))) (j - i) (m - i)) w:=by
  rw [run_sliceAt_slice w _ _ _ _ _ (by simp [Program.elem,hu])]
  simp only [Instr.slice,Sem.run_bind,run_underlying hu,Result.andThen,Instr.sliceBounds,Sem.run_pure,Option.isSome,if_true,run_sizeOf w hi',run_bound w b1.1 b1.2,Int.toNat_natCast,run_bound w b2.1 b2.2,run_bound w b3.1 b3.2]
 simp [execOp,rawOp,Option.map_some,hf _ _ hx,hf _ _ h1,hf _ _ h2,hf _ _ h3,hrun]
theorem overL_low{xs vs:List Value}{o k:Nat}(hk:k≤o)(ho:o≤xs.length):(overL xs o vs).take k=xs.take k:=by
 unfold overL
 rw [List.append_assoc,List.take_append_of_le_length (by rw [List.length_take]; omega),List.take_take,Nat.min_eq_left hk]
section
variable {W0 w:World} {F:Nat→Prop} {L:List Res} {I:List Inv} {rv:Value} {l:List It}
theorem delete_ok{i:Nat}(h:St W0 w F (.row rv 223 3 l.length (l.flatMap itE)::L) I)(hi:i<l.length)(hl:l.length≤1000000) :
  Ret Tryz.prog 170 [rv,.int .i64 i,.int .i64 ((i:Int)+1)] w fun u w'=>St W0 w' F (.row u 223 3 (l.eraseIdx i).length ((l.eraseIdx i).flatMap itE)::L) I:=by
 have hr:=h.row 0 rfl
 rcases hr.2 with ⟨_,h0⟩ | ⟨g,cap,cur,rfl,hb,hg,hnc,hcm,hcs,htake⟩
 ·omega
 refine ent170 _ _ _ _ _ ?_
 simp (disch:=first|omega|exact zF rfl|exact zG rfl|exact fun h=>h|(simp only[zA,zB,zC,zD,bytesW];omega)) only[go_sem]
 refine slice3W (a:=some ⟨g,0,none⟩) (n:=l.length) (c:=cap) (i:=i) (j:=i+1) (m:=l.length) ty204mkI rfl rfl rfl rfl (by omega) (by omega) hnc (by simp only [maxLen] at hcm; omega) ?_
 intro v
 have hne:¬ (i:Int)=(i:Int)+1:=by omega
 simp (disch:=first|omega|exact zF rfl|exact zG rfl|exact fun h=>h|(simp only[zA,zB,zC,zD,bytesW];omega)) only[go_sem,hne]
 refine c170draw0 ?_
 have h2:=h.drew
 simp (disch:=first|omega|exact zF rfl|exact zG rfl|exact fun h=>h|(simp only[zA,zB,zC,zD,bytesW];omega)) only[go_sem,c170D0]
 have hlen:=flat_len l
 have hclen:cur.toList.length=cap * 3:=by rw [Array.length_toList,hcs]
 have e0:offA (some ⟨g,0,none⟩) cap 0 3=some ⟨g,0,none⟩:=by unfold offA; split <;> rfl
 have e1:((i:Int)+1).toNat=i+1:=by omega
 rw [e0,e1]
 have hsrc:Rd w.drew 3 (.slice (offA (some ⟨g,0,none⟩) cap (i+1) 3) (l.length - (i+1)) (cap - (i+1))) (l.length - (i+1)) ((l.drop (i+1)).flatMap itE):=by
  refine ⟨by rw [flat_len,List.length_drop],_,_,rfl,by omega,fun hn=>?_⟩
  have hc:¬ cap=i+1:=by omega
  refine ⟨⟨g,(i+1) * 3,none⟩,by unfold offA; rw [if_neg hc]; simp [Addr.add_lit],fun j u hu=>?_⟩
  have hj:j<(l.length - (i+1)) * 3:=by
   have:=(List.getElem?_eq_some_iff.1 hu).1
   rwa [flat_len,List.length_drop] at this
  rw [Addr.add_lit]
  show w.cell? _=_
  rw [(h.row 0 rfl).cellAt _ (by omega),← List.getElem?_drop,flat_drop,hu]
 refine ⟨⟨by omega,by omega⟩,⟨by omega,by omega⟩,appendB (sz:=3) ty204mkI (show Blk w.drew g cur _ from hg) (by omega) (by omega) hsrc (itE_ones _) ?_⟩
 intro w3 b3 c3
 have hyl:((l.drop (i+1)).flatMap itE).length=(l.length - (i+1)) * 3:=by rw [flat_len,List.length_drop]
 have e2:i+(l.length - (i+1))=l.length - 1:=by omega
 rw [e2]
 have hl3:(overL cur.toList (i * 3) ((l.drop (i+1)).flatMap itE)).length=cap * 3:=by rw [overL_length (by rw [hyl,hclen]; omega),hclen]
 simp (disch:=first|omega|exact zF rfl|exact zG rfl|exact fun h=>h|(simp only[zA,zB,zC,zD,bytesW];omega)) only[go_sem]
 have e3:offA (some ⟨g,0,none⟩) cap (l.length - 1) 3=some ⟨g,(l.length - 1) * 3,none⟩:=by
  unfold offA; rw [if_neg (by omega)]; simp [Addr.add_lit]
 rw [e3]
 refine ⟨⟨by omega,by omega,by omega⟩,clearB (sz:=3) ty204mkI rfl (itE_ones [(0,[])]) b3 (by rw [List.size_toArray,hl3]; omega) ?_⟩
 intro w5 zs hzl b5 c5
 simp (disch:=first|omega|exact zF rfl|exact zG rfl|exact fun h=>h|(simp only[zA,zB,zC,zD,bytesW];omega)) only[go_sem]
 have hzl:zs.length=3:=by rw [hzl]; omega
 simp only [List.toList_toArray] at b5
 have hl5:(overL (overL cur.toList (i * 3) ((l.drop (i+1)).flatMap itE)) ((l.length - 1) * 3) zs).length=cap * 3:=by rw [overL_length (by rw [hzl,hl3]; omega),hl3]
 have hn':(l.eraseIdx i).length=l.length - 1:=by rw [List.length_eraseIdx,if_pos hi]
 have ht:(overL (overL cur.toList (i * 3) ((l.drop (i+1)).flatMap itE)) ((l.length - 1) * 3) zs).take ((l.length - 1) * 3)=(l.eraseIdx i).flatMap itE:=by
  have t1:=overL_low (vs:=zs) (show (l.length - 1) * 3≤(l.length - 1) * 3 from Nat.le_refl _) (show (l.length - 1) * 3≤(overL cur.toList (i * 3) ((l.drop (i+1)).flatMap itE)).length by rw [hl3]; omega)
  rw [t1,overL_take (by rw [hyl]; omega) (by rw [hclen]; omega)]
  have t2:cur.toList.take (i * 3)=(l.take i).flatMap itE:=by
   rw [← flat_take,← htake,List.take_take,Nat.min_eq_left (by omega)]
  rw [t2,List.eraseIdx_eq_take_drop_succ,List.flatMap_append]
 have hc:Chg (fun k=>(Res.row (.slice (some ⟨g,0,none⟩) l.length cap) 223 3 l.length (l.flatMap itE)).own=some k) w w5 :=
  (((Chg.refl (fun k=>k=g) w).drew.trans c3).trans c5).mono fun k _ hk=>by subst hk; rfl
 refine h.upd 0 rfl hc _ ⟨?_,.inr ⟨g,cap,_,by rw [hn'],hb,b5,by omega,hcm,?_,?_⟩⟩ fun k hk=>.inl hk
 ·rw [flat_len]
 ·rw [List.size_toArray,hl5]
 ·rw [hn']; exact ht
theorem capB{P:Program}{t e sz bytes ty:Nat}{z:Value}{cs:Array Bool}{w:World}{K:Value→World→Prop}{a:Option Addr}{n c:Nat}(hm:mkI P t=some (e,sz,bytes,z))(hK:K (.int .i64 c) w):biW P .cap #[t] ty cs [.slice a n c] w K:=by
 show rawB _ _ _ _ _ _ _ _
 obtain ⟨i,hu,_,_,_,_⟩:=mkI_some hm
 refine ⟨_,w,?_,hK⟩
 simp [builtin,Builtin.cap_,goInt,run_underlying hu]
theorem overL_head{ys xs:List Value}{k:Nat}(h:xs.length≤k):(overL ys 0 xs).take k=xs++(ys.take k).drop xs.length:=by
 unfold overL
 rw [List.take_zero,List.nil_append,Nat.zero_add,List.take_append,List.take_of_length_le h,List.drop_take]
@[go_sem] theorem goOverlaps:goFunc Tryz.prog 201=false:=by kernel_rfl
theorem insert_ok{x:It}{vb:Nat}(h:St W0 w F (.row rv 223 3 l.length (l.flatMap itE)::.blk vb (itE x).toArray 223::L) I)(hl:l.length≤1000000) :
  Ret Tryz.prog 184 [rv,.int .i64 0,.slice (some ⟨vb,0,none⟩) 1 1] w fun u w'=>St W0 w' F (.row u 223 3 (l.length+1) ((x::l).flatMap itE)::.blk vb (itE x).toArray 223::L) I:=by
 have hr:=h.row 0 rfl
 have hv:=h.blk 1 rfl
 obtain ⟨a,cap,rfl,hnc⟩:=own_slice hr
 have hx:Rd w 3 (.slice (some ⟨vb,0,none⟩) 1 1) 1 (itE x):=by
  refine ⟨rfl,_,_,rfl,Nat.le_refl _,fun _=>⟨_,rfl,fun j u hu=>?_⟩⟩
  rw [Addr.add_lit,Nat.zero_add,hv.cell,List.getElem?_toArray]
  exact hu
 refine ent184 _ _ _ _ _ ?_
 by_cases hn:l.length=0
 ·have hl0:l=[]:=List.eq_nil_of_length_eq_zero hn
  subst hl0
  simp (disch:=first|omega|exact zF rfl|exact zG rfl|exact fun h=>h|(simp only[zA,zB,zC,zD,bytesW];omega)) only[go_sem]
  refine h.append 0 rfl ty204mkI rfl (by decide) hx (itE_one x) (by simp) (by simp) ?_
  intro v2 w2 s2 _
  simp (disch:=first|omega|exact zF rfl|exact zG rfl|exact fun h=>h|(simp only[zA,zB,zC,zD,bytesW];omega)) only[go_sem]
  exact s2
 have hn':¬ (0:Int)=l.length:=by omega
 rcases hr.2 with ⟨_,h0⟩ | ⟨g,cap',cur,hv',hb,hg,hnc',hcm,hcs,htake⟩
 ·omega
 simp only [Value.slice.injEq,true_and] at hv'
 obtain ⟨rfl,rfl⟩:=hv'
 have hclen:cur.toList.length=cap * 3:=by rw [Array.length_toList,hcs]
 have hcells:∀ j u,(l.flatMap itE)[j]?=some u→w.cell? ((⟨g,0,none⟩:Addr).add j)=some u:=fun j u hu=>by
  have hj:j<l.length * 3:=by
   have:=(List.getElem?_eq_some_iff.1 hu).1
   rwa [flat_len] at this
  rw [Addr.add_lit,Nat.zero_add,hr.cellAt _ hj,hu]
 have hvcells:∀ j u,(itE x)[j]?=some u→w.cell? ((⟨vb,0,none⟩:Addr).add j)=some u:=fun j u hu=>by
  rw [Addr.add_lit,Nat.zero_add,hv.cell,List.getElem?_toArray]; exact hu
 have hgv:g≠vb:=fun e=>h.ne 0 1 rfl rfl (by decide) (k:=g) rfl (by rw [e]; rfl)
 have e0:offA (some ⟨g,0,none⟩) cap 0 3=some ⟨g,0,none⟩:=by unfold offA; split <;> rfl
 have hfl:=flat_len l
 by_cases hc:cap<l.length+1
 ·have hc':(cap:Int)<l.length+1:=by omega
  simp (disch:=first|omega|exact zF rfl|exact zG rfl|exact fun h=>h|(simp only[zA,zB,zC,zD,bytesW];omega)) only[go_sem,hn',hc']
  refine ⟨by omega,⟨by omega,by omega⟩,capB ty204mkI ?_⟩
  simp (disch:=first|omega|exact zF rfl|exact zG rfl|exact fun h=>h|(simp only[zA,zB,zC,zD,bytesW];omega)) only[go_sem,hc']
  rw [e0,show ((l.length:Int)+1 - 0)=((l.length+1:Nat):Int) by omega]
  refine ⟨by omega,⟨by omega,by omega⟩,⟨by omega,by omega⟩,growB ty204mkI Tryz.underlying3 rfl (by decide) (by omega) hc (by omega) (by omega) ?_⟩
  intro G Z hG1 hG2 hZ
  have b1:Below w.heap.size w (w.drew.alloc (.cells Z 223)):=((Below.refl _ w).drew).alloc (Nat.le_refl _) _
  have B1:Blk (w.drew.alloc (.cells Z 223)) w.heap.size Z 223:=Blk.new (w:=w.drew)
  have hlt:=hr.lt g rfl
  have hltv:=hv.lt
  generalize w.drew.alloc (.cells Z 223)=w1 at b1 B1 ⊢
  generalize hy:w.heap.size=y at b1 B1 hlt hltv ⊢
  simp (disch:=first|omega|exact zF rfl|exact zG rfl|exact fun h=>h|(simp only[zA,zB,zC,zD,bytesW];omega)) only[go_sem]
  have e1:offA (some ⟨y,0,none⟩) G 0 3=some ⟨y,0,none⟩:=by unfold offA; split <;> rfl
  have hZl:Z.toList.length=G * 3:=by rw [Array.length_toList,hZ]
  have old1:∀ p:Addr,p.block<y→w1.cell? p=w.cell? p:=fun p hp=>World.cell?_of_block (b1.block _ hp)
  rw [e1]
  refine ⟨by omega,copyB (sz:=3) (k:=1) (ys:=itE x) ty204mkI B1 (by omega) rfl (fun j u hu=>by rw [old1 _ (by rw [add_block]; exact hltv)]; exact hvcells j u hu) (itE_one x) (by rw [hZ,itE_len]; omega) ?_⟩
  intro w2 B2 c2
  have b2:Below y w w2:=b1.trans (c2.below (hy ▸ b1.size) fun k hk e=>by omega)
  simp (disch:=first|omega|exact zF rfl|exact zG rfl|exact fun h=>h|(simp only[zA,zB,zC,zD,bytesW];omega)) only[go_sem]
  refine c184draw0 ?_
  have b3:Below y w w2.drew:=b2.drew
  have B3:Blk w2.drew y (overL Z.toList 0 (itE x)).toArray 223:=B2
  have old3:∀ p:Addr,p.block<y→w2.drew.cell? p=w.cell? p:=fun p hp=>World.cell?_of_block (b3.block _ hp)
  generalize w2.drew=w3 at b3 B3 old3 ⊢
  have e3:offA (some ⟨y,0,none⟩) G 1 3=some ⟨y,3,none⟩:=by unfold offA; rw [if_neg (by omega)]; rfl
  have hl3:(overL Z.toList 0 (itE x)).length=G * 3:=by rw [overL_length (by rw [hZl,itE_len]; omega),hZl]
  simp (disch:=first|omega|exact zF rfl|exact zG rfl|exact fun h=>h|(simp only[zA,zB,zC,zD,bytesW];omega)) only[go_sem,c184D0]
  rw [e3,e0]
  refine ⟨⟨by omega,by omega⟩,by omega,by omega,copyB (sz:=3) (k:=l.length) (ys:=l.flatMap itE) ty204mkI B3 (by rw [Nat.sub_zero]; exact Nat.min_self _) hfl (fun j u hu=>by rw [old3 _ (by rw [add_block]; exact hlt.2)]; exact hcells j u hu) (itE_ones l) (by rw [List.size_toArray,hl3,hfl]; omega) ?_⟩
  intro w5 B5 c5
  simp only [List.toList_toArray] at B5
  have b5:Below w.heap.size w w5:=by
   rw [hy]
   exact b3.trans (c5.below (hy ▸ b3.size) fun k hk e=>by omega)
  simp (disch:=first|omega|exact zF rfl|exact zG rfl|exact fun h=>h|(simp only[zA,zB,zC,zD,bytesW];omega)) only[go_sem]
  have hl5:(overL (overL Z.toList 0 (itE x)) 3 (l.flatMap itE)).length=G * 3:=by rw [overL_length (by rw [hl3,hfl]; omega),hl3]
  have ht:(overL (overL Z.toList 0 (itE x)) 3 (l.flatMap itE)).take ((l.length+1) * 3)=(x::l).flatMap itE:=by
   rw [overL_take (by rw [hfl]; omega) (by rw [hl3]; omega),overL_take (by rw [itE_len]) (by omega),List.take_zero,List.nil_append,List.flatMap_cons]
  have hnew:(Res.row (.slice (some ⟨y,0,none⟩) (l.length+1) G) 223 3 (l.length+1) ((x::l).flatMap itE)).ok w5 W0.heap.size :=
   ⟨by rw [flat_len,List.length_cons],.inr ⟨y,G,_,rfl,by rw [← hy]; exact h.size,B5,hG1,hG2,by rw [List.size_toArray,hl5],ht⟩⟩
  have s5:=h.add b5 _ hnew fun k hk=>by
   simp only [Res.own,Value.ownBlock,Option.some.injEq] at hk; omega
  exact s5.sub (List.Sublist.cons_cons _ (List.sublist_cons_self _ _))
 ·have hc':¬ (cap:Int)<l.length+1:=by omega
  simp (disch:=first|omega|exact zF rfl|exact zG rfl|exact fun h=>h|(simp only[zA,zB,zC,zD,bytesW];omega)) only[go_sem,hn',hc']
  refine ⟨by omega,⟨by omega,by omega⟩,capB ty204mkI ?_⟩
  simp (disch:=first|omega|exact zF rfl|exact zG rfl|exact fun h=>h|(simp only[zA,zB,zC,zD,bytesW];omega)) only[go_sem,hc']
  have e1:offA (some ⟨g,0,none⟩) cap 1 3=some ⟨g,3,none⟩:=by unfold offA; rw [if_neg (by omega)]; rfl
  rw [e0,e1]
  refine ⟨⟨by omega,by omega⟩,⟨by omega,by omega⟩,⟨by omega,by omega⟩,by omega,overlapsW (t:=204) (tR:=4) Tryz.func201 (by kernel_rfl) (by kernel_rfl) (by kernel_rfl) (by kernel_rfl) ty204mkI (fun e=>hgv e.symm) hv hg (by omega) ?_⟩
  simp (disch:=first|omega|exact zF rfl|exact zG rfl|exact fun h=>h|(simp only[zA,zB,zC,zD,bytesW];omega)) only[go_sem]
  refine c184draw1 ?_
  have h2:=h.drew
  have hg2:Blk w.drew g cur 223:=hg
  have hc2:∀ j u,(l.flatMap itE)[j]?=some u→w.drew.cell? ((⟨g,0,none⟩:Addr).add j)=some u:=hcells
  have e2:((l.length:Int)+1).toNat=l.length+1:=by omega
  simp (disch:=first|omega|exact zF rfl|exact zG rfl|exact fun h=>h|(simp only[zA,zB,zC,zD,bytesW];omega)) only[go_sem,c184D1]
  rw [e2,e0,e1]
  refine ⟨by constructor <;> omega,by omega,by omega,copyB (sz:=3) (k:=l.length) (ys:=l.flatMap itE) ty204mkI hg2 (by omega) hfl hc2 (itE_ones l) (by rw [hfl]; omega) ?_⟩
  intro w3 B3 c3
  have hl3:(overL cur.toList 3 (l.flatMap itE)).length=cap * 3:=by rw [overL_length (by rw [hclen,hfl]; omega),hclen]
  have hvc3:∀ j u,(itE x)[j]?=some u→w3.cell? ((⟨vb,0,none⟩:Addr).add j)=some u:=fun j u hu=>by
   have:w3.cell? ((⟨vb,0,none⟩:Addr).add j)=w.cell? ((⟨vb,0,none⟩:Addr).add j):=World.cell?_of_block (by rw [add_block]; exact c3.block vb hv.lt (fun e=>hgv e.symm))
   rw [this]; exact hvcells j u hu
  simp (disch:=first|omega|exact zF rfl|exact zG rfl|exact fun h=>h|(simp only[zA,zB,zC,zD,bytesW];omega)) only[go_sem]
  rw [e0]
  refine ⟨by omega,copyB (sz:=3) (k:=1) (ys:=itE x) ty204mkI B3 (by omega) rfl hvc3 (itE_one x) (by rw [List.size_toArray,hl3,itE_len]; omega) ?_⟩
  intro w5 B5 c5
  simp only [List.toList_toArray] at B5
  simp (disch:=first|omega|exact zF rfl|exact zG rfl|exact fun h=>h|(simp only[zA,zB,zC,zD,bytesW];omega)) only[go_sem]
  have hl5:(overL (overL cur.toList 3 (l.flatMap itE)) 0 (itE x)).length=cap * 3:=by rw [overL_length (by rw [hl3,itE_len]; omega),hl3]
  have ht:(overL (overL cur.toList 3 (l.flatMap itE)) 0 (itE x)).take ((l.length+1) * 3)=(x::l).flatMap itE:=by
   rw [overL_head (by rw [itE_len]; omega),overL_take (by rw [hfl]; omega) (by rw [hclen]; omega),itE_len,List.drop_append,List.drop_of_length_le (by rw [List.length_take]; omega),List.nil_append,List.length_take,Nat.min_eq_left (by omega),Nat.sub_self,List.drop_zero,List.flatMap_cons]
  have hc:Chg (fun k=>(Res.row (.slice (some ⟨g,0,none⟩) l.length cap) 223 3 l.length (l.flatMap itE)).own=some k) w w5 :=
   (((Chg.refl (fun k=>k=g) w).drew.trans c3).trans c5).mono fun k _ hk=>by subst hk; rfl
  exact h.upd 0 rfl hc (.row (.slice (some ⟨g,0,none⟩) (l.length+1) cap) 223 3 (l.length+1) ((x::l).flatMap itE)) ⟨by rw [flat_len,List.length_cons],.inr ⟨g,cap,_,rfl,hb,B5,by omega,hcm,by rw [List.size_toArray,hl5],ht⟩⟩ fun k hk=>.inl hk
end
open Go Go.Ann Go.RowKit Go.WideShapes
section
variable {W0 w:World} {F:Nat→Prop} {L:List Res} {I:List Inv} {c:Nat} {rv:Value} {l:List It}
theorem place_some{k:Int}{i:Nat}(h:findK k l=some i):placeI k l=i∧∃ hi:i<l.length,l[i].1=k:=by
 unfold placeI; rw [h]
 unfold findK at h
 obtain ⟨h1,h2,_⟩:=List.findIdx?_eq_some_iff_getElem.1 h
 exact ⟨rfl,h1,by simpa using h2⟩
theorem place_none{k:Int}(h:findK k l=none):placeI k l = -1:=by unfold placeI; rw [h]
theorem cnew_ok(h:St W0 w F L I) :
  Ret Tryz.prog 113 [.int .i64 64] w fun u w'=>∃ c,u=.tuple #[.pointer (some ⟨c,0,none⟩),.int .i64 0]∧St W0 w' F (CaL c (.slice none 0 0) []++L) I:=by
 refine ent113 _ _ _ ?_
 simp (disch:=first|omega|exact zF rfl|exact zG rfl|exact fun h=>h|(simp only[zA,zB,zC,zD,bytesW];omega)) only[go_sem]
 refine bdW_built (cells:=#[.int .i64 64,.slice none 0 0]) (by kernel_rfl) ?_
 have s1:=(h.box #[.int .i64 64,.slice none 0 0] 206).nilRow 223 3
 simp (disch:=first|omega|exact zF rfl|exact zG rfl|exact fun h=>h|(simp only[zA,zB,zC,zD,bytesW];omega)) only[go_sem]
 exact ⟨_,rfl,St.front (A:=[.row (.slice none 0 0) 223 3 0 []]) (D:=[_]) (L:=L) s1⟩
def getC(k:Int)(l:List It):List UInt8 × Bool × List It:=match findK k l with
 | some i=>((l.getD i (0,[])).2,true,l.getD i (0,[])::l.eraseIdx i)
 | none=>([],false,l)
theorem cget_ok(k:Int)(h:St W0 w F (CaL c rv l++L) I)(hl:l.length≤1000000) :
  Ret Tryz.prog 145 [.pointer (some ⟨c,0,none⟩),.int .i64 k] w fun u w'=>u=.tuple #[.string (ofL (getC k l).1),.bool (getC k l).2.1]∧St W0 w' F (CaL c rv (getC k l).2.2++L) I:=by
 refine ent145 _ _ _ _ ?_
 simp (disch:=first|omega|exact zF rfl|exact zG rfl|exact fun h=>h|(simp only[zA,zB,zC,zD,bytesW];omega)) only[go_sem]
 refine Ret.mono (place_ok k h hl) ?_
 rintro _ w2 ⟨rfl,b2⟩
 have s2:=h.call b2
 unfold getC
 cases hf:findK k l with
 | none =>
  rw [place_none hf]
  simp (disch:=first|omega|exact zF rfl|exact zG rfl|exact fun h=>h|(simp only[zA,zB,zC,zD,bytesW];omega)) only[go_sem]
  exact s2
 | some i =>
  obtain ⟨e1,hi,e2⟩:=place_some hf
  rw [e1]
  have hi':¬ (i:Int)<0:=by omega
  simp (disch:=first|omega|exact zF rfl|exact zG rfl|exact fun h=>h|(simp only[zA,zB,zC,zD,bytesW];omega)) only[go_sem,hi']
  refine Ret.mono (front_ok s2 hi hl) ?_
  rintro u w3 s3
  have eg:l.getD i (0,[])=l[i]:=by rw [List.getD_eq_getElem?_getD,List.getElem?_eq_getElem hi]; rfl
  simp only [eg]
  have hlen:(l[i]::l.eraseIdx i).length=l.length:=by rw [List.length_cons,List.length_eraseIdx,if_pos hi]; omega
  obtain ⟨g,cap,rfl,_⟩:=(s3.row 1 rfl).form (by rw [hlen]; omega)
  obtain ⟨k0,k1,k2⟩:=item_at (i:=0) (s3.row 1 rfl) (by rw [hlen]; omega)
  have r3:=s3.rules 0 rfl
  have h0:(0:Int)<(l[i]::l.eraseIdx i).length:=by rw [hlen]; omega
  have k1':w3.cell? ⟨g,1,none⟩=some (.string (ofL l[i].2)):=k1
  simp (disch:=first|omega|exact zF rfl|exact zG rfl|exact fun h=>h|(simp only[zA,zB,zC,zD,bytesW];omega)) only[go_sem,r3,h0,k1']
  exact ⟨by omega,s3⟩
def cutC(l:List It):List It:=if l.length<64 then l else l.eraseIdx (l.length - 1)
theorem cutC_sub(l:List It):(cutC l).Sublist l:=by
 unfold cutC
 split
 ·exact List.Sublist.refl _
 ·exact List.eraseIdx_sublist _ _
theorem cutC_len{l:List It}(h:l.length≤64):(cutC l).length≤63:=by
 unfold cutC
 split
 ·omega
 ·rw [List.length_eraseIdx]
  split <;> omega
theorem cput_ok{k:Int}{v:List UInt8}(h:St W0 w F (CaL c rv l++L) I)(hf:findK k l=none)(hl:l.length≤64) :
  Ret Tryz.prog 146 [.pointer (some ⟨c,0,none⟩),.int .i64 k,.string (ofL v)] w fun u w'=>∃ rv',St W0 w' F (CaL c rv' ((k,v)::cutC l)++L) I:=by
 refine ent146 _ _ _ _ _ ?_
 have r1:=h.rules 0 rfl
 simp (disch:=first|omega|exact zF rfl|exact zG rfl|exact fun h=>h|(simp only[zA,zB,zC,zD,bytesW];omega)) only[go_sem,c146L0,c146S4,c146S7,r1]
 refine Ret.mono (place_ok k h (by omega)) ?_
 rintro _ w2 ⟨rfl,b2⟩
 rw [place_none hf]
 have s2:=h.call b2
 have r2:=s2.rules 0 rfl
 simp (disch:=first|omega|exact zF rfl|exact zG rfl|exact fun h=>h|(simp only[zA,zB,zC,zD,bytesW];omega)) only[go_sem,c146L0,c146S4,c146S7,r2]
 refine c146draw0 ?_
 have s3:=s2.drew
 have r3:=s3.rules 0 rfl
 obtain ⟨a,cap,rfl,_⟩:=own_slice (s3.row 1 rfl)
 have key:∀ (w3:World) (a:Option Addr) (cap:Nat) (l:List It) (x9 x11:Value),l.length≤63→St W0 w3 F (CaL c (.slice a l.length cap) l++L) I→W Tryz.prog (sg c146S7) [(0,.pointer (some ⟨c,0,none⟩)),(1,.int .i64 k),(2,.string (ofL v)),(9,x9),(11,x11)] w3 (finQ Tryz.prog [.tmp 6,.tmp 7,.tmp 8] fun u w'=>∃ rv',St W0 w' F (CaL c rv' ((k,v)::l)++L) I):=by
  intro w3 a cap l x9 x11 hl s3
  have r3:=s3.rules 0 rfl
  simp (disch:=first|omega|exact zF rfl|exact zG rfl|exact fun h=>h|(simp only[zA,zB,zC,zD,bytesW];omega)) only[go_sem,c146L0,c146S4,c146S7,r3]
  refine bdW_built (cells:=(itE (k,v)).toArray) (by kernel_rfl) ?_
  simp (disch:=first|omega|exact zF rfl|exact zG rfl|exact fun h=>h|(simp only[zA,zB,zC,zD,bytesW];omega)) only[go_sem,c146L0,c146S4,c146S7]
  refine bsW_agg ty204mkI rfl (by decide) (by decide) ?_
  have s4:=s3.box (itE (k,v)).toArray 223
  simp (disch:=first|omega|exact zF rfl|exact zG rfl|exact fun h=>h|(simp only[zA,zB,zC,zD,bytesW];omega)) only[go_sem,c146L0,c146S4,c146S7]
  generalize w3.heap.size=y at s4 ⊢
  generalize w3.alloc (.cells (itE (k,v)).toArray 223)=w4 at s4 ⊢
  have s5:St W0 w4 F (.row (.slice a l.length cap) 223 3 l.length (l.flatMap itE)::.blk y (itE (k,v)).toArray 223::.blk c #[.int .i64 64,.slice a l.length cap] 206::L) I :=
   St.front (A:=[_,_]) (D:=[_]) (L:=L) s4
  refine Ret.mono (insert_ok s5 (by omega)) ?_
  rintro u w6 s6
  have s8:St W0 w6 F ([.blk c #[.int .i64 64,.slice a l.length cap] 206,.row u 223 3 (l.length+1) (((k,v)::l).flatMap itE)]++L) I:=by
   have:=s6.sub (L':=.row u 223 3 (l.length+1) (((k,v)::l).flatMap itE)::.blk c #[.int .i64 64,.slice a l.length cap] 206::L) (List.Sublist.cons_cons _ (List.sublist_cons_self _ _))
   exact St.front (A:=[_]) (D:=[_]) (L:=L) this
  obtain ⟨a8,cap8,rfl,_⟩:=own_slice (s8.row 1 rfl)
  have r8:=s8.rules 0 rfl
  simp (disch:=first|omega|exact zF rfl|exact zG rfl|exact fun h=>h|(simp only[zA,zB,zC,zD,bytesW];omega)) only[go_sem,c146L0,c146S4,c146S7,r8]
  exact ⟨_,s8.set 0 rfl 1 (.slice a8 (l.length+1) cap8)⟩
 by_cases h63:l.length<64
 ·have h64:¬ (64:Int)≤l.length:=by omega
  have ec:cutC l=l:=by unfold cutC; rw [if_pos h63]
  rw [ec]
  generalize w2.drew=w3 at s3 r3 ⊢
  simp (disch:=first|omega|exact zF rfl|exact zG rfl|exact fun h=>h|(simp only[zA,zB,zC,zD,bytesW];omega)) only[go_sem,c146L0,c146S4,c146D0,r3,h64]
  exact key _ _ _ _ _ _ (by omega) s3
 have h64:(64:Int)≤l.length:=by omega
 have ec:cutC l=l.eraseIdx (l.length - 1):=by unfold cutC; rw [if_neg h63]
 generalize w2.drew=w3 at s3 r3 ⊢
 simp (disch:=first|omega|exact zF rfl|exact zG rfl|exact fun h=>h|(simp only[zA,zB,zC,zD,bytesW];omega)) only[go_sem,c146D0,r3,h64]
 have hil:l.length - 1<l.length:=by omega
 have e63:(l.length:Int) - 1=((l.length - 1:Nat):Int):=by omega
 rw [e63]
 refine ⟨by constructor <;> omega,?_⟩
 refine W_loopU (fun _:Unit=>[]) (fun _ w'=>w'=w3) (fun _=>0) () rfl rfl ?_
 rintro _ _ rfl
 obtain ⟨g,cp,hg,_⟩:=(s3.row 1 rfl).form (by omega)
 cases hg
 obtain ⟨k0,k1,k2⟩:=item_at (i:=l.length - 1) (s3.row 1 rfl) hil
 rename_i w3
 have h0:(0:Int)≤((l.length - 1:Nat):Int):=by omega
 have h1:¬ ((l.length - 1:Nat):Int)<0:=by omega
 have h2:((l.length - 1:Nat):Int)<l.length:=by omega
 simp (disch:=first|omega|exact zF rfl|exact zG rfl|exact fun h=>h|(simp only[zA,zB,zC,zD,bytesW];omega)) only[go_sem,c146L0,c146S4,c146L0,r3,k0,k2,h0,h1,h2]
 refine ⟨by constructor <;> omega,Ret.mono (delete_ok (i:=l.length - 1) (St.front (A:=[_]) (D:=[_]) (L:=L) s3) hil (by omega)) ?_⟩
 rintro u w4 s4
 have s5:=St.front (A:=[_]) (D:=[.blk c #[.int .i64 64,.slice (some ⟨g,0,none⟩) l.length cap] 206]) (L:=L) s4
 obtain ⟨a5,cap5,rfl,_⟩:=own_slice (s5.row 1 rfl)
 have r5:=s5.rules 0 rfl
 have s6:=s5.set 0 rfl 1 (.slice a5 (l.eraseIdx (l.length - 1)).length cap5)
 simp (disch:=first|omega|exact zF rfl|exact zG rfl|exact fun h=>h|(simp only[zA,zB,zC,zD,bytesW];omega)) only[go_sem,c146L0,c146S4,r5]
 rw [ec]
 have hl63:=cutC_len hl
 rw [ec] at hl63
 exact key _ _ _ _ _ _ hl63 s6
def dropK(k:Int)(l:List It):List It:=match findK k l with | some i=>l.eraseIdx i | none=>l
theorem cdrop_ok(k:Int)(h:St W0 w F (CaL c rv l++L) I)(hl:l.length≤1000000) :
  Ret Tryz.prog 131 [.pointer (some ⟨c,0,none⟩),.int .i64 k] w fun u w'=>∃ rv',St W0 w' F (CaL c rv' (dropK k l)++L) I:=by
 unfold dropK
 refine ent131 _ _ _ _ ?_
 simp (disch:=first|omega|exact zF rfl|exact zG rfl|exact fun h=>h|(simp only[zA,zB,zC,zD,bytesW];omega)) only[go_sem]
 refine Ret.mono (place_ok k h hl) ?_
 rintro _ w2 ⟨rfl,b2⟩
 have s2:=h.call b2
 have r2:=s2.rules 0 rfl
 cases hf:findK k l with
 | none =>
  rw [place_none hf]
  simp (disch:=first|omega|exact zF rfl|exact zG rfl|exact fun h=>h|(simp only[zA,zB,zC,zD,bytesW];omega)) only[go_sem]
  exact ⟨rv,s2⟩
 | some i =>
  obtain ⟨e1,hi,e2⟩:=place_some hf
  rw [e1]
  have hi':(0:Int)≤(i:Int):=by omega
  obtain ⟨a,cap,rfl,_⟩:=own_slice (s2.row 1 rfl)
  simp (disch:=first|omega|exact zF rfl|exact zG rfl|exact fun h=>h|(simp only[zA,zB,zC,zD,bytesW];omega)) only[go_sem,hi',r2]
  refine ⟨by constructor <;> omega,Ret.mono (delete_ok (St.front (A:=[_]) (D:=[_]) (L:=L) s2) hi hl) ?_⟩
  rintro u w3 s3
  have s4:=St.front (A:=[_]) (D:=[.blk c #[.int .i64 64,.slice a l.length cap] 206]) (L:=L) s3
  obtain ⟨a4,cap4,rfl,_⟩:=own_slice (s4.row 1 rfl)
  have r4:=s4.rules 0 rfl
  simp (disch:=first|omega|exact zF rfl|exact zG rfl|exact fun h=>h|(simp only[zA,zB,zC,zD,bytesW];omega)) only[go_sem,r4]
  exact ⟨_,s4.set 0 rfl 1 (.slice a4 (l.eraseIdx i).length cap4)⟩
end
open Go Go.Ann Go.RowKit Go.WideShapes
def nowP(s:Sto)(i:Int):List UInt8:=(stRead s i).2.1
def pgs(s:Sto):List (List UInt8):=(List.range s.hd.pages).map fun i:Nat=>nowP s i
theorem pgs_len(s:Sto):(pgs s).length=s.hd.pages:=by unfold pgs; simp
theorem pgs_get{s:Sto}{i:Nat}(h:i<(pgs s).length):(pgs s)[i]=nowP s i:=by simp [pgs]
structure Live(s:Sto)(l:List It):Prop where
 ok:s.ok
 dead:s.dead=false
 gone:s.disk.gone=false
 few:s.hd.pages≤500
 room:l.length≤64
 nd:(l.map Prod.fst).Nodup
 kept:∀ x∈l,0≤x.1∧x.1<s.hd.pages∧x.2=nowP s x.1
theorem getM_set{κ ν:Type}[DecidableEq κ](a b:κ)(v:ν)(c:Nat):∀ l:List (κ × ν × Nat),getM b (setM a v c l)=if b=a then some v else getM b l
 | []=>by simp only [setM,getM]
 | x::l=>by
  simp only [setM]
  by_cases h:a=x.1
  ·rw [if_pos h]
   simp only [getM]
   by_cases h2:b=x.1
   ·rw [if_pos h2,if_pos (h2.trans h.symm)]
   ·rw [if_neg h2,if_neg h2,if_neg (fun e=>h2 (e.trans h))]
  ·rw [if_neg h]
   simp only [getM]
   by_cases h2:b=x.1
   ·rw [if_pos h2,if_pos h2,if_neg (fun e=>h (e.symm.trans h2))]
   ·rw [if_neg h2,if_neg h2,getM_set a b v c l]
theorem setM_mem{κ ν:Type}[DecidableEq κ]{a:κ}{v:ν}{c:Nat}:∀ {l:List (κ × ν × Nat)} {x:κ × ν × Nat},x∈setM a v c l→(x=(a,v,c)∧getM a l=none)∨(∃ y∈l,x.1=y.1∧x.2.2=y.2.2∧(x=y∨x=(y.1,v,y.2.2)∧a=y.1))
 | [],x,h=>by simp only [setM,List.mem_singleton] at h; exact .inl ⟨h,rfl⟩
 | y::l,x,h=>by
  simp only [setM] at h
  split at h
  ·rename_i e
   rcases List.mem_cons.1 h with rfl | h
   ·exact .inr ⟨y,List.mem_cons_self ..,rfl,rfl,.inr ⟨rfl,e⟩⟩
   ·exact .inr ⟨x,List.mem_cons_of_mem _ h,rfl,rfl,.inl rfl⟩
  ·rename_i hne
   rcases List.mem_cons.1 h with rfl | h
   ·exact .inr ⟨x,List.mem_cons_self ..,rfl,rfl,.inl rfl⟩
   ·rcases setM_mem h with ⟨h,hn⟩ | ⟨z,hz,h⟩
    ·exact .inl ⟨h,by simp only [getM]; rw [if_neg hne]; exact hn⟩
    ·exact .inr ⟨z,List.mem_cons_of_mem _ hz,h⟩
theorem setM_keys{κ ν:Type}[DecidableEq κ]{a:κ}{v:ν}{c:Nat}:∀ {l:List (κ × ν × Nat)},(setM a v c l).map Prod.fst=if (getM a l).isSome then l.map Prod.fst else l.map Prod.fst++[a]
 | []=>rfl
 | x::l=>by
  simp only [setM,getM]
  split
  ·simp
  ·simp only [List.map_cons,setM_keys (l:=l)]
   split <;> simp
theorem setM_born{κ ν:Type}[DecidableEq κ]{a:κ}{v:ν}{c:Nat}:∀ {l:List (κ × ν × Nat)},(setM a v c l).map (fun x=>x.2.2)=if (getM a l).isSome then l.map (fun x=>x.2.2) else l.map (fun x=>x.2.2)++[c]
 | []=>rfl
 | x::l=>by
  simp only [setM,getM]
  split
  ·simp
  ·simp only [List.map_cons,setM_born (l:=l)]
   split <;> simp
theorem getM_none{κ ν:Type}[DecidableEq κ]{a:κ}:∀ {l:List (κ × ν × Nat)},getM a l=none→a ∉ l.map Prod.fst
 | [],_=>by simp
 | x::l,h=>by
  simp only [getM] at h
  split at h
  ·cases h
  ·rename_i hne
   simp only [List.map_cons,List.mem_cons,not_or]
   exact ⟨hne,getM_none h⟩
section
variable {s:Sto}
theorem stReady_ok{i:Int}(hd:s.dead=false)(h0:0≤i)(h1:i<s.hd.pages):stReady s i=0:=by
 unfold stReady
 rw [if_neg (by rw [hd]; decide),if_pos ⟨h0,h1⟩]
theorem home_ready{i:Int}(ok:s.ok)(hg:s.disk.gone=false)(h0:0≤i)(h1:i<s.hd.pages):readyN s.disk (homeN s i)=0:=by
 have:=ok.fit
 unfold readyN homeN
 rw [if_neg (by rw [hg]; decide),if_pos (by omega)]
theorem nowP_eq{i:Int}(ok:s.ok)(hd:s.dead=false)(hg:s.disk.gone=false)(h0:0≤i)(h1:i<s.hd.pages) :
  stRead s i=(s,nowP s i,0)∧nowP s i=(getM i s.dirty).getD (lastL s.disk.late (homeN s i) (s.disk.safe.getD (homeN s i).toNat [])):=by
 have e1:=stReady_ok hd h0 h1
 have e2:=home_ready ok hg h0 h1
 have e3:readN s.disk (homeN s i)=(lastL s.disk.late (homeN s i) (s.disk.safe.getD (homeN s i).toNat []),0):=by unfold readN; rw [if_pos e2]
 unfold nowP stRead
 rw [if_neg (by omega)]
 cases hm:getM i s.dirty with
 | some x=>exact ⟨rfl,rfl⟩
 | none=>simp only [e3]; exact ⟨rfl,rfl⟩
theorem nowP_len{i:Int}(ok:s.ok)(hd:s.dead=false)(hg:s.disk.gone=false)(h0:0≤i)(h1:i<s.hd.pages):(nowP s i).length=256:=by
 rw [(nowP_eq ok hd hg h0 h1).2]
 cases hm:getM i s.dirty with
 | some x =>
  have:∃ b,(i,x,b)∈s.dirty:=by
   revert hm
   generalize s.dirty=l
   induction l with
   | nil=>intro h; cases h
   | cons y l ih =>
    intro h
    simp only [getM] at h
    split at h
    ·rename_i e
     simp only [Option.some.injEq] at h
     exact ⟨y.2.2,by rw [e,← h]; exact List.mem_cons_self ..⟩
    ·obtain ⟨b,hb⟩:=ih h
     exact ⟨b,List.mem_cons_of_mem _ hb⟩
  obtain ⟨b,hb⟩:=this
  exact (ok.keys _ hb).2.2
 | none =>
  refine lastL_256 ?_ fun x hx=>(ok.disk.late x hx).2.2
  have:=ok.fit
  have hh:homeN s i=2+s.hd.room+i:=rfl
  rw [List.getD_eq_getElem?_getD,List.getElem?_eq_getElem (by omega)]
  exact ok.disk.safe _ (List.getElem_mem _)
theorem stWrite_in{i:Int}{d:List UInt8}(ok:s.ok)(hd:s.dead=false)(hg:s.disk.gone=false)(h0:0≤i)(h1:i<s.hd.pages)(hl:d.length≤256) :
  (stWrite s i d).2=0∧(stWrite s i d).1.ok∧(stWrite s i d).1.dead=false∧(stWrite s i d).1.disk=s.disk∧(stWrite s i d).1.hd=s.hd∧∀ j:Int,0≤j→j<s.hd.pages→nowP (stWrite s i d).1 j=if j=i then filledL d else nowP s j:=by
 have e1:=stReady_ok hd h0 h1
 have e:stWrite s i d=({ s with dirty:=setM i (filledL d) s.clock s.dirty,clock:=if (getM i s.dirty).isSome then s.clock else s.clock+1 },0):=by
  unfold stWrite
  rw [if_neg (by omega),if_neg (by omega)]
 have ok':(stWrite s i d).1.ok:=by
  rw [e]
  refine ⟨ok.hd,ok.disk,ok.room,ok.pages,ok.few,ok.fit,fun x hx=>?_,?_,?_,fun x hx=>?_⟩
  ·rcases setM_mem hx with ⟨rfl,_⟩ | ⟨y,hy,h2,h3,rfl | ⟨h4,h5⟩⟩
   ·exact ⟨h0,h1,filledL_length hl⟩
   ·exact ok.keys _ hy
   ·rw [h4]; exact ⟨(ok.keys _ hy).1,(ok.keys _ hy).2.1,filledL_length hl⟩
  ·show ((setM i (filledL d) s.clock s.dirty).map Prod.fst).Nodup
   rw [setM_keys]
   split
   ·exact ok.nd
   ·rename_i hn
    rw [List.nodup_append]
    refine ⟨ok.nd,List.pairwise_singleton _ _,fun a ha b hb=>?_⟩
    rw [List.mem_singleton] at hb
    subst hb
    have:=getM_none (a:=b) (l:=s.dirty) (by simpa using hn)
    exact fun e=>this (e ▸ ha)
  ·show ((setM i (filledL d) s.clock s.dirty).map fun x=>x.2.2).Nodup
   rw [setM_born]
   split
   ·exact ok.born
   ·rw [List.nodup_append]
    refine ⟨ok.born,List.pairwise_singleton _ _,fun a ha b hb=>?_⟩
    rw [List.mem_singleton] at hb
    subst hb
    obtain ⟨x,hx,rfl⟩:=List.mem_map.1 ha
    have:=ok.clock x hx
    omega
  ·show x.2.2<if (getM i s.dirty).isSome then s.clock else s.clock+1
   rcases setM_mem hx with ⟨rfl,hn⟩ | ⟨y,hy,_,h3,_⟩
   ·rw [hn]
    exact Nat.lt_succ_self _
   ·have:=ok.clock y hy
    rw [h3]
    split <;> omega
 refine ⟨by rw [e],ok',by rw [e]; exact hd,by rw [e],by rw [e],fun j hj0 hj1=>?_⟩
 have g1:=(nowP_eq ok hd hg hj0 hj1).2
 have g2:=(nowP_eq (s:=(stWrite s i d).1) ok' (by rw [e]; exact hd) (by rw [e]; exact hg) hj0 (by rw [e]; exact hj1)).2
 rw [g2,g1,e]
 show (getM j (setM i (filledL d) s.clock s.dirty)).getD _=_
 rw [getM_set]
 split
 ·rfl
 ·rfl
end
structure En where
 p:Nat
 b:Nat
 mb:Nat
 g:Nat
 c:Nat
 vb:Value
 vl:Value
 hd:Hd
 m:Dk
def PgL(e:En)(rv:Value)(l:List It)(s:Sto):List Res :=
 [.blk e.p #[.pointer (some ⟨e.b,0,none⟩),.pointer (some ⟨e.c,0,none⟩)] 98]++(StoL e.b e.mb e.g e.vb e.vl s++CaL e.c rv l)
theorem St.mid{W0 w:World}{F:Nat→Prop}{A B C L:List Res}{I:List Inv}(h:St W0 w F (A++(B++C)++L) I):St W0 w F (B++((A++C)++L)) I :=
 h.perm (by
  have:=(List.perm_append_comm (l₁:=B) (l₂:=A)).append_right (C++L)
  simpa only [List.append_assoc] using this)
theorem St.unmid{W0 w:World}{F:Nat→Prop}{A B C L:List Res}{I:List Inv}(h:St W0 w F (B++((A++C)++L)) I):St W0 w F (A++(B++C)++L) I :=
 h.perm (by
  have:=(List.perm_append_comm (l₁:=A) (l₂:=B)).append_right (C++L)
  simpa only [List.append_assoc] using this)
theorem St.last{W0 w:World}{F:Nat→Prop}{A B C L:List Res}{I:List Inv}(h:St W0 w F (A++(B++C)++L) I):St W0 w F (C++((A++B)++L)) I :=
 h.perm (by
  have:=(List.perm_append_comm (l₁:=C) (l₂:=A++B)).append_right L
  simpa only [List.append_assoc] using this)
theorem St.unlast{W0 w:World}{F:Nat→Prop}{A B C L:List Res}{I:List Inv}(h:St W0 w F (C++((A++B)++L)) I):St W0 w F (A++(B++C)++L) I :=
 h.perm (by
  have:=(List.perm_append_comm (l₁:=A++B) (l₂:=C)).append_right L
  simpa only [List.append_assoc] using this)
def Pgr(e:En)(P:List (List UInt8))(W0 w:World)(F:Nat→Prop)(L:List Res)(I:List Inv):Prop :=
 ∃ rv l s,St W0 w F (PgL e rv l s++L) I∧Live s l∧s.hd=e.hd∧s.disk=e.m∧pgs s=P
theorem nodup_few:∀ (n:Nat) (l:List Int),l.Nodup→(∀ x∈l,0≤x∧x<n)→l.length≤n
 | 0,l,_,h=>by
  cases l with
  | nil=>exact Nat.le_refl _
  | cons x l=>have:=h x (List.mem_cons_self ..); omega
 | n+1,l,hn,h=>by
  by_cases hm:(n:Int)∈l
  ·have h1:=nodup_few n (l.erase n) (hn.erase _) fun x hx=>by
    have h2:=h x (List.mem_of_mem_erase hx)
    have h3:x≠(n:Int):=fun e=>by subst e; exact (List.Nodup.not_mem_erase hn) hx
    omega
   rw [List.length_erase_of_mem hm] at h1
   have:0<l.length:=List.length_pos_of_mem hm
   omega
  ·have h1:=nodup_few n l hn fun x hx=>by
    have h2:=h x hx
    have h3:x≠(n:Int):=fun e=>hm (e ▸ hx)
    omega
   omega
theorem Live.len{s:Sto}{l:List It}(h:Live s l):l.length≤s.hd.pages:=by
 have:=nodup_few s.hd.pages (l.map Prod.fst) h.nd fun x hx=>by
  obtain ⟨y,hy,rfl⟩:=List.mem_map.1 hx
  exact ⟨(h.kept y hy).1,(h.kept y hy).2.1⟩
 rwa [List.length_map] at this
theorem get_erase_perm{α:Type}:∀ {l:List α} {i:Nat} (hi:i<l.length),(l[i]::l.eraseIdx i).Perm l
 | a::l,0,_=>List.Perm.refl _
 | a::l,i+1,hi=>by
  have:=get_erase_perm (l:=l) (i:=i) (by simpa using hi)
  simp only [List.getElem_cons_succ,List.eraseIdx_cons_succ]
  exact (List.Perm.swap _ _ _).trans (this.cons a)
theorem Live.front{s:Sto}{l:List It}{i:Nat}(h:Live s l)(hi:i<l.length):Live s (l[i]::l.eraseIdx i) :=
 ⟨h.ok,h.dead,h.gone,h.few,by rw [(get_erase_perm hi).length_eq]; exact h.room,((get_erase_perm hi).map Prod.fst).nodup_iff.2 h.nd,fun x hx=>h.kept x ((get_erase_perm hi).subset hx)⟩
theorem Live.erase{s:Sto}{l:List It}(h:Live s l)(i:Nat):Live s (l.eraseIdx i) :=
 ⟨h.ok,h.dead,h.gone,h.few,Nat.le_trans (List.eraseIdx_sublist l i).length_le h.room,h.nd.sublist ((List.eraseIdx_sublist l i).map _),fun x hx=>h.kept x ((List.eraseIdx_sublist l i).subset hx)⟩
theorem findK_none{k:Int}{l:List It}(h:findK k l=none):∀ x∈l,x.1≠k:=by
 unfold findK at h
 rw [List.findIdx?_eq_none_iff] at h
 intro x hx
 simpa using h x hx
theorem pgs_now{s:Sto}{P:List (List UInt8)}(e:pgs s=P){i:Int}(h0:0≤i)(h1:i<P.length):nowP s i=P.getD i.toNat []∧i<s.hd.pages:=by
 subst e
 have hl:=pgs_len s
 refine ⟨?_,by omega⟩
 rw [List.getD_eq_getElem?_getD,List.getElem?_eq_getElem (by omega),Option.getD_some,pgs_get]
 congr 1; omega
theorem pgs_eq{s:Sto}{P:List (List UInt8)}(hl:P.length=s.hd.pages)(h:∀ i:Nat,i<P.length→nowP s i=P.getD i []):pgs s=P:=by
 refine List.ext_getElem (by rw [pgs_len,hl]) fun i h1 h2=>?_
 rw [pgs_get,h i h2,List.getD_eq_getElem?_getD,List.getElem?_eq_getElem h2]; rfl
section
variable {W0 w:World} {F:Nat→Prop} {L:List Res} {I:List Inv} {e:En} {P:List (List UInt8)}
theorem Pgr.below(h:Pgr e P W0 w F L I){w':World}(hb:Below w.heap.size w w'):Pgr e P W0 w' F L I:=by
 obtain ⟨rv,l,s,h1,h2⟩:=h
 exact ⟨rv,l,s,h1.call hb,h2⟩
theorem Pgr.drew(h:Pgr e P W0 w F L I):Pgr e P W0 w.drew F L I:=by
 obtain ⟨rv,l,s,h1,h2⟩:=h
 exact ⟨rv,l,s,h1.drew,h2⟩
theorem Pgr.len(h:Pgr e P W0 w F L I):P.length=e.hd.pages∧P.length≤500:=by
 obtain ⟨rv,l,s,h1,h2,h3,h4,h5⟩:=h
 have:=h2.few
 rw [← h5,pgs_len,h3]
 rw [h3] at this
 exact ⟨rfl,this⟩
theorem Pgr.full(h:Pgr e P W0 w F L I):∀ x∈P,x.length=256:=by
 obtain ⟨rv,l,s,h1,h2,h3,h4,h5⟩:=h
 subst h5
 intro x hx
 obtain ⟨i,hi,rfl⟩:=List.mem_map.1 hx
 rw [List.mem_range] at hi
 exact nowP_len h2.ok h2.dead h2.gone (by omega) (by omega)
theorem pread_ok(i:Int)(h:Pgr e P W0 w F L I)(h0:0≤i)(h1:i<P.length) :
  Ret Tryz.prog 97 [.pointer (some ⟨e.p,0,none⟩),.int .i64 i] w fun u w'=>u=.tuple #[.string (ofL (P.getD i.toNat [])),.int .i64 0]∧Pgr e P W0 w' F L I:=by
 obtain ⟨rv,l,s,hs,hv,e1,e2,e3⟩:=h
 obtain ⟨en,hlt⟩:=pgs_now e3 h0 h1
 have hll:=hv.len
 have hfw:=hv.few
 have r1:=hs.rules 0 rfl
 refine ent97 _ _ _ _ ?_
 simp (disch:=first|omega|exact zF rfl|exact zG rfl|exact fun h=>h|(simp only[zA,zB,zC,zD,bytesW];omega)) only[go_sem,r1]
 refine Ret.mono (cget_ok i (St.last hs) (by omega)) ?_
 rintro _ w2 ⟨rfl,s2⟩
 cases hf:findK i l with
 | some j =>
  obtain ⟨_,hj,hk⟩:=place_some hf
  have eg:l.getD j (0,[])=l[j]:=by rw [List.getD_eq_getElem?_getD,List.getElem?_eq_getElem hj]; rfl
  have ec:getC i l=(l[j].2,true,l[j]::l.eraseIdx j):=by unfold getC; rw [hf]; simp only [eg]
  rw [ec] at s2 ⊢
  simp (disch:=first|omega|exact zF rfl|exact zG rfl|exact fun h=>h|(simp only[zA,zB,zC,zD,bytesW];omega)) only[go_sem]
  refine ⟨?_,rv,_,s,St.unlast s2,hv.front hj,e1,e2,e3⟩
  rw [(hv.kept l[j] (List.getElem_mem hj)).2.2,hk,en]
 | none =>
  have ec:getC i l=([],false,l):=by unfold getC; rw [hf]
  rw [ec] at s2 ⊢
  have s2':=St.unlast s2
  have r2:=s2'.rules 0 rfl
  simp (disch:=first|omega|exact zF rfl|exact zG rfl|exact fun h=>h|(simp only[zA,zB,zC,zD,bytesW];omega)) only[go_sem,r2]
  refine Ret.mono (sread_ok i (St.mid s2') hv.ok) ?_
  rintro _ w3 ⟨rfl,s3⟩
  have hq:=(nowP_eq hv.ok hv.dead hv.gone h0 hlt).1
  rw [hq] at s3 ⊢
  have s3':=St.unmid s3
  have r3:=s3'.rules 0 rfl
  have hnk:=findK_none hf
  simp (disch:=first|omega|exact zF rfl|exact zG rfl|exact fun h=>h|(simp only[zA,zB,zC,zD,bytesW];omega)) only[go_sem,r3]
  refine Ret.mono (cput_ok (v:=nowP s i) (St.last s3') hf hv.room) ?_
  rintro u w4 ⟨rv',s4⟩
  simp (disch:=first|omega|exact zF rfl|exact zG rfl|exact fun h=>h|(simp only[zA,zB,zC,zD,bytesW];omega)) only[go_sem]
  have hsub:=cutC_sub l
  refine ⟨by rw [en],rv',_,s,St.unlast s4,⟨hv.ok,hv.dead,hv.gone,hv.few,by have:=cutC_len hv.room; rw [List.length_cons]; show (cutC l).length+1≤64; omega,?_,?_⟩,e1,e2,e3⟩
  ·rw [List.map_cons,List.nodup_cons]
   refine ⟨fun hm=>?_,hv.nd.sublist (hsub.map _)⟩
   obtain ⟨y,hy,he⟩:=List.mem_map.1 hm
   exact hnk y (hsub.subset hy) he
  ·intro x hx
   rcases List.mem_cons.1 hx with rfl | hx
   ·exact ⟨h0,hlt,rfl⟩
   ·exact hv.kept x (hsub.subset hx)
theorem pwrite_ok(i:Int)(d:List UInt8)(h:Pgr e P W0 w F L I)(h0:0≤i)(h1:i<P.length) :
  Ret Tryz.prog 70 [.pointer (some ⟨e.p,0,none⟩),.int .i64 i,.string (ofL d)] w fun u w'=>u=.int .i64 (if 256<d.length then 21 else 0)∧Pgr e (if 256<d.length then P else P.set i.toNat (filledL d)) W0 w' F L I:=by
 obtain ⟨rv,l,s,hs,hv,e1,e2,e3⟩:=h
 obtain ⟨en,hlt⟩:=pgs_now e3 h0 h1
 have hll:=hv.len
 have hfw:=hv.few
 have r1:=hs.rules 0 rfl
 refine ent70 _ _ _ _ _ ?_
 simp (disch:=first|omega|exact zF rfl|exact zG rfl|exact fun h=>h|(simp only[zA,zB,zC,zD,bytesW];omega)) only[go_sem,r1]
 refine Ret.mono (cdrop_ok i (St.last hs) (by omega)) ?_
 rintro u w2 ⟨rv',s2⟩
 have hv2:∃ l',dropK i l=l'∧Live s l'∧∀ x∈l',x.1≠i:=by
  refine ⟨_,rfl,?_⟩
  unfold dropK
  cases hf:findK i l with
  | none=>exact ⟨hv,findK_none hf⟩
  | some j =>
   obtain ⟨_,hj,hk⟩:=place_some hf
   refine ⟨hv.erase j,fun x hx he=>?_⟩
   have hn:=((get_erase_perm hj).map Prod.fst).nodup_iff.2 hv.nd
   rw [List.map_cons,List.nodup_cons] at hn
   exact hn.1 (by rw [hk,← he]; exact List.mem_map_of_mem hx)
 obtain ⟨l',el,hv2,hne⟩:=hv2
 rw [el] at s2
 have s2':=St.unlast s2
 have r2:=s2'.rules 0 rfl
 simp (disch:=first|omega|exact zF rfl|exact zG rfl|exact fun h=>h|(simp only[zA,zB,zC,zD,bytesW];omega)) only[go_sem,r2]
 refine Ret.mono (swrite_ok i d (St.mid s2')) ?_
 rintro _ w3 ⟨rfl,s3⟩
 have s3':=St.unmid s3
 simp (disch:=first|omega|exact zF rfl|exact zG rfl|exact fun h=>h|(simp only[zA,zB,zC,zD,bytesW];omega)) only[go_sem]
 by_cases hd:256<d.length
 ·have ew:stWrite s i d=(s,21):=by
   unfold stWrite
   rw [if_neg (by rw [stReady_ok hv.dead h0 hlt]; decide),if_pos hd]
  rw [ew] at s3' ⊢
  rw [if_pos hd,if_pos hd]
  exact ⟨rfl,rv',l',s,s3',hv2,e1,e2,e3⟩
 ·obtain ⟨w1,w2,w3,w4,w5,w6⟩:=stWrite_in hv.ok hv.dead hv.gone h0 hlt (d:=d) (by omega)
  rw [w1,if_neg hd,if_neg hd]
  refine ⟨rfl,rv',l',_,s3',⟨w2,w3,by rw [w4]; exact hv.gone,by rw [w5]; exact hv.few,hv2.room,hv2.nd,fun x hx=>?_⟩,w5.trans e1,w4.trans e2,?_⟩
  ·obtain ⟨k0,k1,k2⟩:=hv2.kept x hx
   refine ⟨k0,by rw [w5]; exact k1,?_⟩
   rw [w6 _ k0 k1,if_neg (hne x hx)]
   exact k2
  ·have hpl:P.length=s.hd.pages:=by rw [← e3,pgs_len]
   refine pgs_eq (by rw [w5,List.length_set,hpl]) fun j hj=>?_
   rw [List.length_set] at hj
   rw [w6 j (by omega) (by omega)]
   have:=(pgs_now e3 (i:=(j:Int)) (by omega) (by omega)).1
   by_cases he:(j:Int)=i
   ·rw [if_pos he]
    subst he
    rw [List.getD_eq_getElem?_getD,Int.toNat_natCast,List.getElem?_set_self hj]; rfl
   ·rw [if_neg he,this,List.getD_eq_getElem?_getD,List.getD_eq_getElem?_getD,List.getElem?_set_ne (by omega),Int.toNat_natCast]
end
open Go Go.Ann Go.RowKit Go.WideShapes
def usedP(P:List (List UInt8)):List UInt8:=P.getD 0 []
def chkN(P:List (List UInt8))(i:Int):Int:=if 2≤i∧i<P.length∧hasL (usedP P) i=true then 0 else 6
def markP(P:List (List UInt8))(i:Int)(b:Bool):List (List UInt8):=P.set 0 (filledL (withL (usedP P) i b))
def emptyP(P:List (List UInt8))(i:Int):List (List UInt8):=P.set i.toNat (filledL [])
def cntN(U:List UInt8)(m:Nat):Nat:=((List.range m).filter fun j:Nat=>hasL U j).length
theorem cntN_succ(U:List UInt8)(m:Nat):cntN U (m+1)=cntN U m+if hasL U m=true then 1 else 0:=by
 unfold cntN
 rw [List.range_succ,List.filter_append,List.length_append]
 congr 1
 by_cases h:hasL U m=true
 ·rw [if_pos h]; simp only [List.filter_cons,List.filter_nil,h]; rfl
 ·rw [if_neg h]; simp only [List.filter_cons,List.filter_nil,h]; rfl
theorem cntN_le(U:List UInt8)(m:Nat):cntN U m≤m:=by
 unfold cntN
 exact Nat.le_trans (List.length_filter_le _ _) (by simp)
theorem cnt8(U:List UInt8):∀ k,k≤U.length→cntN U (8 * k)=countL (U.take k)
 | 0,_=>by simp [cntN,countL]
 | k+1,h=>by
  rw [countL_take U k (by omega),← cnt8 U k (by omega)]
  unfold cntN popN
  rw [show 8 * (k+1)=8 * k+8 by omega,List.range_add,List.filter_append,List.length_append,List.filter_map,List.length_map]
  congr 2
  refine List.filter_congr fun r hr=>?_
  rw [List.mem_range] at hr
  have hl:=hasL_in U ((8 * k+r:Nat):Int) (by omega)
  rw [Function.comp_apply,hl]
  congr 1
  ·congr 1; omega
  ·omega
def roomN(P:List (List UInt8)):Nat:=P.length - cntN (usedP P) P.length
def lowP(P:List (List UInt8)):Option Nat:=(List.range P.length).find? fun i:Nat=>decide (2≤i) && !hasL (usedP P) i
theorem low_same{P:List (List UInt8)}{v:Int}{ok:Bool}(hu:(usedP P).length=256)(hp:P.length≤500)(h:IsLow (usedP P) 2 P.length v ok) :
  (lowP P=none∧ok=false)∨(∃ k:Nat,lowP P=some k∧v=k∧ok=true∧2≤k∧k<P.length):=by
 rcases h with ⟨rfl,h1,h2,h3,h4,h5,h6⟩ | ⟨rfl,rfl,h6⟩
 ·refine .inr ⟨v.toNat,?_,by omega,rfl,by omega,by omega⟩
  unfold lowP
  rw [List.find?_range_eq_some]
  refine ⟨?_,?_,?_⟩
  ·rw [show ((v.toNat:Nat):Int)=v by omega,h5]; simp; omega
  ·rw [List.mem_range]; omega
  ·intro j hj
   by_cases h2j:2≤j
   ·rw [h6 j (by omega) (by omega) (by omega)]; simp
   ·simp [h2j]
 ·refine .inl ⟨?_,rfl⟩
  unfold lowP
  rw [List.find?_eq_none]
  intro j hj
  rw [List.mem_range] at hj
  by_cases h2j:2≤j
  ·rw [h6 j (by omega) (by omega) (by omega) (by omega)]; simp
  ·simp [h2j]
section
variable {W0 w:World} {F:Nat→Prop} {L:List Res} {I:List Inv} {e:En} {P:List (List UInt8)}
theorem Pgr.blk(h:Pgr e P W0 w F L I):Blk w e.p #[.pointer (some ⟨e.b,0,none⟩),.pointer (some ⟨e.c,0,none⟩)] 98:=by
 obtain ⟨rv,l,s,hs,_⟩:=h
 exact hs.blk 0 rfl
theorem pslen_ok(h:Pgr e P W0 w F L I) :
  Ret Tryz.prog 47 [.pointer (some ⟨e.b,0,none⟩)] w fun u w'=>u=.int .i64 P.length∧w'=w:=by
 obtain ⟨rv,l,s,hs,hv,e1,e2,e3⟩:=h
 refine Ret.mono (slen_ok (St.mid hs)) ?_
 rintro _ w2 ⟨rfl,e⟩
 exact ⟨by rw [← e3,pgs_len],e⟩
theorem made_ok(h:Pgr e P W0 w F L I) :
  Ret Tryz.prog 96 [.pointer (some ⟨e.p,0,none⟩)] w fun u w'=>u=.bool true∧w'=w:=by
 have r1:=h.blk.rules
 refine ent96 _ _ _ ?_
 simp (disch:=first|omega|exact zF rfl|exact zG rfl|exact fun h=>h|(simp only[zA,zB,zC,zD,bytesW];omega)) only[go_sem,r1]
theorem used_ok(h:Pgr e P W0 w F L I)(h3:3≤P.length) :
  Ret Tryz.prog 46 [.pointer (some ⟨e.p,0,none⟩)] w fun u w'=>u=.tuple #[.string (ofL (usedP P)),.int .i64 0]∧Pgr e P W0 w' F L I:=by
 refine ent46 _ _ _ ?_
 simp (disch:=first|omega|exact zF rfl|exact zG rfl|exact fun h=>h|(simp only[zA,zB,zC,zD,bytesW];omega)) only[go_sem]
 refine Ret.mono (made_ok h) ?_
 rintro _ w2 ⟨rfl,e2⟩
 subst w2
 simp (disch:=first|omega|exact zF rfl|exact zG rfl|exact fun h=>h|(simp only[zA,zB,zC,zD,bytesW];omega)) only[go_sem]
 refine Ret.mono (pread_ok 0 h (by decide) (by omega)) ?_
 rintro _ w2 ⟨rfl,h2⟩
 simp (disch:=first|omega|exact zF rfl|exact zG rfl|exact fun h=>h|(simp only[zA,zB,zC,zD,bytesW];omega)) only[go_sem]
 first | exact h2 | exact ⟨rfl,h2⟩
theorem Pgr.used256(h:Pgr e P W0 w F L I)(h3:3≤P.length):(usedP P).length=256:=by
 refine h.full _ ?_
 unfold usedP
 rw [List.getD_eq_getElem?_getD,List.getElem?_eq_getElem (by omega)]
 exact List.getElem_mem _
theorem check_ok(i:Int)(h:Pgr e P W0 w F L I)(h3:3≤P.length)(hi:I64 i) :
  Ret Tryz.prog 69 [.pointer (some ⟨e.p,0,none⟩),.int .i64 i] w fun u w'=>u=.int .i64 (chkN P i)∧Pgr e P W0 w' F L I:=by
 refine ent69 _ _ _ _ ?_
 simp (disch:=first|omega|exact zF rfl|exact zG rfl|exact fun h=>h|(simp only[zA,zB,zC,zD,bytesW];omega)) only[go_sem]
 refine Ret.mono (used_ok h h3) ?_
 rintro _ w2 ⟨rfl,h2⟩
 simp (disch:=first|omega|exact zF rfl|exact zG rfl|exact fun h=>h|(simp only[zA,zB,zC,zD,bytesW];omega)) only[go_sem]
 by_cases c1:2≤i
 case neg =>
  have c1':i<2:=by omega
  have e:chkN P i=6:=by unfold chkN; rw [if_neg (fun hc=>c1 hc.1)]
  rw [e]
  simp (disch:=first|omega|exact zF rfl|exact zG rfl|exact fun h=>h|(simp only[zA,zB,zC,zD,bytesW];omega)) only[go_sem,c1,c1']
  exact h2
 have c1':¬ i<2:=by omega
 have r2:=h2.blk.rules
 simp (disch:=first|omega|exact zF rfl|exact zG rfl|exact fun h=>h|(simp only[zA,zB,zC,zD,bytesW];omega)) only[go_sem,c1,c1',r2]
 refine Ret.mono (pslen_ok h2) ?_
 rintro _ w3 ⟨rfl,e3⟩
 subst w3
 by_cases c2:i<P.length
 case neg =>
  have c2':(P.length:Int)≤i:=by omega
  have e:chkN P i=6:=by unfold chkN; rw [if_neg (fun hc=>c2 hc.2.1)]
  rw [e]
  simp (disch:=first|omega|exact zF rfl|exact zG rfl|exact fun h=>h|(simp only[zA,zB,zC,zD,bytesW];omega)) only[go_sem,c2,c2']
  exact h2
 have c2':¬ (P.length:Int)≤i:=by omega
 simp (disch:=first|omega|exact zF rfl|exact zG rfl|exact fun h=>h|(simp only[zA,zB,zC,zD,bytesW];omega)) only[go_sem,c2,c2']
 refine Ret.mono (has_ok _ i _ hi) ?_
 rintro _ w4 ⟨rfl,e4⟩
 subst w4
 cases hh:hasL (usedP P) i with
 | true =>
  have e:chkN P i=0:=by unfold chkN; rw [if_pos ⟨c1,c2,hh⟩]
  rw [e]
  simp (disch:=first|omega|exact zF rfl|exact zG rfl|exact fun h=>h|(simp only[zA,zB,zC,zD,bytesW];omega)) only[go_sem]
  exact h2
 | false =>
  have e:chkN P i=6:=by unfold chkN; rw [if_neg (fun hc=>by rw [hh] at hc; cases hc.2.2)]
  rw [e]
  simp (disch:=first|omega|exact zF rfl|exact zG rfl|exact fun h=>h|(simp only[zA,zB,zC,zD,bytesW];omega)) only[go_sem]
  exact h2
def allocN(P:List (List UInt8)):List (List UInt8) × Int × Int:=match lowP P with
 | some k=>(emptyP (markP P k true) k,k,0)
 | none=>(P,0,13)
theorem filled256{l:List UInt8}(h:l.length=256):filledL l=l:=by unfold filledL; rw [h]; simp
theorem palloc_ok(h:Pgr e P W0 w F L I)(h3:3≤P.length) :
  Ret Tryz.prog 64 [.pointer (some ⟨e.p,0,none⟩)] w fun u w'=>u=.tuple #[.int .i64 (allocN P).2.1,.int .i64 (allocN P).2.2]∧Pgr e (allocN P).1 W0 w' F L I:=by
 have h64:=h.len.2
 have hu:=h.used256 h3
 refine ent64 _ _ _ ?_
 simp (disch:=first|omega|exact zF rfl|exact zG rfl|exact fun h=>h|(simp only[zA,zB,zC,zD,bytesW];omega)) only[go_sem]
 refine Ret.mono (used_ok h h3) ?_
 rintro _ w2 ⟨rfl,h2⟩
 have r2:=h2.blk.rules
 simp (disch:=first|omega|exact zF rfl|exact zG rfl|exact fun h=>h|(simp only[zA,zB,zC,zD,bytesW];omega)) only[go_sem,r2]
 refine Ret.mono (pslen_ok h2) ?_
 rintro _ w3 ⟨rfl,e3⟩
 subst w3
 simp (disch:=first|omega|exact zF rfl|exact zG rfl|exact fun h=>h|(simp only[zA,zB,zC,zD,bytesW];omega)) only[go_sem]
 refine Ret.mono (lowest_ok (usedP P) 2 P.length w2 ⟨by omega,by omega⟩ ⟨by omega,by omega⟩ (by rw [hu]; decide)) ?_
 rintro _ w4 ⟨v,ok,rfl,hlow,e4⟩
 subst w4
 unfold allocN
 rcases low_same hu h64 hlow with ⟨hn,rfl⟩ | ⟨k,hk,rfl,rfl,h2k,hlk⟩
 ·rw [hn]
  simp (disch:=first|omega|exact zF rfl|exact zG rfl|exact fun h=>h|(simp only[zA,zB,zC,zD,bytesW];omega)) only[go_sem]
  first | exact h2 | exact ⟨rfl,h2⟩
 ·rw [hk]
  simp (disch:=first|omega|exact zF rfl|exact zG rfl|exact fun h=>h|(simp only[zA,zB,zC,zD,bytesW];omega)) only[go_sem]
  refine Ret.mono (with_ok (usedP P) k true w2 ⟨by omega,by omega⟩) ?_
  rintro _ w5 ⟨rfl,b5⟩
  have h5:=h2.below b5
  simp (disch:=first|omega|exact zF rfl|exact zG rfl|exact fun h=>h|(simp only[zA,zB,zC,zD,bytesW];omega)) only[go_sem]
  refine Ret.mono (pwrite_ok 0 _ h5 (by decide) (by omega)) ?_
  rintro _ w6 ⟨rfl,h6⟩
  rw [if_neg (by rw [withL_length,hu]; decide)] at h6 ⊢
  simp (disch:=first|omega|exact zF rfl|exact zG rfl|exact fun h=>h|(simp only[zA,zB,zC,zD,bytesW];omega)) only[go_sem]
  refine Ret.mono (pwrite_ok k [] h6 (by omega) (by rw [List.length_set]; omega)) ?_
  rintro _ w7 ⟨rfl,h7⟩
  simp (disch:=first|omega|exact zF rfl|exact zG rfl|exact fun h=>h|(simp only[zA,zB,zC,zD,bytesW];omega)) only[go_sem]
  first | exact h7 | exact ⟨rfl,h7⟩
def freeN(P:List (List UInt8))(i:Int):List (List UInt8) × Int:=if chkN P i≠0 then (P,chkN P i) else (markP P i false,0)
theorem pfree_ok(i:Int)(h:Pgr e P W0 w F L I)(h3:3≤P.length)(hi:I64 i) :
  Ret Tryz.prog 81 [.pointer (some ⟨e.p,0,none⟩),.int .i64 i] w fun u w'=>u=.int .i64 (freeN P i).2∧Pgr e (freeN P i).1 W0 w' F L I:=by
 have hu:=h.used256 h3
 refine ent81 _ _ _ _ ?_
 simp (disch:=first|omega|exact zF rfl|exact zG rfl|exact fun h=>h|(simp only[zA,zB,zC,zD,bytesW];omega)) only[go_sem]
 refine Ret.mono (check_ok i h h3 hi) ?_
 rintro _ w2 ⟨rfl,h2⟩
 unfold freeN
 by_cases hc:chkN P i=0
 case neg =>
  rw [if_pos hc]
  simp (disch:=first|omega|exact zF rfl|exact zG rfl|exact fun h=>h|(simp only[zA,zB,zC,zD,bytesW];omega)) only[go_sem,hc]
  first | exact h2 | exact ⟨rfl,h2⟩
 rw [if_neg (by omega)]
 simp (disch:=first|omega|exact zF rfl|exact zG rfl|exact fun h=>h|(simp only[zA,zB,zC,zD,bytesW];omega)) only[go_sem,hc]
 refine Ret.mono (used_ok h2 h3) ?_
 rintro _ w3 ⟨rfl,h3'⟩
 simp (disch:=first|omega|exact zF rfl|exact zG rfl|exact fun h=>h|(simp only[zA,zB,zC,zD,bytesW];omega)) only[go_sem]
 refine Ret.mono (with_ok (usedP P) i false w3 hi) ?_
 rintro _ w5 ⟨rfl,b5⟩
 have h5:=h3'.below b5
 simp (disch:=first|omega|exact zF rfl|exact zG rfl|exact fun h=>h|(simp only[zA,zB,zC,zD,bytesW];omega)) only[go_sem]
 refine Ret.mono (pwrite_ok 0 _ h5 (by decide) (by omega)) ?_
 rintro _ w6 ⟨rfl,h6⟩
 rw [if_neg (by rw [withL_length,hu]; decide)] at h6 ⊢
 simp (disch:=first|omega|exact zF rfl|exact zG rfl|exact fun h=>h|(simp only[zA,zB,zC,zD,bytesW];omega)) only[go_sem]
 first | exact h6 | exact ⟨rfl,h6⟩
def getN(P:List (List UInt8))(i:Int):List UInt8 × Int:=if chkN P i≠0 then ([],chkN P i) else (P.getD i.toNat [],0)
theorem chk_in{P:List (List UInt8)}{i:Int}(h:chkN P i=0):2≤i∧i<P.length:=by
 unfold chkN at h
 split at h
 ·rename_i hh; exact ⟨hh.1,hh.2.1⟩
 ·cases h
theorem pget_ok(i:Int)(h:Pgr e P W0 w F L I)(h3:3≤P.length)(hi:I64 i) :
  Ret Tryz.prog 39 [.pointer (some ⟨e.p,0,none⟩),.int .i64 i] w fun u w'=>u=.tuple #[.string (ofL (getN P i).1),.int .i64 (getN P i).2]∧Pgr e P W0 w' F L I:=by
 refine ent39 _ _ _ _ ?_
 simp (disch:=first|omega|exact zF rfl|exact zG rfl|exact fun h=>h|(simp only[zA,zB,zC,zD,bytesW];omega)) only[go_sem]
 refine Ret.mono (check_ok i h h3 hi) ?_
 rintro _ w2 ⟨rfl,h2⟩
 unfold getN
 by_cases hc:chkN P i=0
 case neg =>
  rw [if_pos hc]
  simp (disch:=first|omega|exact zF rfl|exact zG rfl|exact fun h=>h|(simp only[zA,zB,zC,zD,bytesW];omega)) only[go_sem,hc]
  first | exact h2 | exact ⟨rfl,h2⟩
 obtain ⟨c1,c2⟩:=chk_in hc
 rw [if_neg (by omega)]
 simp (disch:=first|omega|exact zF rfl|exact zG rfl|exact fun h=>h|(simp only[zA,zB,zC,zD,bytesW];omega)) only[go_sem,hc]
 refine Ret.mono (pread_ok i h2 (by omega) c2) ?_
 rintro _ w3 ⟨rfl,h3'⟩
 simp (disch:=first|omega|exact zF rfl|exact zG rfl|exact fun h=>h|(simp only[zA,zB,zC,zD,bytesW];omega)) only[go_sem]
 first | exact h3' | exact ⟨rfl,h3'⟩
def setPN(P:List (List UInt8))(i:Int)(d:List UInt8):List (List UInt8) × Int:=if chkN P i≠0 then (P,chkN P i) else if 256<d.length then (P,21) else (P.set i.toNat (filledL d),0)
theorem pset_ok(i:Int)(d:List UInt8)(h:Pgr e P W0 w F L I)(h3:3≤P.length)(hi:I64 i) :
  Ret Tryz.prog 19 [.pointer (some ⟨e.p,0,none⟩),.int .i64 i,.string (ofL d)] w fun u w'=>u=.int .i64 (setPN P i d).2∧Pgr e (setPN P i d).1 W0 w' F L I:=by
 refine ent19 _ _ _ _ _ ?_
 simp (disch:=first|omega|exact zF rfl|exact zG rfl|exact fun h=>h|(simp only[zA,zB,zC,zD,bytesW];omega)) only[go_sem]
 refine Ret.mono (check_ok i h h3 hi) ?_
 rintro _ w2 ⟨rfl,h2⟩
 unfold setPN
 by_cases hc:chkN P i=0
 case neg =>
  rw [if_pos hc]
  simp (disch:=first|omega|exact zF rfl|exact zG rfl|exact fun h=>h|(simp only[zA,zB,zC,zD,bytesW];omega)) only[go_sem,hc]
  first | exact h2 | exact ⟨rfl,h2⟩
 obtain ⟨c1,c2⟩:=chk_in hc
 rw [if_neg (by omega)]
 simp (disch:=first|omega|exact zF rfl|exact zG rfl|exact fun h=>h|(simp only[zA,zB,zC,zD,bytesW];omega)) only[go_sem,hc]
 refine Ret.mono (pwrite_ok i d h2 (by omega) c2) ?_
 rintro _ w3 ⟨rfl,h3'⟩
 simp (disch:=first|omega|exact zF rfl|exact zG rfl|exact fun h=>h|(simp only[zA,zB,zC,zD,bytesW];omega)) only[go_sem]
 by_cases hd:256<d.length
 ·rw [if_pos hd] at h3'
  rw [if_pos hd,if_pos hd]
  first | exact h3' | exact ⟨rfl,h3'⟩
 ·rw [if_neg hd] at h3'
  rw [if_neg hd,if_neg hd]
  first | exact h3' | exact ⟨rfl,h3'⟩
def rootB(P:List (List UInt8)):List UInt8:=P.getD 1 []
def rootN(P:List (List UInt8))(i:Int):Int × Int:=if 0≤i∧i<16 then (unfixL (cutL (rootB P) (4 * i) (4 * i+4)),0) else (0,1)
theorem Pgr.root256(h:Pgr e P W0 w F L I)(h3:3≤P.length):(rootB P).length=256:=by
 refine h.full _ ?_
 unfold rootB
 rw [List.getD_eq_getElem?_getD,List.getElem?_eq_getElem (by omega)]
 exact List.getElem_mem _
theorem proot_ok(i:Int)(h:Pgr e P W0 w F L I)(h3:3≤P.length)(hi:I64 i) :
  Ret Tryz.prog 36 [.pointer (some ⟨e.p,0,none⟩),.int .i64 i] w fun u w'=>u=.tuple #[.int .i64 (rootN P i).1,.int .i64 (rootN P i).2]∧Pgr e P W0 w' F L I:=by
 have hr:=h.root256 h3
 refine ent36 _ _ _ _ ?_
 simp (disch:=first|omega|exact zF rfl|exact zG rfl|exact fun h=>h|(simp only[zA,zB,zC,zD,bytesW];omega)) only[go_sem]
 refine Ret.mono (made_ok h) ?_
 rintro _ w2 ⟨rfl,e2⟩
 subst w2
 unfold rootN
 by_cases c:0≤i∧i<16
 case neg =>
  rw [if_neg c]
  by_cases c1:i<0
  ·simp (disch:=first|omega|exact zF rfl|exact zG rfl|exact fun h=>h|(simp only[zA,zB,zC,zD,bytesW];omega)) only[go_sem,c1]
   first | exact h | exact ⟨rfl,h⟩
  ·have c2:(16:Int)≤i:=by omega
   simp (disch:=first|omega|exact zF rfl|exact zG rfl|exact fun h=>h|(simp only[zA,zB,zC,zD,bytesW];omega)) only[go_sem,c1,c2]
   first | exact h | exact ⟨rfl,h⟩
 rw [if_pos c]
 have c1:¬ i<0:=by omega
 have c2:¬ (16:Int)≤i:=by omega
 simp (disch:=first|omega|exact zF rfl|exact zG rfl|exact fun h=>h|(simp only[zA,zB,zC,zD,bytesW];omega)) only[go_sem,c1,c2]
 refine Ret.mono (pread_ok 1 h (by decide) (by omega)) ?_
 rintro _ w2 ⟨rfl,h2⟩
 have e1:P.getD (1:Int).toNat []=rootB P:=rfl
 rw [e1]
 simp (disch:=first|omega|exact zF rfl|exact zG rfl|exact fun h=>h|(simp only[zA,zB,zC,zD,bytesW];omega)) only[go_sem]
 have hc:(cutL (rootB P) (4 * i) (4 * i+4)).length=4:=by
  unfold cutL; rw [List.length_drop,List.length_take,hr]; omega
 refine ⟨⟨by omega,by omega⟩,⟨by omega,by omega⟩,⟨by omega,by omega⟩,⟨by omega,by omega,by omega⟩,Ret.mono (unfixed_ok _ w2 (by rw [hc]; omega)) ?_⟩
 rintro _ w3 ⟨rfl,e3⟩
 subst w3
 have hlt:=unfixL_lt (cutL (rootB P) (4 * i) (4 * i+4))
 rw [hc] at hlt
 have hlt:unfixL (cutL (rootB P) (4 * i) (4 * i+4))<4294967296:=hlt
 simp (disch:=first|omega|exact zF rfl|exact zG rfl|exact fun h=>h|(simp only[zA,zB,zC,zD,bytesW];omega)) only[go_sem]
 refine ⟨by constructor <;> omega,?_⟩
 exact h2
def setRootN(P:List (List UInt8))(i at':Int):List (List UInt8) × Int :=
 if (rootN P i).2≠0 then (P,(rootN P i).2) else if at'≠0∧chkN P at'≠0 then (P,chkN P at') else
 (P.set 1 (filledL ((rootB P).take (4 * i).toNat++fixL at'.toNat 4++(rootB P).drop (4 * i+4).toNat)),0)
theorem psetRoot_ok(i j:Int)(h:Pgr e P W0 w F L I)(h3:3≤P.length)(hi:I64 i)(hj:I64 j) :
  Ret Tryz.prog 66 [.pointer (some ⟨e.p,0,none⟩),.int .i64 i,.int .i64 j] w fun u w'=>u=.int .i64 (setRootN P i j).2∧Pgr e (setRootN P i j).1 W0 w' F L I:=by
 have hr:=h.root256 h3
 refine ent66 _ _ _ _ _ ?_
 simp (disch:=first|omega|exact zF rfl|exact zG rfl|exact fun h=>h|(simp only[zA,zB,zC,zD,bytesW];omega)) only[go_sem,c66S5]
 refine Ret.mono (proot_ok i h h3 hi) ?_
 rintro _ w2 ⟨rfl,h2⟩
 unfold setRootN
 by_cases hc:(rootN P i).2=0
 case neg =>
  rw [if_pos hc]
  simp (disch:=first|omega|exact zF rfl|exact zG rfl|exact fun h=>h|(simp only[zA,zB,zC,zD,bytesW];omega)) only[go_sem,c66S5,hc]
  first | exact h2 | exact ⟨rfl,h2⟩
 have hin:0≤i∧i<16:=by
  unfold rootN at hc
  split at hc
  ·assumption
  ·cases hc
 rw [if_neg (by omega)]
 have fin:∀ w',Pgr e P W0 w' F L I→W Tryz.prog (c66S5 ()) [(0,.pointer (some ⟨e.p,0,none⟩)),(1,.int .i64 i),(2,.int .i64 j)] w' (finQ Tryz.prog [.tmp 6] fun u w''=>u=.int .i64 0∧Pgr e (P.set 1 (filledL ((rootB P).take (4 * i).toNat++fixL (IntKind.u64.wrap j).toNat 4++(rootB P).drop (4 * i+4).toNat))) W0 w'' F L I):=by
  intro w' h'
  simp (disch:=first|omega|exact zF rfl|exact zG rfl|exact fun h=>h|(simp only[zA,zB,zC,zD,bytesW];omega)) only[go_sem,c66S5]
  refine Ret.mono (pread_ok 1 h' (by decide) (by omega)) ?_
  rintro _ w4 ⟨rfl,h4⟩
  have e1:P.getD (1:Int).toNat []=rootB P:=rfl
  rw [e1]
  simp (disch:=first|omega|exact zF rfl|exact zG rfl|exact fun h=>h|(simp only[zA,zB,zC,zD,bytesW];omega)) only[go_sem,c66S5]
  refine c66draw0 ?_
  have h5:=h4.drew
  generalize w4.drew=w5 at h5 ⊢
  have hwj:0≤IntKind.u64.wrap j∧IntKind.u64.wrap j<18446744073709551616:=by rw [wrap_u64_mod]; omega
  obtain ⟨n,hn⟩:=Int.eq_ofNat_of_zero_le hwj.1
  rw [hn] at hwj ⊢
  simp (disch:=first|omega|exact zF rfl|exact zG rfl|exact fun h=>h|(simp only[zA,zB,zC,zD,bytesW];omega)) only[go_sem,c66S5,c66D0,hn]
  refine ⟨⟨by omega,by omega⟩,⟨by omega,by omega⟩,⟨by omega,by omega⟩,⟨by omega,by omega⟩,⟨by omega,by omega⟩,Ret.mono (fixed_ok n 4 w5 (by omega) (by omega)) ?_⟩
  rintro _ w6 ⟨rfl,b6⟩
  have h6:=h5.below b6
  simp (disch:=first|omega|exact zF rfl|exact zG rfl|exact fun h=>h|(simp only[zA,zB,zC,zD,bytesW];omega)) only[go_sem,c66S5]
  have lf:(fixL n 4).length=4:=fixL_len n 4
  refine ⟨?_,?_,Ret.mono (pwrite_ok 1 _ h6 (by decide) (by omega)) ?_⟩
  ·rw [lf,List.length_take]; omega
  ·rw [List.length_append,lf,List.length_take,List.length_drop]; omega
  rintro _ w7 ⟨rfl,h7⟩
  rw [if_neg (by rw [List.length_append,List.length_append,lf,List.length_take,List.length_drop]; omega)] at h7 ⊢
  simp (disch:=first|omega|exact zF rfl|exact zG rfl|exact fun h=>h|(simp only[zA,zB,zC,zD,bytesW];omega)) only[go_sem,c66S5]
  first | exact h7 | exact ⟨rfl,h7⟩
 by_cases h0:j=0
 ·subst h0
  rw [if_neg (by simp)]
  simp (disch:=first|omega|exact zF rfl|exact zG rfl|exact fun h=>h|(simp only[zA,zB,zC,zD,bytesW];omega)) only[go_sem,hc]
  exact fin w2 h2
 ·simp (disch:=first|omega|exact zF rfl|exact zG rfl|exact fun h=>h|(simp only[zA,zB,zC,zD,bytesW];omega)) only[go_sem,hc,h0]
  refine Ret.mono (check_ok j h2 h3 hj) ?_
  rintro _ w3 ⟨rfl,h3'⟩
  by_cases hk:chkN P j=0
  ·have hin2:=chk_in hk
   rw [if_neg (fun hh=>hh hk)]
   simp (disch:=first|omega|exact zF rfl|exact zG rfl|exact fun h=>h|(simp only[zA,zB,zC,zD,bytesW];omega)) only[go_sem,hk]
   have:=fin w3 h3'
   rw [wrap_u64_id j (by omega) (by have:=h.len; omega)] at this
   exact this
  ·rw [if_pos hk]
   simp (disch:=first|omega|exact zF rfl|exact zG rfl|exact fun h=>h|(simp only[zA,zB,zC,zD,bytesW];omega)) only[go_sem,hk]
   first | exact h3' | exact ⟨rfl,h3'⟩
theorem proom_ok(h:Pgr e P W0 w F L I)(h3:3≤P.length) :
  Ret Tryz.prog 12 [.pointer (some ⟨e.p,0,none⟩)] w fun u w'=>u=.int .i64 (roomN P)∧Pgr e P W0 w' F L I:=by
 have hu:=h.used256 h3
 have h64:=h.len.2
 refine ent12 _ _ _ ?_
 simp (disch:=first|omega|exact zF rfl|exact zG rfl|exact fun h=>h|(simp only[zA,zB,zC,zD,bytesW];omega)) only[go_sem]
 refine Ret.mono (used_ok h h3) ?_
 rintro _ w2 ⟨rfl,h2⟩
 have r2:=h2.blk.rules
 simp (disch:=first|omega|exact zF rfl|exact zG rfl|exact fun h=>h|(simp only[zA,zB,zC,zD,bytesW];omega)) only[go_sem,r2]
 refine Ret.mono (pslen_ok h2) ?_
 rintro _ w3 ⟨rfl,e3⟩
 subst w3
 simp (disch:=first|omega|exact zF rfl|exact zG rfl|exact fun h=>h|(simp only[zA,zB,zC,zD,bytesW];omega)) only[go_sem]
 obtain ⟨k,hk⟩:∃ k:Nat,k=P.length / 8:=⟨_,rfl⟩
 have ek:(P.length:Int).tdiv 8=k:=by rw [Int.tdiv_eq_ediv_of_nonneg (by omega)]; omega
 rw [ek]
 have et:((usedP P).take (k:Int).toNat)=(usedP P).take k:=by rw [Int.toNat_natCast]
 have c8:=cnt8 (usedP P) k (by omega)
 have cl:=cntN_le (usedP P) (8 * k)
 rw [Int.toNat_natCast]
 refine ⟨by constructor <;> omega,by omega,Ret.mono (count_ok _ w2 (by rw [List.length_take,hu]; omega)) ?_⟩
 rintro _ w4 ⟨rfl,e4⟩
 subst w4
 rw [← c8]
 simp (disch:=first|omega|exact zF rfl|exact zG rfl|exact fun h=>h|(simp only[zA,zB,zC,zD,bytesW];omega)) only[go_sem,ek]
 refine ⟨by constructor <;> omega,by constructor <;> omega,by constructor <;> omega,?_⟩
 refine W_loopU (fun m:Nat=>[(6,.int .i64 (P.length - cntN (usedP P) m:Int)),(7,.int .i64 m)]) (fun m w'=>8 * k≤m∧m≤P.length∧w'=w2) (fun m=>P.length - m) (8 * k) (by rw [show ((8 * k:Nat):Int)=(k:Int) * 8 by omega]; rfl) ⟨Nat.le_refl _,by omega,rfl⟩ ?_
 rintro m w5 ⟨hm0,hm,e5⟩
 subst w5
 have cm:=cntN_le (usedP P) m
 have cs:=cntN_succ (usedP P) m
 by_cases hlt:m<P.length
 ·have hlt':(m:Int)<P.length:=by omega
  simp (disch:=first|omega|exact zF rfl|exact zG rfl|exact fun h=>h|(simp only[zA,zB,zC,zD,bytesW];omega)) only[go_sem,c12L0,c12L0,hlt']
  refine Ret.mono (has_ok _ m w2 ⟨by omega,by omega⟩) ?_
  rintro _ w6 ⟨rfl,e6⟩
  subst w6
  cases hh:hasL (usedP P) m with
  | true =>
   rw [if_pos hh] at cs
   simp (disch:=first|omega|exact zF rfl|exact zG rfl|exact fun h=>h|(simp only[zA,zB,zC,zD,bytesW];omega)) only[go_sem,c12L0]
   exact ⟨by constructor <;> omega,by constructor <;> omega,m+1,by simp; omega,⟨by omega,by omega⟩,by omega⟩
  | false =>
   rw [if_neg (by rw [hh]; decide)] at cs
   simp (disch:=first|omega|exact zF rfl|exact zG rfl|exact fun h=>h|(simp only[zA,zB,zC,zD,bytesW];omega)) only[go_sem,c12L0]
   exact ⟨by constructor <;> omega,m+1,by simp; omega,⟨by omega,by omega⟩,by omega⟩
 ·have hlt':¬ (m:Int)<P.length:=by omega
  obtain rfl:m=P.length:=by omega
  simp (disch:=first|omega|exact zF rfl|exact zG rfl|exact fun h=>h|(simp only[zA,zB,zC,zD,bytesW];omega)) only[go_sem,c12L0,c12L0,hlt']
  refine ⟨?_,h2⟩
  unfold roomN
  have:=cntN_le (usedP P) P.length
  omega
def fmtU:List UInt8:=withL (withL (emptyL 2048) 0 true) 1 true
def fmtP(P:List (List UInt8)):List (List UInt8):=(P.set 0 (filledL fmtU)).set 1 (filledL [])
theorem pformat_ok(h:Pgr e P W0 w F L I)(h3:3≤P.length) :
  Ret Tryz.prog 44 [.pointer (some ⟨e.p,0,none⟩)] w fun u w'=>u=.int .i64 0∧Pgr e (fmtP P) W0 w' F L I:=by
 refine ent44 _ _ _ ?_
 simp (disch:=first|omega|exact zF rfl|exact zG rfl|exact fun h=>h|(simp only[zA,zB,zC,zD,bytesW];omega)) only[go_sem]
 refine Ret.mono (made_ok h) ?_
 rintro _ w2 ⟨rfl,e2⟩
 subst w2
 have r2:=h.blk.rules
 simp (disch:=first|omega|exact zF rfl|exact zG rfl|exact fun h=>h|(simp only[zA,zB,zC,zD,bytesW];omega)) only[go_sem,r2]
 refine Ret.mono (pslen_ok h) ?_
 rintro _ w2 ⟨rfl,e2⟩
 subst w2
 have hle:¬ (P.length:Int)≤2:=by omega
 simp (disch:=first|omega|exact zF rfl|exact zG rfl|exact fun h=>h|(simp only[zA,zB,zC,zD,bytesW];omega)) only[go_sem,hle]
 refine Ret.mono (empty_ok 2048 w ⟨by decide,by decide⟩ (by decide)) ?_
 rintro _ w2 ⟨rfl,b2⟩
 have h2:=h.below b2
 simp (disch:=first|omega|exact zF rfl|exact zG rfl|exact fun h=>h|(simp only[zA,zB,zC,zD,bytesW];omega)) only[go_sem]
 refine W_loopU (fun k:Nat=>[(3,.string (ofL (if k=0 then emptyL 2048 else if k=1 then withL (emptyL 2048) 0 true else fmtU))),(16,.int .i64 k)]) (fun k w'=>k≤2∧Pgr e P W0 w' F L I) (fun k=>2 - k) 0 rfl ⟨by omega,h2⟩ ?_
 rintro k w3 ⟨hk,h3'⟩
 by_cases hlt:k<2
 ·have hlt':(k:Int)<2:=by omega
  simp (disch:=first|omega|exact zF rfl|exact zG rfl|exact fun h=>h|(simp only[zA,zB,zC,zD,bytesW];omega)) only[go_sem,c44L0,c44L0,hlt']
  refine Ret.mono (with_ok _ k true w3 ⟨by omega,by omega⟩) ?_
  rintro _ w4 ⟨rfl,b4⟩
  simp (disch:=first|omega|exact zF rfl|exact zG rfl|exact fun h=>h|(simp only[zA,zB,zC,zD,bytesW];omega)) only[go_sem,c44L0]
  refine ⟨by constructor <;> omega,k+1,?_,⟨by omega,h3'.below b4⟩,by omega⟩
  have:k=0∨k=1:=by omega
  rcases this with rfl | rfl <;> rfl
 ·have hlt':¬ (k:Int)<2:=by omega
  obtain rfl:k=2:=by omega
  simp (disch:=first|omega|exact zF rfl|exact zG rfl|exact fun h=>h|(simp only[zA,zB,zC,zD,bytesW];omega)) only[go_sem,c44L0,c44L0,hlt']
  have hfl:¬ 256<fmtU.length:=by unfold fmtU; rw [withL_length,withL_length]; decide
  refine Ret.mono (pwrite_ok 0 fmtU h3' (by decide) (by omega)) ?_
  rintro _ w4 ⟨rfl,h4⟩
  rw [if_neg hfl] at h4 ⊢
  simp (disch:=first|omega|exact zF rfl|exact zG rfl|exact fun h=>h|(simp only[zA,zB,zC,zD,bytesW];omega)) only[go_sem,c44L0]
  refine Ret.mono (pwrite_ok 1 [] h4 (by decide) (by rw [List.length_set]; omega)) ?_
  rintro _ w5 ⟨rfl,h5⟩
  simp (disch:=first|omega|exact zF rfl|exact zG rfl|exact fun h=>h|(simp only[zA,zB,zC,zD,bytesW];omega)) only[go_sem,c44L0]
  first | exact h5 | exact ⟨rfl,h5⟩
end
open Go Go.Ann Go.RowKit Go.WideShapes
def newHd(n j:Nat):Hd:=headN (n+j+2) j
def newDkP(n j:Nat):Dk:=fmtDk (n+j+2) (newHd n j)
def newSto(n j:Nat):Sto:=⟨newHd n j,[],0,false,newDkP n j⟩
theorem fmtDk_ok{n:Nat}{h:Hd}(h0:2≤n)(h1:n≤2048):(fmtDk n h).ok:=by
 have hl:=headL_len h
 refine ⟨fun s hs=>?_,fun _ h=>(by cases h),⟨by simp [fmtDk],by simp [fmtDk]⟩,by simp [fmtDk]; omega,by simp [fmtDk]; omega,by simp [fmtDk]⟩
 unfold fmtDk at hs
 rcases List.mem_or_eq_of_mem_set hs with hs | rfl
 ·rcases List.mem_or_eq_of_mem_set hs with hs | rfl
  ·rw [List.eq_of_mem_replicate hs]; exact List.length_replicate
  ·exact filledL_length (by decide)
 ·exact filledL_length (by omega)
theorem newHd_pages{n j:Nat}(h:n≤1024):(newHd n j).pages=n:=by unfold newHd headN; simp only; omega
theorem newSto_ok{n j:Nat}(h0:1≤n)(h1:n≤500)(j0:2≤j)(j1:j≤500):(newSto n j).ok:=by
 have hp:=newHd_pages (n:=n) (j:=j) (by omega)
 refine ⟨⟨by simp [newSto,newHd,headN] <;> omega,by simp [newSto,newHd,headN] <;> omega,by simp [newSto,newHd,headN] <;> omega,by simp only [newSto,hp]; omega⟩,fmtDk_ok (by omega) (by omega),by simp [newSto,newHd,headN] <;> omega,by simp only [newSto,hp]; omega,by simp only [newSto,hp]; omega,?_,fun _ h=>(by cases h),List.Pairwise.nil,List.Pairwise.nil,fun _ h=>(by cases h)⟩
 simp only [newSto,hp,newDkP,fmtDk,List.length_set,List.length_replicate]
 simp only [newHd,headN]
 omega
theorem newSto_live{n j:Nat}(h0:1≤n)(h1:n≤500)(j0:2≤j)(j1:j≤500):Live (newSto n j) [] :=
 ⟨newSto_ok h0 h1 j0 j1,rfl,rfl,by simp only [newSto,newHd_pages (show n≤1024 by omega)]; exact h1,by simp,List.Pairwise.nil,fun _ h=>(by cases h)⟩
theorem newSto_pgs{n j:Nat}(h0:1≤n)(h1:n≤500)(j0:2≤j)(j1:j≤500):pgs (newSto n j)=List.replicate n zeroB:=by
 have hv:=newSto_live h0 h1 j0 j1
 have hp:=newHd_pages (n:=n) (j:=j) (by omega)
 refine pgs_eq (by rw [List.length_replicate]; exact hp.symm) fun i hi=>?_
 rw [List.length_replicate] at hi
 rw [(nowP_eq hv.ok hv.dead hv.gone (by omega) (by show (i:Int)<(newHd n j).pages; omega)).2]
 show (none:Option (List UInt8)).getD (lastL [] _ ((fmtDk (n+j+2) (newHd n j)).safe.getD (homeN (newSto n j) i).toNat []))=_
 have e:(homeN (newSto n j) i).toNat=j+2+i:=by
  unfold homeN
  show (2+((j:Nat):Int)+i).toNat=_
  omega
 rw [e]
 simp only [Option.getD_none,lastL,List.foldl_nil,fmtDk]
 rw [List.getD_eq_getElem?_getD,List.getD_eq_getElem?_getD,List.getElem?_set_ne (by omega),List.getElem?_set_ne (by omega),List.getElem?_replicate,List.getElem?_replicate,if_pos (by omega),if_pos hi]
section
variable {W0 w:World} {F:Nat→Prop} {L:List Res} {I:List Inv}
theorem pnew_ok{b mb g:Nat}{vb vl:Value}{s:Sto}(h:St W0 w F (StoL b mb g vb vl s++L) I)(hv:Live s []) :
  Ret Tryz.prog 43 [.pointer (some ⟨b,0,none⟩)] w fun u w'=>∃ p c,u=.tuple #[.pointer (some ⟨p,0,none⟩),.int .i64 0]∧Pgr ⟨p,b,mb,g,c,vb,vl,s.hd,s.disk⟩ (pgs s) W0 w' F L I:=by
 refine ent43 _ _ _ ?_
 simp (disch:=first|omega|exact zF rfl|exact zG rfl|exact fun h=>h|(simp only[zA,zB,zC,zD,bytesW];omega)) only[go_sem]
 have hpg:=hv.ok.pages
 refine Ret.mono (sread_ok 0 h hv.ok) ?_
 rintro _ w2 ⟨rfl,s2⟩
 rw [(nowP_eq hv.ok hv.dead hv.gone (by omega) (by omega)).1] at s2 ⊢
 simp (disch:=first|omega|exact zF rfl|exact zG rfl|exact fun h=>h|(simp only[zA,zB,zC,zD,bytesW];omega)) only[go_sem]
 refine Ret.mono (cnew_ok s2) ?_
 rintro _ w3 ⟨c,rfl,s3⟩
 simp (disch:=first|omega|exact zF rfl|exact zG rfl|exact fun h=>h|(simp only[zA,zB,zC,zD,bytesW];omega)) only[go_sem]
 refine bdW_built (cells:=#[.pointer (some ⟨b,0,none⟩),.pointer (some ⟨c,0,none⟩)]) (by kernel_rfl) ?_
 have s4:=s3.box #[.pointer (some ⟨b,0,none⟩),.pointer (some ⟨c,0,none⟩)] 98
 simp (disch:=first|omega|exact zF rfl|exact zG rfl|exact fun h=>h|(simp only[zA,zB,zC,zD,bytesW];omega)) only[go_sem]
 refine ⟨_,c,rfl,.slice none 0 0,[],s,?_,hv,rfl,rfl,rfl⟩
 generalize w3.heap.size=p at s4 ⊢
 refine s4.perm ?_
 unfold PgL
 have:=(List.perm_append_comm (l₁:=StoL b mb g vb vl s) (l₂:=CaL c (.slice none 0 0) [])).append_right L
 simp only [List.append_assoc,List.cons_append,List.nil_append] at this ⊢
 exact this.cons _
theorem begun25_ok{n:Nat}(h:St W0 w F L I)(h0:3≤n)(h1:n≤400) :
  Ret Tryz.prog 10 [.int .i64 n] w fun u w'=>∃ e:En,u=.tuple #[.pointer (some ⟨e.g,0,none⟩),.pointer (some ⟨e.p,0,none⟩)]∧e.hd=newHd n 400∧e.m=newDkP n 400∧Pgr e (fmtP (List.replicate n zeroB)) W0 w' F L I:=by
 refine ent10 _ _ _ ?_
 simp (disch:=first|omega|exact zF rfl|exact zG rfl|exact fun h=>h|(simp only[zA,zB,zC,zD,bytesW];omega)) only[go_sem]
 have en:(n:Int)+402=((n+400+2:Nat):Int):=by omega
 rw [en]
 refine ⟨by constructor <;> omega,Ret.mono (new_ok h (n:=n+400+2) (by omega) (by omega)) ?_⟩
 rintro _ w2 ⟨g,vb,vl,rfl,s2⟩
 simp (disch:=first|omega|exact zF rfl|exact zG rfl|exact fun h=>h|(simp only[zA,zB,zC,zD,bytesW];omega)) only[go_sem]
 refine Ret.mono (format_ok (room:=400) s2 (by decide) (by omega) (by omega)) ?_
 rintro _ w3 ⟨rfl,vl',s3⟩
 simp (disch:=first|omega|exact zF rfl|exact zG rfl|exact fun h=>h|(simp only[zA,zB,zC,zD,bytesW];omega)) only[go_sem]
 refine Ret.mono (open0_ok (newHd n 400) s3 (fmtDk_ok (by omega) (by omega)) rfl (by simp [fmtDk]) (newest_fmt (by decide) (by omega) (by omega)) rfl) ?_
 rintro _ w4 ⟨b,mb,rfl,s4⟩
 simp (disch:=first|omega|exact zF rfl|exact zG rfl|exact fun h=>h|(simp only[zA,zB,zC,zD,bytesW];omega)) only[go_sem]
 refine Ret.mono (pnew_ok s4 (newSto_live (by omega) (by omega) (by omega) (by omega))) ?_
 rintro _ w5 ⟨p,c,rfl,s5⟩
 have s5:Pgr ⟨p,b,mb,g,c,vb,vl',newHd n 400,newDkP n 400⟩ (pgs (newSto n 400)) W0 w5 F L I:=s5
 have ep:pgs (newSto n 400)=List.replicate n zeroB:=newSto_pgs (by omega) (by omega) (by omega) (by omega)
 obtain ⟨e,hep,heg,heh,hem,k5⟩:∃ e:En,e.p=p∧e.g=g∧e.hd=newHd n 400∧e.m=newDkP n 400∧Pgr e (pgs (newSto n 400)) W0 w5 F L I:=⟨_,rfl,rfl,rfl,rfl,s5⟩
 rw [ep] at k5
 subst hep heg
 have h3:3≤(List.replicate n zeroB).length:=by rw [List.length_replicate]; exact h0
 generalize List.replicate n zeroB=P0 at k5 h3 ⊢
 simp (disch:=first|omega|exact zF rfl|exact zG rfl|exact fun h=>h|(simp only[zA,zB,zC,zD,bytesW];omega)) only[go_sem]
 refine Ret.mono (pformat_ok k5 h3) ?_
 rintro _ w6 ⟨rfl,s6⟩
 simp (disch:=first|omega|exact zF rfl|exact zG rfl|exact fun h=>h|(simp only[zA,zB,zC,zD,bytesW];omega)) only[go_sem]
 exact ⟨e,rfl,heh,hem,s6⟩
end
structure Given(n:Nat)(P:List (List UInt8))(G:Nat→Bool):Prop where
 len:P.length=n
 u:(usedP P).length=256
 has:∀ j:Nat,j<n→hasL (usedP P) j=G j
theorem usedP_set0{P:List (List UInt8)}{l:List UInt8}(h:0<P.length):usedP (P.set 0 l)=l:=by
 unfold usedP
 rw [List.getD_eq_getElem?_getD,List.getElem?_set_self h]; rfl
theorem usedP_set{P:List (List UInt8)}{l:List UInt8}{i:Nat}(h:i≠0):usedP (P.set i l)=usedP P:=by
 unfold usedP
 rw [List.getD_eq_getElem?_getD,List.getD_eq_getElem?_getD,List.getElem?_set_ne h]
theorem Given.mark{n:Nat}{P:List (List UInt8)}{G:Nat→Bool}(h:Given n P G)(hn:n≤2048){i:Nat}(hi:i<n)(b:Bool):Given n (markP P i b) (fun j=>if j=i then b else G j):=by
 have h0:0<P.length:=by rw [h.len]; omega
 have hl:(withL (usedP P) i b).length=256:=by rw [withL_length,h.u]
 have e:usedP (markP P i b)=withL (usedP P) i b:=by unfold markP; rw [usedP_set0 h0,filled256 hl]
 refine ⟨by unfold markP; rw [List.length_set,h.len],by rw [e,hl],fun j hj=>?_⟩
 rw [e,withL_has _ _ _ (by unfold fitsL; rw [decide_eq_true_eq,h.u]; omega)]
 by_cases hji:j=i
 ·rw [if_pos (by omega),if_pos hji]
 ·rw [if_neg (by omega),if_neg hji]; exact h.has j hj
theorem Given.set{n:Nat}{P:List (List UInt8)}{G:Nat→Bool}(h:Given n P G){i:Nat}(hi:i≠0)(l:List UInt8):Given n (P.set i l) G :=
 ⟨by rw [List.length_set,h.len],by rw [usedP_set hi]; exact h.u,fun j hj=>by rw [usedP_set hi]; exact h.has j hj⟩
theorem Given.ext{n:Nat}{P:List (List UInt8)}{G G':Nat→Bool}(h:Given n P G)(e:∀ j,j<n→G j=G' j):Given n P G':=⟨h.len,h.u,fun j hj=>(h.has j hj).trans (e j hj)⟩
theorem Given.alloc{n:Nat}{P:List (List UInt8)}{G:Nat→Bool}(h:Given n P G)(hn:n≤2048){k:Nat}(h2:2≤k)(hk:k<n)(hg:G k=false)(hall:∀ j,2≤j→j<k→G j=true) :
  allocN P=(emptyP (markP P k true) k,(k:Int),0)∧Given n (emptyP (markP P k true) k) (fun j=>if j=k then true else G j):=by
 have e:lowP P=some k:=by
  unfold lowP
  rw [List.find?_range_eq_some,h.len]
  refine ⟨by rw [h.has k hk,hg]; simp; omega,by rw [List.mem_range]; exact hk,fun j hj=>?_⟩
  by_cases h2j:2≤j
  ·rw [h.has j (by omega),hall j h2j hj]; simp
  ·simp [h2j]
 refine ⟨by unfold allocN; rw [e],?_⟩
 have:=(h.mark hn hk true).set (i:=k) (by omega) (filledL [])
 unfold emptyP
 rw [Int.toNat_natCast]
 exact this
theorem Given.chk{n:Nat}{P:List (List UInt8)}{G:Nat→Bool}(h:Given n P G){i:Nat}(h2:2≤i)(hi:i<n):chkN P i=if G i=true then 0 else 6:=by
 unfold chkN
 rw [h.len,h.has i hi]
 by_cases hg:G i=true
 ·rw [if_pos ⟨by omega,by omega,hg⟩,if_pos hg]
 ·rw [if_neg (fun hh=>hg hh.2.2),if_neg hg]
theorem Given.room{n:Nat}{P:List (List UInt8)}{G:Nat→Bool}(h:Given n P G):roomN P=n - ((List.range n).filter G).length:=by
 unfold roomN cntN
 rw [h.len]
 congr 2
 exact List.filter_congr fun j hj=>h.has j (List.mem_range.1 hj)
theorem fmtU_has:∀ j:Fin 512,hasL fmtU j.val=decide (j.val<2):=by decide +kernel
theorem fmtU_len:fmtU.length=256:=by unfold fmtU; rw [withL_length,withL_length]; decide
theorem fmt_given{n:Nat}{P:List (List UInt8)}(hl:P.length=n)(h3:3≤n)(h64:n≤500):Given n (fmtP P) (fun j=>decide (j<2)):=by
 have e:usedP (fmtP P)=fmtU:=by
  unfold fmtP
  rw [usedP_set (by decide),usedP_set0 (by omega),filled256 fmtU_len]
 refine ⟨by unfold fmtP; rw [List.length_set,List.length_set,hl],by rw [e]; exact fmtU_len,fun j hj=>?_⟩
 rw [e]
 exact fmtU_has ⟨j,by omega⟩
open Go Go.Ann Go.RowKit Go.WideShapes
theorem Pgr.lift{e:En}{P:List (List UInt8)}{W0 w:World}{F:Nat→Prop}{L:List Res}{I:List Inv}(h:Pgr e P W0 w F L I):∃ A,St W0 w F (L++A) I∧∀ w' L' I',St W0 w' F (L'++A) I'→Pgr e P W0 w' F L' I':=by
 obtain ⟨rv,l,s,hs,h2⟩:=h
 refine ⟨PgL e rv l s,hs.perm List.perm_append_comm,fun w' L' I' h'=>⟨rv,l,s,h'.perm List.perm_append_comm,h2⟩⟩
end Go.Proofs.YtkmjkmjpejmlnaaGreat

namespace Go.Proofs.YtkmjkmjpejmlnaaGreat.Slt
open Go Go.Ann Go.RowKit
def strE(r:List UInt8):List Value:=[.string (ofL r)]
theorem strE_one(r:List UInt8):∀ u∈strE r,u.oneCell'=true:=by intro u hu; simp only [strE,List.mem_singleton] at hu; subst hu; rfl
structure Pg(s:List UInt8)(L:List (List UInt8)):Prop where
 lo:8≤s.length
 hi:s.length≤256
 n:bN s 0=L.length
 room:1+2 * L.length≤s.length
 free:∀ i:Nat,i<L.length→bN s (2+2 * i)=0→bN s (1+2 * i)=0∧i+1≠L.length
 taken:∀ i:Nat,i<L.length→0<bN s (2+2 * i)→1+2 * L.length≤bN s (1+2 * i)∧bN s (1+2 * i)+bN s (2+2 * i)≤s.length
 apart:∀ i k:Nat,i<L.length→k<i→0<bN s (2+2 * i)→0<bN s (2+2 * k)→bN s (1+2 * i)<bN s (1+2 * k)+bN s (2+2 * k)→bN s (1+2 * k)<bN s (1+2 * i)+bN s (2+2 * i)→False
 recs:∀ i:Nat,(h:i<L.length)→L[i]=cutL s (bN s (1+2 * i)) (bN s (1+2 * i)+bN s (2+2 * i))
theorem Pg.inside{s:List UInt8}{L:List (List UInt8)}(h:Pg s L){i:Nat}(hi:i<L.length):0≤bN s (1+2 * i)∧0≤bN s (2+2 * i)∧bN s (1+2 * i)+bN s (2+2 * i)≤s.length:=by
 have h1:=(bN_bd s (1+2 * i)).1
 have h2:=(bN_bd s (2+2 * i)).1
 refine ⟨h1,h2,?_⟩
 rcases Int.lt_or_eq_of_le h2 with h3 | h3
 ·exact (h.taken i hi h3).2
 ·have:=(h.free i hi h3.symm).1
  have:=h.lo
  omega
theorem cutL_length{s:List UInt8}{a b:Int}(h0:0≤a)(h1:a≤b)(h2:b≤s.length):((cutL s a b).length:Int)=b - a:=by
 unfold cutL
 rw [List.length_drop,List.length_take]; omega
theorem Pg.len{s:List UInt8}{L:List (List UInt8)}(h:Pg s L){i:Nat}(hi:i<L.length):(L[i].length:Int)=bN s (2+2 * i):=by
 have:=h.inside hi
 rw [h.recs i hi,cutL_length this.1 (by omega) this.2.2]; omega
theorem Pg.few{s:List UInt8}{L:List (List UInt8)}(h:Pg s L):L.length≤127:=by have:=h.room; have:=h.hi; omega
theorem places_ok(s:List UInt8)(w:World):Ret Tryz.prog 147 [.string (ofL s)] w fun v w'=>v=.int .i64 (if s=[] then 0 else bN s 0)∧Below w.heap.size w w':=by
 refine ent147 _ _ _ ?_
 have hb:=bN_bd s 0
 simp (disch:=first|omega|exact zF rfl|exact zG rfl|exact fun h=>h|(simp only[zA,zB,zC,zD,bytesW];omega)) only[go_sem]
 refine ⟨fun h=>⟨by rw [if_pos (of_decide_eq_true h)],by (repeat' (first | with_reducible exact Below.refl _ _ | with_reducible assumption | (with_reducible refine Below.drew ?_) | (with_reducible refine Below.alloc ?_ ?_ _) | (with_reducible refine Below.setCell ?_ ?_ _) | (with_reducible refine Below.fill ?_ ?_) | (with_reducible refine Below.via (by assumption) ?_ ?_) | omega | (simp only [World.size_alloc,World.size_drew,World.size_setCell,size_fill,bytesW]; omega)))⟩,fun h=>?_⟩
 have h':s≠[]:=of_decide_eq_false h
 have:=List.length_pos_iff.2 h'
 refine ⟨by omega,⟨by omega,by omega⟩,by rw [if_neg h'],by (repeat' (first | with_reducible exact Below.refl _ _ | with_reducible assumption | (with_reducible refine Below.drew ?_) | (with_reducible refine Below.alloc ?_ ?_ _) | (with_reducible refine Below.setCell ?_ ?_ _) | (with_reducible refine Below.fill ?_ ?_) | (with_reducible refine Below.via (by assumption) ?_ ?_) | omega | (simp only [World.size_alloc,World.size_drew,World.size_setCell,size_fill,bytesW]; omega)))⟩
theorem at_ok(s:List UInt8)(i:Nat)(w:World)(h:2+2 * i<s.length)(hs:s.length≤1000000):Ret Tryz.prog 148 [.string (ofL s),.int .i64 i] w fun v w'=>v=.tuple #[.int .i64 (bN s (1+2 * i)),.int .i64 (bN s (2+2 * i))]∧Below w.heap.size w w':=by
 refine ent148 _ _ _ _ ?_
 have hb:=bN_bd s (1+2 * i)
 have hc:=bN_bd s (2+2 * i)
 have e:(1:Int)+2 * (i:Int)+1=2+2 * i:=by omega
 simp (disch:=first|omega|exact zF rfl|exact zG rfl|exact fun h=>h|(simp only[zA,zB,zC,zD,bytesW];omega)) only[go_sem]
 refine c148draw0 ?_
 simp (disch:=first|omega|exact zF rfl|exact zG rfl|exact fun h=>h|(simp only[zA,zB,zC,zD,bytesW];omega)) only[go_sem,c148D0,e]
 exact ⟨⟨by omega,by omega⟩,⟨by omega,by omega⟩,⟨by omega,by omega⟩,⟨by omega,by omega⟩,⟨by omega,by omega⟩,⟨by omega,by omega⟩,⟨by omega,by omega⟩,⟨by omega,by omega⟩,⟨by omega,by omega⟩,by (repeat' (first | with_reducible exact Below.refl _ _ | with_reducible assumption | (with_reducible refine Below.drew ?_) | (with_reducible refine Below.alloc ?_ ?_ _) | (with_reducible refine Below.setCell ?_ ?_ _) | (with_reducible refine Below.fill ?_ ?_) | (with_reducible refine Below.via (by assumption) ?_ ?_) | omega | (simp only [World.size_alloc,World.size_drew,World.size_setCell,size_fill,bytesW]; omega)))⟩
def getP(L:List (List UInt8))(i:Int):List UInt8 × Bool:=if 0≤i then match L[i.toNat]? with | some r=>(r,decide (r≠[])) | none=>([],false) else ([],false)
theorem get_ok(s:List UInt8)(L:List (List UInt8))(i:Int)(w:World)(h:Pg s L):Ret Tryz.prog 144 [.string (ofL s),.int .i64 i] w fun v w'=>v=.tuple #[.string (ofL (getP L i).1),.bool (getP L i).2]∧Below w.heap.size w w':=by
 refine ent144 _ _ _ _ ?_
 simp (disch:=first|omega|exact zF rfl|exact zG rfl|exact fun h=>h|(simp only[zA,zB,zC,zD,bytesW];omega)) only[go_sem]
 have hne:s≠[]:=by rintro rfl; have:=h.lo; simp at this
 refine ⟨fun h0=>Ret.mono (places_ok _ _) ?_,fun h0=>⟨by unfold getP; rw [if_neg (by omega)],Below.refl _ _⟩⟩
 rintro _ w2 ⟨rfl,b2⟩
 rw [if_neg hne,h.n]
 have hr:=h.room
 have hhi:=h.hi
 simp (disch:=first|omega|exact zF rfl|exact zG rfl|exact fun h=>h|(simp only[zA,zB,zC,zD,bytesW];omega)) only[go_sem]
 refine ⟨fun h1=>?_,fun h1=>?_⟩
 ·refine ⟨?_,b2⟩
  unfold getP
  rw [if_pos h0,List.getElem?_eq_none (by omega)]
 ·obtain ⟨k,rfl⟩:=Int.eq_ofNat_of_zero_le h0
  have hk:k<L.length:=by omega
  refine Ret.mono (at_ok s k w2 (by omega) (by omega)) ?_
  rintro _ w3 ⟨rfl,b3⟩
  have hin:=h.inside hk
  have hlen:=h.len hk
  have hrec:=h.recs k hk
  have hb1:=bN_bd s (1+2 * k)
  have hb2:=bN_bd s (2+2 * k)
  simp (disch:=first|omega|exact zF rfl|exact zG rfl|exact fun h=>h|(simp only[zA,zB,zC,zD,bytesW];omega)) only[go_sem]
  have hg:getP L k=(L[k],decide (L[k]≠[])):=by
   unfold getP
   rw [if_pos h0,Int.toNat_natCast,List.getElem?_eq_getElem hk]
  have hd:decide (L[k]≠[])=decide (0<bN s (2+2 * k)):=by
   rw [decide_eq_decide,← hlen]
   constructor
   ·intro h; have:=List.length_pos_iff.2 h; omega
   ·intro h e; rw [e] at h; simp at h
  rw [hg,hd,hrec]
  exact ⟨⟨by omega,by omega⟩,⟨by omega,by omega,by omega⟩,rfl,b2.trans (b3.mono b2.size)⟩
def itemsTo(L:List (List UInt8)):Nat→List (Nat × List UInt8)
 | 0=>[]
 | k+1=>itemsTo L k++match L[k]? with | some r=>if r=[] then [] else [(k,r)] | none=>[]
theorem itemsTo_some{L:List (List UInt8)}{k:Nat}(h:k<L.length)(hr:L[k]≠[]):itemsTo L (k+1)=itemsTo L k++[(k,L[k])]:=by
 simp only [itemsTo,List.getElem?_eq_getElem h,if_neg hr]
theorem itemsTo_none{L:List (List UInt8)}{k:Nat}(h:k<L.length)(hr:L[k]=[]):itemsTo L (k+1)=itemsTo L k:=by
 simp only [itemsTo,List.getElem?_eq_getElem h,if_pos hr,List.append_nil]
theorem itemsTo_pre{L:List (List UInt8)}:∀ {k n:Nat},k≤n→∃ r,itemsTo L n=itemsTo L k++r:=by
 intro k n h
 induction n with
 | zero=>exact ⟨[],by rw [show k=0 by omega]; simp⟩
 | succ n ih =>
  rcases Nat.lt_or_ge k (n+1) with h' | h'
  ·obtain ⟨r,e⟩:=ih (by omega)
   exact ⟨_,by rw [itemsTo,e,List.append_assoc]⟩
  ·exact ⟨[],by rw [show k=n+1 by omega]; simp⟩
theorem all1_ok(fv:Value)(b:Nat)(s:List UInt8)(L:List (List UInt8))(J:List (Nat × List UInt8)→World→Prop)(w:World)(hp:Pg s L)(hb:∀ pre w',J pre w'→w'.cell? ⟨b,0,none⟩=some (.string (ofL s)))
  (hJ:∀ pre w' w'',J pre w'→Below w'.heap.size w' w''→J pre w'') (hf:∀ pre x w',J pre w'→(∃ r,pre++x::r=itemsTo L L.length)→callW Tryz.prog fv [.int .i64 x.1,.string (ofL x.2)] w' fun v w''=>v=.bool true∧J (pre++[x]) w'') (h0:J [] w) :
  Ret Tryz.prog 149 [fv,.pointer (some ⟨b,0,none⟩)] w fun _ w'=>J (itemsTo L L.length) w':=by
 refine ent149 _ _ _ _ ?_
 have hb0:=hb _ _ h0
 have hne:s≠[]:=by rintro rfl; have:=hp.lo; simp at this
 simp (disch:=first|omega|exact zF rfl|exact zG rfl|exact fun h=>h|(simp only[zA,zB,zC,zD,bytesW];omega)) only[go_sem,hb0]
 refine Ret.mono (places_ok _ _) ?_
 rintro _ w2 ⟨rfl,b2⟩
 rw [if_neg hne,hp.n]
 simp (disch:=first|omega|exact zF rfl|exact zG rfl|exact fun h=>h|(simp only[zA,zB,zC,zD,bytesW];omega)) only[go_sem]
 refine W_loopU (fun k:Nat=>[(8,.int .i64 k)]) (fun k w'=>J (itemsTo L k) w'∧k≤L.length) (fun k=>L.length - k) 0 rfl ⟨hJ _ _ _ h0 b2,Nat.zero_le _⟩ ?_
 rintro k w3 ⟨j3,hk⟩
 have hfew:=hp.few
 by_cases hlt:k<L.length
 ·have hlt':(k:Int)<L.length:=by omega
  have hb3:=hb _ _ j3
  simp (disch:=first|omega|exact zF rfl|exact zG rfl|exact fun h=>h|(simp only[zA,zB,zC,zD,bytesW];omega)) only[go_sem,hlt',hb3]
  refine Ret.mono (get_ok s L k w3 hp) ?_
  rintro _ w4 ⟨rfl,b4⟩
  have j4:=hJ _ _ _ j3 b4
  have hg:getP L k=(L[k],decide (L[k]≠[])):=by
   unfold getP
   rw [if_pos (by omega),Int.toNat_natCast,List.getElem?_eq_getElem hlt]
  rw [hg]
  by_cases hr:L[k]=[]
  ·have hd:decide (L[k]≠[])=false:=decide_eq_false (by simpa using hr)
   simp (disch:=first|omega|exact zF rfl|exact zG rfl|exact fun h=>h|(simp only[zA,zB,zC,zD,bytesW];omega)) only[go_sem,hlt',hd]
   exact ⟨⟨by omega,by omega⟩,k+1,rfl,⟨by rw [itemsTo_none hlt hr]; exact j4,by omega⟩,by omega⟩
  ·have hd:decide (L[k]≠[])=true:=decide_eq_true hr
   simp (disch:=first|omega|exact zF rfl|exact zG rfl|exact fun h=>h|(simp only[zA,zB,zC,zD,bytesW];omega)) only[go_sem,hlt',hd]
   refine callW_mono (hf _ (k,L[k]) _ j4 ?_) ?_
   ·obtain ⟨r,e⟩:=itemsTo_pre (L:=L) (show k+1≤L.length by omega)
    exact ⟨r,by rw [e,itemsTo_some hlt hr]; simp⟩
   ·rintro _ w5 ⟨rfl,j5⟩
    simp (disch:=first|omega|exact zF rfl|exact zG rfl|exact fun h=>h|(simp only[zA,zB,zC,zD,bytesW];omega)) only[go_sem,hlt',hd]
    exact ⟨⟨by omega,by omega⟩,k+1,rfl,⟨by rw [itemsTo_some hlt hr]; exact j5,by omega⟩,by omega⟩
 ·have hlt':¬ (k:Int)<L.length:=by omega
  obtain rfl:k=L.length:=by omega
  simp (disch:=first|omega|exact zF rfl|exact zG rfl|exact fun h=>h|(simp only[zA,zB,zC,zD,bytesW];omega)) only[go_sem,hlt']
  exact j3
theorem all_ok(s:List UInt8)(w:World):Ret Tryz.prog 101 [.string (ofL s)] w fun v w'=>v=.func (.func 149) #[] #[.pointer (some ⟨w.heap.size,0,none⟩)]∧w'=w.alloc (.cells #[.string (ofL s)] 9):=by
 refine ent101 _ _ _ ?_
 simp (disch:=first|omega|exact zF rfl|exact zG rfl|exact fun h=>h|(simp only[zA,zB,zC,zD,bytesW];omega)) only[go_sem]
def fillP(n:Nat)(l:List (Nat × List UInt8)):List (List UInt8):=l.foldl (fun l x=>l.set x.1 x.2) (List.replicate n [])
theorem fillP_len(n:Nat):∀ l:List (Nat × List UInt8),(fillP n l).length=n:=by
 intro l
 unfold fillP
 have:∀ (l:List (Nat × List UInt8)) (a:List (List UInt8)),(l.foldl (fun l x=>l.set x.1 x.2) a).length=a.length:=by
  intro l
  induction l with
  | nil=>intro a; rfl
  | cons x l ih=>intro a; rw [List.foldl_cons,ih,List.length_set]
 rw [this,List.length_replicate]
theorem fillP_snoc(n:Nat)(l:List (Nat × List UInt8))(x:Nat × List UInt8):fillP n (l++[x])=(fillP n l).set x.1 x.2:=by unfold fillP; rw [List.foldl_append]; rfl
theorem strs_set:∀ (l:List (List UInt8)) (i:Nat) (r:List UInt8),(l.set i r).flatMap strE=(l.flatMap strE).set i (.string (ofL r))
 | [],_,_=>rfl
 | a::l,0,r=>rfl
 | a::l,i+1,r=>by
  rw [List.set_cons_succ,List.flatMap_cons,List.flatMap_cons,strs_set l i r]; rfl
theorem strs_len(l:List (List UInt8)):(l.flatMap strE).length=l.length:=by
 induction l with
 | nil=>rfl
 | cons a l ih=>rw [List.flatMap_cons,List.length_append,ih,List.length_cons]; simp only [strE,List.length_singleton]; omega
theorem itemsTo_mem{L:List (List UInt8)}:∀ {k:Nat} {x:Nat × List UInt8},x∈itemsTo L k→x.1<L.length
 | 0,x,h=>by cases h
 | k+1,x,h=>by
  rw [itemsTo] at h
  rcases List.mem_append.1 h with h | h
  ·exact itemsTo_mem h
  ·split at h
   ·rename_i r hr
    split at h
    ·cases h
    ·rw [List.mem_singleton] at h; subst h; exact (List.getElem?_eq_some_iff.1 hr).1
   ·cases h
theorem fillP_items{L:List (List UInt8)}:∀ {k:Nat},k≤L.length→fillP L.length (itemsTo L k)=L.take k++List.replicate (L.length - k) []
 | 0,_=>by simp [itemsTo,fillP]
 | k+1,h=>by
  have ih:=fillP_items (L:=L) (k:=k) (by omega)
  rw [List.take_succ_eq_append_getElem (by omega)]
  have e:List.replicate (L.length - k) ([]:List UInt8)=[]::List.replicate (L.length - (k+1)) []:=by
   rw [show L.length - k=(L.length - (k+1))+1 by omega,List.replicate_succ]
  by_cases hr:L[k]=[]
  ·rw [itemsTo_none (by omega) hr,ih,e,hr,List.append_assoc]; rfl
  ·rw [itemsTo_some (by omega) hr,fillP_snoc,ih,e,List.set_append_right _ _ (by simp; omega)]
   have hk:k - (L.take k).length=0:=by rw [List.length_take]; omega
   rw [hk,List.set_cons_zero,List.append_assoc]; rfl
theorem zeros_strs(n:Nat):zerosA (.string (ofL [])) n=((fillP n []).flatMap strE).toArray:=by
 have:∀ n:Nat,(List.replicate n ([]:List UInt8)).flatMap strE=List.replicate n (.string (ofL [])):=by
  intro n
  induction n with
  | zero=>rfl
  | succ n ih=>rw [List.replicate_succ,List.flatMap_cons,ih,List.replicate_succ]; rfl
 unfold fillP zerosA
 rw [List.foldl_nil,this]
 simp
theorem list_ok(s:List UInt8)(L:List (List UInt8))(w:World)(hp:Pg s L):Ret Tryz.prog 120 [.string (ofL s)] w fun u w'=>w'.ownsRow w.heap.size 9 1 u L.length (L.flatMap strE)∧Below w.heap.size w w':=by
 refine ent120 _ _ _ ?_
 have hne:s≠[]:=by rintro rfl; have:=hp.lo; simp at this
 have hfew:=hp.few
 simp (disch:=first|omega|exact zF rfl|exact zG rfl|exact fun h=>h|(simp only[zA,zB,zC,zD,bytesW];omega)) only[go_sem]
 refine Ret.mono (places_ok _ _) ?_
 rintro _ w2 ⟨rfl,b2⟩
 rw [if_neg hne,hp.n]
 simp (disch:=first|omega|exact zF rfl|exact zG rfl|exact fun h=>h|(simp only[zA,zB,zC,zD,bytesW];omega)) only[go_sem]
 refine msW_one ty22mkI rfl (by omega) (by omega) (by omega) (by omega) ?_
 have s2:=(St.start (W0:=w)).call b2
 rw [Int.toNat_natCast]
 have s3:=s2.box (zerosA (.string (ofL [])) L.length) 9
 generalize w2.heap.size=g at s3 ⊢
 generalize w2.alloc (.cells (zerosA (.string (ofL [])) L.length) 9)=w3 at s3 ⊢
 simp (disch:=first|omega|exact zF rfl|exact zG rfl|exact fun h=>h|(simp only[zA,zB,zC,zD,bytesW];omega)) only[go_sem]
 have s4:=s3.box #[.slice (some ⟨g,0,none⟩) L.length L.length] 22
 generalize w3.alloc (.cells #[.slice (some ⟨g,0,none⟩) L.length L.length] 22)=w4 at s4 ⊢
 refine Ret.mono (all_ok s w4) ?_
 rintro _ w5 ⟨rfl,rfl⟩
 simp (disch:=first|omega|exact zF rfl|exact zG rfl|exact fun h=>h|(simp only[zA,zB,zC,zD,bytesW];omega)) only[go_sem]
 have s5:=s4.box #[.string (ofL s)] 9
 generalize w4.alloc (.cells #[.string (ofL s)] 9)=w5 at s5 ⊢
 rw [zeros_strs] at s5
 refine RangeW_all (fun x:Nat × List UInt8=>[.int .i64 x.1,.string (ofL x.2)]) (itemsTo L L.length) (fun pre=>[.blk w4.heap.size #[.string (ofL s)] 9,.blk w3.heap.size #[.slice (some ⟨g,0,none⟩) L.length L.length] 22,.blk g ((fillP L.length pre).flatMap strE).toArray 9]) rfl (by kernel_rfl) s5 rfl (fun _=>rfl) ?_ ?_ ?_
 ·intro fv J w1 hJ1 hJ2 hf h0
  refine all1_ok fv _ s L J w1 hp (fun pre w' h=>?_) hJ2 hf h0
  obtain ⟨l,D,o,h⟩:=hJ1 pre w' h
  exact (h.rules 2 rfl).1 0
 ·intro pre x w' l D o o2 hx h
  simp (disch:=first|omega|exact zF rfl|exact zG rfl|exact fun h=>h|(simp only[zA,zB,zC,zD,bytesW];omega)) only[go_sem]
  have hx1:x.1<L.length:=by obtain ⟨r,e⟩:=hx; exact itemsTo_mem (k:=L.length) (by rw [← e]; simp)
  refine ⟨_,h,fun w2 h2=>?_⟩
  have r3:=h2.rules 3 rfl
  have r4:=h2.rules 4 rfl
  have hl:=strs_len (fillP L.length pre)
  rw [fillP_len] at hl
  have hx1':(x.1:Int)<L.length:=by omega
  simp (disch:=first|omega|exact zF rfl|exact zG rfl|exact fun h=>h|(simp only[zA,zB,zC,zD,bytesW];omega)) only[go_sem,r3,r4,hx1']
  refine ⟨by omega,⟨_,List.getElem?_eq_getElem (by rw [hl]; exact hx1)⟩,?_⟩
  have h3:=h2.set 4 rfl x.1 (.string (ofL x.2))
  simp only [List.set_cons_succ,List.set_cons_zero,List.setIfInBounds_toArray] at h3
  rw [fillP_snoc,strs_set]
  exact h3
 ·intro D w' h
  have r2:=h.rules 2 rfl
  have hD:=h.obj 0 rfl
  simp (disch:=first|omega|exact zF rfl|exact zG rfl|exact fun h=>h|(simp only[zA,zB,zC,zD,bytesW];omega)) only[go_sem,r2,hD]
  have h2:=h.putObj 0 rfl (.deferred none)
  simp only [List.set_cons_zero] at h2
  have e:fillP L.length (itemsTo L L.length)=L:=by rw [fillP_items (Nat.le_refl _)]; simp
  rw [e] at h2
  refine ⟨(h2.blk 3 rfl).own (h2.low 3 rfl).1 (Nat.le_refl _) (by have:maxLen=9223372036854775807:=(by decide); omega) (by rw [List.size_toArray,strs_len,Nat.mul_one]) ?_,h2.bel⟩
  rw [Nat.mul_one]
  exact List.take_of_length_le (by rw [strs_len]; exact Nat.le_refl _)
end Go.Proofs.YtkmjkmjpejmlnaaGreat.Slt

namespace Go.Proofs.YtkmjkmjpejmlnaaGreat.Slt
open Go Go.Ann Go.RowKit
def sumP(L:List (List UInt8)):Nat:=(L.map List.length).sum
def takesP(L:List (List UInt8)):Nat:=1+2 * L.length+sumP L
def vacantP(L:List (List UInt8)):Nat:=L.findIdx fun r=>decide (r=[])
theorem sumP_append(a b:List (List UInt8)):sumP (a++b)=sumP a+sumP b:=by unfold sumP; rw [List.map_append,List.sum_append]
theorem sumP_one(r:List UInt8):sumP [r]=r.length:=by simp [sumP]
theorem sumP_take{L:List (List UInt8)}{k:Nat}(h:k<L.length):sumP (L.take (k+1))=sumP (L.take k)+L[k].length:=by
 rw [List.take_succ_eq_append_getElem h,sumP_append,sumP_one]
theorem sumP_le{L:List (List UInt8)}(k:Nat):sumP (L.take k)≤sumP L:=by
 have:=sumP_append (L.take k) (L.drop k)
 rw [List.take_append_drop] at this
 omega
theorem RdS.str{w:World}{ad:Addr}{n cap:Nat}{l:List (List UInt8)}(h:RdS w 1 strE (.slice (some ad) n cap) l){k:Nat}(hk:k<l.length):w.cell? (ad.add k)=some (.string (ofL l[k])) :=
 RdS.at1 (e1:=fun r=>.string (ofL r)) h hk
theorem findIdx_at{α:Type}{p:α→Bool}{l:List α}{k:Nat}(h:k<l.length)(hp:p l[k]=true)(hn:∀ j,(h:j<l.length)→j<k→p l[j]=false):l.findIdx p=k:=by
 rw [List.findIdx_eq h]
 exact ⟨hp,fun j hj=>hn j (by omega) hj⟩
theorem findIdx_none{α:Type}{p:α→Bool}{l:List α}(hn:∀ j,(h:j<l.length)→p l[j]=false):l.findIdx p=l.length:=by
 rw [List.findIdx_eq_length]
 intro x hx
 obtain ⟨j,hj,rfl⟩:=List.mem_iff_getElem.1 hx
 exact hn j hj
theorem index_ok(v:Value)(l:List (List UInt8))(r:List UInt8)(w:World)(h:RdS w 1 strE v l)(hl:(l.length:Int)≤9223372036854775806) :
  Ret Tryz.prog 123 [v,.string (ofL r)] w fun u w'=>u=.int .i64 (if l.findIdx (fun x=>decide (x=r))<l.length then (l.findIdx fun x=>decide (x=r):Nat) else -1)∧Below w.heap.size w w':=by
 obtain ⟨a,c,rfl,_⟩:=h.form
 refine ent123 _ _ _ _ ?_
 simp (disch:=first|omega|exact zF rfl|exact zG rfl|exact fun h=>h|(simp only[zA,zB,zC,zD,bytesW];omega)) only[go_sem]
 refine W_loopU (fun k:Nat=>[(8,.int .i64 k)]) (fun k w'=>Below w.heap.size w w'∧k≤l.length∧∀ j,(h:j<l.length)→j<k→decide (l[j]=r)=false) (fun k=>l.length - k) 0 rfl ⟨Below.refl _ _,Nat.zero_le _,fun j _ h=>by omega⟩ ?_
 rintro k w1 ⟨b1,hk,he⟩
 by_cases hlt:k<l.length
 ·have hlt':(k:Int)<l.length:=by omega
  obtain ⟨p,rfl⟩:=h.ptr (by omega)
  have ek:=RdS.str (h.below b1 (by decide)) hlt
  simp (disch:=first|omega|exact zF rfl|exact zG rfl|exact fun h=>h|(simp only[zA,zB,zC,zD,bytesW];omega)) only[go_sem,hlt',ek]
  refine ⟨by omega,fun e1=>⟨?_,b1⟩,fun e1=>⟨⟨by omega,by omega⟩,k+1,rfl,⟨b1,by omega,fun j h1 h3=>?_⟩,by omega⟩⟩
  ·have e1':r=l[k]:=of_decide_eq_true e1
   rw [findIdx_at hlt (decide_eq_true e1'.symm) he,if_pos hlt]
  ·rcases Nat.lt_or_ge j k with h' | h'
   ·exact of_decide_eq_false (he j h1 h')
   ·obtain rfl:j=k:=by omega
    exact fun e=>of_decide_eq_false e1 (Eq.symm e)
 ·have hlt':¬ (k:Int)<l.length:=by omega
  simp (disch:=first|omega|exact zF rfl|exact zG rfl|exact fun h=>h|(simp only[zA,zB,zC,zD,bytesW];omega)) only[go_sem,hlt']
  rw [findIdx_none fun j hj=>he j hj (by omega),if_neg (by omega)]
  exact ⟨rfl,b1⟩
theorem contains_ok(v:Value)(l:List (List UInt8))(r:List UInt8)(w:World)(h:RdS w 1 strE v l)(hl:(l.length:Int)≤9223372036854775806) :
  Ret Tryz.prog 122 [v,.string (ofL r)] w fun u w'=>u=.bool (decide (l.findIdx (fun x=>decide (x=r))<l.length))∧Below w.heap.size w w':=by
 refine ent122 _ _ _ _ ?_
 simp (disch:=first|omega|exact zF rfl|exact zG rfl|exact fun h=>h|(simp only[zA,zB,zC,zD,bytesW];omega)) only[go_sem]
 refine Ret.mono (index_ok v l r w h hl) ?_
 rintro _ w2 ⟨rfl,b2⟩
 simp (disch:=first|omega|exact zF rfl|exact zG rfl|exact fun h=>h|(simp only[zA,zB,zC,zD,bytesW];omega)) only[go_sem]
 refine ⟨?_,b2⟩
 by_cases hh:l.findIdx (fun x=>decide (x=r))<l.length
 ·rw [if_pos hh,decide_eq_true hh]; simp
 ·rw [if_neg hh,decide_eq_false hh]; simp
theorem used_ok(v:Value)(l:List (List UInt8))(w:World)(h:RdS w 1 strE v l)(hl:l.length≤1000)(hs:sumP l≤1000000) :
  Ret Tryz.prog 121 [v] w fun u w'=>u=.int .i64 (takesP l)∧Below w.heap.size w w':=by
 obtain ⟨a,c,rfl,_⟩:=h.form
 refine ent121 _ _ _ ?_
 simp (disch:=first|omega|exact zF rfl|exact zG rfl|exact fun h=>h|(simp only[zA,zB,zC,zD,bytesW];omega)) only[go_sem]
 refine ⟨⟨by omega,by omega⟩,⟨by omega,by omega⟩,?_⟩
 refine W_loopU (fun k:Nat=>[(3,.int .i64 (1+2 * (l.length:Int)+sumP (l.take k))),(12,.int .i64 k)]) (fun k w'=>Below w.heap.size w w'∧k≤l.length) (fun k=>l.length - k) 0 rfl ⟨Below.refl _ _,Nat.zero_le _⟩ ?_
 rintro k w1 ⟨b1,hk⟩
 by_cases hlt:k<l.length
 ·have hlt':(k:Int)<l.length:=by omega
  obtain ⟨p,rfl⟩:=h.ptr (by omega)
  have ek:=RdS.str (h.below b1 (by decide)) hlt
  have h1:=sumP_take hlt
  have h2:=sumP_le (L:=l) (k+1)
  simp (disch:=first|omega|exact zF rfl|exact zG rfl|exact fun h=>h|(simp only[zA,zB,zC,zD,bytesW];omega)) only[go_sem,hlt',ek]
  refine ⟨by omega,⟨by omega,by omega⟩,⟨by omega,by omega⟩,k+1,?_,⟨b1,by omega⟩,by omega⟩
  rw [h1,Int.natCast_add,← Int.add_assoc]; rfl
 ·have hlt':¬ (k:Int)<l.length:=by omega
  obtain rfl:k=l.length:=by omega
  simp (disch:=first|omega|exact zF rfl|exact zG rfl|exact fun h=>h|(simp only[zA,zB,zC,zD,bytesW];omega)) only[go_sem,hlt']
  refine ⟨?_,b1⟩
  rw [List.take_length]; unfold takesP; omega
def PgV(w:World)(u:Value)(n:Int)(L:List (List UInt8)):Prop:=∃ vL,u=.agg #[.int .i64 n,vL]∧RdS w 1 strE vL L
theorem PgV.below{w w':World}{u:Value}{n:Int}{L:List (List UInt8)}(h:PgV w u n L)(hb:Below w.heap.size w w'):PgV w' u n L:=by
 obtain ⟨v,rfl,h⟩:=h
 exact ⟨v,rfl,h.below hb (by decide)⟩
theorem strs_take:∀ (l:List (List UInt8)) (k:Nat),(l.flatMap strE).take k=(l.take k).flatMap strE
 | [],k=>by simp
 | a::l,0=>rfl
 | a::l,k+1=>by rw [List.take_succ_cons,List.flatMap_cons,List.flatMap_cons,← strs_take l k]; rfl
theorem offA_zero{a:Option Addr}{c sz:Nat}:offA a c 0 sz=a:=by
 unfold offA
 rw [Nat.zero_mul]
 split
 ·rfl
 ·cases a with
  | none=>rfl
  | some a=>exact congrArg some (by unfold Addr.add; rfl)
theorem rd_take{w:World}{sz n k cap:Nat}{a:Option Addr}{xs:List Value}(h:Rd w sz (.slice a n cap) n xs)(hk:k≤n):Rd w sz (.slice (offA a cap 0 sz) k cap) k (xs.take (k * sz)):=by
 rw [offA_zero]; exact h.take hk
def trimN(L:List (List UInt8)):Nat→Nat
 | 0=>0
 | n+1=>if L[n]?=some [] then trimN L n else n+1
def trimP(L:List (List UInt8)):List (List UInt8):=L.take (trimN L L.length)
theorem trimN_le(L:List (List UInt8)):∀ n,trimN L n≤n
 | 0=>Nat.le_refl _
 | n+1=>by
  simp only [trimN]
  split
  ·exact Nat.le_succ_of_le (trimN_le L n)
  ·exact Nat.le_refl _
end Go.Proofs.YtkmjkmjpejmlnaaGreat.Slt

namespace Go.Proofs.YtkmjkmjpejmlnaaGreat.Slt
open Go Go.Ann Go.RowKit
def u8(n:Nat):UInt8:=UInt8.ofNat n
theorem wrap_u8(n:Nat):IntKind.u8.wrap (n:Int)=((u8 n).toNat:Int):=by
 rw [wrap_u8_mod]
 unfold u8
 simp
def bytesC(b:List UInt8):Array Value:=(b.map fun x=>Value.int .u8 x.toNat).toArray
theorem bytesC_set(b:List UInt8)(j:Nat)(x:UInt8):(bytesC b).setIfInBounds j (.int .u8 x.toNat)=bytesC (b.set j x):=by
 simp [bytesC,List.map_set]
theorem bytesC_get{b:List UInt8}{j:Nat}(h:j<b.length):∃ v,(bytesC b)[j]?=some v:=⟨.int .u8 b[j].toNat,by simp [bytesC,h]⟩
def putTo(b:List UInt8)(e:Nat)(r:List UInt8)(k:Nat):List UInt8:=b.take e++r.take k++b.drop (e+k)
theorem putTo_len{b r:List UInt8}{e k:Nat}(h:e+k≤b.length)(hk:k≤r.length):(putTo b e r k).length=b.length:=by
 unfold putTo; simp; omega
theorem putTo_zero(b r:List UInt8)(e:Nat):putTo b e r 0=b:=by unfold putTo; simp
theorem putTo_succ{b r:List UInt8}{e k:Nat}(h:e+k<b.length)(hk:k<r.length):(putTo b e r k).set (e+k) r[k]=putTo b e r (k+1):=by
 unfold putTo
 have h1:(b.take e++r.take k).length=e+k:=by simp; omega
 rw [List.set_append_right _ _ (by omega),h1,Nat.sub_self,List.drop_eq_getElem_cons h,List.set_cons_zero,List.take_succ_eq_append_getElem hk,Nat.add_assoc]
 simp only [List.append_assoc,List.singleton_append]
def putAt(b:List UInt8)(e:Nat)(r:List UInt8):List UInt8:=putTo b e r r.length
def layS(i:Nat)(st:List UInt8 × Nat)(r:List UInt8):List UInt8 × Nat :=
 if r=[] then st else (putAt ((st.1.set (1+2 * i) (u8 (st.2 - r.length))).set (2+2 * i) (u8 r.length)) (st.2 - r.length) r,st.2 - r.length)
def layTo(size:Nat)(L:List (List UInt8)):Nat→List UInt8 × Nat
 | 0=>((List.replicate size 0).set 0 (u8 L.length),size)
 | k+1=>match L[k]? with | some r=>layS k (layTo size L k) r | none=>layTo size L k
def textP(size:Nat)(L:List (List UInt8)):List UInt8:=(layTo size L L.length).1
theorem layTo_succ{size:Nat}{L:List (List UInt8)}{k:Nat}(h:k<L.length):layTo size L (k+1)=layS k (layTo size L k) L[k]:=by
 simp only [layTo,List.getElem?_eq_getElem h]
structure Fits(size:Nat)(L:List (List UInt8)):Prop where
 lo:8≤size
 hi:size≤256
 room:takesP L≤size
theorem layTo_end{size:Nat}{L:List (List UInt8)}(h:Fits size L):∀ {k:Nat},k≤L.length→(layTo size L k).2+sumP (L.take k)=size
 | 0,_=>by simp [layTo,sumP]
 | k+1,hk=>by
  have ih:=layTo_end h (k:=k) (by omega)
  have h1:=sumP_take (L:=L) (k:=k) (by omega)
  have h2:=sumP_le (L:=L) (k+1)
  have h3:=h.room
  unfold takesP at h3
  rw [layTo_succ (by omega)]
  unfold layS
  split
  ·rename_i e; rw [e] at h1; simp at h1; omega
  ·simp only; omega
theorem layTo_len{size:Nat}{L:List (List UInt8)}(h:Fits size L):∀ {k:Nat},k≤L.length→(layTo size L k).1.length=size
 | 0,_=>by simp [layTo]
 | k+1,hk=>by
  have ih:=layTo_len h (k:=k) (by omega)
  have he:=layTo_end h (k:=k) (by omega)
  have h1:=sumP_take (L:=L) (k:=k) (by omega)
  have h2:=sumP_le (L:=L) (k+1)
  have h3:=h.room
  unfold takesP at h3
  rw [layTo_succ (by omega)]
  unfold layS
  split
  ·exact ih
  ·unfold putAt
   rw [putTo_len (by rw [List.length_set,List.length_set,ih]; omega) (Nat.le_refl _),List.length_set,List.length_set,ih]
theorem zeros_bytes(n:Nat):zerosA (.int .u8 0) n=bytesC (List.replicate n 0):=by simp [zerosA,bytesC]
theorem setCellsW_append{p:Addr}:∀ (l1 l2:List Value) (i:Nat) (w:World),setCellsW w p i (l1++l2)=setCellsW (setCellsW w p i l1) p (i+l1.length) l2
 | [],l2,i,w=>by simp [setCellsW]
 | v::r,l2,i,w=>by
  rw [List.cons_append,setCellsW,setCellsW,setCellsW_append r l2,List.length_cons]
  congr 1; omega
theorem St.copyS{W0 w:World}{F:Nat→Prop}{L:List Res}{I:List Inv}{K:Value→World→Prop}(h:St W0 w F L I)(i:Nat){g n c e:Nat}{b r:List UInt8}{ty:TypeId}{cs:Array Bool}(hi:L[i]?=some (.blk g (bytesC b) 5))
  (hr:r.length≤n) (hb:e+r.length≤b.length) (hK:∀ w',St W0 w' F (L.set i (.blk g (bytesC (putAt b e r)) 5)) I→K (.int .i64 r.length) w') :
  rawB Tryz.prog .copy #[181,9] ty cs [.slice (some ⟨g,e,none⟩) n c,.string (ofL r)] w K:=by
 have hb0:=h.blk i hi
 have rr:=hb0.rules
 have hu:Tryz.prog.underlying 181=some (.slice 5):=by kernel_rfl
 have hsz:(sizeOf 5).run Tryz.prog w=.ok 1 w:=by kernel_rfl
 have hex:((ofL r).extract 0 r.length).data.map (fun b=>Value.int .u8 b.toNat)=(r.map fun b=>Value.int .u8 b.toNat).toArray:=by
  have:(ofL r).extract 0 r.length=ofL r:=by
   have h1:(ofL r).size=r.length:=by simp [ofL,ByteArray.size]
   rw [← h1]; exact ByteArray.extract_zero_size
  rw [this]; simp [ofL]
 have hst:=run_storeCells_W (P:=Tryz.prog) (r.map fun b=>Value.int .u8 b.toNat) 0 w ⟨g,e,none⟩ (by intro u hu; obtain ⟨x,_,rfl⟩:=List.mem_map.1 hu; rfl) (fun j hj=>by
  rw [List.length_map] at hj
  rw [Nat.zero_add,Addr.add_lit,rr.1,rr.2.1]
  exact ⟨bytesC_get (by omega),rfl⟩)
 refine ⟨.int .i64 r.length,setCellsW w ⟨g,e,none⟩ 0 (r.map fun b=>Value.int .u8 b.toNat),?_,hK _ ?_⟩
 ·have h1:(ofL r).size=r.length:=by simp [ofL,ByteArray.size]
  have hmin:Nat.min r.length n=r.length:=Nat.min_eq_left hr
  simp only [builtin,Builtin.copy_,Sem.run_bind,run_underlying hu,Result.andThen,Sem.run_pure,Builtin.lenOf,Builtin.firstCells,hsz,h1,hmin,hex,hst]
  have e3:(ofL r).size.min n=r.length:=by rw [h1]; exact hmin
  have e4:List.take r.length (List.map (fun b=>Value.int .u8 b.toNat) (ofL r).data.toList)=r.map fun b=>Value.int .u8 b.toNat:=by
   rw [List.take_of_length_le (by simp [ofL])]; rfl
  simp [Result.andThen,goInt,Sem.run_bind,e3,e4,hst]
 ·have key:∀ (k:Nat),k≤r.length→St W0 (setCellsW w ⟨g,e,none⟩ 0 ((r.take k).map fun b=>Value.int .u8 b.toNat)) F (L.set i (.blk g (bytesC (putTo b e r k)) 5)) I:=by
   intro k
   induction k with
   | zero =>
    intro _
    rw [putTo_zero]
    have e0:L.set i (.blk g (bytesC b) 5)=L:=by
     apply List.ext_getElem?
     intro j
     rw [List.getElem?_set]
     split
     ·rename_i e; subst e; rw [hi]; simp [(List.getElem?_eq_some_iff.1 hi).1]
     ·rfl
    rw [e0]; exact h
   | succ k ih =>
    intro hk
    have ih':=ih (by omega)
    have hlt:i<L.length:=(List.getElem?_eq_some_iff.1 hi).1
    have s':=ih'.set i (by rw [List.getElem?_set_self hlt]) (e+k) (.int .u8 (r[k].toNat:Int))
    rw [List.set_set,bytesC_set,putTo_succ (by omega) (by omega)] at s'
    rw [List.take_succ_eq_append_getElem (by omega),List.map_append,setCellsW_append]
    simp only [List.map_cons,List.map_nil,setCellsW,List.length_map,List.length_take,Nat.zero_add,Addr.add_lit,Nat.min_eq_left (show k≤r.length by omega)]
    exact s'
  have:=key r.length (Nat.le_refl _)
  rw [List.take_length] at this
  exact this
theorem layC{b r:List UInt8}{e j:Nat}{x:UInt8}(hj:j<e)(hb:e+r.length≤b.length):(putAt b e r).set j x=putAt (b.set j x) e r:=by
 unfold putAt putTo
 rw [List.append_assoc,List.set_append_left _ _ (by simp; omega),List.take_set,List.drop_set_of_lt (by omega),List.append_assoc]
theorem lay6{a:Option Addr}{c:Nat}{size:Nat}{L:List (List UInt8)}{w:World}{K:Value→World→Prop}(h:RdS w 1 strE (.slice a L.length c) L)(hf:Fits size L)(hK:∀ w',Below w.heap.size w w'→K (.string (ofL (textP size L))) w') :
  W Tryz.prog (c124S6 ()) [(0,.int .i64 size),(1,.slice a L.length c)] w (finQ Tryz.prog [.tmp 4] K):=by
 have hhi:=hf.hi
 have hlo:=hf.lo
 have hroom:=hf.room
 unfold takesP at hroom
 simp (disch:=first|omega|exact zF rfl|exact zG rfl|exact fun h=>h|(simp only[zA,zB,zC,zD,bytesW];omega)) only[go_sem,c124S6]
 refine msW_one ty181mkI rfl (by omega) (by omega) (by omega) (by omega) ?_
 rw [Int.toNat_natCast,zeros_bytes]
 have s2:=(St.start (W0:=w)).box (bytesC (List.replicate size 0)) 5
 obtain ⟨g,hg⟩:∃ g,g=w.heap.size:=⟨_,rfl⟩
 rw [← hg] at s2 ⊢
 generalize w.alloc (.cells (bytesC (List.replicate size 0)) 5)=w2 at s2 ⊢
 have r2:=s2.rules 0 rfl
 simp (disch:=first|omega|exact zF rfl|exact zG rfl|exact fun h=>h|(simp only[zA,zB,zC,zD,bytesW];omega)) only[go_sem,c124S6,r2]
 refine ⟨by omega,bytesC_get (by simp; omega),?_⟩
 have s3:=s2.set 0 rfl 0 (.int .u8 (IntKind.u8.wrap (L.length:Int)))
 simp only [List.set_cons_zero] at s3
 rw [wrap_u8,bytesC_set] at s3
 rw [wrap_u8]
 generalize w2.setCell ⟨g,0,none⟩ (.int .u8 ((u8 L.length).toNat:Int))=w3 at s3 ⊢
 refine W_loopU (fun i:Nat=>[(6,.int .i64 ((layTo size L i).2:Nat)),(36,.int .i64 i)]) (fun i w'=>St w w' (fun _=>False) [.blk g (bytesC (layTo size L i).1) 5] []∧i≤L.length) (fun i=>L.length - i) 0 rfl ⟨s3,Nat.zero_le _⟩ ?_
 rintro i w4 ⟨s4,hi⟩
 have h4:=h.below s4.bel (by decide)
 by_cases hlt:i<L.length
 ·have hlt':(i:Int)<L.length:=by omega
  obtain ⟨p,rfl⟩:=h.ptr (by omega)
  have ei:=RdS.str h4 hlt
  have hend:=layTo_end hf (k:=i) hi
  have hlen:=layTo_len hf (k:=i) hi
  have hs1:=sumP_take hlt
  have hs2:=sumP_le (L:=L) (i+1)
  have hsucc:=layTo_succ (size:=size) hlt
  have ht1:((1:Int)+2 * (i:Int)).toNat=1+2 * i:=by omega
  have ht2:((1:Int)+2 * (i:Int)+1).toNat=2+2 * i:=by omega
  obtain ⟨e,he⟩:∃ e,e=(layTo size L i).2 - L[i].length:=⟨_,rfl⟩
  have hee:((layTo size L i).2:Int) - (L[i].length:Int)=(e:Int):=by omega
  simp (disch:=first|omega|exact zF rfl|exact zG rfl|exact fun h=>h|(simp only[zA,zB,zC,zD,bytesW];omega)) only[go_sem,c124S6,hlt',ei]
  refine ⟨by omega,fun hr=>?_,fun hr=>?_⟩
  ·have hr':=of_decide_eq_true hr
   have e1:layTo size L (i+1)=layTo size L i:=by rw [hsucc,layS,if_pos hr']
   exact ⟨⟨by omega,by omega⟩,i+1,by rw [e1]; rfl,⟨by rw [e1]; exact s4,by omega⟩,by omega⟩
  ·have hr':=of_decide_eq_false hr
   have e1:layTo size L (i+1)=(putAt (((layTo size L i).1.set (1+2 * i) (u8 e)).set (2+2 * i) (u8 L[i].length)) e L[i],e):=by rw [hsucc,layS,if_neg hr',he]
   have hpos:=List.length_pos_iff.2 hr'
   rw [hee]
   have hoff2:offA (some ⟨g,0,none⟩) size ((e:Int)).toNat 1=some ⟨g,e,none⟩:=by
    rw [Int.toNat_natCast]
    unfold offA
    rw [if_neg (by omega)]
    simp [Addr.add_lit]
   have h1e:(0:Int)≤e:=by omega
   refine ⟨⟨by omega,by omega⟩,⟨by omega,by omega⟩,?_⟩
   rw [hoff2]
   refine St.copyS s4 0 rfl (by rw [Int.toNat_natCast]; omega) (by omega) ?_
   intro w5 s5
   simp only [List.set_cons_zero] at s5
   have r5:=s5.rules 0 rfl
   have hpl:(putAt (layTo size L i).1 e L[i]).length=size:=by unfold putAt; rw [putTo_len (by omega) (Nat.le_refl _),hlen]
   simp (disch:=first|omega|exact zF rfl|exact zG rfl|exact fun h=>h|(simp only[zA,zB,zC,zD,bytesW];omega)) only[go_sem,c124S6,hlt',ei]
   rw [ht1,ht2,r5.1,r5.1,r5.2.1,r5.2.1]
   have s6:=(s5.set 0 rfl (1+2 * i) (.int .u8 (IntKind.u8.wrap (e:Int)))).set 0 rfl (2+2 * i) (.int .u8 (IntKind.u8.wrap (L[i].length:Int)))
   simp only [List.set_cons_zero] at s6
   rw [wrap_u8,wrap_u8,bytesC_set,bytesC_set,layC (by omega) (by omega),layC (by omega) (by rw [List.length_set]; omega)] at s6
   rw [wrap_u8,wrap_u8]
   exact ⟨⟨by omega,by omega⟩,⟨by omega,by omega⟩,⟨by omega,by omega⟩,⟨by omega,by omega⟩,⟨by omega,by omega⟩,⟨by omega,by omega⟩,bytesC_get (by omega),rfl,⟨by omega,by omega⟩,bytesC_get (by omega),rfl,⟨by omega,by omega⟩,i+1,by rw [e1]; rfl,⟨by rw [e1]; exact s6,by omega⟩,by omega⟩
 ·have hlt':¬ (i:Int)<L.length:=by omega
  obtain rfl:i=L.length:=by omega
  have r4:=s4.rules 0 rfl
  simp (disch:=first|omega|exact zF rfl|exact zG rfl|exact fun h=>h|(simp only[zA,zB,zC,zD,bytesW];omega)) only[go_sem,c124S6,hlt',r4]
  refine ⟨_,layTo_len hf (Nat.le_refl _),fun j b hb=>?_,hK _ s4.bel⟩
  rw [Addr.add_lit,Nat.zero_add,r4.1]
  simp [bytesC,hb]
theorem lay_ok(v:Value)(size:Nat)(l:List (List UInt8))(w:World)(h:RdS w 1 strE v l)(hl:l.length≤1000)(hf:Fits size (trimP l)) :
  Ret Tryz.prog 124 [.int .i64 size,v] w fun u w'=>u=.string (ofL (textP size (trimP l)))∧Below w.heap.size w w':=by
 obtain ⟨a,c,rfl,_⟩:=h.form
 have hhi:=hf.hi
 have hlo:=hf.lo
 have hroom:=hf.room
 unfold takesP at hroom
 refine ent124 _ _ _ _ ?_
 simp (disch:=first|omega|exact zF rfl|exact zG rfl|exact fun h=>h|(simp only[zA,zB,zC,zD,bytesW];omega)) only[go_sem,c124S6]
 refine W_loopU (fun k:Nat=>[(1,.slice a k c)]) (fun k w'=>Below w.heap.size w w'∧k≤l.length∧trimN l l.length=trimN l k) (fun k=>k) l.length rfl ⟨Below.refl _ _,Nat.le_refl _,rfl⟩ ?_
 rintro k w1 ⟨b1,hk,he⟩
 have h1:=h.below b1 (by decide)
 have hoff:offA a c 0 1=a:=offA_zero
 have fin:∀ k,k≤l.length→trimN l l.length=k→W Tryz.prog (c124S6 ()) [(0,.int .i64 size),(1,.slice a k c)] w1 (finQ Tryz.prog [.tmp 4] fun u w'=>u=.string (ofL (textP size (trimP l)))∧Below w.heap.size w w'):=by
  intro k hk e
  have h2:=rd_take (show Rd w1 1 (.slice a l.length c) l.length (l.flatMap strE) from h1) hk
  rw [Nat.mul_one,hoff,strs_take] at h2
  have e4:(l.take k).length=k:=by rw [List.length_take]; omega
  have e5:trimP l=l.take k:=by unfold trimP; rw [e]
  rw [e5] at hf ⊢
  have h3:RdS w1 1 strE (.slice a (l.take k).length c) (l.take k):=by show Rd w1 1 _ _ _; rw [e4]; exact h2
  have:=lay6 h3 hf (K:=fun u w'=>u=.string (ofL (textP size (l.take k)))∧Below w.heap.size w w') fun w' b=>⟨rfl,b1.trans (b.mono b1.size)⟩
  rw [e4] at this
  exact this
 cases k with
 | zero =>
  simp (disch:=first|omega|exact zF rfl|exact zG rfl|exact fun h=>h|(simp only[zA,zB,zC,zD,bytesW];omega)) only[go_sem]
  exact fin 0 (Nat.zero_le _) he
 | succ k =>
  have hlt:k<l.length:=by omega
  have hk1:((k+1:Nat):Int) - 1=k:=by omega
  have hpos:(0:Int)<((k+1:Nat):Int):=by omega
  obtain ⟨p,rfl⟩:=h.ptr (by omega)
  have ek:=RdS.str h1 hlt
  generalize hm:k+1=m at *
  have hem1:l[k]=[]→trimN l m=trimN l k:=fun e=>by rw [← hm]; simp [trimN,List.getElem?_eq_getElem hlt,e]
  have hem2:l[k]≠[]→trimN l m=m:=fun e=>by rw [← hm]; simp [trimN,List.getElem?_eq_getElem hlt,e]
  have hkm:(k:Int)<m:=by omega
  simp (disch:=first|omega|exact zF rfl|exact zG rfl|exact fun h=>h|(simp only[zA,zB,zC,zD,bytesW];omega)) only[go_sem,hpos,hk1,ek,hkm,hoff]
  refine ⟨⟨by omega,by omega⟩,by omega,fun e=>⟨⟨by omega,by omega⟩,⟨by omega,by omega⟩,k,rfl,⟨b1,by omega,?_⟩,by omega⟩,fun e=>fin m hk ?_⟩
  ·rw [he,hem1 (of_decide_eq_true e)]
  ·rw [he,hem2 (of_decide_eq_false e)]
end Go.Proofs.YtkmjkmjpejmlnaaGreat.Slt

namespace Go.Proofs.YtkmjkmjpejmlnaaGreat.Slt
open Go Go.Ann Go.RowKit
theorem own_mono{w:World}{B B' e sz n:Nat}{v:Value}{xs:List Value}(h:w.ownsRow B e sz v n xs)(hb:B'≤B):w.ownsRow B' e sz v n xs:=by
 refine ⟨h.1,h.2.imp id fun ⟨g,cap,cur,h1,h2,h3⟩=>⟨g,cap,cur,h1,Nat.le_trans hb h2,h3⟩⟩
def freeP(size:Nat)(L:List (List UInt8)):Int:=max 0 (min (if vacantP L=L.length then (size:Int) - takesP L - 2 else (size:Int) - takesP L) 255)
theorem Pg.sum{s:List UInt8}{L:List (List UInt8)}(h:Pg s L):sumP L≤255 * L.length:=by
 have:∀ k,k≤L.length→sumP (L.take k)≤255 * k:=by
  intro k
  induction k with
  | zero=>intro _; simp [sumP]
  | succ k ih =>
   intro hk
   have h1:=sumP_take (L:=L) (k:=k) (by omega)
   have h2:=h.len (show k<L.length by omega)
   have h3:=bN_bd s (2+2 * k)
   have:=ih (by omega)
   omega
 have h1:=this L.length (Nat.le_refl _)
 rwa [List.take_length] at h1
theorem Pg.ne{s:List UInt8}{L:List (List UInt8)}(h:Pg s L):s≠[]:=by rintro rfl; have:=h.lo; simp at this
theorem free_ok(s:List UInt8)(L:List (List UInt8))(w:World)(h:Pg s L):Ret Tryz.prog 57 [.string (ofL s)] w fun u w'=>u=.int .i64 (freeP s.length L)∧Below w.heap.size w w':=by
 have hfew:=h.few
 have hsum:=h.sum
 have hhi:=h.hi
 refine ent57 _ _ _ ?_
 simp (disch:=first|omega|exact zF rfl|exact zG rfl|exact fun h=>h|(simp only[zA,zB,zC,zD,bytesW];omega)) only[go_sem]
 refine ⟨fun e=>absurd (of_decide_eq_true e) h.ne,fun _=>Ret.mono (list_ok s L w h) ?_⟩
 rintro v w2 ⟨o2,b2⟩
 have h2:=RdS.of_own' o2 L rfl rfl
 obtain ⟨a,c,rfl,_⟩:=h2.form
 simp (disch:=first|omega|exact zF rfl|exact zG rfl|exact fun h=>h|(simp only[zA,zB,zC,zD,bytesW];omega)) only[go_sem]
 refine Ret.mono (used_ok _ L w2 h2 (by omega) (by omega)) ?_
 rintro _ w3 ⟨rfl,b3⟩
 have h3:=h2.below b3 (by decide)
 have b03:=b2.trans (b3.mono b2.size)
 have ht:takesP L=1+2 * L.length+sumP L:=rfl
 simp (disch:=first|omega|exact zF rfl|exact zG rfl|exact fun h=>h|(simp only[zA,zB,zC,zD,bytesW];omega)) only[go_sem]
 refine ⟨⟨by omega,by omega⟩,Ret.mono (contains_ok _ L [] w3 h3 (by omega)) ?_⟩
 rintro _ w4 ⟨rfl,b4⟩
 have b04:=b03.trans (b4.mono b03.size)
 have hv:=List.findIdx_le_length (xs:=L) (p:=fun r=>decide (r=[]))
 simp (disch:=first|omega|exact zF rfl|exact zG rfl|exact fun h=>h|(simp only[zA,zB,zC,zD,bytesW];omega)) only[go_sem]
 have hv2:vacantP L=List.findIdx (fun x=>decide (x=[])) L:=rfl
 refine ⟨fun e=>⟨⟨by omega,by omega⟩,?_,b04⟩,fun e=>⟨?_,b04⟩⟩
 ·unfold freeP; rw [if_pos (by omega)]
 ·unfold freeP; rw [if_neg (by omega)]
def withP(i:Nat)(r:List UInt8)(L:List (List UInt8)):List (List UInt8):=trimP (if i=L.length then L++[r] else L.set i r)
theorem takes_trim(L:List (List UInt8)):takesP (trimP L)≤takesP L:=by
 have h1:=trimN_le L L.length
 have h2:=sumP_le (L:=L) (trimN L L.length)
 unfold takesP trimP
 rw [List.length_take]; omega
theorem sumP_set:∀ {L:List (List UInt8)} {k:Nat} (h:k<L.length) (r:List UInt8),sumP (L.set k r)+L[k].length=sumP L+r.length
 | a::L,0,h,r=>by simp [sumP]; omega
 | a::L,k+1,h,r=>by
  have:=sumP_set (L:=L) (k:=k) (by simpa using h) r
  have e1:sumP (a::L.set k r)=a.length+sumP (L.set k r):=by simp [sumP]
  have e2:sumP (a::L)=a.length+sumP L:=by simp [sumP]
  rw [List.set_cons_succ,e1,e2,List.getElem_cons_succ]; omega
theorem vacant_nil{L:List (List UInt8)}(h:vacantP L<L.length):L[vacantP L]=[]:=by
 unfold vacantP at h ⊢
 have:=List.findIdx_getElem (w:=h)
 exact of_decide_eq_true this
theorem put9{s r:List UInt8}{l:List (List UInt8)}{i:Nat}{v:Value}{W0 w:World}{K:Value→World→Prop}(h:St W0 w (fun _=>False) [.row v 9 1 l.length (l.flatMap strE)] [])(hi:i<l.length)(hl:l.length≤1000)(hf:Fits s.length (trimP (l.set i r)))
  (hK:∀ w',Below W0.heap.size W0 w'→K (.tuple #[.string (ofL (textP s.length (trimP (l.set i r)))),.int .i64 i,.bool true]) w') :
  W Tryz.prog (c58S2 ()) [(0,.string (ofL s)),(1,.string (ofL r)),(7,v),(8,.int .i64 i)] w (finQ Tryz.prog [.tmp 4,.tmp 5,.tmp 6] K):=by
 have hrow:=h.row 0 rfl
 have hlen:=strs_len l
 obtain ⟨g,cap,rfl,hcap⟩:∃ g cap,v=.slice (some ⟨g,0,none⟩) l.length cap∧l.length≤cap:=by
  obtain ⟨_,⟨_,h0⟩ | ⟨g,cap,cur,e,_,_,hc,_⟩⟩:=hrow
  ·omega
  ·exact ⟨g,cap,e,hc⟩
 have hc0:∃ old,w.cell? ⟨g,i,none⟩=some old:=by
  have:=hrow.cells rfl i _ (List.getElem?_eq_getElem (show i<(l.flatMap strE).length by omega))
  rw [Addr.add_lit,Nat.zero_add] at this
  exact ⟨_,this⟩
 have hf0:w.frozen? ⟨g,i,none⟩=false:=by
  obtain ⟨_,⟨h0,_⟩ | ⟨g',cap',cur,e,_,hb,_⟩⟩:=hrow
  ·cases h0
  ·cases e; exact Blk.frozen (show Blk w g cur _ from hb) _
 have hi':(i:Int)<l.length:=by omega
 simp (disch:=first|omega|exact zF rfl|exact zG rfl|exact fun h=>h|(simp only[zA,zB,zC,zD,bytesW];omega)) only[go_sem,c58S2,hi',hf0]
 refine ⟨by omega,hc0,?_⟩
 have s2:=h.put 0 rfl i (.string (ofL r))
 simp only [List.set_cons_zero] at s2
 rw [← strs_set] at s2
 generalize w.setCell ⟨g,i,none⟩ (.string (ofL r))=w2 at s2 ⊢
 have hs:=RdS.of_own' (s2.row 0 rfl) (l.set i r) (by simp) rfl
 have hll:(l.set i r).length=l.length:=List.length_set
 refine Ret.mono (lay_ok _ s.length (l.set i r) w2 hs (by omega) hf) ?_
 rintro _ w3 ⟨rfl,b3⟩
 simp (disch:=first|omega|exact zF rfl|exact zG rfl|exact fun h=>h|(simp only[zA,zB,zC,zD,bytesW];omega)) only[go_sem,c58S2]
 exact hK _ (s2.bel.trans (b3.mono s2.size))
theorem slot_put_ok(s r:List UInt8)(L:List (List UInt8))(w:World)(h:Pg s L):Ret Tryz.prog 58 [.string (ofL s),.string (ofL r)] w fun u w' =>
  u=(if r=[]∨freeP s.length L<r.length then .tuple #[.string (ofL s),.int .i64 0,.bool false] else .tuple #[.string (ofL (textP s.length (withP (vacantP L) r L))),.int .i64 (vacantP L:Nat),.bool true])∧Below w.heap.size w w':=by
 have hfew:=h.few
 have hsum:=h.sum
 have hhi:=h.hi
 refine ent58 _ _ _ _ ?_
 simp (disch:=first|omega|exact zF rfl|exact zG rfl|exact fun h=>h|(simp only[zA,zB,zC,zD,bytesW];omega)) only[go_sem,c58S2]
 refine ⟨fun e=>Ret.mono (free_ok s L w h) ?_,fun e=>⟨by rw [if_pos (.inl (of_decide_eq_true e))],Below.refl _ _⟩⟩
 have hr:r≠[]:=of_decide_eq_false e
 rintro _ w2 ⟨rfl,b2⟩
 simp (disch:=first|omega|exact zF rfl|exact zG rfl|exact fun h=>h|(simp only[zA,zB,zC,zD,bytesW];omega)) only[go_sem,c58S2]
 refine ⟨fun hfr=>⟨by rw [if_pos (.inr hfr)],b2⟩,fun hfr=>?_⟩
 have hno:¬ (r=[]∨freeP s.length L<r.length):=by rintro (h | h); exact hr h; omega
 rw [if_neg hno]
 have hrpos:=List.length_pos_iff.2 hr
 refine Ret.mono (list_ok s L w2 h) ?_
 rintro v w3 ⟨o3,b3⟩
 have s3:=((St.start (W0:=w)).call b2).add b3 (.row v 9 1 L.length (L.flatMap strE)) (own_mono o3 b2.size) fun k hk=>(o3.lt k hk).1
 have h3:=RdS.of_own' (s3.row 0 rfl) L rfl rfl
 simp (disch:=first|omega|exact zF rfl|exact zG rfl|exact fun h=>h|(simp only[zA,zB,zC,zD,bytesW];omega)) only[go_sem,c58S2]
 refine Ret.mono (index_ok v L [] w3 h3 (by omega)) ?_
 rintro _ w4 ⟨rfl,b4⟩
 have s4:=s3.call b4
 have hv2:List.findIdx (fun x=>decide (x=[])) L=vacantP L:=rfl
 have hv:=List.findIdx_le_length (xs:=L) (p:=fun r=>decide (r=[]))
 have ht:takesP L=1+2 * L.length+sumP L:=rfl
 rw [hv2] at hv ⊢
 by_cases hfd:vacantP L<L.length
 ·rw [if_pos hfd]
  have hlt':¬ ((vacantP L:Nat):Int)<0:=by omega
  simp (disch:=first|omega|exact zF rfl|exact zG rfl|exact fun h=>h|(simp only[zA,zB,zC,zD,bytesW];omega)) only[go_sem,hlt']
  have e1:withP (vacantP L) r L=trimP (L.set (vacantP L) r):=by unfold withP; rw [if_neg (by omega)]
  rw [e1]
  refine put9 s4 hfd (by omega) ⟨h.lo,h.hi,?_⟩ fun w' b=>⟨rfl,b⟩
  have h5:=takes_trim (L.set (vacantP L) r)
  have h6:=sumP_set hfd r
  rw [vacant_nil hfd] at h6
  have ht2:takesP (L.set (vacantP L) r)=1+2 * (L.set (vacantP L) r).length+sumP (L.set (vacantP L) r):=rfl
  rw [List.length_set] at ht2
  simp only [List.length_nil] at h6
  unfold freeP at hfr
  rw [if_neg (by omega)] at hfr
  omega
 ·rw [if_neg hfd]
  have hvl:vacantP L=L.length:=by omega
  obtain ⟨a4,c4,rfl,_⟩:=own_slice o3
  simp (disch:=first|omega|exact zF rfl|exact zG rfl|exact fun h=>h|(simp only[zA,zB,zC,zD,bytesW];omega)) only[go_sem]
  refine bsW_ones ty22mkI rfl rfl (by decide) (by decide) (by intro v hv; rw [List.mem_singleton] at hv; subst hv; rfl) ?_
  simp (disch:=first|omega|exact zF rfl|exact zG rfl|exact fun h=>h|(simp only[zA,zB,zC,zD,bytesW];omega)) only[go_sem]
  have hx:Rd (w4.alloc (.cells #[.string (ofL [])] 9)) 1 (.slice (some ⟨w4.heap.size,0,none⟩) 1 1) 1 (strE []):=rd_new (n:=1) (cs:=#[.string (ofL [])]) rfl
  refine (s4.alloc' (.cells #[.string (ofL [])] 9)).append 0 rfl ty22mkI rfl (by decide) hx (strE_one []) (by omega) (by omega) ?_
  intro v6 w6 s6 c6
  simp only [List.set_cons_zero] at s6
  have e6:L.flatMap strE++strE []=(L++[[]]).flatMap strE:=by rw [List.flatMap_append]; simp
  have e7:L.length+1=(L++[[]]).length:=by simp
  rw [e6,e7] at s6
  simp (disch:=first|omega|exact zF rfl|exact zG rfl|exact fun h=>h|(simp only[zA,zB,zC,zD,bytesW];omega)) only[go_sem]
  have e8:(L++[[]]).set L.length r=L++[r]:=by rw [List.set_append_right _ _ (Nat.le_refl _),Nat.sub_self]; rfl
  have e1:withP (vacantP L) r L=trimP ((L++[[]]).set L.length r):=by unfold withP; rw [if_pos hvl,e8]
  rw [e1,hvl]
  refine put9 s6 (by simp) (by simp; omega) ⟨h.lo,h.hi,?_⟩ fun w' b=>⟨rfl,b⟩
  rw [e8]
  have h5:=takes_trim (L++[r])
  have h6:=sumP_append L [r]
  rw [sumP_one] at h6
  have ht2:takesP (L++[r])=1+2 * (L++[r]).length+sumP (L++[r]):=rfl
  rw [List.length_append,List.length_singleton] at ht2
  unfold freeP at hfr
  rw [if_pos hvl] at hfr
  omega
end Go.Proofs.YtkmjkmjpejmlnaaGreat.Slt

namespace Go.Proofs.YtkmjkmjpejmlnaaGreat.Slt
open Go Go.Ann Go.RowKit
theorem countP_or{p q:Nat→Bool}:∀ {l:List Nat},(∀ x∈l,p x=true→q x=true→False)→l.countP (fun x=>p x || q x)=l.countP p+l.countP q
 | [],_=>rfl
 | a::l,h=>by
  have ih:=countP_or (l:=l) fun x hx=>h x (List.mem_cons_of_mem _ hx)
  have h0:=h a List.mem_cons_self
  rw [List.countP_cons,List.countP_cons,List.countP_cons,ih]
  cases hp:p a <;> cases hq:q a
  ·simp
  ·simp; omega
  ·simp; omega
  ·exact (h0 hp hq).elim
theorem count_iv:∀ (N a b:Nat),b≤N→a≤b→(List.range N).countP (fun p=>decide (a≤p∧p<b))=b - a
 | 0,a,b,h1,h2=>by simp; omega
 | N+1,a,b,h1,h2=>by
  rw [List.range_succ,List.countP_append]
  by_cases hb:b≤N
  ·rw [count_iv N a b hb h2]
   simp; omega
  ·have hbN:b=N+1:=by omega
   subst hbN
   have e:(List.range N).countP (fun p=>decide (a≤p∧p<N+1))=(List.range N).countP (fun p=>decide (a≤p∧p<N)):=by
    refine List.countP_congr fun x hx=>?_
    have:=List.mem_range.1 hx
    simp; omega
   rw [e]
   by_cases ha:a≤N
   ·rw [count_iv N a N (Nat.le_refl _) ha]; simp [ha]; omega
   ·have:(List.range N).countP (fun p=>decide (a≤p∧p<N))=0:=by
     rw [List.countP_eq_zero]; intro x hx; have:=List.mem_range.1 hx; simp; omega
    rw [this]; simp [ha]; omega
def sumZ(z:Nat→Nat):Nat→Nat
 | 0=>0
 | n+1=>sumZ z n+z n
def covB(A:Nat)(f z:Nat→Nat):Nat→Nat→Bool
 | 0,p=>decide (0≤p∧p<A)
 | n+1,p=>covB A f z n p || decide (f n≤p∧p<f n+z n)
theorem covB_out{A:Nat}{f z:Nat→Nat}:∀ {n p:Nat},covB A f z n p=true→p<A∨∃ i,i<n∧f i≤p∧p<f i+z i
 | 0,p,h=>.inl (of_decide_eq_true h).2
 | n+1,p,h=>by
  simp only [covB,Bool.or_eq_true] at h
  rcases h with h | h
  ·rcases covB_out h with h | ⟨i,hi,h⟩
   ·exact .inl h
   ·exact .inr ⟨i,by omega,h⟩
  ·exact .inr ⟨n,by omega,of_decide_eq_true h⟩
theorem apart_sum{A B:Nat}{f z:Nat→Nat}(hAB:A≤B):∀ n,(∀ i,i<n→0<z i→A≤f i∧f i+z i≤B)→(∀ i k,i<n→k<i→0<z i→0<z k→f i<f k+z k→f k<f i+z i→False)→(List.range B).countP (covB A f z n)=A+sumZ z n
 | 0,_,_=>by
  have:=count_iv B 0 A hAB (Nat.zero_le _)
  simp only [covB,sumZ]
  exact this
 | n+1,h1,h2=>by
  have ih:=apart_sum hAB n (fun i hi=>h1 i (by omega)) (fun i k hi=>h2 i k (by omega))
  have e:covB A f z (n+1)=fun p=>covB A f z n p || decide (f n≤p∧p<f n+z n):=rfl
  rw [e,countP_or,ih,sumZ]
  ·rcases Nat.eq_zero_or_pos (z n) with hz | hz
   ·have:(List.range B).countP (fun p=>decide (f n≤p∧p<f n+z n))=0:=by
     rw [List.countP_eq_zero]; intro x hx; simp; omega
    rw [this,hz]; omega
   ·have:=h1 n (by omega) hz
    rw [count_iv B _ _ this.2 (by omega)]; omega
  ·intro p hp hc hq
   have hq':=of_decide_eq_true hq
   have hz:0<z n:=by omega
   have hn:=h1 n (by omega) hz
   rcases covB_out hc with h | ⟨i,hi,h3,h4⟩
   ·omega
   ·exact h2 n i (by omega) hi hz (by omega) (by omega) (by omega)
theorem Pg.takes{s:List UInt8}{L:List (List UInt8)}(h:Pg s L):takesP L≤s.length:=by
 have hroom:=h.room
 have key:=apart_sum (A:=1+2 * L.length) (B:=s.length) (f:=fun i=>(bN s (1+2 * i)).toNat) (z:=fun i=>(bN s (2+2 * i)).toNat) hroom L.length (fun i hi hz=>?_) (fun i k hi hk h1 h2 h3 h4=>?_)
 ·have hle:=List.countP_le_length (p:=covB (1+2 * L.length) (fun i=>(bN s (1+2 * i)).toNat) (fun i=>(bN s (2+2 * i)).toNat) L.length) (l:=List.range s.length)
  rw [key,List.length_range] at hle
  have hs:∀ k,k≤L.length→sumZ (fun i=>(bN s (2+2 * i)).toNat) k=sumP (L.take k):=by
   intro k
   induction k with
   | zero=>intro _; simp [sumZ,sumP]
   | succ k ih =>
    intro hk
    have h1:=sumP_take (L:=L) (k:=k) (by omega)
    have h2:=h.len (show k<L.length by omega)
    rw [sumZ,ih (by omega),h1]; omega
  have:=hs L.length (Nat.le_refl _)
  rw [List.take_length] at this
  unfold takesP; omega
 ·show 1+2 * L.length≤(bN s (1+2 * i)).toNat∧(bN s (1+2 * i)).toNat+(bN s (2+2 * i)).toNat≤s.length
  have hz:0<(bN s (2+2 * i)).toNat:=hz
  have b1:=bN_bd s (1+2 * i)
  have:=h.taken i hi (by omega)
  omega
 ·have h1:0<(bN s (2+2 * i)).toNat:=h1
  have h2:0<(bN s (2+2 * k)).toNat:=h2
  have h3:(bN s (1+2 * i)).toNat<(bN s (1+2 * k)).toNat+(bN s (2+2 * k)).toNat:=h3
  have h4:(bN s (1+2 * k)).toNat<(bN s (1+2 * i)).toNat+(bN s (2+2 * i)).toNat:=h4
  have b1:=bN_bd s (1+2 * i)
  have b2:=bN_bd s (1+2 * k)
  exact h.apart i k hi hk (by omega) (by omega) (by omega) (by omega)
theorem getP_some{L:List (List UInt8)}{i:Int}(h:(getP L i).2=true):∃ k:Nat,i=k∧∃ hk:k<L.length,L[k]≠[]∧getP L i=(L[k],true):=by
 unfold getP at h ⊢
 split at h
 ·rename_i h0
  obtain ⟨k,rfl⟩:=Int.eq_ofNat_of_zero_le h0
  rw [if_pos h0]
  rw [Int.toNat_natCast] at h ⊢
  split at h
  ·rename_i r hr
   obtain ⟨hk,hrk⟩:=List.getElem?_eq_some_iff.1 hr
   have hr':r≠[]:=of_decide_eq_true h
   refine ⟨k,rfl,hk,by rw [hrk]; exact hr',?_⟩
   rw [hrk]; simp [hr']
  ·cases h
 ·cases h
def badSet(size:Nat)(L:List (List UInt8))(i:Int)(r:List UInt8):Prop:=(getP L i).2=false∨r=[]∨255<r.length∨(size:Int)<(takesP L:Int) - (getP L i).1.length+r.length
instance (size:Nat) (L:List (List UInt8)) (i:Int) (r:List UInt8):Decidable (badSet size L i r):=by unfold badSet; exact inferInstance
theorem del14{s:List UInt8}{l:List (List UInt8)}{i:Nat}{v:Value}{W0 w:World}{K:Value→World→Prop}(h:St W0 w (fun _=>False) [.row v 9 1 l.length (l.flatMap strE)] [])(hi:i<l.length)(hl:l.length≤1000)(hf:Fits s.length (trimP (l.set i [])))
  (hK:∀ w',Below W0.heap.size W0 w'→K (.tuple #[.string (ofL (textP s.length (trimP (l.set i [])))),.bool true]) w') :
  W Tryz.prog (c93S2 ()) [(0,.string (ofL s)),(1,.int .i64 i),(8,v)] w (finQ Tryz.prog [.tmp 4,.tmp 5] K):=by
 have hrow:=h.row 0 rfl
 have hlen:=strs_len l
 obtain ⟨g,cap,rfl,hcap⟩:∃ g cap,v=.slice (some ⟨g,0,none⟩) l.length cap∧l.length≤cap:=by
  obtain ⟨_,⟨_,h0⟩ | ⟨g,cap,cur,e,_,_,hc,_⟩⟩:=hrow
  ·omega
  ·exact ⟨g,cap,e,hc⟩
 have hc0:∃ old,w.cell? ⟨g,i,none⟩=some old:=by
  have:=hrow.cells rfl i _ (List.getElem?_eq_getElem (show i<(l.flatMap strE).length by omega))
  rw [Addr.add_lit,Nat.zero_add] at this
  exact ⟨_,this⟩
 have hf0:w.frozen? ⟨g,i,none⟩=false:=by
  obtain ⟨_,⟨h0,_⟩ | ⟨g',cap',cur,e,_,hb,_⟩⟩:=hrow
  ·cases h0
  ·cases e; exact Blk.frozen (show Blk w g cur _ from hb) _
 have hi':(i:Int)<l.length:=by omega
 simp (disch:=first|omega|exact zF rfl|exact zG rfl|exact fun h=>h|(simp only[zA,zB,zC,zD,bytesW];omega)) only[go_sem,c93S2,hi',hf0]
 refine ⟨by omega,hc0,?_⟩
 have s2:=h.put 0 rfl i (.string (ofL []))
 simp only [List.set_cons_zero] at s2
 rw [← strs_set] at s2
 generalize w.setCell ⟨g,i,none⟩ (.string (ofL []))=w2 at s2 ⊢
 have hs:=RdS.of_own' (s2.row 0 rfl) (l.set i []) (by simp) rfl
 have hll:(l.set i []).length=l.length:=List.length_set
 refine Ret.mono (lay_ok _ s.length (l.set i []) w2 hs (by omega) hf) ?_
 rintro _ w3 ⟨rfl,b3⟩
 simp (disch:=first|omega|exact zF rfl|exact zG rfl|exact fun h=>h|(simp only[zA,zB,zC,zD,bytesW];omega)) only[go_sem,c93S2]
 exact hK _ (s2.bel.trans (b3.mono s2.size))
theorem slot_del_ok(s:List UInt8)(i:Int)(L:List (List UInt8))(w:World)(h:Pg s L):Ret Tryz.prog 93 [.string (ofL s),.int .i64 i] w fun u w' =>
  u=(if (getP L i).2=true then .tuple #[.string (ofL (textP s.length (trimP (L.set i.toNat [])))),.bool true] else .tuple #[.string (ofL s),.bool false])∧Below w.heap.size w w':=by
 have hfew:=h.few
 refine ent93 _ _ _ _ ?_
 simp (disch:=first|omega|exact zF rfl|exact zG rfl|exact fun h=>h|(simp only[zA,zB,zC,zD,bytesW];omega)) only[go_sem,c93S2]
 refine Ret.mono (get_ok s L i w h) ?_
 rintro _ w2 ⟨rfl,b2⟩
 cases hg:(getP L i).2 with
 | false =>
  simp (disch:=first|omega|exact zF rfl|exact zG rfl|exact fun h=>h|(simp only[zA,zB,zC,zD,bytesW];omega)) only[go_sem,c93S2]
  exact b2
 | true =>
  obtain ⟨k,rfl,hk,hne,hgk⟩:=getP_some hg
  simp (disch:=first|omega|exact zF rfl|exact zG rfl|exact fun h=>h|(simp only[zA,zB,zC,zD,bytesW];omega)) only[go_sem,c93S2]
  refine Ret.mono (list_ok s L w2 h) ?_
  rintro v w3 ⟨o3,b3⟩
  have s3:=((St.start (W0:=w)).call b2).add b3 (.row v 9 1 L.length (L.flatMap strE)) (own_mono o3 b2.size) fun k hk=>(o3.lt k hk).1
  simp (disch:=first|omega|exact zF rfl|exact zG rfl|exact fun h=>h|(simp only[zA,zB,zC,zD,bytesW];omega)) only[go_sem]
  refine del14 s3 hk (by omega) ⟨h.lo,h.hi,?_⟩ fun w' b=>⟨rfl,b⟩
  have h5:=takes_trim (L.set k [])
  have h6:=sumP_set hk []
  have h7:=h.takes
  have ht:takesP L=1+2 * L.length+sumP L:=rfl
  have ht2:takesP (L.set k [])=1+2 * (L.set k []).length+sumP (L.set k []):=rfl
  rw [List.length_set] at ht2
  simp only [List.length_nil] at h6
  omega
end Go.Proofs.YtkmjkmjpejmlnaaGreat.Slt

namespace Go.Proofs.YtkmjkmjpejmlnaaGreat.Slt
open Go Go.Ann Go.RowKit
def endP(size:Nat)(L:List (List UInt8))(j:Nat):Nat:=size - sumP (L.take j)
theorem putAt_get{b r:List UInt8}{e p:Nat}(h:e+r.length≤b.length):(putAt b e r)[p]?=if p<e then b[p]? else if p<e+r.length then r[p - e]? else b[p]?:=by
 unfold putAt putTo
 rw [List.take_length,List.append_assoc]
 by_cases h1:p<e
 ·rw [if_pos h1,List.getElem?_append_left (by simp; omega),List.getElem?_take,if_pos h1]
 ·rw [if_neg h1,List.getElem?_append_right (by simp; omega)]
  have hl:(b.take e).length=e:=by simp; omega
  rw [hl]
  by_cases h2:p<e+r.length
  ·rw [if_pos h2,List.getElem?_append_left (by omega)]
  ·rw [if_neg h2,List.getElem?_append_right (by omega),List.getElem?_drop]
   congr 1; omega
structure Laid(size:Nat)(L:List (List UInt8))(k:Nat)(b:List UInt8):Prop where
 len:b.length=size
 zero:b[0]?=some (u8 L.length)
 siz:∀ j,(h:j<L.length)→j<k→b[2+2 * j]?=some (u8 L[j].length)
 frm:∀ j,(h:j<L.length)→j<k→b[1+2 * j]?=some (if L[j]=[] then 0 else u8 (endP size L (j+1)))
 rest:∀ j,k≤j→j<L.length→b[1+2 * j]?=some 0∧b[2+2 * j]?=some 0
 recd:∀ j t,(h:j<L.length)→j<k→(ht:t<L[j].length)→b[endP size L (j+1)+t]?=some L[j][t]
theorem endP_succ{size:Nat}{L:List (List UInt8)}{j:Nat}(hf:Fits size L)(hj:j<L.length):endP size L (j+1)+L[j].length=endP size L j∧1+2 * L.length≤endP size L (j+1):=by
 have h1:=sumP_take hj
 have h2:=sumP_le (L:=L) (j+1)
 have h3:=hf.room
 unfold takesP at h3
 unfold endP
 omega
theorem endP_anti{size:Nat}{L:List (List UInt8)}{i j:Nat}(h:i≤j):endP size L j≤endP size L i:=by
 have:sumP (L.take i)≤sumP (L.take j):=by
  have e:L.take i=(L.take j).take i:=by rw [List.take_take,Nat.min_eq_left h]
  rw [e]; exact sumP_le i
 unfold endP; omega
theorem laid{size:Nat}{L:List (List UInt8)}(hf:Fits size L):∀ {k:Nat},k≤L.length→Laid size L k (layTo size L k).1
 | 0,_=>by
  have hroom:=hf.room
  unfold takesP at hroom
  refine ⟨by simp [layTo],by rw [layTo]; exact List.getElem?_set_self (by rw [List.length_replicate]; omega),fun j _ h=>by omega,fun j _ h=>by omega,fun j _ hj=>?_,fun j t _ h=>by omega⟩
  simp only [layTo]
  constructor
  ·rw [List.getElem?_set_ne (by omega),List.getElem?_replicate,if_pos (by omega)]
  ·rw [List.getElem?_set_ne (by omega),List.getElem?_replicate,if_pos (by omega)]
 | k+1,hk=>by
  have ih:=laid hf (k:=k) (by omega)
  have hkl:k<L.length:=by omega
  have he:=layTo_end hf (k:=k) (by omega)
  have hend:(layTo size L k).2=endP size L k:=by unfold endP; omega
  obtain ⟨hs1,hs2⟩:=endP_succ hf hkl
  have hsub:(layTo size L k).2 - L[k].length=endP size L (k+1):=by omega
  rw [layTo_succ hkl]
  unfold layS
  by_cases hr:L[k]=[]
  ·rw [if_pos hr]
   have h0:=ih.rest k (Nat.le_refl _) hkl
   refine ⟨ih.len,ih.zero,fun j h hj=>?_,fun j h hj=>?_,fun j h hj=>ih.rest j (by omega) hj,fun j t h hj ht=>?_⟩
   ·rcases Nat.lt_or_ge j k with h' | h'
    ·exact ih.siz j h h'
    ·obtain rfl:j=k:=by omega
     rw [hr,h0.2]; rfl
   ·rcases Nat.lt_or_ge j k with h' | h'
    ·exact ih.frm j h h'
    ·obtain rfl:j=k:=by omega
     rw [if_pos hr,h0.1]
   ·rcases Nat.lt_or_ge j k with h' | h'
    ·exact ih.recd j t h h' ht
    ·obtain rfl:j=k:=by omega
     rw [hr] at ht; simp at ht
  ·rw [if_neg hr,hsub]
   simp only
   have hlen:endP size L (k+1)+L[k].length≤(((layTo size L k).1.set (1+2 * k) (u8 (endP size L (k+1)))).set (2+2 * k) (u8 L[k].length)).length:=by
    rw [List.length_set,List.length_set,ih.len,hs1]; unfold endP; omega
   have hin:endP size L k≤size:=by unfold endP; omega
   have hl1:=ih.len
   have low:∀ p,p<endP size L (k+1)→p≠2+2 * k→p≠1+2 * k→(putAt (((layTo size L k).1.set (1+2 * k) (u8 (endP size L (k+1)))).set (2+2 * k) (u8 L[k].length)) (endP size L (k+1)) L[k])[p]?=(layTo size L k).1[p]?:=fun p h1 h2 h3=>by
    rw [putAt_get hlen,if_pos h1,List.getElem?_set_ne (by omega),List.getElem?_set_ne (by omega)]
   refine ⟨?_,?_,fun j h hj=>?_,fun j h hj=>?_,fun j h hj=>?_,fun j t h hj ht=>?_⟩
   ·unfold putAt; rw [putTo_len hlen (Nat.le_refl _),List.length_set,List.length_set,ih.len]
   ·rw [low 0 (by omega) (by omega) (by omega)]; exact ih.zero
   ·rcases Nat.lt_or_ge j k with h' | h'
    ·rw [low _ (by omega) (by omega) (by omega)]; exact ih.siz j h h'
    ·obtain rfl:j=k:=by omega
     rw [putAt_get hlen,if_pos (by omega),List.getElem?_set_self (by rw [List.length_set]; omega)]
   ·rcases Nat.lt_or_ge j k with h' | h'
    ·rw [low _ (by omega) (by omega) (by omega)]; exact ih.frm j h h'
    ·obtain rfl:j=k:=by omega
     rw [putAt_get hlen,if_pos (by omega),List.getElem?_set_ne (by omega),List.getElem?_set_self (by omega),if_neg hr]
   ·rw [low _ (by omega) (by omega) (by omega),low _ (by omega) (by omega) (by omega)]; exact ih.rest j (by omega) hj
   ·rcases Nat.lt_or_ge j k with h' | h'
    ·have hanti:=endP_anti (size:=size) (L:=L) (show j+1≤k by omega)
     rw [putAt_get hlen,if_neg (by omega),if_neg (by omega),List.getElem?_set_ne (by omega),List.getElem?_set_ne (by omega)]
     exact ih.recd j t h h' ht
    ·obtain rfl:j=k:=by omega
     rw [putAt_get hlen,if_neg (by omega),if_pos (by omega),Nat.add_sub_cancel_left]
     exact List.getElem?_eq_getElem ht
def Trim(L:List (List UInt8)):Prop:=∀ i,(h:i<L.length)→i+1=L.length→L[i]≠[]
theorem u8_nat{n:Nat}(h:n≤255):((u8 n).toNat:Int)=n:=by unfold u8; simp; omega
theorem text_pg{size:Nat}{L:List (List UInt8)}(hf:Fits size L)(ht:Trim L):Pg (textP size L) L:=by
 have hl:=laid hf (k:=L.length) (Nat.le_refl _)
 have hroom:=hf.room
 have hhi:=hf.hi
 have hlo:=hf.lo
 unfold takesP at hroom
 have e:textP size L=(layTo size L L.length).1:=rfl
 rw [← e] at hl
 have hsz:∀ i,(h:i<L.length)→L[i].length≤253:=fun i h=>by
  have h1:=sumP_take h
  have h2:=sumP_le (L:=L) (i+1)
  omega
 have hz:∀ i,(h:i<L.length)→bN (textP size L) (2+2 * (i:Int))=L[i].length:=fun i h=>by
  have:=bN_get _ _ _ (hl.siz i h h)
  rw [u8_nat (by have:=hsz i h; omega)] at this
  rw [← this]; rfl
 have hfr:∀ i,(h:i<L.length)→L[i]≠[]→bN (textP size L) (1+2 * (i:Int))=endP size L (i+1):=fun i h hr=>by
  have:=bN_get _ _ _ (hl.frm i h h)
  rw [if_neg hr] at this
  have hp:=List.length_pos_iff.2 hr
  have h1:=(endP_succ hf h).1
  have h2:endP size L i≤size:=by unfold endP; omega
  rw [u8_nat (by omega)] at this
  rw [← this]; rfl
 have hf0:∀ i,(h:i<L.length)→L[i]=[]→bN (textP size L) (1+2 * (i:Int))=0:=fun i h hr=>by
  have:=bN_get _ _ _ (hl.frm i h h)
  rw [if_pos hr] at this
  exact this
 have hnz:∀ i,(h:i<L.length)→0<bN (textP size L) (2+2 * (i:Int))→L[i]≠[]:=fun i h hp e=>by
  rw [hz i h,e] at hp; simp at hp
 refine ⟨by rw [hl.len]; exact hlo,by rw [hl.len]; exact hhi,?_,by rw [hl.len]; omega,fun i h h0=>?_,fun i h hp=>?_,fun i k h hk hp1 hp2 h3 h4=>?_,fun i h=>?_⟩
 ·have:=bN_get _ 0 _ hl.zero
  rw [u8_nat (by omega)] at this
  exact this
 ·have hr:L[i]=[]:=by rw [hz i h] at h0; exact List.length_eq_zero_iff.1 (by omega)
  exact ⟨hf0 i h hr,fun e=>ht i h e hr⟩
 ·have hr:=hnz i h hp
  rw [hfr i h hr,hz i h,hl.len]
  have h1:=endP_succ hf h
  have h2:endP size L i≤size:=by unfold endP; omega
  omega
 ·have hr1:=hnz i h hp1
  have hr2:=hnz k (by omega) hp2
  rw [hfr i h hr1,hfr k (by omega) hr2] at h4
  rw [hz i h] at h4
  have h1:=endP_succ hf h
  have h2:=endP_anti (size:=size) (L:=L) (show k+1≤i by omega)
  omega
 ·by_cases hr:L[i]=[]
  ·rw [hz i h,hr]
   unfold cutL
   simp
  ·rw [hfr i h hr,hz i h]
   obtain ⟨h1,h2⟩:=endP_succ hf h
   have h3:endP size L i≤size:=by unfold endP; omega
   refine List.ext_getElem? fun t=>?_
   unfold cutL
   rw [Int.toNat_natCast,List.getElem?_drop,List.getElem?_take]
   by_cases htl:t<L[i].length
   ·rw [if_pos (by omega),hl.recd i t h h htl]
    exact List.getElem?_eq_getElem htl
   ·rw [if_neg (by omega),List.getElem?_eq_none (by omega)]
theorem trim_trim(L:List (List UInt8)):Trim (trimP L):=by
 have key:∀ n,n≤L.length→∀ i,i+1=trimN L n→∀ h:i<L.length,L[i]≠[]:=by
  intro n
  induction n with
  | zero=>intro _ i hi; simp [trimN] at hi
  | succ n ih =>
   intro hn i hi h
   rw [trimN] at hi
   split at hi
   ·exact ih (by omega) i hi h
   ·rename_i hne
    obtain rfl:i=n:=by omega
    intro e
    exact hne (by rw [List.getElem?_eq_getElem h,e])
 intro i h hi
 unfold trimP at h hi ⊢
 rw [List.getElem_take]
 have hle:=trimN_le L L.length
 rw [List.length_take] at h hi
 exact key L.length (Nat.le_refl _) i (by omega) (by omega)
end Go.Proofs.YtkmjkmjpejmlnaaGreat.Slt

namespace Go.Proofs.YtkmjkmjpejmlnaaGreat.Slt
open Go Go.Ann Go.RowKit
theorem textP_len{size:Nat}{L:List (List UInt8)}(hf:Fits size L):(textP size L).length=size:=layTo_len hf (Nat.le_refl _)
theorem textP_nil(size:Nat)(h:0<size):textP size []=List.replicate size 0:=by
 unfold textP
 simp only [List.length_nil,layTo]
 refine List.ext_getElem? fun i=>?_
 rw [List.getElem?_set]
 split
 ·rename_i e; subst e; rw [List.getElem?_replicate]; simp [h,u8]
 ·rfl
theorem new_ok(n:Int)(w:World)(h1:8≤n)(h2:n≤256):Ret Tryz.prog 125 [.int .i64 n] w fun u w'=>u=.string (ofL (textP n.toNat []))∧Below w.heap.size w w':=by
 refine ent125 _ _ _ ?_
 obtain ⟨m,rfl⟩:=Int.eq_ofNat_of_zero_le (show 0≤n by omega)
 simp (disch:=first|omega|exact zF rfl|exact zG rfl|exact fun h=>h|(simp only[zA,zB,zC,zD,bytesW];omega)) only[go_sem]
 refine ⟨fun h=>⟨fun h=>by omega,fun h=>?_⟩,fun h=>by omega⟩
 refine msW_one ty181mkI rfl (by omega) (by omega) (by omega) (by omega) ?_
 rw [Int.toNat_natCast,zeros_bytes]
 have s2:=(St.start (W0:=w)).box (bytesC (List.replicate m 0)) 5
 have r2:=s2.rules 0 rfl
 simp (disch:=first|omega|exact zF rfl|exact zG rfl|exact fun h=>h|(simp only[zA,zB,zC,zD,bytesW];omega)) only[go_sem]
 refine ⟨List.replicate m 0,by simp,fun j b hb=>?_,by rw [textP_nil _ (by omega)],s2.bel⟩
 rw [Addr.add_lit,Nat.zero_add,r2.1]
 simp only [bytesC,List.getElem?_toArray,List.getElem?_map,hb,Option.map_some]
theorem count_ok(s:List UInt8)(L:List (List UInt8))(w:World)(hp:Pg s L):Ret Tryz.prog 94 [.string (ofL s)] w fun u w'=>u=.int .i64 (itemsTo L L.length).length∧Below w.heap.size w w':=by
 have hfew:=hp.few
 refine ent94 _ _ _ ?_
 simp (disch:=first|omega|exact zF rfl|exact zG rfl|exact fun h=>h|(simp only[zA,zB,zC,zD,bytesW];omega)) only[go_sem]
 have s4:=(St.start (W0:=w)).box #[.int .i64 0] 3
 obtain ⟨g,hg⟩:∃ g,g=w.heap.size:=⟨_,rfl⟩
 have hbb:∀ w',Below w.heap.size w w'→Below g w w':=fun _ h=>by rw [hg]; exact h
 rw [← hg] at s4 ⊢
 generalize w.alloc (.cells #[.int .i64 0] 3)=w4 at s4 ⊢
 refine Ret.mono (all_ok s w4) ?_
 rintro _ w5 ⟨rfl,rfl⟩
 simp (disch:=first|omega|exact zF rfl|exact zG rfl|exact fun h=>h|(simp only[zA,zB,zC,zD,bytesW];omega)) only[go_sem]
 have s5:=s4.box #[.string (ofL s)] 9
 have hitems:(itemsTo L L.length).length≤127:=by
  have:∀ k,(itemsTo L k).length≤k:=by
   intro k
   induction k with
   | zero=>simp [itemsTo]
   | succ k ih =>
    rw [itemsTo,List.length_append]
    split
    ·split <;> simp <;> omega
    ·simp; omega
  have:=this L.length
  omega
 refine RangeW_all (fun x:Nat × List UInt8=>[.int .i64 x.1,.string (ofL x.2)]) (itemsTo L L.length) (fun pre=>[.blk w4.heap.size #[.string (ofL s)] 9,.blk g #[.int .i64 pre.length] 3]) rfl (by kernel_rfl) s5 rfl (fun _=>rfl) ?_ ?_ ?_
 ·intro fv J w1 hJ1 hJ2 hf h0
  refine all1_ok fv _ s L J w1 hp (fun pre w' h=>?_) hJ2 hf h0
  obtain ⟨l,D,o,h⟩:=hJ1 pre w' h
  exact (h.rules 2 rfl).1 0
 ·intro pre x w' l D o o2 hx h
  simp (disch:=first|omega|exact zF rfl|exact zG rfl|exact fun h=>h|(simp only[zA,zB,zC,zD,bytesW];omega)) only[go_sem]
  refine ⟨_,h,fun w2 h2=>?_⟩
  have r3:=h2.rules 3 rfl
  have hpl:pre.length≤127:=by obtain ⟨r,e⟩:=hx; rw [← e,List.length_append] at hitems; omega
  simp (disch:=first|omega|exact zF rfl|exact zG rfl|exact fun h=>h|(simp only[zA,zB,zC,zD,bytesW];omega)) only[go_sem,r3]
  have h3:=h2.set 3 rfl 0 (.int .i64 (pre.length+1))
  simp only [List.set_cons_succ,List.set_cons_zero,List.setIfInBounds_toArray] at h3
  refine ⟨⟨by omega,by omega⟩,?_⟩
  rw [List.length_append]
  exact h3
 ·intro D w' h
  have r2:=h.rules 2 rfl
  have hD:=h.obj 0 rfl
  simp (disch:=first|omega|exact zF rfl|exact zG rfl|exact fun h=>h|(simp only[zA,zB,zC,zD,bytesW];omega)) only[go_sem,r2,hD]
  exact hbb _ (h.putObj 0 rfl (.deferred none)).bel
end Go.Proofs.YtkmjkmjpejmlnaaGreat.Slt

namespace Go.Proofs.YtkmjkmjpejmlnaaGreat
open Go Go.Ann Go.RowKit Go.WideShapes
section
variable {W0 w:World} {F:Nat→Prop} {L:List Res} {I:List Inv} {e:En} {P:List (List UInt8)}
def hpB(hb:Nat)(e:En)(i:Int):Res:=.blk hb #[.pointer (some ⟨e.p,0,none⟩),.int .i64 i] 104
theorem Pgr.hp{hb:Nat}{i:Int}(h:Pgr e P W0 w F (hpB hb e i::L) I):Blk w hb #[.pointer (some ⟨e.p,0,none⟩),.int .i64 i] 104:=by
 obtain ⟨A,h1,_⟩:=h.lift
 exact h1.blk 0 rfl
theorem hmade_ok{hb:Nat}{i:Int}(h:Pgr e P W0 w F (hpB hb e i::L) I) :
  Ret Tryz.prog 50 [.pointer (some ⟨hb,0,none⟩)] w fun u w'=>u=.bool true∧w'=w:=by
 refine ent50 _ _ _ ?_
 have r:=h.hp.rules
 simp (disch:=first|omega|exact zF rfl|exact zG rfl|exact fun h=>h|(simp only[zA,zB,zC,zD,bytesW];omega)) only[go_sem,r]
theorem place_ok'(a i:Int)(w:World)(h0:0≤a)(h1:a≤100000)(h2:0≤i)(h3:i≤100000) :
  Ret Tryz.prog 59 [.int .i64 a,.int .i64 i] w fun u w'=>u=.int .i64 (256 * a+i)∧w'=w:=by
 refine ent59 _ _ _ _ ?_
 simp (disch:=first|omega|exact zF rfl|exact zG rfl|exact fun h=>h|(simp only[zA,zB,zC,zD,bytesW];omega)) only[go_sem]
 exact ⟨by constructor <;> omega,by constructor <;> omega⟩
theorem hread_ok{hb:Nat}{i:Int}(a:Int)(h:Pgr e P W0 w F (hpB hb e i::L) I)(h3:3≤P.length)(ha:I64 a)(hok:chkN P a=0) :
  Ret Tryz.prog 56 [.pointer (some ⟨hb,0,none⟩),.int .i64 a] w fun u w'=>u=.tuple #[.int .i64 (unfixL ((P.getD a.toNat []).take 4)),.string (ofL ((P.getD a.toNat []).drop 4)),.int .i64 0]∧Pgr e P W0 w' F (hpB hb e i::L) I:=by
 refine ent56 _ _ _ _ ?_
 have r:=h.hp.rules
 simp (disch:=first|omega|exact zF rfl|exact zG rfl|exact fun h=>h|(simp only[zA,zB,zC,zD,bytesW];omega)) only[go_sem,r]
 refine Ret.mono (pget_ok a h h3 ha) ?_
 rintro _ w2 ⟨rfl,h2⟩
 unfold getN
 rw [if_neg (by omega)]
 have h256:(P.getD a.toNat []).length=256:=by
  obtain ⟨c1,c2⟩:=chk_in hok
  have hlt:a.toNat<P.length:=by omega
  rw [List.getD_eq_getElem?_getD,List.getElem?_eq_getElem hlt]
  exact h2.full _ (List.getElem_mem hlt)
 generalize P.getD a.toNat []=B at h256 ⊢
 simp (disch:=first|omega|exact zF rfl|exact zG rfl|exact fun h=>h|(simp only[zA,zB,zC,zD,bytesW];omega)) only[go_sem]
 refine c56draw0 ?_
 simp (disch:=first|omega|exact zF rfl|exact zG rfl|exact fun h=>h|(simp only[zA,zB,zC,zD,bytesW];omega)) only[go_sem,c56D0]
 refine ⟨by omega,by omega,Ret.mono (unfixed_ok _ _ (by rw [List.length_take]; omega)) ?_⟩
 rintro _ w4 ⟨rfl,rfl⟩
 simp (disch:=first|omega|exact zF rfl|exact zG rfl|exact fun h=>h|(simp only[zA,zB,zC,zD,bytesW];omega)) only[go_sem,c56D0]
 have hlt:=unfixL_lt (B.take 4)
 rw [List.length_take,h256] at hlt
 have e4:256 ^ min 4 256=4294967296:=by decide
 rw [e4] at hlt
 exact ⟨by constructor <;> omega,h2.drew⟩
end
open Go Go.Ann Go.RowKit Go.WideShapes
def nxtN(P:List (List UInt8))(a:Nat):Nat:=unfixL ((P.getD a []).take 4)
def resN(P:List (List UInt8))(a:Nat):List UInt8:=(P.getD a []).drop 4
def pgN(n:Nat)(s:List UInt8):List UInt8:=fixL n 4++s
inductive Ent
 | no
 | sh (r:List UInt8)
 | lo (r:List UInt8) (g:List Nat)
 | gh (s:List UInt8)
namespace Ent
def stub:Ent→List UInt8
 | .no=>[]
 | .sh r=>115::r
 | .lo r g=>108::(fixL r.length 4++fixL (g.headD 0) 4)
 | .gh s=>s
def pgs:Ent→List Nat
 | .lo _ g=>g
 | _=>[]
def rec?:Ent→Option (List UInt8)
 | .sh r=>some r
 | .lo r _=>some r
 | _=>none
end Ent
def SpellN(P:List (List UInt8)):List UInt8→List Nat→Prop
 | r,[]=>r=[]
 | r,a::g=>r≠[]∧nxtN P a=g.headD 0∧(resN P a).take r.length=r.take 252∧SpellN P (r.drop 252) g
def EntOk(P:List (List UInt8)):Ent→Prop
 | .no=>True
 | .sh r=>r≠[]∧r.length≤62
 | .lo r g=>62<r.length∧r.length≤2000∧SpellN P r g
 | .gh s=>s≠[]∧s.length≤63
def PageOk(P:List (List UInt8))(x:Nat × List Ent):Prop:=Slt.Pg (resN P x.1) (x.2.map Ent.stub)∧∀ e∈x.2,EntOk P e
def LinkN(P:List (List UInt8)):Nat→List Nat→Nat→Prop
 | a,[],b=>a=b
 | a,c::C,b=>a=c∧LinkN P (nxtN P c) C b
def entsG(es:List Ent):List Nat:=es.flatMap Ent.pgs
def pagesX(X:List (Nat × List Ent)):List Nat:=X.flatMap fun x=>x.1::entsG x.2
def rootM(P:List (List UInt8))(i:Int):Nat:=unfixL (cutL (rootB P) (4 * i) (4 * i+4))
structure HpN(n:Nat)(i:Int)(P:List (List UInt8))(X:List (Nat × List Ent))(E:List Nat):Prop where
 given:Given n P fun j=>decide (j<2∨j∈E++pagesX X)
 rng:∀ a∈E++pagesX X,2≤a∧a<n
 nd:(E++pagesX X).Nodup
 full:∀ p∈P,p.length=256
 idx:0≤i∧i<16
 big:3≤n∧n≤500
 root:LinkN P (rootM P i) (X.map Prod.fst) 0
 pg:∀ x∈X,PageOk P x
 some:∀ x∈X,∃ e∈x.2,e.stub≠[]
theorem getD_set{P:List (List UInt8)}{a b:Nat}{s:List UInt8}(h:a<P.length):(P.set a s).getD b []=if b=a then s else P.getD b []:=by
 rw [List.getD_eq_getElem?_getD,List.getD_eq_getElem?_getD,List.getElem?_set]
 by_cases e:b=a
 ·subst e; simp [h]
 ·rw [if_neg e,if_neg (fun h=>e h.symm)]
theorem nxtN_set{P:List (List UInt8)}{a b:Nat}{n:Nat}{s:List UInt8}(h:a<P.length)(hn:n<4294967296):nxtN (P.set a (pgN n s)) b=if b=a then n else nxtN P b:=by
 unfold nxtN
 rw [getD_set h]
 split
 ·have e:(pgN n s).take 4=fixL n 4:=by unfold pgN; exact List.take_left' (fixL_len n 4)
  rw [e,unfixL_fixL]
  exact Nat.mod_eq_of_lt hn
 ·rfl
theorem resN_set{P:List (List UInt8)}{a b:Nat}{n:Nat}{s:List UInt8}(h:a<P.length):resN (P.set a (pgN n s)) b=if b=a then s else resN P b:=by
 unfold resN
 rw [getD_set h]
 split
 ·unfold pgN; exact List.drop_left' (fixL_len n 4)
 ·rfl
def SameOn(P P':List (List UInt8))(C:List Nat):Prop:=∀ c∈C,P'.getD c []=P.getD c []
theorem SameOn.sub{P P':List (List UInt8)}{C D:List Nat}(h:SameOn P P' C)(hs:∀ d∈D,d∈C):SameOn P P' D:=fun c hc=>h c (hs c hc)
theorem SameOn.nxt{P P':List (List UInt8)}{C:List Nat}(h:SameOn P P' C){c:Nat}(hc:c∈C):nxtN P' c=nxtN P c:=by unfold nxtN; rw [h c hc]
theorem SameOn.res{P P':List (List UInt8)}{C:List Nat}(h:SameOn P P' C){c:Nat}(hc:c∈C):resN P' c=resN P c:=by unfold resN; rw [h c hc]
theorem SameOn.set{P:List (List UInt8)}{C:List Nat}{a:Nat}(s:List UInt8)(h:a ∉ C):SameOn P (P.set a s) C:=fun c hc=>by
 have:a≠c:=fun e=>h (e ▸ hc)
 rw [List.getD_eq_getElem?_getD,List.getD_eq_getElem?_getD,List.getElem?_set_ne this]
theorem SameOn.trans{P P' P2:List (List UInt8)}{C:List Nat}(h:SameOn P P' C)(h2:SameOn P' P2 C):SameOn P P2 C:=fun c hc=>(h2 c hc).trans (h c hc)
theorem SpellN.same{P P':List (List UInt8)}:∀ {g:List Nat} {r:List UInt8},SameOn P P' g→SpellN P r g→SpellN P' r g
 | [],_,_,h=>h
 | a::g,r,hs,h=>by
  obtain ⟨h1,h2,h3,h4⟩:=h
  refine ⟨h1,?_,?_,SpellN.same (hs.sub fun d hd=>List.mem_cons_of_mem _ hd) h4⟩
  ·rw [hs.nxt List.mem_cons_self]; exact h2
  ·rw [hs.res List.mem_cons_self]; exact h3
theorem EntOk.same{P P':List (List UInt8)}{e:Ent}(hs:SameOn P P' e.pgs)(h:EntOk P e):EntOk P' e:=by
 cases e with
 | lo r g=>exact ⟨h.1,h.2.1,h.2.2.same hs⟩
 | no=>exact h
 | sh r=>exact h
 | gh s=>exact h
theorem ents_sub{es:List Ent}{e:Ent}(he:e∈es):∀ d∈e.pgs,d∈entsG es:=fun d hd=>List.mem_flatMap.2 ⟨e,he,hd⟩
theorem page_sub{X:List (Nat × List Ent)}{x:Nat × List Ent}(hx:x∈X):∀ d∈x.1::entsG x.2,d∈pagesX X:=fun d hd=>List.mem_flatMap.2 ⟨x,hx,hd⟩
theorem PageOk.same{P P':List (List UInt8)}{x:Nat × List Ent}(hs:SameOn P P' (x.1::entsG x.2))(h:PageOk P x):PageOk P' x:=by
 refine ⟨?_,fun e he=>(h.2 e he).same (hs.sub fun d hd=>List.mem_cons_of_mem _ (ents_sub he d hd))⟩
 rw [hs.res List.mem_cons_self]; exact h.1
theorem LinkN.same{P P':List (List UInt8)}:∀ {C:List Nat} {a b:Nat},SameOn P P' C→LinkN P a C b→LinkN P' a C b
 | [],_,_,_,h=>h
 | c::C,a,b,hs,h=>by
  refine ⟨h.1,?_⟩
  rw [hs.nxt List.mem_cons_self]
  exact LinkN.same (hs.sub fun d hd=>List.mem_cons_of_mem _ hd) h.2
theorem LinkN.app{P:List (List UInt8)}:∀ {C D:List Nat} {a b:Nat},LinkN P a (C++D) b↔∃ c,LinkN P a C c∧LinkN P c D b
 | [],D,a,b=>⟨fun h=>⟨a,rfl,h⟩,fun ⟨c,h1,h2⟩=>by cases h1; exact h2⟩
 | c::C,D,a,b=>by
  refine ⟨fun h=>?_,fun ⟨d,h1,h2⟩=>⟨h1.1,LinkN.app.2 ⟨d,h1.2,h2⟩⟩⟩
  obtain ⟨d,h1,h2⟩:=LinkN.app.1 h.2
  exact ⟨d,⟨h.1,h1⟩,h2⟩
theorem rootN_eq{P:List (List UInt8)}{i:Int}(h:0≤i∧i<16):rootN P i=(((rootM P i:Nat):Int),0):=by unfold rootN rootM; rw [if_pos h]
section
variable {n:Nat} {i:Int} {P:List (List UInt8)} {X:List (Nat × List Ent)} {E:List Nat}
theorem HpN.chk(h:HpN n i P X E){a:Nat}(ha:a∈E++pagesX X):chkN P a=0:=by
 obtain ⟨h1,h2⟩:=h.rng a ha
 rw [h.given.chk h1 h2,if_pos (by simpa using Or.inr (by simpa using ha))]
theorem HpN.memX(h:HpN n i P X E){a:Nat}(ha:a∈pagesX X):a∈E++pagesX X:=List.mem_append_right _ ha
theorem HpN.memE(h:HpN n i P X E){a:Nat}(ha:a∈E):a∈E++pagesX X:=List.mem_append_left _ ha
theorem count_given{n:Nat}{l:List Nat}(h2:2≤n)(hr:∀ a∈l,2≤a∧a<n)(hn:l.Nodup):((List.range n).filter fun j=>decide (j<2∨j∈l)).length=2+l.length:=by
 have hp:((List.range n).filter fun j=>decide (j<2∨j∈l)).Perm ([0,1]++l):=by
  rw [List.perm_ext_iff_of_nodup (List.nodup_range.filter _)]
  ·intro a
   simp only [List.mem_filter,List.mem_range,decide_eq_true_eq,List.cons_append,List.nil_append,List.mem_cons]
   constructor
   ·rintro ⟨h1,h3 | h3⟩
    ·have:a=0∨a=1:=by omega
     rcases this with rfl | rfl
     ·exact .inl rfl
     ·exact .inr (.inl rfl)
    ·exact .inr (.inr h3)
   ·rintro (rfl | rfl | h3)
    ·exact ⟨by omega,.inl (by omega)⟩
    ·exact ⟨by omega,.inl (by omega)⟩
    ·exact ⟨(hr a h3).2,.inr h3⟩
  ·simp only [List.cons_append,List.nil_append,List.nodup_cons,List.mem_cons]
   refine ⟨?_,?_,hn⟩
   ·rintro (h | h)
    ·cases h
    ·have:=(hr 0 h).1; omega
   ·intro h; have:=(hr 1 h).1; omega
 rw [hp.length_eq,List.length_append]; rfl
theorem HpN.room(h:HpN n i P X E):roomN P=n - (2+(E++pagesX X).length):=by
 rw [h.given.room,count_given (by have:=h.big; omega) h.rng h.nd]
theorem HpN.few(h:HpN n i P X E):2+(E++pagesX X).length≤n:=by
 have:=count_given (by have:=h.big; omega) h.rng h.nd
 have h2:=List.length_filter_le (fun j=>decide (j<2∨j∈E++pagesX X)) (List.range n)
 rw [List.length_range] at h2
 omega
theorem not_all{n:Nat}{l:List Nat}(hr:∀ a∈l,2≤a∧a<n)(hn:l.Nodup)(h:2+l.length<n):∃ k,2≤k∧k<n∧k ∉ l∧∀ j,2≤j→j<k→j∈l:=by
 have hex:∃ k,2≤k∧k<n∧k ∉ l:=by
  refine Classical.byContradiction fun hc=>?_
  have hall:∀ k,2≤k→k<n→k∈l:=fun k h2 h3=>Classical.byContradiction fun h4=>hc ⟨k,h2,h3,h4⟩
  have hc:=count_given (by omega) hr hn
  have e:((List.range n).filter fun j=>decide (j<2∨j∈l))=List.range n:=List.filter_eq_self.2 fun j hj=>by
   rw [List.mem_range] at hj
   rw [decide_eq_true_eq]
   by_cases h2:j<2
   ·exact .inl h2
   ·exact .inr (hall j (by omega) hj)
  rw [e,List.length_range] at hc
  omega
 have:∀ m,∀ k,k≤m→2≤k→k<n→k ∉ l→∃ k,2≤k∧k<n∧k ∉ l∧∀ j,2≤j→j<k→j∈l:=by
  intro m
  induction m with
  | zero=>intro k h1 h2; omega
  | succ m ih =>
   intro k h1 h2 h3 h4
   by_cases hall:∀ j,2≤j→j<k→j∈l
   ·exact ⟨k,h2,h3,h4,hall⟩
   ·obtain ⟨j,hj⟩:=Classical.not_forall.1 hall
    have hj1:2≤j:=Classical.byContradiction fun hc=>hj fun h=>absurd h hc
    have hj2:j<k:=Classical.byContradiction fun hc=>hj fun _ h=>absurd h hc
    have hj3:j ∉ l:=fun hc=>hj fun _ _=>hc
    exact ih j (by omega) hj1 (by omega) hj3
 obtain ⟨k,h2,h3,h4⟩:=hex
 exact this k k (Nat.le_refl _) h2 h3 h4
end
open Go Go.Ann Go.RowKit Go.WideShapes
def setR(R:List UInt8)(i v:Nat):List UInt8:=R.take (4 * i)++fixL v 4++R.drop (4 * i+4)
theorem setR_len{R:List UInt8}{i v:Nat}(h:R.length=256)(hi:i<16):(setR R i v).length=256:=by
 unfold setR; rw [List.length_append,List.length_append,fixL_len,List.length_take,List.length_drop,h]; omega
theorem setR_get{R:List UInt8}{i v m:Nat}(h:R.length=256)(hi:i<16):(setR R i v)[m]?=if 4 * i≤m∧m<4 * i+4 then (fixL v 4)[m - 4 * i]? else R[m]?:=by
 have l1:(R.take (4 * i)).length=4 * i:=by rw [List.length_take,h]; omega
 have l2:(R.take (4 * i)++fixL v 4).length=4 * i+4:=by rw [List.length_append,l1,fixL_len]
 unfold setR
 rw [List.getElem?_append,l2]
 by_cases h1:m<4 * i+4
 ·rw [if_pos h1,List.getElem?_append,l1]
  by_cases h2:m<4 * i
  ·rw [if_pos h2,if_neg (by omega),List.getElem?_take,if_pos h2]
  ·rw [if_neg h2,if_pos ⟨by omega,h1⟩]
 ·rw [if_neg h1,if_neg (by omega),List.getElem?_drop]
  congr 1; omega
theorem cut_get{R:List UInt8}{k m:Nat}:(cutL R (4 * (k:Int)) (4 * (k:Int)+4))[m]?=if m<4 then R[4 * k+m]? else none:=by
 unfold cutL
 rw [List.getElem?_drop,show (4 * (k:Int)).toNat=4 * k by omega,show (4 * (k:Int)+4).toNat=4 * k+4 by omega,List.getElem?_take]
 by_cases h:m<4
 ·rw [if_pos (by omega),if_pos h]
 ·rw [if_neg (by omega),if_neg h]
theorem root_same{R:List UInt8}{i v:Nat}(h:R.length=256)(hi:i<16):cutL (setR R i v) (4 * (i:Int)) (4 * (i:Int)+4)=fixL v 4:=by
 refine List.ext_getElem? fun m=>?_
 rw [cut_get,setR_get h hi]
 by_cases hm:m<4
 ·rw [if_pos hm,if_pos (by omega)]
  congr 1; omega
 ·rw [if_neg hm,List.getElem?_eq_none (by rw [fixL_len]; omega)]
theorem root_other{R:List UInt8}{i v k:Nat}(h:R.length=256)(hi:i<16)(hk:k≠i):cutL (setR R i v) (4 * (k:Int)) (4 * (k:Int)+4)=cutL R (4 * (k:Int)) (4 * (k:Int)+4):=by
 refine List.ext_getElem? fun m=>?_
 rw [cut_get,cut_get,setR_get h hi]
 by_cases hm:m<4
 ·rw [if_pos hm,if_pos hm,if_neg (by omega)]
 ·rw [if_neg hm,if_neg hm]
def rootAt(R:List UInt8)(k:Nat):Nat:=unfixL (cutL R (4 * (k:Int)) (4 * (k:Int)+4))
theorem rootAt_set{R:List UInt8}{i v k:Nat}(h:R.length=256)(hi:i<16)(hv:v<4294967296):rootAt (setR R i v) k=if k=i then v else rootAt R k:=by
 unfold rootAt
 by_cases hk:k=i
 ·subst hk
  rw [root_same h hi,if_pos rfl,unfixL_fixL]
  exact Nat.mod_eq_of_lt hv
 ·rw [root_other h hi hk,if_neg hk]
theorem rootAt_zero(k:Nat):rootAt (filledL []) k=0:=by
 have h:∀ l:List UInt8,(∀ u∈l,u=0)→unfixL l=0:=by
  intro l
  induction l with
  | nil=>intro _; rfl
  | cons a l ih =>
   intro hl
   rw [unfixL,ih fun u hu=>hl u (List.mem_cons_of_mem _ hu),hl a (List.mem_cons_self ..)]; rfl
 refine h _ fun u hu=>?_
 unfold cutL at hu
 have:=List.mem_of_mem_take (List.mem_of_mem_drop hu)
 unfold filledL at this
 rw [List.nil_append] at this
 exact List.eq_of_mem_replicate this
theorem setRootN_in{P:List (List UInt8)}{i j:Int}(hi:0≤i∧i<16)(hr:(rootB P).length=256)(hj:j=0∨chkN P j=0)(h0:0≤j):setRootN P i j=(P.set 1 (setR (rootB P) i.toNat j.toNat),0):=by
 unfold setRootN
 have e0:(rootN P i).2=0:=by unfold rootN; rw [if_pos hi]
 rw [if_neg (by rw [e0]; decide),if_neg (by rintro ⟨h1,h2⟩; rcases hj with h | h; exact h1 h; exact h2 h)]
 rw [show (4 * i).toNat=4 * i.toNat by omega,show (4 * i+4).toNat=4 * i.toNat+4 by omega]
 have:=setR_len (R:=rootB P) (i:=i.toNat) (v:=j.toNat) hr (by omega)
 unfold setR at this
 rw [filled256 this]
 rfl
theorem rootB_set{P:List (List UInt8)}{l:List UInt8}(h:1<P.length):rootB (P.set 1 l)=l:=by
 unfold rootB
 rw [List.getD_eq_getElem?_getD,List.getElem?_set_self h]; rfl
theorem rootB_other{P:List (List UInt8)}{l:List UInt8}{i:Nat}(h:i≠1):rootB (P.set i l)=rootB P:=by
 unfold rootB
 rw [List.getD_eq_getElem?_getD,List.getD_eq_getElem?_getD,List.getElem?_set_ne h]
theorem rootM_at{P:List (List UInt8)}{i:Int}(h:0≤i):rootM P i=rootAt (rootB P) i.toNat:=by
 unfold rootM rootAt
 rw [Int.toNat_of_nonneg h]
theorem full_set{P:List (List UInt8)}{a:Nat}{s:List UInt8}(h:∀ p∈P,p.length=256)(hs:s.length=256):∀ p∈P.set a s,p.length=256:=by
 intro p hp
 rcases List.mem_or_eq_of_mem_set hp with hp | rfl
 ·exact h p hp
 ·exact hs
theorem pgN_len{n:Nat}{s:List UInt8}(h:s.length=252):(pgN n s).length=256:=by unfold pgN; rw [List.length_append,fixL_len]; omega
section
variable {n:Nat} {i:Int} {P P':List (List UInt8)} {X:List (Nat × List Ent)} {E E':List Nat}
theorem HpN.upd(h:HpN n i P X E)(hg:Given n P' fun j=>decide (j<2∨j∈E'++pagesX X))(hr:∀ a∈E',2≤a∧a<n)(hn:(E'++pagesX X).Nodup)(hf:∀ p∈P',p.length=256)(hs:SameOn P P' (1::pagesX X)):HpN n i P' X E':=by
 have hb:rootM P' i=rootM P i:=by
  unfold rootM rootB
  rw [hs 1 List.mem_cons_self]
 refine ⟨hg,fun a ha=>?_,hn,hf,h.idx,h.big,?_,fun x hx=>(h.pg x hx).same (hs.sub fun d hd=>List.mem_cons_of_mem _ (page_sub hx d hd)),h.some⟩
 ·rcases List.mem_append.1 ha with ha | ha
  ·exact hr a ha
  ·exact h.rng a (h.memX ha)
 ·rw [hb]
  refine h.root.same (hs.sub fun d hd=>?_)
  obtain ⟨x,hx,rfl⟩:=List.mem_map.1 hd
  exact List.mem_cons_of_mem _ (page_sub hx _ List.mem_cons_self)
theorem HpN.alloc(h:HpN n i P X E)(hroom:0<roomN P):∃ P':List (List UInt8),∃ a:Nat,allocN P=(P',(a:Int),0)∧HpN n i P' X (a::E)∧a ∉ E++pagesX X∧SameOn P P' (E++pagesX X):=by
 have hb:=h.big
 rw [h.room] at hroom
 obtain ⟨k,h2,h3,h4,h5⟩:=not_all h.rng h.nd (by omega)
 obtain ⟨e,g⟩:=h.given.alloc (by omega) h2 h3 (by simp only [decide_eq_false_iff_not,not_or]; exact ⟨by omega,h4⟩) (fun j hj1 hj2=>by simp only [decide_eq_true_eq]; exact .inr (h5 j hj1 hj2))
 have hsame:∀ C:List Nat,k ∉ C→0 ∉ C→SameOn P (emptyP (markP P k true) k) C:=fun C hC h0=>by
  unfold emptyP markP
  rw [Int.toNat_natCast]
  exact (SameOn.set _ h0).trans (SameOn.set _ hC)
 have h0:∀ C:List Nat,(∀ a∈C,1≤a)→0 ∉ C:=fun C hC hc=>by have:=hC 0 hc; omega
 refine ⟨_,k,e,h.upd (g.ext fun j hj=>?_) ?_ ?_ ?_ (hsame _ ?_ (h0 _ ?_)),h4,hsame _ h4 (h0 _ fun a ha=>by have:=h.rng a ha; omega)⟩
 ·by_cases hjk:j=k
  ·subst hjk; simp
  ·rw [if_neg hjk]
   congr 1
   simp only [List.cons_append,List.mem_cons,eq_iff_iff]
   constructor
   ·rintro (h | h)
    ·exact .inl h
    ·exact .inr (.inr h)
   ·rintro (h | h | h)
    ·exact .inl h
    ·exact absurd h hjk
    ·exact .inr h
 ·intro a ha
  rcases List.mem_cons.1 ha with rfl | ha
  ·exact ⟨h2,h3⟩
  ·exact h.rng a (h.memE ha)
 ·rw [List.cons_append,List.nodup_cons]; exact ⟨h4,h.nd⟩
 ·unfold emptyP markP
  refine full_set (full_set h.full (filledL_length ?_)) (filledL_length (by decide))
  rw [withL_length,h.given.u]; exact Nat.le_refl _
 ·intro hc
  rcases List.mem_cons.1 hc with hc | hc
  ·omega
  ·exact h4 (h.memX hc)
 ·intro a ha
  rcases List.mem_cons.1 ha with rfl | ha
  ·exact Nat.le_refl _
  ·have:=h.rng a (h.memX ha); omega
theorem HpN.free{a:Nat}(h:HpN n i P X (a::E)):∃ P',freeN P a=(P',0)∧HpN n i P' X E∧SameOn P P' (E++pagesX X):=by
 have hb:=h.big
 have hc:=h.chk (a:=a) (h.memE List.mem_cons_self)
 have hr:=h.rng a (h.memE List.mem_cons_self)
 have hnd:=h.nd
 rw [List.cons_append,List.nodup_cons] at hnd
 have g:=h.given.mark (by omega) (i:=a) hr.2 false
 refine ⟨_,by unfold freeN; rw [if_neg (fun hh=>hh hc)],h.upd (g.ext fun j hj=>?_) ?_ ?_ ?_ (SameOn.set _ ?_),SameOn.set _ fun hh=>by have:=h.rng 0 (List.mem_cons_of_mem _ hh); omega⟩
 ·by_cases hja:j=a
  ·subst hja
   rw [if_pos rfl]
   symm
   simp only [decide_eq_false_iff_not,not_or]
   exact ⟨by omega,hnd.1⟩
  ·rw [if_neg hja]
   congr 1
   simp only [List.cons_append,List.mem_cons,eq_iff_iff]
   constructor
   ·rintro (h | h | h)
    ·exact .inl h
    ·exact absurd h hja
    ·exact .inr h
   ·rintro (h | h)
    ·exact .inl h
    ·exact .inr (.inr h)
 ·intro b hb; exact h.rng b (h.memE (List.mem_cons_of_mem _ hb))
 ·exact hnd.2
 ·unfold markP
  refine full_set h.full (filledL_length ?_)
  rw [withL_length,h.given.u]; exact Nat.le_refl _
 ·intro hh
  rcases List.mem_cons.1 hh with hh | hh
  ·cases hh
  ·have:=h.rng 0 (h.memX hh); omega
theorem HpN.setE{a:Nat}{s:List UInt8}(h:HpN n i P X E)(ha:a∈E)(hs:s.length=256):HpN n i (P.set a s) X E:=by
 have hr:=h.rng a (h.memE ha)
 refine h.upd (h.given.set (by omega) s) (fun b hb=>h.rng b (h.memE hb)) h.nd (full_set h.full hs) (SameOn.set _ ?_)
 intro hc
 rcases List.mem_cons.1 hc with hc | hc
 ·omega
 ·exact (List.nodup_append.1 h.nd).2.2 a ha a hc rfl
theorem HpN.perm(h:HpN n i P X E)(hp:E.Perm E'):HpN n i P X E':=by
 have hm:∀ a,a∈E'++pagesX X↔a∈E++pagesX X:=fun a=>(hp.append_right (pagesX X)).mem_iff.symm
 exact h.upd (h.given.ext fun j hj=>by simp only [hm]) (fun a ha=>h.rng a (h.memE (hp.mem_iff.2 ha))) ((hp.append_right _).nodup_iff.1 h.nd) h.full fun c _=>rfl
theorem pagesX_mid{A B:List (Nat × List Ent)}{x:Nat × List Ent}:pagesX (A++x::B)=pagesX A++(x.1::entsG x.2)++pagesX B:=by
 unfold pagesX
 rw [List.flatMap_append,List.flatMap_cons,List.append_assoc]
theorem perm_mid{α:Type}{E E' A B G G':List α}(h:(E++G).Perm (E'++G')):(E++(A++G++B)).Perm (E'++(A++G'++B)):=by
 have h1:∀ (E G:List α),(E++(A++G++B)).Perm (E++G++(A++B)):=fun E G=>by
  have:=(List.perm_append_comm (l₁:=A) (l₂:=G)).append_right B
  have:=this.append_left E
  simpa only [List.append_assoc] using this
 exact (h1 E G).trans ((h.append_right _).trans (h1 E' G').symm)
theorem HpN.setX{A B:List (Nat × List Ent)}{a:Nat}{es es':List Ent}{s:List UInt8}(h:HpN n i P (A++(a,es)::B) E)(hp:(E++entsG es).Perm (E'++entsG es'))(hs:Slt.Pg s (es'.map Ent.stub))(hl:s.length=252)
  (hok:∀ e∈es',EntOk P e) (hsome:∃ e∈es',e.stub≠[]):HpN n i (P.set a (pgN (nxtN P a) s)) (A++(a,es')::B) E':=by
 have hb:=h.big
 have hpp:(E++pagesX (A++(a,es)::B)).Perm (E'++pagesX (A++(a,es')::B)):=by
  rw [pagesX_mid,pagesX_mid]
  refine perm_mid ?_
  have e1:∀ (E G:List Nat),(E++a::G).Perm (a::(E++G)):=fun E G=>List.perm_middle
  exact (e1 E _).trans ((hp.cons a).trans (e1 E' _).symm)
 have hm:∀ b,b∈E'++pagesX (A++(a,es')::B)↔b∈E++pagesX (A++(a,es)::B):=fun b=>hpp.mem_iff.symm
 have hnd:=hpp.nodup_iff.1 h.nd
 have hax:a∈pagesX (A++(a,es)::B):=page_sub (x:=(a,es)) (by simp) _ List.mem_cons_self
 have hr:=h.rng a (h.memX hax)
 have hlt:a<P.length:=by rw [h.given.len]; exact hr.2
 have hnx:nxtN P a<4294967296:=by
  have:=unfixL_lt ((P.getD a []).take 4)
  have hle:((P.getD a []).take 4).length≤4:=List.length_take_le _ _
  exact Nat.lt_of_lt_of_le this (Nat.pow_le_pow_right (by decide) hle)
 have hnxt:∀ b,nxtN (P.set a (pgN (nxtN P a) s)) b=nxtN P b:=fun b=>by
  rw [nxtN_set hlt hnx]
  split
  ·rename_i e; rw [e]
  ·rfl
 have hlink:∀ (C:List Nat) (c d:Nat),LinkN P c C d→LinkN (P.set a (pgN (nxtN P a) s)) c C d:=by
  intro C
  induction C with
  | nil=>intro c d h; exact h
  | cons x C ih=>intro c d h; refine ⟨h.1,?_⟩; rw [hnxt]; exact ih _ _ h.2
 have hnd1:(pagesX A++(a::entsG es')++pagesX B).Nodup:=by
  rw [pagesX_mid] at hnd
  exact (List.nodup_append.1 hnd).2.1
 have hother:∀ x∈A++B,a ∉ x.1::entsG x.2:=by
  intro x hx hc
  have h1:=List.nodup_append.1 hnd1
  have h2:=List.nodup_append.1 h1.1
  rcases List.mem_append.1 hx with hx | hx
  ·exact h2.2.2 a (page_sub hx a hc) a List.mem_cons_self rfl
  ·exact h1.2.2 a (List.mem_append_right _ List.mem_cons_self) a (page_sub hx a hc) rfl
 refine ⟨(h.given.set (by omega) _).ext fun j hj=>by simp only [hm],fun b hb=>h.rng b ((hm b).1 hb),hnd,full_set h.full (pgN_len hl),h.idx,h.big,?_,fun x hx=>?_,fun x hx=>?_⟩
 ·have e:rootM (P.set a (pgN (nxtN P a) s)) i=rootM P i:=by unfold rootM; rw [rootB_other (by omega)]
  rw [e]
  have h2:=h.root
  rw [List.map_append,List.map_cons] at h2 ⊢
  exact hlink _ _ _ h2
 ·have hcase:x=(a,es')∨x∈A++B:=by
   rcases List.mem_append.1 hx with hx | hx
   ·exact .inr (List.mem_append_left _ hx)
   ·rcases List.mem_cons.1 hx with hx | hx
    ·exact .inl hx
    ·exact .inr (List.mem_append_right _ hx)
  rcases hcase with rfl | hx'
  ·refine ⟨?_,fun e he=>(hok e he).same (SameOn.set _ fun hc=>?_)⟩
   ·show Slt.Pg (resN _ a) _
    rw [resN_set hlt,if_pos rfl]; exact hs
   ·have h1:=(List.nodup_append.1 (List.nodup_append.1 hnd1).1).2.1
    exact (List.nodup_cons.1 h1).1 (ents_sub he a hc)
  ·refine (h.pg x ?_).same (SameOn.set _ (hother x hx'))
   rcases List.mem_append.1 hx' with h' | h'
   ·exact List.mem_append_left _ h'
   ·exact List.mem_append_right _ (List.mem_cons_of_mem _ h')
 ·rcases List.mem_append.1 hx with hx | hx
  ·exact h.some x (List.mem_append_left _ hx)
  ·rcases List.mem_cons.1 hx with rfl | hx
   ·exact hsome
   ·exact h.some x (List.mem_append_right _ (List.mem_cons_of_mem _ hx))
end
open Go Go.Ann Go.RowKit Go.WideShapes
section
variable {n:Nat} {i:Int} {P P':List (List UInt8)} {X:List (Nat × List Ent)} {E E':List Nat}
theorem HpN.rootL(h:HpN n i P X E):(rootB P).length=256:=by
 refine h.full _ ?_
 unfold rootB
 have:=h.big
 have:=h.given.len
 rw [List.getD_eq_getElem?_getD,List.getElem?_eq_getElem (by omega)]
 exact List.getElem_mem _
theorem LinkN.head{a b:Nat}:∀ {C:List Nat},LinkN P a C b→C.headD b=a
 | [],h=>h.symm
 | _::_,h=>h.1.symm
theorem HpN.rootH(h:HpN n i P X E):rootM P i=(X.map Prod.fst).headD 0:=h.root.head.symm
theorem HpN.rootLt(h:HpN n i P X E):rootM P i<n:=by
 rw [h.rootH]
 cases X with
 | nil=>have:=h.big; simp; omega
 | cons x X=>exact (h.rng x.1 (h.memX (page_sub List.mem_cons_self _ List.mem_cons_self))).2
theorem rootM_set{P:List (List UInt8)}{i:Int}{v:Nat}(hi:0≤i∧i<16)(hr:(rootB P).length=256)(h1:1<P.length)(hv:v<4294967296):rootM (P.set 1 (setR (rootB P) i.toNat v)) i=v:=by
 rw [rootM_at hi.1,rootB_set h1,rootAt_set hr (by omega) hv,if_pos rfl]
theorem HpN.push{a:Nat}{es:List Ent}{s:List UInt8}(h:HpN n i P X E)(hp:E.Perm (a::(E'++entsG es)))(hs:Slt.Pg s (es.map Ent.stub))(hl:s.length=252)(hok:∀ e∈es,EntOk P e)(hsome:∃ e∈es,e.stub≠[]) :
  HpN n i ((P.set a (pgN (rootM P i) s)).set 1 (setR (rootB P) i.toNat a)) ((a,es)::X) E':=by
 have hb:=h.big
 have hpp:(E++pagesX X).Perm (E'++pagesX ((a,es)::X)):=by
  refine (hp.append_right _).trans ?_
  show (a::(E'++entsG es)++pagesX X).Perm (E'++(a::entsG es++pagesX X))
  simp only [List.cons_append,List.append_assoc]
  exact List.perm_middle.symm
 have hm:∀ b,b∈E'++pagesX ((a,es)::X)↔b∈E++pagesX X:=fun b=>hpp.mem_iff.symm
 have hnd:=hpp.nodup_iff.1 h.nd
 have haE:a∈E:=hp.mem_iff.2 List.mem_cons_self
 have hr:=h.rng a (h.memE haE)
 have hlt:a<P.length:=by rw [h.given.len]; exact hr.2
 have haX:a ∉ pagesX X:=fun hc=>(List.nodup_append.1 h.nd).2.2 a haE a hc rfl
 have h1X:∀ C:List Nat,(∀ c∈C,c∈E++pagesX X)→1 ∉ C:=fun C hC hc=>by have:=(h.rng 1 (hC 1 hc)).1; omega
 have hrl:=h.rootLt
 have e0:rootB (P.set a (pgN (rootM P i) s))=rootB P:=rootB_other (by omega)
 have hlen:(P.set a (pgN (rootM P i) s)).length=n:=by rw [List.length_set,h.given.len]
 have sameX:SameOn P ((P.set a (pgN (rootM P i) s)).set 1 (setR (rootB P) i.toNat a)) (pagesX X):=(SameOn.set _ haX).trans (SameOn.set _ (h1X _ fun c hc=>h.memX hc))
 refine ⟨((h.given.set (by omega) _).set (by omega) _).ext fun j hj=>by simp only [hm],fun b hb=>h.rng b ((hm b).1 hb),hnd,full_set (full_set h.full (pgN_len hl)) (setR_len h.rootL (by have:=h.idx; omega)),h.idx,h.big,?_,fun x hx=>?_,fun x hx=>?_⟩
 ·have e:rootM ((P.set a (pgN (rootM P i) s)).set 1 (setR (rootB P) i.toNat a)) i=a:=by
   have:=rootM_set (P:=P.set a (pgN (rootM P i) s)) (v:=a) h.idx (by rw [e0]; exact h.rootL) (by omega) (by omega)
   rw [e0] at this; exact this
  rw [e]
  refine ⟨rfl,?_⟩
  have e2:nxtN ((P.set a (pgN (rootM P i) s)).set 1 (setR (rootB P) i.toNat a)) a=rootM P i:=by
   rw [(SameOn.set (P:=P.set a (pgN (rootM P i) s)) (C:=[a]) _ (by simp; omega)).nxt List.mem_cons_self,nxtN_set hlt (by omega),if_pos rfl]
  show LinkN _ (nxtN _ a) (X.map Prod.fst) 0
  rw [e2]
  refine h.root.same (sameX.sub fun d hd=>?_)
  obtain ⟨x,hx,rfl⟩:=List.mem_map.1 hd
  exact page_sub hx _ List.mem_cons_self
 ·rcases List.mem_cons.1 hx with rfl | hx
  ·have hnd1:(a::entsG es++pagesX X).Nodup:=(List.nodup_append.1 hnd).2.1
   refine ⟨?_,fun e he=>(hok e he).same ?_⟩
   ·show Slt.Pg (resN _ a) _
    rw [(SameOn.set (P:=P.set a (pgN (rootM P i) s)) (C:=[a]) _ (by simp; omega)).res List.mem_cons_self,resN_set hlt,if_pos rfl]; exact hs
   ·refine (SameOn.set _ fun hc=>?_).trans (SameOn.set _ fun hc=>?_)
    ·rw [List.cons_append,List.nodup_cons] at hnd1
     exact hnd1.1 (List.mem_append_left _ (ents_sub he a hc))
    ·have:(1:Nat)∈E++pagesX X:=(hm 1).1 (List.mem_append_right _ (page_sub (x:=(a,es)) List.mem_cons_self 1 (List.mem_cons_of_mem _ (ents_sub he 1 hc))))
     have:=(h.rng 1 this).1; omega
  ·exact (h.pg x hx).same (sameX.sub (page_sub hx))
 ·rcases List.mem_cons.1 hx with rfl | hx
  ·exact hsome
  ·exact h.some x hx
theorem HpN.pop{a:Nat}{es:List Ent}(h:HpN n i P ((a,es)::X) E)(he:entsG es=[]):HpN n i (P.set 1 (setR (rootB P) i.toNat (nxtN P a))) X (a::E)∧(nxtN P a=0∨nxtN P a∈pagesX X)∧rootM P i=a:=by
 have hb:=h.big
 have hpp:(E++pagesX ((a,es)::X)).Perm (a::E++pagesX X):=by
  show (E++(a::entsG es++pagesX X)).Perm _
  rw [he]
  exact List.perm_middle
 have hm:∀ b,b∈a::E++pagesX X↔b∈E++pagesX ((a,es)::X):=fun b=>hpp.mem_iff.symm
 have hroot:=h.root
 have hl2:LinkN P (nxtN P a) (X.map Prod.fst) 0:=hroot.2
 have hnx:nxtN P a=0∨nxtN P a∈pagesX X:=by
  have:=hl2.head
  cases X with
  | nil=>exact .inl this.symm
  | cons x X=>exact .inr (this ▸ page_sub List.mem_cons_self _ List.mem_cons_self)
 have hv:nxtN P a<n:=by
  rcases hnx with h0 | h0
  ·omega
  ·exact (h.rng _ ((hm _).1 (List.mem_append_right _ h0))).2
 have h1X:∀ C:List Nat,(∀ c∈C,c∈pagesX X)→1 ∉ C:=fun C hC hc=>by
  have:=(h.rng 1 ((hm 1).1 (List.mem_append_right _ (hC 1 hc)))).1; omega
 have same:SameOn P (P.set 1 (setR (rootB P) i.toNat (nxtN P a))) (pagesX X):=SameOn.set _ (h1X _ fun c hc=>hc)
 refine ⟨⟨(h.given.set (by omega) _).ext fun j hj=>by simp only [hm],fun b hb=>h.rng b ((hm b).1 hb),hpp.nodup_iff.1 h.nd,full_set h.full (setR_len h.rootL (by have:=h.idx; omega)),h.idx,h.big,?_,fun x hx=>(h.pg x (List.mem_cons_of_mem _ hx)).same (same.sub (page_sub hx)),fun x hx=>h.some x (List.mem_cons_of_mem _ hx)⟩,hnx,hroot.1⟩
 rw [rootM_set h.idx h.rootL (by have:=h.given.len; omega) (by omega)]
 refine hl2.same (same.sub fun d hd=>?_)
 obtain ⟨x,hx,rfl⟩:=List.mem_map.1 hd
 exact page_sub hx _ List.mem_cons_self
theorem HpN.drop{A B:List (Nat × List Ent)}{y:Nat × List Ent}{a:Nat}{es:List Ent}(h:HpN n i P (A++y::(a,es)::B) E)(he:entsG es=[]):HpN n i (P.set y.1 (pgN (nxtN P a) (resN P y.1))) (A++y::B) (a::E):=by
 have hb:=h.big
 have e1:pagesX (A++y::(a,es)::B)=pagesX (A++[y])++(a::pagesX B):=by
  have:A++y::(a,es)::B=(A++[y])++(a,es)::B:=by simp
  rw [this,pagesX_mid,he,List.append_assoc]; rfl
 have e2:pagesX (A++y::B)=pagesX (A++[y])++pagesX B:=by
  unfold pagesX
  have:A++y::B=(A++[y])++B:=by simp
  rw [this,List.flatMap_append]
 have hpp:(E++pagesX (A++y::(a,es)::B)).Perm (a::E++pagesX (A++y::B)):=by
  rw [e1,e2,← List.append_assoc]
  refine List.perm_middle.trans ?_
  rw [List.append_assoc]; exact List.Perm.refl _
 have hm:∀ b,b∈a::E++pagesX (A++y::B)↔b∈E++pagesX (A++y::(a,es)::B):=fun b=>hpp.mem_iff.symm
 have hyX:y.1∈pagesX (A++y::(a,es)::B):=page_sub (x:=y) (by simp) _ List.mem_cons_self
 have hr:=h.rng _ (h.memX hyX)
 have hlt:y.1<P.length:=by rw [h.given.len]; exact hr.2
 have hl:(resN P y.1).length=252:=by
  unfold resN
  rw [List.length_drop,List.getD_eq_getElem?_getD,List.getElem?_eq_getElem hlt,Option.getD_some,h.full _ (List.getElem_mem _)]
 have hnx:nxtN P a<4294967296:=by
  have:=unfixL_lt ((P.getD a []).take 4)
  have hle:((P.getD a []).take 4).length≤4:=List.length_take_le _ _
  exact Nat.lt_of_lt_of_le this (Nat.pow_le_pow_right (by decide) hle)
 have hnd:=h.nd
 have hX:=(List.nodup_append.1 hnd).2.1
 -- what the other pages are
 have hres:∀ b,resN (P.set y.1 (pgN (nxtN P a) (resN P y.1))) b=resN P b:=fun b=>by
  rw [resN_set hlt]
  split
  ·rename_i e; rw [e]
  ·rfl
 have hyo:∀ x∈A++B,y.1 ∉ x.1::entsG x.2:=by
  intro x hx hc
  have e3:pagesX (A++y::(a,es)::B)=pagesX A++(y.1::entsG y.2)++pagesX ((a,es)::B):=pagesX_mid
  rw [e3] at hX
  have h1:=List.nodup_append.1 hX
  have h2:=List.nodup_append.1 h1.1
  rcases List.mem_append.1 hx with hx | hx
  ·exact h2.2.2 y.1 (page_sub hx _ hc) y.1 List.mem_cons_self rfl
  ·exact h1.2.2 y.1 (List.mem_append_right _ List.mem_cons_self) y.1 (page_sub (List.mem_cons_of_mem _ hx) _ hc) rfl
 have hyg:y.1 ∉ entsG y.2:=by
  have e3:pagesX (A++y::(a,es)::B)=pagesX A++(y.1::entsG y.2)++pagesX ((a,es)::B):=pagesX_mid
  rw [e3] at hX
  exact (List.nodup_cons.1 (List.nodup_append.1 (List.nodup_append.1 hX).1).2.1).1
 have hroot:=h.root
 rw [List.map_append,List.map_cons,List.map_cons,LinkN.app] at hroot
 obtain ⟨c,l1,l2,l3,l4⟩:=hroot
 subst l2
 refine ⟨(h.given.set (by omega) _).ext fun j hj=>by simp only [hm],fun b hb=>h.rng b ((hm b).1 hb),hpp.nodup_iff.1 h.nd,full_set h.full (pgN_len hl),h.idx,h.big,?_,fun x hx=>?_,fun x hx=>?_⟩
 ·have e:rootM (P.set y.1 (pgN (nxtN P a) (resN P y.1))) i=rootM P i:=by unfold rootM; rw [rootB_other (by omega)]
  rw [e,List.map_append,List.map_cons,LinkN.app]
  refine ⟨y.1,l1.same (SameOn.set _ fun hc=>?_),rfl,?_⟩
  ·obtain ⟨x,hx,hxe⟩:=List.mem_map.1 hc
   exact hyo x (List.mem_append_left _ hx) (by rw [← hxe]; exact List.mem_cons_self)
  ·show LinkN _ (nxtN _ y.1) (B.map Prod.fst) 0
   rw [nxtN_set hlt hnx,if_pos rfl]
   refine LinkN.same (SameOn.set _ fun hc=>?_) l4
   obtain ⟨x,hx,hxe⟩:=List.mem_map.1 hc
   exact hyo x (List.mem_append_right _ hx) (by rw [← hxe]; exact List.mem_cons_self)
 ·have hxo:x∈A++y::(a,es)::B:=by
   rcases List.mem_append.1 hx with hx | hx
   ·exact List.mem_append_left _ hx
   ·rcases List.mem_cons.1 hx with rfl | hx
    ·simp
    ·exact List.mem_append_right _ (List.mem_cons_of_mem _ (List.mem_cons_of_mem _ hx))
  refine ⟨?_,fun e he'=>((h.pg x hxo).2 e he').same (SameOn.set _ fun hc=>?_)⟩
  ·rw [hres]; exact (h.pg x hxo).1
  ·rcases List.mem_append.1 hx with hx | hx
   ·exact hyo x (List.mem_append_left _ hx) (List.mem_cons_of_mem _ (ents_sub he' _ hc))
   ·rcases List.mem_cons.1 hx with rfl | hx
    ·exact hyg (ents_sub he' _ hc)
    ·exact hyo x (List.mem_append_right _ hx) (List.mem_cons_of_mem _ (ents_sub he' _ hc))
 ·refine h.some x ?_
  rcases List.mem_append.1 hx with hx | hx
  ·exact List.mem_append_left _ hx
  ·rcases List.mem_cons.1 hx with rfl | hx
   ·simp
   ·exact List.mem_append_right _ (List.mem_cons_of_mem _ (List.mem_cons_of_mem _ hx))
end
end Go.Proofs.YtkmjkmjpejmlnaaGreat

end
