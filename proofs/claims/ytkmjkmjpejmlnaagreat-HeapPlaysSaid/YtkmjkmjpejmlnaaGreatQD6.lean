/- Texts put together by program. -/
import Derived.Test.YtkmjkmjpejmlnaaGreatQD5
set_option linter.unusedSimpArgs false
set_option linter.unusedVariables false
set_option maxRecDepth 100000
noncomputable section

namespace Go.Proofs.YtkmjkmjpejmlnaaGreat
open Go Go.Ann Go.RowKit Go.WideShapes Go.Shelf
theorem full_ok(l:List UInt8)(w:World)(h:l.length≤256) :
  Ret Tryz.prog 217 [.string (ofL l)] w fun v w'=>v=.string (ofL (filledL l))∧Below w.heap.size w w':=by
 refine ent217 _ _ _ ?_
 simp (disch:=first|omega|exact zF rfl|exact zG rfl|exact fun h=>h|(simp only[zA,zB,zC,zD,bytesW];omega)) only[go_sem]
 refine ⟨⟨by omega,by omega⟩,?_⟩
 refine msW_one ty181mkI rfl (by omega) (by omega) (by omega) (by omega) ?_
 simp (disch:=first|omega|exact zF rfl|exact zG rfl|exact fun h=>h|(simp only[zA,zB,zC,zD,bytesW];omega)) only[go_sem]
 have e:((256:Int) - (l.length:Int)).toNat=256 - l.length:=by omega
 rw [e]
 exact ⟨_,List.length_replicate,bytesAt_new w (256 - l.length) _,by rw [List.length_replicate]; omega,rfl,(Below.refl _ _).alloc (Nat.le_refl _) _⟩
theorem heads_ok(n:Nat)(w:World)(hn:n≤4294967296) :
  Ret Tryz.prog 157 [.int .i64 n] w fun v w'=>v=.int .i64 (hdsN n)∧w'=w:=by
 refine ent157 _ _ _ ?_
 simp (disch:=first|omega|exact zF rfl|exact zG rfl|exact fun h=>h|(simp only[zA,zB,zC,zD,bytesW];omega)) only[go_sem]
 have e:(4 * (n:Int)+4+256 - 1).tdiv 256=(hdsN n:Nat):=by
  rw [Int.tdiv_eq_ediv_of_nonneg (by omega)]
  unfold hdsN; omega
 have hb:hdsN n≤4294967296:=by unfold hdsN; omega
 rw [e]
 exact ⟨by constructor <;> omega,by constructor <;> omega,by constructor <;> omega,by constructor <;> omega,by constructor <;> omega,rfl⟩
theorem chunk_get:∀ (H:Nat) (S:List UInt8) (k:Nat) (hk:k<(chunksL H S).length),(chunksL H S)[k]=filledL ((S.drop (256 * k)).take 256)
 | 0,_,_,hk=>by rw [chunksL_len] at hk; omega
 | H+1,S,0,_=>rfl
 | H+1,S,k+1,hk=>by
  have:=chunk_get H (S.drop 256) k (by rw [chunksL_len] at *; omega)
  rw [List.drop_drop,show 256+256 * k=256 * (k+1) by omega] at this
  exact this
theorem strE_snoc(xs:List (List UInt8))(s:List UInt8):(xs++[s]).flatMap strE=xs.flatMap strE++strE s:=by rw [List.flatMap_append]; simp
section
variable {W0 w:World} {F:Nat→Prop} {L:List Res} {I:List Inv} {v:Value} {l:List Pge}
theorem pack_ok(h:St W0 w F L (.rd 2 pendV v l::I))(hl:l.length≤1024)(hp:∀ p∈l,0≤p.1∧p.1<2048∧p.2.length=256) :
  Ret Tryz.prog 198 [v] w fun u w'=>∃ vo,u=.tuple #[vo,.int .i64 0]∧St W0 w' F (.row vo 9 1 (packL l).length ((packL l).flatMap strE)::L) (.rd 2 pendV v l::I):=by
 obtain ⟨a,c,rfl,hac⟩:=(h.rd 0 rfl).form
 have h1:¬ (1024:Int)<l.length:=by omega
 refine ent198 _ _ _ ?_
 simp (disch:=first|omega|exact zF rfl|exact zG rfl|exact fun h=>h|(simp only[zA,zB,zC,zD,bytesW];omega)) only[go_sem,h1]
 rw [wrap_u64_id (l.length:Int) (by omega) (by omega)]
 have s1:=(h.box #[.pointer none,.slice none 0 0] 209).nilRow 5 1
 generalize w.heap.size=b at s1 ⊢
 generalize w.alloc (.cells #[.pointer none,.slice none 0 0] 209)=w1 at s1 ⊢
 have s1:St W0 w1 F (BuL b (.pointer none) (.slice none 0 0) []++L) (.rd 2 pendV (.slice a l.length c) l::I):=s1.perm (List.Perm.swap _ _ _)
 refine Ret.mono (fixed_ok l.length 4 w1 (by omega) (by omega)) ?_
 rintro _ w2 ⟨rfl,b2⟩
 have s2:=s1.call b2
 simp (disch:=first|omega|exact zF rfl|exact zG rfl|exact fun h=>h|(simp only[zA,zB,zC,zD,bytesW];omega)) only[go_sem]
 refine Ret.mono (writeS_ok (fixL l.length 4) s2 ⟨.inl rfl,fun _=>rfl⟩ (by rw [fixL_len]; decide)) ?_
 rintro _ w3 ⟨p3,v3,ok3,s3⟩
 rw [List.nil_append] at ok3 s3
 simp (disch:=first|omega|exact zF rfl|exact zG rfl|exact fun h=>h|(simp only[zA,zB,zC,zD,bytesW];omega)) only[go_sem]
 refine W_loopU (fun q:Nat × Value × Value=>[(22,.int .i64 q.1)]) (fun q w'=>q.1≤l.length∧BuOk b q.2.1 q.2.2 (fixL l.length 4++(l.take q.1).flatMap fixP)∧St W0 w' F (BuL b q.2.1 q.2.2 (fixL l.length 4++(l.take q.1).flatMap fixP)++L) (.rd 2 pendV (.slice a l.length c) l::I)) (fun q=>l.length - q.1) (0,p3,v3) rfl ⟨Nat.zero_le _,by simpa using ok3,by simpa using s3⟩ ?_
 clear s1 s2 s3 ok3 b2
 rintro ⟨k,p4,v4⟩ w4 ⟨hk,ok4,s4⟩
 simp only at hk ok4 s4
 have hR:=s4.rd 0 rfl
 have hbl:(fixL l.length 4++(l.take k).flatMap fixP).length≤4 * k+4:=by rw [List.length_append,fixL_len,flatP_len,List.length_take]; omega
 by_cases hlt:k<l.length
 ·have hlt':(k:Int)<l.length:=by omega
  obtain ⟨q,rfl⟩:=hR.ptr (by omega)
  have eL:=hR.at pendV_len hlt
  obtain ⟨q0,q1,q2⟩:=hp _ (List.getElem_mem hlt)
  have c1:¬ l[k].1<0:=by omega
  have c2:¬ (2048:Int)≤l[k].1:=by omega
  have c3:¬ (256:Int)<l[k].2.length:=by omega
  simp (disch:=first|omega|exact zF rfl|exact zG rfl|exact fun h=>h|(simp only[zA,zB,zC,zD,bytesW];omega)) only[go_sem,c198L0,c198L1,c198L2,c198L0,hlt',eL,pendV,c1,c2,c3]
  have ew:IntKind.u64.wrap l[k].1=(l[k].1.toNat:Nat):=by rw [wrap_u64_id _ (by omega) (by omega)]; omega
  rw [ew]
  refine ⟨by omega,Ret.mono (fixed_ok l[k].1.toNat 4 _ (by omega) (by omega)) ?_⟩
  rintro _ w5 ⟨rfl,b5⟩
  have s5:=(s4.alloc' (.cells #[.int .i64 l[k].1,.string (ofL l[k].2)] 44)).call b5
  simp (disch:=first|omega|exact zF rfl|exact zG rfl|exact fun h=>h|(simp only[zA,zB,zC,zD,bytesW];omega)) only[go_sem,c198L0,c198L1,c198L2]
  refine Ret.mono (writeS_ok (fixP l[k]) s5 ok4 (by rw [fixP_len]; omega)) ?_
  rintro _ w6 ⟨p6,v6,ok6,s6⟩
  have e6:fixL l.length 4++(l.take k).flatMap fixP++fixP l[k]=fixL l.length 4++(l.take (k+1)).flatMap fixP:=by
   rw [List.take_succ_eq_append_getElem hlt,List.flatMap_append,List.append_assoc]
   simp
  rw [e6] at ok6 s6
  simp (disch:=first|omega|exact zF rfl|exact zG rfl|exact fun h=>h|(simp only[zA,zB,zC,zD,bytesW];omega)) only[go_sem,c198L0,c198L1,c198L2]
  exact ⟨by constructor <;> omega,(k+1,p6,v6),rfl,⟨by omega,ok6,s6⟩,by simp only; omega⟩
 ·have hlt':¬ (k:Int)<l.length:=by omega
  obtain rfl:k=l.length:=by omega
  rw [List.take_length] at ok4 s4 hbl
  have eI:fixL l.length 4++l.flatMap fixP=idxL l:=rfl
  rw [eI] at ok4 s4 hbl
  simp (disch:=first|omega|exact zF rfl|exact zG rfl|exact fun h=>h|(simp only[zA,zB,zC,zD,bytesW];omega)) only[go_sem,c198L0,c198L0,hlt']
  refine Ret.mono (stringS_ok s4 ok4 (by omega)) ?_
  rintro _ w5 ⟨rfl,s5⟩
  simp (disch:=first|omega|exact zF rfl|exact zG rfl|exact fun h=>h|(simp only[zA,zB,zC,zD,bytesW];omega)) only[go_sem,c198L0]
  refine Ret.mono (heads_ok l.length w5 (by omega)) ?_
  rintro _ w6 ⟨rfl,e6⟩
  subst w6
  simp (disch:=first|omega|exact zF rfl|exact zG rfl|exact fun h=>h|(simp only[zA,zB,zC,zD,bytesW];omega)) only[go_sem,c198L0]
  obtain ⟨H,hH⟩:∃ H,H=hdsN l.length:=⟨_,rfl⟩
  obtain ⟨S,hS⟩:∃ S,S=idxL l:=⟨_,rfl⟩
  have hSl:S.length=4 * l.length+4:=by rw [hS,idxL_len]
  have hHb:H≤17:=by rw [hH]; unfold hdsN; omega
  have hcl:=chunksL_len H S
  have s6:=s5.nilRow 9 1
  rw [← hH,← hS]
  refine W_loopU (fun q:Nat × Value=>[(7,.string (ofL (S.drop (256 * q.1)))),(8,q.2),(50,.int .i64 q.1)]) (fun q w'=>q.1≤H∧St W0 w' F (.row q.2 9 1 q.1 (((chunksL H S).take q.1).flatMap strE)::L) (.rd 2 pendV (.slice a l.length c) l::I)) (fun q=>H - q.1) (0,.slice none 0 0) rfl ⟨Nat.zero_le _,s6⟩ ?_
  clear s6 s5 s4 ok4
  rintro ⟨k,vo⟩ w7 ⟨hk7,s7⟩
  simp only at hk7 s7
  obtain ⟨ao,co,rfl,_⟩:=own_slice (s7.row 0 rfl)
  by_cases hlt:k<H
  ·have hlt':(k:Int)<H:=by omega
   obtain ⟨R,hR⟩:∃ R,R=S.drop (256 * k):=⟨_,rfl⟩
   have hRl:R.length≤4 * l.length+4:=by rw [hR,List.length_drop]; omega
   rw [← hR]
   have em:min (R.length:Int) 256=(min R.length 256:Nat):=by omega
   simp (disch:=first|omega|exact zF rfl|exact zG rfl|exact fun h=>h|(simp only[zA,zB,zC,zD,bytesW];omega)) only[go_sem,c198L0,c198L1,c198L2,c198L1,hlt',em]
   have et:List.take (min R.length 256) R=R.take 256:=by
    rcases Nat.le_total R.length 256 with h | h
    ·rw [Nat.min_eq_left h,List.take_of_length_le (Nat.le_refl _),List.take_of_length_le h]
    ·rw [Nat.min_eq_right h]
   have ed:List.drop (min R.length 256) R=S.drop (256 * (k+1)):=by
    have e0:S.drop (256 * (k+1))=R.drop 256:=by rw [hR,List.drop_drop]; congr 1
    rw [e0]
    rcases Nat.le_total R.length 256 with h | h
    ·rw [Nat.min_eq_left h,List.drop_of_length_le (Nat.le_refl _),List.drop_of_length_le h]
    ·rw [Nat.min_eq_right h]
   rw [et]
   refine ⟨by omega,Ret.mono (full_ok (R.take 256) w7 (by rw [List.length_take]; omega)) ?_⟩
   rintro _ w8 ⟨rfl,b8⟩
   have s8:=s7.call b8
   have ec:(chunksL H S).take (k+1)=(chunksL H S).take k++[filledL (R.take 256)]:=by
    rw [List.take_succ_eq_append_getElem (by rw [hcl]; exact hlt),chunk_get,← hR]
   have ones:∀ u∈strE (filledL (R.take 256)),u.oneCell'=true:=by simpa using strE_ones [filledL (R.take 256)]
   simp (disch:=first|omega|exact zF rfl|exact zG rfl|exact fun h=>h|(simp only[zA,zB,zC,zD,bytesW];omega)) only[go_sem,c198L0,c198L1,c198L2]
   refine bsW_ones ty22mkI rfl rfl (by decide) (by decide) ones ?_
   have hx:Rd (w8.alloc (.cells (strE (filledL (R.take 256))).toArray 9)) 1 (.slice (some ⟨w8.heap.size,0,none⟩) 1 1) 1 (strE (filledL (R.take 256))):=rd_new (n:=1) (cs:=(strE (filledL (R.take 256))).toArray) rfl
   simp (disch:=first|omega|exact zF rfl|exact zG rfl|exact fun h=>h|(simp only[zA,zB,zC,zD,bytesW];omega)) only[go_sem,c198L0,c198L1,c198L2]
   refine (s8.alloc' (.cells (strE (filledL (R.take 256))).toArray 9)).append 0 rfl ty22mkI rfl (by decide) hx ones (by omega) (by omega) ?_
   intro v9 w9 s9 c9
   simp (disch:=first|omega|exact zF rfl|exact zG rfl|exact fun h=>h|(simp only[zA,zB,zC,zD,bytesW];omega)) only[go_sem,c198L0,c198L1,c198L2]
   rw [ed]
   refine ⟨by omega,by constructor <;> omega,(k+1,v9),rfl,⟨by omega,st_recast s9 ?_⟩,by simp only; omega⟩
   rw [ec,strE_snoc]; rfl
  ·have hlt':¬ (k:Int)<H:=by omega
   obtain rfl:k=H:=by omega
   rw [List.take_of_length_le (by rw [hcl]; omega)] at s7
   simp (disch:=first|omega|exact zF rfl|exact zG rfl|exact fun h=>h|(simp only[zA,zB,zC,zD,bytesW];omega)) only[go_sem,c198L0,c198L1,c198L1,hlt']
   refine W_loopU (fun q:Nat × Value=>[(8,q.2),(68,.int .i64 q.1)]) (fun q w'=>q.1≤l.length∧St W0 w' F (.row q.2 9 1 (k+q.1) ((chunksL k S++(l.take q.1).map fun p=>filledL p.2).flatMap strE)::L) (.rd 2 pendV (.slice a l.length c) l::I)) (fun q=>l.length - q.1) (0,.slice ao k co) rfl ⟨Nat.zero_le _,by simpa using s7⟩ ?_
   clear s7
   rintro ⟨j,vj⟩ w8 ⟨hj,s8⟩
   simp only at hj s8
   obtain ⟨aj,cj,rfl,_⟩:=own_slice (s8.row 0 rfl)
   have hR:=s8.rd 0 rfl
   by_cases hjl:j<l.length
   ·have hjl':(j:Int)<l.length:=by omega
    obtain ⟨q,rfl⟩:=hR.ptr (by omega)
    have eL:=hR.at pendV_len hjl
    obtain ⟨q0,q1,q2⟩:=hp _ (List.getElem_mem hjl)
    simp (disch:=first|omega|exact zF rfl|exact zG rfl|exact fun h=>h|(simp only[zA,zB,zC,zD,bytesW];omega)) only[go_sem,c198L0,c198L1,c198L2,c198L2,hjl',eL,pendV]
    refine ⟨by omega,Ret.mono (full_ok l[j].2 _ (by omega)) ?_⟩
    rintro _ w9 ⟨rfl,b9⟩
    have s9:=(s8.alloc' (.cells #[.int .i64 l[j].1,.string (ofL l[j].2)] 44)).call b9
    have ones:∀ u∈strE (filledL l[j].2),u.oneCell'=true:=by simpa using strE_ones [filledL l[j].2]
    simp (disch:=first|omega|exact zF rfl|exact zG rfl|exact fun h=>h|(simp only[zA,zB,zC,zD,bytesW];omega)) only[go_sem,c198L0,c198L1,c198L2]
    refine bsW_ones ty22mkI rfl rfl (by decide) (by decide) ones ?_
    have hx:Rd (w9.alloc (.cells (strE (filledL l[j].2)).toArray 9)) 1 (.slice (some ⟨w9.heap.size,0,none⟩) 1 1) 1 (strE (filledL l[j].2)):=rd_new (n:=1) (cs:=(strE (filledL l[j].2)).toArray) rfl
    simp (disch:=first|omega|exact zF rfl|exact zG rfl|exact fun h=>h|(simp only[zA,zB,zC,zD,bytesW];omega)) only[go_sem,c198L0,c198L1,c198L2]
    refine (s9.alloc' (.cells (strE (filledL l[j].2)).toArray 9)).append 0 rfl ty22mkI rfl (by decide) hx ones (by omega) (by omega) ?_
    intro v10 w10 s10 c10
    simp (disch:=first|omega|exact zF rfl|exact zG rfl|exact fun h=>h|(simp only[zA,zB,zC,zD,bytesW];omega)) only[go_sem,c198L0,c198L1,c198L2]
    refine ⟨by constructor <;> omega,(j+1,v10),rfl,⟨by omega,st_recast s10 ?_⟩,by simp only; omega⟩
    rw [List.take_succ_eq_append_getElem hjl,List.map_append,← List.append_assoc,List.map_cons,List.map_nil,strE_snoc]; rfl
   ·have hjl':¬ (j:Int)<l.length:=by omega
    obtain rfl:j=l.length:=by omega
    rw [List.take_length] at s8
    simp (disch:=first|omega|exact zF rfl|exact zG rfl|exact fun h=>h|(simp only[zA,zB,zC,zD,bytesW];omega)) only[go_sem,c198L0,c198L1,c198L2,c198L2,hjl']
    have ep:chunksL k S++l.map (fun p=>filledL p.2)=packL l:=by unfold packL; rw [← hH,← hS]
    have el:(packL l).length=k+l.length:=by rw [packL_len]; unfold blocksN; rw [← hH]
    rw [ep] at s8
    exact ⟨_,rfl,by rw [el]; exact s8⟩
end
open Go Go.Ann Go.RowKit Go.WideShapes Go.Shelf
section
variable {W0 w:World} {F:Nat→Prop} {L:List Res} {I:List Inv} {v:Value} {b:List (List UInt8)} {l:List Pge}
theorem blocks_ok(n:Nat)(w:World)(hn:n≤4294967296) :
  Ret Tryz.prog 155 [.int .i64 n] w fun v w'=>v=.int .i64 (blocksN n)∧w'=w:=by
 refine ent155 _ _ _ ?_
 simp (disch:=first|omega|exact zF rfl|exact zG rfl|exact fun h=>h|(simp only[zA,zB,zC,zD,bytesW];omega)) only[go_sem]
 refine Ret.mono (heads_ok n w hn) ?_
 rintro _ w2 ⟨rfl,e2⟩
 subst w2
 have hb:hdsN n≤4294967296:=by unfold hdsN; omega
 simp (disch:=first|omega|exact zF rfl|exact zG rfl|exact fun h=>h|(simp only[zA,zB,zC,zD,bytesW];omega)) only[go_sem]
 exact ⟨by constructor <;> omega,by unfold blocksN; omega⟩
end
open Go Go.Ann Go.RowKit Go.WideShapes
def bitM(mask:Int)(i:Nat):Bool:=decide (mask / 2 ^ (i % 64) % 2=1)
def cutK(cut:Int):Nat:=(max 0 (min cut 256)).toNat
def mixL(new old:List UInt8)(k:Nat):List UInt8:=new.take k++old.drop k
def crashS(mask torn cut:Int):Nat→List (Int × List UInt8)→List (List UInt8)→List (List UInt8)
 | _,[],s=>s
 | i,x::l,s=>crashS mask torn cut (i+1) l (if bitM mask i=true then s.set x.1.toNat (if (i:Int)=torn then mixL x.2 (s.getD x.1.toNat []) (cutK cut) else x.2) else s)
def crashN(m:Dk)(mask torn cut:Int):Dk:={ safe:=crashS mask torn cut 0 m.late m.safe,late:=[],left:=-1,gone:=false }
inductive After:List (List UInt8)→List (Int × List UInt8)→List (List UInt8)→Prop
 | nil (s):After s [] s
 | skip {s x l s'}:After s l s'→After s (x::l) s'
 | keep {s x l s'} (k:Nat):After (s.set x.1.toNat (mixL x.2 (s.getD x.1.toNat []) k)) l s'→After s (x::l) s'
theorem mixL_all{new old:List UInt8}(h1:new.length=256)(h2:old.length=256):mixL new old 256=new:=by
 unfold mixL; rw [List.take_of_length_le (by omega),List.drop_of_length_le (by omega),List.append_nil]
theorem mixL_len{new old:List UInt8}{k:Nat}(h1:new.length=256)(h2:old.length=256):(mixL new old k).length=256:=by
 unfold mixL; rw [List.length_append,List.length_take,List.length_drop]; omega
theorem getD_256{s:List (List UInt8)}(h:∀ x∈s,x.length=256){i:Nat}(hi:i<s.length):(s.getD i []).length=256:=by
 rw [List.getD_eq_getElem?_getD,List.getElem?_eq_getElem hi]; exact h _ (List.getElem_mem _)
theorem set_256{s:List (List UInt8)}(h:∀ x∈s,x.length=256){i:Nat}{u:List UInt8}(hu:u.length=256):∀ x∈s.set i u,x.length=256:=by
 intro x hx
 rcases List.mem_or_eq_of_mem_set hx with hx | rfl
 ·exact h x hx
 ·exact hu
theorem getD_set_ne{s:List (List UInt8)}{i j:Nat}{u:List UInt8}(h:i≠j):(s.set i u).getD j []=s.getD j []:=by
 rw [List.getD_eq_getElem?_getD,List.getD_eq_getElem?_getD,List.getElem?_set_ne h]
theorem getD_set_eq{s:List (List UInt8)}{i:Nat}{u:List UInt8}(h:i<s.length):(s.set i u).getD i []=u:=by
 rw [List.getD_eq_getElem?_getD,List.getElem?_set_self h]; rfl
theorem crash_after{mask torn cut:Int}:∀ (l:List (Int × List UInt8)) (i:Nat) (s:List (List UInt8)),(∀ x∈s,x.length=256)→(∀ x∈l,0≤x.1∧x.1<s.length∧x.2.length=256)→After s l (crashS mask torn cut i l s)
 | [],_,s,_,_=>.nil s
 | x::l,i,s,hs,hl=>by
  obtain ⟨x0,x1,x2⟩:=hl x (List.mem_cons_self ..)
  have hl':=fun y hy=>hl y (List.mem_cons_of_mem x hy)
  have ho:=getD_256 hs (i:=x.1.toNat) (by omega)
  rw [crashS]
  split
  ·split
   ·exact .keep (cutK cut) (crash_after l (i+1) _ (set_256 hs (mixL_len x2 ho)) fun y hy=>by rw [List.length_set]; exact hl' y hy)
   ·refine .keep 256 ?_
    rw [mixL_all x2 ho]
    exact crash_after l (i+1) _ (set_256 hs x2) fun y hy=>by rw [List.length_set]; exact hl' y hy
  ·exact .skip (crash_after l (i+1) s hs hl')
theorem After.len{s s':List (List UInt8)}{l:List (Int × List UInt8)}(h:After s l s'):s'.length=s.length:=by
 induction h with
 | nil=>rfl
 | skip _ ih=>exact ih
 | keep _ _ ih=>rw [ih,List.length_set]
theorem After.all{s s':List (List UInt8)}{l:List (Int × List UInt8)}(h:After s l s'):(∀ x∈s,x.length=256)→(∀ x∈l,0≤x.1∧x.1<s.length∧x.2.length=256)→∀ x∈s',x.length=256:=by
 induction h with
 | nil=>intro h _; exact h
 | skip _ ih=>exact fun h1 h2=>ih h1 fun y hy=>h2 y (List.mem_cons_of_mem _ hy)
 | keep k _ ih =>
  intro h1 h2
  obtain ⟨x0,x1,x2⟩:=h2 _ (List.mem_cons_self ..)
  exact ih (set_256 h1 (mixL_len x2 (getD_256 h1 (by omega)))) fun y hy=>by rw [List.length_set]; exact h2 y (List.mem_cons_of_mem _ hy)
theorem After.stays{s s':List (List UInt8)}{l:List (Int × List UInt8)}(h:After s l s'){j:Nat}:(∀ x∈l,x.1.toNat≠j)→s'.getD j []=s.getD j []:=by
 induction h with
 | nil=>intro _; rfl
 | skip _ ih=>exact fun h=>ih fun y hy=>h y (List.mem_cons_of_mem _ hy)
 | keep k _ ih =>
  intro h
  rw [ih fun y hy=>h y (List.mem_cons_of_mem _ hy),getD_set_ne (h _ (List.mem_cons_self ..))]
theorem After.pre{s s':List (List UInt8)}{l:List (Int × List UInt8)}(r:List (Int × List UInt8))(h:After s l s'):After s (l++r) s':=by
 induction h with
 | nil s =>
  rw [List.nil_append]
  induction r with
  | nil=>exact .nil s
  | cons a r ih=>exact .skip ih
 | skip _ ih=>exact .skip ih
 | keep k _ ih=>exact .keep k ih
theorem After.one{s s':List (List UInt8)}{x:Int × List UInt8}(h:After s [x] s'):s'=s∨∃ k,s'=s.set x.1.toNat (mixL x.2 (s.getD x.1.toNat []) k):=by
 cases h with
 | skip h=>cases h; exact .inl rfl
 | keep k h=>cases h; exact .inr ⟨k,rfl⟩
theorem done_stays{s:List (List UInt8)}{j:Nat}:∀ {l:List (Int × List UInt8)},(∀ x∈l,x.1.toNat≠j)→(doneL s l).getD j []=s.getD j []:=by
 intro l
 unfold doneL
 induction l generalizing s with
 | nil=>intro _; rfl
 | cons x l ih =>
  intro h
  rw [List.foldl_cons,ih fun y hy=>h y (List.mem_cons_of_mem _ hy),getD_set_ne (h _ (List.mem_cons_self ..))]
theorem done_is{s:List (List UInt8)}:∀ {l:List (Int × List UInt8)},(l.map fun x=>x.1.toNat).Nodup→∀ x∈l,x.1.toNat<s.length→(doneL s l).getD x.1.toNat []=x.2:=by
 intro l
 unfold doneL
 induction l generalizing s with
 | nil=>intro _ x hx; cases hx
 | cons a l ih =>
  intro hn x hx hlt
  rw [List.map_cons,List.nodup_cons] at hn
  rw [List.foldl_cons]
  rcases List.mem_cons.1 hx with rfl | hx
  ·have:(doneL (s.set x.1.toNat x.2) l).getD x.1.toNat []=_:=done_stays (s:=s.set x.1.toNat x.2) fun y hy e=>hn.1 (by rw [← e]; exact List.mem_map_of_mem hy)
   unfold doneL at this
   rw [this,getD_set_eq hlt]
  ·exact ih hn.2 x hx (by rw [List.length_set]; exact hlt)
def wrsN:Dk→List (Int × List UInt8)→Dk × Int
 | m,[]=>(m,0)
 | m,x::l=>if (writeN m x.1 x.2).2≠0 then writeN m x.1 x.2 else wrsN (writeN m x.1 x.2).1 l
def batN(m:Dk)(l:List (Int × List UInt8)):Dk × Int:=if (wrsN m l).2≠0 then wrsN m l else flushN (wrsN m l).1
theorem putN_bat(m:Dk)(h:Hd):putN m h=batN m [(((h.seq % 2:Nat):Int),headL h)]:=by
 have e1:wrsN m [(((h.seq % 2:Nat):Int),headL h)]=if (writeN m ((h.seq % 2:Nat):Int) (headL h)).2≠0 then writeN m ((h.seq % 2:Nat):Int) (headL h) else ((writeN m ((h.seq % 2:Nat):Int) (headL h)).1,0):=rfl
 by_cases e:(writeN m ((h.seq % 2:Nat):Int) (headL h)).2≠0
 ·rw [if_pos e] at e1
  unfold putN batN
  rw [e1,if_pos e]
 ·rw [if_neg e] at e1
  unfold putN batN
  rw [e1,if_neg e,if_neg (by simp)]
def fillW(l:List (Int × List UInt8)):List (Int × List UInt8):=l.map fun x=>(x.1,filledL x.2)
structure Fit(n:Nat)(l:List (Int × List UInt8)):Prop where
 all:∀ x∈l,0≤x.1∧x.1<n∧x.2.length≤256
theorem Fit.fill{n:Nat}{l:List (Int × List UInt8)}(h:Fit n l):∀ x∈fillW l,0≤x.1∧x.1<n∧x.2.length=256:=by
 intro x hx
 obtain ⟨y,hy,rfl⟩:=List.mem_map.1 hx
 obtain ⟨h0,h1,h2⟩:=h.all y hy
 exact ⟨h0,h1,filledL_length h2⟩
structure Up(m:Dk)(s:List (List UInt8))(l:List (Int × List UInt8)):Prop where
 safe:m.safe=s
 late:m.late=l
 gone:m.gone=false
theorem useN_cases(m:Dk):((useN m).2=0∧(useN m).1.gone=m.gone∧(m.left = -1→(useN m).1.left = -1))∨((useN m).2=11∧(useN m).1.gone=true∧m.left=0):=by
 unfold useN
 by_cases h0:m.left=0
 ·rw [if_pos h0]; exact .inr ⟨rfl,rfl,h0⟩
 ·rw [if_neg h0]
  by_cases h1:0<m.left
  ·rw [if_pos h1]; exact .inl ⟨rfl,rfl,fun h=>by omega⟩
  ·rw [if_neg h1]; exact .inl ⟨rfl,rfl,fun h=>h⟩
theorem wrs_cases{s:List (List UInt8)}(n:Nat)(hn:s.length=n):∀ (l:List (Int × List UInt8)) (m:Dk) (a:List (Int × List UInt8)),Up m s a→Fit n l →
  ((wrsN m l).2=0∧Up (wrsN m l).1 s (a++fillW l)∧(m.left = -1→(wrsN m l).1.left = -1)) ∨
  ((wrsN m l).2=11∧m.left ≠ -1∧(wrsN m l).1.gone=true∧(wrsN m l).1.safe=s∧∃ b r,fillW l=b++r∧(wrsN m l).1.late=a++b)
 | [],m,a,hu,_=>by
  refine .inl ⟨rfl,?_,fun h=>h⟩
  unfold fillW
  rw [List.map_nil,List.append_nil]
  exact hu
 | x::l,m,a,hu,hf=>by
  obtain ⟨h0,h1,h2⟩:=hf.all x (List.mem_cons_self ..)
  have er:readyN m x.1=0:=by
   unfold readyN
   rw [if_neg (by rw [hu.gone]; decide),if_pos ⟨h0,by rw [hu.safe,hn]; exact h1⟩]
  have hlt:=useN_late m
  rw [wrsN]
  rcases useN_cases m with ⟨e1,e2,e3⟩ | ⟨e1,e2,e3⟩
  ·have ew:writeN m x.1 x.2=({ (useN m).1 with late:=(useN m).1.late++[(x.1,filledL x.2)] },0):=by
    unfold writeN
    rw [if_neg (by omega),if_neg (by omega),if_pos e1]
   rw [ew,if_neg (by simp)]
   have hu':Up { (useN m).1 with late:=(useN m).1.late++[(x.1,filledL x.2)] } s (a++[(x.1,filledL x.2)]) :=
    ⟨hlt.2.trans hu.safe,by show (useN m).1.late++_=_; rw [hlt.1,hu.late],e2.trans hu.gone⟩
   rcases wrs_cases n hn l _ _ hu' ⟨fun y hy=>hf.all y (List.mem_cons_of_mem _ hy)⟩ with ⟨g1,g2,g3⟩ | ⟨g1,g2,g3,g4,b,r,g5,g6⟩
   ·refine .inl ⟨g1,?_,fun h=>g3 (e3 h)⟩
    have:a++[(x.1,filledL x.2)]++fillW l=a++fillW (x::l):=by unfold fillW; rw [List.map_cons,List.append_assoc]; rfl
    rw [this] at g2
    exact g2
   ·refine .inr ⟨g1,fun h=>g2 (e3 h),g3,g4,(x.1,filledL x.2)::b,r,?_,?_⟩
    ·unfold fillW at g5 ⊢
     rw [List.map_cons,g5]; rfl
    ·rw [g6,List.append_assoc]; rfl
  ·have ew:writeN m x.1 x.2=useN m:=by
    unfold writeN
    rw [if_neg (by omega),if_neg (by omega),if_neg (by omega)]
   rw [ew,if_pos (by omega)]
   exact .inr ⟨e1,by omega,e2,hlt.2.trans hu.safe,[],fillW (x::l),rfl,by rw [hlt.1,hu.late,List.append_nil]⟩
theorem bat_cases{m:Dk}{s:List (List UInt8)}{l:List (Int × List UInt8)}(hu:Up m s [])(hf:Fit s.length l)(h0:0<s.length) :
  ((batN m l).2=0∧Up (batN m l).1 (doneL s (fillW l)) []∧(m.left = -1→(batN m l).1.left = -1)) ∨
  ((batN m l).2=11∧m.left ≠ -1∧(batN m l).1.gone=true∧(batN m l).1.safe=s∧∃ b r,fillW l=b++r∧(batN m l).1.late=b):=by
 unfold batN
 rcases wrs_cases _ rfl l m [] hu hf with ⟨g1,g2,g3⟩ | ⟨g1,g2,g3,g4,b,r,g5,g6⟩
 ·rw [if_neg (by omega)]
  rw [List.nil_append] at g2
  generalize (wrsN m l).1=m1 at g2 g3 ⊢
  have er:readyN m1 0=0:=by
   unfold readyN
   rw [if_neg (by rw [g2.gone]; decide),if_pos ⟨by decide,by rw [g2.safe]; omega⟩]
  have hlt:=useN_late m1
  unfold flushN
  rw [if_neg (by omega)]
  rcases useN_cases m1 with ⟨e1,e2,e3⟩ | ⟨e1,e2,e3⟩
  ·rw [if_neg (by omega)]
   exact .inl ⟨rfl,⟨by show doneL m1.safe m1.late=_; rw [g2.safe,g2.late],rfl,e2.trans g2.gone⟩,fun h=>e3 (g3 h)⟩
  ·rw [if_pos (by omega)]
   exact .inr ⟨e1,fun h=>by have:=g3 h; omega,e2,hlt.2.trans g2.safe,fillW l,[],by rw [List.append_nil],by rw [hlt.1,g2.late]⟩
 ·rw [if_pos (by omega)]
  exact .inr ⟨g1,g2,g3,g4,b,r,g5,by rw [g6,List.nil_append]⟩
theorem bat_after{m:Dk}{s:List (List UInt8)}{l b r:List (Int × List UInt8)}(hs:m.safe=s)(hl:m.late=b)(e:fillW l=b++r)(h256:∀ x∈s,x.length=256)(hf:Fit s.length l)(mask torn cut:Int):After s (fillW l) (crashN m mask torn cut).safe:=by
 rw [e]
 refine After.pre r ?_
 show After s b (crashS mask torn cut 0 m.late m.safe)
 rw [hs,hl]
 refine crash_after b 0 s h256 fun x hx=>hf.fill x ?_
 rw [e]
 exact List.mem_append_left _ hx
open Go Go.Ann Go.RowKit Go.WideShapes
theorem mixL_get{A B:List UInt8}(hA:A.length=256)(hB:B.length=256)(k i:Nat):(mixL A B k)[i]?=if i<k then A[i]? else B[i]?:=by
 unfold mixL
 rw [List.getElem?_append,List.length_take,hA]
 by_cases h:i<k
 ·rw [if_pos h]
  by_cases h2:i<256
  ·rw [if_pos (by omega),List.getElem?_take,if_pos h]
  ·rw [if_neg (by omega),List.getElem?_drop,List.getElem?_eq_none (by omega),List.getElem?_eq_none (by omega)]
 ·rw [if_neg h,if_neg (by omega),List.getElem?_drop]
  by_cases h2:k≤256
  ·congr 1; omega
  ·rw [List.getElem?_eq_none (by omega),List.getElem?_eq_none (by omega)]
theorem mixL_mix{A B:List UInt8}(hA:A.length=256)(hB:B.length=256)(j k:Nat):mixL A (mixL A B j) k=mixL A B (max k j):=by
 refine List.ext_getElem? fun i=>?_
 rw [mixL_get hA (mixL_len hA hB),mixL_get hA hB,mixL_get hA hB]
 by_cases h1:i<k
 ·rw [if_pos h1,if_pos (by omega)]
 ·rw [if_neg h1]
  by_cases h2:i<j
  ·rw [if_pos h2,if_pos (by omega)]
  ·rw [if_neg h2,if_neg (by omega)]
theorem readHd_pre{b c:List UInt8}(h1:b.length=256)(h2:c.length=256)(h:b.take 40=c.take 40):readHd b=readHd c:=by
 have e:∀ n,n≤40→b.take n=c.take n:=fun n hn=>by
  have:=congrArg (List.take n) h
  rwa [List.take_take,List.take_take,Nat.min_eq_left hn] at this
 have ec:∀ i j:Nat,j≤40→cutL b i j=cutL c i j:=fun i j hj=>by
  unfold cutL
  show List.drop i (List.take j b)=List.drop i (List.take j c)
  rw [e j hj]
 unfold readHd
 rw [h1,h2,e 20 (by decide),e 8 (by decide),show cutL b 20 40=cutL c 20 40 from ec 20 40 (by decide),show cutL b 8 12=cutL c 8 12 from ec 8 12 (by decide),show cutL b 12 16=cutL c 12 16 from ec 12 16 (by decide),show cutL b 16 20=cutL c 16 20 from ec 16 20 (by decide)]
theorem readHd_valid{b:List UInt8}{h:Hd}(e:readHd b=some h):40≤b.length∧notL (b.take 20)=cutL b 20 40:=by
 unfold readHd at e
 split at e
 ·cases e
 ·split at e
  ·rename_i h1 h2; exact ⟨by omega,h2⟩
  ·cases e
theorem headA_len{h:Hd}:(filledL (headL h)).length=256:=filledL_length (by rw [headL_len]; decide)
theorem readHd_of_head{h:Hd}(ok:h.ok){M:List UInt8}(hM:M.length=256)(e:M.take 20=head0 h)(v:notL (M.take 20)=cutL M 20 40):readHd M=some h:=by
 have e40:M.take 40=headL h:=by
  have h1:M.take 40=(M.take 40).take 20++(M.take 40).drop 20:=(List.take_append_drop 20 _).symm
  rw [h1,List.take_take,show min 20 40=20 from rfl,e]
  unfold headL
  rw [← e,v]; rfl
 have:=readHd_headL ok (M.drop 40)
 rw [← e40,List.take_append_drop] at this
 exact this
theorem mix_read{h:Hd}(ok:h.ok){B:List UInt8}(hB:B.length=256)(hb:B=zeroB∨∃ h0,readHd B=some h0)(k:Nat) :
  readHd (mixL (filledL (headL h)) B k)=none∨readHd (mixL (filledL (headL h)) B k)=some h∨readHd (mixL (filledL (headL h)) B k)=readHd B:=by
 have hA:=headA_len (h:=h)
 have hM:=mixL_len (k:=k) hA hB
 have hg:=fun i=>mixL_get hA hB k i
 generalize hMe:mixL (filledL (headL h)) B k=M at hM hg ⊢
 by_cases v:notL (M.take 20)=cutL M 20 40
 case neg =>
  left
  unfold readHd
  rw [if_neg (by omega),if_neg v]
 have hl20:=head0_len h
 have hl40:=headL_len h
 by_cases hk:20≤k
 ·right; left
  refine readHd_of_head ok hM ?_ v
  refine List.ext_getElem? fun i=>?_
  rw [List.getElem?_take]
  by_cases hi:i<20
  ·rw [if_pos hi,hg,if_pos (by omega)]
   unfold filledL headL
   rw [List.getElem?_append_left (by rw [List.length_append,notL_len,hl20]; omega),List.getElem?_append_left (by omega)]
  ·rw [if_neg hi,List.getElem?_eq_none (by omega)]
 ·have ec:cutL M 20 40=cutL B 20 40:=by
   refine List.ext_getElem? fun i=>?_
   unfold cutL
   rw [List.getElem?_drop,List.getElem?_drop,List.getElem?_take,List.getElem?_take]
   show (if 20+i<40 then M[20+i]? else none)=if 20+i<40 then B[20+i]? else none
   by_cases hi:20+i<40
   ·rw [if_pos hi,if_pos hi,hg,if_neg (by omega)]
   ·rw [if_neg hi,if_neg hi]
  rcases hb with hb | ⟨h0,hb⟩
  ·exfalso
   have e1:M.take 20=List.replicate 20 255:=by
    have:=congrArg notL v
    rw [notL_notL,ec,hb] at this
    rw [this]; decide
   have e2:(M.take 20)[19]?=some 255:=by rw [e1]; rfl
   rw [List.getElem?_take,if_pos (by decide),hg,if_neg (by omega),hb] at e2
   have e3:zeroB[19]?=some 0:=by decide
   rw [e3] at e2
   exact absurd e2 (by decide)
  ·right; right
   obtain ⟨_,v2⟩:=readHd_valid hb
   have e1:M.take 20=B.take 20:=by
    have:=congrArg notL (v.trans (ec.trans v2.symm))
    rwa [notL_notL,notL_notL] at this
   refine readHd_pre hM hB ?_
   have h1:M.take 40=(M.take 40).take 20++(M.take 40).drop 20:=(List.take_append_drop 20 _).symm
   have h2:B.take 40=(B.take 40).take 20++(B.take 40).drop 20:=(List.take_append_drop 20 _).symm
   rw [h1,h2,List.take_take,List.take_take,show min 20 40=20 from rfl,e1]
   congr 1
structure Geo(n:Nat)(h:Hd):Prop where
 room:1≤h.room
 pages:1≤h.pages
 few:h.pages≤1024
 used:h.used≤h.room
 fit:2+h.room+h.pages≤n
def nextH(h:Hd)(u:Nat):Hd:={ h with seq:=h.seq+1,used:=u }
structure Top(s:List (List UInt8))(h:Hd):Prop where
 blocks:∀ x∈s,x.length=256
 many:s.length≤2048
 geo:Geo s.length h
 low:h.seq<1000000
 pos:0<h.seq
 here:readHd (s.getD (h.seq % 2) [])=some h
 there:∀ h',readHd (s.getD ((h.seq+1) % 2) [])=some h'→h'.seq<h.seq
theorem Top.ok{s:List (List UInt8)}{h:Hd}(t:Top s h):h.ok:=by
 have g:=t.geo
 have:=t.many
 have:=t.low
 have:=g.fit
 have:=g.used
 exact ⟨by omega,by omega,by omega,by omega⟩
def Base(s:List (List UInt8))(h:Hd):Prop:=s.getD ((h.seq+1) % 2) []=zeroB∨∃ h',readHd (s.getD ((h.seq+1) % 2) [])=some h'
def Home(s:List (List UInt8))(h:Hd)(P:List (List UInt8)):Prop:=P.length=h.pages∧∀ i,i<h.pages→s.getD (2+h.room+i) []=P.getD i []
structure Jou(s:List (List UInt8))(h:Hd)(l:List Pge):Prop where
 used:h.used=blocksN l.length
 jou:∀ i,i<h.used→s.getD (2+i) []=(packL l).getD i []
 few:l.length≤1024
 pages:∀ p∈l,0≤p.1∧p.1<h.pages∧p.2.length=256
 nd:(l.map Prod.fst).Nodup
structure Pend(s:List (List UInt8))(h:Hd)(P:List (List UInt8))(l:List Pge):Prop where
 jou:Jou s h l
 len:P.length=h.pages
 new:∀ p∈l,P.getD p.1.toNat []=p.2
 old:∀ i,i<h.pages→(∀ p∈l,p.1.toNat≠i)→s.getD (2+h.room+i) []=P.getD i []
 more:h.seq+1<1000000
 slot:∃ B k,s.getD ((h.seq+1) % 2) []=mixL (filledL (headL (nextH h 0))) B k∧B.length=256∧(B=zeroB∨∃ h0,readHd B=some h0∧h0.seq<h.seq)
def Recov(s:List (List UInt8))(P:List (List UInt8)):Prop:=∃ h,Top s h∧((h.used=0∧Home s h P)∨∃ l,Pend s h P l)
def homeW(h:Hd)(l:List Pge):List (Int × List UInt8):=l.map fun p=>(2+(h.room:Int)+p.1,p.2)
theorem nextH_ok{s:List (List UInt8)}{h:Hd}(t:Top s h){u:Nat}(hu:u≤h.room):(nextH h u).ok:=by
 have o:=t.ok
 have:=t.low
 have:=o.room
 exact ⟨by show h.seq+1<_; omega,by show u<_; omega,o.room,o.pages⟩
section
variable {s s':List (List UInt8)} {h:Hd} {P:List (List UInt8)} {l:List Pge} {m:Dk}
theorem homeW_fit(t:Top s h)(hp:∀ p∈l,0≤p.1∧p.1<h.pages∧p.2.length=256):Fit s.length (homeW h l):=by
 refine ⟨fun x hx=>?_⟩
 obtain ⟨p,hp',rfl⟩:=List.mem_map.1 hx
 obtain ⟨h0,h1,h2⟩:=hp p hp'
 have:=t.geo.fit
 exact ⟨by simp only; omega,by simp only; omega,by simp only; omega⟩
theorem homeW_mem(hp:∀ p∈l,0≤p.1∧p.1<h.pages∧p.2.length=256):∀ x∈fillW (homeW h l),∃ p∈l,x.1.toNat=2+h.room+p.1.toNat∧x.2=p.2:=by
 intro x hx
 obtain ⟨y,hy,rfl⟩:=List.mem_map.1 hx
 obtain ⟨p,hp',rfl⟩:=List.mem_map.1 hy
 obtain ⟨h0,h1,h2⟩:=hp p hp'
 exact ⟨p,hp',by simp only; omega,fit256 h2⟩
theorem Pend.keep(d:Pend s h P l)(t:Top s h)(hl:s'.length=s.length)(ha:∀ x∈s',x.length=256)(hs:∀ j,(∀ p∈l,2+h.room+p.1.toNat≠j)→s'.getD j []=s.getD j []):Top s' h∧Pend s' h P l:=by
 have g:=t.geo
 have lo:∀ j,j<2+h.room→s'.getD j []=s.getD j []:=fun j hj=>hs j fun p _=>by omega
 have hr:=g.room
 refine ⟨⟨ha,by rw [hl]; exact t.many,by rw [hl]; exact g,t.low,t.pos,by rw [lo _ (by omega)]; exact t.here,by rw [lo _ (by omega)]; exact t.there⟩,⟨⟨d.jou.used,fun i hi=>?_,d.jou.few,d.jou.pages,d.jou.nd⟩,d.len,d.new,fun i hi hn=>?_,d.more,?_⟩⟩
 ·have:=g.used
  rw [lo _ (by omega)]; exact d.jou.jou i hi
 ·rw [hs _ fun p hp e=>hn p hp (by omega)]; exact d.old i hi hn
 ·rw [lo _ (by omega)]; exact d.slot
theorem slot_cases(t:Top s h)(d:Pend s h P l)(k:Nat)(hm:∀ i,i<h.pages→s.getD (2+h.room+i) []=P.getD i []) :
  Recov (s.set ((h.seq+1) % 2) (mixL (filledL (headL (nextH h 0))) (s.getD ((h.seq+1) % 2) []) k)) P:=by
 obtain ⟨B,k0,e0,e1,e2⟩:=d.slot
 have g:=t.geo
 have ho:(h.seq+1) % 2<s.length:=by have:=g.fit; have:=g.room; omega
 have hne:(h.seq+1) % 2≠h.seq % 2:=by omega
 have hA:=headA_len (h:=nextH h 0)
 have hok:=nextH_ok t (u:=0) (by omega)
 rw [e0,mixL_mix hA e1]
 have hM:=mixL_len (k:=max k k0) hA e1
 have hrd:=mix_read hok e1 (by
  rcases e2 with e2 | ⟨h0,e2,_⟩
  ·exact .inl e2
  ·exact .inr ⟨h0,e2⟩) (max k k0)
 generalize hMe:mixL (filledL (headL (nextH h 0))) B (max k k0)=M at hM hrd ⊢
 have bl:∀ x∈s.set ((h.seq+1) % 2) M,x.length=256:=set_256 t.blocks hM
 have hh:(s.set ((h.seq+1) % 2) M).getD (h.seq % 2) []=s.getD (h.seq % 2) []:=getD_set_ne hne
 have hs:(s.set ((h.seq+1) % 2) M).getD ((h.seq+1) % 2) []=M:=getD_set_eq ho
 have lo:∀ j,2≤j→(s.set ((h.seq+1) % 2) M).getD j []=s.getD j []:=fun j hj=>getD_set_ne (by omega)
 have hnx:(nextH h 0).seq=h.seq+1:=rfl
 by_cases hn:readHd M=some (nextH h 0)
 ·refine ⟨nextH h 0,⟨bl,by rw [List.length_set]; exact t.many,by rw [List.length_set]; exact ⟨g.room,g.pages,g.few,Nat.zero_le _,g.fit⟩,by rw [hnx]; exact d.more,by rw [hnx]; omega,by rw [hnx,hs]; exact hn,fun h' hr=>?_⟩,.inl ⟨rfl,d.len,fun i hi=>?_⟩⟩
  ·rw [hnx,show (h.seq+1+1) % 2=h.seq % 2 by omega,hh,t.here] at hr
   simp only [Option.some.injEq] at hr
   subst hr
   rw [hnx]; omega
  ·show (s.set ((h.seq+1) % 2) M).getD (2+h.room+i) []=_
   rw [lo _ (by omega)]
   exact hm i hi
 ·refine ⟨h,⟨bl,by rw [List.length_set]; exact t.many,by rw [List.length_set]; exact g,t.low,t.pos,by rw [hh]; exact t.here,fun h' hr=>?_⟩,.inr ⟨l,⟨⟨d.jou.used,fun i hi=>by rw [lo _ (by omega)]; exact d.jou.jou i hi,d.jou.few,d.jou.pages,d.jou.nd⟩,d.len,d.new,fun i hi hn=>by rw [lo _ (by omega)]; exact d.old i hi hn,d.more,B,max k k0,by rw [hs,hMe],e1,e2⟩⟩⟩
  rw [hs] at hr
  rcases hrd with r | r | r
  ·rw [r] at hr; cases hr
  ·exact absurd r hn
  ·rw [r] at hr
   rcases e2 with e2 | ⟨h0,e2,e3⟩
   ·rw [e2] at hr
    have:readHd zeroB=none:=readHd_zero
    rw [this] at hr; cases hr
   ·rw [e2] at hr
    simp only [Option.some.injEq] at hr
    subst hr; exact e3
end
open Go Go.Ann Go.RowKit Go.WideShapes
def finN(m:Dk)(h:Hd)(l:List Pge):Dk × Int:=if (batN m (homeW h l)).2≠0 then batN m (homeW h l) else putN (batN m (homeW h l)).1 (nextH h 0)
def jouW(l:List Pge):List (Int × List UInt8):=(List.range (blocksN l.length)).map fun i:Nat=>((2+i:Nat),(packL l).getD i [])
def comN(m:Dk)(h:Hd)(l:List Pge):Dk × Int :=
 if (batN m (jouW l)).2≠0 then batN m (jouW l) else
 if (putN (batN m (jouW l)).1 (nextH h (blocksN l.length))).2≠0 then putN (batN m (jouW l)).1 (nextH h (blocksN l.length)) else
 finN (putN (batN m (jouW l)).1 (nextH h (blocksN l.length))).1 (nextH h (blocksN l.length)) l
structure Lost(m m':Dk)(Q:List (List UInt8)→Prop):Prop where
 lim:m.left ≠ -1
 gone:m'.gone=true
 crash:∀ mask torn cut,Q (crashN m' mask torn cut).safe
theorem packL_256(l:List Pge)(hp:∀ p∈l,p.2.length=256):∀ x∈packL l,x.length=256:=by
 intro x hx
 unfold packL at hx
 rcases List.mem_append.1 hx with hx | hx
 ·exact chunksL_256 _ _ x hx
 ·obtain ⟨p,hp',rfl⟩:=List.mem_map.1 hx
  exact filledL_length (by rw [hp p hp']; decide)
section
variable {s s':List (List UInt8)} {h:Hd} {P:List (List UInt8)} {l:List Pge} {m:Dk}
theorem Up.kept{m:Dk}(hs:m.safe=s)(hl:m.late=[])(mask torn cut:Int):(crashN m mask torn cut).safe=s:=by
 show crashS mask torn cut 0 m.late m.safe=s
 rw [hl,hs]; rfl
theorem head_fit(t:Top s h){g:Hd}(hg:g.seq=h.seq+1):Fit s.length [(((g.seq % 2:Nat):Int),headL g)]:=by
 refine ⟨fun x hx=>?_⟩
 rw [List.mem_singleton] at hx
 subst hx
 have:=t.geo.fit
 have:=t.geo.room
 have:=headL_len g
 exact ⟨by simp only; omega,by simp only; omega,by simp only; omega⟩
theorem fill_head{g:Hd}:fillW [(((g.seq % 2:Nat):Int),headL g)]=[(((g.seq % 2:Nat):Int),filledL (headL g))]:=rfl
theorem fin_cases(hu:Up m s [])(t:Top s h)(d:Pend s h P l) :
  ((finN m h l).2=0∧(∃ s',Up (finN m h l).1 s' []∧Top s' (nextH h 0)∧Base s' (nextH h 0)∧Home s' (nextH h 0) P)∧(m.left = -1→(finN m h l).1.left = -1)) ∨
  ((finN m h l).2=11∧Lost m (finN m h l).1 fun s=>Recov s P):=by
 have g:=t.geo
 have h0:0<s.length:=by have:=g.fit; omega
 have hf:=homeW_fit t d.jou.pages
 have hmem:=homeW_mem (h:=h) d.jou.pages
 have hother:∀ j,(∀ p∈l,2+h.room+p.1.toNat≠j)→∀ x∈fillW (homeW h l),x.1.toNat≠j:=fun j hj x hx=>by
  obtain ⟨p,hp,e1,_⟩:=hmem x hx
  rw [e1]; exact hj p hp
 unfold finN
 rcases bat_cases hu hf h0 with ⟨g1,g2,g3⟩ | ⟨g1,g2,g3,g4,b,r,g5,g6⟩
 ·rw [if_neg (by omega)]
  generalize (batN m (homeW h l)).1=m1 at g2 g3 ⊢
  obtain ⟨t1,d1⟩:=d.keep t (s':=doneL s (fillW (homeW h l))) (doneL_length _ _) (doneL_256 t.blocks fun x hx=>(hf.fill x hx).2.2) fun j hj=>done_stays (hother j hj)
  have hm1:∀ i,i<h.pages→(doneL s (fillW (homeW h l))).getD (2+h.room+i) []=P.getD i []:=fun i hi=>by
   by_cases hex:∃ p∈l,p.1.toNat=i
   ·obtain ⟨p,hp,rfl⟩:=hex
    obtain ⟨q0,q1,q2⟩:=d.jou.pages p hp
    have hx:((2+(h.room:Int)+p.1,filledL p.2):Int × List UInt8)∈fillW (homeW h l):=List.mem_map.2 ⟨_,List.mem_map.2 ⟨p,hp,rfl⟩,rfl⟩
    have hnd:((fillW (homeW h l)).map fun x=>x.1.toNat).Nodup:=by
     unfold fillW homeW
     rw [List.map_map,List.map_map]
     have:(l.map Prod.fst).Nodup:=d.jou.nd
     refine (List.pairwise_map.2 ?_)
     have h2:=List.pairwise_map.1 this
     refine h2.imp_of_mem fun {a b} ha hb hab=>?_
     obtain ⟨a0,_,_⟩:=d.jou.pages a ha
     obtain ⟨b0,_,_⟩:=d.jou.pages b hb
     simp only [Function.comp_apply]
     intro e
     exact hab (by omega)
    have e1:=done_is (s:=s) hnd _ hx (by have:=g.fit; simp only; omega)
    simp only at e1
    rw [show (2+(h.room:Int)+p.1).toNat=2+h.room+p.1.toNat by omega] at e1
    rw [e1,fit256 q2,d.new p hp]
   ·exact d1.old i hi fun p hp e=>hex ⟨p,hp,e⟩
  generalize doneL s (fillW (homeW h l))=s1 at g2 t1 d1 hm1
  rw [putN_bat]
  have hf1:=head_fit t1 (g:=nextH h 0) rfl
  have h01:0<s1.length:=by have:=t1.geo.fit; omega
  have hnx:(nextH h 0).seq=h.seq+1:=rfl
  have hcr:∀ k,Recov (s1.set ((h.seq+1) % 2) (mixL (filledL (headL (nextH h 0))) (s1.getD ((h.seq+1) % 2) []) k)) P:=fun k=>slot_cases t1 d1 k hm1
  rcases bat_cases g2 hf1 h01 with ⟨k1,k2,k3⟩ | ⟨k1,k2,k3,k4,b,r,k5,k6⟩
  ·left
   refine ⟨k1,⟨_,k2,?_⟩,fun hl=>k3 (g3 hl)⟩
   rw [fill_head]
   have es:doneL s1 [((((nextH h 0).seq % 2:Nat):Int),filledL (headL (nextH h 0)))]=s1.set ((h.seq+1) % 2) (filledL (headL (nextH h 0))):=by
    unfold doneL
    rw [List.foldl_cons,List.foldl_nil,hnx,Int.toNat_natCast]
   rw [es]
   have g':=t1.geo
   have ho:(h.seq+1) % 2<s1.length:=by have:=g'.fit; have:=g'.room; omega
   have hne:(h.seq+1) % 2≠h.seq % 2:=by omega
   have hok:=nextH_ok t1 (u:=0) (by omega)
   have hh:(s1.set ((h.seq+1) % 2) (filledL (headL (nextH h 0)))).getD (h.seq % 2) []=s1.getD (h.seq % 2) []:=getD_set_ne hne
   have hs:(s1.set ((h.seq+1) % 2) (filledL (headL (nextH h 0)))).getD ((h.seq+1) % 2) []=filledL (headL (nextH h 0)):=getD_set_eq ho
   have e2:((nextH h 0).seq+1) % 2=h.seq % 2:=by rw [hnx]; omega
   refine ⟨⟨set_256 t1.blocks headA_len,by rw [List.length_set]; exact t1.many,by rw [List.length_set]; exact ⟨g'.room,g'.pages,g'.few,Nat.zero_le _,g'.fit⟩,by rw [hnx]; exact d.more,by rw [hnx]; omega,by rw [hnx,hs]; exact readHd_headL hok _,fun h' hr=>?_⟩,.inr ⟨h,by rw [e2,hh]; exact t1.here⟩,d.len,fun i hi=>?_⟩
   ·rw [e2,hh,t1.here] at hr
    simp only [Option.some.injEq] at hr
    subst hr
    rw [hnx]; omega
   ·show (s1.set ((h.seq+1) % 2) _).getD (2+h.room+i) []=_
    rw [getD_set_ne (by omega)]
    exact hm1 i hi
  ·right
   refine ⟨k1,fun hl=>k2 (g3 hl),k3,fun mask torn cut=>?_⟩
   have ha:=bat_after k4 k6 k5 t1.blocks hf1 mask torn cut
   rw [fill_head] at ha
   rcases ha.one with e | ⟨k,e⟩
   ·rw [e]; exact ⟨h,t1,.inr ⟨l,d1⟩⟩
   ·rw [e]
    simp only [hnx,Int.toNat_natCast]
    exact hcr k
 ·rw [if_pos (by omega)]
  right
  refine ⟨g1,g2,g3,fun mask torn cut=>?_⟩
  have ha:=bat_after g4 g6 g5 t.blocks hf mask torn cut
  obtain ⟨t1,d1⟩:=d.keep t ha.len (ha.all t.blocks hf.fill) fun j hj=>ha.stays (hother j hj)
  exact ⟨h,t1,.inr ⟨l,d1⟩⟩
theorem com_cases{N:List (List UInt8)}(hu:Up m s [])(t:Top s h)(h0:h.used=0)(hm:Home s h P)(hb:Base s h)(hlow:h.seq+2<1000000)(hl:l.length≤1024)(hp:∀ p∈l,0≤p.1∧p.1<h.pages∧p.2.length=256)(hnd:(l.map Prod.fst).Nodup)
  (hroom:blocksN l.length≤h.room) (hN:N.length=h.pages) (hnew:∀ p∈l,N.getD p.1.toNat []=p.2) (hold:∀ i,i<h.pages→(∀ p∈l,p.1.toNat≠i)→P.getD i []=N.getD i []) :
  ((comN m h l).2=0∧(∃ s',Up (comN m h l).1 s' []∧Top s' (nextH (nextH h (blocksN l.length)) 0)∧Base s' (nextH (nextH h (blocksN l.length)) 0)∧Home s' (nextH (nextH h (blocksN l.length)) 0) N)∧(m.left = -1→(comN m h l).1.left = -1)) ∨
  ((comN m h l).2=11∧Lost m (comN m h l).1 fun s=>Recov s P∨Recov s N):=by
 have g:=t.geo
 have hg1:=g.fit
 have hg2:=g.room
 have hs0:0<s.length:=by omega
 have hpk:=packL_len l
 have hf:Fit s.length (jouW l):=⟨fun x hx=>by
  obtain ⟨i,hi,rfl⟩:=List.mem_map.1 hx
  rw [List.mem_range] at hi
  have:=getD_256 (packL_256 l fun p hp'=>(hp p hp').2.2) (i:=i) (by omega)
  exact ⟨by simp only; omega,by simp only; omega,by simp only; omega⟩⟩
 have hmem:∀ x∈fillW (jouW l),∃ i,i<blocksN l.length∧x.1.toNat=2+i∧x.2=(packL l).getD i []:=fun x hx=>by
  obtain ⟨y,hy,rfl⟩:=List.mem_map.1 hx
  obtain ⟨i,hi,rfl⟩:=List.mem_map.1 hy
  rw [List.mem_range] at hi
  have:=getD_256 (packL_256 l fun p hp'=>(hp p hp').2.2) (i:=i) (by omega)
  exact ⟨i,hi,by simp only [Int.toNat_natCast],fit256 this⟩
 have hother:∀ j,(j<2∨2+h.room≤j)→∀ x∈fillW (jouW l),x.1.toNat≠j:=fun j hj x hx=>by
  obtain ⟨i,hi,e1,_⟩:=hmem x hx
  omega
 have clean:∀ s',s'.length=s.length→(∀ x∈s',x.length=256)→(∀ j,(j<2∨2+h.room≤j)→s'.getD j []=s.getD j [])→Top s' h∧Base s' h∧Home s' h P:=fun s' e1 e2 e3=>by
  refine ⟨⟨e2,by rw [e1]; exact t.many,by rw [e1]; exact g,t.low,t.pos,by rw [e3 _ (by omega)]; exact t.here,by rw [e3 _ (by omega)]; exact t.there⟩,?_,hm.1,fun i hi=>by rw [e3 _ (by omega)]; exact hm.2 i hi⟩
  unfold Base
  rw [e3 _ (by omega)]; exact hb
 unfold comN
 rcases bat_cases hu hf hs0 with ⟨g1,g2,g3⟩ | ⟨g1,g2,g3,g4,b,r,g5,g6⟩
 ·rw [if_neg (by omega)]
  generalize (batN m (jouW l)).1=m1 at g2 g3 ⊢
  obtain ⟨t1,b1,m1'⟩:=clean (doneL s (fillW (jouW l))) (doneL_length _ _) (doneL_256 t.blocks fun x hx=>(hf.fill x hx).2.2) fun j hj=>done_stays (hother j hj)
  have j1:∀ i,i<blocksN l.length→(doneL s (fillW (jouW l))).getD (2+i) []=(packL l).getD i []:=fun i hi=>by
   have hnd1:((fillW (jouW l)).map fun x=>x.1.toNat).Nodup:=by
    unfold fillW jouW
    rw [List.map_map,List.map_map]
    refine List.pairwise_map.2 (List.nodup_range.imp fun {a b} hab=>?_)
    simp only [Function.comp_apply,Int.toNat_natCast]
    omega
   have h256:=getD_256 (packL_256 l fun p hp'=>(hp p hp').2.2) (i:=i) (by omega)
   have hx:(((2+i:Nat):Int),filledL ((packL l).getD i []))∈fillW (jouW l):=List.mem_map.2 ⟨_,List.mem_map.2 ⟨i,List.mem_range.2 hi,rfl⟩,rfl⟩
   have e1:=done_is (s:=s) hnd1 _ hx (by simp only [Int.toNat_natCast]; omega)
   simp only [Int.toNat_natCast] at e1
   rw [e1,fit256 h256]
  generalize doneL s (fillW (jouW l))=s1 at g2 t1 b1 m1' j1
  have g':=t1.geo
  have hs1:s1.length=s1.length:=rfl
  have hf1:=head_fit t1 (g:=nextH h (blocksN l.length)) rfl
  have h01:0<s1.length:=by have:=g'.fit; omega
  have hnx:(nextH h (blocksN l.length)).seq=h.seq+1:=rfl
  have hok:=nextH_ok t1 (u:=blocksN l.length) hroom
  have ho:(h.seq+1) % 2<s1.length:=by have:=g'.fit; omega
  have hne:(h.seq+1) % 2≠h.seq % 2:=by omega
  have hA:=headA_len (h:=nextH h (blocksN l.length))
  have hB:=getD_256 t1.blocks ho
  have e2:((nextH h (blocksN l.length)).seq+1) % 2=h.seq % 2:=by rw [hnx]; omega
  -- once the head is read
  have up1:∀ M:List UInt8,M.length=256→readHd M=some (nextH h (blocksN l.length))→Top (s1.set ((h.seq+1) % 2) M) (nextH h (blocksN l.length))∧Pend (s1.set ((h.seq+1) % 2) M) (nextH h (blocksN l.length)) N l:=fun M hM hr=>by
   have hh:(s1.set ((h.seq+1) % 2) M).getD (h.seq % 2) []=s1.getD (h.seq % 2) []:=getD_set_ne hne
   have hs:(s1.set ((h.seq+1) % 2) M).getD ((h.seq+1) % 2) []=M:=getD_set_eq ho
   have lo:∀ j,2≤j→(s1.set ((h.seq+1) % 2) M).getD j []=s1.getD j []:=fun j hj=>getD_set_ne (by omega)
   refine ⟨⟨set_256 t1.blocks hM,by rw [List.length_set]; exact t1.many,by rw [List.length_set]; exact ⟨g'.room,g'.pages,g'.few,hroom,g'.fit⟩,by rw [hnx]; omega,by rw [hnx]; omega,by rw [hnx,hs]; exact hr,fun h' hr'=>?_⟩,⟨⟨rfl,fun i hi=>by rw [lo _ (by omega)]; exact j1 i hi,hl,hp,hnd⟩,hN,hnew,fun i hi hn=>?_,by rw [hnx]; omega,?_⟩⟩
   ·rw [e2,hh,t1.here] at hr'
    simp only [Option.some.injEq] at hr'
    subst hr'
    rw [hnx]; omega
   ·show (s1.set ((h.seq+1) % 2) M).getD (2+h.room+i) []=_
    rw [lo _ (by omega),m1'.2 i hi]
    exact hold i hi hn
   ·have hB0:=getD_256 t1.blocks (i:=h.seq % 2) (by have:=g'.fit; omega)
    refine ⟨s1.getD (h.seq % 2) [],0,?_,hB0,.inr ⟨h,t1.here,by rw [hnx]; omega⟩⟩
    rw [e2,hh]
    unfold mixL
    rw [List.take_zero,List.drop_zero,List.nil_append]
  rw [putN_bat]
  rcases bat_cases g2 hf1 h01 with ⟨k1,k2,k3⟩ | ⟨k1,k2,k3,k4,b,r,k5,k6⟩
  ·rw [if_neg (by omega)]
   rw [fill_head] at k2
   have es:doneL s1 [((((nextH h (blocksN l.length)).seq % 2:Nat):Int),filledL (headL (nextH h (blocksN l.length))))]=s1.set ((h.seq+1) % 2) (filledL (headL (nextH h (blocksN l.length)))):=by
    unfold doneL
    rw [List.foldl_cons,List.foldl_nil,hnx,Int.toNat_natCast]
   rw [es] at k2
   obtain ⟨t2,d2⟩:=up1 _ hA (readHd_headL hok _)
   rcases fin_cases k2 t2 d2 with ⟨f1,f2,f3⟩ | ⟨f1,f2⟩
   ·exact .inl ⟨f1,f2,fun hl'=>f3 (k3 (g3 hl'))⟩
   ·exact .inr ⟨f1,fun hl'=>f2.lim (k3 (g3 hl')),f2.gone,fun mask torn cut=>.inr (f2.crash mask torn cut)⟩
  ·rw [if_pos (by omega)]
   right
   refine ⟨k1,fun hl'=>k2 (g3 hl'),k3,fun mask torn cut=>?_⟩
   have ha:=bat_after k4 k6 k5 t1.blocks hf1 mask torn cut
   rw [fill_head] at ha
   rcases ha.one with e | ⟨k,e⟩
   ·rw [e]; exact .inl ⟨h,t1,.inl ⟨h0,m1'⟩⟩
   ·rw [e]
    simp only [hnx,Int.toNat_natCast]
    have hM:=mixL_len (k:=k) hA hB
    have hrd:=mix_read hok hB b1 k
    generalize mixL (filledL (headL (nextH h (blocksN l.length)))) (s1.getD ((h.seq+1) % 2) []) k=M at hM hrd ⊢
    by_cases hn:readHd M=some (nextH h (blocksN l.length))
    ·obtain ⟨t2,d2⟩:=up1 M hM hn
     exact .inr ⟨_,t2,.inr ⟨l,d2⟩⟩
    ·have hh:(s1.set ((h.seq+1) % 2) M).getD (h.seq % 2) []=s1.getD (h.seq % 2) []:=getD_set_ne hne
     have hs:(s1.set ((h.seq+1) % 2) M).getD ((h.seq+1) % 2) []=M:=getD_set_eq ho
     refine .inl ⟨h,⟨set_256 t1.blocks hM,by rw [List.length_set]; exact t1.many,by rw [List.length_set]; exact g',t1.low,t1.pos,by rw [hh]; exact t1.here,fun h' hr=>?_⟩,.inl ⟨h0,m1'.1,fun i hi=>by rw [getD_set_ne (by omega)]; exact m1'.2 i hi⟩⟩
     rw [hs] at hr
     rcases hrd with r | r | r
     ·rw [r] at hr; cases hr
     ·exact absurd r hn
     ·rw [r] at hr; exact t1.there h' hr
 ·rw [if_pos (by omega)]
  right
  refine ⟨g1,g2,g3,fun mask torn cut=>?_⟩
  have ha:=bat_after g4 g6 g5 t.blocks hf mask torn cut
  obtain ⟨t1,_,m1⟩:=clean _ ha.len (ha.all t.blocks hf.fill) fun j hj=>ha.stays (hother j hj)
  exact .inl ⟨h,t1,.inl ⟨h0,m1⟩⟩
end
open Go Go.Ann Go.RowKit Go.WideShapes Go.Shelf
def headW(h:Hd)(e:Int)(h':Hd):Hd:=if e=0 then h' else h
section
variable {W0 w:World} {F:Nat→Prop} {L:List Res} {I:List Inv} {b mb g:Nat} {vb vl v:Value} {s:Sto} {l:List Pge}
theorem step_ok(u:Nat)(h:St W0 w F (StoL b mb g vb vl s++L) I)(ok:s.disk.ok)(hh:(nextH s.hd u).ok)(hless:s.disk.late.length<1000000)(hu:u≤1000000) :
  Ret Tryz.prog 158 [.pointer (some ⟨b,0,none⟩),.int .i64 u] w fun r w'=>r=.int .i64 (putN s.disk (nextH s.hd u)).2∧∃ vl',St W0 w' F (StoL b mb g vb vl' { s with disk:=(putN s.disk (nextH s.hd u)).1,hd:=headW s.hd (putN s.disk (nextH s.hd u)).2 (nextH s.hd u) }++L) I:=by
 refine ent158 _ _ _ _ ?_
 have r1:=h.rules 0 rfl
 simp (disch:=first|omega|exact zF rfl|exact zG rfl|exact fun h=>h|(simp only[zA,zB,zC,zD,bytesW];omega)) only[go_sem,r1]
 have hseq:=hh.seq
 have hsq:(nextH s.hd u).seq=s.hd.seq+1:=rfl
 have ew:IntKind.u64.wrap ((s.hd.seq:Int)+1)=((s.hd.seq+1:Nat):Int):=by rw [wrap_u64_id _ (by omega) (by omega)]; omega
 rw [ew]
 have s1:St W0 (w.alloc (.cells #[.int .u64 ((s.hd.seq+1:Nat):Int),.int .i64 u,.int .i64 s.hd.room,.int .i64 s.hd.pages] 160)) F (.blk w.heap.size (nextH s.hd u).enc.toArray 160::(StoL b mb g vb vl s++L)) I:=h.box (nextH s.hd u).enc.toArray 160
 generalize w.heap.size=y at s1 ⊢
 generalize w.alloc (.cells #[.int .u64 ((s.hd.seq+1:Nat):Int),.int .i64 u,.int .i64 s.hd.room,.int .i64 s.hd.pages] 160)=w1 at s1 ⊢
 refine c158draw0 (Same (fun k=>k=b) _) (Same.refl _ _) ?_
 have s2:=s1.drew
 have r2:=s2.rules 1 rfl
 have q2:=s2.rules 0 rfl
 have l2:=s2.low 0 rfl
 generalize w1.drew=w2 at s2 r2 q2 l2 ⊢
 simp (disch:=first|omega|exact zF rfl|exact zG rfl|exact fun h=>h|(simp only[zA,zB,zC,zD,bytesW];omega)) only[go_sem,c158D0,r2,q2,Hd.enc]
 have s3:St W0 w2 F (StoL b mb g vb vl s++([.blk y (nextH s.hd u).enc.toArray 160]++L)) I:=St.front (A:=[_]) (D:=StoL b mb g vb vl s) (L:=L) s2
 refine ⟨Same.refl _ _,Ret.mono (put_ok (nextH s.hd u) hh (sto_disk s3) ok hless) ?_⟩
 rintro _ w4 ⟨rfl,vl',s4⟩
 have s5:=disk_sto s4
 have r5:=s5.rules 0 rfl
 have q5:=(St.front (A:=StoL b mb g vb vl' _) (D:=[.blk y (nextH s.hd u).enc.toArray 160]) (L:=L) s5).rules 0 rfl
 generalize hpu:putN s.disk (nextH s.hd u)=pu at s4 s5 r5 ⊢
 obtain ⟨m',e⟩:=pu
 by_cases he:e=0
 ·subst he
  simp (disch:=first|omega|exact zF rfl|exact zG rfl|exact fun h=>h|(simp only[zA,zB,zC,zD,bytesW];omega)) only[go_sem,r5,q5,Hd.enc]
  have hB:=s5.blk 0 rfl
  refine ⟨by kernel_rfl,(nextH s.hd u).one,fun i hi=>?_,?_⟩
  ·have hi':i<4:=hi
   rw [Addr.add_lit,hB.cell,hB.frozen]
   exact ⟨⟨_,Array.getElem?_eq_getElem (show 1+i<7 by omega)⟩,rfl⟩
  ·have s6:=(((s5.set 0 rfl 1 (.int .u64 (nextH s.hd u).seq)).set 0 rfl 2 (.int .i64 (nextH s.hd u).used)).set 0 rfl 3 (.int .i64 (nextH s.hd u).room)).set 0 rfl 4 (.int .i64 (nextH s.hd u).pages)
   simp (disch:=first|omega|exact zF rfl|exact zG rfl|exact fun h=>h|(simp only[zA,zB,zC,zD,bytesW];omega)) only[go_sem]
   refine ⟨vl',?_⟩
   exact s6.sub (List.Sublist.append_left (List.sublist_cons_self _ _) _)
 ·simp (disch:=first|omega|exact zF rfl|exact zG rfl|exact fun h=>h|(simp only[zA,zB,zC,zD,bytesW];omega)) only[go_sem,he]
  refine ⟨vl',?_⟩
  unfold headW
  rw [if_neg he]
  exact s5.sub (List.Sublist.append_left (List.sublist_cons_self _ _) _)
theorem writeN_late(m:Dk)(i:Int)(d:List UInt8):(writeN m i d).1.late.length≤m.late.length+1:=by
 have hl:=useN_late m
 unfold writeN
 split
 ·exact Nat.le_succ _
 ·split
  ·exact Nat.le_succ _
  ·split
   ·simp only [List.length_append,List.length_singleton,hl.1]; omega
   ·rw [hl.1]; omega
theorem home_ok(h:St W0 w F (StoL b mb g vb vl s++L) (.rd 2 pendV v l::I))(ok:s.disk.ok)(hh:(nextH s.hd 0).ok)(hp:∀ p∈l,0≤p.1∧p.1<s.hd.pages∧p.2.length=256)(hl:l.length≤1024)(hg:s.hd.room≤2048∧s.hd.pages≤1024)(hless:s.disk.late.length<900000) :
  Ret Tryz.prog 111 [.pointer (some ⟨b,0,none⟩),v] w fun r w'=>r=.int .i64 (finN s.disk s.hd l).2∧∃ vl',St W0 w' F (StoL b mb g vb vl' { s with disk:=(finN s.disk s.hd l).1,hd:=headW s.hd (finN s.disk s.hd l).2 (nextH s.hd 0) }++L) (.rd 2 pendV v l::I):=by
 obtain ⟨a,c,rfl,hac⟩:=(h.rd 0 rfl).form
 obtain ⟨W,hW⟩:∃ W,W=homeW s.hd l:=⟨_,rfl⟩
 have hWl:W.length=l.length:=by rw [hW]; unfold homeW; rw [List.length_map]
 refine ent111 _ _ _ _ ?_
 simp (disch:=first|omega|exact zF rfl|exact zG rfl|exact fun h=>h|(simp only[zA,zB,zC,zD,bytesW];omega)) only[go_sem]
 refine W_loopU (fun q:Nat × Value × Dk=>[(11,.int .i64 q.1)]) (fun q w'=>q.1≤l.length∧wrsN s.disk W=wrsN q.2.2 (W.drop q.1)∧q.2.2.ok∧q.2.2.late.length≤s.disk.late.length+q.1∧St W0 w' F (StoL b mb g vb q.2.1 { s with disk:=q.2.2 }++L) (.rd 2 pendV (.slice a l.length c) l::I)) (fun q=>l.length - q.1) (0,vl,s.disk) rfl ⟨Nat.zero_le _,rfl,ok,Nat.le_refl _,h⟩ ?_
 rintro ⟨k,vl1,m1⟩ w1 ⟨hk,hw,ok1,hl1,s1⟩
 simp only at hk hw ok1 hl1 s1
 clear h
 have hR:=s1.rd 0 rfl
 by_cases hlt:k<l.length
 ·have hlt':(k:Int)<l.length:=by omega
  obtain ⟨q,rfl⟩:=hR.ptr (by omega)
  have eL:=hR.at pendV_len hlt
  obtain ⟨p0,p1,p2⟩:=hp _ (List.getElem_mem hlt)
  have hWk:W.drop k=(2+(s.hd.room:Int)+l[k].1,l[k].2)::W.drop (k+1):=by
   rw [List.drop_eq_getElem_cons (by omega)]
   congr 1
   simp [hW,homeW]
  rw [hWk,wrsN] at hw
  simp (disch:=first|omega|exact zF rfl|exact zG rfl|exact fun h=>h|(simp only[zA,zB,zC,zD,bytesW];omega)) only[go_sem,c111L0,c111L0,hlt',eL,pendV]
  have s2:=s1.box #[.int .i64 l[k].1,.string (ofL l[k].2)] 44
  generalize w1.heap.size=y at s2 ⊢
  generalize w1.alloc (.cells #[.int .i64 l[k].1,.string (ofL l[k].2)] 44)=w2 at s2 ⊢
  refine ⟨by omega,c111draw0 ?_⟩
  have s3:=s2.drew
  have r3:=s3.rules 1 rfl
  have q3:=s3.rules 0 rfl
  generalize w2.drew=w3 at s3 r3 q3 ⊢
  have c1:¬ (s.hd.pages:Int)≤l[k].1:=by omega
  simp (disch:=first|omega|exact zF rfl|exact zG rfl|exact fun h=>h|(simp only[zA,zB,zC,zD,bytesW];omega)) only[go_sem,c111L0,c111D0,r3,q3,c1]
  refine c111draw1 (Same (fun k=>k=b∨k=y) _) (Same.refl _ _) ?_
  have s4:=s3.drew
  have r4:=s4.rules 1 rfl
  have q4:=s4.rules 0 rfl
  have l4:=s4.low 0 rfl
  have l4b:=s4.low 1 rfl
  generalize w3.drew=w4 at s4 r4 q4 l4 l4b ⊢
  simp (disch:=first|omega|exact zF rfl|exact zG rfl|exact fun h=>h|(simp only[zA,zB,zC,zD,bytesW];omega)) only[go_sem,c111L0,c111D1,r4,q4]
  have s4':St W0 w4 F (StoL b mb g vb vl1 { s with disk:=m1 }++([.blk y #[.int .i64 l[k].1,.string (ofL l[k].2)] 44]++L)) (.rd 2 pendV (.slice (some q) l.length c) l::I):=St.front (A:=[_]) (D:=StoL b mb g vb vl1 { s with disk:=m1 }) (L:=L) s4
  refine ⟨by constructor <;> omega,by constructor <;> omega,Same.refl _ _,Ret.mono (write_ok (2+(s.hd.room:Int)+l[k].1) l[k].2 (sto_disk s4') ok1 (show m1.late.length<1000000 by omega)) ?_⟩
  rintro _ w5 ⟨rfl,vl5,s5⟩
  have hwl:=writeN_late m1 (2+(s.hd.room:Int)+l[k].1) l[k].2
  have hwok:=writeN_ok ok1 (by omega) (2+(s.hd.room:Int)+l[k].1) l[k].2
  have s6:=disk_sto s5
  have sm:Same (fun k=>k=b∨k=y) w4 w5:=fun j hj=>by
   rcases hj with rfl | rfl
   ·exact (s6.blk 0 rfl).trans (s4'.blk 0 rfl).symm
   ·exact ((St.front (A:=StoL b mb g vb vl5 _) (D:=[.blk j #[.int .i64 l[k].1,.string (ofL l[k].2)] 44]) (L:=L) s6).blk 0 rfl).trans (s4.blk 0 rfl).symm
  have s7:=s6.sub (L':=StoL b mb g vb vl5 { s with disk:=(writeN m1 (2+(s.hd.room:Int)+l[k].1) l[k].2).1 }++L) (List.Sublist.append_left (List.sublist_cons_self _ _) _)
  generalize writeN m1 (2+(s.hd.room:Int)+l[k].1) l[k].2=we at hw s7 hwl hwok ⊢
  obtain ⟨m2,e⟩:=we
  simp only at hw s7 hwl hwok
  by_cases he:e=0
  ·subst he
   rw [if_neg (by simp)] at hw
   simp (disch:=first|omega|exact zF rfl|exact zG rfl|exact fun h=>h|(simp only[zA,zB,zC,zD,bytesW];omega)) only[go_sem,c111L0]
   exact ⟨sm,by constructor <;> omega,(k+1,vl5,m2),rfl,⟨by omega,hw,hwok,by simp only; omega,s7⟩,by simp only; omega⟩
  ·rw [if_pos (by simpa using he)] at hw
   have hbat:batN s.disk W=(m2,e):=by
    unfold batN
    rw [hw,if_pos (by simpa using he)]
   have hfin:finN s.disk s.hd l=(m2,e):=by
    unfold finN
    rw [← hW,hbat,if_pos (by simpa using he)]
   rw [hfin]
   simp (disch:=first|omega|exact zF rfl|exact zG rfl|exact fun h=>h|(simp only[zA,zB,zC,zD,bytesW];omega)) only[go_sem,c111L0,he]
   refine ⟨sm,vl5,?_⟩
   unfold headW
   rw [if_neg he]
   exact s7
 ·have hlt':¬ (k:Int)<l.length:=by omega
  obtain rfl:k=l.length:=by omega
  rw [List.drop_of_length_le (by omega),wrsN] at hw
  have r1:=s1.rules 0 rfl
  simp (disch:=first|omega|exact zF rfl|exact zG rfl|exact fun h=>h|(simp only[zA,zB,zC,zD,bytesW];omega)) only[go_sem,c111L0,c111L0,hlt',r1]
  refine Ret.mono (flush_ok (sto_disk s1) ok1) ?_
  rintro _ w2 ⟨rfl,vl2,s2⟩
  have ok2:=flushN_ok ok1
  have s3:=disk_sto s2
  have hfin:finN s.disk s.hd l=if (flushN m1).2≠0 then flushN m1 else putN (flushN m1).1 (nextH s.hd 0):=by
   have hbat:batN s.disk W=flushN m1:=by
    unfold batN
    rw [hw,if_neg (by simp)]
   unfold finN
   rw [← hW,hbat]
  rw [hfin]
  by_cases he:(flushN m1).2=0
  ·rw [if_neg (by omega)]
   simp (disch:=first|omega|exact zF rfl|exact zG rfl|exact fun h=>h|(simp only[zA,zB,zC,zD,bytesW];omega)) only[go_sem,c111L0,he]
   have hlate:(flushN m1).1.late.length<1000000:=by
    have:(flushN m1).1.late.length≤m1.late.length:=by
     unfold flushN
     have:=useN_late m1
     split
     ·exact Nat.le_refl _
     ·split
      ·rw [this.1]; exact Nat.le_refl _
      ·simp
    omega
   refine Ret.mono (step_ok 0 s3 ok2 hh hlate (by decide)) ?_
   rintro _ w4 ⟨rfl,vl4,s4⟩
   simp (disch:=first|omega|exact zF rfl|exact zG rfl|exact fun h=>h|(simp only[zA,zB,zC,zD,bytesW];omega)) only[go_sem,c111L0]
   exact ⟨vl4,s4⟩
  ·rw [if_pos he]
   simp (disch:=first|omega|exact zF rfl|exact zG rfl|exact fun h=>h|(simp only[zA,zB,zC,zD,bytesW];omega)) only[go_sem,c111L0,he]
   refine ⟨vl2,?_⟩
   unfold headW
   rw [if_neg he]
   exact s3
end
open Go Go.Ann Go.RowKit Go.WideShapes Go.Shelf
theorem flushN_late(m:Dk):(flushN m).1.late.length≤m.late.length:=by
 unfold flushN
 have:=useN_late m
 split
 ·exact Nat.le_refl _
 ·split
  ·rw [this.1]; exact Nat.le_refl _
  ·simp
theorem putN_late(m:Dk)(h:Hd):(putN m h).1.late.length≤m.late.length+1:=by
 have h1:=writeN_late m ((h.seq % 2:Nat):Int) (headL h)
 have h2:=flushN_late (writeN m ((h.seq % 2:Nat):Int) (headL h)).1
 unfold putN
 split
 ·exact h1
 ·omega
section
variable {W0 w:World} {F:Nat→Prop} {L:List Res} {I:List Inv} {b mb g:Nat} {vb vl v:Value} {s:Sto} {l:List Pge}
theorem putN_ok{m:Dk}{h:Hd}(ok:m.ok)(hless:m.late.length<1000000):(putN m h).1.ok:=by
 have h1:=writeN_ok ok hless ((h.seq % 2:Nat):Int) (headL h)
 unfold putN
 split
 ·exact h1
 ·exact flushN_ok h1
theorem commit_ok(h:St W0 w F (StoL b mb g vb vl s++L) (.rd 2 pendV v l::I))(ok:s.disk.ok)(hseq:s.hd.seq+2<1000000)(hp:∀ p∈l,0≤p.1∧p.1<s.hd.pages∧p.2.length=256)(hl:l.length≤1024)(hg:s.hd.room≤2048∧s.hd.pages≤1024)(hroom:blocksN l.length≤s.hd.room)(hless:s.disk.late.length<800000) :
  Ret Tryz.prog 181 [.pointer (some ⟨b,0,none⟩),v] w fun r w'=>r=.int .i64 (comN s.disk s.hd l).2∧∃ vl' hd',((comN s.disk s.hd l).2=0→hd'=nextH (nextH s.hd (blocksN l.length)) 0)∧St W0 w' F (StoL b mb g vb vl' { s with disk:=(comN s.disk s.hd l).1,hd:=hd' }++L) I:=by
 obtain ⟨W,hW⟩:∃ W,W=jouW l:=⟨_,rfl⟩
 have hpl:=packL_len l
 have hWl:W.length=(packL l).length:=by rw [hW]; unfold jouW; rw [List.length_map,List.length_range,hpl]
 have hbk:blocksN l.length≤2048:=by omega
 have p256:=packL_256 l fun p hp'=>(hp p hp').2.2
 refine ent181 _ _ _ _ ?_
 simp (disch:=first|omega|exact zF rfl|exact zG rfl|exact fun h=>h|(simp only[zA,zB,zC,zD,bytesW];omega)) only[go_sem]
 refine Ret.mono (pack_ok h hl fun p hp'=>by have:=hp p hp'; exact ⟨this.1,by omega,this.2.2⟩) ?_
 rintro _ w1 ⟨vo,rfl,s1⟩
 have s1:St W0 w1 F (StoL b mb g vb vl s++(.row vo 9 1 (packL l).length ((packL l).flatMap strE)::L)) (.rd 2 pendV v l::I):=St.front (A:=[_]) (D:=StoL b mb g vb vl s) (L:=L) s1
 clear h
 obtain ⟨a,c,rfl,hac⟩:=own_slice (s1.row 5 rfl)
 simp (disch:=first|omega|exact zF rfl|exact zG rfl|exact fun h=>h|(simp only[zA,zB,zC,zD,bytesW];omega)) only[go_sem]
 refine W_loopU (fun q:Nat × Value × Dk=>[(22,.int .i64 q.1)]) (fun q w'=>q.1≤(packL l).length∧wrsN s.disk W=wrsN q.2.2 (W.drop q.1)∧q.2.2.ok∧q.2.2.late.length≤s.disk.late.length+q.1∧St W0 w' F (StoL b mb g vb q.2.1 { s with disk:=q.2.2 }++(.row (.slice a (packL l).length c) 9 1 (packL l).length ((packL l).flatMap strE)::L)) (.rd 2 pendV v l::I)) (fun q=>(packL l).length - q.1) (0,vl,s.disk) rfl ⟨Nat.zero_le _,rfl,ok,Nat.le_refl _,s1⟩ ?_
 rintro ⟨k,vl1,m1⟩ w2 ⟨hk,hw,ok1,hl1,s2⟩
 simp only at hk hw ok1 hl1 s2
 clear s1
 have r2:=s2.rules 0 rfl
 by_cases hlt:k<(packL l).length
 ·have hlt':(k:Int)<(packL l).length:=by omega
  have hR:RdS w2 1 strE (.slice a (packL l).length c) (packL l):=RdS.of_own' (s2.row 5 rfl) _ rfl rfl
  obtain ⟨q,rfl⟩:=hR.ptr (by omega)
  have eL:=RdS.at1 (e1:=fun s=>.string (ofL s)) hR hlt
  have hWk:W.drop k=(((2+k:Nat):Int),(packL l)[k])::W.drop (k+1):=by
   rw [List.drop_eq_getElem_cons (by omega)]
   congr 1
   simp only [hW,jouW,List.getElem_map,List.getElem_range]
   rw [List.getD_eq_getElem?_getD,List.getElem?_eq_getElem hlt]; rfl
  rw [hWk,wrsN] at hw
  simp (disch:=first|omega|exact zF rfl|exact zG rfl|exact fun h=>h|(simp only[zA,zB,zC,zD,bytesW];omega)) only[go_sem,c181L0,c181L0,hlt',eL,r2]
  have e2k:((2+k:Nat):Int)=2+(k:Int):=by omega
  rw [e2k] at hw
  refine ⟨by omega,by constructor <;> omega,Ret.mono (write_ok (2+(k:Int)) (packL l)[k] (sto_disk s2) ok1 (show m1.late.length<1000000 by omega)) ?_⟩
  rintro _ w5 ⟨rfl,vl5,s5⟩
  have hwl:=writeN_late m1 (2+(k:Int)) (packL l)[k]
  have hwok:=writeN_ok ok1 (by omega) (2+(k:Int)) (packL l)[k]
  have s6:=disk_sto s5
  generalize writeN m1 (2+(k:Int)) (packL l)[k]=we at hw s6 hwl hwok ⊢
  obtain ⟨m2,e⟩:=we
  simp only at hw s6 hwl hwok
  by_cases he:e=0
  ·subst he
   rw [if_neg (by simp)] at hw
   simp (disch:=first|omega|exact zF rfl|exact zG rfl|exact fun h=>h|(simp only[zA,zB,zC,zD,bytesW];omega)) only[go_sem,c181L0]
   exact ⟨by constructor <;> omega,(k+1,vl5,m2),rfl,⟨by omega,hw,hwok,by simp only; omega,s6⟩,by simp only; omega⟩
  ·rw [if_pos (by simpa using he)] at hw
   have hbat:batN s.disk W=(m2,e):=by
    unfold batN
    rw [hw,if_pos (by simpa using he)]
   have hcom:comN s.disk s.hd l=(m2,e):=by
    unfold comN
    rw [← hW,hbat,if_pos (by simpa using he)]
   rw [hcom]
   simp (disch:=first|omega|exact zF rfl|exact zG rfl|exact fun h=>h|(simp only[zA,zB,zC,zD,bytesW];omega)) only[go_sem,c181L0,he]
   exact ⟨vl5,s.hd,(s6.sub (List.Sublist.append_left (List.sublist_cons_self _ _) _)).inv_sub fun a ha=>List.mem_cons_of_mem _ ha⟩
 ·have hlt':¬ (k:Int)<(packL l).length:=by omega
  obtain rfl:k=(packL l).length:=by omega
  rw [List.drop_of_length_le (by omega),wrsN] at hw
  have hbat:batN s.disk W=flushN m1:=by
   unfold batN
   rw [hw,if_neg (by simp)]
  simp (disch:=first|omega|exact zF rfl|exact zG rfl|exact fun h=>h|(simp only[zA,zB,zC,zD,bytesW];omega)) only[go_sem,c181L0,c181L0,hlt',r2]
  refine Ret.mono (flush_ok (sto_disk s2) ok1) ?_
  rintro _ w3 ⟨rfl,vl3,s3⟩
  have ok3:=flushN_ok ok1
  have s4:=disk_sto s3
  have hfl:=flushN_late m1
  by_cases he:(flushN m1).2=0
  case neg =>
   have hcom:comN s.disk s.hd l=flushN m1:=by
    unfold comN
    rw [← hW,hbat,if_pos he]
   rw [hcom]
   simp (disch:=first|omega|exact zF rfl|exact zG rfl|exact fun h=>h|(simp only[zA,zB,zC,zD,bytesW];omega)) only[go_sem,c181L0,he]
   exact ⟨vl3,s.hd,(s4.sub (List.Sublist.append_left (List.sublist_cons_self _ _) _)).inv_sub fun a ha=>List.mem_cons_of_mem _ ha⟩
  have hcom:comN s.disk s.hd l=if (putN (flushN m1).1 (nextH s.hd (blocksN l.length))).2≠0 then putN (flushN m1).1 (nextH s.hd (blocksN l.length)) else finN (putN (flushN m1).1 (nextH s.hd (blocksN l.length))).1 (nextH s.hd (blocksN l.length)) l:=by
   unfold comN
   rw [← hW,hbat,if_neg (by omega)]
  rw [hcom]
  generalize flushN m1=fm at s4 ok3 hfl he hcom ⊢
  obtain ⟨m3,e3⟩:=fm
  simp only at he s4 ok3 hfl
  subst he
  simp (disch:=first|omega|exact zF rfl|exact zG rfl|exact fun h=>h|(simp only[zA,zB,zC,zD,bytesW];omega)) only[go_sem,c181L0]
  rw [hpl]
  have hh1:(nextH s.hd (blocksN l.length)).ok:=⟨by show s.hd.seq+1<_; omega,by show blocksN l.length<_; omega,by show s.hd.room<_; omega,by show s.hd.pages<_; omega⟩
  have hh2:(nextH (nextH s.hd (blocksN l.length)) 0).ok:=⟨by show s.hd.seq+1+1<_; omega,by show 0<_; omega,by show s.hd.room<_; omega,by show s.hd.pages<_; omega⟩
  refine Ret.mono (step_ok (blocksN l.length) s4 ok3 hh1 (show m3.late.length<1000000 by omega) (by omega)) ?_
  rintro _ w5 ⟨rfl,vl5,s5⟩
  have hpla:=putN_late m3 (nextH s.hd (blocksN l.length))
  have hpok:=putN_ok (h:=nextH s.hd (blocksN l.length)) ok3 (by omega)
  simp only at s5
  generalize putN m3 (nextH s.hd (blocksN l.length))=pm at s5 hpla hpok ⊢
  obtain ⟨m4,e4⟩:=pm
  simp only at hpla hpok s5
  by_cases he4:e4=0
  case neg =>
   rw [if_pos (by simpa using he4)]
   simp (disch:=first|omega|exact zF rfl|exact zG rfl|exact fun h=>h|(simp only[zA,zB,zC,zD,bytesW];omega)) only[go_sem,c181L0,he4]
   refine ⟨vl5,_,(s5.sub (List.Sublist.append_left (List.sublist_cons_self _ _) _)).inv_sub fun a ha=>List.mem_cons_of_mem _ ha⟩
  subst he4
  rw [if_neg (by simp)]
  rw [show headW s.hd 0 (nextH s.hd (blocksN l.length))=nextH s.hd (blocksN l.length) from rfl] at s5
  simp (disch:=first|omega|exact zF rfl|exact zG rfl|exact fun h=>h|(simp only[zA,zB,zC,zD,bytesW];omega)) only[go_sem,c181L0]
  refine Ret.mono (home_ok s5 hpok hh2 hp hl hg (show m4.late.length<900000 by omega)) ?_
  rintro _ w6 ⟨rfl,vl6,s6⟩
  simp (disch:=first|omega|exact zF rfl|exact zG rfl|exact fun h=>h|(simp only[zA,zB,zC,zD,bytesW];omega)) only[go_sem,c181L0]
  exact ⟨vl6,_,fun h=>by unfold headW; rw [if_pos h],(s6.sub (List.Sublist.append_left (List.sublist_cons_self _ _) _)).inv_sub fun a ha=>List.mem_cons_of_mem _ ha⟩
end
open Go Go.Ann Go.RowKit Go.WideShapes Go.Shelf
def Gr(w w':World):Prop:=∃ q os,w'=Go.Sort.grow (w.drewN q) os
theorem Gr.refl(w:World):Gr w w:=⟨0,#[],by rw [Go.Sort.grow_empty]; rfl⟩
theorem Gr.alloc{w w':World}(h:Gr w w')(o:Obj):Gr w (w'.alloc o):=by
 obtain ⟨q,os,rfl⟩:=h
 exact ⟨q,os++#[o],by rw [Go.Sort.alloc_eq_grow,Go.Sort.grow_grow]⟩
theorem Gr.drew{w w':World}(h:Gr w w'):Gr w w'.drew:=by
 obtain ⟨q,os,rfl⟩:=h
 exact ⟨q+1,os,rfl⟩
theorem Gr.trans{a b c:World}(h:Gr a b)(k:Gr b c):Gr a c:=by
 obtain ⟨q,os,rfl⟩:=h
 obtain ⟨r,ps,rfl⟩:=k
 exact ⟨q+r,os++ps,by rw [← Go.Sort.grow_grow]; show Go.Sort.grow (Go.Sort.grow ((a.drewN q).drewN r) os) ps=_; rw [World.drewN_drewN]⟩
theorem Gr.below{w w':World}(h:Gr w w'):Below w.heap.size w w':=by
 obtain ⟨q,os,rfl⟩:=h
 refine ⟨rfl,rfl,rfl,?_,fun k hk=>?_⟩
 ·show w.heap.size≤(w.heap++os).size
  rw [Array.size_append]; omega
 ·show (w.heap++os)[k]?=_
  rw [Array.getElem?_append_left hk]
def cmpI(a b:Int):Int:=if a<b then -1 else if b<a then 1 else 0
def pageI(a b:Pge):Int:=cmpI a.1 b.1
theorem isNaN_ok(a:Int)(w:World):Ret Tryz.prog 197 [.int .i64 a] w fun u w'=>u=.bool false∧w'=w:=by
 refine ent197 _ _ _ ?_
 simp (disch:=first|omega|exact zF rfl|exact zG rfl|exact fun h=>h|(simp only[zA,zB,zC,zD,bytesW];omega)) only[go_sem]
theorem compare_ok(a b:Int)(w:World):Ret Tryz.prog 180 [.int .i64 a,.int .i64 b] w fun u w'=>u=.int .i64 (cmpI a b)∧w'=w:=by
 refine ent180 _ _ _ _ ?_
 simp (disch:=first|omega|exact zF rfl|exact zG rfl|exact fun h=>h|(simp only[zA,zB,zC,zD,bytesW];omega)) only[go_sem]
 refine Ret.mono (isNaN_ok _ _) ?_
 rintro _ _ ⟨rfl,rfl⟩
 simp (disch:=first|omega|exact zF rfl|exact zG rfl|exact fun h=>h|(simp only[zA,zB,zC,zD,bytesW];omega)) only[go_sem]
 refine Ret.mono (isNaN_ok _ _) ?_
 rintro _ _ ⟨rfl,rfl⟩
 simp (disch:=first|omega|exact zF rfl|exact zG rfl|exact fun h=>h|(simp only[zA,zB,zC,zD,bytesW];omega)) only[go_sem]
 unfold cmpI
 refine ⟨fun h=>by rw [if_pos h],fun h=>⟨fun h2=>by rw [if_neg (by omega),if_pos h2],fun h2=>by rw [if_neg (by omega),if_neg (by omega)]⟩⟩
theorem page1_ok(a b:Pge)(w:World):Ret Tryz.prog 179 [.agg (pendV a).toArray,.agg (pendV b).toArray] w fun u w'=>u=.int .i64 (pageI a b)∧Gr w w':=by
 refine ent179 _ _ _ _ ?_
 simp (disch:=first|omega|exact zF rfl|exact zG rfl|exact fun h=>h|(simp only[zA,zB,zC,zD,bytesW];omega)) only[go_sem,pendV]
 refine Ret.mono (compare_ok _ _ _) ?_
 rintro _ _ ⟨rfl,rfl⟩
 simp (disch:=first|omega|exact zF rfl|exact zG rfl|exact fun h=>h|(simp only[zA,zB,zC,zD,bytesW];omega)) only[go_sem]
 exact ⟨rfl,((Gr.refl w).alloc _).alloc _⟩
theorem pend_one(x:Pge):∀ u∈pendV x,u.oneCell'=true:=by simpa using pendV_ones [x]
theorem flatK_eq{α:Type}[Inhabited α]{enc:α→List Value}{k:Nat}(hk:∀ x,(enc x).length=k)(d:Array α):(Go.Sort.flatK enc k d).toList=d.toList.flatMap enc:=by
 have hl:(d.toList.flatMap enc).length=d.size * k:=by
  rw [List.length_flatMap,← Array.length_toList]
  generalize d.toList=l
  induction l with
  | nil=>simp
  | cons a l ih=>rw [List.map_cons,List.sum_cons,ih,hk,List.length_cons,Nat.add_mul]; omega
 refine List.ext_getElem (by rw [hl,Array.length_toList,Go.Sort.size_flatK]) fun t h1 h2=>?_
 have ht:t<d.size * k:=by omega
 have hk0:0<k:=Nat.pos_of_ne_zero fun h=>by subst h; omega
 have hi:t / k<d.size:=(Nat.div_lt_iff_lt_mul hk0).2 ht
 have hj:t % k<k:=Nat.mod_lt _ hk0
 have a:=Go.Sort.get_flatK enc k d t ht
 rw [getElem!_pos d _ hi,getElem!_pos (enc _) _ (by rw [hk]; exact hj),getElem!_pos _ _ (by rw [Go.Sort.size_flatK]; exact ht)] at a
 rw [Array.getElem_toList,a]
 have b:=flatten_at (sz:=k) (d.toList.map enc) (t / k) (t % k) (enc d[t / k]) ((enc d[t / k])[t % k]'(by rw [hk]; exact hj)) (fun c hc=>by obtain ⟨x,_,rfl⟩:=List.mem_map.1 hc; exact hk x) (by rw [List.getElem?_map,List.getElem?_eq_getElem (by simpa using hi)]; rfl) (List.getElem?_eq_getElem _)
 rw [show t / k * k+t % k=t by rw [Nat.mul_comm]; exact Nat.div_add_mod t k] at b
 have c:(d.toList.flatMap enc)[t]?=some ((enc d[t / k])[t % k]'(by rw [hk]; exact hj)):=b
 rw [List.getElem?_eq_getElem h2] at c
 exact (Option.some.inj c).symm
theorem own_holdsK{α:Type}[Inhabited α]{enc:α→List Value}{k B e g n cap:Nat}{w:World}{d:Array α}(hk:∀ x,(enc x).length=k)(hd:d.size=n)(h:w.ownsRow B e k (.slice (some ⟨g,0,none⟩) n cap) n (d.toList.flatMap enc)) :
  Go.Sort.HoldsK enc k w g 0 d:=by
 obtain ⟨hl,⟨h0,_⟩ | ⟨g',cap',cur,he,hB,hb,hc,hm,hs,hx⟩⟩:=h
 ·cases h0
 cases he
 have hblk:Blk w g cur e:=hb
 intro j hj
 rw [Go.Sort.size_flatK] at hj
 have hj':j<(Go.Sort.flatK enc k d).size:=by rw [Go.Sort.size_flatK]; exact hj
 refine ⟨?_,hblk.frozen _⟩
 rw [hblk.cell,Nat.zero_add,getElem!_pos (Go.Sort.flatK enc k d) j hj']
 have e1:=flatK_eq hk d
 rw [← hx] at e1
 have e2:(Go.Sort.flatK enc k d).toList[j]?=(cur.toList.take (n * k))[j]?:=by rw [e1]
 rw [List.getElem?_take_of_lt (by rw [← hd]; exact hj),Array.getElem?_toList,Array.getElem?_toList,Array.getElem?_eq_getElem hj'] at e2
 exact e2.symm
theorem own_sorted{α:Type}[Inhabited α]{enc:α→List Value}{k B e g n cap:Nat}{w:World}{d:Array α}(hk:∀ x,(enc x).length=k)(hd:d.size=n)(h:w.ownsRow B e k (.slice (some ⟨g,0,none⟩) n cap) n (d.toList.flatMap enc))
  (m:Nat) (d':Array α) (os:Array Obj) (hd':d'.size=n):(sortWorldK enc k w g 0 m d' os).ownsRow B e k (.slice (some ⟨g,0,none⟩) n cap) n (d'.toList.flatMap enc)∧Chg (fun k=>k=g) w (sortWorldK enc k w g 0 m d' os):=by
 obtain ⟨hl,⟨h0,_⟩ | ⟨g',cap',cur,he,hB,hb,hc,hm,hs,hx⟩⟩:=h
 ·cases h0
 cases he
 have hg:g<w.heap.size:=(Array.getElem?_eq_some_iff.1 hb).1
 have hh:(sortWorldK enc k w g 0 m d' os).heap=w.heap.modify g (Go.Sort.onCells (Go.Sort.putCells id 0 (Go.Sort.flatK enc k d')))++os:=rfl
 have hgb:(sortWorldK enc k w g 0 m d' os).heap[g]?=some (.cells (Go.Sort.putCells id 0 (Go.Sort.flatK enc k d') cur) e (0,0)):=by
  rw [hh,Array.getElem?_append_left (by rw [Array.size_modify]; exact hg),Array.getElem?_modify,if_pos rfl,hb]
  rfl
 have e1:=flatK_eq hk d'
 have hle:n * k≤cap * k:=Nat.mul_le_mul_right _ hc
 refine ⟨⟨by rw [← e1,Array.length_toList,Go.Sort.size_flatK,hd'],.inr ⟨g,cap,_,rfl,hB,hgb,hc,hm,by unfold Go.Sort.putCells; rw [Array.size_mapIdx]; exact hs,?_⟩⟩,rfl,rfl,rfl,?_,fun j hj hne=>?_⟩
 ·rw [← e1]
  refine List.ext_getElem (by simp only [Go.Sort.putCells,List.length_take,Array.length_toList,Array.size_mapIdx,Go.Sort.size_flatK,hs,hd']; omega) fun t h1 h2=>?_
  rw [Array.length_toList,Go.Sort.size_flatK,hd'] at h2
  rw [List.getElem_take,Array.getElem_toList,Array.getElem_toList]
  unfold Go.Sort.putCells
  rw [Array.getElem_mapIdx,if_pos ⟨Nat.zero_le _,by rw [Go.Sort.size_flatK,hd']; omega⟩,Nat.sub_zero,getElem!_pos (Go.Sort.flatK enc k d') t (by rw [Go.Sort.size_flatK,hd']; exact h2)]
  rfl
 ·rw [hh,Array.size_append,Array.size_modify]; omega
 ·rw [hh,Array.getElem?_append_left (by rw [Array.size_modify]; exact hj),Array.getElem?_modify,if_neg (fun e=>hne e.symm)]
def Sorts(cf:Pge→Pge→Int)(l l':List Pge):Prop:=l'.Perm l∧l'.Pairwise fun a b=>¬ cf b a<0
theorem sort_ok(cf:Pge→Pge→Int)(g:Nat)(eg:∀ args w,(callFunc g args).run Tryz.prog w=.ok (.enter g args) w)(hO:Go.Sort.SWO (ltOf cf))(hf:∀ a b w,Ret Tryz.prog g [.agg (pendV a).toArray,.agg (pendV b).toArray] w fun u w'=>u=.int .i64 (cf a b)∧Gr w w')
  (v:Value) (l:List Pge) (w:World) (B:Nat) (h:w.ownsRow B 44 2 v l.length (l.flatMap pendV)) (hl:l.length≤2048) (hl0:0<l.length) :
  Ret Tryz.prog 178 [v,.func (.func g) #[] #[]] w fun _ w'=>∃ l',Sorts cf l l'∧w'.ownsRow B 44 2 v l.length (l'.flatMap pendV)∧Chg (fun k=>v.ownBlock=some k) w w':=by
 obtain ⟨hlen,⟨rfl,h0⟩ | ⟨g',cap,cur,rfl,hB,hb,hc,hm,hs,hx⟩⟩:=id h
 ·omega
 have hcl:CmpLays Tryz.prog g #[] pendV 2 cf g' 0 l.toArray.size w:=fun m os dk hdk x y=>by
  have e:=hf x y (sortWorldK pendV 2 w g' 0 m dk os)
  unfold Ret at e
  rw [Array.append_empty]
  exact e.mono fun e w' ⟨u,h1,h2,h3⟩=>⟨by rw [h1,h2],h3⟩
 have hH:Go.Sort.HoldsK pendV 2 w g' 0 l.toArray:=own_holdsK pendV_len (by simp) h
 have hs:=AnyQ.slices_SortFunc laySortPages 2 Tryz.isAgg44 Tryz.sizeOf44 pendV pendV_len pend_one cf hO g #[] g' 0 cap l.toArray w eg hcl hH (Array.getElem?_eq_some_iff.1 hb).1 (by simp; omega)
 refine hs.mono ?_
 rintro e w' ⟨rfl,d',n,os,hp,hs,rfl⟩
 have hsz:d'.size=l.length:=hp.1
 obtain ⟨o1,o2⟩:=own_sorted pendV_len (by simp) (show w.ownsRow B 44 2 (.slice (some ⟨g',0,none⟩) l.length cap) l.length (l.toArray.toList.flatMap pendV) from h) n d' os hsz
 refine ⟨_,rfl,d'.toList,⟨?_,?_⟩,o1,o2.mono fun k _ e=>by rw [e]; rfl⟩
 ·have:=hp.2.2
  simp only [List.size_toArray] at this
  rw [Array.extract_eq_self_of_le (by omega),Array.extract_eq_self_of_le (by simp)] at this
  exact this
 ·rw [List.pairwise_iff_getElem]
  intro i j hi hj hij
  have:=hs i j (Nat.zero_le _) hij (by simpa [hsz] using hj)
  rw [getElem!_pos d' i (by simpa using hi),getElem!_pos d' j (by simpa using hj)] at this
  simpa [ltOf] using this
theorem lt_page(a b:Pge):ltOf pageI a b=decide (a.1<b.1):=by
 unfold ltOf pageI cmpI
 congr 1
 split
 ·rename_i h; simp [h]
 ·split <;> simp_all
theorem swo_page:Go.Sort.SWO (ltOf pageI) where
 irrefl:=by intro a; rw [lt_page]; simp
 trans:=by intro a b c; simp only [lt_page,decide_eq_true_eq]; omega
 ntrans:=by intro a b c; simp only [lt_page,decide_eq_false_iff_not]; omega
open Go Go.Ann Go.RowKit Go.WideShapes Go.Shelf
def dirtyL(s:Sto):List Pge:=s.dirty.map fun x=>(x.1,x.2.1)
theorem left_in{d:List (Int × List UInt8 × Nat)}{D:List (Int × List UInt8 × Nat)}{e:MapEntry}(h:e∈(leftOf (d.map (entG intK strK)).toArray (D.map fun x=>x.2.2).toArray).toList):∃ x∈d,e=entG intK strK x∧x.2.2 ∉ D.map fun x=>x.2.2:=by
 unfold leftOf at h
 rw [Array.toList_filter,List.mem_filter] at h
 obtain ⟨h1,h2⟩:=h
 obtain ⟨x,hx,rfl⟩:=List.mem_map.1 h1
 refine ⟨x,hx,rfl,?_⟩
 simpa [entG] using h2
theorem left_none{d:List (Int × List UInt8 × Nat)}{D:List (Int × List UInt8 × Nat)}(h:(leftOf (d.map (entG intK strK)).toArray (D.map fun x=>x.2.2).toArray).size=0):∀ x∈d,x.2.2∈D.map fun x=>x.2.2:=by
 intro x hx
 unfold leftOf at h
 rw [← Array.length_toList,Array.toList_filter,List.length_eq_zero_iff,List.filter_eq_nil_iff] at h
 have:=h (entG intK strK x) (List.mem_map_of_mem hx)
 simpa [entG] using this
theorem all_perm{d D:List (Int × List UInt8 × Nat)}(hb:(d.map fun x=>x.2.2).Nodup)(hD:(D.map fun x=>x.2.2).Nodup)(hs:∀ x∈D,x∈d)(ha:∀ x∈d,x.2.2∈D.map fun x=>x.2.2):D.Perm d:=by
 have inj:∀ x∈d,∀ y∈d,x.2.2=y.2.2→x=y:=fun x hx y hy e=>by
  obtain ⟨i,hi,rfl⟩:=List.mem_iff_getElem.1 hx
  obtain ⟨j,hj,rfl⟩:=List.mem_iff_getElem.1 hy
  have hp:=List.pairwise_iff_getElem.1 hb
  rcases Nat.lt_trichotomy i j with h | h | h
  ·exact absurd (by rw [List.getElem_map,List.getElem_map]; exact e) (hp i j (by simpa using hi) (by simpa using hj) h)
  ·subst h; rfl
  ·exact absurd (by rw [List.getElem_map,List.getElem_map]; exact e.symm) (hp j i (by simpa using hj) (by simpa using hi) h)
 have nd:∀ l:List (Int × List UInt8 × Nat),(l.map fun x=>x.2.2).Nodup→l.Nodup:=fun l h=>by
  unfold List.Nodup at h ⊢
  rw [List.pairwise_map] at h
  exact h.imp fun h e=>h (by rw [e])
 refine (List.perm_ext_iff_of_nodup (nd D hD) (nd d hb)).2 fun x=>⟨hs x,fun hx=>?_⟩
 obtain ⟨y,hy,e⟩:=List.mem_map.1 (ha x hx)
 have:=inj y (hs y hy) x hx e
 rw [← this]; exact hy
theorem nodup_le{d D:List (Int × List UInt8 × Nat)}(hD:(D.map fun x=>x.2.2).Nodup)(hs:∀ x∈D,x∈d):D.length≤d.length:=by
 have nd:D.Nodup:=by
  unfold List.Nodup at hD ⊢
  rw [List.pairwise_map] at hD
  exact hD.imp fun h e=>h (by rw [e])
 induction D generalizing d with
 | nil=>exact Nat.zero_le _
 | cons a D ih =>
  rw [List.nodup_cons] at nd
  have h1:∀ x∈D,x∈d.erase a:=fun x hx=>(List.mem_erase_of_ne (fun e=>nd.1 (by rw [← e]; exact hx))).2 (hs x (List.mem_cons_of_mem _ hx))
  have:=ih (by rw [List.map_cons,List.nodup_cons] at hD; exact hD.2) h1 nd.2
  have ha:=hs a (List.mem_cons_self ..)
  rw [List.length_erase_of_mem ha] at this
  have:=List.length_pos_of_mem ha
  rw [List.length_cons]; omega
section
variable {W0 w:World} {F:Nat→Prop} {L:List Res} {I:List Inv} {b mb g:Nat} {vb vl v:Value} {s:Sto} {l:List Pge}
theorem goSort:goFunc Tryz.prog 178=true:=by kernel_rfl
structure ComOut(s:Sto)(r:Int)(s':Sto):Prop where
 out:(stReady s 0≠0∧r=stReady s 0∧s'=s)∨(stReady s 0=0∧s.dirty=[]∧r=0∧s'=s) ∨
  (stReady s 0=0∧s.dirty≠[]∧∃ l,Sorts pageI (dirtyL s) l∧((s.hd.room<blocksN l.length∧r=12∧s'={ s with dirty:=[] }) ∨
   (blocksN l.length≤s.hd.room∧r=(comN s.disk s.hd l).2∧∃ hd',((comN s.disk s.hd l).2=0→hd'=nextH (nextH s.hd (blocksN l.length)) 0)∧s'={ hd:=hd',dirty:=[],clock:=s.clock,dead:=decide (r≠0),disk:=(comN s.disk s.hd l).1 })))
theorem scommit_ok(h:St W0 w F (StoL b mb g vb vl s++L) I)(ok:s.ok)(hseq:s.hd.seq+2<1000000)(hless:s.disk.late.length<800000) :
  Ret Tryz.prog 141 [.pointer (some ⟨b,0,none⟩)] w fun r w'=>∃ e s' vl',r=.int .i64 e∧ComOut s e s'∧St W0 w' F (StoL b mb g vb vl' s'++L) I:=by
 refine ent141 _ _ _ ?_
 simp (disch:=first|omega|exact zF rfl|exact zG rfl|exact fun h=>h|(simp only[zA,zB,zC,zD,bytesW];omega)) only[go_sem,c141S6,c141S7]
 refine Ret.mono (sready_ok 0 h) ?_
 rintro _ w2 ⟨rfl,e2⟩
 subst w2
 by_cases hr:stReady s 0=0
 case neg =>
  simp (disch:=first|omega|exact zF rfl|exact zG rfl|exact fun h=>h|(simp only[zA,zB,zC,zD,bytesW];omega)) only[go_sem,c141S6,c141S7,hr]
  exact ⟨_,s,vl,rfl,⟨.inl ⟨hr,rfl,rfl⟩⟩,h⟩
 have r1:=h.rules 0 rfl
 simp (disch:=first|omega|exact zF rfl|exact zG rfl|exact fun h=>h|(simp only[zA,zB,zC,zD,bytesW];omega)) only[go_sem,c141S6,c141S7,hr,r1]
 refine lenG (ek:=intK) (ev:=strK) Tryz.underlying163 (h.obj 1 rfl) ?_
 by_cases hd:s.dirty=[]
 ·have h0:(s.dirty.length:Int)=0:=by rw [hd]; rfl
  simp (disch:=first|omega|exact zF rfl|exact zG rfl|exact fun h=>h|(simp only[zA,zB,zC,zD,bytesW];omega)) only[go_sem,c141S6,c141S7,h0]
  exact ⟨_,s,vl,rfl,⟨.inr (.inl ⟨hr,hd,rfl,rfl⟩)⟩,h⟩
 have hd0:0<s.dirty.length:=List.length_pos_iff.2 hd
 have h0:¬ (s.dirty.length:Int)=0:=by omega
 simp (disch:=first|omega|exact zF rfl|exact zG rfl|exact fun h=>h|(simp only[zA,zB,zC,zD,bytesW];omega)) only[go_sem,c141S6,c141S7,h0,r1]
 refine rgG Tryz.underlying163 (h.obj 1 rfl) ?_
 have s1:=(h.lay (.mapIter (some mb) s.clock #[] s.clock)).nilRow 44 2
 generalize w.heap.size=q at s1 ⊢
 generalize w.alloc (.mapIter (some mb) s.clock #[] s.clock)=w1 at s1 ⊢
 have s1:St W0 w1 F (.row (.slice none 0 0) 44 2 0 []::.obj q (.mapIter (some mb) s.clock #[] s.clock)::(StoL b mb g vb vl s++L)) I:=s1
 simp (disch:=first|omega|exact zF rfl|exact zG rfl|exact fun h=>h|(simp only[zA,zB,zC,zD,bytesW];omega)) only[go_sem,c141S6,c141S7]
 refine W_loopU (fun z:List (Int × List UInt8 × Nat) × Value=>[(4,z.2)]) (fun z w'=>(∀ x∈z.1,x∈s.dirty)∧(z.1.map fun x=>x.2.2).Nodup∧St W0 w' F (.row z.2 44 2 z.1.length ((z.1.map fun x=>(x.1,x.2.1)).flatMap pendV)::.obj q (.mapIter (some mb) s.clock (z.1.map fun x=>x.2.2).toArray s.clock)::(StoL b mb g vb vl s++L)) I) (fun z=>s.dirty.length - z.1.length) ([],.slice none 0 0) rfl ⟨fun _ h=>(by cases h),List.Pairwise.nil,s1⟩ ?_
 clear s1
 rintro ⟨D,vo⟩ w2 ⟨hD1,hD2,s2⟩
 simp only at hD1 hD2 s2
 have hle:=nodup_le hD2 hD1
 obtain ⟨ao,co,rfl,_⟩:=own_slice (s2.row 0 rfl)
 have hdl:s.dirty.length≤1024:=by
  have:=nodup_few s.hd.pages (s.dirty.map Prod.fst) ok.nd fun x hx=>by
   obtain ⟨y,hy,rfl⟩:=List.mem_map.1 hx
   exact ⟨(ok.keys y hy).1,(ok.keys y hy).2.1⟩
  rw [List.length_map] at this
  have:=ok.few
  omega
 simp (disch:=first|omega|exact zF rfl|exact zG rfl|exact fun h=>h|(simp only[zA,zB,zC,zD,bytesW];omega)) only[go_sem,c141L0,c141S6,c141L0]
 refine nxG (s2.obj 1 rfl) (s2.obj 3 rfl) (fun e he=>?_) (Nat.le_refl _) (fun h0'=>?_) (fun e he w3 hw3=>?_)
 ·obtain ⟨x,hx,rfl⟩:=List.mem_map.1 he
  exact ok.clock x hx
 ·simp (disch:=first|omega|exact zF rfl|exact zG rfl|exact fun h=>h|(simp only[zA,zB,zC,zD,bytesW];omega)) only[go_sem,c141L0,c141S6]
  have hall:=left_none h0'
  have hperm:=all_perm ok.born hD2 hD1 hall
  have hlen:D.length=s.dirty.length:=hperm.length_eq
  have s3:St W0 w2 F (.row (.slice ao D.length co) 44 2 (D.map fun x=>((x.1,x.2.1):Pge)).length ((D.map fun x=>((x.1,x.2.1):Pge)).flatMap pendV)::(StoL b mb g vb vl s++L)) I:=by
   rw [List.length_map]
   exact s2.sub (List.Sublist.cons_cons _ (List.sublist_cons_self _ _))
  clear s2
  have hDp:(D.map fun x=>((x.1,x.2.1):Pge)).Perm (dirtyL s):=hperm.map _
  generalize hDl:(D.map fun x=>((x.1,x.2.1):Pge))=l0 at s3 hDp
  have hl0:l0.length=D.length:=by rw [← hDl,List.length_map]
  simp (disch:=first|omega|exact zF rfl|exact zG rfl|exact fun h=>h|(simp only[zA,zB,zC,zD,bytesW];omega)) only[go_sem,c141L0,c141S7,goSort]
  rw [← hl0] at s3 ⊢
  refine Ret.mono (sort_ok pageI _ (enters_of Tryz.func179 (by kernel_rfl) rfl) swo_page page1_ok _ l0 w2 _ (s3.row 0 rfl) (by omega) (by omega)) ?_
  rintro _ w4 ⟨l',hsort,hrow,hchg⟩
  have hl':l'.length=l0.length:=hsort.1.length_eq
  have s4:=s3.upd 0 rfl hchg (.row (.slice ao l0.length co) 44 2 l0.length (l'.flatMap pendV)) hrow fun k hk=>.inl hk
  rw [← hl'] at s4 ⊢
  have s4:St W0 w4 F (.row (.slice ao l'.length co) 44 2 l'.length (l'.flatMap pendV)::(StoL b mb g vb vl s++L)) I:=s4
  have r4:=s4.rules 1 rfl
  simp (disch:=first|omega|exact zF rfl|exact zG rfl|exact fun h=>h|(simp only[zA,zB,zC,zD,bytesW];omega)) only[go_sem,c141L0,c141S6,c141S7,r4]
  refine clearG Tryz.underlying163 (s4.obj 2 rfl) ?_
  have s5:=s4.putObj 2 rfl (mapG intK strK [] s.clock)
  have e5:mapG intK strK [] s.clock=.map #[] s.clock:=rfl
  rw [e5] at s5
  generalize w4.putObj mb (.map #[] s.clock)=w5 at s5 ⊢
  have s5:St W0 w5 F (.row (.slice ao l'.length co) 44 2 l'.length (l'.flatMap pendV)::(StoL b mb g vb vl { s with dirty:=[] }++L)) I:=s5
  have hS:Sorts pageI (dirtyL s) l':=⟨hsort.1.trans hDp,hsort.2⟩
  simp (disch:=first|omega|exact zF rfl|exact zG rfl|exact fun h=>h|(simp only[zA,zB,zC,zD,bytesW];omega)) only[go_sem,c141L0,c141S6,c141S7]
  refine c141draw0 (Same (fun k=>k=b) _) (Same.refl _ _) ?_
  have s6:=s5.drew
  have r6:=s6.rules 1 rfl
  generalize w5.drew=w6 at s6 r6 ⊢
  simp (disch:=first|omega|exact zF rfl|exact zG rfl|exact fun h=>h|(simp only[zA,zB,zC,zD,bytesW];omega)) only[go_sem,c141L0,c141S6,c141S7,c141D0,r6]
  refine Ret.mono (blocks_ok l'.length w6 (by omega)) ?_
  rintro _ w7 ⟨rfl,e7⟩
  subst w7
  by_cases hroom:s.hd.room<blocksN l'.length
  ·have hroom':(s.hd.room:Int)<blocksN l'.length:=by omega
   simp (disch:=first|omega|exact zF rfl|exact zG rfl|exact fun h=>h|(simp only[zA,zB,zC,zD,bytesW];omega)) only[go_sem,c141L0,c141S6,c141S7,hroom']
   exact ⟨Same.refl _ _,_,_,vl,rfl,⟨.inr (.inr ⟨hr,hd,l',hS,.inl ⟨hroom,rfl,rfl⟩⟩)⟩,s6.sub (List.sublist_cons_self _ _)⟩
  ·have hroom':¬ (s.hd.room:Int)<blocksN l'.length:=by omega
   have hfit:=ok.fit
   have hfew:=ok.disk.few
   have hp:∀ p∈l',0≤p.1∧p.1<s.hd.pages∧p.2.length=256:=fun p hp=>by
    obtain ⟨x,hx,rfl⟩:=List.mem_map.1 (hS.1.subset hp)
    exact ok.keys x hx
   have s7:=s6.seal (.rd 2 pendV (.slice ao l'.length co) l') (RdS.of_own' (s6.row 0 rfl) l' rfl rfl) fun k hk=>slFoot_own hk
   simp (disch:=first|omega|exact zF rfl|exact zG rfl|exact fun h=>h|(simp only[zA,zB,zC,zD,bytesW];omega)) only[go_sem,c141L0,c141S6,c141S7,hroom']
   refine ⟨Same.refl _ _,Ret.mono (commit_ok s7 ok.disk hseq hp (by omega) ⟨show s.hd.room≤2048 by omega,ok.few⟩ (by show blocksN l'.length≤s.hd.room; omega) hless) ?_⟩
   rintro _ w8 ⟨rfl,vl',hd',hhd,s8⟩
   have r8:=s8.rules 0 rfl
   simp (disch:=first|omega|exact zF rfl|exact zG rfl|exact fun h=>h|(simp only[zA,zB,zC,zD,bytesW];omega)) only[go_sem,c141L0,c141S6,c141S7,r8]
   have eb:(!decide ((comN s.disk s.hd l').2=0))=decide ((comN s.disk s.hd l').2≠0):=by simp
   rw [eb]
   have s9:=s8.set 0 rfl 6 (.bool (decide ((comN s.disk s.hd l').2≠0)))
   exact ⟨_,{ hd:=hd',dirty:=[],clock:=s.clock,dead:=decide ((comN s.disk s.hd l').2≠0),disk:=(comN s.disk s.hd l').1 },vl',rfl,⟨.inr (.inr ⟨hr,hd,l',hS,.inr ⟨by omega,rfl,hd',hhd,rfl⟩⟩)⟩,s9⟩
 ·obtain ⟨x,hx,rfl,hxn⟩:=left_in he
  have s3:St W0 w3 F (.row (.slice ao D.length co) 44 2 D.length ((D.map fun x=>(x.1,x.2.1)).flatMap pendV)::.obj q (.mapIter (some mb) s.clock (D.map fun x=>x.2.2).toArray s.clock)::(StoL b mb g vb vl s++L)) I:=by
   rcases hw3 with rfl | rfl
   ·exact s2
   ·exact s2.drew
  have s4:=s3.putObj 1 rfl (.mapIter (some mb) s.clock ((D.map fun x=>x.2.2).toArray.push x.2.2) s.clock)
  simp (disch:=first|omega|exact zF rfl|exact zG rfl|exact fun h=>h|(simp only[zA,zB,zC,zD,bytesW];omega)) only[go_sem,c141L0,c141S6]
  have hbn:((s.dirty.map (entG intK strK)).toArray.toList.map (·.born)).Nodup:=by
   rw [List.toList_toArray,List.map_map]
   exact ok.born
  have hxe:(x.1,x.2.1)=((x.1,x.2.1):Pge):=rfl
  refine enG (s4.obj 1 rfl) (s4.obj 3 rfl) (by rw [List.toList_toArray]; exact List.mem_map_of_mem hx) hbn ?_
  simp (disch:=first|omega|exact zF rfl|exact zG rfl|exact fun h=>h|(simp only[zA,zB,zC,zD,bytesW];omega)) only[go_sem,c141L0,c141S6,entG,intK,strK]
  have hone:=pend_one (x.1,x.2.1)
  refine bdW_built (cells:=(pendV (x.1,x.2.1)).toArray) (by kernel_rfl) ?_
  simp (disch:=first|omega|exact zF rfl|exact zG rfl|exact fun h=>h|(simp only[zA,zB,zC,zD,bytesW];omega)) only[go_sem,c141L0,c141S6]
  refine bsW_agg ty36mkI rfl (by decide) (by decide) ?_
  have hDl:D.length<s.dirty.length:=by
   have hn2:((x::D).map fun x=>x.2.2).Nodup:=by rw [List.map_cons,List.nodup_cons]; exact ⟨hxn,hD2⟩
   have:=nodup_le hn2 fun y hy=>by
    rcases List.mem_cons.1 hy with rfl | hy
    ·exact hx
    ·exact hD1 y hy
   rw [List.length_cons] at this
   omega
  generalize hw4:w3.putObj q (.mapIter (some mb) s.clock ((D.map fun x=>x.2.2).toArray.push x.2.2) s.clock)=w4 at s4 ⊢
  have hx2:Rd (w4.alloc (.cells (pendV (x.1,x.2.1)).toArray 44)) 2 (.slice (some ⟨w4.heap.size,0,none⟩) 1 1) 1 (pendV (x.1,x.2.1)):=rd_new (n:=1) (cs:=(pendV (x.1,x.2.1)).toArray) rfl
  simp (disch:=first|omega|exact zF rfl|exact zG rfl|exact fun h=>h|(simp only[zA,zB,zC,zD,bytesW];omega)) only[go_sem,c141L0,c141S6]
  refine (s4.alloc' (.cells (pendV (x.1,x.2.1)).toArray 44)).append 0 rfl ty36mkI rfl (by decide) hx2 hone (by omega) (by omega) ?_
  intro v6 w6 s6 c6
  simp (disch:=first|omega|exact zF rfl|exact zG rfl|exact fun h=>h|(simp only[zA,zB,zC,zD,bytesW];omega)) only[go_sem,c141L0,c141S6]
  refine ⟨(D++[x],v6),rfl,⟨fun y hy=>?_,?_,st_recast s6 ?_⟩,by simp only [List.length_append,List.length_singleton]; omega⟩
  ·rcases List.mem_append.1 hy with hy | hy
   ·exact hD1 y hy
   ·rw [List.mem_singleton] at hy; subst hy; exact hx
  ·rw [List.map_append,List.nodup_append]
   refine ⟨hD2,List.pairwise_singleton _ _,fun a ha c hc=>?_⟩
   rw [List.map_cons,List.map_nil,List.mem_singleton] at hc
   subst hc
   exact fun e=>hxn (e ▸ ha)
  ·simp only [List.length_append,List.length_singleton,List.map_append,List.map_cons,List.map_nil,List.flatMap_append,List.flatMap_cons,List.flatMap_nil,List.append_nil,List.push_toArray]
   rfl
end
open Go Go.Ann Go.RowKit Go.WideShapes Go.Shelf
theorem wrsN_ok:∀ (l:List (Int × List UInt8)) (m:Dk),m.ok→m.late.length+l.length<1000000→(wrsN m l).1.ok∧(wrsN m l).1.late.length≤m.late.length+l.length
 | [],m,ok,_=>⟨ok,Nat.le_refl _⟩
 | x::l,m,ok,hl=>by
  rw [List.length_cons] at hl
  have h1:=writeN_ok ok (by omega) x.1 x.2
  have h2:=writeN_late m x.1 x.2
  rw [wrsN]
  split
  ·exact ⟨h1,by rw [List.length_cons]; omega⟩
  ·obtain ⟨h3,h4⟩:=wrsN_ok l _ h1 (by omega)
   exact ⟨h3,by rw [List.length_cons]; omega⟩
theorem batN_ok{m:Dk}{l:List (Int × List UInt8)}(ok:m.ok)(hl:m.late.length+l.length<1000000):(batN m l).1.ok∧(batN m l).1.late.length≤m.late.length+l.length:=by
 obtain ⟨h1,h2⟩:=wrsN_ok l m ok hl
 have h3:=flushN_late (wrsN m l).1
 unfold batN
 split
 ·exact ⟨h1,h2⟩
 ·exact ⟨flushN_ok h1,by omega⟩
theorem finN_ok{m:Dk}{h:Hd}{l:List Pge}(ok:m.ok)(hl:m.late.length+l.length<900000):(finN m h l).1.ok∧(finN m h l).1.late.length≤m.late.length+l.length+1:=by
 have hw:(homeW h l).length=l.length:=by unfold homeW; rw [List.length_map]
 obtain ⟨h1,h2⟩:=batN_ok (l:=homeW h l) ok (by omega)
 have h3:=putN_late (batN m (homeW h l)).1 (nextH h 0)
 unfold finN
 split
 ·exact ⟨h1,by omega⟩
 ·exact ⟨putN_ok h1 (by omega),by omega⟩
theorem comN_ok{m:Dk}{h:Hd}{l:List Pge}(ok:m.ok)(hl:m.late.length+l.length+blocksN l.length<800000):(comN m h l).1.ok∧(comN m h l).1.late.length≤m.late.length+l.length+blocksN l.length+2:=by
 have hw:(jouW l).length=blocksN l.length:=by unfold jouW; rw [List.length_map,List.length_range]
 obtain ⟨h1,h2⟩:=batN_ok (l:=jouW l) ok (by omega)
 have h3:=putN_late (batN m (jouW l)).1 (nextH h (blocksN l.length))
 unfold comN
 split
 ·exact ⟨h1,by omega⟩
 ·split
  ·exact ⟨putN_ok h1 (by omega),by omega⟩
  ·obtain ⟨h4,h5⟩:=finN_ok (h:=nextH h (blocksN l.length)) (l:=l) (putN_ok (h:=nextH h (blocksN l.length)) h1 (by omega)) (by omega)
   exact ⟨h4,by omega⟩
theorem writeN_len(m:Dk)(i:Int)(d:List UInt8):(writeN m i d).1.safe.length=m.safe.length:=by
 have hl:=useN_late m
 unfold writeN
 split
 ·rfl
 ·split
  ·rfl
  ·split
   ·show (useN m).1.safe.length=_; rw [hl.2]
   ·rw [hl.2]
theorem flushN_len(m:Dk):(flushN m).1.safe.length=m.safe.length:=by
 have hl:=useN_late m
 unfold flushN
 split
 ·rfl
 ·split
  ·rw [hl.2]
  ·exact doneL_length _ _
theorem wrsN_len:∀ (l:List (Int × List UInt8)) (m:Dk),(wrsN m l).1.safe.length=m.safe.length
 | [],_=>rfl
 | x::l,m=>by
  rw [wrsN]
  split
  ·exact writeN_len m x.1 x.2
  ·rw [wrsN_len l,writeN_len]
theorem batN_len(m:Dk)(l:List (Int × List UInt8)):(batN m l).1.safe.length=m.safe.length:=by
 unfold batN
 split
 ·exact wrsN_len l m
 ·rw [flushN_len,wrsN_len]
theorem putN_len(m:Dk)(h:Hd):(putN m h).1.safe.length=m.safe.length:=by rw [putN_bat,batN_len]
theorem finN_len(m:Dk)(h:Hd)(l:List Pge):(finN m h l).1.safe.length=m.safe.length:=by
 unfold finN
 split
 ·exact batN_len _ _
 ·rw [putN_len,batN_len]
theorem comN_len(m:Dk)(h:Hd)(l:List Pge):(comN m h l).1.safe.length=m.safe.length:=by
 unfold comN
 split
 ·exact batN_len _ _
 ·split
  ·rw [putN_len,batN_len]
  ·rw [finN_len,putN_len,batN_len]
theorem getM_mem{κ ν:Type}[DecidableEq κ]{a:κ}{v:ν}{c:Nat}:∀ {l:List (κ × ν × Nat)},(l.map Prod.fst).Nodup→(a,v,c)∈l→getM a l=some v
 | [],_,h=>by cases h
 | x::l,hn,h=>by
  rw [List.map_cons,List.nodup_cons] at hn
  simp only [getM]
  rcases List.mem_cons.1 h with rfl | h
  ·rw [if_pos rfl]
  ·rw [if_neg (fun e=>hn.1 (by rw [← e]; exact List.mem_map_of_mem (f:=Prod.fst) h))]
   exact getM_mem hn.2 h
theorem getM_no{κ ν:Type}[DecidableEq κ]{a:κ}:∀ {l:List (κ × ν × Nat)},(∀ x∈l,x.1≠a)→getM a l=none
 | [],_=>rfl
 | x::l,h=>by
  simp only [getM]
  rw [if_neg (fun e=>h x (List.mem_cons_self ..) e.symm)]
  exact getM_no fun y hy=>h y (List.mem_cons_of_mem _ hy)
structure Good(s:Sto)(P:List (List UInt8)):Prop where
 ok:s.ok
 dead:s.dead=false
 gone:s.disk.gone=false
 late:s.disk.late=[]
 top:Top s.disk.safe s.hd
 used:s.hd.used=0
 base:Base s.disk.safe s.hd
 home:Home s.disk.safe s.hd P
section
variable {s s':Sto} {P:List (List UInt8)} {e:Int}
theorem Good.now(g:Good s P){i:Nat}(hi:i<s.hd.pages):nowP s i=(getM (i:Int) s.dirty).getD (P.getD i []):=by
 rw [(nowP_eq g.ok g.dead g.gone (by omega) (by omega)).2,g.late]
 congr 1
 have e:(homeN s i).toNat=2+s.hd.room+i:=by unfold homeN; omega
 rw [e]
 exact g.home.2 i hi
theorem Good.len(g:Good s P):P.length=s.hd.pages:=g.home.1
theorem Good.pgs0(g:Good s P)(hd:s.dirty=[]):pgs s=P:=by
 refine pgs_eq g.len fun i hi=>?_
 rw [g.now (by rw [← g.len]; exact hi),hd]; rfl
theorem dirty_len(ok:s.ok):s.dirty.length≤s.hd.pages:=by
 have:=nodup_few s.hd.pages (s.dirty.map Prod.fst) ok.nd fun x hx=>by
  obtain ⟨y,hy,rfl⟩:=List.mem_map.1 hx
  exact ⟨(ok.keys y hy).1,(ok.keys y hy).2.1⟩
 rwa [List.length_map] at this
theorem Good.sorted(g:Good s P){l:List Pge}(hS:Sorts pageI (dirtyL s) l):l.length=s.dirty.length∧(∀ p∈l,0≤p.1∧p.1<s.hd.pages∧p.2.length=256)∧(l.map Prod.fst).Nodup∧(∀ p∈l,(pgs s).getD p.1.toNat []=p.2)∧∀ i,i<s.hd.pages→(∀ p∈l,p.1.toNat≠i)→P.getD i []=(pgs s).getD i []:=by
 have hmem:∀ p∈l,∃ x∈s.dirty,p=(x.1,x.2.1):=fun p hp=>by
  obtain ⟨x,hx,rfl⟩:=List.mem_map.1 (hS.1.subset hp)
  exact ⟨x,hx,rfl⟩
 have hget:∀ i,i<s.hd.pages→(pgs s).getD i []=nowP s i:=fun i hi=>by
  rw [List.getD_eq_getElem?_getD,List.getElem?_eq_getElem (by rw [pgs_len]; exact hi),Option.getD_some,pgs_get]
 refine ⟨by rw [hS.1.length_eq]; unfold dirtyL; rw [List.length_map],fun p hp=>?_,?_,fun p hp=>?_,fun i hi hn=>?_⟩
 ·obtain ⟨x,hx,rfl⟩:=hmem p hp
  exact g.ok.keys x hx
 ·have:=(hS.1.map Prod.fst).nodup_iff.2 (by
   unfold dirtyL
   rw [List.map_map]
   exact g.ok.nd)
  exact this
 ·obtain ⟨x,hx,rfl⟩:=hmem p hp
  obtain ⟨k0,k1,_⟩:=g.ok.keys x hx
  rw [hget _ (by simp only; omega),g.now (by simp only; omega)]
  simp only
  rw [show ((x.1.toNat:Nat):Int)=x.1 by omega,getM_mem (v:=x.2.1) (c:=x.2.2) g.ok.nd hx]; rfl
 ·rw [hget i hi,g.now hi,getM_no fun x hx e=>?_]
  ·rfl
  ·have:((x.1,x.2.1):Pge)∈l:=hS.1.symm.subset (List.mem_map_of_mem (f:=fun x:Int × List UInt8 × Nat=>((x.1,x.2.1):Pge)) hx)
   exact hn _ this (by simp only; omega)
theorem Good.commit(g:Good s P)(hl:s.disk.left = -1)(hseq:s.hd.seq+2<1000000)(c:ComOut s e s') :
  (e=0∧(s.dirty=[]∨blocksN s.dirty.length≤s.hd.room)∧Good s' (pgs s)∧s'.dirty=[]∧s'.disk.left = -1∧s'.hd.pages=s.hd.pages∧s'.hd.room=s.hd.room∧s'.hd.seq≤s.hd.seq+2∧s'.disk.safe.length=s.disk.safe.length) ∨
  (e=12∧s.dirty≠[]∧s.hd.room<blocksN s.dirty.length∧s'={ s with dirty:=[] }):=by
 have hr:stReady s 0=0:=stReady_ok g.dead (by decide) (by have:=g.ok.pages; omega)
 rcases c.out with ⟨h,_⟩ | ⟨_,hd,rfl,rfl⟩ | ⟨_,hd,l,hS,h⟩
 ·exact absurd hr h
 ·rw [g.pgs0 hd]
  exact .inl ⟨rfl,.inl hd,g,hd,hl,rfl,rfl,Nat.le_add_right _ _,rfl⟩
 ·obtain ⟨a1,a2,a3,a4,a5⟩:=g.sorted hS
  rcases h with ⟨hroom,rfl,rfl⟩ | ⟨hroom,rfl,hd',hhd,rfl⟩
  ·exact .inr ⟨rfl,hd,by rw [← a1]; exact hroom,rfl⟩
  ·have hl1:l.length≤1024:=by
    have h1:=dirty_len g.ok
    have h2:=g.ok.few
    omega
   have hbl:blocksN l.length≤1041:=by unfold blocksN hdsN; omega
   rcases com_cases (N:=pgs s) ⟨rfl,g.late,g.gone⟩ g.top g.used g.home g.base hseq hl1 a2 a3 hroom (pgs_len s) a4 a5 with ⟨c1,⟨S,u,t,b,hm⟩,c3⟩ | ⟨c1,c2⟩
   ·obtain rfl:=hhd c1
    have hcok:=(comN_ok (h:=s.hd) (l:=l) g.ok.disk (by rw [g.late]; simp only [List.length_nil]; omega)).1
    have hsl:(comN s.disk s.hd l).1.safe.length=S.length:=by rw [u.safe]
    left
    rw [c1]
    have hfit:=t.geo.fit
    refine ⟨rfl,.inr (by rw [← a1]; exact hroom),⟨⟨t.ok,hcok,g.ok.room,g.ok.pages,g.ok.few,?_,fun _ h=>(by cases h),List.Pairwise.nil,List.Pairwise.nil,fun _ h=>(by cases h)⟩,rfl,u.gone,u.late,by simp only; rw [u.safe]; exact t,rfl,by simp only; rw [u.safe]; exact b,by simp only; rw [u.safe]; exact hm⟩,rfl,c3 hl,rfl,rfl,Nat.le_refl _,?_⟩
    ·rw [hsl]; exact hfit
    ·exact comN_len _ _ _
   ·exact absurd hl c2.lim
end
open Go Go.Ann Go.RowKit Go.WideShapes Go.Shelf
def sto4(n room:Nat):Sto:=⟨headN n room,[],0,false,fmtDk n (headN n room)⟩
theorem sto4_good{n room:Nat}(h1:1≤room)(h2:room+3≤n)(h3:n≤1000):Good (sto4 n room) (List.replicate (n - 2 - room) zeroB):=by
 have hp:(headN n room).pages=n - 2 - room:=by unfold headN; simp only; omega
 have hsl:(fmtDk n (headN n room)).safe.length=n:=by simp [fmtDk]
 have hok:=fmtDk_ok (n:=n) (h:=headN n room) (by omega) (by omega)
 have hh:(headN n room).ok:=⟨by show 2<_; omega,by show 0<_; omega,by show room<_; omega,by show min (n - 2 - room) 1024<_; omega⟩
 have g:Geo n (headN n room):=⟨h1,by rw [hp]; omega,by rw [hp]; omega,Nat.zero_le _,by rw [hp]; show 2+room+(n - 2 - room)≤n; omega⟩
 have s0:(fmtDk n (headN n room)).safe.getD 0 []=filledL (headL (headN n room)):=by
  unfold fmtDk
  exact getD_set_eq (by simp; omega)
 have s1:(fmtDk n (headN n room)).safe.getD 1 []=filledL []:=by
  unfold fmtDk
  simp only
  rw [getD_set_ne (by decide),getD_set_eq (by simp; omega)]
 refine ⟨⟨hh,hok,h1,by show 1≤(headN n room).pages; rw [hp]; omega,by show (headN n room).pages≤1024; rw [hp]; omega,by rw [show (sto4 n room).disk.safe.length=n from hsl]; exact g.fit,fun _ h=>(by cases h),List.Pairwise.nil,List.Pairwise.nil,fun _ h=>(by cases h)⟩,rfl,rfl,rfl,⟨hok.safe,by show (fmtDk n (headN n room)).safe.length≤2048; rw [hsl]; omega,by show Geo (fmtDk n (headN n room)).safe.length _; rw [hsl]; exact g,by show (2:Nat)<1000000; decide,by show 0<(2:Nat); decide,?_,?_⟩,rfl,.inl ?_,?_,?_⟩
 ·have e0:(sto4 n room).hd.seq=2:=rfl
  rw [e0]
  show readHd ((fmtDk n (headN n room)).safe.getD 0 [])=_
  rw [s0]
  exact readHd_headL hh _
 ·intro h' hr
  have e0:(sto4 n room).hd.seq=2:=rfl
  rw [e0] at hr
  have hr:readHd ((fmtDk n (headN n room)).safe.getD 1 [])=some h':=hr
  rw [s1,readHd_zero] at hr
  cases hr
 ·have e0:(sto4 n room).hd.seq=2:=rfl
  rw [e0]
  show (fmtDk n (headN n room)).safe.getD 1 []=zeroB
  rw [s1]; rfl
 ·rw [List.length_replicate]; exact hp.symm
 ·intro i hi
  have hi:i<n - 2 - room:=by rw [← hp]; exact hi
  show (fmtDk n (headN n room)).safe.getD (2+room+i) []=_
  unfold fmtDk
  simp only
  rw [getD_set_ne (by omega),getD_set_ne (by omega),List.getD_eq_getElem?_getD,List.getD_eq_getElem?_getD,List.getElem?_replicate,List.getElem?_replicate,if_pos (by omega),if_pos hi]
section
variable {s:Sto} {P:List (List UInt8)}
end
open Go Go.Ann Go.RowKit Go.WideShapes Go.Shelf
structure Safe(e:En)(S:List (List UInt8)):Prop where
 late:e.m.late=[]
 top:Top e.m.safe e.hd
 used:e.hd.used=0
 base:Base e.m.safe e.hd
 home:Home e.m.safe e.hd S
 left:e.m.left = -1
 seq:e.hd.seq≤1000
 room:blocksN e.mx≤e.hd.room
theorem blocksN_mono{a b:Nat}(h:a≤b):blocksN a≤blocksN b:=by unfold blocksN hdsN; omega
section
variable {W0 w:World} {F:Nat→Prop} {L:List Res} {I:List Inv} {P S:List (List UInt8)} {e:En}
theorem pcommit_ok(h:Pgr e P W0 w F L I)(hs:Safe e S)(hq:e.hd.seq≤900) :
  Ret Tryz.prog 86 [.pointer (some ⟨e.p,0,none⟩)] w fun u w'=>u=.int .i64 0∧∃ e':En,e'.p=e.p∧e'.mx=e.mx∧e'.hd.seq≤e.hd.seq+2∧Safe e' P∧Pgr e' P W0 w' F L I:=by
 have r1:=h.blk.rules
 refine ent86 _ _ _ ?_
 simp (disch:=first|omega|exact zF rfl|exact zG rfl|exact fun h=>h|(simp only[zA,zB,zC,zD,bytesW];omega)) only[go_sem]
 refine Ret.mono (made_ok h) ?_
 rintro _ _ ⟨rfl,rfl⟩
 simp (disch:=first|omega|exact zF rfl|exact zG rfl|exact fun h=>h|(simp only[zA,zB,zC,zD,bytesW];omega)) only[go_sem,r1]
 obtain ⟨rv,l,s,hst,hv,e1,e2,e0,e3⟩:=h
 have g:Good s S:=⟨hv.ok,hv.dead,hv.gone,by rw [e2]; exact hs.late,by rw [e1,e2]; exact hs.top,by rw [e1]; exact hs.used,by rw [e1,e2]; exact hs.base,by rw [e1,e2]; exact hs.home⟩
 have hseq:=hs.seq
 refine Ret.mono (scommit_ok (St.mid hst) hv.ok (by rw [e1]; omega) (by rw [e2,hs.late]; decide)) ?_
 rintro _ w2 ⟨c,s',vl',rfl,hc,s2⟩
 have dl:s.dirty.length≤e.mx:=by
  have:=nodup_few e.mx (s.dirty.map Prod.fst) hv.ok.nd fun x hx=>by
   obtain ⟨y,hy,rfl⟩:=List.mem_map.1 hx
   exact ⟨(hv.ok.keys y hy).1,e0.2 y hy⟩
  rwa [List.length_map] at this
 have hroom:=hs.room
 have hbm:=blocksN_mono dl
 rcases g.commit (by rw [e2]; exact hs.left) (by rw [e1]; omega) hc with ⟨rfl,_,g',d',left',q1,q2,q3,_⟩ | ⟨_,_,hbad,_⟩
 case inr =>
  exfalso
  rw [e1] at hbad
  omega
 simp (disch:=first|omega|exact zF rfl|exact zG rfl|exact fun h=>h|(simp only[zA,zB,zC,zD,bytesW];omega)) only[go_sem]
 have p':=g'.pgs0 d'
 have hnow:∀ i:Int,0≤i→i<s.hd.pages→nowP s' i=nowP s i:=fun i h0 h1=>by
  obtain ⟨n,rfl⟩:=Int.eq_ofNat_of_zero_le h0
  have a1:=pgs_get (s:=s') (i:=n) (by rw [pgs_len,q1]; omega)
  have a2:=pgs_get (s:=s) (i:=n) (by rw [pgs_len]; omega)
  rw [← a1,← a2]
  simp only [p']
 refine ⟨{ e with vl:=vl',hd:=s'.hd,m:=s'.disk },rfl,rfl,by show s'.hd.seq≤_; rw [e1] at q3; exact q3,?_,?_⟩
 ·rw [← e3]
  exact ⟨g'.late,g'.top,g'.used,g'.base,g'.home,left',by show s'.hd.seq≤1000; rw [e1] at q3; omega,by show blocksN e.mx≤s'.hd.room; rw [q2,e1]; exact hroom⟩
 ·exact ⟨rv,l,s',St.unmid s2,⟨g'.ok,g'.dead,g'.gone,by rw [q1]; exact hv.few,hv.room,hv.nd,fun x hx=>by
   obtain ⟨b0,b1,b2⟩:=hv.kept x hx
   exact ⟨b0,by rw [q1]; exact b1,by rw [hnow _ b0 b1]; exact b2⟩⟩,rfl,rfl,⟨e0.1,fun x hx=>by rw [d'] at hx; cases hx⟩,by rw [p',e3]⟩
end
theorem safe_start{e:En}{n:Nat}(h0:3≤n)(h1':n≤400)(h1:e.hd=newHd n 400)(h2:e.m=newDkP n 400)(h3:blocksN e.mx≤400):Safe e (List.replicate n zeroB):=by
 have g:=sto4_good (n:=n+400+2) (room:=400) (by decide) (by omega) (by omega)
 have en:n+400+2 - 2 - 400=n:=by omega
 rw [en] at g
 refine ⟨by rw [h2]; exact g.late,by rw [h1,h2]; exact g.top,by rw [h1]; exact g.used,by rw [h1,h2]; exact g.base,by rw [h1,h2]; exact g.home,by rw [h2]; rfl,by rw [h1]; show (2:Nat)≤1000; decide,by rw [h1]; exact h3⟩
open Go Go.Ann Go.RowKit Go.WideShapes
def recV(x:Nat × List UInt8):List Value:=[.int .i64 x.1,.string (ofL x.2)]
theorem recV_len(x:Nat × List UInt8):(recV x).length=2:=rfl
theorem recV_at(x:Nat × List UInt8):(recV x)[0]?=some (.int .i64 x.1)∧(recV x)[1]?=some (.string (ofL x.2)):=⟨rfl,rfl⟩
theorem recV_one(x:Nat × List UInt8):∀ u∈recV x,u.oneCell'=true:=by
 intro u hu
 simp only [recV,List.mem_cons,List.not_mem_nil,or_false] at hu
 rcases hu with rfl | rfl <;> rfl
def lookR(l:List (Nat × List UInt8))(id:Int):List UInt8 × Bool:=match l.find? fun x=>decide ((x.1:Int)=id) with | some x=>(x.2,true) | none=>([],false)
theorem find_take{l:List (Nat × List UInt8)}{id:Int}{k:Nat}(h:∀ x∈l.take k,(x.1:Int)≠id)(hk:k<l.length)(he:(l[k].1:Int)=id):lookR l id=(l[k].2,true):=by
 have e:l.find? (fun x=>decide ((x.1:Int)=id))=some l[k]:=by
  conv=>lhs; rw [← List.take_append_drop k l]
  rw [List.find?_append,List.find?_eq_none.2 fun x hx=>by rw [decide_eq_true_eq]; exact h x hx,← List.getElem_cons_drop hk,List.find?_cons,decide_eq_true he]
  rfl
 unfold lookR
 rw [e]
theorem find_no{l:List (Nat × List UInt8)}{id:Int}(h:∀ x∈l,(x.1:Int)≠id):lookR l id=([],false):=by
 unfold lookR
 rw [List.find?_eq_none.2 fun x hx=>by rw [decide_eq_true_eq]; exact h x hx]
theorem hfind_ok{v:Value}{l:List (Nat × List UInt8)}(id:Int)(w:World)(h:RdS w 2 recV v l)(hl:l.length≤100000) :
  Ret Tryz.prog 33 [v,.int .i64 id] w fun u w'=>u=.tuple #[.string (ofL (lookR l id).1),.bool (lookR l id).2]∧Below w.heap.size w w':=by
 obtain ⟨a,c,rfl,_⟩:=h.form
 refine ent33 _ _ _ _ ?_
 simp (disch:=first|omega|exact zF rfl|exact zG rfl|exact fun h=>h|(simp only[zA,zB,zC,zD,bytesW];omega)) only[go_sem]
 refine W_loopU (fun k:Nat=>[(6,.int .i64 k)]) (fun k w'=>Below w.heap.size w w'∧k≤l.length∧∀ x∈l.take k,(x.1:Int)≠id) (fun k=>l.length - k) 0 rfl ⟨Below.refl _ _,Nat.zero_le _,fun x hx=>by simp at hx⟩ ?_
 rintro k w2 ⟨b2,hk,hno⟩
 by_cases hlt:k<l.length
 case neg =>
  have hlt':¬ (k:Int)<l.length:=by omega
  obtain rfl:k=l.length:=by omega
  rw [List.take_length] at hno
  rw [find_no hno]
  simp (disch:=first|omega|exact zF rfl|exact zG rfl|exact fun h=>h|(simp only[zA,zB,zC,zD,bytesW];omega)) only[go_sem,c33L0,c33L0,hlt']
  exact b2
 have hlt':(k:Int)<l.length:=by omega
 obtain ⟨p,rfl⟩:=h.ptr (by omega)
 have el:=h.eltB b2 recV_len (by decide) hlt
 have rv:=recV_at l[k]
 simp (disch:=first|omega|exact zF rfl|exact zG rfl|exact fun h=>h|(simp only[zA,zB,zC,zD,bytesW];omega)) only[go_sem,c33L0,c33L0,hlt',el,rv]
 refine ⟨by omega,fun he=>⟨by omega,?_⟩,fun hne=>⟨⟨by omega,by omega⟩,k+1,rfl,⟨b2,by omega,fun x hx=>?_⟩,by omega⟩⟩
 ·rw [find_take hno hlt he]
  exact ⟨rfl,b2⟩
 ·rw [List.take_succ_eq_append_getElem hlt] at hx
  rcases List.mem_append.1 hx with hx | hx
  ·exact hno x hx
  ·rw [List.mem_singleton] at hx; subst hx
   exact hne
theorem hwithout_ok{v:Value}{l:List (Nat × List UInt8)}(id:Int)(w:World)(h:RdS w 2 recV v l)(hl:l.length≤100000) :
  Ret Tryz.prog 85 [v,.int .i64 id] w fun u w'=>w'.ownsRow w.heap.size 71 2 u (withoutR l id).length ((withoutR l id).flatMap recV)∧Below w.heap.size w w':=by
 obtain ⟨a,c,rfl,_⟩:=h.form
 refine ent85 _ _ _ _ ?_
 simp (disch:=first|omega|exact zF rfl|exact zG rfl|exact fun h=>h|(simp only[zA,zB,zC,zD,bytesW];omega)) only[go_sem]
 have s0:=(St.start (W0:=w)).nilRow 71 2
 refine W_loopU (fun q:Nat × Value=>[(5,q.2),(6,.int .i64 q.1)]) (fun q w'=>q.1≤l.length∧St w w' (fun _=>False) [.row q.2 71 2 (withoutR (l.take q.1) id).length ((withoutR (l.take q.1) id).flatMap recV)] []) (fun q=>l.length - q.1) (0,.slice none 0 0) rfl ⟨Nat.zero_le _,s0⟩ ?_
 rintro ⟨k,v⟩ w2 ⟨hk,s2⟩
 simp only at hk s2
 by_cases hlt:k<l.length
 case neg =>
  have hlt':¬ (k:Int)<l.length:=by omega
  obtain rfl:k=l.length:=by omega
  rw [List.take_length] at s2
  simp (disch:=first|omega|exact zF rfl|exact zG rfl|exact fun h=>h|(simp only[zA,zB,zC,zD,bytesW];omega)) only[go_sem,c85L0,c85L0,hlt']
  exact ⟨s2.row 0 rfl,s2.bel⟩
 have hlt':(k:Int)<l.length:=by omega
 obtain ⟨p,rfl⟩:=h.ptr (by omega)
 have el:=h.eltB s2.bel recV_len (by decide) hlt
 obtain ⟨av,cv,rfl,_⟩:=own_slice (s2.row 0 rfl)
 have et:withoutR (l.take (k+1)) id=withoutR (l.take k) id++if (l[k].1:Int)≠id then [l[k]] else []:=by
  unfold withoutR
  rw [List.take_succ_eq_append_getElem hlt,List.filter_append]
  congr 1
  by_cases hc:(l[k].1:Int)=id
  ·simp [hc]
  ·simp [hc]
 have hwl:(withoutR (l.take k) id).length≤100000:=by
  have:=List.length_filter_le (fun x:Nat × List UInt8=>decide ((x.1:Int)≠id)) (l.take k)
  rw [List.length_take] at this
  unfold withoutR; omega
 have rv:=recV_at l[k]
 have ea:=(h.below s2.bel (by decide)).at recV_len hlt
 have rlen:=recV_len l[k]
 have rone:=recV_one l[k]
 generalize l[k]=x at *
 simp (disch:=first|omega|exact zF rfl|exact zG rfl|exact fun h=>h|(simp only[zA,zB,zC,zD,bytesW];omega)) only[go_sem,c85L0,c85L0,hlt',el,rv,ea]
 refine ⟨by omega,fun hne=>⟨by omega,?_⟩,fun he=>⟨⟨by omega,by omega⟩,(k+1,_),rfl,⟨by simp only; omega,?_⟩,by simp only; omega⟩⟩
 ·refine bsW_agg (cs:=(recV x).toArray) ty63mkI rfl (by decide) (by decide) ?_
  have hx:Rd (w2.alloc (.cells (recV x).toArray 71)) 2 (.slice (some ⟨w2.heap.size,0,none⟩) 1 1) 1 (recV x):=rd_new (n:=1) (cs:=(recV x).toArray) rfl
  simp (disch:=first|omega|exact zF rfl|exact zG rfl|exact fun h=>h|(simp only[zA,zB,zC,zD,bytesW];omega)) only[go_sem,c85L0]
  refine (s2.alloc' (.cells (recV x).toArray 71)).append 0 rfl ty63mkI rfl (by decide) hx rone (by omega) (by omega) ?_
  intro v6 w6 s6 c6
  simp only [List.set_cons_zero] at s6
  rw [if_pos hne] at et
  have e1:(withoutR (l.take (k+1)) id).flatMap recV=(withoutR (l.take k) id).flatMap recV++recV x:=by rw [et,List.flatMap_append]; simp
  have e2:(withoutR (l.take (k+1)) id).length=(withoutR (l.take k) id).length+1:=by rw [et]; simp
  rw [← e1,← e2] at s6
  simp (disch:=first|omega|exact zF rfl|exact zG rfl|exact fun h=>h|(simp only[zA,zB,zC,zD,bytesW];omega)) only[go_sem,c85L0]
  exact ⟨⟨by omega,by omega⟩,(k+1,v6),rfl,⟨by simp only; omega,s6⟩,by simp only; omega⟩
 ·rw [if_neg (by omega),List.append_nil] at et
  show St w w2 _ [.row _ _ 2 (withoutR (l.take (k+1)) id).length ((withoutR (l.take (k+1)) id).flatMap recV)] []
  rw [et]
  exact s2
theorem withR_in{A B:List (Nat × List UInt8)}{r:Nat × List UInt8}(h:∃ x∈A,r.1<x.1):withR (A++B) r=withR A r++B:=by
 induction A with
 | nil=>obtain ⟨x,hx,_⟩:=h; cases hx
 | cons y A ih =>
  rw [List.cons_append,withR,withR]
  by_cases hy:r.1<y.1
  ·rw [if_pos hy,if_pos hy]; rfl
  ·rw [if_neg hy,if_neg hy,ih,List.cons_append]
   obtain ⟨x,hx,hlt⟩:=h
   rcases List.mem_cons.1 hx with rfl | hx
   ·exact absurd hlt hy
   ·exact ⟨x,hx,hlt⟩
theorem withR_out{A B:List (Nat × List UInt8)}{r:Nat × List UInt8}(h:¬ ∃ x∈A,r.1<x.1):withR (A++B) r=A++withR B r:=by
 induction A with
 | nil=>rfl
 | cons y A ih =>
  rw [List.cons_append,withR,if_neg (fun hc=>h ⟨y,List.mem_cons_self,hc⟩),ih fun ⟨x,hx,hc⟩=>h ⟨x,List.mem_cons_of_mem _ hx,hc⟩]
  rfl
theorem withR_len(l:List (Nat × List UInt8))(r:Nat × List UInt8):(withR l r).length=l.length+1:=(withR_perm l r).length_eq
theorem hwith_ok{v:Value}{l:List (Nat × List UInt8)}(r:Nat × List UInt8)(w:World)(h:RdS w 2 recV v l)(hl:l.length≤100000) :
  Ret Tryz.prog 84 [v,.agg #[.int .i64 r.1,.string (ofL r.2)]] w fun u w'=>w'.ownsRow w.heap.size 71 2 u (withR l r).length ((withR l r).flatMap recV)∧Below w.heap.size w w':=by
 obtain ⟨a,c,rfl,_⟩:=h.form
 refine ent84 _ _ _ _ ?_
 simp (disch:=first|omega|exact zF rfl|exact zG rfl|exact fun h=>h|(simp only[zA,zB,zC,zD,bytesW];omega)) only[go_sem]
 have s0:=((St.start (W0:=w)).box #[.int .i64 r.1,.string (ofL r.2)] 71).nilRow 71 2
 obtain ⟨b,hb⟩:∃ b,b=w.heap.size:=⟨_,rfl⟩
 have hbb:∀ w',Below w.heap.size w w'→Below b w w':=fun _ h=>by rw [hb]; exact h
 rw [← hb] at s0 ⊢
 generalize w.alloc (.cells #[.int .i64 r.1,.string (ofL r.2)] 71)=w1 at s0 ⊢
 -- so far: all before its place,or past it
 obtain ⟨outL,hout⟩:∃ outL:Nat→Bool→List (Nat × List UInt8),∀ k d,outL k d=if d then withR (l.take k) r else l.take k:=⟨_,fun _ _=>rfl⟩
 refine W_loopU (fun q:Nat × Value × Bool=>[(5,q.2.1),(6,.bool q.2.2),(7,.int .i64 q.1)]) (fun q w'=>q.1≤l.length∧(q.2.2=true↔∃ x∈l.take q.1,r.1<x.1)∧St w w' (fun _=>False) [.row q.2.1 71 2 (outL q.1 q.2.2).length ((outL q.1 q.2.2).flatMap recV),.blk b #[.int .i64 r.1,.string (ofL r.2)] 71] []) (fun q=>l.length - q.1) (0,.slice none 0 0,false) rfl ⟨Nat.zero_le _,by simp,by rw [hout]; exact s0⟩ ?_
 rintro ⟨k,v,d⟩ w2 ⟨hk,hd,s2⟩
 simp only at hk hd s2
 have hol:(outL k d).length≤100001:=by
  rw [hout]
  split
  ·rw [withR_len,List.length_take]; omega
  ·rw [List.length_take]; omega
 have ho0:=hout k d
 generalize outL k d=out at s2 hol ho0
 obtain ⟨av,cv,rfl,_⟩:=own_slice (s2.row 0 rfl)
 have rb:=s2.rules 1 rfl
 have recx:∀ (x:Nat × List UInt8) (w':World),Rd (w'.alloc (.cells (recV x).toArray 71)) 2 (.slice (some ⟨w'.heap.size,0,none⟩) 1 1) 1 (recV x):=fun x w'=>rd_new (n:=1) (cs:=(recV x).toArray) rfl
 by_cases hlt:k<l.length
 case neg =>
  have hlt':¬ (k:Int)<l.length:=by omega
  obtain rfl:k=l.length:=by omega
  rw [List.take_length] at hd ho0
  cases d with
  | true =>
   rw [if_pos rfl] at ho0
   subst ho0
   simp (disch:=first|omega|exact zF rfl|exact zG rfl|exact fun h=>h|(simp only[zA,zB,zC,zD,bytesW];omega)) only[go_sem,c84L0,c84L0,hlt']
   exact ⟨hb ▸ s2.row 0 rfl,hbb _ s2.bel⟩
  | false =>
   rw [if_neg (by decide)] at ho0
   subst ho0
   simp (disch:=first|omega|exact zF rfl|exact zG rfl|exact fun h=>h|(simp only[zA,zB,zC,zD,bytesW];omega)) only[go_sem,c84L0,c84L0,hlt',rb]
   refine bsW_agg (cs:=(recV r).toArray) ty63mkI rfl (by decide) (by decide) ?_
   simp (disch:=first|omega|exact zF rfl|exact zG rfl|exact fun h=>h|(simp only[zA,zB,zC,zD,bytesW];omega)) only[go_sem,c84L0]
   refine (s2.alloc' (.cells (recV r).toArray 71)).append 0 rfl ty63mkI rfl (by decide) (recx r w2) (recV_one r) (by omega) (by omega) ?_
   intro v6 w6 s6 c6
   simp only [List.set_cons_zero] at s6
   have ew:withR out r=out++[r]:=by
    have:=withR_out (A:=out) (B:=[]) (r:=r) fun hc=>absurd (hd.2 hc) (by decide)
    rw [List.append_nil] at this
    exact this
   have e1:(withR out r).flatMap recV=out.flatMap recV++recV r:=by rw [ew,List.flatMap_append]; simp
   rw [← e1,← withR_len out r] at s6
   simp (disch:=first|omega|exact zF rfl|exact zG rfl|exact fun h=>h|(simp only[zA,zB,zC,zD,bytesW];omega)) only[go_sem,c84L0]
   exact ⟨hb ▸ s6.row 0 rfl,hbb _ s6.bel⟩
 have hlt':(k:Int)<l.length:=by omega
 obtain ⟨p,rfl⟩:=h.ptr (by omega)
 have el:=h.eltB s2.bel recV_len (by decide) hlt
 have rv:=recV_at l[k]
 have ea:=(h.below s2.bel (by decide)).at recV_len hlt
 have rone:=recV_one l[k]
 have hbl:b<w2.heap.size:=(s2.blk 1 rfl).lt
 have etk:l.take (k+1)=l.take k++[l[k]]:=List.take_succ_eq_append_getElem hlt
 have hbp:p.block≠b:=fun hc=>by
  have:=h.blt recV_len (by decide) (by omega)
  omega
 have cap:∀ w',Below b w w'→cellsO w' (p.add (k * 2)) 0 2=some (recV l[k]):=fun w' hb'=>(h.below (hb ▸ hb') (by decide)).at recV_len hlt
 generalize l[k]=x at *
 cases d with
 | true =>
  rw [if_pos rfl] at ho0
  have e0:outL (k+1) true=out++[x]:=by
   rw [hout,if_pos rfl,etk,withR_in (hd.1 rfl),← ho0]
  have hd2:(true=true↔∃ y∈l.take (k+1),r.1<y.1):=⟨fun _=>by
   obtain ⟨y,hy,hlt2⟩:=hd.1 rfl
   exact ⟨y,by rw [etk]; exact List.mem_append_left _ hy,hlt2⟩,fun _=>rfl⟩
  simp (disch:=first|omega|exact zF rfl|exact zG rfl|exact fun h=>h|(simp only[zA,zB,zC,zD,bytesW];omega)) only[go_sem,c84L0,c84L0,hlt']
  refine c84draw0 ?_
  simp (disch:=first|omega|exact zF rfl|exact zG rfl|exact fun h=>h|(simp only[zA,zB,zC,zD,bytesW];omega)) only[go_sem,c84L0,c84D0,ea]
  have s2:=s2.drew
  refine ⟨by omega,?_⟩
  ·refine bsW_agg (cs:=(recV x).toArray) ty63mkI rfl (by decide) (by decide) ?_
   simp (disch:=first|omega|exact zF rfl|exact zG rfl|exact fun h=>h|(simp only[zA,zB,zC,zD,bytesW];omega)) only[go_sem,c84L0]
   refine (s2.alloc' (.cells (recV x).toArray 71)).append 0 rfl ty63mkI rfl (by decide) (recx x _) rone (by omega) (by omega) ?_
   intro v7 w7 s7 c7
   simp only [List.set_cons_zero] at s7
   have e1:(outL (k+1) true).flatMap recV=out.flatMap recV++recV x:=by rw [e0,List.flatMap_append]; simp
   have e2:(outL (k+1) true).length=out.length+1:=by rw [e0]; simp
   rw [← e1,← e2] at s7
   simp (disch:=first|omega|exact zF rfl|exact zG rfl|exact fun h=>h|(simp only[zA,zB,zC,zD,bytesW];omega)) only[go_sem,c84L0]
   exact ⟨⟨by omega,by omega⟩,(k+1,v7,true),rfl,⟨by simp only; omega,hd2,s7⟩,by simp only; omega⟩
 | false =>
  rw [if_neg (by decide)] at ho0
  have hno:¬ ∃ y∈l.take k,r.1<y.1:=fun hc=>absurd (hd.2 hc) (by decide)
  simp (disch:=first|omega|exact zF rfl|exact zG rfl|exact fun h=>h|(simp only[zA,zB,zC,zD,bytesW];omega)) only[go_sem,c84L0,c84L0,hlt']
  refine c84draw0 ?_
  simp (disch:=first|omega|exact zF rfl|exact zG rfl|exact fun h=>h|(simp only[zA,zB,zC,zD,bytesW];omega)) only[go_sem,c84L0,c84D0,el,rv,rb]
  have s2:=s2.drew
  refine ⟨by omega,fun hgt=>?_,fun hle=>?_⟩
  ·refine bsW_agg (cs:=(recV r).toArray) ty63mkI rfl (by decide) (by decide) ?_
   simp (disch:=first|omega|exact zF rfl|exact zG rfl|exact fun h=>h|(simp only[zA,zB,zC,zD,bytesW];omega)) only[go_sem,c84L0]
   refine (s2.alloc' (.cells (recV r).toArray 71)).append 0 rfl ty63mkI rfl (by decide) (recx r _) (recV_one r) (by omega) (by omega) ?_
   intro v6 w6 s6 c6
   simp only [List.set_cons_zero] at s6
   have ew:withR out r=out++[r]:=by
    have:=withR_out (A:=out) (B:=[]) (r:=r) (by rw [ho0]; exact hno)
    rw [List.append_nil] at this
    exact this
   have e1:(withR out r).flatMap recV=out.flatMap recV++recV r:=by rw [ew,List.flatMap_append]; simp
   have hwl:=withR_len out r
   rw [← e1,← hwl] at s6
   have ea6:=cap w6 (hbb _ s6.bel)
   have e0:outL (k+1) true=withR out r++[x]:=by
    rw [hout,if_pos rfl,etk,withR_out hno,ew,ho0,withR,if_pos (by omega)]
    simp [withR]
   have hd2:(true=true↔∃ y∈l.take (k+1),r.1<y.1):=⟨fun _=>⟨x,by rw [etk]; simp,by omega⟩,fun _=>rfl⟩
   obtain ⟨av6,cv6,rfl,_⟩:=own_slice (s6.row 0 rfl)
   simp (disch:=first|omega|exact zF rfl|exact zG rfl|exact fun h=>h|(simp only[zA,zB,zC,zD,bytesW];omega)) only[go_sem,c84L0,ea6]
   refine ⟨by omega,?_⟩
   refine bsW_agg (cs:=(recV x).toArray) ty63mkI rfl (by decide) (by decide) ?_
   simp (disch:=first|omega|exact zF rfl|exact zG rfl|exact fun h=>h|(simp only[zA,zB,zC,zD,bytesW];omega)) only[go_sem,c84L0]
   refine (s6.alloc' (.cells (recV x).toArray 71)).append 0 rfl ty63mkI rfl (by decide) (recx x _) rone (by omega) (by omega) ?_
   intro v7 w7 s7 c7
   simp only [List.set_cons_zero] at s7
   have e1:(outL (k+1) true).flatMap recV=(withR out r).flatMap recV++recV x:=by rw [e0,List.flatMap_append]; simp
   have e2:(outL (k+1) true).length=(withR out r).length+1:=by rw [e0]; simp
   rw [← e1,← e2] at s7
   simp (disch:=first|omega|exact zF rfl|exact zG rfl|exact fun h=>h|(simp only[zA,zB,zC,zD,bytesW];omega)) only[go_sem,c84L0]
   exact ⟨⟨by omega,by omega⟩,(k+1,v7,true),rfl,⟨by simp only; omega,hd2,s7⟩,by simp only; omega⟩
  ·have ea2:=cap w2.drew (hbb _ s2.bel)
   have e0:outL (k+1) false=out++[x]:=by
    rw [hout,if_neg (by decide),etk,ho0]
   have hd2:(false=true↔∃ y∈l.take (k+1),r.1<y.1):=⟨fun hc=>(by cases hc),fun ⟨y,hy,hlt2⟩=>by
    rw [etk] at hy
    rcases List.mem_append.1 hy with hy | hy
    ·exact absurd ⟨y,hy,hlt2⟩ hno
    ·rw [List.mem_singleton] at hy; subst hy; omega⟩
   simp (disch:=first|omega|exact zF rfl|exact zG rfl|exact fun h=>h|(simp only[zA,zB,zC,zD,bytesW];omega)) only[go_sem,c84L0,ea]
   refine ⟨by omega,?_⟩
   refine bsW_agg (cs:=(recV x).toArray) ty63mkI rfl (by decide) (by decide) ?_
   simp (disch:=first|omega|exact zF rfl|exact zG rfl|exact fun h=>h|(simp only[zA,zB,zC,zD,bytesW];omega)) only[go_sem,c84L0]
   refine (s2.alloc' (.cells (recV x).toArray 71)).append 0 rfl ty63mkI rfl (by decide) (recx x _) rone (by omega) (by omega) ?_
   intro v7 w7 s7 c7
   simp only [List.set_cons_zero] at s7
   have e1:(outL (k+1) false).flatMap recV=out.flatMap recV++recV x:=by rw [e0,List.flatMap_append]; simp
   have e2:(outL (k+1) false).length=out.length+1:=by rw [e0]; simp
   rw [← e1,← e2] at s7
   simp (disch:=first|omega|exact zF rfl|exact zG rfl|exact fun h=>h|(simp only[zA,zB,zC,zD,bytesW];omega)) only[go_sem,c84L0]
   exact ⟨⟨by omega,by omega⟩,(k+1,v7,false),rfl,⟨by simp only; omega,hd2,s7⟩,by simp only; omega⟩
open Go Go.Ann Go.RowKit Go.WideShapes
theorem Pgr.addRow{e:En}{P:List (List UInt8)}{W0 w w':World}{F:Nat→Prop}{L:List Res}{I:List Inv}{u:Value}{t sz n:Nat}{xs:List Value}(h:Pgr e P W0 w F L I)(o:w'.ownsRow w.heap.size t sz u n xs)(b:Below w.heap.size w w'):Pgr e P W0 w' F (.row u t sz n xs::L) I:=by
 obtain ⟨A,s,k⟩:=h.lift
 exact k _ _ _ (s.add b (.row u t sz n xs) (Slt.own_mono o s.size) fun k hk=>(o.lt k hk).1)
structure Law(n:Nat)(i:Int)(e:En)(P:List (List UInt8))(X:List (Nat × List Ent))(l:List (Nat × List UInt8)):Prop where
 hp:HpN e.mx n i P X []
 real:Real X
 perm:l.Perm (recsX X)
 sort:SortR l
 safe:∃ S,Safe e S
section
variable {n:Nat} {i:Int} {e:En} {P:List (List UInt8)} {X:List (Nat × List Ent)} {l:List (Nat × List UInt8)}
theorem Law.pages(h:Law n i e P X l):(pagesX X).length≤9 * l.length:=by
 have h1:=h.hp.cost h.real
 have h2:=costR_le (l:=recsX X) (c:=8) fun x hx=>moreN_le (rec_len h.hp hx).2
 rw [h.perm.length_eq]
 omega
theorem Law.few(h:Law n i e P X l):l.length≤63500:=by
 have h1:=h.hp.ids_len
 have h2:=h.hp.few
 have h3:=pagesX_le X
 have h4:=h.hp.big
 have h5:=h.perm.length_eq
 unfold idsX at h1
 rw [List.length_map] at h1
 rw [List.length_append] at h2
 omega
theorem Law.put{P':List (List UInt8)}{X':List (Nat × List Ent)}{r:List UInt8}{id:Nat}(h:Law n i e P X l)(hp:HpN e.mx n i P' X' [])(put:PutX X r id X'):Law n i e P' X' (withR l (id,r))∧(∀ x∈l,(x.1:Int)≠(id:Int))∧512≤id:=by
 have hr:=put.recs
 have hk:=(hr.map Prod.fst).nodup_iff.1 hp.keys
 rw [List.map_cons,List.nodup_cons] at hk
 have hn:id ∉ l.map Prod.fst:=fun hc=>hk.1 ((h.perm.map Prod.fst).mem_iff.1 hc)
 refine ⟨⟨hp,put.real h.real,((withR_perm l (id,r)).trans (h.perm.cons _)).trans hr.symm,withR_sort h.sort hn,h.safe⟩,fun x hx hc=>hn (List.mem_map.2 ⟨x,hx,by omega⟩),(hp.ids (hr.mem_iff.2 List.mem_cons_self)).1⟩
theorem Law.del{P':List (List UInt8)}{X':List (Nat × List Ent)}{k:Nat}{r:List UInt8}(h:Law n i e P X l)(hp:HpN e.mx n i P' X' [])(hr':Real X')(hx:(recsX X).Perm ((k,r)::recsX X')):Law n i e P' X' (withoutR l k)∧(k,r)∈l:=by
 have hm:(k,r)∈l:=h.perm.mem_iff.2 (hx.mem_iff.2 List.mem_cons_self)
 have h1:=withoutR_perm h.sort.nodup hm
 refine ⟨⟨hp,hr',?_,withoutR_sort h.sort,h.safe⟩,hm⟩
 have h2:=(h1.symm.trans h.perm).trans hx
 exact List.Perm.cons_inv h2
theorem Law.absent{id:Int}(h:Law n i e P X l)(hno:NotAt X id):∀ x∈l,(x.1:Int)≠id:=by
 intro x hx hc
 obtain ⟨k,r⟩:=x
 exact notAt_rec hno (h.perm.mem_iff.1 hx) hc.symm
theorem Law.look{k:Nat}{r:List UInt8}(h:Law n i e P X l)(hm:(k,r)∈l):lookR l k=(r,true):=by
 obtain ⟨j,hj,he⟩:=List.mem_iff_getElem.1 hm
 have hno:∀ x∈l.take j,(x.1:Int)≠(k:Int):=by
  intro x hx hc
  obtain ⟨m,hm',rfl⟩:=List.mem_iff_getElem.1 hx
  rw [List.getElem_take] at hc
  rw [List.length_take] at hm'
  have:=List.pairwise_iff_getElem.1 h.sort m j (by omega) hj (by omega)
  rw [he] at this
  simp only at this
  omega
 have:=find_take (id:=(k:Int)) hno hj (by rw [he])
 rw [he] at this
 exact this
end
section
variable {W0 w:World} {F:Nat→Prop} {L:List Res} {I:List Inv} {e:En} {P:List (List UInt8)} {X:List (Nat × List Ent)} {n hb:Nat} {i:Int} {l:List (Nat × List UInt8)}
def docR(hb:Nat)(e:En)(i:Int)(lb:Nat)(v:Value)(l:List (Nat × List UInt8))(L:List Res):List Res:=hpB hb e i::.blk lb #[v] 63::.row v 71 2 l.length (l.flatMap recV)::L
abbrev DoesK(n:Nat)(i:Int)(e:En)(W0:World)(F:Nat→Prop)(L:List Res)(I:List Inv)(hb lb:Nat)(l:List (Nat × List UInt8))(u:Value)(w':World):Prop :=
 u=.bool true∧∃ (e':En) (P':List (List UInt8)) (X':List (Nat × List Ent)) (l':List (Nat × List UInt8)) (v':Value),e'.p=e.p∧e'.mx=e.mx∧e'.hd.seq≤e.hd.seq+2∧Law n i e' P' X' l'∧l'.length≤l.length+1∧Pgr e' P' W0 w' F (docR hb e' i lb v' l' L) I
theorem does_ok{lb:Nat}{v:Value}(k:Int)(r:List UInt8)(m:Int)(h:Pgr e P W0 w F (docR hb e i lb v l L) I)(hl:Law n i e P X l)(hcap:e.mx=n∨2+9 * (l.length+1)≤e.mx)(hq:e.hd.seq≤900)(hk:I64 k)(hm:I64 m)(hr:(r.length:Int)≤9223372036854775807) :
  Ret Tryz.prog 30 [.pointer (some ⟨hb,0,none⟩),.pointer (some ⟨e.p,0,none⟩),.pointer (some ⟨lb,0,none⟩),.agg #[.int .i64 k,.string (ofL r),.int .i64 m]] w (DoesK n i e W0 F L I hb lb l):=by
 have hbig:=hl.hp.big
 have hlen:=hl.hp.given.len
 have hfew:=hl.few
 obtain ⟨va,vc,rfl,_⟩:=own_slice (h.row 2 rfl)
 refine ent30 _ _ _ _ _ _ ?_
 have h1:Pgr e P W0 (w.alloc (.cells #[.int .i64 k,.string (ofL r),.int .i64 m] 65)) F (docR hb e i lb (.slice va l.length vc) l (.blk w.heap.size #[.int .i64 k,.string (ofL r),.int .i64 m] 65::L)) I:=(h.box #[.int .i64 k,.string (ofL r),.int .i64 m] 65).perm (List.perm_middle (l₁:=[_,_,_]) (a:=Res.blk w.heap.size #[.int .i64 k,.string (ofL r),.int .i64 m] 65)).symm
 obtain ⟨b7,hb7⟩:∃ b,b=w.heap.size:=⟨_,rfl⟩
 rw [← hb7] at h1
 obtain ⟨w1,hw1⟩:∃ w1,w1=w.alloc (.cells #[.int .i64 k,.string (ofL r),.int .i64 m] 65):=⟨_,rfl⟩
 rw [← hw1] at h1
 -- what stays,with another list
 have out:∀ {e':En} {P':List (List UInt8)} {w':World} {v':Value} {l':List (Nat × List UInt8)} {cs:Array Value},Pgr e' P' W0 w' F (docR hb e' i lb v' l' (.blk b7 cs 65::L)) I→Pgr e' P' W0 w' F (docR hb e' i lb v' l' L) I:=fun h=>h.sub (.cons_cons _ (.cons_cons _ (.cons_cons _ (List.sublist_cons_self _ _))))
 clear h
 -- the list is put in its box anew
 have swap:∀ {P':List (List UInt8)} {w' w2:World} {u:Value} {l':List (Nat × List UInt8)} {cs:Array Value},Pgr e P' W0 w' F (docR hb e i lb (.slice va l.length vc) l (.blk b7 cs 65::L)) I→w2.ownsRow w'.heap.size 71 2 u l'.length (l'.flatMap recV)→Below w'.heap.size w' w2 →
   Pgr e P' W0 (w2.setCell ⟨lb,0,none⟩ u) F (docR hb e i lb u l' (.blk b7 cs 65::L)) I:=by
  intro P' w' w2 u l' cs h' o b
  have h2:=(h'.addRow o b).set 2 rfl 0 u
  have h3:=h2.sub (L':=.row u 71 2 l'.length (l'.flatMap recV)::hpB hb e i::.blk lb #[u] 63::.blk b7 cs 65::L) (.cons_cons _ (.cons_cons _ (.cons_cons _ (List.sublist_cons_self _ _))))
  exact h3.perm (List.perm_middle (l₁:=[_,_]) (a:=Res.row u 71 2 l'.length (l'.flatMap recV))).symm
 -- a commit
 have commit:W Tryz.prog (c30S12 ()) [(1,.pointer (some ⟨e.p,0,none⟩))] w1 (finQ Tryz.prog [.tmp 8] (DoesK n i e W0 F L I hb lb l)):=by
  obtain ⟨S,hS⟩:=hl.safe
  simp (disch:=first|omega|exact zF rfl|exact zG rfl|exact fun h=>h|(simp only[zA,zB,zC,zD,bytesW];omega)) only[go_sem,c30S5,c30S9,c30S10,c30S12]
  refine Ret.mono (pcommit_ok h1 hS hq) ?_
  rintro _ w2 ⟨rfl,e',ep,emx,eseq,hS',h2⟩
  simp (disch:=first|omega|exact zF rfl|exact zG rfl|exact fun h=>h|(simp only[zA,zB,zC,zD,bytesW];omega)) only[go_sem,c30S5,c30S9,c30S10,c30S12]
  have hb':∀ L,docR hb e i lb (.slice va l.length vc) l L=docR hb e' i lb (.slice va l.length vc) l L:=fun L=>by unfold docR hpB; rw [ep]
  rw [hb'] at h2
  exact ⟨rfl,e',P,X,l,_,ep,emx,eseq,⟨by rw [emx]; exact hl.hp,hl.real,hl.perm,hl.sort,⟨_,hS'⟩⟩,Nat.le_succ _,out h2⟩
 -- a record taken away
 have del:∀ (id:Int) (wz:World),Pgr e P W0 wz F (docR hb e i lb (.slice va l.length vc) l (.blk b7 #[.int .i64 k,.string (ofL r),.int .i64 m] 65::L)) I→I64 id→W Tryz.prog (c30S9 ()) [(0,.pointer (some ⟨hb,0,none⟩)),(2,.pointer (some ⟨lb,0,none⟩)),(14,.int .i64 id)] wz (blockQ 0 (thenQ Tryz.prog (sg c30S12) (finQ Tryz.prog [.tmp 8] (DoesK n i e W0 F L I hb lb l)))):=by
  intro id wz hz hid
  have hrd:RdS wz 2 recV (.slice va l.length vc) l:=RdS.of_own' (hz.row 2 rfl) l rfl rfl
  have rlb:=hz.rules 1 rfl
  simp (disch:=first|omega|exact zF rfl|exact zG rfl|exact fun h=>h|(simp only[zA,zB,zC,zD,bytesW];omega)) only[go_sem,c30S5,c30S9,c30S10,rlb]
  refine Ret.mono (hfind_ok id wz hrd (by omega)) ?_
  rintro _ w2 ⟨rfl,b2⟩
  have h2:=hz.below b2
  have hrd2:=hrd.below b2 (by decide)
  have rlb:=h2.rules 1 rfl
  simp (disch:=first|omega|exact zF rfl|exact zG rfl|exact fun h=>h|(simp only[zA,zB,zC,zD,bytesW];omega)) only[go_sem,c30S5,c30S9,c30S10,rlb]
  refine Ret.mono (hwithout_ok id w2 hrd2 (by omega)) ?_
  rintro u w3 ⟨o3,b3⟩
  obtain ⟨ua,uc,rfl,_⟩:=own_slice o3
  have h3':=(h2.addRow o3 b3)
  have rlb:=h3'.rules 2 rfl
  have h4:=swap h2 o3 b3
  simp (disch:=first|omega|exact zF rfl|exact zG rfl|exact fun h=>h|(simp only[zA,zB,zC,zD,bytesW];omega)) only[go_sem,c30S5,c30S9,c30S10,rlb]
  generalize w3.setCell ⟨lb,0,none⟩ (.slice ua (withoutR l id).length uc)=w4 at h4 ⊢
  refine Ret.mono (hdel_ok id h4 hl.hp hl.real hid) ?_
  rintro _ w5 ⟨P5,X5,h5,p5,real5,⟨k5,r5,rfl,x5,rfl⟩ | ⟨hno,rfl,rfl⟩⟩
  ·obtain ⟨hl5,hm5⟩:=hl.del p5 real5 x5
   have hlk:=hl.look hm5
   rw [hlk]
   simp (disch:=first|omega|exact zF rfl|exact zG rfl|exact fun h=>h|(simp only[zA,zB,zC,zD,bytesW];omega)) only[go_sem,c30S5,c30S9,c30S10]
   exact ⟨rfl,e,P5,X5,_,_,rfl,rfl,Nat.le_add_right _ _,hl5,by unfold withoutR; have:=List.length_filter_le (fun x:Nat × List UInt8=>decide ((x.1:Int)≠(k5:Int))) l; omega,out h5⟩
  ·have habs:=hl.absent hno
   have hlk:=find_no habs
   rw [hlk]
   rw [withoutR_none habs] at h5
   simp (disch:=first|omega|exact zF rfl|exact zG rfl|exact fun h=>h|(simp only[zA,zB,zC,zD,bytesW];omega)) only[go_sem,c30S5,c30S9,c30S10]
   exact ⟨rfl,e,P5,X5,l,_,rfl,rfl,Nat.le_add_right _ _,⟨p5,real5,hl.perm,hl.sort,hl.safe⟩,Nat.le_succ _,out h5⟩
 simp (disch:=first|omega|exact zF rfl|exact zG rfl|exact fun h=>h|(simp only[zA,zB,zC,zD,bytesW];omega)) only[go_sem,c30S9]
 rw [← hb7,← hw1]
 refine ⟨fun hk0=>?_,fun hk0=>⟨fun hk1=>?_,fun hk1=>?_⟩⟩
 ·subst hk0
  have r7:=h1.rules 3 rfl
  refine Ret.mono (proom_ok h1 (by omega)) ?_
  rintro _ w2 ⟨rfl,h2⟩
  have r7:=h2.rules 3 rfl
  simp (disch:=first|omega|exact zF rfl|exact zG rfl|exact fun h=>h|(simp only[zA,zB,zC,zD,bytesW];omega)) only[go_sem,c30S5,c30S9,c30S10,r7]
  have hpg:=hl.pages
  refine Ret.mono (hput_ok r h2 hl.hp hr (by omega)) ?_
  rintro _ w3 ⟨P3,X3,h3,p3,hcase⟩
  have r7:=h3.rules 3 rfl
  rcases hcase with ⟨hbad,rfl,rfl⟩ | ⟨hok,hroom,rfl,rfl⟩ | ⟨hok,hroom,id,rfl,put⟩
  ·simp (disch:=first|omega|exact zF rfl|exact zG rfl|exact fun h=>h|(simp only[zA,zB,zC,zD,bytesW];omega)) only[go_sem,c30S5,c30S9,c30S10,r7]
   have fin:DoesK n i e W0 F L I hb lb l (.bool true) w3:=⟨rfl,e,P3,X3,l,_,rfl,rfl,Nat.le_add_right _ _,⟨p3,hl.real,hl.perm,hl.sort,hl.safe⟩,Nat.le_succ _,out h3⟩
   refine ⟨fun h0=>⟨fun _=>fin,fun h2=>?_⟩,fun _=>fin⟩
   exfalso
   rcases hbad with rfl | hbad
   ·exact h0 rfl
   ·omega
  ·simp (disch:=first|omega|exact zF rfl|exact zG rfl|exact fun h=>h|(simp only[zA,zB,zC,zD,bytesW];omega)) only[go_sem,c30S5,c30S9,c30S10,r7]
   have hr1:r≠[]:=fun hc=>hok (.inl hc)
   have hr2:¬ 2000<r.length:=fun hc=>hok (.inr hc)
   have hpos:=List.length_pos_iff.2 hr1
   have hml:=moreN_le (r:=r) (by omega)
   have fin:DoesK n i e W0 F L I hb lb l (.bool true) w3:=⟨rfl,e,P3,X3,l,_,rfl,rfl,Nat.le_add_right _ _,⟨p3,hl.real,hl.perm,hl.sort,hl.safe⟩,Nat.le_succ _,out h3⟩
   exact ⟨fun h0=>⟨fun _=>by omega,fun h2=>⟨fun _=>fin,fun _=>by omega⟩⟩,fun _=>by omega⟩
  ·have hr1:r≠[]:=fun hc=>hok (.inl hc)
   have hr2:¬ 2000<r.length:=fun hc=>hok (.inr hc)
   have hpos:=List.length_pos_iff.2 hr1
   obtain ⟨hl3,habs,hid⟩:=hl.put p3 put
   have rlb:=h3.rules 1 rfl
   have hrd:RdS w3 2 recV (.slice va l.length vc) l:=RdS.of_own' (h3.row 2 rfl) l rfl rfl
   have hidl:=(p3.ids ((put.recs).mem_iff.2 List.mem_cons_self)).2
   simp (disch:=first|omega|exact zF rfl|exact zG rfl|exact fun h=>h|(simp only[zA,zB,zC,zD,bytesW];omega)) only[go_sem,c30S5,c30S9,c30S10,r7,rlb]
   refine ⟨fun h0=>⟨fun _=>by omega,fun h2=>Ret.mono (hfind_ok (id:Int) w3 hrd (by omega)) ?_⟩,fun _=>by omega⟩
   rintro _ w4 ⟨rfl,b4⟩
   rw [find_no habs]
   have h4:=h3.below b4
   simp (disch:=first|omega|exact zF rfl|exact zG rfl|exact fun h=>h|(simp only[zA,zB,zC,zD,bytesW];omega)) only[go_sem,c30S5,c30S9,c30S10]
   refine c30draw0 (Same (fun b=>b=lb) _) (Same.refl _ _) ?_
   have h5:=h4.drew
   generalize w4.drew=w5 at h5 ⊢
   have r7:=h5.rules 3 rfl
   have rlb:=h5.rules 1 rfl
   simp (disch:=first|omega|exact zF rfl|exact zG rfl|exact fun h=>h|(simp only[zA,zB,zC,zD,bytesW];omega)) only[go_sem,c30S5,c30S9,c30S10,c30D0,r7,rlb]
   have hrd5:RdS w5 2 recV (.slice va l.length vc) l:=RdS.of_own' (h5.row 2 rfl) l rfl rfl
   refine ⟨Same.refl _ _,bdW_built (cells:=#[.int .i64 (id:Nat),.string (ofL r)]) (by kernel_rfl) ?_⟩
   simp (disch:=first|omega|exact zF rfl|exact zG rfl|exact fun h=>h|(simp only[zA,zB,zC,zD,bytesW];omega)) only[go_sem,c30S5,c30S9,c30S10,c30D0]
   refine ⟨Same.refl _ _,Ret.mono (hwith_ok (id,r) w5 hrd5 (by omega)) ?_⟩
   rintro u w6 ⟨o6,b6⟩
   obtain ⟨ua,uc,rfl,_⟩:=own_slice o6
   have h6':=(h5.addRow o6 b6)
   have rlb:=h6'.rules 2 rfl
   have h7:=swap h5 o6 b6
   have hid':(0:Int)<(id:Int):=by omega
   simp (disch:=first|omega|exact zF rfl|exact zG rfl|exact fun h=>h|(simp only[zA,zB,zC,zD,bytesW];omega)) only[go_sem,c30S5,c30S9,c30S10,c30D0,rlb,hid']
   exact ⟨rfl,e,P3,X3,_,_,rfl,rfl,Nat.le_add_right _ _,hl3,by rw [withR_len]; exact Nat.le_refl _,out h7⟩
 ·subst hk1
  have r7:=h1.rules 3 rfl
  have rlb:=h1.rules 1 rfl
  simp (disch:=first|omega|exact zF rfl|exact zG rfl|exact fun h=>h|(simp only[zA,zB,zC,zD,bytesW];omega)) only[go_sem,c30S5,c30S10,r7,rlb]
  refine ⟨fun hpos=>?_,fun _=>del m w1 h1 hm⟩
  refine c30draw1 ?_
  have hrd:RdS w1 2 recV (.slice va l.length vc) l:=RdS.of_own' (h1.row 2 rfl) l rfl rfl
  obtain ⟨q,rfl⟩:=hrd.ptr (by omega)
  have ewl:IntKind.u64.wrap (l.length:Int)=(l.length:Int):=wrap_u64_id _ (by omega) (by omega)
  have hwm:0≤IntKind.u64.wrap m∧IntKind.u64.wrap m<18446744073709551616:=by rw [wrap_u64_mod]; omega
  obtain ⟨j,hj⟩:∃ j:Nat,(IntKind.u64.wrap m).tmod (l.length:Int)=(j:Int):=⟨((IntKind.u64.wrap m).tmod (l.length:Int)).toNat,by rw [Int.toNat_of_nonneg]; exact Int.tmod_nonneg _ hwm.1⟩
  have hjl:j<l.length:=by
   have:=Int.tmod_lt_of_pos (IntKind.u64.wrap m) (show (0:Int)<l.length by omega)
   omega
  have el:=hrd.eltB (Below.refl _ _) recV_len (by decide) hjl
  have rv:=recV_at l[j]
  have hjl':(j:Int)<l.length:=by omega
  have hidj:(l[j].1:Int)≤1000000:=by
   have:=(hl.hp.ids (r:=l[j].2) (id:=l[j].1) (hl.perm.mem_iff.1 (List.getElem_mem hjl))).2
   have:l[j].1≤1000000:=by omega
   exact Int.ofNat_le.2 this
  simp (disch:=first|omega|exact zF rfl|exact zG rfl|exact fun h=>h|(simp only[zA,zB,zC,zD,bytesW];omega)) only[go_sem,c30S5,c30S10,c30D1,r7,rlb,ewl,hj,el,rv,hjl']
  exact ⟨by omega,⟨by omega,by omega⟩,by omega,del (l[j].1:Int) w1.drew h1.drew ⟨by omega,by omega⟩⟩
 ·have r7:=h1.rules 3 rfl
  by_cases hk2:k=2
  ·subst hk2
   simp (disch:=first|omega|exact zF rfl|exact zG rfl|exact fun h=>h|(simp only[zA,zB,zC,zD,bytesW];omega)) only[go_sem,c30S5,c30S10,r7]
   exact del m w1 h1 hm
  ·simp (disch:=first|omega|exact zF rfl|exact zG rfl|exact fun h=>h|(simp only[zA,zB,zC,zD,bytesW];omega)) only[go_sem,c30S5,c30S10,hk2,hk1,r7]
   exact commit
end
open Go Go.Ann Go.RowKit Go.WideShapes
section
variable {W0 w:World} {F:Nat→Prop} {L:List Res} {I:List Inv} {e:En} {P:List (List UInt8)} {X:List (Nat × List Ent)} {E:List Nat} {n hb:Nat} {i:Int}
theorem hcount_ok(h:Pgr e P W0 w F (hpB hb e i::L) I)(hp:HpN e.mx n i P X E)(hr:Real X) :
  Ret Tryz.prog 37 [.pointer (some ⟨hb,0,none⟩)] w fun u w'=>u=.int .i64 (recsX X).length∧Pgr e P W0 w' F (hpB hb e i::L) I:=by
 refine ent37 _ _ _ ?_
 simp (disch:=first|omega|exact zF rfl|exact zG rfl|exact fun h=>h|(simp only[zA,zB,zC,zD,bytesW];omega)) only[go_sem]
 refine Ret.mono (ids_ok h hp hr) ?_
 rintro _ w2 ⟨ys,hy,_,h2⟩
 obtain ⟨ua,uc,rfl,_⟩:=own_slice (h2.row 0 rfl)
 have e1:ys.length=(recsX X).length:=by rw [hy.length_eq]; unfold idsX; rw [List.length_map]
 rw [e1] at h2 ⊢
 simp (disch:=first|omega|exact zF rfl|exact zG rfl|exact fun h=>h|(simp only[zA,zB,zC,zD,bytesW];omega)) only[go_sem]
 exact h2.sub (List.sublist_cons_self ..)
end
theorem kOk_i64{n:Int}(h:kOk .i64 n):I64 n:=by
 unfold kOk Lit.wf at h
 simp [IntKind.min,IntKind.max,IntKind.signed,IntKind.bits] at h
 exact ⟨by omega,by omega⟩
structure ActT where
 Kind:Int
 Rec:List UInt8
 N:Int
def ActT.enc(a:ActT):List Value:=[.int .i64 a.Kind,.string (ofL a.Rec),.int .i64 a.N]
def ActT.wf(a:ActT):Prop:=kOk .i64 a.Kind∧(a.Rec.length:Int)≤9223372036854775807∧kOk .i64 a.N
theorem ActT.len(a:ActT):a.enc.length=3:=rfl
theorem ActT.at(a:ActT):a.enc[0]?=some (.int .i64 a.Kind)∧a.enc[1]?=some (.string (ofL a.Rec))∧a.enc[2]?=some (.int .i64 a.N):=⟨rfl,rfl,rfl⟩
theorem opens_ActT:Opens Tryz.prog 65 (fun _ (a:ActT) cs=>cs=a.enc∧a.wf):=by
 intro H enc w base sp hd fuel cs x hx
 obtain ⟨hl,hf⟩:=opens_fields Tryz.underlying65 hx
 rw [show Tryz.prog.cellsOf 65=3 by kernel_rfl] at hl
 have c_0:Tryz.prog.cellsOf 3=1:=by kernel_rfl
 have c_1:Tryz.prog.cellsOf 9=1:=by kernel_rfl
 match cs,hl with
 | [v0,v1,v2],_ =>
  obtain ⟨n0,y0,g0⟩:=hf 0 _ rfl
  have h0:DataW.trod enc Tryz.prog w base sp hd n0 3 (List.take (Tryz.prog.cellsOf 3) [v0,v1,v2])=some y0:=g0
  rw [c_0] at h0
  obtain ⟨a0,e0⟩:=opens_int Tryz.underlying3 enc w base sp hd n0 [v0] y0 h0
  have r0:v0=_:=(List.cons.inj e0.1).1
  obtain ⟨n1,y1,g1⟩:=hf 1 _ rfl
  have h1:DataW.trod enc Tryz.prog w base sp hd n1 9 (List.take (Tryz.prog.cellsOf 9) [v1,v2])=some y1:=g1
  rw [c_1] at h1
  obtain ⟨a1,e1⟩:=opens_str Tryz.underlying9 enc w base sp hd n1 [v1] y1 h1
  have r1:v1=_:=(List.cons.inj e1.1).1
  obtain ⟨n2,y2,g2⟩:=hf 2 _ rfl
  have h2:DataW.trod enc Tryz.prog w base sp hd n2 3 (List.take (Tryz.prog.cellsOf 3) [v2])=some y2:=g2
  rw [c_0] at h2
  obtain ⟨a2,e2⟩:=opens_int Tryz.underlying3 enc w base sp hd n2 [v2] y2 h2
  have r2:v2=_:=(List.cons.inj e2.1).1
  exact ⟨⟨a0,a1,a2⟩,by rw [r0,r1,r2]; rfl,e0.2,e1.2,e2.2⟩
theorem ActT.ints(a:ActT)(h:a.wf):I64 a.Kind∧I64 a.N:=by
 obtain ⟨h1,_,h2⟩:=h
 exact ⟨kOk_i64 h1,kOk_i64 h2⟩
theorem opens_Acts:Opens Tryz.prog 62 (fun w (xs:List ActT) cs=>∃ v,cs=[v]∧RdS w 3 ActT.enc v xs∧(∀ x∈xs,x.wf)∧(xs.length:Int)≤9223372036854775807) :=
 Opens.mono (opens_slice opens_ActT Tryz.underlying62 (by kernel_rfl)) fun w xs cs ⟨v,h1,h2,h3⟩ =>
  have h:=h2.plain (enc:=ActT.enc) (ok:=ActT.wf) fun _ _ h=>h
  ⟨xs,v,h1,h.1,h.2,h3⟩
open Go Go.Ann Go.RowKit Go.WideShapes
def LawS(n mx p:Nat)(W0 w':World)(hb lb k:Nat):Prop:=∃ (e:En) (P:List (List UInt8)) (X:List (Nat × List Ent)) (l:List (Nat × List UInt8)) (v:Value),
 Pgr e P W0 w' (fun _=>False) (docR hb e 9 lb v l []) []∧Law n 9 e P X l∧e.mx=mx∧e.p=p∧l.length≤k∧e.hd.seq≤2+2 * k
theorem LawS.bel{n mx p:Nat}{W0 w':World}{hb lb k:Nat}(h:LawS n mx p W0 w' hb lb k):Below W0.heap.size W0 w':=by
 obtain ⟨e,P,X,l,v,h,_⟩:=h
 exact h.bel
theorem LawS.start{n mx:Nat}{e:En}{W0 w' w3:World}{hb:Nat}{P:List (List UInt8)}(h:Pgr e P W0 w' (fun _=>False) [hpB hb e 9] [])(hP:P=fmtP (List.replicate n zeroB))(h0:3≤n)(h1:n≤400)(hm:3≤mx∧mx≤n)(hmx:e.mx=mx)(e1:e.hd=newHd n 400)(e2:e.m=newDkP n 400)(hbl:blocksN mx≤400)
  (e3:w3=w'.alloc (.cells #[.slice none 0 0] 63)):LawS n mx e.p W0 w3 hb w'.heap.size 0:=by
 subst hmx hP e3
 refine ⟨e,_,[],[],.slice none 0 0,?_,⟨hpN_start h0 (by omega) hm (by decide),fun x hx=>(by cases hx),List.Perm.refl _,List.Pairwise.nil,⟨_,safe_start h0 h1 e1 e2 hbl⟩⟩,rfl,rfl,Nat.zero_le _,by rw [e1]; exact Nat.le_refl 2⟩
 have s5:=h.box #[.slice none 0 0] 63
 obtain ⟨A,st,back⟩:=s5.lift
 exact (back _ (.row (.slice none 0 0) 71 2 0 []::_) _ (st.nilRow 71 2)).perm (List.reverse_perm [Res.row (.slice none 0 0) 71 2 0 [],.blk w'.heap.size #[.slice none 0 0] 63,hpB hb e 9]).symm
theorem LawS.next{n mx p:Nat}{W0 w:World}{hb lb k:Nat}(h:LawS n mx p W0 w hb lb k):LawS n mx p W0 w hb lb (k+1):=by
 obtain ⟨e,P,X,l,v,h,hl,h1,h2,h3,h4⟩:=h
 exact ⟨e,P,X,l,v,h,hl,h1,h2,by omega,by omega⟩
theorem LawS.does{n mx p:Nat}{W0 w:World}{hb lb k:Nat}(h:LawS n mx p W0 w hb lb k)(a:ActT)(ha:a.wf)(hcap:mx=n∨2+9 * (k+1)≤mx)(hk:k≤400) :
  Ret Tryz.prog 30 [.pointer (some ⟨hb,0,none⟩),.pointer (some ⟨p,0,none⟩),.pointer (some ⟨lb,0,none⟩),.agg a.enc.toArray] w fun u w'=>u=.bool true∧LawS n mx p W0 w' hb lb (k+1):=by
 obtain ⟨e,P,X,l,v,h,hl,h1,rfl,h3,h4⟩:=h
 have hi:=a.ints ha
 refine Ret.mono (does_ok a.Kind a.Rec a.N h hl (by omega) (by omega) hi.1 hi.2 ha.2.1) ?_
 rintro _ w2 ⟨rfl,e2,P2,X2,l2,v2,q1,q2,q3,q4,q5,q6⟩
 exact ⟨rfl,e2,P2,X2,l2,v2,q6,q4,by omega,q1,by omega,by omega⟩
open Go Go.Ann Go.RowKit Go.WideShapes
section
variable {W0 w:World} {F:Nat→Prop} {L R:List Res} {I:List Inv} {e:En} {P:List (List UInt8)} {X:List (Nat × List Ent)} {E:List Nat} {n hb b lb:Nat} {i most:Int} {v:Value} {l:List (Nat × List UInt8)}
theorem hall_ok(w:World):Ret Tryz.prog 87 [.pointer (some ⟨hb,0,none⟩)] w fun u w'=>u=.func (.func 143) #[] #[.pointer (some ⟨w.heap.size,0,none⟩)]∧w'=w.alloc (.cells #[.pointer (some ⟨hb,0,none⟩)] 27):=by
 refine ent87 _ _ _ ?_
 simp (disch:=first|omega|exact zF rfl|exact zG rfl|exact fun h=>h|(simp only[zA,zB,zC,zD,bytesW];omega)) only[go_sem]
def shR(b:Nat)(v:Value)(most n:Int)(g:Bool):List Res:=[.blk (b+3) #[.bool g] 4,.blk (b+2) #[.int .i64 n] 3,.blk (b+1) #[.int .i64 most] 3,.blk b #[v] 63]
theorem shows1_ok{k:Nat}(h:Pgr e P W0 w F (shR b v most k true++R) I)(hr:RdS w 2 recV v l)(hk:k<l.length)(hl:l.length≤100000) :
  Ret Tryz.prog 88 [.int .i64 (l[k].1:Nat),.string (ofL l[k].2),.pointer (some ⟨b+3,0,none⟩),.pointer (some ⟨b+2,0,none⟩),.pointer (some ⟨b,0,none⟩),.pointer (some ⟨b+1,0,none⟩)] w fun u w'=>u=.bool (decide ((k:Int)+1<most))∧Pgr e P W0 w' F (shR b v most ((k:Int)+1) true++R) I:=by
 obtain ⟨a,c,rfl,_⟩:=hr.form
 obtain ⟨q,rfl⟩:=hr.ptr (by omega)
 have el:=hr.eltB (Below.refl _ _) recV_len (by decide) hk
 have rv:=recV_at l[k]
 have hk':(k:Int)<l.length:=by omega
 have r8:=h.rules 0 rfl
 have r7:=h.rules 1 rfl
 have r5:=h.rules 2 rfl
 have r4:=h.rules 3 rfl
 refine ent88 _ _ _ _ _ _ _ _ ?_
 simp (disch:=first|omega|exact zF rfl|exact zG rfl|exact fun h=>h|(simp only[zA,zB,zC,zD,bytesW];omega)) only[go_sem,el,rv,hk',r8,r7,r5,r4]
 exact ⟨by omega,by omega,⟨by omega,by omega⟩,(h.set 0 rfl 0 (.bool true)).set 1 rfl 0 (.int .i64 ((k:Int)+1))⟩
theorem hall1_ok{pb:Nat}(h:Pgr e P W0 w F (.blk pb #[.pointer (some ⟨hb,0,none⟩)] 27::(shR b v most 0 true++docR hb e i lb v l L)) I)(hl:Law n i e P X l)(hm:0<most) :
  Ret Tryz.prog 143 [.func (.func 88) #[] #[.pointer (some ⟨b+3,0,none⟩),.pointer (some ⟨b+2,0,none⟩),.pointer (some ⟨b,0,none⟩),.pointer (some ⟨b+1,0,none⟩)],.pointer (some ⟨pb,0,none⟩)] w fun _ w' =>
   Pgr e P W0 w' F (.blk pb #[.pointer (some ⟨hb,0,none⟩)] 27::(shR b v most (min (l.length:Int) most) true++docR hb e i lb v l L)) I:=by
 have hfew:=hl.few
 have rp:=h.rules 0 rfl
 refine ent143 _ _ _ _ ?_
 simp (disch:=first|omega|exact zF rfl|exact zG rfl|exact fun h=>h|(simp only[zA,zB,zC,zD,bytesW];omega)) only[go_sem,rp]
 refine Ret.mono (ids_ok (h.perm (List.perm_middle (l₁:=[_,_,_,_,_]))) hl.hp hl.real) ?_
 rintro _ w3 ⟨ys,hy,hys,h3⟩
 obtain rfl:ys=l.map Prod.fst:=sorted_one (hy.trans (by unfold idsX; exact (hl.perm.map _).symm)) hys (List.pairwise_map.2 hl.sort)
 rw [List.length_map] at h3
 obtain ⟨ua,uc,rfl,_⟩:=own_slice (h3.row 0 rfl)
 simp (disch:=first|omega|exact zF rfl|exact zG rfl|exact fun h=>h|(simp only[zA,zB,zC,zD,bytesW];omega)) only[go_sem]
 have fin:∀ {w':World} {m:Int} {r:Res},Pgr e P W0 w' F (r::hpB hb e i::([.blk pb #[.pointer (some ⟨hb,0,none⟩)] 27]++shR b v most m true++.blk lb #[v] 63::.row v 71 2 l.length (l.flatMap recV)::L)) I →
   Pgr e P W0 w' F (.blk pb #[.pointer (some ⟨hb,0,none⟩)] 27::(shR b v most m true++docR hb e i lb v l L)) I:=fun h=>(h.sub (List.sublist_cons_self ..)).perm (List.perm_middle (l₁:=[_,_,_,_,_])).symm
 refine W_loopU (fun k:Nat=>[(10,.int .i64 k)]) (fun k w'=>k≤l.length∧(k:Int)<most∧Pgr e P W0 w' F (.row (.slice ua l.length uc) 3 1 l.length ((l.map Prod.fst).flatMap natE)::hpB hb e i::([.blk pb #[.pointer (some ⟨hb,0,none⟩)] 27]++shR b v most k true++.blk lb #[v] 63::.row v 71 2 l.length (l.flatMap recV)::L)) I) (fun k=>l.length - k) 0 rfl ⟨Nat.zero_le _,hm,h3⟩ ?_
 rintro k w4 ⟨hk,hkm,h4⟩
 by_cases hlt:k<l.length
 case neg =>
  have hlt':¬ (k:Int)<l.length:=by omega
  have em:min (l.length:Int) most=k:=by omega
  rw [em]
  simp (disch:=first|omega|exact zF rfl|exact zG rfl|exact fun h=>h|(simp only[zA,zB,zC,zD,bytesW];omega)) only[go_sem,c143L0,c143L0,hlt']
  exact fin h4
 have hlt':(k:Int)<l.length:=by omega
 have hrd:RdS w4 1 natE (.slice ua l.length uc) (l.map Prod.fst):=RdS.of_own' (h4.row 0 rfl) (l.map Prod.fst) (by rw [List.length_map]) rfl
 obtain ⟨p,rfl⟩:=hrd.ptr (by rw [List.length_map]; omega)
 have ek:w4.cell? (p.add k)=some (.int .i64 (l[k].1:Nat)):=by
  have:=RdS.at1 (e1:=fun n:Nat=>.int .i64 n) hrd (k:=k) (by rw [List.length_map]; omega)
  rw [List.getElem_map] at this
  exact this
 have rp:=h4.rules 2 rfl
 simp (disch:=first|omega|exact zF rfl|exact zG rfl|exact fun h=>h|(simp only[zA,zB,zC,zD,bytesW];omega)) only[go_sem,c143L0,c143L0,hlt',ek,rp]
 refine ⟨by omega,Ret.mono (hget_some (r:=l[k].2) (h4.perm (List.Perm.swap _ _ _)) hl.hp hl.real (hl.perm.mem_iff.1 (List.getElem_mem hlt))) ?_⟩
 rintro _ w5 ⟨rfl,h5⟩
 simp (disch:=first|omega|exact zF rfl|exact zG rfl|exact fun h=>h|(simp only[zA,zB,zC,zD,bytesW];omega)) only[go_sem,c143L0]
 have h5:=h5.perm (List.Perm.swap _ _ _)
 have hrd5:RdS w5 2 recV v l:=RdS.of_own' (h5.row 8 rfl) l rfl rfl
 have h6:Pgr e P W0 w5 F (shR b v most k true++.row (.slice (some p) l.length uc) 3 1 l.length ((l.map Prod.fst).flatMap natE)::hpB hb e i::.blk pb #[.pointer (some ⟨hb,0,none⟩)] 27::.blk lb #[v] 63::.row v 71 2 l.length (l.flatMap recV)::L) I :=
  h5.perm ((List.perm_append_comm (l₁:=[_,_,_]) (l₂:=shR b v most k true)).append_right _)
 refine callW_go ⟨by kernel_rfl,Ret.mono (shows1_ok h6 hrd5 hlt (by omega)) ?_⟩
 rintro _ w6 ⟨rfl,h7⟩
 have h7:Pgr e P W0 w6 F (shR b v most ((k:Int)+1) true++([.row (.slice (some p) l.length uc) 3 1 l.length ((l.map Prod.fst).flatMap natE),hpB hb e i,.blk pb #[.pointer (some ⟨hb,0,none⟩)] 27]++.blk lb #[v] 63::.row v 71 2 l.length (l.flatMap recV)::L)) I:=h7
 rw [← List.append_assoc] at h7
 have h8:Pgr e P W0 w6 F (.row (.slice (some p) l.length uc) 3 1 l.length ((l.map Prod.fst).flatMap natE)::hpB hb e i::.blk pb #[.pointer (some ⟨hb,0,none⟩)] 27::(shR b v most ((k:Int)+1) true++.blk lb #[v] 63::.row v 71 2 l.length (l.flatMap recV)::L)) I :=
  h7.perm (List.perm_append_comm.append_right _)
 by_cases hgo:(k:Int)+1<most
 ·simp (disch:=first|omega|exact zF rfl|exact zG rfl|exact fun h=>h|(simp only[zA,zB,zC,zD,bytesW];omega)) only[go_sem,c143L0,hgo]
  exact ⟨⟨by omega,by omega⟩,k+1,rfl,⟨hlt,by omega,h8⟩,by omega⟩
 ·have em:min (l.length:Int) most=(k:Int)+1:=by omega
  rw [em]
  simp (disch:=first|omega|exact zF rfl|exact zG rfl|exact fun h=>h|(simp only[zA,zB,zC,zD,bytesW];omega)) only[go_sem,c143L0,hgo]
  exact fin h8
theorem shows_ok(most:Int)(h:Pgr e P W0 w F (docR hb e i lb v l L) I)(hl:Law n i e P X l)(hm:I64 most) :
  Ret Tryz.prog 31 [.pointer (some ⟨hb,0,none⟩),v,.int .i64 most] w fun u w'=>u=.bool true∧Pgr e P W0 w' F (docR hb e i lb v l L) I:=by
 have hfew:=hl.few
 obtain ⟨va,vc,rfl,_⟩:=own_slice (h.row 2 rfl)
 refine ent31 _ _ _ _ _ ?_
 simp (disch:=first|omega|exact zF rfl|exact zG rfl|exact fun h=>h|(simp only[zA,zB,zC,zD,bytesW];omega)) only[go_sem]
 have h7:=((h.box #[.slice va l.length vc] 63).box #[.int .i64 most] 3).box #[.int .i64 0] 3
 have r7:=h7.rules 0 rfl
 have h7:=h7.set 0 rfl 0 (.int .i64 0)
 have h8:=h7.box #[.bool false] 4
 have r8:=h8.rules 0 rfl
 have h8:=h8.set 0 rfl 0 (.bool true)
 simp only [World.size_alloc,World.size_setCell,Nat.add_assoc,Nat.reduceAdd] at r7 r8 h8 ⊢
 refine ⟨⟨_,r7.1 0⟩,r7.2.1 0,⟨_,r8.1 0⟩,r8.2.1 0,?_⟩
 clear r7 r8 h7
 generalize w.heap.size=b at h8 ⊢
 generalize World.setCell _ ⟨b+3,0,none⟩ (.bool true)=w9 at h8 ⊢
 have h9:Pgr e P W0 w9 F (shR b (.slice va l.length vc) most 0 true++docR hb e i lb (.slice va l.length vc) l L) I:=h8
 clear h8
 have tail:∀ w' n,n=min (l.length:Int) (max 0 most)→Pgr e P W0 w' F (shR b (.slice va l.length vc) most n true++docR hb e i lb (.slice va l.length vc) l L) I →
   W Tryz.prog (c31S3 ()) [(0,.pointer (some ⟨hb,0,none⟩)),(4,.pointer (some ⟨b,0,none⟩)),(5,.pointer (some ⟨b+1,0,none⟩)),(7,.pointer (some ⟨b+2,0,none⟩)),(8,.pointer (some ⟨b+3,0,none⟩))] w' (finQ Tryz.prog [.tmp 6] fun u w'=>u=.bool true∧Pgr e P W0 w' F (docR hb e i lb (.slice va l.length vc) l L) I):=by
  rintro w' n hn h
  simp (disch:=first|omega|exact zF rfl|exact zG rfl|exact fun h=>h|(simp only[zA,zB,zC,zD,bytesW];omega)) only[go_sem,c31S0,c31S1,c31S3]
  refine c31draw0 (Same (fun k=>k=b+2∨k=b) _) (Same.refl _ _) ?_
  have h2:=h.drew
  generalize w'.drew=w2 at h2 ⊢
  have r8:=h2.rules 0 rfl
  have r7:=h2.rules 1 rfl
  have r5:=h2.rules 2 rfl
  have r4:=h2.rules 3 rfl
  have el:=hl.perm.length_eq
  simp (disch:=first|omega|exact zF rfl|exact zG rfl|exact fun h=>h|(simp only[zA,zB,zC,zD,bytesW];omega)) only[go_sem,c31S0,c31S1,c31S3,c31D0,r8,r7,r5,r4]
  refine ⟨Same.refl _ _,Same.refl _ _,fun _=>Ret.mono (hcount_ok (h2.perm (List.perm_middle (l₁:=[_,_,_,_]))) hl.hp hl.real) ?_,fun hc=>absurd hn hc⟩
  rintro _ w3 ⟨rfl,h3⟩
  rw [← el]
  simp (disch:=first|omega|exact zF rfl|exact zG rfl|exact fun h=>h|(simp only[zA,zB,zC,zD,bytesW];omega)) only[go_sem,c31S0,c31S1,c31S3,c31D0]
  refine ⟨?_,h3.sub (.cons_cons _ (.cons _ (.cons _ (.cons _ (.cons _ (List.Sublist.refl _))))))⟩
  rintro k (rfl | rfl)
  ·exact (h3.bk 2 rfl).trans (h2.bk 1 rfl).symm
  ·exact (h3.bk 4 rfl).trans (h2.bk 3 rfl).symm
 refine ⟨fun hpos=>?_,fun hneg=>tail _ _ (by omega) h9⟩
 refine Ret.mono (hall_ok w9) ?_
 rintro _ w10 ⟨rfl,rfl⟩
 simp (disch:=first|omega|exact zF rfl|exact zG rfl|exact fun h=>h|(simp only[zA,zB,zC,zD,bytesW];omega)) only[go_sem,c31S0,c31S1]
 have h10:=h9.box #[.pointer (some ⟨hb,0,none⟩)] 27
 generalize w9.heap.size=pb at h10 ⊢
 generalize w9.alloc (.cells #[.pointer (some ⟨hb,0,none⟩)] 27)=w10 at h10 ⊢
 refine callW_go ⟨by kernel_rfl,Ret.mono (hall1_ok h10 hl hpos) ?_⟩
 rintro _ w11 h11
 simp (disch:=first|omega|exact zF rfl|exact zG rfl|exact fun h=>h|(simp only[zA,zB,zC,zD,bytesW];omega)) only[go_sem,c31S0,c31S1]
 exact tail _ _ (by omega) (h11.sub (List.sublist_cons_self ..))
end
open Go Go.Ann Go.RowKit Go.WideShapes
theorem heapPlays_ok{va:Value}{acts:List ActT}(most:Int)(w:World)(hm:I64 most)(ha:RdS w 3 ActT.enc va acts)(hw:∀ a∈acts,a.wf)(hal:(acts.length:Int)≤9223372036854775807) :
  Ret Tryz.prog 6 [va,.int .i64 most] w fun u w'=>u=.bool true∧Below w.heap.size w w':=by
 obtain ⟨aa,ac,rfl,_⟩:=ha.form
 refine ent6 _ _ _ _ ?_
 simp (disch:=first|omega|exact zF rfl|exact zG rfl|exact fun h=>h|(simp only[zA,zB,zC,zD,bytesW];omega)) only[go_sem,c6L0,c6S6,c6S7]
 refine Ret.mono (begun25_ok (n:=400) 300 (St.start (W0:=w)) (by decide) (by decide) (by decide)) ?_
 rintro _ w2 ⟨e,rfl,e1,e2,hmx,h2⟩
 have p2:=hpN_start (mx:=e.mx) (n:=400) (i:=9) (by decide) (by decide) (by rw [hmx]; decide) (by decide)
 simp (disch:=first|omega|exact zF rfl|exact zG rfl|exact fun h=>h|(simp only[zA,zB,zC,zD,bytesW];omega)) only[go_sem,c6L0,c6S6,c6S7]
 refine Ret.mono (opened_ok h2 p2) ?_
 rintro _ w4 ⟨hb,rfl,h4⟩
 simp (disch:=first|omega|exact zF rfl|exact zG rfl|exact fun h=>h|(simp only[zA,zB,zC,zD,bytesW];omega)) only[go_sem,c6L0,c6S6,c6S7]
 obtain ⟨w5,hw5⟩:∃ w5,w5=w4.alloc (.cells #[.slice none 0 0] 63):=⟨_,rfl⟩
 have s5:=LawS.start h4 rfl (by decide) (by decide) (by decide) hmx e1 e2 (by decide) hw5
 rw [← hw5]
 clear hw5 h2 h4 p2
 generalize e.p=p at s5 ⊢
 generalize w4.heap.size=lb at s5 ⊢
 have fin:∀ w',Below w.heap.size w w'→W Tryz.prog (c6S12 ()) [] w' (finQ Tryz.prog [.tmp 4] fun u w'=>u=.bool true∧Below w.heap.size w w'):=fun w' hb=>by
  simp (disch:=first|omega|exact zF rfl|exact zG rfl|exact fun h=>h|(simp only[zA,zB,zC,zD,bytesW];omega)) only[go_sem,c6L0,c6S6,c6S7,c6L1,c6S12]
  refine Ret.mono (hawake_ok w') ?_
  rintro _ w5 ⟨rfl,b5⟩
  simp (disch:=first|omega|exact zF rfl|exact zG rfl|exact fun h=>h|(simp only[zA,zB,zC,zD,bytesW];omega)) only[go_sem,c6L0,c6S6,c6S7,c6L1,c6S12]
  exact Below.next hb b5
 refine W_loopU (fun k:Nat=>[(9,.int .i64 k)]) (fun k w'=>LawS 400 300 p w w' hb lb k∧k≤30∧k≤acts.length) (fun k=>30 - k) 0 rfl ⟨s5,Nat.zero_le _,Nat.zero_le _⟩ ?_
 rintro k w6 ⟨s6,hk,hkl⟩
 by_cases hlt:k<acts.length
 case neg =>
  have hlt':¬ (k:Int)<acts.length:=by omega
  simp (disch:=first|omega|exact zF rfl|exact zG rfl|exact fun h=>h|(simp only[zA,zB,zC,zD,bytesW];omega)) only[go_sem,c6L0,c6S6,c6S7,c6L1,c6L1,hlt']
  exact fin _ s6.bel
 have hlt':(k:Int)<acts.length:=by omega
 by_cases hk3:k<30
 case neg =>
  have hk':¬ (k:Int)<30:=by omega
  simp (disch:=first|omega|exact zF rfl|exact zG rfl|exact fun h=>h|(simp only[zA,zB,zC,zD,bytesW];omega)) only[go_sem,c6L0,c6S6,c6S7,c6L1,c6L1,hlt',hk']
  exact fin _ s6.bel
 have hk':(k:Int)<30:=by omega
 obtain ⟨ap,rfl⟩:=ha.ptr (by omega)
 have el:=ha.eltB s6.bel ActT.len (by decide) hlt
 have ea:=(ha.below s6.bel (by decide)).at ActT.len hlt
 have rv:=ActT.at acts[k]
 have hwa:=hw _ (List.getElem_mem hlt)
 have hlen:=ActT.len acts[k]
 have cap:∀ w',Below w.heap.size w w'→_:=fun w' hb=>ha.eltB hb ActT.len (by decide) hlt
 have hi:=acts[k].ints hwa
 generalize acts[k]=a at *
 simp (disch:=first|omega|exact zF rfl|exact zG rfl|exact fun h=>h|(simp only[zA,zB,zC,zD,bytesW];omega)) only[go_sem,c6L0,c6S6,c6L1,c6L1,hlt',hk',el,ea,rv]
 refine ⟨by omega,fun _=>⟨⟨by omega,by omega⟩,k+1,rfl,⟨s6.next,by omega,by omega⟩,by omega⟩,fun h5=>⟨by omega,Ret.mono (s6.does a hwa (.inr (by omega)) (by omega)) ?_⟩⟩
 rintro _ w7 ⟨rfl,e,P,X,l,v,h,hl,h1,rfl,h3,h4⟩
 have rlb:=h.rules 1 rfl
 obtain ⟨va',vc',rfl,_⟩:=own_slice (h.row 2 rfl)
 simp (disch:=first|omega|exact zF rfl|exact zG rfl|exact fun h=>h|(simp only[zA,zB,zC,zD,bytesW];omega)) only[go_sem,c6L0,c6S6,c6L1,rlb]
 refine Ret.mono (shows_ok 1000 h hl ⟨by decide,by decide⟩) ?_
 rintro _ w8 ⟨rfl,h8⟩
 have rlb:=h8.rules 1 rfl
 simp (disch:=first|omega|exact zF rfl|exact zG rfl|exact fun h=>h|(simp only[zA,zB,zC,zD,bytesW];omega)) only[go_sem,c6L0,c6S6,c6L1,rlb]
 refine Ret.mono (shows_ok most h8 hl hm) ?_
 rintro _ w9 ⟨rfl,h9⟩
 simp (disch:=first|omega|exact zF rfl|exact zG rfl|exact fun h=>h|(simp only[zA,zB,zC,zD,bytesW];omega)) only[go_sem,c6S7,c6L1]
 -- each record,by its number
 refine W_loopU (fun j:Nat=>[(10,.int .i64 j)]) (fun j w'=>j≤l.length∧Pgr e P w w' (fun _=>False) (docR hb e 9 lb (.slice va' l.length vc') l []) []) (fun j=>l.length - j) 0 rfl ⟨Nat.zero_le _,h9⟩ ?_
 clear h h8 h9 rlb el ea
 rintro j w10 ⟨hj,h10⟩
 have rlb:=h10.rules 1 rfl
 by_cases hjl:j<l.length
 case pos =>
  have hjl':(j:Int)<l.length:=by omega
  have hrd:RdS w10 2 recV (.slice va' l.length vc') l:=RdS.of_own' (h10.row 2 rfl) l rfl rfl
  obtain ⟨q,rfl⟩:=hrd.ptr (by omega)
  have er:=hrd.eltB (Below.refl _ _) recV_len (by decide) hjl
  have rr:=recV_at l[j]
  simp (disch:=first|omega|exact zF rfl|exact zG rfl|exact fun h=>h|(simp only[zA,zB,zC,zD,bytesW];omega)) only[go_sem,c6L0,c6S7,c6L1,c6L0,rlb,hjl',er,rr]
  refine ⟨by omega,Ret.mono (hget_some (r:=l[j].2) h10 hl.hp hl.real (hl.perm.mem_iff.1 (List.getElem_mem hjl))) ?_⟩
  rintro _ w11 ⟨rfl,h11⟩
  have rlb:=h11.rules 1 rfl
  have hrd:RdS w11 2 recV (.slice (some q) l.length vc') l:=RdS.of_own' (h11.row 2 rfl) l rfl rfl
  have er:=hrd.eltB (Below.refl _ _) recV_len (by decide) hjl
  simp (disch:=first|omega|exact zF rfl|exact zG rfl|exact fun h=>h|(simp only[zA,zB,zC,zD,bytesW];omega)) only[go_sem,c6L0,c6S7,c6L1,rlb,hjl',er,rr]
  exact ⟨by omega,⟨by omega,by omega⟩,j+1,rfl,⟨hjl,h11⟩,by omega⟩
 case neg =>
  have hjl':¬ (j:Int)<l.length:=by omega
  simp (disch:=first|omega|exact zF rfl|exact zG rfl|exact fun h=>h|(simp only[zA,zB,zC,zD,bytesW];omega)) only[go_sem,c6L0,c6S6,c6S7,c6L1,c6L0,rlb,hjl']
  refine c6draw0 (Same (fun b=>b=lb) _) (Same.refl _ _) ?_
  have h11:=h10.drew
  generalize w10.drew=w11 at h11 ⊢
  have rlb:=h11.rules 1 rfl
  have el:=cap _ h11.bel
  have hrd:RdS w11 2 recV (.slice va' l.length vc') l:=RdS.of_own' (h11.row 2 rfl) l rfl rfl
  have hlf:=hl.few
  simp (disch:=first|omega|exact zF rfl|exact zG rfl|exact fun h=>h|(simp only[zA,zB,zC,zD,bytesW];omega)) only[go_sem,c6L0,c6S6,c6S7,c6L1,c6D0,rlb,el,rv,hlt']
  refine ⟨by omega,Same.refl _ _,Ret.mono (hfind_ok a.N w11 hrd (by omega)) ?_⟩
  rintro _ w12 ⟨rfl,b12⟩
  have h12:=h11.below b12
  have el:=cap _ h12.bel
  simp (disch:=first|omega|exact zF rfl|exact zG rfl|exact fun h=>h|(simp only[zA,zB,zC,zD,bytesW];omega)) only[go_sem,c6L0,c6S6,c6S7,c6L1,c6D0,el,rv,hlt']
  refine ⟨by omega,Ret.mono (hget_ok a.N h12 hl.hp hl.real hi.2) ?_⟩
  rintro _ w13 ⟨h13,⟨id,r,eid,hmem,rfl⟩ | ⟨hno,rfl⟩⟩
  ·have hlk:=hl.look (hl.perm.mem_iff.2 hmem)
   rw [← eid] at hlk
   rw [hlk]
   simp (disch:=first|omega|exact zF rfl|exact zG rfl|exact fun h=>h|(simp only[zA,zB,zC,zD,bytesW];omega)) only[go_sem,c6L0,c6S6,c6S7,c6L1]
   exact ⟨⟨by omega,by omega⟩,k+1,rfl,⟨⟨e,P,X,l,_,h13,hl,h1,rfl,h3,h4⟩,by omega,by omega⟩,by omega⟩
  ·rw [find_no (hl.absent hno)]
   simp (disch:=first|omega|exact zF rfl|exact zG rfl|exact fun h=>h|(simp only[zA,zB,zC,zD,bytesW];omega)) only[go_sem,c6L0,c6S6,c6S7,c6L1]
   exact ⟨⟨by omega,by omega⟩,k+1,rfl,⟨⟨e,P,X,l,_,h13,hl,h1,rfl,h3,h4⟩,by omega,by omega⟩,by omega⟩
theorem heapPlays_law{H:Type}{enc:TypeId × Value→H}{w:World}{r:Reach}{b base:Nat}{sp:Nat→Bool}{hd:Bool}{v:Value}{d:DataW H}{ps:List MemPlace}{n:Int}(h0:Value.okWide Tryz.prog w r b 62 v)
  (k0:DataW.Trod enc Tryz.prog w base sp hd 62 v d ps) (hn:(Lit.int .i64 n).wf=true):Ret Tryz.prog 6 [v,.int .i64 n] w fun u w'=>u=.bool true∧Below w.heap.size w w':=by
 obtain ⟨xs,q1,q2,q3⟩:=Opens.slice_arg opens_Acts Tryz.underlying62 h0 k0
 exact heapPlays_ok n w (kOk_i64 hn) q1 q2 q3
end Go.Proofs.YtkmjkmjpejmlnaaGreat

end
