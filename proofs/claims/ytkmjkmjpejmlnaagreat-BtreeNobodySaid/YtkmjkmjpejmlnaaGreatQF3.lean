/- Texts put together by program. -/
import Derived.Test.YtkmjkmjpejmlnaaGreatQF2
set_option linter.unusedSimpArgs false
set_option linter.unusedVariables false
set_option maxRecDepth 100000
noncomputable section

namespace Go.Proofs.YtkmjkmjpejmlnaaGreat
open Go Go.Ann Go.RowKit Go.WideShapes
abbrev It:=Int × List UInt8
def itE(x:It):List Value:=[.int .i64 x.1,.string (ofL x.2),.int .i64 0]
theorem itE_len(x:It):(itE x).length=3:=rfl
theorem itE_one(x:It):∀ u∈itE x,u.oneCell'=true:=by
 intro u hu
 simp only [itE,List.mem_cons,List.not_mem_nil,or_false] at hu
 rcases hu with rfl | rfl | rfl <;> rfl
theorem itE_ones(l:List It):∀ u∈l.flatMap itE,u.oneCell'=true:=by
 intro u hu
 obtain ⟨s,_,h⟩:=List.mem_flatMap.1 hu
 exact itE_one s u h
theorem flat_len(l:List It):(l.flatMap itE).length=l.length * 3:=by
 induction l with
 | nil=>rfl
 | cons a l ih=>rw [List.flatMap_cons,List.length_append,ih,itE_len,List.length_cons]; omega
theorem flat_take(l:List It)(k:Nat):(l.flatMap itE).take (k * 3)=(l.take k).flatMap itE:=by
 induction l generalizing k with
 | nil=>simp
 | cons a l ih =>
  cases k with
  | zero=>simp
  | succ k =>
   rw [List.flatMap_cons,List.take_succ_cons,List.flatMap_cons,← ih,List.take_append,itE_len,List.take_of_length_le (by rw [itE_len]; omega),show (k+1) * 3 - 3=k * 3 by omega]
theorem flat_drop(l:List It)(k:Nat):(l.flatMap itE).drop (k * 3)=(l.drop k).flatMap itE:=by
 induction l generalizing k with
 | nil=>simp
 | cons a l ih =>
  cases k with
  | zero=>simp
  | succ k =>
   rw [List.flatMap_cons,List.drop_succ_cons,← ih,List.drop_append,itE_len,List.drop_of_length_le (by rw [itE_len]; omega),List.nil_append,show (k+1) * 3 - 3=k * 3 by omega]
theorem flat_get{l:List It}{i j:Nat}(hi:i<l.length)(hj:j<3):(l.flatMap itE)[i * 3+j]?=(itE l[i])[j]?:=by
 rw [← List.getElem?_drop,flat_drop,List.drop_eq_getElem_cons hi,List.flatMap_cons,List.getElem?_append_left (by rw [itE_len]; exact hj)]
theorem item_at{w:World}{B e g cap:Nat}{l:List It}{i:Nat}(h:w.ownsRow B e 3 (.slice (some ⟨g,0,none⟩) l.length cap) l.length (l.flatMap itE))(hi:i<l.length) :
  w.cell? ⟨g,i * 3,none⟩=some (.int .i64 l[i].1)∧w.cell? ⟨g,i * 3+1,none⟩=some (.string (ofL l[i].2))∧w.cell? ⟨g,i * 3+2,none⟩=some (.int .i64 0):=by
 refine ⟨?_,?_,?_⟩
 ·have:=h.cellAt (i * 3) (by omega); rw [this]; exact flat_get (j:=0) hi (by decide)
 ·have:=h.cellAt (i * 3+1) (by omega); rw [this]; exact flat_get (j:=1) hi (by decide)
 ·have:=h.cellAt (i * 3+2) (by omega); rw [this]; exact flat_get (j:=2) hi (by decide)
def CaL(c:Nat)(rv:Value)(l:List It):List Res:=[.blk c #[.int .i64 64,rv] 206,.row rv 223 3 l.length (l.flatMap itE)]
def findK(k:Int)(l:List It):Option Nat:=l.findIdx? fun x=>decide (x.1=k)
def placeI(k:Int)(l:List It):Int:=match findK k l with | some i=>i | none => -1
section
variable {W0 w:World} {F:Nat→Prop} {L:List Res} {I:List Inv} {c:Nat} {rv:Value} {l:List It}
theorem place1_ok(k:Int)(x:It)(b:Nat)(w:World)(hb:Blk w b #[.int .i64 k] 3) :
  Ret Tryz.prog 192 [.agg (itE x).toArray,.pointer (some ⟨b,0,none⟩)] w fun u w'=>u=.bool (decide (x.1=k))∧Below w.heap.size w w':=by
 refine ent192 _ _ _ _ ?_
 have hr:=hb.rules
 have hlt:=hb.lt
 simp (disch:=first|omega|exact zF rfl|exact zG rfl|exact fun h=>h|(simp only[zA,zB,zC,zD,bytesW];omega)) only[go_sem,hr,itE]
 (repeat' (first | with_reducible exact Below.refl _ _ | with_reducible assumption | (with_reducible refine Below.drew ?_) | (with_reducible refine Below.alloc ?_ ?_ _) | (with_reducible refine Below.setCell ?_ ?_ _) | (with_reducible refine Below.fill ?_ ?_) | (with_reducible refine Below.via (by assumption) ?_ ?_) | omega | (simp only [World.size_alloc,World.size_drew,World.size_setCell,size_fill,bytesW]; omega)))
theorem index_ok(k:Int)(v:Value)(b:Nat)(hb:Blk w b #[.int .i64 k] 3)(h:RdS w 3 itE v l)(hl:l.length≤1000000) :
  Ret Tryz.prog 191 [v,.func (.func 192) #[] #[.pointer (some ⟨b,0,none⟩)]] w fun u w'=>u=.int .i64 (placeI k l)∧Below w.heap.size w w':=by
 obtain ⟨a,c,rfl,_⟩:=h.form
 refine ent191 _ _ _ _ ?_
 simp (disch:=first|omega|exact zF rfl|exact zG rfl|exact fun h=>h|(simp only[zA,zB,zC,zD,bytesW];omega)) only[go_sem]
 refine W_loopU (fun j:Nat=>[(8,.int .i64 j)]) (fun j w'=>Below w.heap.size w w'∧j≤l.length∧∀ i,(h:i<l.length)→i<j→¬ l[i].1=k) (fun j=>l.length - j) 0 rfl ⟨Below.refl _ _,Nat.zero_le _,fun j _ h=>by omega⟩ ?_
 rintro j w1 ⟨hw,hj,he⟩
 by_cases hlt:j<l.length
 ·obtain ⟨q,rfl⟩:=h.ptr (by omega)
  have ck:=(h.below hw (by decide)).at itE_len hlt
  have hlt':(j:Int)<l.length:=by omega
  simp (disch:=first|omega|exact zF rfl|exact zG rfl|exact fun h=>h|(simp only[zA,zB,zC,zD,bytesW];omega)) only[go_sem,hlt',ck,itE_len]
  refine ⟨by omega,callW_go ⟨by kernel_rfl,Ret.mono (place1_ok k l[j] b w1 (hb.below hw hb.lt)) ?_⟩⟩
  rintro _ w2 ⟨rfl,b2⟩
  have hwt:=hw.trans (b2.mono hw.size)
  by_cases hp:l[j].1=k
  ·simp (disch:=first|omega|exact zF rfl|exact zG rfl|exact fun h=>h|(simp only[zA,zB,zC,zD,bytesW];omega)) only[go_sem,hp]
   have e:placeI k l=j:=by
    unfold placeI findK
    rw [List.findIdx?_eq_some_iff_getElem.2 ⟨hlt,by simp [hp],fun i hi=>by simp [he i (by omega) hi]⟩]
   exact ⟨by rw [e],hwt⟩
  ·simp (disch:=first|omega|exact zF rfl|exact zG rfl|exact fun h=>h|(simp only[zA,zB,zC,zD,bytesW];omega)) only[go_sem,hp]
   refine ⟨⟨by omega,by omega⟩,j+1,rfl,⟨hwt,by omega,fun i h1 h2=>?_⟩,by omega⟩
   rcases Nat.lt_or_ge i j with h' | h'
   ·exact he i h1 h'
   ·obtain rfl:i=j:=by omega
    exact hp
 ·have hlt':¬ (j:Int)<l.length:=by omega
  simp (disch:=first|omega|exact zF rfl|exact zG rfl|exact fun h=>h|(simp only[zA,zB,zC,zD,bytesW];omega)) only[go_sem,hlt']
  have e:placeI k l = -1:=by
   unfold placeI findK
   rw [List.findIdx?_eq_none_iff.2 fun x hx=>by obtain ⟨i,hi,rfl⟩:=List.mem_iff_getElem.1 hx; simp [he i hi (by omega)]]
  exact ⟨by rw [e],hw⟩
theorem place_ok(k:Int)(h:St W0 w F (CaL c rv l++L) I)(hl:l.length≤1000000) :
  Ret Tryz.prog 169 [.pointer (some ⟨c,0,none⟩),.int .i64 k] w fun u w'=>u=.int .i64 (placeI k l)∧Below w.heap.size w w':=by
 refine ent169 _ _ _ _ ?_
 obtain ⟨a,cc,rfl,_⟩:=own_slice (h.row 1 rfl)
 have s1:=h.box #[.int .i64 k] 3
 have r1:=s1.rules 1 rfl
 have t1:=(St.start (W0:=w)).box #[.int .i64 k] 3
 simp (disch:=first|omega|exact zF rfl|exact zG rfl|exact fun h=>h|(simp only[zA,zB,zC,zD,bytesW];omega)) only[go_sem,r1]
 refine Ret.mono (index_ok k _ _ (s1.blk 0 rfl) (RdS.of_own' (s1.row 2 rfl) l rfl rfl) hl) ?_
 rintro _ w2 ⟨rfl,b2⟩
 simp (disch:=first|omega|exact zF rfl|exact zG rfl|exact fun h=>h|(simp only[zA,zB,zC,zD,bytesW];omega)) only[go_sem]
 exact (t1.call b2).bel
theorem front_ok{i:Nat}(h:St W0 w F (CaL c rv l++L) I)(hi:i<l.length)(hl:l.length≤1000000) :
  Ret Tryz.prog 183 [.pointer (some ⟨c,0,none⟩),.int .i64 i] w fun u w'=>St W0 w' F (CaL c rv (l[i]::l.eraseIdx i)++L) I:=by
 refine ent183 _ _ _ _ ?_
 obtain ⟨g,cap,rfl,hg⟩:=(h.row 1 rfl).form (by omega)
 have r1:=h.rules 0 rfl
 obtain ⟨k0,k1,k2⟩:=item_at (h.row 1 rfl) hi
 have hi':(i:Int)<l.length:=by omega
 have s1:=h.box #[.int .i64 l[i].1,.string (ofL l[i].2),.int .i64 0] 223
 simp (disch:=first|omega|exact zF rfl|exact zG rfl|exact fun h=>h|(simp only[zA,zB,zC,zD,bytesW];omega)) only[go_sem,c183S0,r1,k0,k1,k2,hi']
 generalize w.heap.size=y at s1 ⊢
 generalize w.alloc (.cells #[.int .i64 l[i].1,.string (ofL l[i].2),.int .i64 0] 223)=w1 at s1 ⊢
 refine ⟨by omega,c183draw0 (Same (fun k=>k=c) _) (Same.refl _ _) ?_⟩
 have s2:=s1.drew
 have r2:=s2.rules 1 rfl
 have l2:=s2.low 1 rfl
 generalize w1.drew=w2 at s2 r2 l2 ⊢
 simp (disch:=first|omega|exact zF rfl|exact zG rfl|exact fun h=>h|(simp only[zA,zB,zC,zD,bytesW];omega)) only[go_sem,c183S0,c183D0,r2]
 have hcp:∀ w',(∃ xs,xs.length=3∧St W0 w' F ([.blk y #[.int .i64 l[i].1,.string (ofL l[i].2),.int .i64 0] 223,.blk c #[.int .i64 64,.slice (some ⟨g,0,none⟩) l.length cap] 206,.row (.slice (some ⟨g,0,none⟩) l.length cap) 223 3 l.length (xs++(l.eraseIdx i).flatMap itE)]++L) I) →
   W Tryz.prog (c183S0 ()) [(0,.pointer (some ⟨c,0,none⟩)),(4,.pointer (some ⟨y,0,none⟩))] w' (finQ Tryz.prog [] fun u w'=>St W0 w' F (CaL c (.slice (some ⟨g,0,none⟩) l.length cap) (l[i]::l.eraseIdx i)++L) I):=by
  rintro w3 ⟨xs,hx,s3⟩
  simp (disch:=first|omega|exact zF rfl|exact zG rfl|exact fun h=>h|(simp only[zA,zB,zC,zD,bytesW];omega)) only[go_sem,c183S0]
  refine c183draw1 (Chg (fun _=>False) _) (Chg.refl _ _) ?_
  have s4:=s3.drew
  have r4:=s4.rules 1 rfl
  have l4:=s4.low 1 rfl
  have q4:=s4.rules 0 rfl
  generalize w3.drew=w4 at s4 r4 l4 q4 ⊢
  simp (disch:=first|omega|exact zF rfl|exact zG rfl|exact fun h=>h|(simp only[zA,zB,zC,zD,bytesW];omega)) only[go_sem,c183S0,c183D1,r4,q4]
  obtain ⟨x0,x1,x2,rfl⟩:∃ x0 x1 x2,xs=[x0,x1,x2]:=by
   match xs,hx with
   | [a,b,c],_=>exact ⟨a,b,c,rfl⟩
  have hr:=s4.row 2 rfl
  have hc:∀ j,j<3→w4.cell? ⟨g,j,none⟩=([x0,x1,x2]++(l.eraseIdx i).flatMap itE)[j]?:=fun j hj=>hr.cellAt j (by omega)
  refine ⟨by omega,⟨⟨x0,hc 0 (by decide)⟩,hr.frozenAt 0,⟨x1,hc 1 (by decide)⟩,hr.frozenAt 1,⟨x2,hc 2 (by decide)⟩,hr.frozenAt 2⟩,?_⟩
  have s5:=((s4.put 2 rfl 0 (.int .i64 l[i].1)).put 2 rfl 1 (.string (ofL l[i].2))).put 2 rfl 2 (.int .i64 0)
  refine st_recast (s5.sub (List.sublist_cons_self _ _)) ?_
  have e:(l[i]::l.eraseIdx i).length=l.length:=by rw [List.length_cons,List.length_eraseIdx,if_pos hi]; omega
  simp only [CaL,e]
  rfl
 have hle:l.length≤cap:=by
  obtain ⟨_,cap',e,hc⟩:=own_slice (h.row 1 rfl)
  cases e; exact hc
 have e0:offA (some ⟨g,0,none⟩) cap 0 3=some ⟨g,0 * 3,none⟩:=by unfold offA; split <;> rfl
 have ek:(((i:Int)+1).toNat - 1)=i:=by omega
 rw [e0,ek]
 obtain ⟨o,ho1,ho2,ho3⟩:∃ o:Nat,o+i≤l.length∧offA (some ⟨g,0,none⟩) cap 1 3=some ⟨g,o * 3,none⟩∧(o=1∨i=0∧o=0):=by
  by_cases hc:cap=1
  ·exact ⟨0,by omega,by unfold offA; rw [if_pos hc],.inr ⟨by omega,rfl⟩⟩
  ·exact ⟨1,by omega,by unfold offA; rw [if_neg hc]; rfl,.inl rfl⟩
 rw [ho2]
 refine ⟨by constructor <;> omega,⟨by omega,by omega⟩,Same.refl _ _,⟨by omega,by omega⟩,?_⟩
 refine s2.copy (i:=2) (o:=o) (m:=0) (k:=i) rfl ty204mkI ho1 (by omega) (itE_ones l) (Nat.min_self i) ?_
 intro w3 s3
 have sm:Same (fun k=>k=c) w2 w3:=fun k hk=>by subst hk; exact (s3.blk 1 rfl).trans (s2.blk 1 rfl).symm
 simp (disch:=first|omega|exact zF rfl|exact zG rfl|exact fun h=>h|(simp only[zA,zB,zC,zD,bytesW];omega)) only[go_sem]
 refine ⟨sm,hcp w3 ⟨itE (l[0]'(by omega)),rfl,st_recast s3 ?_⟩⟩
 have e1:(l.flatMap itE).take (o * 3)++((l.flatMap itE).drop (0 * 3)).take (i * 3)++(l.flatMap itE).drop ((o+i) * 3)=itE (l[0]'(by omega))++(l.eraseIdx i).flatMap itE:=by
  rw [flat_take,flat_drop,flat_take,flat_drop,List.drop_zero,List.eraseIdx_eq_take_drop_succ,List.flatMap_append]
  have h0:0<l.length:=by omega
  rcases ho3 with rfl | ⟨rfl,rfl⟩
  ·have:l.take 1=[l[0]'h0]:=by
    have:=List.take_succ_eq_append_getElem h0
    simpa using this
   rw [this,List.flatMap_cons,List.flatMap_nil,List.append_nil,List.append_assoc,show 1+i=i+1 by omega]
  ·have:l.drop (0+0)=l[0]'h0::l.drop (0+1):=List.drop_eq_getElem_cons h0
   rw [this,List.flatMap_cons]
   simp
 simp only [List.set_cons_succ,List.set_cons_zero,List.cons_append,CaL,e1]
end
open Go Go.Ann Go.RowKit Go.WideShapes
theorem slice3W{P:Program}{t e sz bytes:Nat}{z:Value}{x lo hi mx:Operand}{ty:TypeId}{ρ:Env}{w:World}{K:Value→World→Prop}{a:Option Addr}{n c i j m:Nat}(hm:mkI P t=some (e,sz,bytes,z))(hx:ev ρ x=some (.slice a n c))(h1:ev ρ lo=some (.int .i64 i))(h2:ev ρ hi=some (.int .i64 j))(h3:ev ρ mx=some (.int .i64 m))(hij:i≤j)(hjm:j≤m)(hmc:m≤c)(hc:c≤9223372036854775807)
  (hK:∀ v,K v w):opW P (.slice t x (some lo) (some hi) (some mx)) ty ρ w K:=by
 show rawW _ _ _ _ _ _
 intro f hf
 obtain ⟨inf,hu,hi',_,hsi,_⟩:=mkI_some hm
 refine ⟨.slice (if m=i then a else a.map (·.add (i * P.cellsOf e))) (j - i) (m - i),w,?_,hK _⟩
 have b1:(0:Int)≤(m:Int)∧(m:Int)≤c:=by omega
 have b2:(0:Int)≤(j:Int)∧(j:Int)≤m:=by omega
 have b3:(0:Int)≤(i:Int)∧(i:Int)≤j:=by omega
 have hrun:(Instr.sliceAt t (.slice a n c) (some (.int .i64 i)) (some (.int .i64 j)) (some (.int .i64 m))).run P w=.ok (.slice (if m=i then a else a.map (·.add (i * P.cellsOf e))) (j - i) (m - i)) w:=by
  rw [run_sliceAt_slice w _ _ _ _ _ (by simp [Program.elem,hu])]
  simp only [Instr.slice,Sem.run_bind,run_underlying hu,Result.andThen,Instr.sliceBounds,Sem.run_pure,Option.isSome,if_true,run_sizeOf w hi',run_bound w b1.1 b1.2,Int.toNat_natCast,run_bound w b2.1 b2.2,run_bound w b3.1 b3.2]
 simp [execOp,rawOp,Option.map_some,hf _ _ hx,hf _ _ h1,hf _ _ h2,hf _ _ h3,hrun]
theorem overL_low{xs vs:List Value}{o k:Nat}(hk:k≤o)(ho:o≤xs.length):(overL xs o vs).take k=xs.take k:=by
 unfold overL
 rw [List.append_assoc,List.take_append_of_le_length (by rw [List.length_take]; omega),List.take_take,Nat.min_eq_left hk]
section
variable {W0 w:World} {F:Nat→Prop} {L:List Res} {I:List Inv} {rv:Value} {l:List It}
theorem delete_ok{i:Nat}(h:St W0 w F (.row rv 223 3 l.length (l.flatMap itE)::L) I)(hi:i<l.length)(hl:l.length≤1000000) :
  Ret Tryz.prog 170 [rv,.int .i64 i,.int .i64 ((i:Int)+1)] w fun u w'=>St W0 w' F (.row u 223 3 (l.eraseIdx i).length ((l.eraseIdx i).flatMap itE)::L) I:=by
 have hr:=h.row 0 rfl
 rcases hr.2 with ⟨_,h0⟩ | ⟨g,cap,cur,rfl,hb,hg,hnc,hcm,hcs,htake⟩
 ·omega
 refine ent170 _ _ _ _ _ ?_
 simp (disch:=first|omega|exact zF rfl|exact zG rfl|exact fun h=>h|(simp only[zA,zB,zC,zD,bytesW];omega)) only[go_sem]
 refine slice3W (a:=some ⟨g,0,none⟩) (n:=l.length) (c:=cap) (i:=i) (j:=i+1) (m:=l.length) ty204mkI rfl rfl rfl rfl (by omega) (by omega) hnc (by simp only [maxLen] at hcm; omega) ?_
 intro v
 have hne:¬ (i:Int)=(i:Int)+1:=by omega
 simp (disch:=first|omega|exact zF rfl|exact zG rfl|exact fun h=>h|(simp only[zA,zB,zC,zD,bytesW];omega)) only[go_sem,hne]
 refine c170draw0 ?_
 have h2:=h.drew
 simp (disch:=first|omega|exact zF rfl|exact zG rfl|exact fun h=>h|(simp only[zA,zB,zC,zD,bytesW];omega)) only[go_sem,c170D0]
 have hlen:=flat_len l
 have hclen:cur.toList.length=cap * 3:=by rw [Array.length_toList,hcs]
 have e0:offA (some ⟨g,0,none⟩) cap 0 3=some ⟨g,0,none⟩:=by unfold offA; split <;> rfl
 have e1:((i:Int)+1).toNat=i+1:=by omega
 rw [e0,e1]
 have hsrc:Rd w.drew 3 (.slice (offA (some ⟨g,0,none⟩) cap (i+1) 3) (l.length - (i+1)) (cap - (i+1))) (l.length - (i+1)) ((l.drop (i+1)).flatMap itE):=by
  refine ⟨by rw [flat_len,List.length_drop],_,_,rfl,by omega,fun hn=>?_⟩
  have hc:¬ cap=i+1:=by omega
  refine ⟨⟨g,(i+1) * 3,none⟩,by unfold offA; rw [if_neg hc]; simp [Addr.add_lit],fun j u hu=>?_⟩
  have hj:j<(l.length - (i+1)) * 3:=by
   have:=(List.getElem?_eq_some_iff.1 hu).1
   rwa [flat_len,List.length_drop] at this
  rw [Addr.add_lit]
  show w.cell? _=_
  rw [(h.row 0 rfl).cellAt _ (by omega),← List.getElem?_drop,flat_drop,hu]
 refine ⟨⟨by omega,by omega⟩,⟨by omega,by omega⟩,appendB (sz:=3) ty204mkI (show Blk w.drew g cur _ from hg) (by omega) (by omega) hsrc (itE_ones _) ?_⟩
 intro w3 b3 c3
 have hyl:((l.drop (i+1)).flatMap itE).length=(l.length - (i+1)) * 3:=by rw [flat_len,List.length_drop]
 have e2:i+(l.length - (i+1))=l.length - 1:=by omega
 rw [e2]
 have hl3:(overL cur.toList (i * 3) ((l.drop (i+1)).flatMap itE)).length=cap * 3:=by rw [overL_length (by rw [hyl,hclen]; omega),hclen]
 simp (disch:=first|omega|exact zF rfl|exact zG rfl|exact fun h=>h|(simp only[zA,zB,zC,zD,bytesW];omega)) only[go_sem]
 have e3:offA (some ⟨g,0,none⟩) cap (l.length - 1) 3=some ⟨g,(l.length - 1) * 3,none⟩:=by
  unfold offA; rw [if_neg (by omega)]; simp [Addr.add_lit]
 rw [e3]
 refine ⟨⟨by omega,by omega,by omega⟩,clearB (sz:=3) ty204mkI rfl (itE_ones [(0,[])]) b3 (by rw [List.size_toArray,hl3]; omega) ?_⟩
 intro w5 zs hzl b5 c5
 simp (disch:=first|omega|exact zF rfl|exact zG rfl|exact fun h=>h|(simp only[zA,zB,zC,zD,bytesW];omega)) only[go_sem]
 have hzl:zs.length=3:=by rw [hzl]; omega
 simp only [List.toList_toArray] at b5
 have hl5:(overL (overL cur.toList (i * 3) ((l.drop (i+1)).flatMap itE)) ((l.length - 1) * 3) zs).length=cap * 3:=by rw [overL_length (by rw [hzl,hl3]; omega),hl3]
 have hn':(l.eraseIdx i).length=l.length - 1:=by rw [List.length_eraseIdx,if_pos hi]
 have ht:(overL (overL cur.toList (i * 3) ((l.drop (i+1)).flatMap itE)) ((l.length - 1) * 3) zs).take ((l.length - 1) * 3)=(l.eraseIdx i).flatMap itE:=by
  have t1:=overL_low (vs:=zs) (show (l.length - 1) * 3≤(l.length - 1) * 3 from Nat.le_refl _) (show (l.length - 1) * 3≤(overL cur.toList (i * 3) ((l.drop (i+1)).flatMap itE)).length by rw [hl3]; omega)
  rw [t1,overL_take (by rw [hyl]; omega) (by rw [hclen]; omega)]
  have t2:cur.toList.take (i * 3)=(l.take i).flatMap itE:=by
   rw [← flat_take,← htake,List.take_take,Nat.min_eq_left (by omega)]
  rw [t2,List.eraseIdx_eq_take_drop_succ,List.flatMap_append]
 have hc:Chg (fun k=>(Res.row (.slice (some ⟨g,0,none⟩) l.length cap) 223 3 l.length (l.flatMap itE)).own=some k) w w5 :=
  (((Chg.refl (fun k=>k=g) w).drew.trans c3).trans c5).mono fun k _ hk=>by subst hk; rfl
 refine h.upd 0 rfl hc _ ⟨?_,.inr ⟨g,cap,_,by rw [hn'],hb,b5,by omega,hcm,?_,?_⟩⟩ fun k hk=>.inl hk
 ·rw [flat_len]
 ·rw [List.size_toArray,hl5]
 ·rw [hn']; exact ht
theorem capB{P:Program}{t e sz bytes ty:Nat}{z:Value}{cs:Array Bool}{w:World}{K:Value→World→Prop}{a:Option Addr}{n c:Nat}(hm:mkI P t=some (e,sz,bytes,z))(hK:K (.int .i64 c) w):biW P .cap #[t] ty cs [.slice a n c] w K:=by
 show rawB _ _ _ _ _ _ _ _
 obtain ⟨i,hu,_,_,_,_⟩:=mkI_some hm
 refine ⟨_,w,?_,hK⟩
 simp [builtin,Builtin.cap_,goInt,run_underlying hu]
theorem overL_head{ys xs:List Value}{k:Nat}(h:xs.length≤k):(overL ys 0 xs).take k=xs++(ys.take k).drop xs.length:=by
 unfold overL
 rw [List.take_zero,List.nil_append,Nat.zero_add,List.take_append,List.take_of_length_le h,List.drop_take]
@[go_sem] theorem goOverlaps:goFunc Tryz.prog 201=false:=by kernel_rfl
theorem insert_ok{x:It}{vb:Nat}(h:St W0 w F (.row rv 223 3 l.length (l.flatMap itE)::.blk vb (itE x).toArray 223::L) I)(hl:l.length≤1000000) :
  Ret Tryz.prog 184 [rv,.int .i64 0,.slice (some ⟨vb,0,none⟩) 1 1] w fun u w'=>St W0 w' F (.row u 223 3 (l.length+1) ((x::l).flatMap itE)::.blk vb (itE x).toArray 223::L) I:=by
 have hr:=h.row 0 rfl
 have hv:=h.blk 1 rfl
 obtain ⟨a,cap,rfl,hnc⟩:=own_slice hr
 have hx:Rd w 3 (.slice (some ⟨vb,0,none⟩) 1 1) 1 (itE x):=by
  refine ⟨rfl,_,_,rfl,Nat.le_refl _,fun _=>⟨_,rfl,fun j u hu=>?_⟩⟩
  rw [Addr.add_lit,Nat.zero_add,hv.cell,List.getElem?_toArray]
  exact hu
 refine ent184 _ _ _ _ _ ?_
 by_cases hn:l.length=0
 ·have hl0:l=[]:=List.eq_nil_of_length_eq_zero hn
  subst hl0
  simp (disch:=first|omega|exact zF rfl|exact zG rfl|exact fun h=>h|(simp only[zA,zB,zC,zD,bytesW];omega)) only[go_sem]
  refine h.append 0 rfl ty204mkI rfl (by decide) hx (itE_one x) (by simp) (by simp) ?_
  intro v2 w2 s2 _
  simp (disch:=first|omega|exact zF rfl|exact zG rfl|exact fun h=>h|(simp only[zA,zB,zC,zD,bytesW];omega)) only[go_sem]
  exact s2
 have hn':¬ (0:Int)=l.length:=by omega
 rcases hr.2 with ⟨_,h0⟩ | ⟨g,cap',cur,hv',hb,hg,hnc',hcm,hcs,htake⟩
 ·omega
 simp only [Value.slice.injEq,true_and] at hv'
 obtain ⟨rfl,rfl⟩:=hv'
 have hclen:cur.toList.length=cap * 3:=by rw [Array.length_toList,hcs]
 have hcells:∀ j u,(l.flatMap itE)[j]?=some u→w.cell? ((⟨g,0,none⟩:Addr).add j)=some u:=fun j u hu=>by
  have hj:j<l.length * 3:=by
   have:=(List.getElem?_eq_some_iff.1 hu).1
   rwa [flat_len] at this
  rw [Addr.add_lit,Nat.zero_add,hr.cellAt _ hj,hu]
 have hvcells:∀ j u,(itE x)[j]?=some u→w.cell? ((⟨vb,0,none⟩:Addr).add j)=some u:=fun j u hu=>by
  rw [Addr.add_lit,Nat.zero_add,hv.cell,List.getElem?_toArray]; exact hu
 have hgv:g≠vb:=fun e=>h.ne 0 1 rfl rfl (by decide) (k:=g) rfl (by rw [e]; rfl)
 have e0:offA (some ⟨g,0,none⟩) cap 0 3=some ⟨g,0,none⟩:=by unfold offA; split <;> rfl
 have hfl:=flat_len l
 by_cases hc:cap<l.length+1
 ·have hc':(cap:Int)<l.length+1:=by omega
  simp (disch:=first|omega|exact zF rfl|exact zG rfl|exact fun h=>h|(simp only[zA,zB,zC,zD,bytesW];omega)) only[go_sem,hn',hc']
  refine ⟨by omega,⟨by omega,by omega⟩,capB ty204mkI ?_⟩
  simp (disch:=first|omega|exact zF rfl|exact zG rfl|exact fun h=>h|(simp only[zA,zB,zC,zD,bytesW];omega)) only[go_sem,hc']
  rw [e0,show ((l.length:Int)+1 - 0)=((l.length+1:Nat):Int) by omega]
  refine ⟨by omega,⟨by omega,by omega⟩,⟨by omega,by omega⟩,growB ty204mkI Tryz.underlying3 rfl (by decide) (by omega) hc (by omega) (by omega) ?_⟩
  intro G Z hG1 hG2 hZ
  have b1:Below w.heap.size w (w.drew.alloc (.cells Z 223)):=((Below.refl _ w).drew).alloc (Nat.le_refl _) _
  have B1:Blk (w.drew.alloc (.cells Z 223)) w.heap.size Z 223:=Blk.new (w:=w.drew)
  have hlt:=hr.lt g rfl
  have hltv:=hv.lt
  generalize w.drew.alloc (.cells Z 223)=w1 at b1 B1 ⊢
  generalize hy:w.heap.size=y at b1 B1 hlt hltv ⊢
  simp (disch:=first|omega|exact zF rfl|exact zG rfl|exact fun h=>h|(simp only[zA,zB,zC,zD,bytesW];omega)) only[go_sem]
  have e1:offA (some ⟨y,0,none⟩) G 0 3=some ⟨y,0,none⟩:=by unfold offA; split <;> rfl
  have hZl:Z.toList.length=G * 3:=by rw [Array.length_toList,hZ]
  have old1:∀ p:Addr,p.block<y→w1.cell? p=w.cell? p:=fun p hp=>World.cell?_of_block (b1.block _ hp)
  rw [e1]
  refine ⟨by omega,copyB (sz:=3) (k:=1) (ys:=itE x) ty204mkI B1 (by omega) rfl (fun j u hu=>by rw [old1 _ (by rw [add_block]; exact hltv)]; exact hvcells j u hu) (itE_one x) (by rw [hZ,itE_len]; omega) ?_⟩
  intro w2 B2 c2
  have b2:Below y w w2:=b1.trans (c2.below (hy ▸ b1.size) fun k hk e=>by omega)
  simp (disch:=first|omega|exact zF rfl|exact zG rfl|exact fun h=>h|(simp only[zA,zB,zC,zD,bytesW];omega)) only[go_sem]
  refine c184draw0 ?_
  have b3:Below y w w2.drew:=b2.drew
  have B3:Blk w2.drew y (overL Z.toList 0 (itE x)).toArray 223:=B2
  have old3:∀ p:Addr,p.block<y→w2.drew.cell? p=w.cell? p:=fun p hp=>World.cell?_of_block (b3.block _ hp)
  generalize w2.drew=w3 at b3 B3 old3 ⊢
  have e3:offA (some ⟨y,0,none⟩) G 1 3=some ⟨y,3,none⟩:=by unfold offA; rw [if_neg (by omega)]; rfl
  have hl3:(overL Z.toList 0 (itE x)).length=G * 3:=by rw [overL_length (by rw [hZl,itE_len]; omega),hZl]
  simp (disch:=first|omega|exact zF rfl|exact zG rfl|exact fun h=>h|(simp only[zA,zB,zC,zD,bytesW];omega)) only[go_sem,c184D0]
  rw [e3,e0]
  refine ⟨⟨by omega,by omega⟩,by omega,by omega,copyB (sz:=3) (k:=l.length) (ys:=l.flatMap itE) ty204mkI B3 (by rw [Nat.sub_zero]; exact Nat.min_self _) hfl (fun j u hu=>by rw [old3 _ (by rw [add_block]; exact hlt.2)]; exact hcells j u hu) (itE_ones l) (by rw [List.size_toArray,hl3,hfl]; omega) ?_⟩
  intro w5 B5 c5
  simp only [List.toList_toArray] at B5
  have b5:Below w.heap.size w w5:=by
   rw [hy]
   exact b3.trans (c5.below (hy ▸ b3.size) fun k hk e=>by omega)
  simp (disch:=first|omega|exact zF rfl|exact zG rfl|exact fun h=>h|(simp only[zA,zB,zC,zD,bytesW];omega)) only[go_sem]
  have hl5:(overL (overL Z.toList 0 (itE x)) 3 (l.flatMap itE)).length=G * 3:=by rw [overL_length (by rw [hl3,hfl]; omega),hl3]
  have ht:(overL (overL Z.toList 0 (itE x)) 3 (l.flatMap itE)).take ((l.length+1) * 3)=(x::l).flatMap itE:=by
   rw [overL_take (by rw [hfl]; omega) (by rw [hl3]; omega),overL_take (by rw [itE_len]) (by omega),List.take_zero,List.nil_append,List.flatMap_cons]
  have hnew:(Res.row (.slice (some ⟨y,0,none⟩) (l.length+1) G) 223 3 (l.length+1) ((x::l).flatMap itE)).ok w5 W0.heap.size :=
   ⟨by rw [flat_len,List.length_cons],.inr ⟨y,G,_,rfl,by rw [← hy]; exact h.size,B5,hG1,hG2,by rw [List.size_toArray,hl5],ht⟩⟩
  have s5:=h.add b5 _ hnew fun k hk=>by
   simp only [Res.own,Value.ownBlock,Option.some.injEq] at hk; omega
  exact s5.sub (List.Sublist.cons_cons _ (List.sublist_cons_self _ _))
 ·have hc':¬ (cap:Int)<l.length+1:=by omega
  simp (disch:=first|omega|exact zF rfl|exact zG rfl|exact fun h=>h|(simp only[zA,zB,zC,zD,bytesW];omega)) only[go_sem,hn',hc']
  refine ⟨by omega,⟨by omega,by omega⟩,capB ty204mkI ?_⟩
  simp (disch:=first|omega|exact zF rfl|exact zG rfl|exact fun h=>h|(simp only[zA,zB,zC,zD,bytesW];omega)) only[go_sem,hc']
  have e1:offA (some ⟨g,0,none⟩) cap 1 3=some ⟨g,3,none⟩:=by unfold offA; rw [if_neg (by omega)]; rfl
  rw [e0,e1]
  refine ⟨⟨by omega,by omega⟩,⟨by omega,by omega⟩,⟨by omega,by omega⟩,by omega,overlapsW (t:=204) (tR:=4) Tryz.func201 (by kernel_rfl) (by kernel_rfl) (by kernel_rfl) (by kernel_rfl) ty204mkI (fun e=>hgv e.symm) hv hg (by omega) ?_⟩
  simp (disch:=first|omega|exact zF rfl|exact zG rfl|exact fun h=>h|(simp only[zA,zB,zC,zD,bytesW];omega)) only[go_sem]
  refine c184draw1 ?_
  have h2:=h.drew
  have hg2:Blk w.drew g cur 223:=hg
  have hc2:∀ j u,(l.flatMap itE)[j]?=some u→w.drew.cell? ((⟨g,0,none⟩:Addr).add j)=some u:=hcells
  have e2:((l.length:Int)+1).toNat=l.length+1:=by omega
  simp (disch:=first|omega|exact zF rfl|exact zG rfl|exact fun h=>h|(simp only[zA,zB,zC,zD,bytesW];omega)) only[go_sem,c184D1]
  rw [e2,e0,e1]
  refine ⟨by constructor <;> omega,by omega,by omega,copyB (sz:=3) (k:=l.length) (ys:=l.flatMap itE) ty204mkI hg2 (by omega) hfl hc2 (itE_ones l) (by rw [hfl]; omega) ?_⟩
  intro w3 B3 c3
  have hl3:(overL cur.toList 3 (l.flatMap itE)).length=cap * 3:=by rw [overL_length (by rw [hclen,hfl]; omega),hclen]
  have hvc3:∀ j u,(itE x)[j]?=some u→w3.cell? ((⟨vb,0,none⟩:Addr).add j)=some u:=fun j u hu=>by
   have:w3.cell? ((⟨vb,0,none⟩:Addr).add j)=w.cell? ((⟨vb,0,none⟩:Addr).add j):=World.cell?_of_block (by rw [add_block]; exact c3.block vb hv.lt (fun e=>hgv e.symm))
   rw [this]; exact hvcells j u hu
  simp (disch:=first|omega|exact zF rfl|exact zG rfl|exact fun h=>h|(simp only[zA,zB,zC,zD,bytesW];omega)) only[go_sem]
  rw [e0]
  refine ⟨by omega,copyB (sz:=3) (k:=1) (ys:=itE x) ty204mkI B3 (by omega) rfl hvc3 (itE_one x) (by rw [List.size_toArray,hl3,itE_len]; omega) ?_⟩
  intro w5 B5 c5
  simp only [List.toList_toArray] at B5
  simp (disch:=first|omega|exact zF rfl|exact zG rfl|exact fun h=>h|(simp only[zA,zB,zC,zD,bytesW];omega)) only[go_sem]
  have hl5:(overL (overL cur.toList 3 (l.flatMap itE)) 0 (itE x)).length=cap * 3:=by rw [overL_length (by rw [hl3,itE_len]; omega),hl3]
  have ht:(overL (overL cur.toList 3 (l.flatMap itE)) 0 (itE x)).take ((l.length+1) * 3)=(x::l).flatMap itE:=by
   rw [overL_head (by rw [itE_len]; omega),overL_take (by rw [hfl]; omega) (by rw [hclen]; omega),itE_len,List.drop_append,List.drop_of_length_le (by rw [List.length_take]; omega),List.nil_append,List.length_take,Nat.min_eq_left (by omega),Nat.sub_self,List.drop_zero,List.flatMap_cons]
  have hc:Chg (fun k=>(Res.row (.slice (some ⟨g,0,none⟩) l.length cap) 223 3 l.length (l.flatMap itE)).own=some k) w w5 :=
   (((Chg.refl (fun k=>k=g) w).drew.trans c3).trans c5).mono fun k _ hk=>by subst hk; rfl
  exact h.upd 0 rfl hc (.row (.slice (some ⟨g,0,none⟩) (l.length+1) cap) 223 3 (l.length+1) ((x::l).flatMap itE)) ⟨by rw [flat_len,List.length_cons],.inr ⟨g,cap,_,rfl,hb,B5,by omega,hcm,by rw [List.size_toArray,hl5],ht⟩⟩ fun k hk=>.inl hk
end
open Go Go.Ann Go.RowKit Go.WideShapes
section
variable {W0 w:World} {F:Nat→Prop} {L:List Res} {I:List Inv} {c:Nat} {rv:Value} {l:List It}
theorem place_some{k:Int}{i:Nat}(h:findK k l=some i):placeI k l=i∧∃ hi:i<l.length,l[i].1=k:=by
 unfold placeI; rw [h]
 unfold findK at h
 obtain ⟨h1,h2,_⟩:=List.findIdx?_eq_some_iff_getElem.1 h
 exact ⟨rfl,h1,by simpa using h2⟩
theorem place_none{k:Int}(h:findK k l=none):placeI k l = -1:=by unfold placeI; rw [h]
theorem cnew_ok(h:St W0 w F L I) :
  Ret Tryz.prog 113 [.int .i64 64] w fun u w'=>∃ c,u=.tuple #[.pointer (some ⟨c,0,none⟩),.int .i64 0]∧St W0 w' F (CaL c (.slice none 0 0) []++L) I:=by
 refine ent113 _ _ _ ?_
 simp (disch:=first|omega|exact zF rfl|exact zG rfl|exact fun h=>h|(simp only[zA,zB,zC,zD,bytesW];omega)) only[go_sem]
 refine bdW_built (cells:=#[.int .i64 64,.slice none 0 0]) (by kernel_rfl) ?_
 have s1:=(h.box #[.int .i64 64,.slice none 0 0] 206).nilRow 223 3
 simp (disch:=first|omega|exact zF rfl|exact zG rfl|exact fun h=>h|(simp only[zA,zB,zC,zD,bytesW];omega)) only[go_sem]
 exact ⟨_,rfl,St.front (A:=[.row (.slice none 0 0) 223 3 0 []]) (D:=[_]) (L:=L) s1⟩
def getC(k:Int)(l:List It):List UInt8 × Bool × List It:=match findK k l with
 | some i=>((l.getD i (0,[])).2,true,l.getD i (0,[])::l.eraseIdx i)
 | none=>([],false,l)
theorem cget_ok(k:Int)(h:St W0 w F (CaL c rv l++L) I)(hl:l.length≤1000000) :
  Ret Tryz.prog 145 [.pointer (some ⟨c,0,none⟩),.int .i64 k] w fun u w'=>u=.tuple #[.string (ofL (getC k l).1),.bool (getC k l).2.1]∧St W0 w' F (CaL c rv (getC k l).2.2++L) I:=by
 refine ent145 _ _ _ _ ?_
 simp (disch:=first|omega|exact zF rfl|exact zG rfl|exact fun h=>h|(simp only[zA,zB,zC,zD,bytesW];omega)) only[go_sem]
 refine Ret.mono (place_ok k h hl) ?_
 rintro _ w2 ⟨rfl,b2⟩
 have s2:=h.call b2
 unfold getC
 cases hf:findK k l with
 | none =>
  rw [place_none hf]
  simp (disch:=first|omega|exact zF rfl|exact zG rfl|exact fun h=>h|(simp only[zA,zB,zC,zD,bytesW];omega)) only[go_sem]
  exact s2
 | some i =>
  obtain ⟨e1,hi,e2⟩:=place_some hf
  rw [e1]
  have hi':¬ (i:Int)<0:=by omega
  simp (disch:=first|omega|exact zF rfl|exact zG rfl|exact fun h=>h|(simp only[zA,zB,zC,zD,bytesW];omega)) only[go_sem,hi']
  refine Ret.mono (front_ok s2 hi hl) ?_
  rintro u w3 s3
  have eg:l.getD i (0,[])=l[i]:=by rw [List.getD_eq_getElem?_getD,List.getElem?_eq_getElem hi]; rfl
  simp only [eg]
  have hlen:(l[i]::l.eraseIdx i).length=l.length:=by rw [List.length_cons,List.length_eraseIdx,if_pos hi]; omega
  obtain ⟨g,cap,rfl,_⟩:=(s3.row 1 rfl).form (by rw [hlen]; omega)
  obtain ⟨k0,k1,k2⟩:=item_at (i:=0) (s3.row 1 rfl) (by rw [hlen]; omega)
  have r3:=s3.rules 0 rfl
  have h0:(0:Int)<(l[i]::l.eraseIdx i).length:=by rw [hlen]; omega
  have k1':w3.cell? ⟨g,1,none⟩=some (.string (ofL l[i].2)):=k1
  simp (disch:=first|omega|exact zF rfl|exact zG rfl|exact fun h=>h|(simp only[zA,zB,zC,zD,bytesW];omega)) only[go_sem,r3,h0,k1']
  exact ⟨by omega,s3⟩
def cutC(l:List It):List It:=if l.length<64 then l else l.eraseIdx (l.length - 1)
theorem cutC_sub(l:List It):(cutC l).Sublist l:=by
 unfold cutC
 split
 ·exact List.Sublist.refl _
 ·exact List.eraseIdx_sublist _ _
theorem cutC_len{l:List It}(h:l.length≤64):(cutC l).length≤63:=by
 unfold cutC
 split
 ·omega
 ·rw [List.length_eraseIdx]
  split <;> omega
theorem cput_ok{k:Int}{v:List UInt8}(h:St W0 w F (CaL c rv l++L) I)(hf:findK k l=none)(hl:l.length≤64) :
  Ret Tryz.prog 146 [.pointer (some ⟨c,0,none⟩),.int .i64 k,.string (ofL v)] w fun u w'=>∃ rv',St W0 w' F (CaL c rv' ((k,v)::cutC l)++L) I:=by
 refine ent146 _ _ _ _ _ ?_
 have r1:=h.rules 0 rfl
 simp (disch:=first|omega|exact zF rfl|exact zG rfl|exact fun h=>h|(simp only[zA,zB,zC,zD,bytesW];omega)) only[go_sem,c146L0,c146S4,c146S7,r1]
 refine Ret.mono (place_ok k h (by omega)) ?_
 rintro _ w2 ⟨rfl,b2⟩
 rw [place_none hf]
 have s2:=h.call b2
 have r2:=s2.rules 0 rfl
 simp (disch:=first|omega|exact zF rfl|exact zG rfl|exact fun h=>h|(simp only[zA,zB,zC,zD,bytesW];omega)) only[go_sem,c146L0,c146S4,c146S7,r2]
 refine c146draw0 ?_
 have s3:=s2.drew
 have r3:=s3.rules 0 rfl
 obtain ⟨a,cap,rfl,_⟩:=own_slice (s3.row 1 rfl)
 have key:∀ (w3:World) (a:Option Addr) (cap:Nat) (l:List It) (x9 x11:Value),l.length≤63→St W0 w3 F (CaL c (.slice a l.length cap) l++L) I→W Tryz.prog (sg c146S7) [(0,.pointer (some ⟨c,0,none⟩)),(1,.int .i64 k),(2,.string (ofL v)),(9,x9),(11,x11)] w3 (finQ Tryz.prog [.tmp 6,.tmp 7,.tmp 8] fun u w'=>∃ rv',St W0 w' F (CaL c rv' ((k,v)::l)++L) I):=by
  intro w3 a cap l x9 x11 hl s3
  have r3:=s3.rules 0 rfl
  simp (disch:=first|omega|exact zF rfl|exact zG rfl|exact fun h=>h|(simp only[zA,zB,zC,zD,bytesW];omega)) only[go_sem,c146L0,c146S4,c146S7,r3]
  refine bdW_built (cells:=(itE (k,v)).toArray) (by kernel_rfl) ?_
  simp (disch:=first|omega|exact zF rfl|exact zG rfl|exact fun h=>h|(simp only[zA,zB,zC,zD,bytesW];omega)) only[go_sem,c146L0,c146S4,c146S7]
  refine bsW_agg ty204mkI rfl (by decide) (by decide) ?_
  have s4:=s3.box (itE (k,v)).toArray 223
  simp (disch:=first|omega|exact zF rfl|exact zG rfl|exact fun h=>h|(simp only[zA,zB,zC,zD,bytesW];omega)) only[go_sem,c146L0,c146S4,c146S7]
  generalize w3.heap.size=y at s4 ⊢
  generalize w3.alloc (.cells (itE (k,v)).toArray 223)=w4 at s4 ⊢
  have s5:St W0 w4 F (.row (.slice a l.length cap) 223 3 l.length (l.flatMap itE)::.blk y (itE (k,v)).toArray 223::.blk c #[.int .i64 64,.slice a l.length cap] 206::L) I :=
   St.front (A:=[_,_]) (D:=[_]) (L:=L) s4
  refine Ret.mono (insert_ok s5 (by omega)) ?_
  rintro u w6 s6
  have s8:St W0 w6 F ([.blk c #[.int .i64 64,.slice a l.length cap] 206,.row u 223 3 (l.length+1) (((k,v)::l).flatMap itE)]++L) I:=by
   have:=s6.sub (L':=.row u 223 3 (l.length+1) (((k,v)::l).flatMap itE)::.blk c #[.int .i64 64,.slice a l.length cap] 206::L) (List.Sublist.cons_cons _ (List.sublist_cons_self _ _))
   exact St.front (A:=[_]) (D:=[_]) (L:=L) this
  obtain ⟨a8,cap8,rfl,_⟩:=own_slice (s8.row 1 rfl)
  have r8:=s8.rules 0 rfl
  simp (disch:=first|omega|exact zF rfl|exact zG rfl|exact fun h=>h|(simp only[zA,zB,zC,zD,bytesW];omega)) only[go_sem,c146L0,c146S4,c146S7,r8]
  exact ⟨_,s8.set 0 rfl 1 (.slice a8 (l.length+1) cap8)⟩
 by_cases h63:l.length<64
 ·have h64:¬ (64:Int)≤l.length:=by omega
  have ec:cutC l=l:=by unfold cutC; rw [if_pos h63]
  rw [ec]
  generalize w2.drew=w3 at s3 r3 ⊢
  simp (disch:=first|omega|exact zF rfl|exact zG rfl|exact fun h=>h|(simp only[zA,zB,zC,zD,bytesW];omega)) only[go_sem,c146L0,c146S4,c146D0,r3,h64]
  exact key _ _ _ _ _ _ (by omega) s3
 have h64:(64:Int)≤l.length:=by omega
 have ec:cutC l=l.eraseIdx (l.length - 1):=by unfold cutC; rw [if_neg h63]
 generalize w2.drew=w3 at s3 r3 ⊢
 simp (disch:=first|omega|exact zF rfl|exact zG rfl|exact fun h=>h|(simp only[zA,zB,zC,zD,bytesW];omega)) only[go_sem,c146D0,r3,h64]
 have hil:l.length - 1<l.length:=by omega
 have e63:(l.length:Int) - 1=((l.length - 1:Nat):Int):=by omega
 rw [e63]
 refine ⟨by constructor <;> omega,?_⟩
 refine W_loopU (fun _:Unit=>[]) (fun _ w'=>w'=w3) (fun _=>0) () rfl rfl ?_
 rintro _ _ rfl
 obtain ⟨g,cp,hg,_⟩:=(s3.row 1 rfl).form (by omega)
 cases hg
 obtain ⟨k0,k1,k2⟩:=item_at (i:=l.length - 1) (s3.row 1 rfl) hil
 rename_i w3
 have h0:(0:Int)≤((l.length - 1:Nat):Int):=by omega
 have h1:¬ ((l.length - 1:Nat):Int)<0:=by omega
 have h2:((l.length - 1:Nat):Int)<l.length:=by omega
 simp (disch:=first|omega|exact zF rfl|exact zG rfl|exact fun h=>h|(simp only[zA,zB,zC,zD,bytesW];omega)) only[go_sem,c146L0,c146S4,c146L0,r3,k0,k2,h0,h1,h2]
 refine ⟨by constructor <;> omega,Ret.mono (delete_ok (i:=l.length - 1) (St.front (A:=[_]) (D:=[_]) (L:=L) s3) hil (by omega)) ?_⟩
 rintro u w4 s4
 have s5:=St.front (A:=[_]) (D:=[.blk c #[.int .i64 64,.slice (some ⟨g,0,none⟩) l.length cap] 206]) (L:=L) s4
 obtain ⟨a5,cap5,rfl,_⟩:=own_slice (s5.row 1 rfl)
 have r5:=s5.rules 0 rfl
 have s6:=s5.set 0 rfl 1 (.slice a5 (l.eraseIdx (l.length - 1)).length cap5)
 simp (disch:=first|omega|exact zF rfl|exact zG rfl|exact fun h=>h|(simp only[zA,zB,zC,zD,bytesW];omega)) only[go_sem,c146L0,c146S4,r5]
 rw [ec]
 have hl63:=cutC_len hl
 rw [ec] at hl63
 exact key _ _ _ _ _ _ hl63 s6
def dropK(k:Int)(l:List It):List It:=match findK k l with | some i=>l.eraseIdx i | none=>l
theorem cdrop_ok(k:Int)(h:St W0 w F (CaL c rv l++L) I)(hl:l.length≤1000000) :
  Ret Tryz.prog 131 [.pointer (some ⟨c,0,none⟩),.int .i64 k] w fun u w'=>∃ rv',St W0 w' F (CaL c rv' (dropK k l)++L) I:=by
 unfold dropK
 refine ent131 _ _ _ _ ?_
 simp (disch:=first|omega|exact zF rfl|exact zG rfl|exact fun h=>h|(simp only[zA,zB,zC,zD,bytesW];omega)) only[go_sem]
 refine Ret.mono (place_ok k h hl) ?_
 rintro _ w2 ⟨rfl,b2⟩
 have s2:=h.call b2
 have r2:=s2.rules 0 rfl
 cases hf:findK k l with
 | none =>
  rw [place_none hf]
  simp (disch:=first|omega|exact zF rfl|exact zG rfl|exact fun h=>h|(simp only[zA,zB,zC,zD,bytesW];omega)) only[go_sem]
  exact ⟨rv,s2⟩
 | some i =>
  obtain ⟨e1,hi,e2⟩:=place_some hf
  rw [e1]
  have hi':(0:Int)≤(i:Int):=by omega
  obtain ⟨a,cap,rfl,_⟩:=own_slice (s2.row 1 rfl)
  simp (disch:=first|omega|exact zF rfl|exact zG rfl|exact fun h=>h|(simp only[zA,zB,zC,zD,bytesW];omega)) only[go_sem,hi',r2]
  refine ⟨by constructor <;> omega,Ret.mono (delete_ok (St.front (A:=[_]) (D:=[_]) (L:=L) s2) hi hl) ?_⟩
  rintro u w3 s3
  have s4:=St.front (A:=[_]) (D:=[.blk c #[.int .i64 64,.slice a l.length cap] 206]) (L:=L) s3
  obtain ⟨a4,cap4,rfl,_⟩:=own_slice (s4.row 1 rfl)
  have r4:=s4.rules 0 rfl
  simp (disch:=first|omega|exact zF rfl|exact zG rfl|exact fun h=>h|(simp only[zA,zB,zC,zD,bytesW];omega)) only[go_sem,r4]
  exact ⟨_,s4.set 0 rfl 1 (.slice a4 (l.eraseIdx i).length cap4)⟩
end
open Go Go.Ann Go.RowKit Go.WideShapes
def nowP(s:Sto)(i:Int):List UInt8:=(stRead s i).2.1
def pgs(s:Sto):List (List UInt8):=(List.range s.hd.pages).map fun i:Nat=>nowP s i
theorem pgs_len(s:Sto):(pgs s).length=s.hd.pages:=by unfold pgs; simp
theorem pgs_get{s:Sto}{i:Nat}(h:i<(pgs s).length):(pgs s)[i]=nowP s i:=by simp [pgs]
structure Live(s:Sto)(l:List It):Prop where
 ok:s.ok
 dead:s.dead=false
 gone:s.disk.gone=false
 few:s.hd.pages≤500
 room:l.length≤64
 nd:(l.map Prod.fst).Nodup
 kept:∀ x∈l,0≤x.1∧x.1<s.hd.pages∧x.2=nowP s x.1
theorem getM_set{κ ν:Type}[DecidableEq κ](a b:κ)(v:ν)(c:Nat):∀ l:List (κ × ν × Nat),getM b (setM a v c l)=if b=a then some v else getM b l
 | []=>by simp only [setM,getM]
 | x::l=>by
  simp only [setM]
  by_cases h:a=x.1
  ·rw [if_pos h]
   simp only [getM]
   by_cases h2:b=x.1
   ·rw [if_pos h2,if_pos (h2.trans h.symm)]
   ·rw [if_neg h2,if_neg h2,if_neg (fun e=>h2 (e.trans h))]
  ·rw [if_neg h]
   simp only [getM]
   by_cases h2:b=x.1
   ·rw [if_pos h2,if_pos h2,if_neg (fun e=>h (e.symm.trans h2))]
   ·rw [if_neg h2,if_neg h2,getM_set a b v c l]
theorem setM_mem{κ ν:Type}[DecidableEq κ]{a:κ}{v:ν}{c:Nat}:∀ {l:List (κ × ν × Nat)} {x:κ × ν × Nat},x∈setM a v c l→(x=(a,v,c)∧getM a l=none)∨(∃ y∈l,x.1=y.1∧x.2.2=y.2.2∧(x=y∨x=(y.1,v,y.2.2)∧a=y.1))
 | [],x,h=>by simp only [setM,List.mem_singleton] at h; exact .inl ⟨h,rfl⟩
 | y::l,x,h=>by
  simp only [setM] at h
  split at h
  ·rename_i e
   rcases List.mem_cons.1 h with rfl | h
   ·exact .inr ⟨y,List.mem_cons_self ..,rfl,rfl,.inr ⟨rfl,e⟩⟩
   ·exact .inr ⟨x,List.mem_cons_of_mem _ h,rfl,rfl,.inl rfl⟩
  ·rename_i hne
   rcases List.mem_cons.1 h with rfl | h
   ·exact .inr ⟨x,List.mem_cons_self ..,rfl,rfl,.inl rfl⟩
   ·rcases setM_mem h with ⟨h,hn⟩ | ⟨z,hz,h⟩
    ·exact .inl ⟨h,by simp only [getM]; rw [if_neg hne]; exact hn⟩
    ·exact .inr ⟨z,List.mem_cons_of_mem _ hz,h⟩
theorem setM_keys{κ ν:Type}[DecidableEq κ]{a:κ}{v:ν}{c:Nat}:∀ {l:List (κ × ν × Nat)},(setM a v c l).map Prod.fst=if (getM a l).isSome then l.map Prod.fst else l.map Prod.fst++[a]
 | []=>rfl
 | x::l=>by
  simp only [setM,getM]
  split
  ·simp
  ·simp only [List.map_cons,setM_keys (l:=l)]
   split <;> simp
theorem setM_born{κ ν:Type}[DecidableEq κ]{a:κ}{v:ν}{c:Nat}:∀ {l:List (κ × ν × Nat)},(setM a v c l).map (fun x=>x.2.2)=if (getM a l).isSome then l.map (fun x=>x.2.2) else l.map (fun x=>x.2.2)++[c]
 | []=>rfl
 | x::l=>by
  simp only [setM,getM]
  split
  ·simp
  ·simp only [List.map_cons,setM_born (l:=l)]
   split <;> simp
theorem getM_none{κ ν:Type}[DecidableEq κ]{a:κ}:∀ {l:List (κ × ν × Nat)},getM a l=none→a ∉ l.map Prod.fst
 | [],_=>by simp
 | x::l,h=>by
  simp only [getM] at h
  split at h
  ·cases h
  ·rename_i hne
   simp only [List.map_cons,List.mem_cons,not_or]
   exact ⟨hne,getM_none h⟩
section
variable {s:Sto}
theorem stReady_ok{i:Int}(hd:s.dead=false)(h0:0≤i)(h1:i<s.hd.pages):stReady s i=0:=by
 unfold stReady
 rw [if_neg (by rw [hd]; decide),if_pos ⟨h0,h1⟩]
theorem home_ready{i:Int}(ok:s.ok)(hg:s.disk.gone=false)(h0:0≤i)(h1:i<s.hd.pages):readyN s.disk (homeN s i)=0:=by
 have:=ok.fit
 unfold readyN homeN
 rw [if_neg (by rw [hg]; decide),if_pos (by omega)]
theorem nowP_eq{i:Int}(ok:s.ok)(hd:s.dead=false)(hg:s.disk.gone=false)(h0:0≤i)(h1:i<s.hd.pages) :
  stRead s i=(s,nowP s i,0)∧nowP s i=(getM i s.dirty).getD (lastL s.disk.late (homeN s i) (s.disk.safe.getD (homeN s i).toNat [])):=by
 have e1:=stReady_ok hd h0 h1
 have e2:=home_ready ok hg h0 h1
 have e3:readN s.disk (homeN s i)=(lastL s.disk.late (homeN s i) (s.disk.safe.getD (homeN s i).toNat []),0):=by unfold readN; rw [if_pos e2]
 unfold nowP stRead
 rw [if_neg (by omega)]
 cases hm:getM i s.dirty with
 | some x=>exact ⟨rfl,rfl⟩
 | none=>simp only [e3]; exact ⟨rfl,rfl⟩
theorem nowP_len{i:Int}(ok:s.ok)(hd:s.dead=false)(hg:s.disk.gone=false)(h0:0≤i)(h1:i<s.hd.pages):(nowP s i).length=256:=by
 rw [(nowP_eq ok hd hg h0 h1).2]
 cases hm:getM i s.dirty with
 | some x =>
  have:∃ b,(i,x,b)∈s.dirty:=by
   revert hm
   generalize s.dirty=l
   induction l with
   | nil=>intro h; cases h
   | cons y l ih =>
    intro h
    simp only [getM] at h
    split at h
    ·rename_i e
     simp only [Option.some.injEq] at h
     exact ⟨y.2.2,by rw [e,← h]; exact List.mem_cons_self ..⟩
    ·obtain ⟨b,hb⟩:=ih h
     exact ⟨b,List.mem_cons_of_mem _ hb⟩
  obtain ⟨b,hb⟩:=this
  exact (ok.keys _ hb).2.2
 | none =>
  refine lastL_256 ?_ fun x hx=>(ok.disk.late x hx).2.2
  have:=ok.fit
  have hh:homeN s i=2+s.hd.room+i:=rfl
  rw [List.getD_eq_getElem?_getD,List.getElem?_eq_getElem (by omega)]
  exact ok.disk.safe _ (List.getElem_mem _)
theorem stWrite_in{i:Int}{d:List UInt8}(ok:s.ok)(hd:s.dead=false)(hg:s.disk.gone=false)(h0:0≤i)(h1:i<s.hd.pages)(hl:d.length≤256) :
  (stWrite s i d).2=0∧(stWrite s i d).1.ok∧(stWrite s i d).1.dead=false∧(stWrite s i d).1.disk=s.disk∧(stWrite s i d).1.hd=s.hd∧∀ j:Int,0≤j→j<s.hd.pages→nowP (stWrite s i d).1 j=if j=i then filledL d else nowP s j:=by
 have e1:=stReady_ok hd h0 h1
 have e:stWrite s i d=({ s with dirty:=setM i (filledL d) s.clock s.dirty,clock:=if (getM i s.dirty).isSome then s.clock else s.clock+1 },0):=by
  unfold stWrite
  rw [if_neg (by omega),if_neg (by omega)]
 have ok':(stWrite s i d).1.ok:=by
  rw [e]
  refine ⟨ok.hd,ok.disk,ok.room,ok.pages,ok.few,ok.fit,fun x hx=>?_,?_,?_,fun x hx=>?_⟩
  ·rcases setM_mem hx with ⟨rfl,_⟩ | ⟨y,hy,h2,h3,rfl | ⟨h4,h5⟩⟩
   ·exact ⟨h0,h1,filledL_length hl⟩
   ·exact ok.keys _ hy
   ·rw [h4]; exact ⟨(ok.keys _ hy).1,(ok.keys _ hy).2.1,filledL_length hl⟩
  ·show ((setM i (filledL d) s.clock s.dirty).map Prod.fst).Nodup
   rw [setM_keys]
   split
   ·exact ok.nd
   ·rename_i hn
    rw [List.nodup_append]
    refine ⟨ok.nd,List.pairwise_singleton _ _,fun a ha b hb=>?_⟩
    rw [List.mem_singleton] at hb
    subst hb
    have:=getM_none (a:=b) (l:=s.dirty) (by simpa using hn)
    exact fun e=>this (e ▸ ha)
  ·show ((setM i (filledL d) s.clock s.dirty).map fun x=>x.2.2).Nodup
   rw [setM_born]
   split
   ·exact ok.born
   ·rw [List.nodup_append]
    refine ⟨ok.born,List.pairwise_singleton _ _,fun a ha b hb=>?_⟩
    rw [List.mem_singleton] at hb
    subst hb
    obtain ⟨x,hx,rfl⟩:=List.mem_map.1 ha
    have:=ok.clock x hx
    omega
  ·show x.2.2<if (getM i s.dirty).isSome then s.clock else s.clock+1
   rcases setM_mem hx with ⟨rfl,hn⟩ | ⟨y,hy,_,h3,_⟩
   ·rw [hn]
    exact Nat.lt_succ_self _
   ·have:=ok.clock y hy
    rw [h3]
    split <;> omega
 refine ⟨by rw [e],ok',by rw [e]; exact hd,by rw [e],by rw [e],fun j hj0 hj1=>?_⟩
 have g1:=(nowP_eq ok hd hg hj0 hj1).2
 have g2:=(nowP_eq (s:=(stWrite s i d).1) ok' (by rw [e]; exact hd) (by rw [e]; exact hg) hj0 (by rw [e]; exact hj1)).2
 rw [g2,g1,e]
 show (getM j (setM i (filledL d) s.clock s.dirty)).getD _=_
 rw [getM_set]
 split
 ·rfl
 ·rfl
end
structure En where
 p:Nat
 b:Nat
 mb:Nat
 g:Nat
 c:Nat
 vb:Value
 vl:Value
 hd:Hd
 m:Dk
 mx:Nat
def PgL(e:En)(rv:Value)(l:List It)(s:Sto):List Res :=
 [.blk e.p #[.pointer (some ⟨e.b,0,none⟩),.pointer (some ⟨e.c,0,none⟩)] 98]++(StoL e.b e.mb e.g e.vb e.vl s++CaL e.c rv l)
theorem St.mid{W0 w:World}{F:Nat→Prop}{A B C L:List Res}{I:List Inv}(h:St W0 w F (A++(B++C)++L) I):St W0 w F (B++((A++C)++L)) I :=
 h.perm (by
  have:=(List.perm_append_comm (l₁:=B) (l₂:=A)).append_right (C++L)
  simpa only [List.append_assoc] using this)
theorem St.unmid{W0 w:World}{F:Nat→Prop}{A B C L:List Res}{I:List Inv}(h:St W0 w F (B++((A++C)++L)) I):St W0 w F (A++(B++C)++L) I :=
 h.perm (by
  have:=(List.perm_append_comm (l₁:=A) (l₂:=B)).append_right (C++L)
  simpa only [List.append_assoc] using this)
theorem St.last{W0 w:World}{F:Nat→Prop}{A B C L:List Res}{I:List Inv}(h:St W0 w F (A++(B++C)++L) I):St W0 w F (C++((A++B)++L)) I :=
 h.perm (by
  have:=(List.perm_append_comm (l₁:=C) (l₂:=A++B)).append_right L
  simpa only [List.append_assoc] using this)
theorem St.unlast{W0 w:World}{F:Nat→Prop}{A B C L:List Res}{I:List Inv}(h:St W0 w F (C++((A++B)++L)) I):St W0 w F (A++(B++C)++L) I :=
 h.perm (by
  have:=(List.perm_append_comm (l₁:=A++B) (l₂:=C)).append_right L
  simpa only [List.append_assoc] using this)
def LowD(s:Sto)(mx:Nat):Prop:=2≤mx∧∀ x∈s.dirty,x.1<mx
theorem stWrite_low{s:Sto}{i:Int}{d:List UInt8}{mx:Nat}(h:LowD s mx)(hi:i<mx):LowD (stWrite s i d).1 mx:=by
 unfold stWrite
 split
 ·exact h
 ·split
  ·exact h
  ·refine ⟨h.1,fun x hx=>?_⟩
   rcases setM_mem hx with ⟨rfl,_⟩ | ⟨y,hy,h2,_,_⟩
   ·exact hi
   ·rw [h2]; exact h.2 y hy
def Pgr(e:En)(P:List (List UInt8))(W0 w:World)(F:Nat→Prop)(L:List Res)(I:List Inv):Prop :=
 ∃ rv l s,St W0 w F (PgL e rv l s++L) I∧Live s l∧s.hd=e.hd∧s.disk=e.m∧LowD s e.mx∧pgs s=P
theorem nodup_few:∀ (n:Nat) (l:List Int),l.Nodup→(∀ x∈l,0≤x∧x<n)→l.length≤n
 | 0,l,_,h=>by
  cases l with
  | nil=>exact Nat.le_refl _
  | cons x l=>have:=h x (List.mem_cons_self ..); omega
 | n+1,l,hn,h=>by
  by_cases hm:(n:Int)∈l
  ·have h1:=nodup_few n (l.erase n) (hn.erase _) fun x hx=>by
    have h2:=h x (List.mem_of_mem_erase hx)
    have h3:x≠(n:Int):=fun e=>by subst e; exact (List.Nodup.not_mem_erase hn) hx
    omega
   rw [List.length_erase_of_mem hm] at h1
   have:0<l.length:=List.length_pos_of_mem hm
   omega
  ·have h1:=nodup_few n l hn fun x hx=>by
    have h2:=h x hx
    have h3:x≠(n:Int):=fun e=>hm (e ▸ hx)
    omega
   omega
theorem Live.len{s:Sto}{l:List It}(h:Live s l):l.length≤s.hd.pages:=by
 have:=nodup_few s.hd.pages (l.map Prod.fst) h.nd fun x hx=>by
  obtain ⟨y,hy,rfl⟩:=List.mem_map.1 hx
  exact ⟨(h.kept y hy).1,(h.kept y hy).2.1⟩
 rwa [List.length_map] at this
theorem get_erase_perm{α:Type}:∀ {l:List α} {i:Nat} (hi:i<l.length),(l[i]::l.eraseIdx i).Perm l
 | a::l,0,_=>List.Perm.refl _
 | a::l,i+1,hi=>by
  have:=get_erase_perm (l:=l) (i:=i) (by simpa using hi)
  simp only [List.getElem_cons_succ,List.eraseIdx_cons_succ]
  exact (List.Perm.swap _ _ _).trans (this.cons a)
theorem Live.front{s:Sto}{l:List It}{i:Nat}(h:Live s l)(hi:i<l.length):Live s (l[i]::l.eraseIdx i) :=
 ⟨h.ok,h.dead,h.gone,h.few,by rw [(get_erase_perm hi).length_eq]; exact h.room,((get_erase_perm hi).map Prod.fst).nodup_iff.2 h.nd,fun x hx=>h.kept x ((get_erase_perm hi).subset hx)⟩
theorem Live.erase{s:Sto}{l:List It}(h:Live s l)(i:Nat):Live s (l.eraseIdx i) :=
 ⟨h.ok,h.dead,h.gone,h.few,Nat.le_trans (List.eraseIdx_sublist l i).length_le h.room,h.nd.sublist ((List.eraseIdx_sublist l i).map _),fun x hx=>h.kept x ((List.eraseIdx_sublist l i).subset hx)⟩
theorem findK_none{k:Int}{l:List It}(h:findK k l=none):∀ x∈l,x.1≠k:=by
 unfold findK at h
 rw [List.findIdx?_eq_none_iff] at h
 intro x hx
 simpa using h x hx
theorem pgs_now{s:Sto}{P:List (List UInt8)}(e:pgs s=P){i:Int}(h0:0≤i)(h1:i<P.length):nowP s i=P.getD i.toNat []∧i<s.hd.pages:=by
 subst e
 have hl:=pgs_len s
 refine ⟨?_,by omega⟩
 rw [List.getD_eq_getElem?_getD,List.getElem?_eq_getElem (by omega),Option.getD_some,pgs_get]
 congr 1; omega
theorem pgs_eq{s:Sto}{P:List (List UInt8)}(hl:P.length=s.hd.pages)(h:∀ i:Nat,i<P.length→nowP s i=P.getD i []):pgs s=P:=by
 refine List.ext_getElem (by rw [pgs_len,hl]) fun i h1 h2=>?_
 rw [pgs_get,h i h2,List.getD_eq_getElem?_getD,List.getElem?_eq_getElem h2]; rfl
section
variable {W0 w:World} {F:Nat→Prop} {L:List Res} {I:List Inv} {e:En} {P:List (List UInt8)}
theorem Pgr.below(h:Pgr e P W0 w F L I){w':World}(hb:Below w.heap.size w w'):Pgr e P W0 w' F L I:=by
 obtain ⟨rv,l,s,h1,h2⟩:=h
 exact ⟨rv,l,s,h1.call hb,h2⟩
theorem Pgr.drew(h:Pgr e P W0 w F L I):Pgr e P W0 w.drew F L I:=by
 obtain ⟨rv,l,s,h1,h2⟩:=h
 exact ⟨rv,l,s,h1.drew,h2⟩
theorem Pgr.len(h:Pgr e P W0 w F L I):P.length=e.hd.pages∧P.length≤500:=by
 obtain ⟨rv,l,s,h1,h2,h3,h4,h0,h5⟩:=h
 have:=h2.few
 rw [← h5,pgs_len,h3]
 rw [h3] at this
 exact ⟨rfl,this⟩
theorem Pgr.full(h:Pgr e P W0 w F L I):∀ x∈P,x.length=256:=by
 obtain ⟨rv,l,s,h1,h2,h3,h4,h0,h5⟩:=h
 subst h5
 intro x hx
 obtain ⟨i,hi,rfl⟩:=List.mem_map.1 hx
 rw [List.mem_range] at hi
 exact nowP_len h2.ok h2.dead h2.gone (by omega) (by omega)
theorem pread_ok(i:Int)(h:Pgr e P W0 w F L I)(h0:0≤i)(h1:i<P.length) :
  Ret Tryz.prog 97 [.pointer (some ⟨e.p,0,none⟩),.int .i64 i] w fun u w'=>u=.tuple #[.string (ofL (P.getD i.toNat [])),.int .i64 0]∧Pgr e P W0 w' F L I:=by
 obtain ⟨rv,l,s,hs,hv,e1,e2,e0,e3⟩:=h
 obtain ⟨en,hlt⟩:=pgs_now e3 h0 h1
 have hll:=hv.len
 have hfw:=hv.few
 have r1:=hs.rules 0 rfl
 refine ent97 _ _ _ _ ?_
 simp (disch:=first|omega|exact zF rfl|exact zG rfl|exact fun h=>h|(simp only[zA,zB,zC,zD,bytesW];omega)) only[go_sem,r1]
 refine Ret.mono (cget_ok i (St.last hs) (by omega)) ?_
 rintro _ w2 ⟨rfl,s2⟩
 cases hf:findK i l with
 | some j =>
  obtain ⟨_,hj,hk⟩:=place_some hf
  have eg:l.getD j (0,[])=l[j]:=by rw [List.getD_eq_getElem?_getD,List.getElem?_eq_getElem hj]; rfl
  have ec:getC i l=(l[j].2,true,l[j]::l.eraseIdx j):=by unfold getC; rw [hf]; simp only [eg]
  rw [ec] at s2 ⊢
  simp (disch:=first|omega|exact zF rfl|exact zG rfl|exact fun h=>h|(simp only[zA,zB,zC,zD,bytesW];omega)) only[go_sem]
  refine ⟨?_,rv,_,s,St.unlast s2,hv.front hj,e1,e2,e0,e3⟩
  rw [(hv.kept l[j] (List.getElem_mem hj)).2.2,hk,en]
 | none =>
  have ec:getC i l=([],false,l):=by unfold getC; rw [hf]
  rw [ec] at s2 ⊢
  have s2':=St.unlast s2
  have r2:=s2'.rules 0 rfl
  simp (disch:=first|omega|exact zF rfl|exact zG rfl|exact fun h=>h|(simp only[zA,zB,zC,zD,bytesW];omega)) only[go_sem,r2]
  refine Ret.mono (sread_ok i (St.mid s2') hv.ok) ?_
  rintro _ w3 ⟨rfl,s3⟩
  have hq:=(nowP_eq hv.ok hv.dead hv.gone h0 hlt).1
  rw [hq] at s3 ⊢
  have s3':=St.unmid s3
  have r3:=s3'.rules 0 rfl
  have hnk:=findK_none hf
  simp (disch:=first|omega|exact zF rfl|exact zG rfl|exact fun h=>h|(simp only[zA,zB,zC,zD,bytesW];omega)) only[go_sem,r3]
  refine Ret.mono (cput_ok (v:=nowP s i) (St.last s3') hf hv.room) ?_
  rintro u w4 ⟨rv',s4⟩
  simp (disch:=first|omega|exact zF rfl|exact zG rfl|exact fun h=>h|(simp only[zA,zB,zC,zD,bytesW];omega)) only[go_sem]
  have hsub:=cutC_sub l
  refine ⟨by rw [en],rv',_,s,St.unlast s4,⟨hv.ok,hv.dead,hv.gone,hv.few,by have:=cutC_len hv.room; rw [List.length_cons]; show (cutC l).length+1≤64; omega,?_,?_⟩,e1,e2,e0,e3⟩
  ·rw [List.map_cons,List.nodup_cons]
   refine ⟨fun hm=>?_,hv.nd.sublist (hsub.map _)⟩
   obtain ⟨y,hy,he⟩:=List.mem_map.1 hm
   exact hnk y (hsub.subset hy) he
  ·intro x hx
   rcases List.mem_cons.1 hx with rfl | hx
   ·exact ⟨h0,hlt,rfl⟩
   ·exact hv.kept x (hsub.subset hx)
theorem Pgr.two(h:Pgr e P W0 w F L I):2≤e.mx:=by
 obtain ⟨rv,l,s,h1,h2,h3,h4,h0,h5⟩:=h
 exact h0.1
theorem pwrite_ok(i:Int)(d:List UInt8)(h:Pgr e P W0 w F L I)(h0:0≤i)(h1:i<P.length)(hm:i<e.mx) :
  Ret Tryz.prog 70 [.pointer (some ⟨e.p,0,none⟩),.int .i64 i,.string (ofL d)] w fun u w'=>u=.int .i64 (if 256<d.length then 21 else 0)∧Pgr e (if 256<d.length then P else P.set i.toNat (filledL d)) W0 w' F L I:=by
 obtain ⟨rv,l,s,hs,hv,e1,e2,e0,e3⟩:=h
 obtain ⟨en,hlt⟩:=pgs_now e3 h0 h1
 have hll:=hv.len
 have hfw:=hv.few
 have r1:=hs.rules 0 rfl
 refine ent70 _ _ _ _ _ ?_
 simp (disch:=first|omega|exact zF rfl|exact zG rfl|exact fun h=>h|(simp only[zA,zB,zC,zD,bytesW];omega)) only[go_sem,r1]
 refine Ret.mono (cdrop_ok i (St.last hs) (by omega)) ?_
 rintro u w2 ⟨rv',s2⟩
 have hv2:∃ l',dropK i l=l'∧Live s l'∧∀ x∈l',x.1≠i:=by
  refine ⟨_,rfl,?_⟩
  unfold dropK
  cases hf:findK i l with
  | none=>exact ⟨hv,findK_none hf⟩
  | some j =>
   obtain ⟨_,hj,hk⟩:=place_some hf
   refine ⟨hv.erase j,fun x hx he=>?_⟩
   have hn:=((get_erase_perm hj).map Prod.fst).nodup_iff.2 hv.nd
   rw [List.map_cons,List.nodup_cons] at hn
   exact hn.1 (by rw [hk,← he]; exact List.mem_map_of_mem hx)
 obtain ⟨l',el,hv2,hne⟩:=hv2
 rw [el] at s2
 have s2':=St.unlast s2
 have r2:=s2'.rules 0 rfl
 simp (disch:=first|omega|exact zF rfl|exact zG rfl|exact fun h=>h|(simp only[zA,zB,zC,zD,bytesW];omega)) only[go_sem,r2]
 refine Ret.mono (swrite_ok i d (St.mid s2')) ?_
 rintro _ w3 ⟨rfl,s3⟩
 have s3':=St.unmid s3
 simp (disch:=first|omega|exact zF rfl|exact zG rfl|exact fun h=>h|(simp only[zA,zB,zC,zD,bytesW];omega)) only[go_sem]
 by_cases hd:256<d.length
 ·have ew:stWrite s i d=(s,21):=by
   unfold stWrite
   rw [if_neg (by rw [stReady_ok hv.dead h0 hlt]; decide),if_pos hd]
  rw [ew] at s3' ⊢
  rw [if_pos hd,if_pos hd]
  exact ⟨rfl,rv',l',s,s3',hv2,e1,e2,e0,e3⟩
 ·obtain ⟨w1,w2,w3,w4,w5,w6⟩:=stWrite_in hv.ok hv.dead hv.gone h0 hlt (d:=d) (by omega)
  rw [w1,if_neg hd,if_neg hd]
  refine ⟨rfl,rv',l',_,s3',⟨w2,w3,by rw [w4]; exact hv.gone,by rw [w5]; exact hv.few,hv2.room,hv2.nd,fun x hx=>?_⟩,w5.trans e1,w4.trans e2,stWrite_low e0 hm,?_⟩
  ·obtain ⟨k0,k1,k2⟩:=hv2.kept x hx
   refine ⟨k0,by rw [w5]; exact k1,?_⟩
   rw [w6 _ k0 k1,if_neg (hne x hx)]
   exact k2
  ·have hpl:P.length=s.hd.pages:=by rw [← e3,pgs_len]
   refine pgs_eq (by rw [w5,List.length_set,hpl]) fun j hj=>?_
   rw [List.length_set] at hj
   rw [w6 j (by omega) (by omega)]
   have:=(pgs_now e3 (i:=(j:Int)) (by omega) (by omega)).1
   by_cases he:(j:Int)=i
   ·rw [if_pos he]
    subst he
    rw [List.getD_eq_getElem?_getD,Int.toNat_natCast,List.getElem?_set_self hj]; rfl
   ·rw [if_neg he,this,List.getD_eq_getElem?_getD,List.getD_eq_getElem?_getD,List.getElem?_set_ne (by omega),Int.toNat_natCast]
end
open Go Go.Ann Go.RowKit Go.WideShapes
def usedP(P:List (List UInt8)):List UInt8:=P.getD 0 []
def chkN(P:List (List UInt8))(i:Int):Int:=if 2≤i∧i<P.length∧hasL (usedP P) i=true then 0 else 6
def markP(P:List (List UInt8))(i:Int)(b:Bool):List (List UInt8):=P.set 0 (filledL (withL (usedP P) i b))
def emptyP(P:List (List UInt8))(i:Int):List (List UInt8):=P.set i.toNat (filledL [])
def cntN(U:List UInt8)(m:Nat):Nat:=((List.range m).filter fun j:Nat=>hasL U j).length
theorem cntN_succ(U:List UInt8)(m:Nat):cntN U (m+1)=cntN U m+if hasL U m=true then 1 else 0:=by
 unfold cntN
 rw [List.range_succ,List.filter_append,List.length_append]
 congr 1
 by_cases h:hasL U m=true
 ·rw [if_pos h]; simp only [List.filter_cons,List.filter_nil,h]; rfl
 ·rw [if_neg h]; simp only [List.filter_cons,List.filter_nil,h]; rfl
theorem cntN_le(U:List UInt8)(m:Nat):cntN U m≤m:=by
 unfold cntN
 exact Nat.le_trans (List.length_filter_le _ _) (by simp)
theorem cnt8(U:List UInt8):∀ k,k≤U.length→cntN U (8 * k)=countL (U.take k)
 | 0,_=>by simp [cntN,countL]
 | k+1,h=>by
  rw [countL_take U k (by omega),← cnt8 U k (by omega)]
  unfold cntN popN
  rw [show 8 * (k+1)=8 * k+8 by omega,List.range_add,List.filter_append,List.length_append,List.filter_map,List.length_map]
  congr 2
  refine List.filter_congr fun r hr=>?_
  rw [List.mem_range] at hr
  have hl:=hasL_in U ((8 * k+r:Nat):Int) (by omega)
  rw [Function.comp_apply,hl]
  congr 1
  ·congr 1; omega
  ·omega
def roomN(P:List (List UInt8)):Nat:=P.length - cntN (usedP P) P.length
def lowP(P:List (List UInt8)):Option Nat:=(List.range P.length).find? fun i:Nat=>decide (2≤i) && !hasL (usedP P) i
theorem low_same{P:List (List UInt8)}{v:Int}{ok:Bool}(hu:(usedP P).length=256)(hp:P.length≤500)(h:IsLow (usedP P) 2 P.length v ok) :
  (lowP P=none∧ok=false)∨(∃ k:Nat,lowP P=some k∧v=k∧ok=true∧2≤k∧k<P.length):=by
 rcases h with ⟨rfl,h1,h2,h3,h4,h5,h6⟩ | ⟨rfl,rfl,h6⟩
 ·refine .inr ⟨v.toNat,?_,by omega,rfl,by omega,by omega⟩
  unfold lowP
  rw [List.find?_range_eq_some]
  refine ⟨?_,?_,?_⟩
  ·rw [show ((v.toNat:Nat):Int)=v by omega,h5]; simp; omega
  ·rw [List.mem_range]; omega
  ·intro j hj
   by_cases h2j:2≤j
   ·rw [h6 j (by omega) (by omega) (by omega)]; simp
   ·simp [h2j]
 ·refine .inl ⟨?_,rfl⟩
  unfold lowP
  rw [List.find?_eq_none]
  intro j hj
  rw [List.mem_range] at hj
  by_cases h2j:2≤j
  ·rw [h6 j (by omega) (by omega) (by omega) (by omega)]; simp
  ·simp [h2j]
section
variable {W0 w:World} {F:Nat→Prop} {L:List Res} {I:List Inv} {e:En} {P:List (List UInt8)}
theorem Pgr.blk(h:Pgr e P W0 w F L I):Blk w e.p #[.pointer (some ⟨e.b,0,none⟩),.pointer (some ⟨e.c,0,none⟩)] 98:=by
 obtain ⟨rv,l,s,hs,_⟩:=h
 exact hs.blk 0 rfl
theorem pslen_ok(h:Pgr e P W0 w F L I) :
  Ret Tryz.prog 47 [.pointer (some ⟨e.b,0,none⟩)] w fun u w'=>u=.int .i64 P.length∧w'=w:=by
 obtain ⟨rv,l,s,hs,hv,e1,e2,e0,e3⟩:=h
 refine Ret.mono (slen_ok (St.mid hs)) ?_
 rintro _ w2 ⟨rfl,e⟩
 exact ⟨by rw [← e3,pgs_len],e⟩
theorem made_ok(h:Pgr e P W0 w F L I) :
  Ret Tryz.prog 96 [.pointer (some ⟨e.p,0,none⟩)] w fun u w'=>u=.bool true∧w'=w:=by
 have r1:=h.blk.rules
 refine ent96 _ _ _ ?_
 simp (disch:=first|omega|exact zF rfl|exact zG rfl|exact fun h=>h|(simp only[zA,zB,zC,zD,bytesW];omega)) only[go_sem,r1]
theorem used_ok(h:Pgr e P W0 w F L I)(h3:3≤P.length) :
  Ret Tryz.prog 46 [.pointer (some ⟨e.p,0,none⟩)] w fun u w'=>u=.tuple #[.string (ofL (usedP P)),.int .i64 0]∧Pgr e P W0 w' F L I:=by
 refine ent46 _ _ _ ?_
 simp (disch:=first|omega|exact zF rfl|exact zG rfl|exact fun h=>h|(simp only[zA,zB,zC,zD,bytesW];omega)) only[go_sem]
 refine Ret.mono (made_ok h) ?_
 rintro _ w2 ⟨rfl,e2⟩
 subst w2
 simp (disch:=first|omega|exact zF rfl|exact zG rfl|exact fun h=>h|(simp only[zA,zB,zC,zD,bytesW];omega)) only[go_sem]
 refine Ret.mono (pread_ok 0 h (by decide) (by omega)) ?_
 rintro _ w2 ⟨rfl,h2⟩
 simp (disch:=first|omega|exact zF rfl|exact zG rfl|exact fun h=>h|(simp only[zA,zB,zC,zD,bytesW];omega)) only[go_sem]
 first | exact h2 | exact ⟨rfl,h2⟩
theorem Pgr.used256(h:Pgr e P W0 w F L I)(h3:3≤P.length):(usedP P).length=256:=by
 refine h.full _ ?_
 unfold usedP
 rw [List.getD_eq_getElem?_getD,List.getElem?_eq_getElem (by omega)]
 exact List.getElem_mem _
theorem check_ok(i:Int)(h:Pgr e P W0 w F L I)(h3:3≤P.length)(hi:I64 i) :
  Ret Tryz.prog 69 [.pointer (some ⟨e.p,0,none⟩),.int .i64 i] w fun u w'=>u=.int .i64 (chkN P i)∧Pgr e P W0 w' F L I:=by
 refine ent69 _ _ _ _ ?_
 simp (disch:=first|omega|exact zF rfl|exact zG rfl|exact fun h=>h|(simp only[zA,zB,zC,zD,bytesW];omega)) only[go_sem]
 refine Ret.mono (used_ok h h3) ?_
 rintro _ w2 ⟨rfl,h2⟩
 simp (disch:=first|omega|exact zF rfl|exact zG rfl|exact fun h=>h|(simp only[zA,zB,zC,zD,bytesW];omega)) only[go_sem]
 by_cases c1:2≤i
 case neg =>
  have c1':i<2:=by omega
  have e:chkN P i=6:=by unfold chkN; rw [if_neg (fun hc=>c1 hc.1)]
  rw [e]
  simp (disch:=first|omega|exact zF rfl|exact zG rfl|exact fun h=>h|(simp only[zA,zB,zC,zD,bytesW];omega)) only[go_sem,c1,c1']
  exact h2
 have c1':¬ i<2:=by omega
 have r2:=h2.blk.rules
 simp (disch:=first|omega|exact zF rfl|exact zG rfl|exact fun h=>h|(simp only[zA,zB,zC,zD,bytesW];omega)) only[go_sem,c1,c1',r2]
 refine Ret.mono (pslen_ok h2) ?_
 rintro _ w3 ⟨rfl,e3⟩
 subst w3
 by_cases c2:i<P.length
 case neg =>
  have c2':(P.length:Int)≤i:=by omega
  have e:chkN P i=6:=by unfold chkN; rw [if_neg (fun hc=>c2 hc.2.1)]
  rw [e]
  simp (disch:=first|omega|exact zF rfl|exact zG rfl|exact fun h=>h|(simp only[zA,zB,zC,zD,bytesW];omega)) only[go_sem,c2,c2']
  exact h2
 have c2':¬ (P.length:Int)≤i:=by omega
 simp (disch:=first|omega|exact zF rfl|exact zG rfl|exact fun h=>h|(simp only[zA,zB,zC,zD,bytesW];omega)) only[go_sem,c2,c2']
 refine Ret.mono (has_ok _ i _ hi) ?_
 rintro _ w4 ⟨rfl,e4⟩
 subst w4
 cases hh:hasL (usedP P) i with
 | true =>
  have e:chkN P i=0:=by unfold chkN; rw [if_pos ⟨c1,c2,hh⟩]
  rw [e]
  simp (disch:=first|omega|exact zF rfl|exact zG rfl|exact fun h=>h|(simp only[zA,zB,zC,zD,bytesW];omega)) only[go_sem]
  exact h2
 | false =>
  have e:chkN P i=6:=by unfold chkN; rw [if_neg (fun hc=>by rw [hh] at hc; cases hc.2.2)]
  rw [e]
  simp (disch:=first|omega|exact zF rfl|exact zG rfl|exact fun h=>h|(simp only[zA,zB,zC,zD,bytesW];omega)) only[go_sem]
  exact h2
def allocN(P:List (List UInt8)):List (List UInt8) × Int × Int:=match lowP P with
 | some k=>(emptyP (markP P k true) k,k,0)
 | none=>(P,0,13)
theorem filled256{l:List UInt8}(h:l.length=256):filledL l=l:=by unfold filledL; rw [h]; simp
theorem palloc_ok(h:Pgr e P W0 w F L I)(h3:3≤P.length)(hcap:∀ k:Nat,lowP P=some k→k<e.mx) :
  Ret Tryz.prog 64 [.pointer (some ⟨e.p,0,none⟩)] w fun u w'=>u=.tuple #[.int .i64 (allocN P).2.1,.int .i64 (allocN P).2.2]∧Pgr e (allocN P).1 W0 w' F L I:=by
 have h64:=h.len.2
 have hu:=h.used256 h3
 refine ent64 _ _ _ ?_
 simp (disch:=first|omega|exact zF rfl|exact zG rfl|exact fun h=>h|(simp only[zA,zB,zC,zD,bytesW];omega)) only[go_sem]
 refine Ret.mono (used_ok h h3) ?_
 rintro _ w2 ⟨rfl,h2⟩
 have r2:=h2.blk.rules
 simp (disch:=first|omega|exact zF rfl|exact zG rfl|exact fun h=>h|(simp only[zA,zB,zC,zD,bytesW];omega)) only[go_sem,r2]
 refine Ret.mono (pslen_ok h2) ?_
 rintro _ w3 ⟨rfl,e3⟩
 subst w3
 simp (disch:=first|omega|exact zF rfl|exact zG rfl|exact fun h=>h|(simp only[zA,zB,zC,zD,bytesW];omega)) only[go_sem]
 refine Ret.mono (lowest_ok (usedP P) 2 P.length w2 ⟨by omega,by omega⟩ ⟨by omega,by omega⟩ (by rw [hu]; decide)) ?_
 rintro _ w4 ⟨v,ok,rfl,hlow,e4⟩
 subst w4
 unfold allocN
 rcases low_same hu h64 hlow with ⟨hn,rfl⟩ | ⟨k,hk,rfl,rfl,h2k,hlk⟩
 ·rw [hn]
  simp (disch:=first|omega|exact zF rfl|exact zG rfl|exact fun h=>h|(simp only[zA,zB,zC,zD,bytesW];omega)) only[go_sem]
  first | exact h2 | exact ⟨rfl,h2⟩
 ·rw [hk]
  simp (disch:=first|omega|exact zF rfl|exact zG rfl|exact fun h=>h|(simp only[zA,zB,zC,zD,bytesW];omega)) only[go_sem]
  refine Ret.mono (with_ok (usedP P) k true w2 ⟨by omega,by omega⟩) ?_
  rintro _ w5 ⟨rfl,b5⟩
  have h5:=h2.below b5
  simp (disch:=first|omega|exact zF rfl|exact zG rfl|exact fun h=>h|(simp only[zA,zB,zC,zD,bytesW];omega)) only[go_sem]
  refine Ret.mono (pwrite_ok 0 _ h5 (by decide) (by omega) (by have:=h5.two; omega)) ?_
  rintro _ w6 ⟨rfl,h6⟩
  rw [if_neg (by rw [withL_length,hu]; decide)] at h6 ⊢
  simp (disch:=first|omega|exact zF rfl|exact zG rfl|exact fun h=>h|(simp only[zA,zB,zC,zD,bytesW];omega)) only[go_sem]
  refine Ret.mono (pwrite_ok k [] h6 (by omega) (by rw [List.length_set]; omega) (by have:=hcap k hk; omega)) ?_
  rintro _ w7 ⟨rfl,h7⟩
  simp (disch:=first|omega|exact zF rfl|exact zG rfl|exact fun h=>h|(simp only[zA,zB,zC,zD,bytesW];omega)) only[go_sem]
  first | exact h7 | exact ⟨rfl,h7⟩
def getN(P:List (List UInt8))(i:Int):List UInt8 × Int:=if chkN P i≠0 then ([],chkN P i) else (P.getD i.toNat [],0)
theorem chk_in{P:List (List UInt8)}{i:Int}(h:chkN P i=0):2≤i∧i<P.length:=by
 unfold chkN at h
 split at h
 ·rename_i hh; exact ⟨hh.1,hh.2.1⟩
 ·cases h
theorem pget_ok(i:Int)(h:Pgr e P W0 w F L I)(h3:3≤P.length)(hi:I64 i) :
  Ret Tryz.prog 39 [.pointer (some ⟨e.p,0,none⟩),.int .i64 i] w fun u w'=>u=.tuple #[.string (ofL (getN P i).1),.int .i64 (getN P i).2]∧Pgr e P W0 w' F L I:=by
 refine ent39 _ _ _ _ ?_
 simp (disch:=first|omega|exact zF rfl|exact zG rfl|exact fun h=>h|(simp only[zA,zB,zC,zD,bytesW];omega)) only[go_sem]
 refine Ret.mono (check_ok i h h3 hi) ?_
 rintro _ w2 ⟨rfl,h2⟩
 unfold getN
 by_cases hc:chkN P i=0
 case neg =>
  rw [if_pos hc]
  simp (disch:=first|omega|exact zF rfl|exact zG rfl|exact fun h=>h|(simp only[zA,zB,zC,zD,bytesW];omega)) only[go_sem,hc]
  first | exact h2 | exact ⟨rfl,h2⟩
 obtain ⟨c1,c2⟩:=chk_in hc
 rw [if_neg (by omega)]
 simp (disch:=first|omega|exact zF rfl|exact zG rfl|exact fun h=>h|(simp only[zA,zB,zC,zD,bytesW];omega)) only[go_sem,hc]
 refine Ret.mono (pread_ok i h2 (by omega) c2) ?_
 rintro _ w3 ⟨rfl,h3'⟩
 simp (disch:=first|omega|exact zF rfl|exact zG rfl|exact fun h=>h|(simp only[zA,zB,zC,zD,bytesW];omega)) only[go_sem]
 first | exact h3' | exact ⟨rfl,h3'⟩
def setPN(P:List (List UInt8))(i:Int)(d:List UInt8):List (List UInt8) × Int:=if chkN P i≠0 then (P,chkN P i) else if 256<d.length then (P,21) else (P.set i.toNat (filledL d),0)
theorem pset_ok(i:Int)(d:List UInt8)(h:Pgr e P W0 w F L I)(h3:3≤P.length)(hi:I64 i)(hm:chkN P i=0→i<e.mx) :
  Ret Tryz.prog 19 [.pointer (some ⟨e.p,0,none⟩),.int .i64 i,.string (ofL d)] w fun u w'=>u=.int .i64 (setPN P i d).2∧Pgr e (setPN P i d).1 W0 w' F L I:=by
 refine ent19 _ _ _ _ _ ?_
 simp (disch:=first|omega|exact zF rfl|exact zG rfl|exact fun h=>h|(simp only[zA,zB,zC,zD,bytesW];omega)) only[go_sem]
 refine Ret.mono (check_ok i h h3 hi) ?_
 rintro _ w2 ⟨rfl,h2⟩
 unfold setPN
 by_cases hc:chkN P i=0
 case neg =>
  rw [if_pos hc]
  simp (disch:=first|omega|exact zF rfl|exact zG rfl|exact fun h=>h|(simp only[zA,zB,zC,zD,bytesW];omega)) only[go_sem,hc]
  first | exact h2 | exact ⟨rfl,h2⟩
 obtain ⟨c1,c2⟩:=chk_in hc
 rw [if_neg (by omega)]
 simp (disch:=first|omega|exact zF rfl|exact zG rfl|exact fun h=>h|(simp only[zA,zB,zC,zD,bytesW];omega)) only[go_sem,hc]
 refine Ret.mono (pwrite_ok i d h2 (by omega) c2 (hm hc)) ?_
 rintro _ w3 ⟨rfl,h3'⟩
 simp (disch:=first|omega|exact zF rfl|exact zG rfl|exact fun h=>h|(simp only[zA,zB,zC,zD,bytesW];omega)) only[go_sem]
 by_cases hd:256<d.length
 ·rw [if_pos hd] at h3'
  rw [if_pos hd,if_pos hd]
  first | exact h3' | exact ⟨rfl,h3'⟩
 ·rw [if_neg hd] at h3'
  rw [if_neg hd,if_neg hd]
  first | exact h3' | exact ⟨rfl,h3'⟩
def rootB(P:List (List UInt8)):List UInt8:=P.getD 1 []
def rootN(P:List (List UInt8))(i:Int):Int × Int:=if 0≤i∧i<16 then (unfixL (cutL (rootB P) (4 * i) (4 * i+4)),0) else (0,1)
theorem Pgr.root256(h:Pgr e P W0 w F L I)(h3:3≤P.length):(rootB P).length=256:=by
 refine h.full _ ?_
 unfold rootB
 rw [List.getD_eq_getElem?_getD,List.getElem?_eq_getElem (by omega)]
 exact List.getElem_mem _
theorem proot_ok(i:Int)(h:Pgr e P W0 w F L I)(h3:3≤P.length)(hi:I64 i) :
  Ret Tryz.prog 36 [.pointer (some ⟨e.p,0,none⟩),.int .i64 i] w fun u w'=>u=.tuple #[.int .i64 (rootN P i).1,.int .i64 (rootN P i).2]∧Pgr e P W0 w' F L I:=by
 have hr:=h.root256 h3
 refine ent36 _ _ _ _ ?_
 simp (disch:=first|omega|exact zF rfl|exact zG rfl|exact fun h=>h|(simp only[zA,zB,zC,zD,bytesW];omega)) only[go_sem]
 refine Ret.mono (made_ok h) ?_
 rintro _ w2 ⟨rfl,e2⟩
 subst w2
 unfold rootN
 by_cases c:0≤i∧i<16
 case neg =>
  rw [if_neg c]
  by_cases c1:i<0
  ·simp (disch:=first|omega|exact zF rfl|exact zG rfl|exact fun h=>h|(simp only[zA,zB,zC,zD,bytesW];omega)) only[go_sem,c1]
   first | exact h | exact ⟨rfl,h⟩
  ·have c2:(16:Int)≤i:=by omega
   simp (disch:=first|omega|exact zF rfl|exact zG rfl|exact fun h=>h|(simp only[zA,zB,zC,zD,bytesW];omega)) only[go_sem,c1,c2]
   first | exact h | exact ⟨rfl,h⟩
 rw [if_pos c]
 have c1:¬ i<0:=by omega
 have c2:¬ (16:Int)≤i:=by omega
 simp (disch:=first|omega|exact zF rfl|exact zG rfl|exact fun h=>h|(simp only[zA,zB,zC,zD,bytesW];omega)) only[go_sem,c1,c2]
 refine Ret.mono (pread_ok 1 h (by decide) (by omega)) ?_
 rintro _ w2 ⟨rfl,h2⟩
 have e1:P.getD (1:Int).toNat []=rootB P:=rfl
 rw [e1]
 simp (disch:=first|omega|exact zF rfl|exact zG rfl|exact fun h=>h|(simp only[zA,zB,zC,zD,bytesW];omega)) only[go_sem]
 have hc:(cutL (rootB P) (4 * i) (4 * i+4)).length=4:=by
  unfold cutL; rw [List.length_drop,List.length_take,hr]; omega
 refine ⟨⟨by omega,by omega⟩,⟨by omega,by omega⟩,⟨by omega,by omega⟩,⟨by omega,by omega,by omega⟩,Ret.mono (unfixed_ok _ w2 (by rw [hc]; omega)) ?_⟩
 rintro _ w3 ⟨rfl,e3⟩
 subst w3
 have hlt:=unfixL_lt (cutL (rootB P) (4 * i) (4 * i+4))
 rw [hc] at hlt
 have hlt:unfixL (cutL (rootB P) (4 * i) (4 * i+4))<4294967296:=hlt
 simp (disch:=first|omega|exact zF rfl|exact zG rfl|exact fun h=>h|(simp only[zA,zB,zC,zD,bytesW];omega)) only[go_sem]
 refine ⟨by constructor <;> omega,?_⟩
 exact h2
def setRootN(P:List (List UInt8))(i at':Int):List (List UInt8) × Int :=
 if (rootN P i).2≠0 then (P,(rootN P i).2) else if at'≠0∧chkN P at'≠0 then (P,chkN P at') else
 (P.set 1 (filledL ((rootB P).take (4 * i).toNat++fixL at'.toNat 4++(rootB P).drop (4 * i+4).toNat)),0)
theorem psetRoot_ok(i j:Int)(h:Pgr e P W0 w F L I)(h3:3≤P.length)(hi:I64 i)(hj:I64 j) :
  Ret Tryz.prog 66 [.pointer (some ⟨e.p,0,none⟩),.int .i64 i,.int .i64 j] w fun u w'=>u=.int .i64 (setRootN P i j).2∧Pgr e (setRootN P i j).1 W0 w' F L I:=by
 have hr:=h.root256 h3
 refine ent66 _ _ _ _ _ ?_
 simp (disch:=first|omega|exact zF rfl|exact zG rfl|exact fun h=>h|(simp only[zA,zB,zC,zD,bytesW];omega)) only[go_sem,c66S5]
 refine Ret.mono (proot_ok i h h3 hi) ?_
 rintro _ w2 ⟨rfl,h2⟩
 unfold setRootN
 by_cases hc:(rootN P i).2=0
 case neg =>
  rw [if_pos hc]
  simp (disch:=first|omega|exact zF rfl|exact zG rfl|exact fun h=>h|(simp only[zA,zB,zC,zD,bytesW];omega)) only[go_sem,c66S5,hc]
  first | exact h2 | exact ⟨rfl,h2⟩
 have hin:0≤i∧i<16:=by
  unfold rootN at hc
  split at hc
  ·assumption
  ·cases hc
 rw [if_neg (by omega)]
 have fin:∀ w',Pgr e P W0 w' F L I→W Tryz.prog (c66S5 ()) [(0,.pointer (some ⟨e.p,0,none⟩)),(1,.int .i64 i),(2,.int .i64 j)] w' (finQ Tryz.prog [.tmp 6] fun u w''=>u=.int .i64 0∧Pgr e (P.set 1 (filledL ((rootB P).take (4 * i).toNat++fixL (IntKind.u64.wrap j).toNat 4++(rootB P).drop (4 * i+4).toNat))) W0 w'' F L I):=by
  intro w' h'
  simp (disch:=first|omega|exact zF rfl|exact zG rfl|exact fun h=>h|(simp only[zA,zB,zC,zD,bytesW];omega)) only[go_sem,c66S5]
  refine Ret.mono (pread_ok 1 h' (by decide) (by omega)) ?_
  rintro _ w4 ⟨rfl,h4⟩
  have e1:P.getD (1:Int).toNat []=rootB P:=rfl
  rw [e1]
  simp (disch:=first|omega|exact zF rfl|exact zG rfl|exact fun h=>h|(simp only[zA,zB,zC,zD,bytesW];omega)) only[go_sem,c66S5]
  refine c66draw0 ?_
  have h5:=h4.drew
  generalize w4.drew=w5 at h5 ⊢
  have hwj:0≤IntKind.u64.wrap j∧IntKind.u64.wrap j<18446744073709551616:=by rw [wrap_u64_mod]; omega
  obtain ⟨n,hn⟩:=Int.eq_ofNat_of_zero_le hwj.1
  rw [hn] at hwj ⊢
  simp (disch:=first|omega|exact zF rfl|exact zG rfl|exact fun h=>h|(simp only[zA,zB,zC,zD,bytesW];omega)) only[go_sem,c66S5,c66D0,hn]
  refine ⟨⟨by omega,by omega⟩,⟨by omega,by omega⟩,⟨by omega,by omega⟩,⟨by omega,by omega⟩,⟨by omega,by omega⟩,Ret.mono (fixed_ok n 4 w5 (by omega) (by omega)) ?_⟩
  rintro _ w6 ⟨rfl,b6⟩
  have h6:=h5.below b6
  simp (disch:=first|omega|exact zF rfl|exact zG rfl|exact fun h=>h|(simp only[zA,zB,zC,zD,bytesW];omega)) only[go_sem,c66S5]
  have lf:(fixL n 4).length=4:=fixL_len n 4
  refine ⟨?_,?_,Ret.mono (pwrite_ok 1 _ h6 (by decide) (by omega) (by have:=h6.two; omega)) ?_⟩
  ·rw [lf,List.length_take]; omega
  ·rw [List.length_append,lf,List.length_take,List.length_drop]; omega
  rintro _ w7 ⟨rfl,h7⟩
  rw [if_neg (by rw [List.length_append,List.length_append,lf,List.length_take,List.length_drop]; omega)] at h7 ⊢
  simp (disch:=first|omega|exact zF rfl|exact zG rfl|exact fun h=>h|(simp only[zA,zB,zC,zD,bytesW];omega)) only[go_sem,c66S5]
  first | exact h7 | exact ⟨rfl,h7⟩
 by_cases h0:j=0
 ·subst h0
  rw [if_neg (by simp)]
  simp (disch:=first|omega|exact zF rfl|exact zG rfl|exact fun h=>h|(simp only[zA,zB,zC,zD,bytesW];omega)) only[go_sem,hc]
  exact fin w2 h2
 ·simp (disch:=first|omega|exact zF rfl|exact zG rfl|exact fun h=>h|(simp only[zA,zB,zC,zD,bytesW];omega)) only[go_sem,hc,h0]
  refine Ret.mono (check_ok j h2 h3 hj) ?_
  rintro _ w3 ⟨rfl,h3'⟩
  by_cases hk:chkN P j=0
  ·have hin2:=chk_in hk
   rw [if_neg (fun hh=>hh hk)]
   simp (disch:=first|omega|exact zF rfl|exact zG rfl|exact fun h=>h|(simp only[zA,zB,zC,zD,bytesW];omega)) only[go_sem,hk]
   have:=fin w3 h3'
   rw [wrap_u64_id j (by omega) (by have:=h.len; omega)] at this
   exact this
  ·rw [if_pos hk]
   simp (disch:=first|omega|exact zF rfl|exact zG rfl|exact fun h=>h|(simp only[zA,zB,zC,zD,bytesW];omega)) only[go_sem,hk]
   first | exact h3' | exact ⟨rfl,h3'⟩
theorem proom_ok(h:Pgr e P W0 w F L I)(h3:3≤P.length) :
  Ret Tryz.prog 12 [.pointer (some ⟨e.p,0,none⟩)] w fun u w'=>u=.int .i64 (roomN P)∧Pgr e P W0 w' F L I:=by
 have hu:=h.used256 h3
 have h64:=h.len.2
 refine ent12 _ _ _ ?_
 simp (disch:=first|omega|exact zF rfl|exact zG rfl|exact fun h=>h|(simp only[zA,zB,zC,zD,bytesW];omega)) only[go_sem]
 refine Ret.mono (used_ok h h3) ?_
 rintro _ w2 ⟨rfl,h2⟩
 have r2:=h2.blk.rules
 simp (disch:=first|omega|exact zF rfl|exact zG rfl|exact fun h=>h|(simp only[zA,zB,zC,zD,bytesW];omega)) only[go_sem,r2]
 refine Ret.mono (pslen_ok h2) ?_
 rintro _ w3 ⟨rfl,e3⟩
 subst w3
 simp (disch:=first|omega|exact zF rfl|exact zG rfl|exact fun h=>h|(simp only[zA,zB,zC,zD,bytesW];omega)) only[go_sem]
 obtain ⟨k,hk⟩:∃ k:Nat,k=P.length / 8:=⟨_,rfl⟩
 have ek:(P.length:Int).tdiv 8=k:=by rw [Int.tdiv_eq_ediv_of_nonneg (by omega)]; omega
 rw [ek]
 have et:((usedP P).take (k:Int).toNat)=(usedP P).take k:=by rw [Int.toNat_natCast]
 have c8:=cnt8 (usedP P) k (by omega)
 have cl:=cntN_le (usedP P) (8 * k)
 rw [Int.toNat_natCast]
 refine ⟨by constructor <;> omega,by omega,Ret.mono (count_ok _ w2 (by rw [List.length_take,hu]; omega)) ?_⟩
 rintro _ w4 ⟨rfl,e4⟩
 subst w4
 rw [← c8]
 simp (disch:=first|omega|exact zF rfl|exact zG rfl|exact fun h=>h|(simp only[zA,zB,zC,zD,bytesW];omega)) only[go_sem,ek]
 refine ⟨by constructor <;> omega,by constructor <;> omega,by constructor <;> omega,?_⟩
 refine W_loopU (fun m:Nat=>[(6,.int .i64 (P.length - cntN (usedP P) m:Int)),(7,.int .i64 m)]) (fun m w'=>8 * k≤m∧m≤P.length∧w'=w2) (fun m=>P.length - m) (8 * k) (by rw [show ((8 * k:Nat):Int)=(k:Int) * 8 by omega]; rfl) ⟨Nat.le_refl _,by omega,rfl⟩ ?_
 rintro m w5 ⟨hm0,hm,e5⟩
 subst w5
 have cm:=cntN_le (usedP P) m
 have cs:=cntN_succ (usedP P) m
 by_cases hlt:m<P.length
 ·have hlt':(m:Int)<P.length:=by omega
  simp (disch:=first|omega|exact zF rfl|exact zG rfl|exact fun h=>h|(simp only[zA,zB,zC,zD,bytesW];omega)) only[go_sem,c12L0,c12L0,hlt']
  refine Ret.mono (has_ok _ m w2 ⟨by omega,by omega⟩) ?_
  rintro _ w6 ⟨rfl,e6⟩
  subst w6
  cases hh:hasL (usedP P) m with
  | true =>
   rw [if_pos hh] at cs
   simp (disch:=first|omega|exact zF rfl|exact zG rfl|exact fun h=>h|(simp only[zA,zB,zC,zD,bytesW];omega)) only[go_sem,c12L0]
   exact ⟨by constructor <;> omega,by constructor <;> omega,m+1,by simp; omega,⟨by omega,by omega⟩,by omega⟩
  | false =>
   rw [if_neg (by rw [hh]; decide)] at cs
   simp (disch:=first|omega|exact zF rfl|exact zG rfl|exact fun h=>h|(simp only[zA,zB,zC,zD,bytesW];omega)) only[go_sem,c12L0]
   exact ⟨by constructor <;> omega,m+1,by simp; omega,⟨by omega,by omega⟩,by omega⟩
 ·have hlt':¬ (m:Int)<P.length:=by omega
  obtain rfl:m=P.length:=by omega
  simp (disch:=first|omega|exact zF rfl|exact zG rfl|exact fun h=>h|(simp only[zA,zB,zC,zD,bytesW];omega)) only[go_sem,c12L0,c12L0,hlt']
  refine ⟨?_,h2⟩
  unfold roomN
  have:=cntN_le (usedP P) P.length
  omega
def fmtU:List UInt8:=withL (withL (emptyL 2048) 0 true) 1 true
def fmtP(P:List (List UInt8)):List (List UInt8):=(P.set 0 (filledL fmtU)).set 1 (filledL [])
theorem pformat_ok(h:Pgr e P W0 w F L I)(h3:3≤P.length) :
  Ret Tryz.prog 44 [.pointer (some ⟨e.p,0,none⟩)] w fun u w'=>u=.int .i64 0∧Pgr e (fmtP P) W0 w' F L I:=by
 refine ent44 _ _ _ ?_
 simp (disch:=first|omega|exact zF rfl|exact zG rfl|exact fun h=>h|(simp only[zA,zB,zC,zD,bytesW];omega)) only[go_sem]
 refine Ret.mono (made_ok h) ?_
 rintro _ w2 ⟨rfl,e2⟩
 subst w2
 have r2:=h.blk.rules
 simp (disch:=first|omega|exact zF rfl|exact zG rfl|exact fun h=>h|(simp only[zA,zB,zC,zD,bytesW];omega)) only[go_sem,r2]
 refine Ret.mono (pslen_ok h) ?_
 rintro _ w2 ⟨rfl,e2⟩
 subst w2
 have hle:¬ (P.length:Int)≤2:=by omega
 simp (disch:=first|omega|exact zF rfl|exact zG rfl|exact fun h=>h|(simp only[zA,zB,zC,zD,bytesW];omega)) only[go_sem,hle]
 refine Ret.mono (empty_ok 2048 w ⟨by decide,by decide⟩ (by decide)) ?_
 rintro _ w2 ⟨rfl,b2⟩
 have h2:=h.below b2
 simp (disch:=first|omega|exact zF rfl|exact zG rfl|exact fun h=>h|(simp only[zA,zB,zC,zD,bytesW];omega)) only[go_sem]
 refine W_loopU (fun k:Nat=>[(3,.string (ofL (if k=0 then emptyL 2048 else if k=1 then withL (emptyL 2048) 0 true else fmtU))),(16,.int .i64 k)]) (fun k w'=>k≤2∧Pgr e P W0 w' F L I) (fun k=>2 - k) 0 rfl ⟨by omega,h2⟩ ?_
 rintro k w3 ⟨hk,h3'⟩
 by_cases hlt:k<2
 ·have hlt':(k:Int)<2:=by omega
  simp (disch:=first|omega|exact zF rfl|exact zG rfl|exact fun h=>h|(simp only[zA,zB,zC,zD,bytesW];omega)) only[go_sem,c44L0,c44L0,hlt']
  refine Ret.mono (with_ok _ k true w3 ⟨by omega,by omega⟩) ?_
  rintro _ w4 ⟨rfl,b4⟩
  simp (disch:=first|omega|exact zF rfl|exact zG rfl|exact fun h=>h|(simp only[zA,zB,zC,zD,bytesW];omega)) only[go_sem,c44L0]
  refine ⟨by constructor <;> omega,k+1,?_,⟨by omega,h3'.below b4⟩,by omega⟩
  have:k=0∨k=1:=by omega
  rcases this with rfl | rfl <;> rfl
 ·have hlt':¬ (k:Int)<2:=by omega
  obtain rfl:k=2:=by omega
  simp (disch:=first|omega|exact zF rfl|exact zG rfl|exact fun h=>h|(simp only[zA,zB,zC,zD,bytesW];omega)) only[go_sem,c44L0,c44L0,hlt']
  have hfl:¬ 256<fmtU.length:=by unfold fmtU; rw [withL_length,withL_length]; decide
  refine Ret.mono (pwrite_ok 0 fmtU h3' (by decide) (by omega) (by have:=h3'.two; omega)) ?_
  rintro _ w4 ⟨rfl,h4⟩
  rw [if_neg hfl] at h4 ⊢
  simp (disch:=first|omega|exact zF rfl|exact zG rfl|exact fun h=>h|(simp only[zA,zB,zC,zD,bytesW];omega)) only[go_sem,c44L0]
  refine Ret.mono (pwrite_ok 1 [] h4 (by decide) (by rw [List.length_set]; omega) (by have:=h4.two; omega)) ?_
  rintro _ w5 ⟨rfl,h5⟩
  simp (disch:=first|omega|exact zF rfl|exact zG rfl|exact fun h=>h|(simp only[zA,zB,zC,zD,bytesW];omega)) only[go_sem,c44L0]
  first | exact h5 | exact ⟨rfl,h5⟩
end
open Go Go.Ann Go.RowKit Go.WideShapes
def newHd(n j:Nat):Hd:=headN (n+j+2) j
def newDkP(n j:Nat):Dk:=fmtDk (n+j+2) (newHd n j)
def newSto(n j:Nat):Sto:=⟨newHd n j,[],0,false,newDkP n j⟩
theorem fmtDk_ok{n:Nat}{h:Hd}(h0:2≤n)(h1:n≤2048):(fmtDk n h).ok:=by
 have hl:=headL_len h
 refine ⟨fun s hs=>?_,fun _ h=>(by cases h),⟨by simp [fmtDk],by simp [fmtDk]⟩,by simp [fmtDk]; omega,by simp [fmtDk]; omega,by simp [fmtDk]⟩
 unfold fmtDk at hs
 rcases List.mem_or_eq_of_mem_set hs with hs | rfl
 ·rcases List.mem_or_eq_of_mem_set hs with hs | rfl
  ·rw [List.eq_of_mem_replicate hs]; exact List.length_replicate
  ·exact filledL_length (by decide)
 ·exact filledL_length (by omega)
theorem newHd_pages{n j:Nat}(h:n≤1024):(newHd n j).pages=n:=by unfold newHd headN; simp only; omega
theorem newSto_ok{n j:Nat}(h0:1≤n)(h1:n≤500)(j0:2≤j)(j1:j≤500):(newSto n j).ok:=by
 have hp:=newHd_pages (n:=n) (j:=j) (by omega)
 refine ⟨⟨by simp [newSto,newHd,headN] <;> omega,by simp [newSto,newHd,headN] <;> omega,by simp [newSto,newHd,headN] <;> omega,by simp only [newSto,hp]; omega⟩,fmtDk_ok (by omega) (by omega),by simp [newSto,newHd,headN] <;> omega,by simp only [newSto,hp]; omega,by simp only [newSto,hp]; omega,?_,fun _ h=>(by cases h),List.Pairwise.nil,List.Pairwise.nil,fun _ h=>(by cases h)⟩
 simp only [newSto,hp,newDkP,fmtDk,List.length_set,List.length_replicate]
 simp only [newHd,headN]
 omega
theorem newSto_live{n j:Nat}(h0:1≤n)(h1:n≤500)(j0:2≤j)(j1:j≤500):Live (newSto n j) [] :=
 ⟨newSto_ok h0 h1 j0 j1,rfl,rfl,by simp only [newSto,newHd_pages (show n≤1024 by omega)]; exact h1,by simp,List.Pairwise.nil,fun _ h=>(by cases h)⟩
theorem newSto_pgs{n j:Nat}(h0:1≤n)(h1:n≤500)(j0:2≤j)(j1:j≤500):pgs (newSto n j)=List.replicate n zeroB:=by
 have hv:=newSto_live h0 h1 j0 j1
 have hp:=newHd_pages (n:=n) (j:=j) (by omega)
 refine pgs_eq (by rw [List.length_replicate]; exact hp.symm) fun i hi=>?_
 rw [List.length_replicate] at hi
 rw [(nowP_eq hv.ok hv.dead hv.gone (by omega) (by show (i:Int)<(newHd n j).pages; omega)).2]
 show (none:Option (List UInt8)).getD (lastL [] _ ((fmtDk (n+j+2) (newHd n j)).safe.getD (homeN (newSto n j) i).toNat []))=_
 have e:(homeN (newSto n j) i).toNat=j+2+i:=by
  unfold homeN
  show (2+((j:Nat):Int)+i).toNat=_
  omega
 rw [e]
 simp only [Option.getD_none,lastL,List.foldl_nil,fmtDk]
 rw [List.getD_eq_getElem?_getD,List.getD_eq_getElem?_getD,List.getElem?_set_ne (by omega),List.getElem?_set_ne (by omega),List.getElem?_replicate,List.getElem?_replicate,if_pos (by omega),if_pos hi]
section
variable {W0 w:World} {F:Nat→Prop} {L:List Res} {I:List Inv}
theorem pnew_ok{b mb g:Nat}{vb vl:Value}{s:Sto}(mx:Nat)(h:St W0 w F (StoL b mb g vb vl s++L) I)(hv:Live s [])(hlow:LowD s mx) :
  Ret Tryz.prog 43 [.pointer (some ⟨b,0,none⟩)] w fun u w'=>∃ p c,u=.tuple #[.pointer (some ⟨p,0,none⟩),.int .i64 0]∧Pgr ⟨p,b,mb,g,c,vb,vl,s.hd,s.disk,mx⟩ (pgs s) W0 w' F L I:=by
 refine ent43 _ _ _ ?_
 simp (disch:=first|omega|exact zF rfl|exact zG rfl|exact fun h=>h|(simp only[zA,zB,zC,zD,bytesW];omega)) only[go_sem]
 have hpg:=hv.ok.pages
 refine Ret.mono (sread_ok 0 h hv.ok) ?_
 rintro _ w2 ⟨rfl,s2⟩
 rw [(nowP_eq hv.ok hv.dead hv.gone (by omega) (by omega)).1] at s2 ⊢
 simp (disch:=first|omega|exact zF rfl|exact zG rfl|exact fun h=>h|(simp only[zA,zB,zC,zD,bytesW];omega)) only[go_sem]
 refine Ret.mono (cnew_ok s2) ?_
 rintro _ w3 ⟨c,rfl,s3⟩
 simp (disch:=first|omega|exact zF rfl|exact zG rfl|exact fun h=>h|(simp only[zA,zB,zC,zD,bytesW];omega)) only[go_sem]
 refine bdW_built (cells:=#[.pointer (some ⟨b,0,none⟩),.pointer (some ⟨c,0,none⟩)]) (by kernel_rfl) ?_
 have s4:=s3.box #[.pointer (some ⟨b,0,none⟩),.pointer (some ⟨c,0,none⟩)] 98
 simp (disch:=first|omega|exact zF rfl|exact zG rfl|exact fun h=>h|(simp only[zA,zB,zC,zD,bytesW];omega)) only[go_sem]
 refine ⟨_,c,rfl,.slice none 0 0,[],s,?_,hv,rfl,rfl,hlow,rfl⟩
 generalize w3.heap.size=p at s4 ⊢
 refine s4.perm ?_
 unfold PgL
 have:=(List.perm_append_comm (l₁:=StoL b mb g vb vl s) (l₂:=CaL c (.slice none 0 0) [])).append_right L
 simp only [List.append_assoc,List.cons_append,List.nil_append] at this ⊢
 exact this.cons _
end
structure Given(n:Nat)(P:List (List UInt8))(G:Nat→Bool):Prop where
 len:P.length=n
 u:(usedP P).length=256
 has:∀ j:Nat,j<n→hasL (usedP P) j=G j
theorem usedP_set0{P:List (List UInt8)}{l:List UInt8}(h:0<P.length):usedP (P.set 0 l)=l:=by
 unfold usedP
 rw [List.getD_eq_getElem?_getD,List.getElem?_set_self h]; rfl
theorem usedP_set{P:List (List UInt8)}{l:List UInt8}{i:Nat}(h:i≠0):usedP (P.set i l)=usedP P:=by
 unfold usedP
 rw [List.getD_eq_getElem?_getD,List.getD_eq_getElem?_getD,List.getElem?_set_ne h]
theorem Given.mark{n:Nat}{P:List (List UInt8)}{G:Nat→Bool}(h:Given n P G)(hn:n≤2048){i:Nat}(hi:i<n)(b:Bool):Given n (markP P i b) (fun j=>if j=i then b else G j):=by
 have h0:0<P.length:=by rw [h.len]; omega
 have hl:(withL (usedP P) i b).length=256:=by rw [withL_length,h.u]
 have e:usedP (markP P i b)=withL (usedP P) i b:=by unfold markP; rw [usedP_set0 h0,filled256 hl]
 refine ⟨by unfold markP; rw [List.length_set,h.len],by rw [e,hl],fun j hj=>?_⟩
 rw [e,withL_has _ _ _ (by unfold fitsL; rw [decide_eq_true_eq,h.u]; omega)]
 by_cases hji:j=i
 ·rw [if_pos (by omega),if_pos hji]
 ·rw [if_neg (by omega),if_neg hji]; exact h.has j hj
theorem Given.set{n:Nat}{P:List (List UInt8)}{G:Nat→Bool}(h:Given n P G){i:Nat}(hi:i≠0)(l:List UInt8):Given n (P.set i l) G :=
 ⟨by rw [List.length_set,h.len],by rw [usedP_set hi]; exact h.u,fun j hj=>by rw [usedP_set hi]; exact h.has j hj⟩
theorem Given.ext{n:Nat}{P:List (List UInt8)}{G G':Nat→Bool}(h:Given n P G)(e:∀ j,j<n→G j=G' j):Given n P G':=⟨h.len,h.u,fun j hj=>(h.has j hj).trans (e j hj)⟩
theorem Given.alloc{n:Nat}{P:List (List UInt8)}{G:Nat→Bool}(h:Given n P G)(hn:n≤2048){k:Nat}(h2:2≤k)(hk:k<n)(hg:G k=false)(hall:∀ j,2≤j→j<k→G j=true) :
  allocN P=(emptyP (markP P k true) k,(k:Int),0)∧lowP P=some k∧Given n (emptyP (markP P k true) k) (fun j=>if j=k then true else G j):=by
 have e:lowP P=some k:=by
  unfold lowP
  rw [List.find?_range_eq_some,h.len]
  refine ⟨by rw [h.has k hk,hg]; simp; omega,by rw [List.mem_range]; exact hk,fun j hj=>?_⟩
  by_cases h2j:2≤j
  ·rw [h.has j (by omega),hall j h2j hj]; simp
  ·simp [h2j]
 refine ⟨by unfold allocN; rw [e],e,?_⟩
 have:=(h.mark hn hk true).set (i:=k) (by omega) (filledL [])
 unfold emptyP
 rw [Int.toNat_natCast]
 exact this
theorem Given.chk{n:Nat}{P:List (List UInt8)}{G:Nat→Bool}(h:Given n P G){i:Nat}(h2:2≤i)(hi:i<n):chkN P i=if G i=true then 0 else 6:=by
 unfold chkN
 rw [h.len,h.has i hi]
 by_cases hg:G i=true
 ·rw [if_pos ⟨by omega,by omega,hg⟩,if_pos hg]
 ·rw [if_neg (fun hh=>hg hh.2.2),if_neg hg]
theorem Given.room{n:Nat}{P:List (List UInt8)}{G:Nat→Bool}(h:Given n P G):roomN P=n - ((List.range n).filter G).length:=by
 unfold roomN cntN
 rw [h.len]
 congr 2
 exact List.filter_congr fun j hj=>h.has j (List.mem_range.1 hj)
theorem fmtU_has:∀ j:Fin 512,hasL fmtU j.val=decide (j.val<2):=by decide +kernel
theorem fmtU_len:fmtU.length=256:=by unfold fmtU; rw [withL_length,withL_length]; decide
theorem fmt_given{n:Nat}{P:List (List UInt8)}(hl:P.length=n)(h3:3≤n)(h64:n≤500):Given n (fmtP P) (fun j=>decide (j<2)):=by
 have e:usedP (fmtP P)=fmtU:=by
  unfold fmtP
  rw [usedP_set (by decide),usedP_set0 (by omega),filled256 fmtU_len]
 refine ⟨by unfold fmtP; rw [List.length_set,List.length_set,hl],by rw [e]; exact fmtU_len,fun j hj=>?_⟩
 rw [e]
 exact fmtU_has ⟨j,by omega⟩
open Go Go.Ann Go.RowKit Go.WideShapes
theorem Pgr.lift{e:En}{P:List (List UInt8)}{W0 w:World}{F:Nat→Prop}{L:List Res}{I:List Inv}(h:Pgr e P W0 w F L I):∃ A,St W0 w F (L++A) I∧∀ w' L' I',St W0 w' F (L'++A) I'→Pgr e P W0 w' F L' I':=by
 obtain ⟨rv,l,s,hs,h2⟩:=h
 refine ⟨PgL e rv l s,hs.perm List.perm_append_comm,fun w' L' I' h'=>⟨rv,l,s,h'.perm List.perm_append_comm,h2⟩⟩
end Go.Proofs.YtkmjkmjpejmlnaaGreat

namespace Go.Proofs.YtkmjkmjpejmlnaaGreat.Slt
open Go Go.Ann Go.RowKit
def strE(r:List UInt8):List Value:=[.string (ofL r)]
structure Pg(s:List UInt8)(L:List (List UInt8)):Prop where
 lo:8≤s.length
 hi:s.length≤256
 n:bN s 0=L.length
 room:1+2 * L.length≤s.length
 free:∀ i:Nat,i<L.length→bN s (2+2 * i)=0→bN s (1+2 * i)=0∧i+1≠L.length
 taken:∀ i:Nat,i<L.length→0<bN s (2+2 * i)→1+2 * L.length≤bN s (1+2 * i)∧bN s (1+2 * i)+bN s (2+2 * i)≤s.length
 apart:∀ i k:Nat,i<L.length→k<i→0<bN s (2+2 * i)→0<bN s (2+2 * k)→bN s (1+2 * i)<bN s (1+2 * k)+bN s (2+2 * k)→bN s (1+2 * k)<bN s (1+2 * i)+bN s (2+2 * i)→False
 recs:∀ i:Nat,(h:i<L.length)→L[i]=cutL s (bN s (1+2 * i)) (bN s (1+2 * i)+bN s (2+2 * i))
def getP(L:List (List UInt8))(i:Int):List UInt8 × Bool:=if 0≤i then match L[i.toNat]? with | some r=>(r,decide (r≠[])) | none=>([],false) else ([],false)
theorem strs_set:∀ (l:List (List UInt8)) (i:Nat) (r:List UInt8),(l.set i r).flatMap strE=(l.flatMap strE).set i (.string (ofL r))
 | [],_,_=>rfl
 | a::l,0,r=>rfl
 | a::l,i+1,r=>by
  rw [List.set_cons_succ,List.flatMap_cons,List.flatMap_cons,strs_set l i r]; rfl
end Go.Proofs.YtkmjkmjpejmlnaaGreat.Slt

namespace Go.Proofs.YtkmjkmjpejmlnaaGreat.Slt
open Go Go.Ann Go.RowKit
def sumP(L:List (List UInt8)):Nat:=(L.map List.length).sum
def takesP(L:List (List UInt8)):Nat:=1+2 * L.length+sumP L
def vacantP(L:List (List UInt8)):Nat:=L.findIdx fun r=>decide (r=[])
def PgV(w:World)(u:Value)(n:Int)(L:List (List UInt8)):Prop:=∃ vL,u=.agg #[.int .i64 n,vL]∧RdS w 1 strE vL L
theorem PgV.below{w w':World}{u:Value}{n:Int}{L:List (List UInt8)}(h:PgV w u n L)(hb:Below w.heap.size w w'):PgV w' u n L:=by
 obtain ⟨v,rfl,h⟩:=h
 exact ⟨v,rfl,h.below hb (by decide)⟩
end Go.Proofs.YtkmjkmjpejmlnaaGreat.Slt

namespace Go.Proofs.YtkmjkmjpejmlnaaGreat.Slt
open Go Go.Ann Go.RowKit
def u8(n:Nat):UInt8:=UInt8.ofNat n
theorem wrap_u8(n:Nat):IntKind.u8.wrap (n:Int)=((u8 n).toNat:Int):=by
 rw [wrap_u8_mod]
 unfold u8
 simp
def putTo(b:List UInt8)(e:Nat)(r:List UInt8)(k:Nat):List UInt8:=b.take e++r.take k++b.drop (e+k)
def putAt(b:List UInt8)(e:Nat)(r:List UInt8):List UInt8:=putTo b e r r.length
def layS(i:Nat)(st:List UInt8 × Nat)(r:List UInt8):List UInt8 × Nat :=
 if r=[] then st else (putAt ((st.1.set (1+2 * i) (u8 (st.2 - r.length))).set (2+2 * i) (u8 r.length)) (st.2 - r.length) r,st.2 - r.length)
def layTo(size:Nat)(L:List (List UInt8)):Nat→List UInt8 × Nat
 | 0=>((List.replicate size 0).set 0 (u8 L.length),size)
 | k+1=>match L[k]? with | some r=>layS k (layTo size L k) r | none=>layTo size L k
def textP(size:Nat)(L:List (List UInt8)):List UInt8:=(layTo size L L.length).1
end Go.Proofs.YtkmjkmjpejmlnaaGreat.Slt

namespace Go.Proofs.YtkmjkmjpejmlnaaGreat.Slt
open Go Go.Ann Go.RowKit
theorem Pg.ne{s:List UInt8}{L:List (List UInt8)}(h:Pg s L):s≠[]:=by rintro rfl; have:=h.lo; simp at this
theorem vacant_nil{L:List (List UInt8)}(h:vacantP L<L.length):L[vacantP L]=[]:=by
 unfold vacantP at h ⊢
 have:=List.findIdx_getElem (w:=h)
 exact of_decide_eq_true this
end Go.Proofs.YtkmjkmjpejmlnaaGreat.Slt

namespace Go.Proofs.YtkmjkmjpejmlnaaGreat.Slt
open Go Go.Ann Go.RowKit
def badSet(size:Nat)(L:List (List UInt8))(i:Int)(r:List UInt8):Prop:=(getP L i).2=false∨r=[]∨255<r.length∨(size:Int)<(takesP L:Int) - (getP L i).1.length+r.length
instance (size:Nat) (L:List (List UInt8)) (i:Int) (r:List UInt8):Decidable (badSet size L i r):=by unfold badSet; exact inferInstance
end Go.Proofs.YtkmjkmjpejmlnaaGreat.Slt

namespace Go.Proofs.YtkmjkmjpejmlnaaGreat
open Go Go.Ann Go.RowKit Go.WideShapes
def nxtN(P:List (List UInt8))(a:Nat):Nat:=unfixL ((P.getD a []).take 4)
def resN(P:List (List UInt8))(a:Nat):List UInt8:=(P.getD a []).drop 4
inductive Ent
 | no
 | sh (r:List UInt8)
 | lo (r:List UInt8) (g:List Nat)
 | gh (s:List UInt8)
namespace Ent
def stub:Ent→List UInt8
 | .no=>[]
 | .sh r=>115::r
 | .lo r g=>108::(fixL r.length 4++fixL (g.headD 0) 4)
 | .gh s=>s
def pgs:Ent→List Nat
 | .lo _ g=>g
 | _=>[]
def rec?:Ent→Option (List UInt8)
 | .sh r=>some r
 | .lo r _=>some r
 | _=>none
end Ent
def SpellN(P:List (List UInt8)):List UInt8→List Nat→Prop
 | r,[]=>r=[]
 | r,a::g=>r≠[]∧nxtN P a=g.headD 0∧(resN P a).take r.length=r.take 252∧SpellN P (r.drop 252) g
def EntOk(P:List (List UInt8)):Ent→Prop
 | .no=>True
 | .sh r=>r≠[]∧r.length≤62
 | .lo r g=>62<r.length∧r.length≤2000∧SpellN P r g
 | .gh s=>s≠[]∧s.length≤63
def PageOk(P:List (List UInt8))(x:Nat × List Ent):Prop:=Slt.Pg (resN P x.1) (x.2.map Ent.stub)∧∀ e∈x.2,EntOk P e
def LinkN(P:List (List UInt8)):Nat→List Nat→Nat→Prop
 | a,[],b=>a=b
 | a,c::C,b=>a=c∧LinkN P (nxtN P c) C b
def entsG(es:List Ent):List Nat:=es.flatMap Ent.pgs
def pagesX(X:List (Nat × List Ent)):List Nat:=X.flatMap fun x=>x.1::entsG x.2
def rootM(P:List (List UInt8))(i:Int):Nat:=unfixL (cutL (rootB P) (4 * i) (4 * i+4))
structure HpN(mx n:Nat)(i:Int)(P:List (List UInt8))(X:List (Nat × List Ent))(E:List Nat):Prop where
 given:Given n P fun j=>decide (j<2∨j∈E++pagesX X)
 low:∀ a∈E++pagesX X,2≤a∧a<mx
 nd:(E++pagesX X).Nodup
 full:∀ p∈P,p.length=256
 idx:0≤i∧i<16
 big:3≤n∧n≤500∧3≤mx∧mx≤n
 root:LinkN P (rootM P i) (X.map Prod.fst) 0
 pg:∀ x∈X,PageOk P x
 some:∀ x∈X,∃ e∈x.2,e.stub≠[]
def SameOn(P P':List (List UInt8))(C:List Nat):Prop:=∀ c∈C,P'.getD c []=P.getD c []
theorem SameOn.sub{P P':List (List UInt8)}{C D:List Nat}(h:SameOn P P' C)(hs:∀ d∈D,d∈C):SameOn P P' D:=fun c hc=>h c (hs c hc)
theorem SameOn.nxt{P P':List (List UInt8)}{C:List Nat}(h:SameOn P P' C){c:Nat}(hc:c∈C):nxtN P' c=nxtN P c:=by unfold nxtN; rw [h c hc]
theorem SameOn.res{P P':List (List UInt8)}{C:List Nat}(h:SameOn P P' C){c:Nat}(hc:c∈C):resN P' c=resN P c:=by unfold resN; rw [h c hc]
theorem SpellN.same{P P':List (List UInt8)}:∀ {g:List Nat} {r:List UInt8},SameOn P P' g→SpellN P r g→SpellN P' r g
 | [],_,_,h=>h
 | a::g,r,hs,h=>by
  obtain ⟨h1,h2,h3,h4⟩:=h
  refine ⟨h1,?_,?_,SpellN.same (hs.sub fun d hd=>List.mem_cons_of_mem _ hd) h4⟩
  ·rw [hs.nxt List.mem_cons_self]; exact h2
  ·rw [hs.res List.mem_cons_self]; exact h3
theorem EntOk.same{P P':List (List UInt8)}{e:Ent}(hs:SameOn P P' e.pgs)(h:EntOk P e):EntOk P' e:=by
 cases e with
 | lo r g=>exact ⟨h.1,h.2.1,h.2.2.same hs⟩
 | no=>exact h
 | sh r=>exact h
 | gh s=>exact h
theorem ents_sub{es:List Ent}{e:Ent}(he:e∈es):∀ d∈e.pgs,d∈entsG es:=fun d hd=>List.mem_flatMap.2 ⟨e,he,hd⟩
theorem page_sub{X:List (Nat × List Ent)}{x:Nat × List Ent}(hx:x∈X):∀ d∈x.1::entsG x.2,d∈pagesX X:=fun d hd=>List.mem_flatMap.2 ⟨x,hx,hd⟩
theorem PageOk.same{P P':List (List UInt8)}{x:Nat × List Ent}(hs:SameOn P P' (x.1::entsG x.2))(h:PageOk P x):PageOk P' x:=by
 refine ⟨?_,fun e he=>(h.2 e he).same (hs.sub fun d hd=>List.mem_cons_of_mem _ (ents_sub he d hd))⟩
 rw [hs.res List.mem_cons_self]; exact h.1
theorem LinkN.same{P P':List (List UInt8)}:∀ {C:List Nat} {a b:Nat},SameOn P P' C→LinkN P a C b→LinkN P' a C b
 | [],_,_,_,h=>h
 | c::C,a,b,hs,h=>by
  refine ⟨h.1,?_⟩
  rw [hs.nxt List.mem_cons_self]
  exact LinkN.same (hs.sub fun d hd=>List.mem_cons_of_mem _ hd) h.2
theorem rootN_eq{P:List (List UInt8)}{i:Int}(h:0≤i∧i<16):rootN P i=(((rootM P i:Nat):Int),0):=by unfold rootN rootM; rw [if_pos h]
section
variable {mx n:Nat} {i:Int} {P:List (List UInt8)} {X:List (Nat × List Ent)} {E:List Nat}
theorem HpN.memX(h:HpN mx n i P X E){a:Nat}(ha:a∈pagesX X):a∈E++pagesX X:=List.mem_append_right _ ha
theorem HpN.memE(h:HpN mx n i P X E){a:Nat}(ha:a∈E):a∈E++pagesX X:=List.mem_append_left _ ha
theorem count_given{n:Nat}{l:List Nat}(h2:2≤n)(hr:∀ a∈l,2≤a∧a<n)(hn:l.Nodup):((List.range n).filter fun j=>decide (j<2∨j∈l)).length=2+l.length:=by
 have hp:((List.range n).filter fun j=>decide (j<2∨j∈l)).Perm ([0,1]++l):=by
  rw [List.perm_ext_iff_of_nodup (List.nodup_range.filter _)]
  ·intro a
   simp only [List.mem_filter,List.mem_range,decide_eq_true_eq,List.cons_append,List.nil_append,List.mem_cons]
   constructor
   ·rintro ⟨h1,h3 | h3⟩
    ·have:a=0∨a=1:=by omega
     rcases this with rfl | rfl
     ·exact .inl rfl
     ·exact .inr (.inl rfl)
    ·exact .inr (.inr h3)
   ·rintro (rfl | rfl | h3)
    ·exact ⟨by omega,.inl (by omega)⟩
    ·exact ⟨by omega,.inl (by omega)⟩
    ·exact ⟨(hr a h3).2,.inr h3⟩
  ·simp only [List.cons_append,List.nil_append,List.nodup_cons,List.mem_cons]
   refine ⟨?_,?_,hn⟩
   ·rintro (h | h)
    ·cases h
    ·have:=(hr 0 h).1; omega
   ·intro h; have:=(hr 1 h).1; omega
 rw [hp.length_eq,List.length_append]; rfl
end
open Go Go.Ann Go.RowKit Go.WideShapes
def setR(R:List UInt8)(i v:Nat):List UInt8:=R.take (4 * i)++fixL v 4++R.drop (4 * i+4)
theorem setR_len{R:List UInt8}{i v:Nat}(h:R.length=256)(hi:i<16):(setR R i v).length=256:=by
 unfold setR; rw [List.length_append,List.length_append,fixL_len,List.length_take,List.length_drop,h]; omega
theorem setR_get{R:List UInt8}{i v m:Nat}(h:R.length=256)(hi:i<16):(setR R i v)[m]?=if 4 * i≤m∧m<4 * i+4 then (fixL v 4)[m - 4 * i]? else R[m]?:=by
 have l1:(R.take (4 * i)).length=4 * i:=by rw [List.length_take,h]; omega
 have l2:(R.take (4 * i)++fixL v 4).length=4 * i+4:=by rw [List.length_append,l1,fixL_len]
 unfold setR
 rw [List.getElem?_append,l2]
 by_cases h1:m<4 * i+4
 ·rw [if_pos h1,List.getElem?_append,l1]
  by_cases h2:m<4 * i
  ·rw [if_pos h2,if_neg (by omega),List.getElem?_take,if_pos h2]
  ·rw [if_neg h2,if_pos ⟨by omega,h1⟩]
 ·rw [if_neg h1,if_neg (by omega),List.getElem?_drop]
  congr 1; omega
theorem cut_get{R:List UInt8}{k m:Nat}:(cutL R (4 * (k:Int)) (4 * (k:Int)+4))[m]?=if m<4 then R[4 * k+m]? else none:=by
 unfold cutL
 rw [List.getElem?_drop,show (4 * (k:Int)).toNat=4 * k by omega,show (4 * (k:Int)+4).toNat=4 * k+4 by omega,List.getElem?_take]
 by_cases h:m<4
 ·rw [if_pos (by omega),if_pos h]
 ·rw [if_neg (by omega),if_neg h]
theorem root_same{R:List UInt8}{i v:Nat}(h:R.length=256)(hi:i<16):cutL (setR R i v) (4 * (i:Int)) (4 * (i:Int)+4)=fixL v 4:=by
 refine List.ext_getElem? fun m=>?_
 rw [cut_get,setR_get h hi]
 by_cases hm:m<4
 ·rw [if_pos hm,if_pos (by omega)]
  congr 1; omega
 ·rw [if_neg hm,List.getElem?_eq_none (by rw [fixL_len]; omega)]
theorem root_other{R:List UInt8}{i v k:Nat}(h:R.length=256)(hi:i<16)(hk:k≠i):cutL (setR R i v) (4 * (k:Int)) (4 * (k:Int)+4)=cutL R (4 * (k:Int)) (4 * (k:Int)+4):=by
 refine List.ext_getElem? fun m=>?_
 rw [cut_get,cut_get,setR_get h hi]
 by_cases hm:m<4
 ·rw [if_pos hm,if_pos hm,if_neg (by omega)]
 ·rw [if_neg hm,if_neg hm]
def rootAt(R:List UInt8)(k:Nat):Nat:=unfixL (cutL R (4 * (k:Int)) (4 * (k:Int)+4))
theorem rootAt_set{R:List UInt8}{i v k:Nat}(h:R.length=256)(hi:i<16)(hv:v<4294967296):rootAt (setR R i v) k=if k=i then v else rootAt R k:=by
 unfold rootAt
 by_cases hk:k=i
 ·subst hk
  rw [root_same h hi,if_pos rfl,unfixL_fixL]
  exact Nat.mod_eq_of_lt hv
 ·rw [root_other h hi hk,if_neg hk]
theorem rootAt_zero(k:Nat):rootAt (filledL []) k=0:=by
 have h:∀ l:List UInt8,(∀ u∈l,u=0)→unfixL l=0:=by
  intro l
  induction l with
  | nil=>intro _; rfl
  | cons a l ih =>
   intro hl
   rw [unfixL,ih fun u hu=>hl u (List.mem_cons_of_mem _ hu),hl a (List.mem_cons_self ..)]; rfl
 refine h _ fun u hu=>?_
 unfold cutL at hu
 have:=List.mem_of_mem_take (List.mem_of_mem_drop hu)
 unfold filledL at this
 rw [List.nil_append] at this
 exact List.eq_of_mem_replicate this
theorem setRootN_in{P:List (List UInt8)}{i j:Int}(hi:0≤i∧i<16)(hr:(rootB P).length=256)(hj:j=0∨chkN P j=0)(h0:0≤j):setRootN P i j=(P.set 1 (setR (rootB P) i.toNat j.toNat),0):=by
 unfold setRootN
 have e0:(rootN P i).2=0:=by unfold rootN; rw [if_pos hi]
 rw [if_neg (by rw [e0]; decide),if_neg (by rintro ⟨h1,h2⟩; rcases hj with h | h; exact h1 h; exact h2 h)]
 rw [show (4 * i).toNat=4 * i.toNat by omega,show (4 * i+4).toNat=4 * i.toNat+4 by omega]
 have:=setR_len (R:=rootB P) (i:=i.toNat) (v:=j.toNat) hr (by omega)
 unfold setR at this
 rw [filled256 this]
 rfl
theorem rootB_set{P:List (List UInt8)}{l:List UInt8}(h:1<P.length):rootB (P.set 1 l)=l:=by
 unfold rootB
 rw [List.getD_eq_getElem?_getD,List.getElem?_set_self h]; rfl
theorem rootM_at{P:List (List UInt8)}{i:Int}(h:0≤i):rootM P i=rootAt (rootB P) i.toNat:=by
 unfold rootM rootAt
 rw [Int.toNat_of_nonneg h]
theorem full_set{P:List (List UInt8)}{a:Nat}{s:List UInt8}(h:∀ p∈P,p.length=256)(hs:s.length=256):∀ p∈P.set a s,p.length=256:=by
 intro p hp
 rcases List.mem_or_eq_of_mem_set hp with hp | rfl
 ·exact h p hp
 ·exact hs
section
variable {mx n:Nat} {i:Int} {P P':List (List UInt8)} {X:List (Nat × List Ent)} {E E':List Nat}
theorem HpN.upd(h:HpN mx n i P X E)(hg:Given n P' fun j=>decide (j<2∨j∈E'++pagesX X))(hr:∀ a∈E',2≤a∧a<mx)(hn:(E'++pagesX X).Nodup)(hf:∀ p∈P',p.length=256)(hs:SameOn P P' (1::pagesX X)):HpN mx n i P' X E':=by
 have hb:rootM P' i=rootM P i:=by
  unfold rootM rootB
  rw [hs 1 List.mem_cons_self]
 refine ⟨hg,fun a ha=>?_,hn,hf,h.idx,h.big,?_,fun x hx=>(h.pg x hx).same (hs.sub fun d hd=>List.mem_cons_of_mem _ (page_sub hx d hd)),h.some⟩
 ·rcases List.mem_append.1 ha with ha | ha
  ·exact hr a ha
  ·exact h.low a (h.memX ha)
 ·rw [hb]
  refine h.root.same (hs.sub fun d hd=>?_)
  obtain ⟨x,hx,rfl⟩:=List.mem_map.1 hd
  exact List.mem_cons_of_mem _ (page_sub hx _ List.mem_cons_self)
theorem HpN.perm(h:HpN mx n i P X E)(hp:E.Perm E'):HpN mx n i P X E':=by
 have hm:∀ a,a∈E'++pagesX X↔a∈E++pagesX X:=fun a=>(hp.append_right (pagesX X)).mem_iff.symm
 exact h.upd (h.given.ext fun j hj=>by simp only [hm]) (fun a ha=>h.low a (h.memE (hp.mem_iff.2 ha))) ((hp.append_right _).nodup_iff.1 h.nd) h.full fun c _=>rfl
theorem pagesX_mid{A B:List (Nat × List Ent)}{x:Nat × List Ent}:pagesX (A++x::B)=pagesX A++(x.1::entsG x.2)++pagesX B:=by
 unfold pagesX
 rw [List.flatMap_append,List.flatMap_cons,List.append_assoc]
end
open Go Go.Ann Go.RowKit Go.WideShapes
section
variable {mx n:Nat} {i:Int} {P P':List (List UInt8)} {X:List (Nat × List Ent)} {E E':List Nat}
theorem rootM_set{P:List (List UInt8)}{i:Int}{v:Nat}(hi:0≤i∧i<16)(hr:(rootB P).length=256)(h1:1<P.length)(hv:v<4294967296):rootM (P.set 1 (setR (rootB P) i.toNat v)) i=v:=by
 rw [rootM_at hi.1,rootB_set h1,rootAt_set hr (by omega) hv,if_pos rfl]
end
end Go.Proofs.YtkmjkmjpejmlnaaGreat

namespace Go.Proofs.YtkmjkmjpejmlnaaGreat.Slt
open Go Go.Ann Go.RowKit
theorem vacant_le(L:List (List UInt8)):vacantP L≤L.length:=List.findIdx_le_length
end Go.Proofs.YtkmjkmjpejmlnaaGreat.Slt

namespace Go.Proofs.YtkmjkmjpejmlnaaGreat
open Go Go.Ann Go.RowKit Go.WideShapes
def stubs(es:List Ent):List (List UInt8):=es.map Ent.stub
def vacE(es:List Ent):Nat:=Slt.vacantP (stubs es)
def putE(e:Ent)(es:List Ent):List Ent:=if vacE es=es.length then es++[e] else es.set (vacE es) e
theorem stubs_len(es:List Ent):(stubs es).length=es.length:=List.length_map ..
theorem nil_no{e:Ent}(h:e.stub=[]):e.rec?=none∧e.pgs=[]:=by
 cases e with
 | no=>exact ⟨rfl,rfl⟩
 | sh r=>cases h
 | lo r g=>cases h
 | gh s=>exact ⟨rfl,rfl⟩
def recE(a k:Nat)(e:Ent):List (Nat × List UInt8):=match e.rec? with | some r=>[(256 * a+k,r)] | none=>[]
def recsE(a:Nat):Nat→List Ent→List (Nat × List UInt8)
 | _,[]=>[]
 | k,e::es=>recE a k e++recsE a (k+1) es
def recsX(X:List (Nat × List Ent)):List (Nat × List UInt8):=X.flatMap fun x=>recsE x.1 0 x.2
theorem ents_split{es:List Ent}{k:Nat}(h:k<es.length):es=es.take k++es[k]::es.drop (k+1):=by
 rw [List.getElem_cons_drop,List.take_append_drop]
theorem ents_set{es:List Ent}{k:Nat}(h:k<es.length)(e:Ent):es.set k e=es.take k++e::es.drop (k+1):=by
 rw [List.set_eq_take_append_cons_drop,if_pos h]
theorem entsG_set{k:Nat}{es:List Ent}(h:k<es.length)(e:Ent):(es[k].pgs++entsG (es.set k e)).Perm (e.pgs++entsG es):=by
 rw [ents_set h e]
 conv=>rhs; rw [ents_split h]
 unfold entsG
 rw [List.flatMap_append,List.flatMap_append,List.flatMap_cons,List.flatMap_cons]
 have hp:∀ (A B C D:List Nat),(A++(C++(B++D))).Perm (B++(C++(A++D))):=fun A B C D=>by
  have h1:(A++(C++(B++D))).Perm ((B++(C++A))++D):=by
   have h2:(A++(C++B)).Perm (B++(C++A)):=by
    refine List.perm_append_comm.trans ?_
    have:=(List.perm_append_comm (l₁:=C) (l₂:=B)).append_right A
    rwa [List.append_assoc B C A] at this
   have:=h2.append_right D
   simpa only [List.append_assoc] using this
  simpa only [List.append_assoc] using h1
 exact hp _ _ _ _
theorem vac_at{es:List Ent}(h:vacE es≠es.length):∃ hk:vacE es<es.length,es[vacE es].stub=[]:=by
 have hle:vacE es≤es.length:=by
  have:=Slt.vacant_le (stubs es)
  rwa [stubs_len] at this
 have hlt:vacE es<es.length:=by omega
 refine ⟨hlt,?_⟩
 have:=Slt.vacant_nil (L:=stubs es) (by rw [stubs_len]; exact hlt)
 simp only [stubs,List.getElem_map] at this
 exact this
theorem entsG_put{es:List Ent}(e:Ent):(entsG (putE e es)).Perm (e.pgs++entsG es):=by
 unfold putE
 split
 ·unfold entsG
  rw [List.flatMap_append,List.flatMap_cons,List.flatMap_nil,List.append_nil]
  exact List.perm_append_comm
 ·rename_i h
  obtain ⟨hk,h0⟩:=vac_at h
  have:=entsG_set hk e
  rwa [(nil_no h0).2,List.nil_append] at this
open Go Go.Ann Go.RowKit Go.WideShapes
def chainN(n:Nat):Nat:=(n+251) / 252
theorem Pgr.perm{e:En}{P:List (List UInt8)}{W0 w:World}{F:Nat→Prop}{L L':List Res}{I:List Inv}(h:Pgr e P W0 w F L I)(hp:L.Perm L'):Pgr e P W0 w F L' I:=by
 obtain ⟨A,s,k⟩:=h.lift
 exact k _ _ _ (s.perm (hp.symm.append_right A))
section
variable {W0 w:World} {F:Nat→Prop} {L:List Res} {I:List Inv} {e:En} {P:List (List UInt8)}
end
open Go Go.Ann Go.RowKit Go.WideShapes
section
variable {W0 w:World} {F:Nat→Prop} {L:List Res} {I:List Inv} {e:En} {P:List (List UInt8)}
def curN(C:List Nat)(k:Nat):Nat:=C.getD k 0
theorem LinkN.at{P:List (List UInt8)}:∀ {C:List Nat} {a:Nat},LinkN P a C 0→(curN C 0=a)∧∀ k,k<C.length→nxtN P (curN C k)=curN C (k+1)
 | [],a,h=>⟨by have:a=0:=h; subst this; rfl,fun k hk=>by simp at hk⟩
 | c::C,a,h=>by
  obtain ⟨h1,h2⟩:=LinkN.at h.2
  refine ⟨h.1.symm,fun k hk=>?_⟩
  cases k with
  | zero=>exact h1.symm
  | succ k=>exact h2 k (by simpa using hk)
end
open Go Go.Ann Go.RowKit Go.WideShapes
section
variable {W0 w:World} {F:Nat→Prop} {L:List Res} {I:List Inv} {e:En} {P:List (List UInt8)}
theorem Pgr.box(h:Pgr e P W0 w F L I)(cs:Array Value)(t:TypeId):Pgr e P W0 (w.alloc (.cells cs t)) F (.blk w.heap.size cs t::L) I:=by
 obtain ⟨A,s,k⟩:=h.lift
 exact k _ _ _ (s.box cs t)
theorem Pgr.rules(h:Pgr e P W0 w F L I)(i:Nat){b:Nat}{cs:Array Value}{t:TypeId}(hi:L[i]?=some (.blk b cs t)):(∀ i,w.cell? ⟨b,i,none⟩=cs[i]?)∧(∀ i,w.frozen? ⟨b,i,none⟩=false)∧(∀ n,okSize cs n=true→cellsO w ⟨b,0,none⟩ 0 n=some cs.toList):=by
 obtain ⟨A,s,k⟩:=h.lift
 have hl:=(List.getElem?_eq_some_iff.1 hi).1
 exact s.rules i (by rw [List.getElem?_append_left hl]; exact hi)
theorem Pgr.bk(h:Pgr e P W0 w F L I)(i:Nat){b:Nat}{cs:Array Value}{t:TypeId}(hi:L[i]?=some (.blk b cs t)):Blk w b cs t:=by
 obtain ⟨A,s,k⟩:=h.lift
 have hl:=(List.getElem?_eq_some_iff.1 hi).1
 exact s.blk i (by rw [List.getElem?_append_left hl]; exact hi)
theorem Pgr.set(h:Pgr e P W0 w F L I)(i:Nat){b:Nat}{cs:Array Value}{t:TypeId}(hi:L[i]?=some (.blk b cs t))(j:Nat)(v:Value):Pgr e P W0 (w.setCell ⟨b,j,none⟩ v) F (L.set i (.blk b (cs.setIfInBounds j v) t)) I:=by
 obtain ⟨A,s,k⟩:=h.lift
 have hl:=(List.getElem?_eq_some_iff.1 hi).1
 have:=s.set i (by rw [List.getElem?_append_left hl]; exact hi) j v
 rw [List.set_append_left _ _ hl] at this
 exact k _ _ _ this
theorem Pgr.ob(h:Pgr e P W0 w F L I)(i:Nat){b:Nat}{o:Obj}(hi:L[i]?=some (.obj b o)):w.heap[b]?=some o:=by
 obtain ⟨A,s,k⟩:=h.lift
 have hl:=(List.getElem?_eq_some_iff.1 hi).1
 exact s.obj i (by rw [List.getElem?_append_left hl]; exact hi)
theorem Pgr.putOb(h:Pgr e P W0 w F L I)(i:Nat){b:Nat}{o:Obj}(hi:L[i]?=some (.obj b o))(o':Obj):Pgr e P W0 (w.putObj b o') F (L.set i (.obj b o')) I:=by
 obtain ⟨A,s,k⟩:=h.lift
 have hl:=(List.getElem?_eq_some_iff.1 hi).1
 have:=s.putObj i (by rw [List.getElem?_append_left hl]; exact hi) o'
 rw [List.set_append_left _ _ hl] at this
 exact k _ _ _ this
theorem Pgr.sub{L':List Res}(h:Pgr e P W0 w F L I)(hs:L'.Sublist L):Pgr e P W0 w F L' I:=by
 obtain ⟨A,s,k⟩:=h.lift
 exact k _ _ _ (s.sub (hs.append_right A))
end
def moreN(r:List UInt8):Nat:=if r.length≤62 then 0 else chainN r.length
def PutX(X:List (Nat × List Ent))(r:List UInt8)(id:Nat)(X':List (Nat × List Ent)):Prop :=
 ∃ t:Ent,t.rec?=some r∧t.pgs.length=moreN r ∧
  ((∃ A B a es,X=A++(a,es)::B∧X'=A++(a,putE t es)::B∧id=256 * a+vacE es)∨∃ a,X'=(a,[t])::X∧id=256 * a)
section
variable {W0 w:World} {F:Nat→Prop} {L:List Res} {I:List Inv} {e:En} {P:List (List UInt8)} {X:List (Nat × List Ent)} {E:List Nat} {n hb:Nat} {i:Int}
end
open Go Go.Ann Go.RowKit Go.WideShapes
def Real(X:List (Nat × List Ent)):Prop:=∀ x∈X,∀ e∈x.2,e.stub≠[]→∃ r,e.rec?=some r
theorem recsE_mem{a:Nat}{id:Nat}{r:List UInt8}:∀ {es:List Ent} {k:Nat},(id,r)∈recsE a k es↔∃ j,∃ hj:j<es.length,es[j].rec?=some r∧id=256 * a+(k+j)
 | [],k=>by simp [recsE]
 | e::es,k=>by
  rw [recsE,List.mem_append,recsE_mem]
  constructor
  ·rintro (h | ⟨j,hj,h1,h2⟩)
   ·unfold recE at h
    split at h
    ·rename_i r' hr
     rw [List.mem_singleton] at h
     cases h
     exact ⟨0,by simp,hr,rfl⟩
    ·cases h
   ·exact ⟨j+1,by simpa using hj,h1,by omega⟩
  ·rintro ⟨j,hj,h1,h2⟩
   cases j with
   | zero =>
    left
    have h1:e.rec?=some r:=h1
    unfold recE
    rw [h1,h2]; simp
   | succ j=>exact .inr ⟨j,by simpa using hj,h1,by omega⟩
theorem recsX_mem{X:List (Nat × List Ent)}{id:Nat}{r:List UInt8}:(id,r)∈recsX X↔∃ x∈X,∃ j,∃ hj:j<x.2.length,x.2[j].rec?=some r∧id=256 * x.1+j:=by
 unfold recsX
 rw [List.mem_flatMap]
 constructor
 ·rintro ⟨x,hx,h⟩
  obtain ⟨j,hj,h1,h2⟩:=recsE_mem.1 h
  exact ⟨x,hx,j,hj,h1,by omega⟩
 ·rintro ⟨x,hx,j,hj,h1,h2⟩
  exact ⟨x,hx,recsE_mem.2 ⟨j,hj,h1,by omega⟩⟩
theorem PutX.pages{X X':List (Nat × List Ent)}{r:List UInt8}{id:Nat}(h:PutX X r id X'):(pagesX X').length≤(pagesX X).length+(moreN r+1):=by
 obtain ⟨t,h1,h2,⟨A,B,a,es,rfl,rfl,rfl⟩ | ⟨a,rfl,rfl⟩⟩:=h
 ·rw [pagesX_mid,pagesX_mid]
  have:=(entsG_put (es:=es) t).length_eq
  rw [List.length_append,h2] at this
  simp only [List.length_append,List.length_cons]
  omega
 ·show (a::entsG [t]++pagesX X).length≤_
  have:entsG [t]=t.pgs:=by unfold entsG; simp
  rw [this]
  simp only [List.length_append,List.length_cons,h2]
  omega
section
variable {mx n:Nat} {i:Int} {P P':List (List UInt8)} {X:List (Nat × List Ent)} {E E':List Nat}
theorem HpN.none(h:HpN mx n i P X E)(hr:Real X)(h0:recsX X=[]):X=[]:=by
 cases X with
 | nil=>rfl
 | cons x X =>
  obtain ⟨e,he,h1⟩:=h.some x List.mem_cons_self
  obtain ⟨r,h2⟩:=hr x List.mem_cons_self e he h1
  obtain ⟨j,hj,rfl⟩:=List.mem_iff_getElem.1 he
  have:(256 * x.1+j,r)∈recsX (x::X):=recsX_mem.2 ⟨x,List.mem_cons_self,j,hj,h2,rfl⟩
  rw [h0] at this; cases this
end
open Go Go.Ann Go.RowKit Go.WideShapes
theorem Pgr.bel{e:En}{P:List (List UInt8)}{W0 w:World}{F:Nat→Prop}{L:List Res}{I:List Inv}(h:Pgr e P W0 w F L I):Below W0.heap.size W0 w:=by
 obtain ⟨rv,l,s,h1,h2⟩:=h
 exact h1.bel
section
variable {W0 w:World} {F:Nat→Prop} {L:List Res} {I:List Inv} {e:En} {P:List (List UInt8)} {X:List (Nat × List Ent)} {E:List Nat} {n hb:Nat} {i:Int}
theorem hpN_start{mx n:Nat}{i:Int}(h3:3≤n)(h4:n≤500)(hm:3≤mx∧mx≤n)(hi:0≤i∧i<16):HpN mx n i (fmtP (List.replicate n zeroB)) [] []:=by
 have hg:=fmt_given (P:=List.replicate n zeroB) (n:=n) List.length_replicate h3 h4
 have hfull:∀ p∈fmtP (List.replicate n zeroB),p.length=256:=by
  unfold fmtP
  refine full_set (full_set (fun p hp=>?_) (filledL_length (by rw [fmtU_len]; exact Nat.le_refl _))) (filledL_length (by decide))
  rw [List.eq_of_mem_replicate hp]; exact List.length_replicate
 have hn:∀ a,a∈([]:List Nat)++pagesX []→False:=fun a ha=>by simp [pagesX] at ha
 refine { given:=hg.ext fun j hj=>by simp [pagesX],low:=fun a ha=>(hn a ha).elim,nd:=List.Pairwise.nil,full:=hfull,idx:=hi,big:=⟨h3,h4,hm⟩,root:=?_,pg:=fun x hx=>(by simp at hx),some:=fun x hx=>(by simp at hx) }
 show rootM _ i=0
 rw [rootM_at hi.1]
 have:rootB (fmtP (List.replicate n zeroB))=filledL []:=by
  unfold fmtP
  exact rootB_set (by rw [List.length_set,List.length_replicate]; omega)
 rw [this]
 exact rootAt_zero _
end
open Go Go.Ann Go.RowKit Go.WideShapes
def natE(n:Nat):List Value:=[.int .i64 n]
theorem nat_one(n:Nat):∀ u∈natE n,u.oneCell'=true:=by intro u hu; rw [natE,List.mem_singleton] at hu; subst hu; rfl
section
variable {W0 w:World} {F:Nat→Prop} {L:List Res} {I:List Inv}
end
open Go Go.Ann Go.RowKit Go.WideShapes
section
variable {W0 w:World} {F:Nat→Prop} {L:List Res} {I:List Inv} {e:En} {P:List (List UInt8)} {X:List (Nat × List Ent)} {E:List Nat} {n hb:Nat} {i:Int}
theorem Pgr.row(h:Pgr e P W0 w F L I)(i:Nat){v:Value}{t sz n:Nat}{xs:List Value}(hi:L[i]?=some (.row v t sz n xs)):w.ownsRow W0.heap.size t sz v n xs:=by
 obtain ⟨A,s,k⟩:=h.lift
 have hl:=(List.getElem?_eq_some_iff.1 hi).1
 exact s.row i (by rw [List.getElem?_append_left hl]; exact hi)
end
end Go.Proofs.YtkmjkmjpejmlnaaGreat

namespace Go.Ann
open Go Go.RowKit
section
variable {P:Program} {ops:Array Oper} {Q:Exit→Act→World→Prop} {md:Region.Mode} {S T:World→Prop} {hb:List Nat} {rd:Option Nat} {n:Nat}
theorem semAt_nd{o:Oper}(ho:∀ c,o.op≠.defer c){a:Operand→Value}:o.semAt (FR rd).round a=execOp a o:=Oper.semAt_eq _ _ _ ho
theorem yieldsIf_in{i:Nat}{o:Oper}{v:Value}{a:Act}(hnd:∀ c,o.op≠.defer c)(hi:ops[i]?=some o)(hy:YieldsIf P ops S o v a)
  {K:Act→World→Prop} {w:World} (hS:S w) (h:K (a.put o.dst v) w):wpOpIn (FR rd) n P ops Q i K a w:=by
 unfold Go.wpOpIn
 simp only [hi]
 rcases hy with ⟨hw,hv⟩ | ⟨hw,rfl⟩
 ·simp only [hw,if_true,Oper.wpIn,semAt_nd hnd,hv w hS,Oper.uponIn]; exact ⟨fun _ _=>trivial,h⟩
 ·simp only [hw,Bool.false_eq_true,if_false]; exact ⟨fun _ _=>trivial,h⟩
theorem wpOpIn_putIf{j:Nat}{oi oj:Oper}{v:Value}(hnd:∀ c,oj.op≠.defer c)(hj:ops[j]?=some oj)(hap:oi.apart ops oj=true)
  (hsi:∀ cs b,oi.op≠.select cs b) (hsj:∀ cs b,oj.op≠.select cs b)
  (hQ:∀ c a w,Q (.panic c) (a.put oi.dst v) w→Q (.panic c) a w) {K:Act→World→Prop} {a:Act} {w:World}
  (hy:YieldsIf P ops T oi v a) (h:wpOpIn (FR rd) n P ops Q j K (a.put oi.dst v) w) :
  wpOpIn (FR rd) n P ops Q j (fun a' w'=>YieldsIf P ops T oi v a'∧K (a'.put oi.dst v) w') a w:=by
 obtain ⟨h1,h2,h3⟩:=Oper.apart_spec hap
 have keep:∀ (a:Act),YieldsIf P ops T oi v a→∀ u,YieldsIf P ops T oi v (a.put oj.dst u):=fun a hy u =>
  hy.of_same (execOp_put oi hsi a oj.dst u h3) (wanted_put oi a oj.dst u h3)
 have keepD:∀ d,YieldsIf P ops T oi v { a with defers:=d::a.defers }:=fun d=>hy.of_same rfl rfl
 unfold wpOpIn at *
 simp only [hj] at *
 rw [wanted_put oj a oi.dst v h1] at h
 split
 ·rename_i hw
  simp only [hw,if_true] at h
  unfold Oper.wpIn at *
  refine ⟨fun _ _=>trivial,?_⟩
  have h:=h.2
  rw [semAt_nd hnd,execOp_put oj hsj a oi.dst v h1] at h
  rw [semAt_nd hnd]
  generalize (execOp a.eval oj).run P w=x at *
  cases x with
  | ok x w' =>
   cases x <;> simp only [Oper.uponIn] at h ⊢
   case value u=>exact ⟨keep a hy u,by rw [← Act.put_comm a v u h2]; exact h⟩
   case skip=>exact ⟨keep a hy _,by rw [← Act.put_comm a v undef h2]; exact h⟩
   case defer d =>
    refine ⟨keep _ (keepD d) _,?_⟩
    rw [← Act.put_comm _ v undef h2,← Act.put_defers]
    exact h
   case enter f args =>
    refine ⟨h.1,CallsIn.mono h.2 fun e w'' he=>?_⟩
    cases e with
    | returned u=>exact ⟨keep a hy u,by rw [← Act.put_comm a v u h2]; exact he⟩
    | panicked c=>exact hQ _ _ _ he
    | outgrown=>exact he
   case row row args=>exact ⟨h.1,RowsIn.mono h.2 fun u w'' he=>⟨keep a hy u,by rw [← Act.put_comm a v u h2]; exact he⟩⟩
   case round l f tmps assign body =>
    refine ⟨h.1,RoundIn.mono h.2 fun e w'' he=>?_⟩
    cases e with
    | returned u=>exact ⟨keep a hy u,by rw [← Act.put_comm a v u h2]; exact he⟩
    | panicked c=>exact hQ _ _ _ he
    | outgrown=>exact he
  | halt x w' =>
   cases x <;> simp only [Oper.uponIn] at h ⊢
   case panic u=>exact hQ _ _ _ h
 ·rename_i hw
  simp only [hw] at h
  exact ⟨fun _ _=>trivial,keep a hy _,by rw [← Act.put_comm a v undef h2]; exact h.2⟩
def wpAnyY(rd:Option Nat)(n:Nat)(P:Program)(md:Region.Mode)(ops:Array Oper)(Q:Exit→Act→World→Prop)(S:World→Prop)(hb:List Nat):Nat→Array Bool→Act→World→Prop
 | 0,listed,a,w=>Region.ready md ops listed=[]∧Q .normal a w
 | fuel+1,listed,a,w =>
  (Region.ready md ops listed=[]→Q .normal a w) ∧
  ∀ i∈Region.ready md ops listed,wpOpIn (FR rd) n P ops Q i (fun a' w'=>(needB md ops hb i=true→S w→S w')∧wpAnyY rd n P md ops Q S hb fuel (listed.setIfInBounds i true) a' w') a w
theorem wpAny_of_Y:∀ (fuel:Nat) (listed:Array Bool) (a:Act) (w:World),wpAnyY rd n P md ops Q S hb fuel listed a w→wpAnyIn (FR rd) n P md ops Q fuel listed a w
 | 0,_,_,_,h=>h
 | fuel+1,_,_,_,h=>⟨h.1,fun i hi=>wpOpIn_mono (fun a' w' h'=>wpAny_of_Y fuel _ a' w' h'.2) (h.2 i hi)⟩
theorem wpAnyY_first{i:Nat}{oi:Oper}{v:Value}(hi:ops[i]?=some oi)(hnd:∀ (j:Nat) (o:Oper),ops[j]?=some o→∀ c,o.op≠.defer c)(hsel:∀ (j:Nat) (o:Oper) cs b,ops[j]?=some o→o.op≠.select cs b)
  (hT:(∀ w,T w)∨(i∈hb∧T=S)) (hQ:∀ c a w,Q (.panic c) (a.put oi.dst v) w→Q (.panic c) a w) :
  ∀ (fuel:Nat) (listed:Array Bool) (a:Act) (w:World),
   (∀ j oj,ops[j]?=some oj→j≠i→listed.getD j true=false→(∀ e∈oj.after,Region.binds md e=true→e.on≠i)→oi.apart ops oj=true) →
   i∈Region.ready md ops listed→YieldsIf P ops T oi v a→T w →
   wpAnyY rd n P md ops Q S hb fuel (listed.setIfInBounds i true) (a.put oi.dst v) w→wpAnyY rd n P md ops Q S hb (fuel+1) listed a w:=by
 intro fuel
 induction fuel with
 | zero =>
  intro listed a w _ hr hy hS H
  refine ⟨fun h=>(by rw [h] at hr; cases hr),fun j hj=>?_⟩
  by_cases hji:j=i
  ·subst hji; exact yieldsIf_in (hnd _ oi hi) hi hy hS ⟨fun _ h=>h,H⟩
  ·have:=ready_mono hj hji
   rw [H.1] at this
   cases this
 | succ fuel ih =>
  intro listed a w hfree hr hy hS H
  refine ⟨fun h=>(by rw [h] at hr; cases hr),fun j hj=>?_⟩
  by_cases hji:j=i
  ·subst hji; exact yieldsIf_in (hnd _ oi hi) hi hy hS ⟨fun _ h=>h,H⟩
  ·have h1:=H.2 j (ready_mono hj hji)
   obtain ⟨hjun,oj,hoj,hall⟩:=mem_ready.1 hj
   have hnot:=unlisted_after (j:=j) hr hall
   have h2:=wpOpIn_putIf (hnd j oj hoj) hoj (hfree j oj hoj hji hjun hnot) (fun cs b=>hsel i oi cs b hi) (fun cs b=>hsel j oj cs b hoj) hQ hy h1
   have hfree':∀ k ok,ops[k]?=some ok→k≠i→(listed.setIfInBounds j true).getD k true=false →
     (∀ e∈ok.after,Region.binds md e=true→e.on≠i)→oi.apart ops ok=true:=fun k ok hk hki hun hno=>by
    refine hfree k ok hk hki ?_ hno
    by_cases hjk:j=k
    ·subst hjk; exact hjun
    ·rw [getD_set_ne true hjk] at hun; exact hun
   refine wpOpIn_mono (fun a' w' h3=>⟨h3.2.1,ih (listed.setIfInBounds j true) a' w' hfree' (ready_mono hr (Ne.symm hji)) h3.1 ?_ ?_⟩) h2
   ·rcases hT with hT | ⟨hib,rfl⟩
    ·exact hT w'
    ·refine h3.2.1 ?_ hS
     unfold needB
     rw [hoj]
     simp only [Bool.not_eq_true']
     rw [Bool.eq_false_iff]
     intro hc
     have:=List.all_eq_true.1 hc i hib
     obtain ⟨e,he,hb'⟩:=Array.any_eq_true'.1 this
     simp only [Bool.and_eq_true,beq_iff_eq] at hb'
     exact hnot e he hb'.1 hb'.2
   ·rw [Array.setIfInBounds_comm _ _ hji]
    exact h3.2.2
theorem wpAnyY_take(hnd:∀ (j:Nat) (o:Oper),ops[j]?=some o→∀ c,o.op≠.defer c){i:Nat}{oi:Oper}{v:Value}{fuel:Nat}{listed:Array Bool}{a:Act}{w:World}(hi:ops[i]?=some oi)
  (hs:Region.noSelect ops=true) (hf:Region.free md ops listed i=true) (hr:(Region.ready md ops listed).contains i=true)
  (hT:(∀ w,T w)∨(i∈hb∧T=S)) (hQ:∀ c a w,Q (.panic c) (a.put oi.dst v) w→Q (.panic c) a w) (hy:YieldsIf P ops T oi v a) (hTw:T w)
  (h:wpAnyY rd n P md ops Q S hb fuel (listed.setIfInBounds i true) (a.put oi.dst v) w):wpAnyY rd n P md ops Q S hb (fuel+1) listed a w :=
 wpAnyY_first hi hnd (Region.noSelect_spec hs) hT hQ fuel listed a w (Region.free_spec hi hf) (by simpa using hr) hy hTw h
theorem wpAnyY_all{rs:List Nat}{fuel:Nat}{listed:Array Bool}{a:Act}{w:World}(hr:Region.ready md ops listed=rs)(hne:rs≠[])
  (h:∀ i∈rs,wpOpIn (FR rd) n P ops Q i (fun a' w'=>(needB md ops hb i=true→S w→S w')∧wpAnyY rd n P md ops Q S hb fuel (listed.setIfInBounds i true) a' w') a w):wpAnyY rd n P md ops Q S hb (fuel+1) listed a w :=
 ⟨fun h0=>absurd (hr ▸ h0) hne,hr ▸ h⟩
end
section
variable {P:Program} {N:Nat} {S:World→Prop} {rd:Option Nat} {n:Nat}
def opY(P:Program)(S:World→Prop)(k:Nat)(op:Op)(ty:TypeId)(ρ:Env)(w:World)(K:Value→World→Prop):Prop :=
 match k with
 | 0=>pureW P op ty ρ w K
 | 1=>opH P S op ty ρ w K
 | 2=>opW P op ty ρ w fun v w'=>S w'∧K v w'
 | _=>opW P op ty ρ w K
def DY(P:Program)(S:World→Prop):List (Nat × Ins)→List Nat→Env→World→Post→Prop
 | [],L,ρ,w,Q=>Q .normal (restr L ρ) w
 | (k,⟨d,op,ty,none⟩)::r,L,ρ,w,Q=>opY P S k op ty ρ w fun v w'=>DY P S r L (put ρ d v) w' Q
 | (k,⟨d,op,ty,some (s,b)⟩)::r,L,ρ,w,Q=>match lk ρ s with
  | some (.bool c)=>(c=b→opY P S k op ty ((s,.bool b)::ρ) w fun v w'=>DY P S r L (put ((s,.bool b)::ρ) d v) w' Q) ∧
    (c=!b→DY P S r L (put ((s,.bool !b)::ρ) d undef) w Q)
  | some (.tuple _)=>DY P S r L (put ρ d undef) w Q
  | _=>False
theorem wpOpIn_done{ops:Array Oper}{i:Nat}{o:Oper}{a:Act}{w:World}{K:Value→World→Prop}{next:Act→World→Prop}{Q:Exit→Act→World→Prop}(hi:ops[i]?=some o)(hd:∀ c,o.op≠.defer c)
  (hw:Region.wanted o (yielded ops a.tmps)=true) (h:DoneY P (execOp a.eval (rawOp o.op o.type)) w K) (hk:∀ v w',K v w'→next (a.put o.dst v) w'):wpOpIn (FR rd) n P ops Q i next a w:=by
 unfold wpOpIn
 simp only [hi,hw,if_true]
 exact done_wpIn hd (execOp_raw _ _) h hk
theorem wpOpIn_skip{ops:Array Oper}{i:Nat}{o:Oper}{a:Act}{w:World}{next:Act→World→Prop}{Q:Exit→Act→World→Prop}(hi:ops[i]?=some o)
  (hw:Region.wanted o (yielded ops a.tmps)=false) (h:next (a.put o.dst undef) w):wpOpIn (FR rd) n P ops Q i next a w:=by
 unfold wpOpIn
 simp only [hi,hw,Bool.false_eq_true,if_false]
 exact ⟨fun _ _=>trivial,h⟩
theorem noDefer_ne{o:Op}(h:noDefer o=true):∀ c,o≠.defer c:=by
 rintro c rfl
 cases h
theorem DY_sound{l:List Oper}(hall:l.all (fun o=>okDst N o.dst)=true)(hns:Region.noSelect l.toArray=true)(hnd:∀ (j:Nat) (o:Oper),l.toArray[j]?=some o→∀ c,o.op≠.defer c)(hb:List Nat):∀ (sched:List (Nat × Nat)) (ins:List (Nat × Ins)) (L:List Nat) (ρ:Env) (w:World) (Q:Post) (a:Act) (listed:Array Bool),
  insG l sched=some ins→schedG l.toArray hb sched listed=true→Sim N a ρ→((sched.any fun x=>x.1 == 1)=true→S w)→DY P S ins L ρ w Q→wpAnyY rd n P .any l.toArray (drawQ N L Q) S hb sched.length listed a w
 | [],ins,L,ρ,w,Q,a,listed,hi,hok,hs,hSw,h=>by
  simp only [insG,Option.some.injEq] at hi; subst hi
  simp only [schedG,List.isEmpty_iff] at hok
  exact ⟨hok,ρ,hs,rfl,h⟩
 | (k,i)::r,ins,L,ρ,w,Q,a,listed,hi,hok,hs,hSw,h=>by
  simp only [insG] at hi
  split at hi
  ·cases hi
  rename_i o ho
  split at hi
  case h_2=>cases hi
  rename_i g q hg hq
  simp only [Option.some.injEq] at hi; subst hi
  have ho':l.toArray[i]?=some o:=by simpa using ho
  have hd:okDst N o.dst=true:=List.all_eq_true.1 hall o (List.mem_of_getElem? ho)
  have hSr:(r.any fun x=>x.1 == 1)=true→S w:=fun h=>hSw (by simp only [List.any_cons,h,Bool.or_true])
  have hnd':=hnd i o ho'
  have hpan:∀ (d:Option Nat) (v:Value) c (a:Act) (w:World),drawQ N L Q (.panic c) (a.put d v) w→drawQ N L Q (.panic c) a w:=by
   rintro d v c a w ⟨_,_,hn,_⟩; cases hn
  have take:∀ (ρ':Env),Sim N a ρ'→(Region.wanted o (yielded l.toArray a.tmps)=true) →
    opY P S k o.op o.type ρ' w (fun v w'=>DY P S q L (put ρ' o.dst v) w' Q) →
    wpAnyY rd n P .any l.toArray (drawQ N L Q) S hb (r.length+1) listed a w:=by
   intro ρ' hs' hw h
   match k,hok,hSw,h with
   | 0,hok,hSw,h =>
    simp only [schedG,Bool.and_eq_true] at hok
    obtain ⟨v,hv,hk⟩:=pureW_runs (show pureW P o.op o.type ρ' w _ from h)
    refine wpAnyY_take hnd (T:=fun _=>True) ho' hns hok.1.2 hok.1.1 (.inl fun _=>trivial) (hpan _ _) (.inl ⟨hw,fun w' _=>?_⟩) trivial (DY_sound hall hns hnd hb r q L _ w Q _ _ hq hok.2 (hs'.put hd v) hSr hk)
    rw [execOp_raw]; exact hv a.eval hs'.eval w'
   | 1,hok,hSw,h =>
    simp only [schedG,Bool.and_eq_true,List.contains_iff_mem] at hok
    obtain ⟨v,hv,hk⟩:=opH_runs (show opH P S o.op o.type ρ' w _ from h)
    refine wpAnyY_take hnd (T:=S) ho' hns hok.1.2 (by simpa using hok.1.1.2) (.inr ⟨hok.1.1.1,rfl⟩) (hpan _ _) (.inl ⟨hw,fun w' hw'=>?_⟩) (hSw (by simp)) (DY_sound hall hns hnd hb r q L _ w Q _ _ hq hok.2 (hs'.put hd v) hSr hk)
    rw [execOp_raw]; exact hv a.eval hs'.eval w' hw'
   | 2,hok,hSw,h =>
    simp only [schedG,Bool.and_eq_true,beq_iff_eq] at hok
    refine wpAnyY_all hok.1 (by simp) fun j hj=>?_
    simp only [List.mem_singleton] at hj; subst hj
    refine wpOpIn_done ho' hnd' hw (opW_doneY (show opW P o.op o.type ρ' w _ from h) a.eval hs'.eval) fun v w' hk=>⟨fun _ _=>hk.1,DY_sound hall hns hnd hb r q L _ w' Q _ _ hq hok.2 (hs'.put hd v) (fun _=>hk.1) hk.2⟩
   | k+3,hok,hSw,h =>
    simp only [schedG,Bool.and_eq_true,beq_iff_eq,Bool.not_eq_true'] at hok
    refine wpAnyY_all hok.1.1.1 (by simp) fun j hj=>?_
    simp only [List.mem_singleton] at hj; subst hj
    refine wpOpIn_done ho' hnd' hw (opW_doneY (show opW P o.op o.type ρ' w _ from h) a.eval hs'.eval) fun v w' hk=>⟨fun hn=>?_,DY_sound hall hns hnd hb r q L _ w' Q _ _ hq hok.2 (hs'.put hd v) (fun hn=>?_) hk⟩
    ·rw [hok.1.1.2] at hn; cases hn
    ·rw [hok.1.2] at hn; cases hn
  have skip:∀ (ρ':Env),Sim N a ρ'→(Region.wanted o (yielded l.toArray a.tmps)=false)→DY P S q L (put ρ' o.dst undef) w Q→wpAnyY rd n P .any l.toArray (drawQ N L Q) S hb (r.length+1) listed a w:=by
   intro ρ' hs' hw h2
   match k,hok with
   | 0,hok =>
    simp only [schedG,Bool.and_eq_true] at hok
    exact wpAnyY_take hnd (T:=fun _=>True) ho' hns hok.1.2 hok.1.1 (.inl fun _=>trivial) (hpan _ _) (.inr ⟨hw,rfl⟩) trivial (DY_sound hall hns hnd hb r q L _ w Q _ _ hq hok.2 (hs'.put hd undef) hSr h2)
   | 1,hok =>
    simp only [schedG,Bool.and_eq_true,List.contains_iff_mem] at hok
    exact wpAnyY_take hnd (T:=fun _=>True) ho' hns hok.1.2 (by simpa using hok.1.1.2) (.inl fun _=>trivial) (hpan _ _) (.inr ⟨hw,rfl⟩) trivial (DY_sound hall hns hnd hb r q L _ w Q _ _ hq hok.2 (hs'.put hd undef) hSr h2)
   | 2,hok =>
    simp only [schedG,Bool.and_eq_true,beq_iff_eq] at hok
    refine wpAnyY_all hok.1 (by simp) fun j hj=>?_
    simp only [List.mem_singleton] at hj; subst hj
    exact wpOpIn_skip ho' hw ⟨fun _ h=>h,DY_sound hall hns hnd hb r q L _ w Q _ _ hq hok.2 (hs'.put hd undef) hSr h2⟩
   | k+3,hok =>
    simp only [schedG,Bool.and_eq_true,beq_iff_eq,Bool.not_eq_true'] at hok
    refine wpAnyY_all hok.1.1.1 (by simp) fun j hj=>?_
    simp only [List.mem_singleton] at hj; subst hj
    exact wpOpIn_skip ho' hw ⟨fun _ h=>h,DY_sound hall hns hnd hb r q L _ w Q _ _ hq hok.2 (hs'.put hd undef) hSr h2⟩
  cases hgo:o.guard with
  | none =>
   rw [hgo] at hg
   simp only [stripG,Option.some.injEq] at hg; subst hg
   simp only [DY] at h
   exact take ρ hs (by simp only [Region.wanted,hgo]) h
  | some jb =>
   obtain ⟨j,b⟩:=jb
   rw [hgo] at hg
   simp only [stripG] at hg
   split at hg
   case h_2=>cases hg
   rename_i s hs0
   simp only [Option.some.injEq] at hg; subst hg
   simp only [DY] at h
   split at h
   ·rename_i c hc
    have hy:=yielded_of hs hs0 hc
    by_cases hcb:c=b
    ·subst hcb
     exact take _ (hs.know hc) (by simp only [Region.wanted,hgo,hy,beq_self_eq_true]) (h.1 rfl)
    ·have hcb':c=!b:=bool_ne hcb
     have hc':lk ρ s=some (.bool !b):=by rw [← hcb']; exact hc
     exact skip _ (hs.know hc') (by simp only [Region.wanted,hgo,hy]; simpa using hcb) (h.2 hcb')
   ·rename_i u hc
    exact skip ρ hs (by simp only [Region.wanted,hgo,yielded_undef hs hs0 hc]; rfl) h
   ·exact h.elim
theorem drawW_heldY{l:List Oper}{L:List Nat}{ρ:Env}{w:World}{Q:Post}(hb:List Nat)(sched:List (Nat × Nat))(ins:List (Nat × Ins))(hm:P.follows .mixedOrders=true)
  (hi:insG l sched=some ins) (hok:(Region.noSelect l.toArray && (sched.length == l.length) && schedG l.toArray hb sched (Array.replicate l.length false))=true) (hd:l.all (fun o=>noDefer o.op)=true)
  (S:World→Prop) (hS:S w.drew) (h:DY P S ins L ρ w.drew Q):drawW P l L ρ w Q:=by
 intro N a hall hs
 refine .inr fun rd n t=>?_
 simp only [Bool.and_eq_true,beq_iff_eq] at hok
 simp only [Region.schedule,hm,Bool.true_or,if_true]
 have hnd:∀ (j:Nat) (o:Oper),l.toArray[j]?=some o→∀ c,o.op≠.defer c:=fun j o ho=>noDefer_ne (List.all_eq_true.1 hd o (List.mem_of_getElem? (by simpa using ho)))
 refine wpAnyIn_sound _ t _ a _ (wpAny_of_Y (rd:=rd) (n:=n) (S:=S) (hb:=hb) _ _ _ _ ?_)
 have:=DY_sound (S:=S) (rd:=rd) (n:=n) hall hok.1.1 hnd hb sched ins L ρ w.drew Q a (Array.replicate l.length false) hi hok.2 hs (fun _=>hS) h
 rw [hok.1.2] at this
 have e:l.toArray.size=l.length:=by simp
 rw [e]
 exact this
end
section
variable {P:Program} {S:World→Prop} {w:World} {K:Value→World→Prop} {ρ:Env} {Q:Post} {r:List (Nat × Ins)} {L:List Nat} {d:Option Nat} {ty:TypeId} {k:Nat} {op:Op} {s:Nat} {b c:Bool}
def DYn(P:Program)(S:World→Prop)(r:List (Nat × Ins))(L:List Nat)(ρ:Env)(d:Option Nat)(Q:Post):Value→World→Prop:=fun v w=>DY P S r L (put ρ d v) w Q
def DYs(P:Program)(S:World→Prop)(r:List (Nat × Ins))(L:List Nat)(ρ:Env)(d:Option Nat)(Q:Post):Value→World→Prop:=fun v w=>S w∧DY P S r L (put ρ d v) w Q
def opY'(P:Program)(S:World→Prop)(k:Nat)(op:Op)(ty:TypeId)(r:List (Nat × Ins))(L:List Nat)(ρ:Env)(d:Option Nat)(w:World)(Q:Post):Prop:=opY P S k op ty ρ w (DYn P S r L ρ d Q)
def dY(P:Program)(S:World→Prop)(o:Option Value)(s:Nat)(b:Bool)(k:Nat)(d:Option Nat)(op:Op)(ty:TypeId)(r:List (Nat × Ins))(L:List Nat)(ρ:Env)(w:World)(Q:Post):Prop :=
 match o with
 | some (.bool c)=>(c=b→opY' P S k op ty r L ((s,.bool b)::ρ) d w Q)∧(c=!b→DY P S r L (put ((s,.bool !b)::ρ) d undef) w Q)
 | some (.tuple _)=>DY P S r L (put ρ d undef) w Q
 | _=>False
theorem DY_nil:DY P S [] L ρ w Q=Q .normal (restr L ρ) w:=(rfl)
theorem DY_cons:DY P S ((k,⟨d,op,ty,none⟩)::r) L ρ w Q=opY' P S k op ty r L ρ d w Q:=(rfl)
theorem DY_guard:DY P S ((k,⟨d,op,ty,some (s,b)⟩)::r) L ρ w Q=dY P S (lk ρ s) s b k d op ty r L ρ w Q:=by
 simp only [DY,dY]; rfl
theorem DYn_app{v:Value}:DYn P S r L ρ d Q v w=DY P S r L (put ρ d v) w Q:=(rfl)
theorem DYs_app{v:Value}:DYs P S r L ρ d Q v w=(S w∧DY P S r L (put ρ d v) w Q):=(rfl)
theorem opY_0:opY' P S 0 op ty r L ρ d w Q=pureW P op ty ρ w (DYn P S r L ρ d Q):=(rfl)
theorem opY_1{t:TypeId}{x:Operand}:opY' P S 1 (.load t x) ty r L ρ d w Q=ptrW (fun p=>heldW P S t p w (DYn P S r L ρ d Q)) (ev ρ x):=(rfl)
theorem opY_2:opY' P S 2 op ty r L ρ d w Q=opW P op ty ρ w (DYs P S r L ρ d Q):=(rfl)
theorem opY_3:opY' P S 3 op ty r L ρ d w Q=opW P op ty ρ w (DYn P S r L ρ d Q):=(rfl)
theorem dY_t:dY P S (some (.bool true)) s true k d op ty r L ρ w Q=opY' P S k op ty r L ((s,.bool true)::ρ) d w Q:=by simp [dY]
theorem dY_f:dY P S (some (.bool false)) s false k d op ty r L ρ w Q=opY' P S k op ty r L ((s,.bool false)::ρ) d w Q:=by simp [dY]
theorem dY_tf:dY P S (some (.bool true)) s false k d op ty r L ρ w Q=DY P S r L (put ((s,.bool true)::ρ) d undef) w Q:=by simp [dY]
theorem dY_ft:dY P S (some (.bool false)) s true k d op ty r L ρ w Q=DY P S r L (put ((s,.bool false)::ρ) d undef) w Q:=by simp [dY]
theorem dY_gen:dY P S (some (.bool c)) s b k d op ty r L ρ w Q=((c=b→opY' P S k op ty r L ((s,.bool b)::ρ) d w Q)∧(c=!b→DY P S r L (put ((s,.bool !b)::ρ) d undef) w Q)):=(rfl)
theorem dY_undef:dY P S (some undef) s b k d op ty r L ρ w Q=DY P S r L (put ρ d undef) w Q:=(rfl)
end
attribute [go_sem low] dY_gen
attribute [go_sem] DY_nil DY_cons DY_guard DYn_app DYs_app opY_0 opY_1 opY_2 opY_3 dY_t dY_f dY_tf dY_ft dY_undef
end Go.Ann

namespace Go.Proofs.YtkmjkmjpejmlnaaGreat
open Go Go.Ann
def c5code:Code:=match Tryz.f5.body with | some c=>c | none=>.skip
def c5S0(_:Unit):Cmd:=(.cond (.tmp 70)
 (.seq (.ops [
 ⟨some 2,.assign (.const (.bool false)),4,none⟩] [2])
 .ret)
 (.skip [1,15,16,17]))
def c5S1(_:Unit):Cmd:=(.seq (.ops [
 ⟨some 28,.move (.tmp 5),9,none⟩,
 ⟨some 29,.binOp .neq 9 (.tmp 28) (.const (.string (ofL []))) 9,4,none⟩,
 ⟨some 30,.move (.tmp 29),4,none⟩,
 ⟨some 31,.move (.tmp 6),30,(some (30,false))⟩,
 ⟨some 32,.binOp .neq 30 (.tmp 31) (.const (.int .i64 3)) 30,4,(some (30,false))⟩,
 ⟨some 33,.pick (.tmp 30) (.const (.bool true)) (.tmp 32),4,none⟩,
 ⟨some 34,.move (.tmp 33),4,none⟩,
 ⟨some 35,.move (.tmp 4),37,(some (34,false))⟩,
 ⟨some 36,.fieldAddr 40 (.tmp 1) 1,0,(some (34,false))⟩,
 ⟨some 37,.load 9 (.tmp 36),9,(some (34,false))⟩,
 ⟨some 38,.fieldAddr 40 (.tmp 1) 2,0,(some (34,false))⟩,
 ⟨some 39,.load 9 (.tmp 38),9,(some (34,false))⟩,
 ⟨some 40,.call ⟨.value (.func 18),#[(.tmp 35),(.tmp 37),(.tmp 39)],#[37,9,9]⟩,30,(some (34,false))⟩,
 ⟨some 41,.move (.tmp 6),30,(some (34,false))⟩,
 ⟨some 42,.binOp .neq 30 (.tmp 40) (.tmp 41) 30,4,(some (34,false))⟩,
 ⟨some 43,.pick (.tmp 34) (.const (.bool true)) (.tmp 42),4,none⟩,
 ⟨some 44,.move (.tmp 43),4,none⟩,
 ⟨some 45,.move (.tmp 4),37,(some (44,false))⟩,
 ⟨some 46,.fieldAddr 40 (.tmp 1) 1,0,(some (44,false))⟩,
 ⟨some 47,.load 9 (.tmp 46),9,(some (44,false))⟩,
 ⟨some 48,.call ⟨.value (.func 26),#[(.tmp 45),(.tmp 47)],#[37,9]⟩,30,(some (44,false))⟩,
 ⟨some 49,.move (.tmp 6),30,(some (44,false))⟩,
 ⟨some 50,.binOp .neq 30 (.tmp 48) (.tmp 49) 30,4,(some (44,false))⟩,
 ⟨some 51,.pick (.tmp 44) (.const (.bool true)) (.tmp 50),4,none⟩,
 ⟨some 52,.move (.tmp 51),4,none⟩,
 ⟨some 53,.move (.tmp 4),37,(some (52,false))⟩,
 ⟨some 54,.call ⟨.value (.func 27),#[(.tmp 53)],#[37]⟩,3,(some (52,false))⟩,
 ⟨some 55,.binOp .neq 3 (.tmp 54) (.const (.int .i64 0)) 3,4,(some (52,false))⟩,
 ⟨some 56,.pick (.tmp 52) (.const (.bool true)) (.tmp 55),4,none⟩,
 ⟨some 57,.move (.tmp 56),4,none⟩,
 ⟨some 58,.move (.tmp 4),37,(some (57,false))⟩,
 ⟨some 59,.call ⟨.value (.func 28),#[(.tmp 58)],#[37]⟩,46,(some (57,false))⟩,
 ⟨some 60,.call ⟨.builtin .len,#[(.tmp 59)],#[46]⟩,3,(some (57,false))⟩,
 ⟨some 61,.binOp .neq 3 (.tmp 60) (.const (.int .i64 0)) 3,4,(some (57,false))⟩,
 ⟨some 62,.pick (.tmp 57) (.const (.bool true)) (.tmp 61),4,none⟩,
 ⟨some 63,.move (.tmp 62),4,none⟩,
 ⟨some 64,.move (.tmp 4),37,(some (63,false))⟩,
 ⟨some 65,.fieldAddr 40 (.tmp 1) 1,0,(some (63,false))⟩,
 ⟨some 66,.load 9 (.tmp 65),9,(some (63,false))⟩,
 ⟨some 67,.call ⟨.value (.func 21),#[(.tmp 64),(.tmp 66),(.const (.int .i64 3))],#[37,9,3]⟩,46,(some (63,false))⟩,
 ⟨some 68,.call ⟨.builtin .len,#[(.tmp 67)],#[46]⟩,3,(some (63,false))⟩,
 ⟨some 69,.binOp .neq 3 (.tmp 68) (.const (.int .i64 0)) 3,4,(some (63,false))⟩,
 ⟨some 70,.pick (.tmp 63) (.const (.bool true)) (.tmp 69),4,none⟩] [1,15,16,17,70]) (sg c5S0))
def c5S2(_:Unit):Cmd:=(.ops [
 ⟨some 71,.binOp .add 3 (.tmp 17) (.const (.int .i64 1)) 3,3,none⟩,
 ⟨some 17,.move (.tmp 71),3,none⟩] [1,15,16,17])
def c5S3(_:Unit):Cmd:=(.seq (.block 1 (.seq (.ops [
 ⟨some 19,.indexAddr 57 (.tmp 15) (.tmp 17),0,none⟩,
 ⟨some 20,.load 37 (.tmp 19),37,none⟩,
 ⟨some 4,.assign (.tmp 20),37,none⟩] [1,4,15,16,17])
 (.seq (.ops [
 ⟨some 22,.move (.tmp 4),37,none⟩,
 ⟨some 23,.fieldAddr 40 (.tmp 1) 1,0,none⟩,
 ⟨some 24,.load 9 (.tmp 23),9,none⟩,
 ⟨some 25,.call ⟨.value (.func 25),#[(.tmp 22),(.tmp 24)],#[37,9]⟩,50,none⟩,
 ⟨some 21,.move (.tmp 25),50,none⟩,
 ⟨some 26,.extract (.tmp 21) 0,9,none⟩,
 ⟨some 27,.extract (.tmp 21) 1,30,none⟩,
 ⟨some 5,.assign (.tmp 26),9,none⟩,
 ⟨some 6,.assign (.tmp 27),30,none⟩] [1,4,5,6,15,16,17]) (sg c5S1)))) (sg c5S2))
def c5L0(_:Unit):Cmd:=(.seq (.ops [
 ⟨some 18,.binOp .lss 3 (.tmp 17) (.tmp 16) 3,0,none⟩] [1,15,16,17,18])
 (.seq (.cond (.tmp 18)
 (.skip [1,15,16,17])
 (.exit 0 [])) (sg c5S3)))
def c5S4(_:Unit):Cmd:=.ret
def c5S5(_:Unit):Cmd:=(.seq (.ops [
 ⟨some 85,.move (.tmp 7),37,none⟩,
 ⟨some 86,.binOp .eql 37 (.tmp 85) (.const (.pointer none)) 37,4,none⟩,
 ⟨some 87,.move (.tmp 86),4,none⟩,
 ⟨some 88,.move (.tmp 8),30,(some (87,true))⟩,
 ⟨some 89,.binOp .eql 30 (.tmp 88) (.const (.int .i64 3)) 30,4,(some (87,true))⟩,
 ⟨some 90,.pick (.tmp 87) (.tmp 89) (.const (.bool false)),4,none⟩,
 ⟨some 91,.move (.tmp 90),4,none⟩,
 ⟨some 92,.move (.tmp 11),37,(some (91,true))⟩,
 ⟨some 93,.binOp .eql 37 (.tmp 92) (.const (.pointer none)) 37,4,(some (91,true))⟩,
 ⟨some 94,.pick (.tmp 91) (.tmp 93) (.const (.bool false)),4,none⟩,
 ⟨some 95,.move (.tmp 94),4,none⟩,
 ⟨some 96,.move (.tmp 12),30,(some (95,true))⟩,
 ⟨some 97,.binOp .eql 30 (.tmp 96) (.const (.int .i64 1)) 30,4,(some (95,true))⟩,
 ⟨some 98,.pick (.tmp 95) (.tmp 97) (.const (.bool false)),4,none⟩,
 ⟨some 99,.move (.tmp 98),4,none⟩,
 ⟨some 100,.call ⟨.value (.func 24),#[],#[]⟩,4,(some (99,true))⟩,
 ⟨some 101,.pick (.tmp 99) (.tmp 100) (.const (.bool false)),4,none⟩,
 ⟨some 2,.assign (.tmp 101),4,none⟩] [2]) (sg c5S4))
def c5S6(_:Unit):Cmd:=(.seq (.ops [
 ⟨some 81,.move (.tmp 10),24,none⟩,
 ⟨some 82,.call ⟨.value (.func 29),#[(.tmp 81),(.const (.int .i64 16))],#[24,3]⟩,60,none⟩,
 ⟨some 80,.move (.tmp 82),60,none⟩,
 ⟨some 83,.extract (.tmp 80) 0,37,none⟩,
 ⟨some 84,.extract (.tmp 80) 1,30,none⟩,
 ⟨some 11,.assign (.tmp 83),37,none⟩,
 ⟨some 12,.assign (.tmp 84),30,none⟩] [7,8,11,12]) (sg c5S5))
def c5S7(_:Unit):Cmd:=(.seq (.ops [
 ⟨some 77,.call ⟨.value (.func 15),#[(.const (.int .i64 20))],#[3]⟩,25,none⟩,
 ⟨some 76,.move (.tmp 77),25,none⟩,
 ⟨some 78,.extract (.tmp 76) 0,23,none⟩,
 ⟨some 79,.extract (.tmp 76) 1,24,none⟩,
 ⟨some 9,.assign (.tmp 78),23,none⟩,
 ⟨some 10,.assign (.tmp 79),24,none⟩] [7,8,10]) (sg c5S6))
def c5S8(_:Unit):Cmd:=(.seq (.ops [
 ⟨some 73,.call ⟨.value (.func 29),#[(.const (.pointer none)),(.const (.int .i64 0))],#[24,3]⟩,60,none⟩,
 ⟨some 72,.move (.tmp 73),60,none⟩,
 ⟨some 74,.extract (.tmp 72) 0,37,none⟩,
 ⟨some 75,.extract (.tmp 72) 1,30,none⟩,
 ⟨some 7,.assign (.tmp 74),37,none⟩,
 ⟨some 8,.assign (.tmp 75),30,none⟩] [7,8]) (sg c5S7))
def c5:Cmd:=(.seq (.ops [
 ⟨some 1,.box 40 (.tmp 0),0,none⟩,
 ⟨some 2,.assign (.const (.bool false)),4,none⟩] [1])
 (.seq (.seq (.ops [
 ⟨some 13,.build 56 #[],56,none⟩,
 ⟨some 14,.box 56 (.tmp 13),37,none⟩,
 ⟨some 15,.buildSlice 57 2 #[(0,(.const (.pointer none))),(1,(.tmp 14))],57,none⟩,
 ⟨some 16,.call ⟨.builtin .len,#[(.tmp 15)],#[57]⟩,3,none⟩,
 ⟨some 17,.move (.const (.int .i64 0)),3,none⟩] [1,15,16,17])
 (.block 0 (.loop (sg c5L0)))) (sg c5S8)))
attribute [go_sem] c5 c5S2 c5S3 c5S4 c5S5 c5S6 c5S7
theorem ent5(a0:Value)(w:World)(K:Value→World→Prop)(h:W Tryz.prog c5 [(0,a0)] w (finQ Tryz.prog [.tmp 2] K)):Ret Tryz.prog 5 [a0] w K :=
 Ret_of_W (code:=c5code) Tryz.func5 (by kernel_rfl) (by kernel_rfl) (of_decide_eq_true (by kernel_rfl)) h
@[go_sem] theorem go5:goFunc Tryz.prog 5=true:=by kernel_rfl
def c15code:Code:=match Tryz.f15.body with | some c=>c | none=>.skip
def c15S0(_:Unit):Cmd:=(.cond (.tmp 21)
 (.seq (.ops [
 ⟨some 2,.assign (.const (.pointer none)),23,none⟩,
 ⟨some 3,.assign (.const (.pointer none)),24,none⟩] [2,3])
 .ret)
 (.skip [4]))
def c15S1(_:Unit):Cmd:=(.cond (.tmp 41)
 (.seq (.ops [
 ⟨some 2,.assign (.const (.pointer none)),23,none⟩,
 ⟨some 3,.assign (.const (.pointer none)),24,none⟩] [2,3])
 .ret)
 (.skip [4,7]))
def c15S2(_:Unit):Cmd:=(.seq (.ops [
 ⟨some 42,.move (.tmp 4),23,none⟩,
 ⟨some 43,.move (.tmp 7),24,none⟩,
 ⟨some 2,.assign (.tmp 42),23,none⟩,
 ⟨some 3,.assign (.tmp 43),24,none⟩] [2,3])
 .ret)
def c15S3(_:Unit):Cmd:=(.seq (.seq (.ops [
 ⟨some 34,.move (.tmp 5),30,none⟩,
 ⟨some 35,.binOp .neq 30 (.tmp 34) (.const (.int .i64 0)) 30,4,none⟩,
 ⟨some 36,.move (.tmp 35),4,none⟩,
 ⟨some 37,.move (.tmp 7),24,(some (36,false))⟩,
 ⟨some 38,.call ⟨.value (.func 44),#[(.tmp 37)],#[24]⟩,30,(some (36,false))⟩,
 ⟨some 39,.move (.tmp 5),30,(some (36,false))⟩,
 ⟨some 40,.binOp .neq 30 (.tmp 38) (.tmp 39) 30,4,(some (36,false))⟩,
 ⟨some 41,.pick (.tmp 36) (.const (.bool true)) (.tmp 40),4,none⟩] [4,7,41]) (sg c15S1)) (sg c15S2))
def c15S4(_:Unit):Cmd:=(.seq (.ops [
 ⟨some 30,.move (.tmp 6),88,none⟩,
 ⟨some 31,.call ⟨.value (.func 43),#[(.tmp 30)],#[88]⟩,91,none⟩,
 ⟨some 29,.move (.tmp 31),91,none⟩,
 ⟨some 32,.extract (.tmp 29) 0,24,none⟩,
 ⟨some 33,.extract (.tmp 29) 1,30,none⟩,
 ⟨some 7,.assign (.tmp 32),24,none⟩,
 ⟨some 5,.assign (.tmp 33),30,none⟩] [4,5,7]) (sg c15S3))
def c15S5(_:Unit):Cmd:=(.seq (.seq (.ops [
 ⟨some 27,.move (.tmp 5),30,none⟩,
 ⟨some 28,.binOp .neq 30 (.tmp 27) (.const (.int .i64 0)) 30,4,none⟩] [4,6,28])
 (.cond (.tmp 28)
 (.seq (.ops [
 ⟨some 2,.assign (.const (.pointer none)),23,none⟩,
 ⟨some 3,.assign (.const (.pointer none)),24,none⟩] [2,3])
 .ret)
 (.skip [4,6]))) (sg c15S4))
def c15S6(_:Unit):Cmd:=(.seq (.ops [
 ⟨some 23,.move (.tmp 4),23,none⟩,
 ⟨some 24,.call ⟨.value (.func 42),#[(.tmp 23)],#[23]⟩,89,none⟩,
 ⟨some 22,.move (.tmp 24),89,none⟩,
 ⟨some 25,.extract (.tmp 22) 0,88,none⟩,
 ⟨some 26,.extract (.tmp 22) 1,30,none⟩,
 ⟨some 6,.assign (.tmp 25),88,none⟩,
 ⟨some 5,.assign (.tmp 26),30,none⟩] [4,5,6]) (sg c15S5))
def c15S7(_:Unit):Cmd:=(.seq (.seq (.ops [
 ⟨some 14,.move (.tmp 5),30,none⟩,
 ⟨some 15,.binOp .neq 30 (.tmp 14) (.const (.int .i64 0)) 30,4,none⟩,
 ⟨some 16,.move (.tmp 15),4,none⟩,
 ⟨some 17,.move (.tmp 4),23,(some (16,false))⟩,
 ⟨some 18,.call ⟨.value (.func 41),#[(.tmp 17),(.const (.int .i64 460))],#[23,3]⟩,30,(some (16,false))⟩,
 ⟨some 19,.move (.tmp 5),30,(some (16,false))⟩,
 ⟨some 20,.binOp .neq 30 (.tmp 18) (.tmp 19) 30,4,(some (16,false))⟩,
 ⟨some 21,.pick (.tmp 16) (.const (.bool true)) (.tmp 20),4,none⟩] [4,21]) (sg c15S0)) (sg c15S6))
def c15:Cmd:=(.seq (.ops [
 ⟨some 2,.assign (.const (.pointer none)),23,none⟩,
 ⟨some 3,.assign (.const (.pointer none)),24,none⟩] [0])
 (.seq (.ops [
 ⟨some 9,.move (.tmp 0),3,none⟩,
 ⟨some 10,.binOp .add 3 (.tmp 9) (.const (.int .i64 462)) 3,3,none⟩,
 ⟨some 11,.call ⟨.value (.func 40),#[(.tmp 10)],#[3]⟩,85,none⟩,
 ⟨some 8,.move (.tmp 11),85,none⟩,
 ⟨some 12,.extract (.tmp 8) 0,23,none⟩,
 ⟨some 13,.extract (.tmp 8) 1,30,none⟩,
 ⟨some 4,.assign (.tmp 12),23,none⟩,
 ⟨some 5,.assign (.tmp 13),30,none⟩] [4,5]) (sg c15S7)))
attribute [go_sem] c15 c15S0 c15S1 c15S2 c15S3 c15S4 c15S5 c15S6 c15S7
theorem ent15(a0:Value)(w:World)(K:Value→World→Prop)(h:W Tryz.prog c15 [(0,a0)] w (finQ Tryz.prog [.tmp 2,.tmp 3] K)):Ret Tryz.prog 15 [a0] w K :=
 Ret_of_W (code:=c15code) Tryz.func15 (by kernel_rfl) (by kernel_rfl) (of_decide_eq_true (by kernel_rfl)) h
@[go_sem] theorem go15:goFunc Tryz.prog 15=true:=by kernel_rfl
def c16code:Code:=match Tryz.f16.body with | some c=>c | none=>.skip
def c16S0(_:Unit):Cmd:=(.seq (.ops [
 ⟨some 15,.move (.tmp 5),37,none⟩,
 ⟨some 4,.assign (.tmp 15),37,none⟩] [4])
 .ret)
def c16S1(_:Unit):Cmd:=(.seq (.seq (.ops [
 ⟨some 13,.move (.tmp 6),30,none⟩,
 ⟨some 14,.binOp .neq 30 (.tmp 13) (.const (.int .i64 0)) 30,4,none⟩] [5,14])
 (.cond (.tmp 14)
 (.seq (.ops [
 ⟨some 4,.assign (.const (.pointer none)),37,none⟩] [4])
 .ret)
 (.skip [5]))) (sg c16S0))
def c16:Cmd:=(.seq (.ops [
 ⟨some 4,.assign (.const (.pointer none)),37,none⟩] [0,1])
 (.seq (.ops [
 ⟨some 8,.move (.tmp 0),24,none⟩,
 ⟨some 9,.move (.tmp 1),3,none⟩,
 ⟨some 10,.call ⟨.value (.func 29),#[(.tmp 8),(.tmp 9)],#[24,3]⟩,60,none⟩,
 ⟨some 7,.move (.tmp 10),60,none⟩,
 ⟨some 11,.extract (.tmp 7) 0,37,none⟩,
 ⟨some 12,.extract (.tmp 7) 1,30,none⟩,
 ⟨some 5,.assign (.tmp 11),37,none⟩,
 ⟨some 6,.assign (.tmp 12),30,none⟩] [5,6]) (sg c16S1)))
attribute [go_sem] c16 c16S0 c16S1
theorem ent16(a0 a1:Value)(w:World)(K:Value→World→Prop)(h:W Tryz.prog c16 [(0,a0),(1,a1)] w (finQ Tryz.prog [.tmp 4] K)):Ret Tryz.prog 16 [a0,a1] w K :=
 Ret_of_W (code:=c16code) Tryz.func16 (by kernel_rfl) (by kernel_rfl) (of_decide_eq_true (by kernel_rfl)) h
@[go_sem] theorem go16:goFunc Tryz.prog 16=true:=by kernel_rfl
def c24code:Code:=match Tryz.f24.body with | some c=>c | none=>.skip
def c24S0(_:Unit):Cmd:=(.cond (.tmp 26)
 (.seq (.ops [
 ⟨some 0,.assign (.const (.bool false)),4,none⟩] [0])
 .ret)
 (.skip [3]))
def c24S1(_:Unit):Cmd:=.ret
def c24S2(_:Unit):Cmd:=(.seq (.ops [
 ⟨some 27,.move (.tmp 3),37,none⟩,
 ⟨some 28,.call ⟨.value (.func 28),#[(.tmp 27)],#[37]⟩,46,none⟩,
 ⟨some 29,.build 53 #[(0,(.const (.string (ofL [97])))),(1,(.const (.string (ofL [50]))))],53,none⟩,
 ⟨some 30,.build 53 #[(0,(.const (.string (ofL [98])))),(1,(.const (.string (ofL [51]))))],53,none⟩,
 ⟨some 31,.buildSlice 46 2 #[(0,(.tmp 29)),(1,(.tmp 30))],46,none⟩,
 ⟨some 32,.call ⟨.value (.func 74),#[(.tmp 28),(.tmp 31)],#[46,46]⟩,4,none⟩,
 ⟨some 33,.move (.tmp 32),4,none⟩,
 ⟨some 34,.move (.tmp 3),37,(some (33,true))⟩,
 ⟨some 35,.call ⟨.value (.func 21),#[(.tmp 34),(.const (.string (ofL [97,97]))),(.const (.int .i64 9))],#[37,9,3]⟩,46,(some (33,true))⟩,
 ⟨some 36,.build 53 #[(0,(.const (.string (ofL [98])))),(1,(.const (.string (ofL [51]))))],53,(some (33,true))⟩,
 ⟨some 37,.buildSlice 46 1 #[(0,(.tmp 36))],46,(some (33,true))⟩,
 ⟨some 38,.call ⟨.value (.func 74),#[(.tmp 35),(.tmp 37)],#[46,46]⟩,4,(some (33,true))⟩,
 ⟨some 39,.pick (.tmp 33) (.tmp 38) (.const (.bool false)),4,none⟩,
 ⟨some 40,.move (.tmp 39),4,none⟩,
 ⟨some 41,.move (.tmp 3),37,(some (40,true))⟩,
 ⟨some 42,.call ⟨.value (.func 27),#[(.tmp 41)],#[37]⟩,3,(some (40,true))⟩,
 ⟨some 43,.binOp .eql 3 (.tmp 42) (.const (.int .i64 2)) 3,4,(some (40,true))⟩,
 ⟨some 44,.pick (.tmp 40) (.tmp 43) (.const (.bool false)),4,none⟩,
 ⟨some 0,.assign (.tmp 44),4,none⟩] [0]) (sg c24S1))
def c24S3(_:Unit):Cmd:=(.seq (.seq (.ops [
 ⟨some 10,.move (.tmp 3),37,none⟩,
 ⟨some 11,.binOp .eql 37 (.tmp 10) (.const (.pointer none)) 37,4,none⟩,
 ⟨some 12,.move (.tmp 11),4,none⟩,
 ⟨some 13,.move (.tmp 3),37,(some (12,false))⟩,
 ⟨some 14,.call ⟨.value (.func 18),#[(.tmp 13),(.const (.string (ofL [98]))),(.const (.string (ofL [49])))],#[37,9,9]⟩,30,(some (12,false))⟩,
 ⟨some 15,.binOp .neq 30 (.tmp 14) (.const (.int .i64 0)) 30,4,(some (12,false))⟩,
 ⟨some 16,.pick (.tmp 12) (.const (.bool true)) (.tmp 15),4,none⟩,
 ⟨some 17,.move (.tmp 16),4,none⟩,
 ⟨some 18,.move (.tmp 3),37,(some (17,false))⟩,
 ⟨some 19,.call ⟨.value (.func 18),#[(.tmp 18),(.const (.string (ofL [97]))),(.const (.string (ofL [50])))],#[37,9,9]⟩,30,(some (17,false))⟩,
 ⟨some 20,.binOp .neq 30 (.tmp 19) (.const (.int .i64 0)) 30,4,(some (17,false))⟩,
 ⟨some 21,.pick (.tmp 17) (.const (.bool true)) (.tmp 20),4,none⟩,
 ⟨some 22,.move (.tmp 21),4,none⟩,
 ⟨some 23,.move (.tmp 3),37,(some (22,false))⟩,
 ⟨some 24,.call ⟨.value (.func 18),#[(.tmp 23),(.const (.string (ofL [98]))),(.const (.string (ofL [51])))],#[37,9,9]⟩,30,(some (22,false))⟩,
 ⟨some 25,.binOp .neq 30 (.tmp 24) (.const (.int .i64 0)) 30,4,(some (22,false))⟩,
 ⟨some 26,.pick (.tmp 22) (.const (.bool true)) (.tmp 25),4,none⟩] [3,26]) (sg c24S0)) (sg c24S2))
def c24S4(_:Unit):Cmd:=(.seq (.ops [
 ⟨some 8,.move (.tmp 2),24,none⟩,
 ⟨some 9,.call ⟨.value (.func 16),#[(.tmp 8),(.const (.int .i64 0))],#[24,3]⟩,37,none⟩,
 ⟨some 3,.assign (.tmp 9),37,none⟩] [3]) (sg c24S3))
def c24:Cmd:=(.seq (.ops [
 ⟨some 0,.assign (.const (.bool false)),4,none⟩] [])
 (.seq (.ops [
 ⟨some 5,.call ⟨.value (.func 15),#[(.const (.int .i64 40))],#[3]⟩,25,none⟩,
 ⟨some 4,.move (.tmp 5),25,none⟩,
 ⟨some 6,.extract (.tmp 4) 0,23,none⟩,
 ⟨some 7,.extract (.tmp 4) 1,24,none⟩,
 ⟨some 1,.assign (.tmp 6),23,none⟩,
 ⟨some 2,.assign (.tmp 7),24,none⟩] [2]) (sg c24S4)))
attribute [go_sem] c24 c24S0 c24S1 c24S2 c24S3 c24S4
theorem ent24(w:World)(K:Value→World→Prop)(h:W Tryz.prog c24 [] w (finQ Tryz.prog [.tmp 0] K)):Ret Tryz.prog 24 [] w K :=
 Ret_of_W (code:=c24code) Tryz.func24 (by kernel_rfl) (by kernel_rfl) (of_decide_eq_true (by kernel_rfl)) h
@[go_sem] theorem go24:goFunc Tryz.prog 24=true:=by kernel_rfl
def c21code:Code:=match Tryz.f21.body with | some c=>c | none=>.skip
def c21S0(_:Unit):Cmd:=(.seq (.ops [
 ⟨some 19,.load 46 (.tmp 7),46,none⟩,
 ⟨some 6,.assign (.tmp 19),46,none⟩] [6])
 .ret)
def c21S1(_:Unit):Cmd:=(.seq (.ops [
 ⟨some 16,.move (.tmp 8),129,none⟩,
 ⟨some 17,.makeFunc (.func 73) #[] #[(.tmp 7),(.tmp 5)],131,none⟩,
 ⟨some 18,.call ⟨.value (.tmp 16),#[(.tmp 17)],#[131]⟩,0,none⟩] [7]) (sg c21S0))
def c21S2(_:Unit):Cmd:=(.seq (.seq (.ops [
 ⟨some 14,.move (.tmp 8),129,none⟩,
 ⟨some 15,.binOp .eql 129 (.tmp 14) (.const .nilFunc) 129,4,none⟩] [5,7,8,15])
 (.cond (.tmp 15)
 (.seq (.ops [
 ⟨some 6,.assign (.const (.slice none 0 0)),46,none⟩] [6])
 .ret)
 (.skip [5,7,8]))) (sg c21S1))
def c21S3(_:Unit):Cmd:=(.seq (.ops [
 ⟨some 11,.move (.tmp 0),37,none⟩,
 ⟨some 12,.move (.tmp 1),9,none⟩,
 ⟨some 13,.call ⟨.value (.func 72),#[(.tmp 11),(.tmp 12)],#[37,9]⟩,129,none⟩,
 ⟨some 8,.assign (.tmp 13),129,none⟩] [5,7,8]) (sg c21S2))
def c21:Cmd:=(.seq (.ops [
 ⟨some 5,.box 3 (.tmp 2),0,none⟩,
 ⟨some 6,.assign (.const (.slice none 0 0)),46,none⟩] [0,1,5])
 (.seq (.ops [
 ⟨some 7,.alloc 46,0,none⟩] [0,1,5,7])
 (.seq (.seq (.ops [
 ⟨some 9,.load 3 (.tmp 5),3,none⟩,
 ⟨some 10,.binOp .leq 3 (.tmp 9) (.const (.int .i64 0)) 3,4,none⟩] [0,1,5,7,10])
 (.cond (.tmp 10)
 (.seq (.ops [
 ⟨some 6,.assign (.const (.slice none 0 0)),46,none⟩] [6])
 .ret)
 (.skip [0,1,5,7]))) (sg c21S3))))
attribute [go_sem] c21 c21S0 c21S1 c21S2 c21S3
theorem ent21(a0 a1 a2:Value)(w:World)(K:Value→World→Prop)(h:W Tryz.prog c21 [(0,a0),(1,a1),(2,a2)] w (finQ Tryz.prog [.tmp 6] K)):Ret Tryz.prog 21 [a0,a1,a2] w K :=
 Ret_of_W (code:=c21code) Tryz.func21 (by kernel_rfl) (by kernel_rfl) (of_decide_eq_true (by kernel_rfl)) h
@[go_sem] theorem go21:goFunc Tryz.prog 21=true:=by kernel_rfl
def c73code:Code:=match Tryz.f73.body with | some c=>c | none=>.skip
def c73S0(_:Unit):Cmd:=(.seq (.ops [
 ⟨some 13,.load 46 (.tmp 2),46,none⟩,
 ⟨some 14,.call ⟨.builtin .len,#[(.tmp 13)],#[46]⟩,3,none⟩,
 ⟨some 15,.load 3 (.tmp 3),3,none⟩,
 ⟨some 16,.binOp .lss 3 (.tmp 14) (.tmp 15) 3,4,none⟩,
 ⟨some 6,.assign (.tmp 16),4,none⟩] [6])
 .ret)
def c73:Cmd:=(.seq (.ops [
 ⟨some 6,.assign (.const (.bool false)),4,none⟩] [0,1,2,3])
 (.seq (.ops [
 ⟨some 7,.load 46 (.tmp 2),46,none⟩,
 ⟨some 8,.move (.tmp 0),9,none⟩,
 ⟨some 9,.move (.tmp 1),9,none⟩,
 ⟨some 10,.build 53 #[(0,(.tmp 8)),(1,(.tmp 9))],53,none⟩,
 ⟨some 11,.buildSlice 46 1 #[(0,(.tmp 10))],46,none⟩,
 ⟨some 12,.call ⟨.builtin .append,#[(.tmp 7),(.tmp 11)],#[46,46]⟩,46,none⟩,
 ⟨none,.store 46 (.tmp 2) (.tmp 12),0,none⟩] [2,3]) (sg c73S0)))
attribute [go_sem] c73 c73S0
theorem ent73(a0 a1 a2 a3:Value)(w:World)(K:Value→World→Prop)(h:W Tryz.prog c73 [(0,a0),(1,a1),(2,a2),(3,a3)] w (finQ Tryz.prog [.tmp 6] K)):Ret Tryz.prog 73 [a0,a1,a2,a3] w K :=
 Ret_of_W (code:=c73code) Tryz.func73 (by kernel_rfl) (by kernel_rfl) (of_decide_eq_true (by kernel_rfl)) h
@[go_sem] theorem go73:goFunc Tryz.prog 73=true:=by kernel_rfl
def c28code:Code:=match Tryz.f28.body with | some c=>c | none=>.skip
def c28S0(_:Unit):Cmd:=(.seq (.ops [
 ⟨some 12,.load 46 (.tmp 3),46,none⟩,
 ⟨some 2,.assign (.tmp 12),46,none⟩] [2])
 .ret)
def c28S1(_:Unit):Cmd:=(.seq (.ops [
 ⟨some 9,.move (.tmp 4),129,none⟩,
 ⟨some 10,.makeFunc (.func 83) #[] #[(.tmp 3)],131,none⟩,
 ⟨some 11,.call ⟨.value (.tmp 9),#[(.tmp 10)],#[131]⟩,0,none⟩] [3]) (sg c28S0))
def c28S2(_:Unit):Cmd:=(.seq (.seq (.ops [
 ⟨some 7,.move (.tmp 4),129,none⟩,
 ⟨some 8,.binOp .eql 129 (.tmp 7) (.const .nilFunc) 129,4,none⟩] [3,4,8])
 (.cond (.tmp 8)
 (.seq (.ops [
 ⟨some 2,.assign (.const (.slice none 0 0)),46,none⟩] [2])
 .ret)
 (.skip [3,4]))) (sg c28S1))
def c28:Cmd:=(.seq (.ops [
 ⟨some 2,.assign (.const (.slice none 0 0)),46,none⟩] [0])
 (.seq (.ops [
 ⟨some 3,.alloc 46,0,none⟩] [0,3])
 (.seq (.ops [
 ⟨some 5,.move (.tmp 0),37,none⟩,
 ⟨some 6,.call ⟨.value (.func 82),#[(.tmp 5)],#[37]⟩,129,none⟩,
 ⟨some 4,.assign (.tmp 6),129,none⟩] [3,4]) (sg c28S2))))
attribute [go_sem] c28 c28S0 c28S1 c28S2
theorem ent28(a0:Value)(w:World)(K:Value→World→Prop)(h:W Tryz.prog c28 [(0,a0)] w (finQ Tryz.prog [.tmp 2] K)):Ret Tryz.prog 28 [a0] w K :=
 Ret_of_W (code:=c28code) Tryz.func28 (by kernel_rfl) (by kernel_rfl) (of_decide_eq_true (by kernel_rfl)) h
@[go_sem] theorem go28:goFunc Tryz.prog 28=true:=by kernel_rfl
def c83code:Code:=match Tryz.f83.body with | some c=>c | none=>.skip
def c83S0(_:Unit):Cmd:=(.seq (.ops [
 ⟨some 12,.load 46 (.tmp 2),46,none⟩,
 ⟨some 13,.call ⟨.builtin .len,#[(.tmp 12)],#[46]⟩,3,none⟩,
 ⟨some 14,.binOp .lss 3 (.tmp 13) (.const (.int .i64 5000)) 3,4,none⟩,
 ⟨some 5,.assign (.tmp 14),4,none⟩] [5])
 .ret)
def c83:Cmd:=(.seq (.ops [
 ⟨some 5,.assign (.const (.bool false)),4,none⟩] [0,1,2])
 (.seq (.ops [
 ⟨some 6,.load 46 (.tmp 2),46,none⟩,
 ⟨some 7,.move (.tmp 0),9,none⟩,
 ⟨some 8,.move (.tmp 1),9,none⟩,
 ⟨some 9,.build 53 #[(0,(.tmp 7)),(1,(.tmp 8))],53,none⟩,
 ⟨some 10,.buildSlice 46 1 #[(0,(.tmp 9))],46,none⟩,
 ⟨some 11,.call ⟨.builtin .append,#[(.tmp 6),(.tmp 10)],#[46,46]⟩,46,none⟩,
 ⟨none,.store 46 (.tmp 2) (.tmp 11),0,none⟩] [2]) (sg c83S0)))
attribute [go_sem] c83 c83S0
theorem ent83(a0 a1 a2:Value)(w:World)(K:Value→World→Prop)(h:W Tryz.prog c83 [(0,a0),(1,a1),(2,a2)] w (finQ Tryz.prog [.tmp 5] K)):Ret Tryz.prog 83 [a0,a1,a2] w K :=
 Ret_of_W (code:=c83code) Tryz.func83 (by kernel_rfl) (by kernel_rfl) (of_decide_eq_true (by kernel_rfl)) h
@[go_sem] theorem go83:goFunc Tryz.prog 83=true:=by kernel_rfl
def c18code:Code:=match Tryz.f18.body with | some c=>c | none=>.skip
def c18S0(_:Unit):Cmd:=(.seq (.ops [
 ⟨some 45,.move (.tmp 8),30,none⟩,
 ⟨some 46,.binOp .neq 30 (.tmp 45) (.const (.int .i64 0)) 30,4,none⟩] [0,1,2,7,8,46])
 (.cond (.tmp 46)
 (.seq (.ops [
 ⟨some 47,.move (.tmp 8),30,none⟩,
 ⟨some 6,.assign (.tmp 47),30,none⟩] [6])
 .ret)
 (.skip [0,1,2,7])))
def c18S1(_:Unit):Cmd:=(.seq (.ops [
 ⟨some 56,.move (.tmp 8),30,none⟩,
 ⟨some 57,.binOp .neq 30 (.tmp 56) (.const (.int .i64 0)) 30,4,none⟩] [0,7,8,57])
 (.cond (.tmp 57)
 (.seq (.ops [
 ⟨some 58,.move (.tmp 8),30,none⟩,
 ⟨some 6,.assign (.tmp 58),30,none⟩] [6])
 .ret)
 (.skip [0,7])))
def c18S2(_:Unit):Cmd:=.ret
def c18S3(_:Unit):Cmd:=(.seq (.draw (drawOps 0 c18code) [6]) (sg c18S2))
def c18S4(_:Unit):Cmd:=(.seq (.seq (.ops [
 ⟨some 48,.move (.tmp 0),37,none⟩,
 ⟨some 49,.move (.tmp 7),3,none⟩,
 ⟨some 50,.move (.tmp 1),9,none⟩,
 ⟨some 51,.buildSlice 22 1 #[(0,(.tmp 50))],22,none⟩,
 ⟨some 52,.move (.tmp 2),9,none⟩,
 ⟨some 53,.buildSlice 22 1 #[(0,(.tmp 52))],22,none⟩,
 ⟨some 54,.build 119 #[(0,(.const (.bool true))),(1,(.tmp 51)),(2,(.tmp 53))],119,none⟩,
 ⟨some 55,.call ⟨.value (.func 65),#[(.tmp 48),(.tmp 49),(.tmp 54)],#[37,3,119]⟩,30,none⟩,
 ⟨some 8,.assign (.tmp 55),30,none⟩] [0,7,8]) (sg c18S1)) (sg c18S3))
def c18S5(_:Unit):Cmd:=(.seq (.ops [
 ⟨some 72,.move (.tmp 9),30,none⟩,
 ⟨some 73,.binOp .neq 30 (.tmp 72) (.const (.int .i64 0)) 30,4,none⟩] [0,1,2,7,9,73])
 (.cond (.tmp 73)
 (.seq (.ops [
 ⟨some 74,.move (.tmp 9),30,none⟩,
 ⟨some 6,.assign (.tmp 74),30,none⟩] [6])
 .ret)
 (.skip [0,1,2,7])))
def c18S6(_:Unit):Cmd:=(.seq (.ops [
 ⟨some 111,.move (.tmp 13),30,none⟩,
 ⟨some 112,.binOp .neq 30 (.tmp 111) (.const (.int .i64 0)) 30,4,none⟩] [0,12,13,112])
 (.cond (.tmp 112)
 (.seq (.ops [
 ⟨some 113,.move (.tmp 13),30,none⟩,
 ⟨some 6,.assign (.tmp 113),30,none⟩] [6])
 .ret)
 (.skip [0,12])))
def c18S7(_:Unit):Cmd:=.ret
def c18S8(_:Unit):Cmd:=(.seq (.draw (drawOps 1 c18code) [6]) (sg c18S7))
def c18S9(_:Unit):Cmd:=(.seq (.seq (.ops [
 ⟨some 102,.move (.tmp 0),37,none⟩,
 ⟨some 103,.move (.tmp 12),3,none⟩,
 ⟨some 104,.move (.tmp 10),9,none⟩,
 ⟨some 105,.buildSlice 22 1 #[(0,(.tmp 104))],22,none⟩,
 ⟨some 106,.move (.tmp 7),3,none⟩,
 ⟨some 107,.move (.tmp 11),3,none⟩,
 ⟨some 108,.buildSlice 48 2 #[(0,(.tmp 106)),(1,(.tmp 107))],48,none⟩,
 ⟨some 109,.build 119 #[(1,(.tmp 105)),(3,(.tmp 108))],119,none⟩,
 ⟨some 110,.call ⟨.value (.func 65),#[(.tmp 102),(.tmp 103),(.tmp 109)],#[37,3,119]⟩,30,none⟩,
 ⟨some 13,.assign (.tmp 110),30,none⟩] [0,12,13]) (sg c18S6)) (sg c18S8))
def c18S10(_:Unit):Cmd:=(.seq (.seq (.ops [
 ⟨some 99,.move (.tmp 8),30,none⟩,
 ⟨some 100,.binOp .neq 30 (.tmp 99) (.const (.int .i64 0)) 30,4,none⟩] [0,7,8,10,11,12,100])
 (.cond (.tmp 100)
 (.seq (.ops [
 ⟨some 101,.move (.tmp 8),30,none⟩,
 ⟨some 6,.assign (.tmp 101),30,none⟩] [6])
 .ret)
 (.skip [0,7,10,11,12]))) (sg c18S9))
def c18S11(_:Unit):Cmd:=(.seq (.ops [
 ⟨some 92,.move (.tmp 0),37,none⟩,
 ⟨some 93,.nilCheck (.tmp 92),0,none⟩,
 ⟨some 94,.fieldAddr 56 (.tmp 93) 0,0,none⟩,
 ⟨some 95,.load 24 (.tmp 94),24,none⟩,
 ⟨some 96,.call ⟨.value (.func 64),#[(.tmp 95)],#[24]⟩,31,none⟩,
 ⟨some 91,.move (.tmp 96),31,none⟩,
 ⟨some 97,.extract (.tmp 91) 0,3,none⟩,
 ⟨some 98,.extract (.tmp 91) 1,30,none⟩,
 ⟨some 12,.assign (.tmp 97),3,none⟩,
 ⟨some 8,.assign (.tmp 98),30,none⟩] [0,7,8,10,11,12]) (sg c18S10))
def c18S12(_:Unit):Cmd:=(.seq (.seq (.ops [
 ⟨some 84,.move (.tmp 8),30,none⟩,
 ⟨some 85,.binOp .neq 30 (.tmp 84) (.const (.int .i64 0)) 30,4,none⟩,
 ⟨some 86,.move (.tmp 85),4,none⟩,
 ⟨some 87,.move (.tmp 11),3,(some (86,false))⟩,
 ⟨some 88,.binOp .eql 3 (.tmp 87) (.const (.int .i64 0)) 3,4,(some (86,false))⟩,
 ⟨some 89,.pick (.tmp 86) (.const (.bool true)) (.tmp 88),4,none⟩] [0,7,8,10,11,89])
 (.cond (.tmp 89)
 (.seq (.ops [
 ⟨some 90,.move (.tmp 8),30,none⟩,
 ⟨some 6,.assign (.tmp 90),30,none⟩] [6])
 .ret)
 (.skip [0,7,10,11]))) (sg c18S11))
def c18S13(_:Unit):Cmd:=(.seq (.ops [
 ⟨some 76,.move (.tmp 0),37,none⟩,
 ⟨some 77,.move (.tmp 7),3,none⟩,
 ⟨some 78,.move (.tmp 1),9,none⟩,
 ⟨some 79,.move (.tmp 2),9,none⟩,
 ⟨some 80,.call ⟨.value (.func 68),#[(.tmp 76),(.tmp 77),(.const (.int .i64 32)),(.tmp 78),(.tmp 79)],#[37,3,3,9,9]⟩,121,none⟩,
 ⟨some 75,.move (.tmp 80),121,none⟩,
 ⟨some 81,.extract (.tmp 75) 0,9,none⟩,
 ⟨some 82,.extract (.tmp 75) 1,3,none⟩,
 ⟨some 83,.extract (.tmp 75) 2,30,none⟩,
 ⟨some 10,.assign (.tmp 81),9,none⟩,
 ⟨some 11,.assign (.tmp 82),3,none⟩,
 ⟨some 8,.assign (.tmp 83),30,none⟩] [0,7,8,10,11]) (sg c18S12))
def c18S14(_:Unit):Cmd:=(.seq (.seq (.ops [
 ⟨some 69,.move (.tmp 0),37,none⟩,
 ⟨some 70,.move (.tmp 7),3,none⟩,
 ⟨some 71,.call ⟨.value (.func 67),#[(.tmp 69),(.tmp 70)],#[37,3]⟩,30,none⟩,
 ⟨some 9,.assign (.tmp 71),30,none⟩] [0,1,2,7,9]) (sg c18S5)) (sg c18S13))
def c18S15(_:Unit):Cmd:=(.seq (.seq (.ops [
 ⟨some 35,.move (.tmp 7),3,none⟩,
 ⟨some 36,.binOp .eql 3 (.tmp 35) (.const (.int .i64 0)) 3,4,none⟩] [0,1,2,7,36])
 (.cond (.tmp 36)
 (.seq (.seq (.ops [
 ⟨some 38,.move (.tmp 0),37,none⟩,
 ⟨some 39,.nilCheck (.tmp 38),0,none⟩,
 ⟨some 40,.fieldAddr 56 (.tmp 39) 0,0,none⟩,
 ⟨some 41,.load 24 (.tmp 40),24,none⟩,
 ⟨some 42,.call ⟨.value (.func 64),#[(.tmp 41)],#[24]⟩,31,none⟩,
 ⟨some 37,.move (.tmp 42),31,none⟩,
 ⟨some 43,.extract (.tmp 37) 0,3,none⟩,
 ⟨some 44,.extract (.tmp 37) 1,30,none⟩,
 ⟨some 7,.assign (.tmp 43),3,none⟩,
 ⟨some 8,.assign (.tmp 44),30,none⟩] [0,1,2,7,8]) (sg c18S0)) (sg c18S4))
 (.skip [0,1,2,7]))) (sg c18S14))
def c18S16(_:Unit):Cmd:=(.seq (.block 0 (.seq (.ops [
 ⟨some 20,.move (.tmp 8),30,none⟩,
 ⟨some 21,.binOp .neq 30 (.tmp 20) (.const (.int .i64 0)) 30,4,none⟩,
 ⟨some 19,.assign (.tmp 21),4,none⟩] [0,1,2,7,8,19])
 (.cond (.tmp 19)
 (.seq (.ops [
 ⟨some 22,.move (.tmp 8),30,none⟩,
 ⟨some 6,.assign (.tmp 22),30,none⟩] [6])
 .ret)
 (.seq (.ops [
 ⟨some 24,.move (.tmp 1),9,none⟩,
 ⟨some 25,.binOp .eql 9 (.tmp 24) (.const (.string (ofL []))) 9,4,none⟩,
 ⟨some 26,.move (.tmp 25),4,none⟩,
 ⟨some 27,.move (.tmp 1),9,(some (26,false))⟩,
 ⟨some 28,.call ⟨.builtin .len,#[(.tmp 27)],#[9]⟩,3,(some (26,false))⟩,
 ⟨some 29,.binOp .gtr 3 (.tmp 28) (.const (.int .i64 32)) 3,4,(some (26,false))⟩,
 ⟨some 30,.pick (.tmp 26) (.const (.bool true)) (.tmp 29),4,none⟩,
 ⟨some 23,.assign (.tmp 30),4,none⟩] [0,1,2,7,23])
 (.cond (.tmp 23)
 (.seq (.ops [
 ⟨some 6,.assign (.const (.int .i64 22)),30,none⟩] [6])
 .ret)
 (.seq (.ops [
 ⟨some 32,.move (.tmp 2),9,none⟩,
 ⟨some 33,.call ⟨.builtin .len,#[(.tmp 32)],#[9]⟩,3,none⟩,
 ⟨some 34,.binOp .gtr 3 (.tmp 33) (.const (.int .i64 80)) 3,4,none⟩,
 ⟨some 31,.assign (.tmp 34),4,none⟩] [0,1,2,7,31])
 (.cond (.tmp 31)
 (.seq (.ops [
 ⟨some 6,.assign (.const (.int .i64 21)),30,none⟩] [6])
 .ret)
 (.skip [0,1,2,7])))))))) (sg c18S15))
def c18:Cmd:=(.seq (.ops [
 ⟨some 6,.assign (.const (.int .i64 0)),30,none⟩] [0,1,2])
 (.seq (.ops [
 ⟨some 15,.move (.tmp 0),37,none⟩,
 ⟨some 16,.call ⟨.value (.func 63),#[(.tmp 15)],#[37]⟩,31,none⟩,
 ⟨some 14,.move (.tmp 16),31,none⟩,
 ⟨some 17,.extract (.tmp 14) 0,3,none⟩,
 ⟨some 18,.extract (.tmp 14) 1,30,none⟩,
 ⟨some 7,.assign (.tmp 17),3,none⟩,
 ⟨some 8,.assign (.tmp 18),30,none⟩] [0,1,2,7,8]) (sg c18S16)))
attribute [go_sem] c18 c18S0 c18S1 c18S2 c18S5 c18S6 c18S7 c18S8 c18S9 c18S10 c18S12 c18S16
def c18D0:List (Nat × Ins):=[
 (0,⟨some 59,.move (.tmp 0),37,none⟩),
 (0,⟨some 60,.nilCheck (.tmp 59),0,none⟩),
 (0,⟨some 61,.fieldAddr 56 (.tmp 60) 0,0,none⟩),
 (0,⟨some 63,.move (.tmp 0),37,none⟩),
 (0,⟨some 64,.nilCheck (.tmp 63),0,none⟩),
 (0,⟨some 65,.fieldAddr 56 (.tmp 64) 1,0,none⟩),
 (0,⟨some 67,.move (.tmp 7),3,none⟩),
 (1,⟨some 62,.load 24 (.tmp 61),24,none⟩),
 (2,⟨some 66,.load 3 (.tmp 65),3,none⟩),
 (3,⟨some 68,.call ⟨.value (.func 66),#[(.tmp 62),(.tmp 66),(.tmp 67)],#[24,3,3]⟩,30,none⟩),
 (0,⟨some 6,.assign (.tmp 68),30,none⟩)]
theorem c18draw0{L:List Nat}{ρ:Env}{w:World}{Q:Post}(S:World→Prop)(hS:S w.drew)(h:DG Tryz.prog S c18D0 L ρ w.drew Q):drawW Tryz.prog (drawOps 0 c18code) L ρ w Q :=
 drawW_held [3] [(0,0),(0,1),(0,2),(0,4),(0,5),(0,6),(0,8),(1,3),(2,7),(3,9),(0,10)] c18D0 (by kernel_rfl) (by kernel_rfl) (by kernel_rfl) S hS h
theorem ent18(a0 a1 a2:Value)(w:World)(K:Value→World→Prop)(h:W Tryz.prog c18 [(0,a0),(1,a1),(2,a2)] w (finQ Tryz.prog [.tmp 6] K)):Ret Tryz.prog 18 [a0,a1,a2] w K :=
 Ret_of_W (code:=c18code) Tryz.func18 (by kernel_rfl) (by kernel_rfl) (of_decide_eq_true (by kernel_rfl)) h
@[go_sem] theorem go18:goFunc Tryz.prog 18=true:=by kernel_rfl
def c25code:Code:=match Tryz.f25.body with | some c=>c | none=>.skip
def c25S0(_:Unit):Cmd:=(.exit 1 [0,1,6,26])
def c25S1(_:Unit):Cmd:=(.seq (.ops [
 ⟨some 56,.fieldAddr 119 (.tmp 8) 2,0,none⟩,
 ⟨some 57,.load 22 (.tmp 56),22,none⟩,
 ⟨some 58,.move (.tmp 10),3,none⟩,
 ⟨some 59,.indexAddr 22 (.tmp 57) (.tmp 58),0,none⟩,
 ⟨some 60,.load 9 (.tmp 59),9,none⟩,
 ⟨some 4,.assign (.tmp 60),9,none⟩,
 ⟨some 5,.assign (.const (.int .i64 0)),30,none⟩] [4,5])
 .ret)
def c25S2(_:Unit):Cmd:=(.seq (.seq (.ops [
 ⟨some 54,.move (.tmp 11),4,none⟩,
 ⟨some 55,.unOp .not 4 (.tmp 54),4,none⟩] [8,10,55])
 (.cond (.tmp 55)
 (.seq (.ops [
 ⟨some 4,.assign (.const (.string (ofL []))),9,none⟩,
 ⟨some 5,.assign (.const (.int .i64 6)),30,none⟩] [4,5])
 .ret)
 (.skip [8,10]))) (sg c25S1))
def c25S3(_:Unit):Cmd:=(.seq (.ops [
 ⟨some 48,.fieldAddr 119 (.tmp 8) 1,0,none⟩,
 ⟨some 49,.load 22 (.tmp 48),22,none⟩,
 ⟨some 50,.move (.tmp 1),9,none⟩,
 ⟨some 51,.call ⟨.value (.func 77),#[(.tmp 49),(.tmp 50)],#[22,9]⟩,135,none⟩,
 ⟨some 47,.move (.tmp 51),135,none⟩,
 ⟨some 52,.extract (.tmp 47) 0,3,none⟩,
 ⟨some 53,.extract (.tmp 47) 1,4,none⟩,
 ⟨some 10,.assign (.tmp 52),3,none⟩,
 ⟨some 11,.assign (.tmp 53),4,none⟩] [8,10,11]) (sg c25S2))
def c25S4(_:Unit):Cmd:=(.seq (.seq (.ops [
 ⟨some 37,.fieldAddr 119 (.tmp 8) 0,0,none⟩,
 ⟨some 38,.load 4 (.tmp 37),4,none⟩,
 ⟨some 39,.unOp .not 4 (.tmp 38),4,none⟩] [0,1,8,26,39])
 (.cond (.tmp 39)
 (.seq (.draw (drawOps 0 c25code) [0,1,6,26]) (sg c25S0))
 (.skip [1,8]))) (sg c25S3))
def c25S5(_:Unit):Cmd:=(.seq (.seq (.ops [
 ⟨some 34,.move (.tmp 9),30,none⟩,
 ⟨some 35,.binOp .neq 30 (.tmp 34) (.const (.int .i64 0)) 30,4,none⟩] [0,1,8,9,26,35])
 (.cond (.tmp 35)
 (.seq (.ops [
 ⟨some 36,.move (.tmp 9),30,none⟩,
 ⟨some 4,.assign (.const (.string (ofL []))),9,none⟩,
 ⟨some 5,.assign (.tmp 36),30,none⟩] [4,5])
 .ret)
 (.skip [0,1,8,26]))) (sg c25S4))
def c25S6(_:Unit):Cmd:=(.ops [
 ⟨some 61,.binOp .add 3 (.tmp 26) (.const (.int .i64 1)) 3,3,none⟩,
 ⟨some 26,.move (.tmp 61),3,none⟩] [0,1,6,26])
def c25S7(_:Unit):Cmd:=(.seq (.block 1 (.seq (.ops [
 ⟨some 29,.move (.tmp 0),37,none⟩,
 ⟨some 30,.move (.tmp 6),3,none⟩,
 ⟨some 31,.call ⟨.value (.func 75),#[(.tmp 29),(.tmp 30)],#[37,3]⟩,133,none⟩,
 ⟨some 28,.move (.tmp 31),133,none⟩,
 ⟨some 32,.extract (.tmp 28) 0,119,none⟩,
 ⟨some 33,.extract (.tmp 28) 1,30,none⟩,
 ⟨some 8,.alloc 119,0,none⟩,
 ⟨none,.store 119 (.tmp 8) (.tmp 32),0,none⟩,
 ⟨some 9,.assign (.tmp 33),30,none⟩] [0,1,8,9,26]) (sg c25S5))) (sg c25S6))
def c25L0(_:Unit):Cmd:=(.seq (.ops [
 ⟨some 27,.binOp .lss 3 (.tmp 26) (.const (.int .i64 1024)) 3,4,none⟩] [0,1,6,26,27])
 (.seq (.cond (.tmp 27)
 (.skip [0,1,6,26])
 (.exit 0 [])) (sg c25S7)))
def c25S8(_:Unit):Cmd:=(.seq (.ops [
 ⟨some 4,.assign (.const (.string (ofL []))),9,none⟩,
 ⟨some 5,.assign (.const (.int .i64 14)),30,none⟩] [4,5])
 .ret)
def c25S9(_:Unit):Cmd:=(.seq (.seq (.ops [
 ⟨some 26,.move (.const (.int .i64 0)),3,none⟩] [0,1,6,26])
 (.block 0 (.loop (sg c25L0)))) (sg c25S8))
def c25S10(_:Unit):Cmd:=(.seq (.seq (.ops [
 ⟨some 23,.move (.tmp 7),30,none⟩,
 ⟨some 24,.binOp .neq 30 (.tmp 23) (.const (.int .i64 0)) 30,4,none⟩] [0,1,6,7,24])
 (.cond (.tmp 24)
 (.seq (.ops [
 ⟨some 25,.move (.tmp 7),30,none⟩,
 ⟨some 4,.assign (.const (.string (ofL []))),9,none⟩,
 ⟨some 5,.assign (.tmp 25),30,none⟩] [4,5])
 .ret)
 (.skip [0,1,6]))) (sg c25S9))
def c25S11(_:Unit):Cmd:=(.seq (.seq (.ops [
 ⟨some 17,.move (.tmp 7),30,none⟩,
 ⟨some 18,.binOp .eql 30 (.tmp 17) (.const (.int .i64 0)) 30,4,none⟩,
 ⟨some 19,.move (.tmp 18),4,none⟩,
 ⟨some 20,.move (.tmp 6),3,(some (19,true))⟩,
 ⟨some 21,.binOp .eql 3 (.tmp 20) (.const (.int .i64 0)) 3,4,(some (19,true))⟩,
 ⟨some 22,.pick (.tmp 19) (.tmp 21) (.const (.bool false)),4,none⟩] [0,1,6,7,22])
 (.cond (.tmp 22)
 (.ops [
 ⟨some 7,.assign (.const (.int .i64 6)),30,none⟩] [0,1,6,7])
 (.skip [0,1,6,7]))) (sg c25S10))
def c25:Cmd:=(.seq (.ops [
 ⟨some 4,.assign (.const (.string (ofL []))),9,none⟩,
 ⟨some 5,.assign (.const (.int .i64 0)),30,none⟩] [0,1])
 (.seq (.ops [
 ⟨some 13,.move (.tmp 0),37,none⟩,
 ⟨some 14,.call ⟨.value (.func 63),#[(.tmp 13)],#[37]⟩,31,none⟩,
 ⟨some 12,.move (.tmp 14),31,none⟩,
 ⟨some 15,.extract (.tmp 12) 0,3,none⟩,
 ⟨some 16,.extract (.tmp 12) 1,30,none⟩,
 ⟨some 6,.assign (.tmp 15),3,none⟩,
 ⟨some 7,.assign (.tmp 16),30,none⟩] [0,1,6,7]) (sg c25S11)))
attribute [go_sem] c25 c25S0 c25S1 c25S2 c25S3 c25S4 c25S5 c25S6 c25S7 c25L0 c25S8 c25S9 c25S10 c25S11
theorem ent25(a0 a1:Value)(w:World)(K:Value→World→Prop)(h:W Tryz.prog c25 [(0,a0),(1,a1)] w (finQ Tryz.prog [.tmp 4,.tmp 5] K)):Ret Tryz.prog 25 [a0,a1] w K :=
 Ret_of_W (code:=c25code) Tryz.func25 (by kernel_rfl) (by kernel_rfl) (of_decide_eq_true (by kernel_rfl)) h
@[go_sem] theorem go25:goFunc Tryz.prog 25=true:=by kernel_rfl
def c26code:Code:=match Tryz.f26.body with | some c=>c | none=>.skip
def c26S0(_:Unit):Cmd:=(.seq (.ops [
 ⟨some 20,.move (.tmp 6),30,none⟩,
 ⟨some 21,.binOp .neq 30 (.tmp 20) (.const (.int .i64 0)) 30,4,none⟩] [0,1,6,21])
 (.cond (.tmp 21)
 (.seq (.ops [
 ⟨some 22,.move (.tmp 6),30,none⟩,
 ⟨some 4,.assign (.tmp 22),30,none⟩] [4])
 .ret)
 (.skip [0,1])))
def c26S1(_:Unit):Cmd:=(.seq (.ops [
 ⟨some 35,.move (.tmp 9),30,none⟩,
 ⟨some 36,.binOp .neq 30 (.tmp 35) (.const (.int .i64 0)) 30,4,none⟩] [0,7,9,36])
 (.cond (.tmp 36)
 (.seq (.ops [
 ⟨some 37,.move (.tmp 9),30,none⟩,
 ⟨some 4,.assign (.tmp 37),30,none⟩] [4])
 .ret)
 (.skip [0,7])))
def c26S2(_:Unit):Cmd:=.ret
def c26S3(_:Unit):Cmd:=(.cond (.tmp 39)
 (.seq (.ops [
 ⟨some 40,.move (.tmp 0),37,none⟩,
 ⟨some 41,.call ⟨.value (.func 80),#[(.tmp 40)],#[37]⟩,30,none⟩,
 ⟨some 4,.assign (.tmp 41),30,none⟩] [4]) (sg c26S2))
 (.skip [0,7]))
def c26S4(_:Unit):Cmd:=(.seq (.ops [
 ⟨some 74,.move (.tmp 12),30,none⟩,
 ⟨some 75,.binOp .neq 30 (.tmp 74) (.const (.int .i64 0)) 30,4,none⟩] [0,7,10,12,75])
 (.cond (.tmp 75)
 (.seq (.ops [
 ⟨some 76,.move (.tmp 12),30,none⟩,
 ⟨some 4,.assign (.tmp 76),30,none⟩] [4])
 .ret)
 (.skip [0,7,10])))
def c26S5(_:Unit):Cmd:=(.seq (.ops [
 ⟨some 83,.move (.tmp 13),30,none⟩,
 ⟨some 84,.binOp .neq 30 (.tmp 83) (.const (.int .i64 0)) 30,4,none⟩] [0,10,13,84])
 (.cond (.tmp 84)
 (.seq (.ops [
 ⟨some 85,.move (.tmp 13),30,none⟩,
 ⟨some 4,.assign (.tmp 85),30,none⟩] [4])
 .ret)
 (.skip [0,10])))
def c26S6(_:Unit):Cmd:=(.ops [
 ⟨some 86,.fieldAddr 119 (.tmp 10) 3,0,none⟩,
 ⟨some 87,.load 48 (.tmp 86),48,none⟩,
 ⟨some 88,.indexAddr 48 (.tmp 87) (.const (.int .i64 0)),0,none⟩,
 ⟨some 89,.load 3 (.tmp 88),3,none⟩,
 ⟨some 7,.assign (.tmp 89),3,none⟩] [0,7])
def c26S7(_:Unit):Cmd:=(.seq (.seq (.ops [
 ⟨some 77,.move (.tmp 0),37,none⟩,
 ⟨some 78,.nilCheck (.tmp 77),0,none⟩,
 ⟨some 79,.fieldAddr 56 (.tmp 78) 0,0,none⟩,
 ⟨some 80,.load 24 (.tmp 79),24,none⟩,
 ⟨some 81,.move (.tmp 7),3,none⟩,
 ⟨some 82,.call ⟨.value (.func 81),#[(.tmp 80),(.tmp 81)],#[24,3]⟩,30,none⟩,
 ⟨some 13,.assign (.tmp 82),30,none⟩] [0,10,13]) (sg c26S5)) (sg c26S6))
def c26S8(_:Unit):Cmd:=(.seq (.seq (.draw (drawOps 0 c26code) [0,7,10,12]) (sg c26S4)) (sg c26S7))
def c26S9(_:Unit):Cmd:=(.seq (.seq (.ops [
 ⟨some 48,.move (.tmp 11),30,none⟩,
 ⟨some 49,.binOp .neq 30 (.tmp 48) (.const (.int .i64 0)) 30,4,none⟩,
 ⟨some 50,.move (.tmp 49),4,none⟩,
 ⟨some 51,.fieldAddr 119 (.tmp 10) 0,0,(some (50,false))⟩,
 ⟨some 52,.load 4 (.tmp 51),4,(some (50,false))⟩,
 ⟨some 53,.pick (.tmp 50) (.const (.bool true)) (.tmp 52),4,none⟩,
 ⟨some 54,.move (.tmp 53),4,none⟩,
 ⟨some 55,.fieldAddr 119 (.tmp 10) 3,0,(some (54,false))⟩,
 ⟨some 56,.load 48 (.tmp 55),48,(some (54,false))⟩,
 ⟨some 57,.call ⟨.builtin .len,#[(.tmp 56)],#[48]⟩,3,(some (54,false))⟩,
 ⟨some 58,.binOp .gtr 3 (.tmp 57) (.const (.int .i64 1)) 3,4,(some (54,false))⟩,
 ⟨some 59,.pick (.tmp 54) (.const (.bool true)) (.tmp 58),4,none⟩] [0,7,10,11,59])
 (.cond (.tmp 59)
 (.seq (.ops [
 ⟨some 60,.move (.tmp 11),30,none⟩,
 ⟨some 4,.assign (.tmp 60),30,none⟩] [4])
 .ret)
 (.skip [0,7,10]))) (sg c26S8))
def c26L0(_:Unit):Cmd:=(.block 1 (.seq (.ops [
 ⟨some 43,.move (.tmp 0),37,none⟩,
 ⟨some 44,.move (.tmp 7),3,none⟩,
 ⟨some 45,.call ⟨.value (.func 75),#[(.tmp 43),(.tmp 44)],#[37,3]⟩,133,none⟩,
 ⟨some 42,.move (.tmp 45),133,none⟩,
 ⟨some 46,.extract (.tmp 42) 0,119,none⟩,
 ⟨some 47,.extract (.tmp 42) 1,30,none⟩,
 ⟨some 10,.alloc 119,0,none⟩,
 ⟨none,.store 119 (.tmp 10) (.tmp 46),0,none⟩,
 ⟨some 11,.assign (.tmp 47),30,none⟩] [0,7,10,11]) (sg c26S9)))
def c26S10(_:Unit):Cmd:=(.block 0 (.loop (sg c26L0)))
def c26S11(_:Unit):Cmd:=(.seq (.seq (.ops [
 ⟨some 38,.move (.tmp 0),37,none⟩,
 ⟨some 39,.call ⟨.value (.func 79),#[(.tmp 38)],#[37]⟩,4,none⟩] [0,7,39]) (sg c26S3)) (sg c26S10))
def c26S12(_:Unit):Cmd:=(.seq (.seq (.ops [
 ⟨some 31,.move (.tmp 0),37,none⟩,
 ⟨some 32,.move (.tmp 7),3,none⟩,
 ⟨some 33,.move (.tmp 1),9,none⟩,
 ⟨some 34,.call ⟨.value (.func 78),#[(.tmp 31),(.tmp 32),(.const (.int .i64 32)),(.tmp 33)],#[37,3,3,9]⟩,30,none⟩,
 ⟨some 9,.assign (.tmp 34),30,none⟩] [0,7,9]) (sg c26S1)) (sg c26S11))
def c26S13(_:Unit):Cmd:=(.seq (.seq (.ops [
 ⟨some 28,.move (.tmp 8),30,none⟩,
 ⟨some 29,.binOp .neq 30 (.tmp 28) (.const (.int .i64 0)) 30,4,none⟩] [0,1,7,8,29])
 (.cond (.tmp 29)
 (.seq (.ops [
 ⟨some 30,.move (.tmp 8),30,none⟩,
 ⟨some 4,.assign (.tmp 30),30,none⟩] [4])
 .ret)
 (.skip [0,1,7]))) (sg c26S12))
def c26S14(_:Unit):Cmd:=(.seq (.ops [
 ⟨some 24,.move (.tmp 0),37,none⟩,
 ⟨some 25,.call ⟨.value (.func 63),#[(.tmp 24)],#[37]⟩,31,none⟩,
 ⟨some 23,.move (.tmp 25),31,none⟩,
 ⟨some 26,.extract (.tmp 23) 0,3,none⟩,
 ⟨some 27,.extract (.tmp 23) 1,30,none⟩,
 ⟨some 7,.assign (.tmp 26),3,none⟩,
 ⟨some 8,.assign (.tmp 27),30,none⟩] [0,1,7,8]) (sg c26S13))
def c26:Cmd:=(.seq (.ops [
 ⟨some 4,.assign (.const (.int .i64 0)),30,none⟩] [0,1])
 (.seq (.seq (.ops [
 ⟨some 15,.move (.tmp 0),37,none⟩,
 ⟨some 16,.move (.tmp 1),9,none⟩,
 ⟨some 17,.call ⟨.value (.func 25),#[(.tmp 15),(.tmp 16)],#[37,9]⟩,50,none⟩,
 ⟨some 14,.move (.tmp 17),50,none⟩,
 ⟨some 18,.extract (.tmp 14) 0,9,none⟩,
 ⟨some 19,.extract (.tmp 14) 1,30,none⟩,
 ⟨some 5,.assign (.tmp 18),9,none⟩,
 ⟨some 6,.assign (.tmp 19),30,none⟩] [0,1,6]) (sg c26S0)) (sg c26S14)))
attribute [go_sem] c26 c26S0 c26S1 c26S2 c26S3 c26S4 c26S5 c26S6 c26S7 c26S8 c26S9 c26L0 c26S10 c26S11 c26S12 c26S13 c26S14
theorem ent26(a0 a1:Value)(w:World)(K:Value→World→Prop)(h:W Tryz.prog c26 [(0,a0),(1,a1)] w (finQ Tryz.prog [.tmp 4] K)):Ret Tryz.prog 26 [a0,a1] w K :=
 Ret_of_W (code:=c26code) Tryz.func26 (by kernel_rfl) (by kernel_rfl) (of_decide_eq_true (by kernel_rfl)) h
@[go_sem] theorem go26:goFunc Tryz.prog 26=true:=by kernel_rfl
def c27code:Code:=match Tryz.f27.body with | some c=>c | none=>.skip
def c27A0(_:Unit):Cmd:=(.skip [3])
def c27B0(_:Unit):Cmd:=(.block 1 (.opsX [
 ⟨some 8,.load 3 (.tmp 3),3,none⟩,
 ⟨some 9,.binOp .add 3 (.tmp 8) (.const (.int .i64 1)) 3,3,none⟩,
 ⟨none,.store 3 (.tmp 3) (.tmp 9),0,none⟩] []))
def c27S0(_:Unit):Cmd:=(.block 0 (.rangeF (.tmp 5) [6,7] (sg c27A0) (sg c27B0) [2,3]))
def c27S1(_:Unit):Cmd:=(.seq (.ops [
 ⟨some 10,.load 3 (.tmp 3),3,none⟩,
 ⟨some 2,.assign (.tmp 10),3,none⟩] [2])
 .ret)
def c27:Cmd:=(.seq (.ops [
 ⟨some 2,.assign (.const (.int .i64 0)),3,none⟩] [0,2])
 (.seq (.ops [
 ⟨some 3,.alloc 3,0,none⟩,
 ⟨none,.store 3 (.tmp 3) (.const (.int .i64 0)),0,none⟩] [0,2,3])
 (.seq (.seq (.ops [
 ⟨some 4,.move (.tmp 0),37,none⟩,
 ⟨some 5,.call ⟨.value (.func 82),#[(.tmp 4)],#[37]⟩,129,none⟩] [2,3,5]) (sg c27S0)) (sg c27S1))))
attribute [go_sem] c27 c27A0 c27S0 c27S1
theorem ent27(a0:Value)(w:World)(K:Value→World→Prop)(h:W Tryz.prog c27 [(0,a0)] w (finQ Tryz.prog [.tmp 2] K)):Ret Tryz.prog 27 [a0] w K :=
 Ret_of_W (code:=c27code) Tryz.func27 (by kernel_rfl) (by kernel_rfl) (of_decide_eq_true (by kernel_rfl)) h
@[go_sem] theorem go27:goFunc Tryz.prog 27=true:=by kernel_rfl
def c82code:Code:=match Tryz.f82.body with | some c=>c | none=>.skip
def c82S0(_:Unit):Cmd:=.ret
def c82:Cmd:=(.seq (.ops [
 ⟨some 2,.assign (.const .nilFunc),129,none⟩] [0])
 (.seq (.ops [
 ⟨some 3,.move (.tmp 0),37,none⟩,
 ⟨some 4,.call ⟨.value (.func 72),#[(.tmp 3),(.const (.string (ofL [])))],#[37,9]⟩,129,none⟩,
 ⟨some 2,.assign (.tmp 4),129,none⟩] [2]) (sg c82S0)))
attribute [go_sem] c82 c82S0
theorem ent82(a0:Value)(w:World)(K:Value→World→Prop)(h:W Tryz.prog c82 [(0,a0)] w (finQ Tryz.prog [.tmp 2] K)):Ret Tryz.prog 82 [a0] w K :=
 Ret_of_W (code:=c82code) Tryz.func82 (by kernel_rfl) (by kernel_rfl) (of_decide_eq_true (by kernel_rfl)) h
@[go_sem] theorem go82:goFunc Tryz.prog 82=true:=by kernel_rfl
def c72code:Code:=match Tryz.f72.body with | some c=>c | none=>.skip
def c72:Cmd:=(.seq (.ops [
 ⟨some 2,.box 37 (.tmp 0),0,none⟩,
 ⟨some 3,.box 9 (.tmp 1),0,none⟩,
 ⟨some 4,.assign (.const .nilFunc),129,none⟩] [2,3])
 (.seq (.ops [
 ⟨some 5,.makeFunc (.func 134) #[] #[(.tmp 2),(.tmp 3)],128,none⟩,
 ⟨some 4,.assign (.tmp 5),129,none⟩] [4])
 .ret))
attribute [go_sem] c72
theorem ent72(a0 a1:Value)(w:World)(K:Value→World→Prop)(h:W Tryz.prog c72 [(0,a0),(1,a1)] w (finQ Tryz.prog [.tmp 4] K)):Ret Tryz.prog 72 [a0,a1] w K :=
 Ret_of_W (code:=c72code) Tryz.func72 (by kernel_rfl) (by kernel_rfl) (of_decide_eq_true (by kernel_rfl)) h
@[go_sem] theorem go72:goFunc Tryz.prog 72=true:=by kernel_rfl
def c134code:Code:=match Tryz.f134.body with | some c=>c | none=>.skip
def c134S0(_:Unit):Cmd:=(.seq (.ops [
 ⟨some 12,.move (.tmp 5),30,none⟩,
 ⟨some 13,.binOp .eql 30 (.tmp 12) (.const (.int .i64 0)) 30,4,none⟩,
 ⟨some 14,.move (.tmp 13),4,none⟩,
 ⟨some 15,.move (.tmp 4),3,(some (14,true))⟩,
 ⟨some 16,.binOp .neq 3 (.tmp 15) (.const (.int .i64 0)) 3,4,(some (14,true))⟩,
 ⟨some 17,.pick (.tmp 14) (.tmp 16) (.const (.bool false)),4,none⟩] [0,1,2,4,17])
 (.cond (.tmp 17)
 (.seq (.ops [
 ⟨some 18,.load 37 (.tmp 1),37,none⟩,
 ⟨some 19,.load 9 (.tmp 2),9,none⟩,
 ⟨some 20,.move (.tmp 0),131,none⟩,
 ⟨some 21,.build 189 #[(0,(.tmp 18)),(1,(.tmp 19)),(2,(.tmp 20)),(3,(.const (.int .i64 1024)))],189,none⟩,
 ⟨some 22,.box 189 (.tmp 21),187,none⟩,
 ⟨some 6,.assign (.tmp 22),187,none⟩] [4,6])
 (.ops [
 ⟨some 23,.move (.tmp 6),187,none⟩,
 ⟨some 24,.move (.tmp 4),3,none⟩,
 ⟨some 25,.call ⟨.value (.func 135),#[(.tmp 23),(.tmp 24),(.const (.int .i64 32))],#[187,3,3]⟩,4,none⟩] []))
 (.skip [])))
def c134:Cmd:=(.seq (.ops [
 ⟨some 8,.load 37 (.tmp 1),37,none⟩,
 ⟨some 9,.call ⟨.value (.func 63),#[(.tmp 8)],#[37]⟩,31,none⟩,
 ⟨some 7,.move (.tmp 9),31,none⟩,
 ⟨some 10,.extract (.tmp 7) 0,3,none⟩,
 ⟨some 11,.extract (.tmp 7) 1,30,none⟩,
 ⟨some 4,.assign (.tmp 10),3,none⟩,
 ⟨some 5,.assign (.tmp 11),30,none⟩] [0,1,2,4,5]) (sg c134S0))
attribute [go_sem] c134
theorem ent134(a0 a1 a2:Value)(w:World)(K:Value→World→Prop)(h:W Tryz.prog c134 [(0,a0),(1,a1),(2,a2)] w (finQ Tryz.prog [] K)):Ret Tryz.prog 134 [a0,a1,a2] w K :=
 Ret_of_W (code:=c134code) Tryz.func134 (by kernel_rfl) (by kernel_rfl) (of_decide_eq_true (by kernel_rfl)) h
@[go_sem] theorem go134:goFunc Tryz.prog 134=true:=by kernel_rfl
def c63code:Code:=match Tryz.f63.body with | some c=>c | none=>.skip
def c63S0(_:Unit):Cmd:=.ret
def c63S1(_:Unit):Cmd:=(.seq (.draw (drawOps 0 c63code) [2,3]) (sg c63S0))
def c63:Cmd:=(.seq (.ops [
 ⟨some 2,.assign (.const (.int .i64 0)),3,none⟩,
 ⟨some 3,.assign (.const (.int .i64 0)),30,none⟩] [0])
 (.seq (.seq (.ops [
 ⟨some 4,.move (.tmp 0),37,none⟩,
 ⟨some 5,.binOp .eql 37 (.tmp 4) (.const (.pointer none)) 37,4,none⟩,
 ⟨some 6,.move (.tmp 5),4,none⟩,
 ⟨some 7,.move (.tmp 0),37,(some (6,false))⟩,
 ⟨some 8,.nilCheck (.tmp 7),0,(some (6,false))⟩,
 ⟨some 9,.fieldAddr 56 (.tmp 8) 0,0,(some (6,false))⟩,
 ⟨some 10,.load 24 (.tmp 9),24,(some (6,false))⟩,
 ⟨some 11,.binOp .eql 24 (.tmp 10) (.const (.pointer none)) 24,4,(some (6,false))⟩,
 ⟨some 12,.pick (.tmp 6) (.const (.bool true)) (.tmp 11),4,none⟩] [0,12])
 (.cond (.tmp 12)
 (.seq (.ops [
 ⟨some 2,.assign (.const (.int .i64 0)),3,none⟩,
 ⟨some 3,.assign (.const (.int .i64 3)),30,none⟩] [2,3])
 .ret)
 (.skip [0]))) (sg c63S1)))
attribute [go_sem] c63 c63S0 c63S1
def c63D0:List (Nat × Ins):=[
 (0,⟨some 13,.move (.tmp 0),37,none⟩),
 (0,⟨some 14,.nilCheck (.tmp 13),0,none⟩),
 (0,⟨some 15,.fieldAddr 56 (.tmp 14) 0,0,none⟩),
 (0,⟨some 17,.move (.tmp 0),37,none⟩),
 (0,⟨some 18,.nilCheck (.tmp 17),0,none⟩),
 (0,⟨some 19,.fieldAddr 56 (.tmp 18) 1,0,none⟩),
 (1,⟨some 16,.load 24 (.tmp 15),24,none⟩),
 (2,⟨some 20,.load 3 (.tmp 19),3,none⟩),
 (3,⟨some 21,.call ⟨.value (.func 36),#[(.tmp 16),(.tmp 20)],#[24,3]⟩,31,none⟩),
 (0,⟨some 22,.extract (.tmp 21) 0,3,none⟩),
 (0,⟨some 23,.extract (.tmp 21) 1,30,none⟩),
 (0,⟨some 2,.assign (.tmp 22),3,none⟩),
 (0,⟨some 3,.assign (.tmp 23),30,none⟩)]
theorem c63draw0{L:List Nat}{ρ:Env}{w:World}{Q:Post}(S:World→Prop)(hS:S w.drew)(h:DG Tryz.prog S c63D0 L ρ w.drew Q):drawW Tryz.prog (drawOps 0 c63code) L ρ w Q :=
 drawW_held [3] [(0,0),(0,1),(0,2),(0,4),(0,5),(0,6),(1,3),(2,7),(3,8),(0,9),(0,10),(0,11),(0,12)] c63D0 (by kernel_rfl) (by kernel_rfl) (by kernel_rfl) S hS h
theorem ent63(a0:Value)(w:World)(K:Value→World→Prop)(h:W Tryz.prog c63 [(0,a0)] w (finQ Tryz.prog [.tmp 2,.tmp 3] K)):Ret Tryz.prog 63 [a0] w K :=
 Ret_of_W (code:=c63code) Tryz.func63 (by kernel_rfl) (by kernel_rfl) (of_decide_eq_true (by kernel_rfl)) h
@[go_sem] theorem go63:goFunc Tryz.prog 63=true:=by kernel_rfl
def c65code:Code:=match Tryz.f65.body with | some c=>c | none=>.skip
def c65S0(_:Unit):Cmd:=.ret
def c65:Cmd:=(.seq (.ops [
 ⟨some 5,.box 119 (.tmp 2),0,none⟩,
 ⟨some 6,.assign (.const (.int .i64 0)),30,none⟩] [0,1,5])
 (.seq (.draw (drawOps 0 c65code) [6]) (sg c65S0)))
attribute [go_sem] c65 c65S0
def c65D0:List (Nat × Ins):=[
 (0,⟨some 7,.move (.tmp 0),37,none⟩),
 (0,⟨some 8,.nilCheck (.tmp 7),0,none⟩),
 (0,⟨some 9,.fieldAddr 56 (.tmp 8) 0,0,none⟩),
 (0,⟨some 11,.move (.tmp 1),3,none⟩),
 (1,⟨some 10,.load 24 (.tmp 9),24,none⟩),
 (2,⟨some 12,.load 119 (.tmp 5),119,none⟩),
 (2,⟨some 13,.call ⟨.value (.func 127),#[(.tmp 12)],#[119]⟩,9,none⟩),
 (3,⟨some 14,.call ⟨.value (.func 19),#[(.tmp 10),(.tmp 11),(.tmp 13)],#[24,3,9]⟩,30,none⟩),
 (0,⟨some 6,.assign (.tmp 14),30,none⟩)]
theorem c65draw0{L:List Nat}{ρ:Env}{w:World}{Q:Post}(S:World→Prop)(hS:S w.drew)(h:DG Tryz.prog S c65D0 L ρ w.drew Q):drawW Tryz.prog (drawOps 0 c65code) L ρ w Q :=
 drawW_held [3] [(0,0),(0,1),(0,2),(0,4),(1,3),(2,5),(2,6),(3,7),(0,8)] c65D0 (by kernel_rfl) (by kernel_rfl) (by kernel_rfl) S hS h
theorem ent65(a0 a1 a2:Value)(w:World)(K:Value→World→Prop)(h:W Tryz.prog c65 [(0,a0),(1,a1),(2,a2)] w (finQ Tryz.prog [.tmp 6] K)):Ret Tryz.prog 65 [a0,a1,a2] w K :=
 Ret_of_W (code:=c65code) Tryz.func65 (by kernel_rfl) (by kernel_rfl) (of_decide_eq_true (by kernel_rfl)) h
@[go_sem] theorem go65:goFunc Tryz.prog 65=true:=by kernel_rfl
def c67code:Code:=match Tryz.f67.body with | some c=>c | none=>.skip
def c67S0(_:Unit):Cmd:=(.seq (.ops [
 ⟨some 21,.fieldAddr 119 (.tmp 6) 3,0,none⟩,
 ⟨some 22,.load 48 (.tmp 21),48,none⟩,
 ⟨some 23,.indexAddr 48 (.tmp 22) (.const (.int .i64 0)),0,none⟩,
 ⟨some 24,.load 3 (.tmp 23),3,none⟩,
 ⟨some 1,.assign (.tmp 24),3,none⟩] [0,1,5,8])
 (.ops [
 ⟨some 25,.move (.tmp 5),3,none⟩,
 ⟨some 26,.binOp .add 3 (.tmp 25) (.const (.int .i64 1)) 3,3,none⟩,
 ⟨some 5,.assign (.tmp 26),3,none⟩] [0,1,5,8]))
def c67S1(_:Unit):Cmd:=(.seq (.seq (.ops [
 ⟨some 19,.fieldAddr 119 (.tmp 6) 0,0,none⟩,
 ⟨some 20,.load 4 (.tmp 19),4,none⟩] [0,5,6,8,20])
 (.cond (.tmp 20)
 (.exit 0 [0,5])
 (.skip [0,5,6,8]))) (sg c67S0))
def c67S2(_:Unit):Cmd:=(.seq (.seq (.ops [
 ⟨some 16,.move (.tmp 7),30,none⟩,
 ⟨some 17,.binOp .neq 30 (.tmp 16) (.const (.int .i64 0)) 30,4,none⟩] [0,5,6,7,8,17])
 (.cond (.tmp 17)
 (.seq (.ops [
 ⟨some 18,.move (.tmp 7),30,none⟩,
 ⟨some 4,.assign (.tmp 18),30,none⟩] [4])
 .ret)
 (.skip [0,5,6,8]))) (sg c67S1))
def c67S3(_:Unit):Cmd:=(.ops [
 ⟨some 27,.binOp .add 3 (.tmp 8) (.const (.int .i64 1)) 3,3,none⟩,
 ⟨some 8,.move (.tmp 27),3,none⟩] [0,1,5,8])
def c67S4(_:Unit):Cmd:=(.seq (.block 1 (.seq (.ops [
 ⟨some 11,.move (.tmp 0),37,none⟩,
 ⟨some 12,.move (.tmp 1),3,none⟩,
 ⟨some 13,.call ⟨.value (.func 75),#[(.tmp 11),(.tmp 12)],#[37,3]⟩,133,none⟩,
 ⟨some 10,.move (.tmp 13),133,none⟩,
 ⟨some 14,.extract (.tmp 10) 0,119,none⟩,
 ⟨some 15,.extract (.tmp 10) 1,30,none⟩,
 ⟨some 6,.alloc 119,0,none⟩,
 ⟨none,.store 119 (.tmp 6) (.tmp 14),0,none⟩,
 ⟨some 7,.assign (.tmp 15),30,none⟩] [0,5,6,7,8]) (sg c67S2))) (sg c67S3))
def c67L0(_:Unit):Cmd:=(.seq (.ops [
 ⟨some 9,.binOp .lss 3 (.tmp 8) (.const (.int .i64 32)) 3,4,none⟩] [0,1,5,8,9])
 (.seq (.cond (.tmp 9)
 (.skip [0,1,5,8])
 (.exit 0 [0,5])) (sg c67S4)))
def c67S5(_:Unit):Cmd:=(.cond (.tmp 35)
 (.seq (.ops [
 ⟨some 4,.assign (.const (.int .i64 13)),30,none⟩] [4])
 .ret)
 (.skip []))
def c67S6(_:Unit):Cmd:=(.seq (.ops [
 ⟨some 4,.assign (.const (.int .i64 0)),30,none⟩] [4])
 .ret)
def c67S7(_:Unit):Cmd:=(.seq (.seq (.ops [
 ⟨some 28,.move (.tmp 0),37,none⟩,
 ⟨some 29,.nilCheck (.tmp 28),0,none⟩,
 ⟨some 30,.fieldAddr 56 (.tmp 29) 0,0,none⟩,
 ⟨some 31,.load 24 (.tmp 30),24,none⟩,
 ⟨some 32,.call ⟨.value (.func 12),#[(.tmp 31)],#[24]⟩,3,none⟩,
 ⟨some 33,.move (.tmp 5),3,none⟩,
 ⟨some 34,.binOp .add 3 (.tmp 33) (.const (.int .i64 1)) 3,3,none⟩,
 ⟨some 35,.binOp .lss 3 (.tmp 32) (.tmp 34) 3,4,none⟩] [35]) (sg c67S5)) (sg c67S6))
def c67:Cmd:=(.seq (.ops [
 ⟨some 4,.assign (.const (.int .i64 0)),30,none⟩] [0,1])
 (.seq (.ops [
 ⟨some 5,.assign (.const (.int .i64 1)),3,none⟩] [0,1,5])
 (.seq (.seq (.ops [
 ⟨some 8,.move (.const (.int .i64 0)),3,none⟩] [0,1,5,8])
 (.block 0 (.loop (sg c67L0)))) (sg c67S7))))
attribute [go_sem] c67 c67S0 c67S1 c67S2 c67S3 c67S4 c67S5 c67S6
theorem ent67(a0 a1:Value)(w:World)(K:Value→World→Prop)(h:W Tryz.prog c67 [(0,a0),(1,a1)] w (finQ Tryz.prog [.tmp 4] K)):Ret Tryz.prog 67 [a0,a1] w K :=
 Ret_of_W (code:=c67code) Tryz.func67 (by kernel_rfl) (by kernel_rfl) (of_decide_eq_true (by kernel_rfl)) h
@[go_sem] theorem go67:goFunc Tryz.prog 67=true:=by kernel_rfl
def c68code:Code:=match Tryz.f68.body with | some c=>c | none=>.skip
def c68S0(_:Unit):Cmd:=(.ops [
 ⟨some 57,.fieldAddr 119 (.tmp 13) 2,0,none⟩,
 ⟨some 58,.load 22 (.tmp 57),22,none⟩,
 ⟨some 59,.move (.tmp 15),3,none⟩,
 ⟨some 60,.move (.tmp 4),9,none⟩,
 ⟨some 61,.buildSlice 22 1 #[(0,(.tmp 60))],22,none⟩,
 ⟨some 62,.call ⟨.value (.func 128),#[(.tmp 58),(.tmp 59),(.tmp 61)],#[22,3,22]⟩,22,none⟩,
 ⟨some 63,.fieldAddr 119 (.tmp 13) 2,0,none⟩,
 ⟨none,.store 22 (.tmp 63) (.tmp 62),0,none⟩] [0,1,13])
def c68S1(_:Unit):Cmd:=.ret
def c68S2(_:Unit):Cmd:=(.seq (.ops [
 ⟨some 64,.move (.tmp 0),37,none⟩,
 ⟨some 65,.move (.tmp 1),3,none⟩,
 ⟨some 66,.load 119 (.tmp 13),119,none⟩,
 ⟨some 67,.call ⟨.value (.func 129),#[(.tmp 64),(.tmp 65),(.tmp 66)],#[37,3,119]⟩,121,none⟩,
 ⟨some 68,.extract (.tmp 67) 0,9,none⟩,
 ⟨some 69,.extract (.tmp 67) 1,3,none⟩,
 ⟨some 70,.extract (.tmp 67) 2,30,none⟩,
 ⟨some 10,.assign (.tmp 68),9,none⟩,
 ⟨some 11,.assign (.tmp 69),3,none⟩,
 ⟨some 12,.assign (.tmp 70),30,none⟩] [10,11,12]) (sg c68S1))
def c68S3(_:Unit):Cmd:=(.seq (.seq (.ops [
 ⟨some 44,.move (.tmp 16),4,none⟩] [0,1,3,4,13,15,44])
 (.cond (.tmp 44)
 (.ops [
 ⟨some 45,.fieldAddr 119 (.tmp 13) 2,0,none⟩,
 ⟨some 46,.load 22 (.tmp 45),22,none⟩,
 ⟨some 47,.move (.tmp 15),3,none⟩,
 ⟨some 48,.move (.tmp 4),9,none⟩,
 ⟨some 49,.indexAddr 22 (.tmp 46) (.tmp 47),0,none⟩,
 ⟨none,.store 9 (.tmp 49) (.tmp 48),0,none⟩] [0,1,13])
 (.seq (.ops [
 ⟨some 50,.fieldAddr 119 (.tmp 13) 1,0,none⟩,
 ⟨some 51,.load 22 (.tmp 50),22,none⟩,
 ⟨some 52,.move (.tmp 15),3,none⟩,
 ⟨some 53,.move (.tmp 3),9,none⟩,
 ⟨some 54,.buildSlice 22 1 #[(0,(.tmp 53))],22,none⟩,
 ⟨some 55,.call ⟨.value (.func 128),#[(.tmp 51),(.tmp 52),(.tmp 54)],#[22,3,22]⟩,22,none⟩,
 ⟨some 56,.fieldAddr 119 (.tmp 13) 1,0,none⟩,
 ⟨none,.store 22 (.tmp 56) (.tmp 55),0,none⟩] [0,1,4,13,15]) (sg c68S0)))) (sg c68S2))
def c68S4(_:Unit):Cmd:=.ret
def c68S5(_:Unit):Cmd:=(.seq (.ops [
 ⟨some 111,.move (.tmp 0),37,none⟩,
 ⟨some 112,.move (.tmp 1),3,none⟩,
 ⟨some 113,.load 119 (.tmp 13),119,none⟩,
 ⟨some 114,.call ⟨.value (.func 129),#[(.tmp 111),(.tmp 112),(.tmp 113)],#[37,3,119]⟩,121,none⟩,
 ⟨some 115,.extract (.tmp 114) 0,9,none⟩,
 ⟨some 116,.extract (.tmp 114) 1,3,none⟩,
 ⟨some 117,.extract (.tmp 114) 2,30,none⟩,
 ⟨some 10,.assign (.tmp 115),9,none⟩,
 ⟨some 11,.assign (.tmp 116),3,none⟩,
 ⟨some 12,.assign (.tmp 117),30,none⟩] [10,11,12]) (sg c68S4))
def c68S6(_:Unit):Cmd:=(.seq (.ops [
 ⟨some 103,.fieldAddr 119 (.tmp 13) 3,0,none⟩,
 ⟨some 104,.load 48 (.tmp 103),48,none⟩,
 ⟨some 105,.move (.tmp 17),3,none⟩,
 ⟨some 106,.binOp .add 3 (.tmp 105) (.const (.int .i64 1)) 3,3,none⟩,
 ⟨some 107,.move (.tmp 19),3,none⟩,
 ⟨some 108,.buildSlice 48 1 #[(0,(.tmp 107))],48,none⟩,
 ⟨some 109,.call ⟨.value (.func 130),#[(.tmp 104),(.tmp 106),(.tmp 108)],#[48,3,48]⟩,48,none⟩,
 ⟨some 110,.fieldAddr 119 (.tmp 13) 3,0,none⟩,
 ⟨none,.store 48 (.tmp 110) (.tmp 109),0,none⟩] [0,1,13]) (sg c68S5))
def c68S7(_:Unit):Cmd:=(.seq (.ops [
 ⟨some 96,.fieldAddr 119 (.tmp 13) 1,0,none⟩,
 ⟨some 97,.load 22 (.tmp 96),22,none⟩,
 ⟨some 98,.move (.tmp 17),3,none⟩,
 ⟨some 99,.move (.tmp 18),9,none⟩,
 ⟨some 100,.buildSlice 22 1 #[(0,(.tmp 99))],22,none⟩,
 ⟨some 101,.call ⟨.value (.func 128),#[(.tmp 97),(.tmp 98),(.tmp 100)],#[22,3,22]⟩,22,none⟩,
 ⟨some 102,.fieldAddr 119 (.tmp 13) 1,0,none⟩,
 ⟨none,.store 22 (.tmp 102) (.tmp 101),0,none⟩] [0,1,13,17,19]) (sg c68S6))
def c68S8(_:Unit):Cmd:=(.seq (.seq (.ops [
 ⟨some 89,.move (.tmp 14),30,none⟩,
 ⟨some 90,.binOp .neq 30 (.tmp 89) (.const (.int .i64 0)) 30,4,none⟩,
 ⟨some 91,.move (.tmp 90),4,none⟩,
 ⟨some 92,.move (.tmp 19),3,(some (91,false))⟩,
 ⟨some 93,.binOp .eql 3 (.tmp 92) (.const (.int .i64 0)) 3,4,(some (91,false))⟩,
 ⟨some 94,.pick (.tmp 91) (.const (.bool true)) (.tmp 93),4,none⟩] [0,1,13,14,17,18,19,94])
 (.cond (.tmp 94)
 (.seq (.ops [
 ⟨some 95,.move (.tmp 14),30,none⟩,
 ⟨some 10,.assign (.const (.string (ofL []))),9,none⟩,
 ⟨some 11,.assign (.const (.int .i64 0)),3,none⟩,
 ⟨some 12,.assign (.tmp 95),30,none⟩] [10,11,12])
 .ret)
 (.skip [0,1,13,17,18,19]))) (sg c68S7))
def c68S9(_:Unit):Cmd:=(.seq (.ops [
 ⟨some 75,.move (.tmp 0),37,none⟩,
 ⟨some 76,.fieldAddr 119 (.tmp 13) 3,0,none⟩,
 ⟨some 77,.load 48 (.tmp 76),48,none⟩,
 ⟨some 78,.move (.tmp 17),3,none⟩,
 ⟨some 79,.indexAddr 48 (.tmp 77) (.tmp 78),0,none⟩,
 ⟨some 80,.load 3 (.tmp 79),3,none⟩,
 ⟨some 81,.move (.tmp 2),3,none⟩,
 ⟨some 82,.binOp .sub 3 (.tmp 81) (.const (.int .i64 1)) 3,3,none⟩,
 ⟨some 83,.move (.tmp 3),9,none⟩,
 ⟨some 84,.move (.tmp 4),9,none⟩,
 ⟨some 85,.call ⟨.value (.func 68),#[(.tmp 75),(.tmp 80),(.tmp 82),(.tmp 83),(.tmp 84)],#[37,3,3,9,9]⟩,121,none⟩,
 ⟨some 74,.move (.tmp 85),121,none⟩,
 ⟨some 86,.extract (.tmp 74) 0,9,none⟩,
 ⟨some 87,.extract (.tmp 74) 1,3,none⟩,
 ⟨some 88,.extract (.tmp 74) 2,30,none⟩,
 ⟨some 18,.assign (.tmp 86),9,none⟩,
 ⟨some 19,.assign (.tmp 87),3,none⟩,
 ⟨some 14,.assign (.tmp 88),30,none⟩] [0,1,13,14,17,18,19]) (sg c68S8))
def c68S10(_:Unit):Cmd:=(.seq (.ops [
 ⟨some 71,.load 119 (.tmp 13),119,none⟩,
 ⟨some 72,.move (.tmp 3),9,none⟩,
 ⟨some 73,.call ⟨.value (.func 76),#[(.tmp 71),(.tmp 72)],#[119,9]⟩,3,none⟩,
 ⟨some 17,.assign (.tmp 73),3,none⟩] [0,1,2,3,4,13,17]) (sg c68S9))
def c68S11(_:Unit):Cmd:=(.seq (.seq (.ops [
 ⟨some 35,.fieldAddr 119 (.tmp 13) 0,0,none⟩,
 ⟨some 36,.load 4 (.tmp 35),4,none⟩] [0,1,2,3,4,13,36])
 (.cond (.tmp 36)
 (.seq (.ops [
 ⟨some 38,.fieldAddr 119 (.tmp 13) 1,0,none⟩,
 ⟨some 39,.load 22 (.tmp 38),22,none⟩,
 ⟨some 40,.move (.tmp 3),9,none⟩,
 ⟨some 41,.call ⟨.value (.func 77),#[(.tmp 39),(.tmp 40)],#[22,9]⟩,135,none⟩,
 ⟨some 37,.move (.tmp 41),135,none⟩,
 ⟨some 42,.extract (.tmp 37) 0,3,none⟩,
 ⟨some 43,.extract (.tmp 37) 1,4,none⟩,
 ⟨some 15,.assign (.tmp 42),3,none⟩,
 ⟨some 16,.assign (.tmp 43),4,none⟩] [0,1,3,4,13,15,16]) (sg c68S3))
 (.skip [0,1,2,3,4,13]))) (sg c68S10))
def c68S12(_:Unit):Cmd:=(.seq (.seq (.ops [
 ⟨some 32,.move (.tmp 14),30,none⟩,
 ⟨some 33,.binOp .neq 30 (.tmp 32) (.const (.int .i64 0)) 30,4,none⟩] [0,1,2,3,4,13,14,33])
 (.cond (.tmp 33)
 (.seq (.ops [
 ⟨some 34,.move (.tmp 14),30,none⟩,
 ⟨some 10,.assign (.const (.string (ofL []))),9,none⟩,
 ⟨some 11,.assign (.const (.int .i64 0)),3,none⟩,
 ⟨some 12,.assign (.tmp 34),30,none⟩] [10,11,12])
 .ret)
 (.skip [0,1,2,3,4,13]))) (sg c68S11))
def c68S13(_:Unit):Cmd:=(.seq (.seq (.ops [
 ⟨some 26,.move (.tmp 14),30,none⟩,
 ⟨some 27,.binOp .eql 30 (.tmp 26) (.const (.int .i64 0)) 30,4,none⟩,
 ⟨some 28,.move (.tmp 27),4,none⟩,
 ⟨some 29,.move (.tmp 2),3,(some (28,true))⟩,
 ⟨some 30,.binOp .eql 3 (.tmp 29) (.const (.int .i64 0)) 3,4,(some (28,true))⟩,
 ⟨some 31,.pick (.tmp 28) (.tmp 30) (.const (.bool false)),4,none⟩] [0,1,2,3,4,13,14,31])
 (.cond (.tmp 31)
 (.ops [
 ⟨some 14,.assign (.const (.int .i64 14)),30,none⟩] [0,1,2,3,4,13,14])
 (.skip [0,1,2,3,4,13,14]))) (sg c68S12))
def c68:Cmd:=(.seq (.ops [
 ⟨some 10,.assign (.const (.string (ofL []))),9,none⟩,
 ⟨some 11,.assign (.const (.int .i64 0)),3,none⟩,
 ⟨some 12,.assign (.const (.int .i64 0)),30,none⟩] [0,1,2,3,4])
 (.seq (.ops [
 ⟨some 21,.move (.tmp 0),37,none⟩,
 ⟨some 22,.move (.tmp 1),3,none⟩,
 ⟨some 23,.call ⟨.value (.func 75),#[(.tmp 21),(.tmp 22)],#[37,3]⟩,133,none⟩,
 ⟨some 20,.move (.tmp 23),133,none⟩,
 ⟨some 24,.extract (.tmp 20) 0,119,none⟩,
 ⟨some 25,.extract (.tmp 20) 1,30,none⟩,
 ⟨some 13,.alloc 119,0,none⟩,
 ⟨none,.store 119 (.tmp 13) (.tmp 24),0,none⟩,
 ⟨some 14,.assign (.tmp 25),30,none⟩] [0,1,2,3,4,13,14]) (sg c68S13)))
attribute [go_sem] c68 c68S1 c68S4 c68S5 c68S6 c68S7 c68S8 c68S9 c68S12
theorem ent68(a0 a1 a2 a3 a4:Value)(w:World)(K:Value→World→Prop)(h:W Tryz.prog c68 [(0,a0),(1,a1),(2,a2),(3,a3),(4,a4)] w (finQ Tryz.prog [.tmp 10,.tmp 11,.tmp 12] K)):Ret Tryz.prog 68 [a0,a1,a2,a3,a4] w K :=
 Ret_of_W (code:=c68code) Tryz.func68 (by kernel_rfl) (by kernel_rfl) (of_decide_eq_true (by kernel_rfl)) h
@[go_sem] theorem go68:goFunc Tryz.prog 68=true:=by kernel_rfl
def c129code:Code:=match Tryz.f129.body with | some c=>c | none=>.skip
def c129S0(_:Unit):Cmd:=.ret
def c129S1(_:Unit):Cmd:=(.cond (.tmp 17)
 (.seq (.ops [
 ⟨some 18,.move (.tmp 0),37,none⟩,
 ⟨some 19,.move (.tmp 1),3,none⟩,
 ⟨some 20,.load 119 (.tmp 5),119,none⟩,
 ⟨some 21,.call ⟨.value (.func 65),#[(.tmp 18),(.tmp 19),(.tmp 20)],#[37,3,119]⟩,30,none⟩,
 ⟨some 6,.assign (.const (.string (ofL []))),9,none⟩,
 ⟨some 7,.assign (.const (.int .i64 0)),3,none⟩,
 ⟨some 8,.assign (.tmp 21),30,none⟩] [6,7,8]) (sg c129S0))
 (.skip [0,1,5]))
def c129S2(_:Unit):Cmd:=(.seq (.ops [
 ⟨some 43,.move (.tmp 14),30,none⟩,
 ⟨some 44,.binOp .neq 30 (.tmp 43) (.const (.int .i64 0)) 30,4,none⟩] [0,10,11,12,14,44])
 (.cond (.tmp 44)
 (.seq (.ops [
 ⟨some 45,.move (.tmp 14),30,none⟩,
 ⟨some 6,.assign (.const (.string (ofL []))),9,none⟩,
 ⟨some 7,.assign (.const (.int .i64 0)),3,none⟩,
 ⟨some 8,.assign (.tmp 45),30,none⟩] [6,7,8])
 .ret)
 (.skip [0,10,11,12])))
def c129S3(_:Unit):Cmd:=.ret
def c129S4(_:Unit):Cmd:=(.seq (.ops [
 ⟨some 46,.move (.tmp 11),9,none⟩,
 ⟨some 47,.move (.tmp 12),3,none⟩,
 ⟨some 48,.move (.tmp 0),37,none⟩,
 ⟨some 49,.move (.tmp 12),3,none⟩,
 ⟨some 50,.load 119 (.tmp 10),119,none⟩,
 ⟨some 51,.call ⟨.value (.func 65),#[(.tmp 48),(.tmp 49),(.tmp 50)],#[37,3,119]⟩,30,none⟩,
 ⟨some 6,.assign (.tmp 46),9,none⟩,
 ⟨some 7,.assign (.tmp 47),3,none⟩,
 ⟨some 8,.assign (.tmp 51),30,none⟩] [6,7,8]) (sg c129S3))
def c129S5(_:Unit):Cmd:=(.seq (.seq (.ops [
 ⟨some 39,.move (.tmp 0),37,none⟩,
 ⟨some 40,.move (.tmp 1),3,none⟩,
 ⟨some 41,.load 119 (.tmp 9),119,none⟩,
 ⟨some 42,.call ⟨.value (.func 65),#[(.tmp 39),(.tmp 40),(.tmp 41)],#[37,3,119]⟩,30,none⟩,
 ⟨some 14,.assign (.tmp 42),30,none⟩] [0,10,11,12,14]) (sg c129S2)) (sg c129S4))
def c129S6(_:Unit):Cmd:=(.seq (.seq (.ops [
 ⟨some 36,.move (.tmp 13),30,none⟩,
 ⟨some 37,.binOp .neq 30 (.tmp 36) (.const (.int .i64 0)) 30,4,none⟩] [0,1,9,10,11,12,13,37])
 (.cond (.tmp 37)
 (.seq (.ops [
 ⟨some 38,.move (.tmp 13),30,none⟩,
 ⟨some 6,.assign (.const (.string (ofL []))),9,none⟩,
 ⟨some 7,.assign (.const (.int .i64 0)),3,none⟩,
 ⟨some 8,.assign (.tmp 38),30,none⟩] [6,7,8])
 .ret)
 (.skip [0,1,9,10,11,12]))) (sg c129S5))
def c129S7(_:Unit):Cmd:=(.seq (.ops [
 ⟨some 29,.move (.tmp 0),37,none⟩,
 ⟨some 30,.nilCheck (.tmp 29),0,none⟩,
 ⟨some 31,.fieldAddr 56 (.tmp 30) 0,0,none⟩,
 ⟨some 32,.load 24 (.tmp 31),24,none⟩,
 ⟨some 33,.call ⟨.value (.func 64),#[(.tmp 32)],#[24]⟩,31,none⟩,
 ⟨some 28,.move (.tmp 33),31,none⟩,
 ⟨some 34,.extract (.tmp 28) 0,3,none⟩,
 ⟨some 35,.extract (.tmp 28) 1,30,none⟩,
 ⟨some 12,.assign (.tmp 34),3,none⟩,
 ⟨some 13,.assign (.tmp 35),30,none⟩] [0,1,9,10,11,12,13]) (sg c129S6))
def c129S8(_:Unit):Cmd:=(.seq (.ops [
 ⟨some 23,.load 119 (.tmp 5),119,none⟩,
 ⟨some 24,.call ⟨.value (.func 166),#[(.tmp 23)],#[119]⟩,217,none⟩,
 ⟨some 22,.move (.tmp 24),217,none⟩,
 ⟨some 25,.extract (.tmp 22) 0,119,none⟩,
 ⟨some 26,.extract (.tmp 22) 1,119,none⟩,
 ⟨some 27,.extract (.tmp 22) 2,9,none⟩,
 ⟨some 9,.alloc 119,0,none⟩,
 ⟨some 10,.alloc 119,0,none⟩,
 ⟨none,.store 119 (.tmp 9) (.tmp 25),0,none⟩,
 ⟨none,.store 119 (.tmp 10) (.tmp 26),0,none⟩,
 ⟨some 11,.assign (.tmp 27),9,none⟩] [0,1,9,10,11]) (sg c129S7))
def c129:Cmd:=(.seq (.ops [
 ⟨some 5,.box 119 (.tmp 2),0,none⟩,
 ⟨some 6,.assign (.const (.string (ofL []))),9,none⟩,
 ⟨some 7,.assign (.const (.int .i64 0)),3,none⟩,
 ⟨some 8,.assign (.const (.int .i64 0)),30,none⟩] [0,1,5])
 (.seq (.seq (.ops [
 ⟨some 15,.load 119 (.tmp 5),119,none⟩,
 ⟨some 16,.call ⟨.value (.func 165),#[(.tmp 15)],#[119]⟩,3,none⟩,
 ⟨some 17,.binOp .leq 3 (.tmp 16) (.const (.int .i64 256)) 3,4,none⟩] [0,1,5,17]) (sg c129S1)) (sg c129S8)))
attribute [go_sem] c129 c129S0 c129S1 c129S2 c129S3 c129S4 c129S5 c129S6 c129S7
theorem ent129(a0 a1 a2:Value)(w:World)(K:Value→World→Prop)(h:W Tryz.prog c129 [(0,a0),(1,a1),(2,a2)] w (finQ Tryz.prog [.tmp 6,.tmp 7,.tmp 8] K)):Ret Tryz.prog 129 [a0,a1,a2] w K :=
 Ret_of_W (code:=c129code) Tryz.func129 (by kernel_rfl) (by kernel_rfl) (of_decide_eq_true (by kernel_rfl)) h
@[go_sem] theorem go129:goFunc Tryz.prog 129=true:=by kernel_rfl
def c75code:Code:=match Tryz.f75.body with | some c=>c | none=>.skip
def c75S0(_:Unit):Cmd:=.ret
def c75S1(_:Unit):Cmd:=(.seq (.ops [
 ⟨some 21,.move (.tmp 6),9,none⟩,
 ⟨some 22,.call ⟨.value (.func 136),#[(.tmp 21)],#[9]⟩,133,none⟩,
 ⟨some 23,.extract (.tmp 22) 0,119,none⟩,
 ⟨some 24,.extract (.tmp 22) 1,30,none⟩,
 ⟨none,.store 119 (.tmp 4) (.tmp 23),0,none⟩,
 ⟨some 5,.assign (.tmp 24),30,none⟩] [4,5]) (sg c75S0))
def c75S2(_:Unit):Cmd:=(.seq (.seq (.ops [
 ⟨some 17,.move (.tmp 7),30,none⟩,
 ⟨some 18,.binOp .neq 30 (.tmp 17) (.const (.int .i64 0)) 30,4,none⟩] [4,6,7,18])
 (.cond (.tmp 18)
 (.seq (.ops [
 ⟨some 19,.build 119 #[],119,none⟩,
 ⟨some 20,.move (.tmp 7),30,none⟩,
 ⟨none,.store 119 (.tmp 4) (.tmp 19),0,none⟩,
 ⟨some 5,.assign (.tmp 20),30,none⟩] [4,5])
 .ret)
 (.skip [4,6]))) (sg c75S1))
def c75:Cmd:=(.seq (.ops [
 ⟨some 4,.alloc 119,0,none⟩,
 ⟨some 5,.assign (.const (.int .i64 0)),30,none⟩] [0,1,4])
 (.seq (.ops [
 ⟨some 9,.move (.tmp 0),37,none⟩,
 ⟨some 10,.nilCheck (.tmp 9),0,none⟩,
 ⟨some 11,.fieldAddr 56 (.tmp 10) 0,0,none⟩,
 ⟨some 12,.load 24 (.tmp 11),24,none⟩,
 ⟨some 13,.move (.tmp 1),3,none⟩,
 ⟨some 14,.call ⟨.value (.func 39),#[(.tmp 12),(.tmp 13)],#[24,3]⟩,50,none⟩,
 ⟨some 8,.move (.tmp 14),50,none⟩,
 ⟨some 15,.extract (.tmp 8) 0,9,none⟩,
 ⟨some 16,.extract (.tmp 8) 1,30,none⟩,
 ⟨some 6,.assign (.tmp 15),9,none⟩,
 ⟨some 7,.assign (.tmp 16),30,none⟩] [4,6,7]) (sg c75S2)))
attribute [go_sem] c75 c75S0 c75S2
theorem ent75(a0 a1:Value)(w:World)(K:Value→World→Prop)(h:W Tryz.prog c75 [(0,a0),(1,a1)] w (finQ Tryz.prog [.cell 4 119,.tmp 5] K)):Ret Tryz.prog 75 [a0,a1] w K :=
 Ret_of_W (code:=c75code) Tryz.func75 (by kernel_rfl) (by kernel_rfl) (of_decide_eq_true (by kernel_rfl)) h
@[go_sem] theorem go75:goFunc Tryz.prog 75=true:=by kernel_rfl
def c135code:Code:=match Tryz.f135.body with | some c=>c | none=>.skip
def c135S0(_:Unit):Cmd:=(.cond (.tmp 66)
 (.seq (.ops [
 ⟨some 6,.assign (.const (.bool false)),4,none⟩] [6])
 .ret)
 (.skip [0,2,7,9]))
def c135S1(_:Unit):Cmd:=(.ops [
 ⟨some 55,.move (.tmp 9),3,none⟩,
 ⟨some 56,.binOp .add 3 (.tmp 55) (.const (.int .i64 1)) 3,3,none⟩,
 ⟨some 9,.assign (.tmp 56),3,none⟩] [0,2,7,9])
def c135S2(_:Unit):Cmd:=(.seq (.block 1 (.seq (.ops [
 ⟨some 57,.move (.tmp 0),187,none⟩,
 ⟨some 58,.fieldAddr 119 (.tmp 7) 3,0,none⟩,
 ⟨some 59,.load 48 (.tmp 58),48,none⟩,
 ⟨some 60,.move (.tmp 9),3,none⟩,
 ⟨some 61,.indexAddr 48 (.tmp 59) (.tmp 60),0,none⟩,
 ⟨some 62,.load 3 (.tmp 61),3,none⟩,
 ⟨some 63,.move (.tmp 2),3,none⟩,
 ⟨some 64,.binOp .sub 3 (.tmp 63) (.const (.int .i64 1)) 3,3,none⟩,
 ⟨some 65,.call ⟨.value (.func 135),#[(.tmp 57),(.tmp 62),(.tmp 64)],#[187,3,3]⟩,4,none⟩,
 ⟨some 66,.unOp .not 4 (.tmp 65),4,none⟩] [0,2,7,9,66]) (sg c135S0))) (sg c135S1))
def c135L0(_:Unit):Cmd:=(.seq (.seq (.ops [
 ⟨some 50,.move (.tmp 9),3,none⟩,
 ⟨some 51,.fieldAddr 119 (.tmp 7) 3,0,none⟩,
 ⟨some 52,.load 48 (.tmp 51),48,none⟩,
 ⟨some 53,.call ⟨.builtin .len,#[(.tmp 52)],#[48]⟩,3,none⟩,
 ⟨some 54,.binOp .lss 3 (.tmp 50) (.tmp 53) 3,4,none⟩] [0,2,7,9,54])
 (.cond (.tmp 54)
 (.skip [0,2,7,9])
 (.exit 0 []))) (sg c135S2))
def c135S3(_:Unit):Cmd:=(.block 0 (.loop (sg c135L0)))
def c135S4(_:Unit):Cmd:=(.seq (.ops [
 ⟨some 6,.assign (.const (.bool true)),4,none⟩] [6])
 .ret)
def c135S5(_:Unit):Cmd:=(.cond (.tmp 94)
 (.seq (.ops [
 ⟨some 6,.assign (.const (.bool false)),4,none⟩] [6])
 .ret)
 (.skip [0,7,68,69,70]))
def c135S6(_:Unit):Cmd:=(.ops [
 ⟨some 95,.binOp .add 3 (.tmp 70) (.const (.int .i64 1)) 3,3,none⟩,
 ⟨some 70,.move (.tmp 95),3,none⟩] [0,7,68,69,70])
def c135S7(_:Unit):Cmd:=(.seq (.block 3 (.seq (.ops [
 ⟨some 72,.move (.tmp 70),3,none⟩,
 ⟨some 73,.indexAddr 22 (.tmp 68) (.tmp 70),0,none⟩,
 ⟨some 74,.load 9 (.tmp 73),9,none⟩,
 ⟨some 10,.assign (.tmp 72),3,none⟩,
 ⟨some 11,.assign (.tmp 74),9,none⟩] [0,7,10,11,68,69,70])
 (.seq (.draw (drawOps 1 c135code) [0,7,68,69,70,94]) (sg c135S5)))) (sg c135S6))
def c135L1(_:Unit):Cmd:=(.seq (.ops [
 ⟨some 71,.binOp .lss 3 (.tmp 70) (.tmp 69) 3,0,none⟩] [0,7,68,69,70,71])
 (.seq (.cond (.tmp 71)
 (.skip [0,7,68,69,70])
 (.exit 2 [])) (sg c135S7)))
def c135S8(_:Unit):Cmd:=(.seq (.ops [
 ⟨some 6,.assign (.const (.bool true)),4,none⟩] [6])
 .ret)
def c135S9(_:Unit):Cmd:=(.seq (.seq (.ops [
 ⟨some 67,.fieldAddr 119 (.tmp 7) 1,0,none⟩,
 ⟨some 68,.load 22 (.tmp 67),22,none⟩,
 ⟨some 69,.call ⟨.builtin .len,#[(.tmp 68)],#[22]⟩,3,none⟩,
 ⟨some 70,.move (.const (.int .i64 0)),3,none⟩] [0,7,68,69,70])
 (.block 2 (.loop (sg c135L1)))) (sg c135S8))
def c135S10(_:Unit):Cmd:=(.seq (.seq (.ops [
 ⟨some 41,.fieldAddr 119 (.tmp 7) 0,0,none⟩,
 ⟨some 42,.load 4 (.tmp 41),4,none⟩,
 ⟨some 43,.unOp .not 4 (.tmp 42),4,none⟩] [0,2,7,43])
 (.cond (.tmp 43)
 (.seq (.seq (.draw (drawOps 0 c135code) [0,2,7,9]) (sg c135S3)) (sg c135S4))
 (.skip [0,7]))) (sg c135S9))
def c135S11(_:Unit):Cmd:=(.seq (.seq (.ops [
 ⟨some 28,.move (.tmp 8),30,none⟩,
 ⟨some 29,.binOp .neq 30 (.tmp 28) (.const (.int .i64 0)) 30,4,none⟩,
 ⟨some 30,.move (.tmp 29),4,none⟩,
 ⟨some 31,.move (.tmp 2),3,(some (30,false))⟩,
 ⟨some 32,.binOp .eql 3 (.tmp 31) (.const (.int .i64 0)) 3,4,(some (30,false))⟩,
 ⟨some 33,.pick (.tmp 30) (.const (.bool true)) (.tmp 32),4,none⟩,
 ⟨some 34,.move (.tmp 33),4,none⟩,
 ⟨some 35,.move (.tmp 0),187,(some (34,false))⟩,
 ⟨some 36,.nilCheck (.tmp 35),0,(some (34,false))⟩,
 ⟨some 37,.fieldAddr 189 (.tmp 36) 3,0,(some (34,false))⟩,
 ⟨some 38,.load 3 (.tmp 37),3,(some (34,false))⟩,
 ⟨some 39,.binOp .lss 3 (.tmp 38) (.const (.int .i64 0)) 3,4,(some (34,false))⟩,
 ⟨some 40,.pick (.tmp 34) (.const (.bool true)) (.tmp 39),4,none⟩] [0,2,7,40])
 (.cond (.tmp 40)
 (.seq (.ops [
 ⟨some 6,.assign (.const (.bool false)),4,none⟩] [6])
 .ret)
 (.skip [0,2,7]))) (sg c135S10))
def c135:Cmd:=(.seq (.ops [
 ⟨some 6,.assign (.const (.bool false)),4,none⟩] [0,1,2])
 (.seq (.ops [
 ⟨some 12,.move (.tmp 0),187,none⟩,
 ⟨some 13,.nilCheck (.tmp 12),0,none⟩,
 ⟨some 14,.fieldAddr 189 (.tmp 13) 3,0,none⟩,
 ⟨some 15,.load 3 (.tmp 14),3,none⟩,
 ⟨some 16,.binOp .sub 3 (.tmp 15) (.const (.int .i64 1)) 3,3,none⟩,
 ⟨some 17,.nilCheck (.tmp 12),0,none⟩,
 ⟨some 18,.fieldAddr 189 (.tmp 17) 3,0,none⟩,
 ⟨none,.store 3 (.tmp 18) (.tmp 16),0,none⟩] [0,1,2])
 (.seq (.ops [
 ⟨some 20,.move (.tmp 0),187,none⟩,
 ⟨some 21,.nilCheck (.tmp 20),0,none⟩,
 ⟨some 22,.fieldAddr 189 (.tmp 21) 0,0,none⟩,
 ⟨some 23,.load 37 (.tmp 22),37,none⟩,
 ⟨some 24,.move (.tmp 1),3,none⟩,
 ⟨some 25,.call ⟨.value (.func 75),#[(.tmp 23),(.tmp 24)],#[37,3]⟩,133,none⟩,
 ⟨some 19,.move (.tmp 25),133,none⟩,
 ⟨some 26,.extract (.tmp 19) 0,119,none⟩,
 ⟨some 27,.extract (.tmp 19) 1,30,none⟩,
 ⟨some 7,.alloc 119,0,none⟩,
 ⟨none,.store 119 (.tmp 7) (.tmp 26),0,none⟩,
 ⟨some 8,.assign (.tmp 27),30,none⟩] [0,2,7,8]) (sg c135S11))))
attribute [go_sem] c135 c135S0 c135S1 c135S2 c135S3 c135S4 c135S5 c135S6 c135S7 c135S8 c135S9 c135S10
def c135D0:List (Nat × Ins):=[
 (0,⟨some 45,.move (.tmp 0),187,none⟩),
 (0,⟨some 46,.nilCheck (.tmp 45),0,none⟩),
 (0,⟨some 47,.fieldAddr 189 (.tmp 46) 1,0,none⟩),
 (1,⟨some 44,.load 119 (.tmp 7),119,none⟩),
 (2,⟨some 48,.load 9 (.tmp 47),9,none⟩),
 (3,⟨some 49,.call ⟨.value (.func 76),#[(.tmp 44),(.tmp 48)],#[119,9]⟩,3,none⟩),
 (0,⟨some 9,.assign (.tmp 49),3,none⟩)]
theorem c135draw0{L:List Nat}{ρ:Env}{w:World}{Q:Post}(S:World→Prop)(hS:S w.drew)(h:DG Tryz.prog S c135D0 L ρ w.drew Q):drawW Tryz.prog (drawOps 0 c135code) L ρ w Q :=
 drawW_held [0] [(0,1),(0,2),(0,3),(1,0),(2,4),(3,5),(0,6)] c135D0 (by kernel_rfl) (by kernel_rfl) (by kernel_rfl) S hS h
def c135D1:List (Nat × Ins):=[
 (0,⟨some 75,.move (.tmp 11),9,none⟩),
 (0,⟨some 76,.move (.tmp 0),187,none⟩),
 (0,⟨some 77,.nilCheck (.tmp 76),0,none⟩),
 (0,⟨some 78,.fieldAddr 189 (.tmp 77) 1,0,none⟩),
 (2,⟨some 79,.load 9 (.tmp 78),9,none⟩),
 (0,⟨some 80,.binOp .geq 9 (.tmp 75) (.tmp 79) 9,4,none⟩),
 (0,⟨some 81,.move (.tmp 80),4,none⟩),
 (0,⟨some 82,.move (.tmp 0),187,(some (81,true))⟩),
 (0,⟨some 83,.nilCheck (.tmp 82),0,(some (81,true))⟩),
 (0,⟨some 84,.fieldAddr 189 (.tmp 83) 2,0,(some (81,true))⟩),
 (0,⟨some 86,.move (.tmp 11),9,(some (81,true))⟩),
 (0,⟨some 87,.fieldAddr 119 (.tmp 7) 2,0,(some (81,true))⟩),
 (0,⟨some 89,.move (.tmp 10),3,(some (81,true))⟩),
 (1,⟨some 85,.load 131 (.tmp 84),131,(some (81,true))⟩),
 (2,⟨some 88,.load 22 (.tmp 87),22,(some (81,true))⟩),
 (0,⟨some 90,.indexAddr 22 (.tmp 88) (.tmp 89),0,(some (81,true))⟩),
 (2,⟨some 91,.load 9 (.tmp 90),9,(some (81,true))⟩),
 (3,⟨some 92,.call ⟨.value (.tmp 85),#[(.tmp 86),(.tmp 91)],#[9,9]⟩,4,(some (81,true))⟩),
 (0,⟨some 93,.unOp .not 4 (.tmp 92),4,(some (81,true))⟩),
 (0,⟨some 94,.pick (.tmp 81) (.tmp 93) (.const (.bool false)),4,none⟩)]
theorem c135draw1Y{L:List Nat}{ρ:Env}{w:World}{Q:Post}(S:World→Prop)(hS:S w.drew)(h:DY Tryz.prog S c135D1 L ρ w.drew Q):drawW Tryz.prog (drawOps 1 c135code) L ρ w Q :=
 drawW_heldY [10] [(0,0),(0,1),(0,2),(0,3),(2,4),(0,5),(0,6),(0,7),(0,8),(0,9),(0,11),(0,12),(0,14),(1,10),(2,13),(0,15),(2,16),(3,17),(0,18),(0,19)] c135D1 (by kernel_rfl) (by kernel_rfl) (by kernel_rfl) (by kernel_rfl) S hS h
theorem ent135(a0 a1 a2:Value)(w:World)(K:Value→World→Prop)(h:W Tryz.prog c135 [(0,a0),(1,a1),(2,a2)] w (finQ Tryz.prog [.tmp 6] K)):Ret Tryz.prog 135 [a0,a1,a2] w K :=
 Ret_of_W (code:=c135code) Tryz.func135 (by kernel_rfl) (by kernel_rfl) (of_decide_eq_true (by kernel_rfl)) h
@[go_sem] theorem go135:goFunc Tryz.prog 135=true:=by kernel_rfl
def c127code:Code:=match Tryz.f127.body with | some c=>c | none=>.skip
def c127S0(_:Unit):Cmd:=(.ops [
 ⟨some 42,.fieldAddr 119 (.tmp 1) 2,0,none⟩,
 ⟨some 43,.load 22 (.tmp 42),22,none⟩,
 ⟨some 44,.move (.tmp 5),3,none⟩,
 ⟨some 45,.indexAddr 22 (.tmp 43) (.tmp 44),0,none⟩,
 ⟨some 46,.load 9 (.tmp 45),9,none⟩,
 ⟨some 47,.call ⟨.value (.func 161),#[(.tmp 3),(.tmp 46)],#[209,9]⟩,213,none⟩] [1,3,19,20,21])
def c127S1(_:Unit):Cmd:=(.seq (.ops [
 ⟨some 32,.fieldAddr 119 (.tmp 1) 0,0,none⟩,
 ⟨some 33,.load 4 (.tmp 32),4,none⟩] [1,3,5,19,20,21,33])
 (.cond (.tmp 33)
 (.seq (.ops [
 ⟨some 34,.fieldAddr 119 (.tmp 1) 2,0,none⟩,
 ⟨some 35,.load 22 (.tmp 34),22,none⟩,
 ⟨some 36,.move (.tmp 5),3,none⟩,
 ⟨some 37,.indexAddr 22 (.tmp 35) (.tmp 36),0,none⟩,
 ⟨some 38,.load 9 (.tmp 37),9,none⟩,
 ⟨some 39,.call ⟨.builtin .len,#[(.tmp 38)],#[9]⟩,3,none⟩,
 ⟨some 40,.convert 3 5 (.tmp 39),5,none⟩,
 ⟨some 41,.call ⟨.value (.func 160),#[(.tmp 3),(.tmp 40)],#[209,5]⟩,211,none⟩] [1,3,5,19,20,21]) (sg c127S0))
 (.skip [1,3,19,20,21])))
def c127S2(_:Unit):Cmd:=(.seq (.ops [
 ⟨some 30,.move (.tmp 6),9,none⟩,
 ⟨some 31,.call ⟨.value (.func 161),#[(.tmp 3),(.tmp 30)],#[209,9]⟩,213,none⟩] [1,3,5,19,20,21]) (sg c127S1))
def c127S3(_:Unit):Cmd:=(.ops [
 ⟨some 48,.binOp .add 3 (.tmp 21) (.const (.int .i64 1)) 3,3,none⟩,
 ⟨some 21,.move (.tmp 48),3,none⟩] [1,3,19,20,21])
def c127S4(_:Unit):Cmd:=(.seq (.block 1 (.seq (.ops [
 ⟨some 23,.move (.tmp 21),3,none⟩,
 ⟨some 24,.indexAddr 22 (.tmp 19) (.tmp 21),0,none⟩,
 ⟨some 25,.load 9 (.tmp 24),9,none⟩,
 ⟨some 5,.assign (.tmp 23),3,none⟩,
 ⟨some 6,.assign (.tmp 25),9,none⟩] [1,3,5,6,19,20,21])
 (.seq (.ops [
 ⟨some 26,.move (.tmp 6),9,none⟩,
 ⟨some 27,.call ⟨.builtin .len,#[(.tmp 26)],#[9]⟩,3,none⟩,
 ⟨some 28,.convert 3 5 (.tmp 27),5,none⟩,
 ⟨some 29,.call ⟨.value (.func 160),#[(.tmp 3),(.tmp 28)],#[209,5]⟩,211,none⟩] [1,3,5,6,19,20,21]) (sg c127S2)))) (sg c127S3))
def c127L0(_:Unit):Cmd:=(.seq (.ops [
 ⟨some 22,.binOp .lss 3 (.tmp 21) (.tmp 20) 3,0,none⟩] [1,3,19,20,21,22])
 (.seq (.cond (.tmp 22)
 (.skip [1,3,19,20,21])
 (.exit 0 [1,3])) (sg c127S4)))
def c127S5(_:Unit):Cmd:=(.ops [
 ⟨some 59,.move (.tmp 8),3,none⟩,
 ⟨some 60,.binOp .shr 3 (.tmp 59) (.const (.int .u64 8)) 78,3,none⟩,
 ⟨some 61,.convert 3 5 (.tmp 60),5,none⟩,
 ⟨some 62,.call ⟨.value (.func 160),#[(.tmp 3),(.tmp 61)],#[209,5]⟩,211,none⟩] [3,50,51,52])
def c127S6(_:Unit):Cmd:=(.ops [
 ⟨some 63,.binOp .add 3 (.tmp 52) (.const (.int .i64 1)) 3,3,none⟩,
 ⟨some 52,.move (.tmp 63),3,none⟩] [3,50,51,52])
def c127S7(_:Unit):Cmd:=(.seq (.block 3 (.seq (.ops [
 ⟨some 54,.indexAddr 48 (.tmp 50) (.tmp 52),0,none⟩,
 ⟨some 55,.load 3 (.tmp 54),3,none⟩,
 ⟨some 8,.assign (.tmp 55),3,none⟩] [3,8,50,51,52])
 (.seq (.ops [
 ⟨some 56,.move (.tmp 8),3,none⟩,
 ⟨some 57,.convert 3 5 (.tmp 56),5,none⟩,
 ⟨some 58,.call ⟨.value (.func 160),#[(.tmp 3),(.tmp 57)],#[209,5]⟩,211,none⟩] [3,8,50,51,52]) (sg c127S5)))) (sg c127S6))
def c127L1(_:Unit):Cmd:=(.seq (.ops [
 ⟨some 53,.binOp .lss 3 (.tmp 52) (.tmp 51) 3,0,none⟩] [3,50,51,52,53])
 (.seq (.cond (.tmp 53)
 (.skip [3,50,51,52])
 (.exit 2 [3])) (sg c127S7)))
def c127S8(_:Unit):Cmd:=.ret
def c127S9(_:Unit):Cmd:=(.seq (.ops [
 ⟨some 64,.call ⟨.value (.func 162),#[(.tmp 3)],#[209]⟩,9,none⟩,
 ⟨some 2,.assign (.tmp 64),9,none⟩] [2]) (sg c127S8))
def c127S10(_:Unit):Cmd:=(.seq (.seq (.ops [
 ⟨some 49,.fieldAddr 119 (.tmp 1) 3,0,none⟩,
 ⟨some 50,.load 48 (.tmp 49),48,none⟩,
 ⟨some 51,.call ⟨.builtin .len,#[(.tmp 50)],#[48]⟩,3,none⟩,
 ⟨some 52,.move (.const (.int .i64 0)),3,none⟩] [3,50,51,52])
 (.block 2 (.loop (sg c127L1)))) (sg c127S9))
def c127S11(_:Unit):Cmd:=(.seq (.seq (.ops [
 ⟨some 18,.fieldAddr 119 (.tmp 1) 1,0,none⟩,
 ⟨some 19,.load 22 (.tmp 18),22,none⟩,
 ⟨some 20,.call ⟨.builtin .len,#[(.tmp 19)],#[22]⟩,3,none⟩,
 ⟨some 21,.move (.const (.int .i64 0)),3,none⟩] [1,3,19,20,21])
 (.block 0 (.loop (sg c127L0)))) (sg c127S10))
def c127S12(_:Unit):Cmd:=(.seq (.ops [
 ⟨some 13,.fieldAddr 119 (.tmp 1) 1,0,none⟩,
 ⟨some 14,.load 22 (.tmp 13),22,none⟩,
 ⟨some 15,.call ⟨.builtin .len,#[(.tmp 14)],#[22]⟩,3,none⟩,
 ⟨some 16,.convert 3 5 (.tmp 15),5,none⟩,
 ⟨some 17,.call ⟨.value (.func 160),#[(.tmp 3),(.tmp 16)],#[209,5]⟩,211,none⟩] [1,3]) (sg c127S11))
def c127S13(_:Unit):Cmd:=(.seq (.ops [
 ⟨some 11,.move (.tmp 4),5,none⟩,
 ⟨some 12,.call ⟨.value (.func 160),#[(.tmp 3),(.tmp 11)],#[209,5]⟩,211,none⟩] [1,3]) (sg c127S12))
def c127:Cmd:=(.seq (.ops [
 ⟨some 1,.box 119 (.tmp 0),0,none⟩,
 ⟨some 2,.assign (.const (.string (ofL []))),9,none⟩] [1])
 (.seq (.ops [
 ⟨some 3,.alloc 209,0,none⟩] [1,3])
 (.seq (.ops [
 ⟨some 4,.assign (.const (.int .u8 2)),5,none⟩] [1,3,4])
 (.seq (.seq (.ops [
 ⟨some 9,.fieldAddr 119 (.tmp 1) 0,0,none⟩,
 ⟨some 10,.load 4 (.tmp 9),4,none⟩] [1,3,4,10])
 (.cond (.tmp 10)
 (.ops [
 ⟨some 4,.assign (.const (.int .u8 1)),5,none⟩] [1,3,4])
 (.skip [1,3,4]))) (sg c127S13)))))
attribute [go_sem] c127 c127S3 c127S4 c127S5 c127S6 c127S7 c127S8 c127S9 c127S13
theorem ent127(a0:Value)(w:World)(K:Value→World→Prop)(h:W Tryz.prog c127 [(0,a0)] w (finQ Tryz.prog [.tmp 2] K)):Ret Tryz.prog 127 [a0] w K :=
 Ret_of_W (code:=c127code) Tryz.func127 (by kernel_rfl) (by kernel_rfl) (of_decide_eq_true (by kernel_rfl)) h
@[go_sem] theorem go127:goFunc Tryz.prog 127=true:=by kernel_rfl
def c165code:Code:=match Tryz.f165.body with | some c=>c | none=>.skip
def c165S0(_:Unit):Cmd:=(.seq (.block 1 (.seq (.ops [
 ⟨some 18,.indexAddr 22 (.tmp 14) (.tmp 16),0,none⟩,
 ⟨some 19,.load 9 (.tmp 18),9,none⟩,
 ⟨some 5,.assign (.tmp 19),9,none⟩] [1,3,5,14,15,16])
 (.ops [
 ⟨some 20,.move (.tmp 3),3,none⟩,
 ⟨some 21,.move (.tmp 5),9,none⟩,
 ⟨some 22,.call ⟨.builtin .len,#[(.tmp 21)],#[9]⟩,3,none⟩,
 ⟨some 23,.binOp .add 3 (.const (.int .i64 1)) (.tmp 22) 3,3,none⟩,
 ⟨some 24,.binOp .add 3 (.tmp 20) (.tmp 23) 3,3,none⟩,
 ⟨some 3,.assign (.tmp 24),3,none⟩] [1,3,14,15,16])))
 (.ops [
 ⟨some 25,.binOp .add 3 (.tmp 16) (.const (.int .i64 1)) 3,3,none⟩,
 ⟨some 16,.move (.tmp 25),3,none⟩] [1,3,14,15,16]))
def c165L0(_:Unit):Cmd:=(.seq (.ops [
 ⟨some 17,.binOp .lss 3 (.tmp 16) (.tmp 15) 3,0,none⟩] [1,3,14,15,16,17])
 (.seq (.cond (.tmp 17)
 (.skip [1,3,14,15,16])
 (.exit 0 [1,3])) (sg c165S0)))
def c165S1(_:Unit):Cmd:=(.seq (.block 3 (.seq (.ops [
 ⟨some 31,.indexAddr 22 (.tmp 27) (.tmp 29),0,none⟩,
 ⟨some 32,.load 9 (.tmp 31),9,none⟩,
 ⟨some 7,.assign (.tmp 32),9,none⟩] [3,7,27,28,29])
 (.ops [
 ⟨some 33,.move (.tmp 3),3,none⟩,
 ⟨some 34,.move (.tmp 7),9,none⟩,
 ⟨some 35,.call ⟨.builtin .len,#[(.tmp 34)],#[9]⟩,3,none⟩,
 ⟨some 36,.binOp .add 3 (.const (.int .i64 1)) (.tmp 35) 3,3,none⟩,
 ⟨some 37,.binOp .add 3 (.tmp 33) (.tmp 36) 3,3,none⟩,
 ⟨some 3,.assign (.tmp 37),3,none⟩] [3,27,28,29])))
 (.ops [
 ⟨some 38,.binOp .add 3 (.tmp 29) (.const (.int .i64 1)) 3,3,none⟩,
 ⟨some 29,.move (.tmp 38),3,none⟩] [3,27,28,29]))
def c165L1(_:Unit):Cmd:=(.seq (.ops [
 ⟨some 30,.binOp .lss 3 (.tmp 29) (.tmp 28) 3,0,none⟩] [3,27,28,29,30])
 (.seq (.cond (.tmp 30)
 (.skip [3,27,28,29])
 (.exit 2 [3])) (sg c165S1)))
def c165S2(_:Unit):Cmd:=(.seq (.ops [
 ⟨some 39,.move (.tmp 3),3,none⟩,
 ⟨some 2,.assign (.tmp 39),3,none⟩] [2])
 .ret)
def c165S3(_:Unit):Cmd:=(.seq (.seq (.ops [
 ⟨some 26,.fieldAddr 119 (.tmp 1) 2,0,none⟩,
 ⟨some 27,.load 22 (.tmp 26),22,none⟩,
 ⟨some 28,.call ⟨.builtin .len,#[(.tmp 27)],#[22]⟩,3,none⟩,
 ⟨some 29,.move (.const (.int .i64 0)),3,none⟩] [3,27,28,29])
 (.block 2 (.loop (sg c165L1)))) (sg c165S2))
def c165:Cmd:=(.seq (.ops [
 ⟨some 1,.box 119 (.tmp 0),0,none⟩,
 ⟨some 2,.assign (.const (.int .i64 0)),3,none⟩] [1])
 (.seq (.ops [
 ⟨some 8,.fieldAddr 119 (.tmp 1) 3,0,none⟩,
 ⟨some 9,.load 48 (.tmp 8),48,none⟩,
 ⟨some 10,.call ⟨.builtin .len,#[(.tmp 9)],#[48]⟩,3,none⟩,
 ⟨some 11,.binOp .mul 3 (.const (.int .i64 2)) (.tmp 10) 3,3,none⟩,
 ⟨some 12,.binOp .add 3 (.const (.int .i64 2)) (.tmp 11) 3,3,none⟩,
 ⟨some 3,.assign (.tmp 12),3,none⟩] [1,3])
 (.seq (.seq (.ops [
 ⟨some 13,.fieldAddr 119 (.tmp 1) 1,0,none⟩,
 ⟨some 14,.load 22 (.tmp 13),22,none⟩,
 ⟨some 15,.call ⟨.builtin .len,#[(.tmp 14)],#[22]⟩,3,none⟩,
 ⟨some 16,.move (.const (.int .i64 0)),3,none⟩] [1,3,14,15,16])
 (.block 0 (.loop (sg c165L0)))) (sg c165S3))))
attribute [go_sem] c165 c165S0 c165S1 c165S2
theorem ent165(a0:Value)(w:World)(K:Value→World→Prop)(h:W Tryz.prog c165 [(0,a0)] w (finQ Tryz.prog [.tmp 2] K)):Ret Tryz.prog 165 [a0] w K :=
 Ret_of_W (code:=c165code) Tryz.func165 (by kernel_rfl) (by kernel_rfl) (of_decide_eq_true (by kernel_rfl)) h
@[go_sem] theorem go165:goFunc Tryz.prog 165=true:=by kernel_rfl
def c76code:Code:=match Tryz.f76.body with | some c=>c | none=>.skip
def c76S0(_:Unit):Cmd:=(.seq (.ops [
 ⟨some 17,.move (.tmp 5),3,none⟩,
 ⟨some 4,.assign (.tmp 17),3,none⟩] [4])
 .ret)
def c76S1(_:Unit):Cmd:=(.seq (.seq (.ops [
 ⟨some 14,.move (.tmp 6),4,none⟩] [5,14])
 (.cond (.tmp 14)
 (.ops [
 ⟨some 15,.move (.tmp 5),3,none⟩,
 ⟨some 16,.binOp .add 3 (.tmp 15) (.const (.int .i64 1)) 3,3,none⟩,
 ⟨some 5,.assign (.tmp 16),3,none⟩] [5])
 (.skip [5]))) (sg c76S0))
def c76:Cmd:=(.seq (.ops [
 ⟨some 2,.box 119 (.tmp 0),0,none⟩,
 ⟨some 4,.assign (.const (.int .i64 0)),3,none⟩] [1,2])
 (.seq (.ops [
 ⟨some 8,.fieldAddr 119 (.tmp 2) 1,0,none⟩,
 ⟨some 9,.load 22 (.tmp 8),22,none⟩,
 ⟨some 10,.move (.tmp 1),9,none⟩,
 ⟨some 11,.call ⟨.value (.func 77),#[(.tmp 9),(.tmp 10)],#[22,9]⟩,135,none⟩,
 ⟨some 7,.move (.tmp 11),135,none⟩,
 ⟨some 12,.extract (.tmp 7) 0,3,none⟩,
 ⟨some 13,.extract (.tmp 7) 1,4,none⟩,
 ⟨some 5,.assign (.tmp 12),3,none⟩,
 ⟨some 6,.assign (.tmp 13),4,none⟩] [5,6]) (sg c76S1)))
attribute [go_sem] c76 c76S0 c76S1
theorem ent76(a0 a1:Value)(w:World)(K:Value→World→Prop)(h:W Tryz.prog c76 [(0,a0),(1,a1)] w (finQ Tryz.prog [.tmp 4] K)):Ret Tryz.prog 76 [a0,a1] w K :=
 Ret_of_W (code:=c76code) Tryz.func76 (by kernel_rfl) (by kernel_rfl) (of_decide_eq_true (by kernel_rfl)) h
@[go_sem] theorem go76:goFunc Tryz.prog 76=true:=by kernel_rfl
def c29code:Code:=match Tryz.f29.body with | some c=>c | none=>.skip
def c29S0(_:Unit):Cmd:=(.seq (.ops [
 ⟨some 14,.move (.tmp 7),30,none⟩,
 ⟨some 15,.binOp .neq 30 (.tmp 14) (.const (.int .i64 0)) 30,4,none⟩] [0,1,7,15])
 (.cond (.tmp 15)
 (.seq (.ops [
 ⟨some 16,.move (.tmp 7),30,none⟩,
 ⟨some 4,.assign (.const (.pointer none)),37,none⟩,
 ⟨some 5,.assign (.tmp 16),30,none⟩] [4,5])
 .ret)
 (.skip [0,1])))
def c29S1(_:Unit):Cmd:=(.seq (.ops [
 ⟨some 17,.move (.tmp 0),24,none⟩,
 ⟨some 18,.move (.tmp 1),3,none⟩,
 ⟨some 19,.build 56 #[(0,(.tmp 17)),(1,(.tmp 18))],56,none⟩,
 ⟨some 20,.box 56 (.tmp 19),37,none⟩,
 ⟨some 4,.assign (.tmp 20),37,none⟩,
 ⟨some 5,.assign (.const (.int .i64 0)),30,none⟩] [4,5])
 .ret)
def c29:Cmd:=(.seq (.ops [
 ⟨some 4,.assign (.const (.pointer none)),37,none⟩,
 ⟨some 5,.assign (.const (.int .i64 0)),30,none⟩] [0,1])
 (.seq (.seq (.ops [
 ⟨some 9,.move (.tmp 0),24,none⟩,
 ⟨some 10,.move (.tmp 1),3,none⟩,
 ⟨some 11,.call ⟨.value (.func 36),#[(.tmp 9),(.tmp 10)],#[24,3]⟩,31,none⟩,
 ⟨some 8,.move (.tmp 11),31,none⟩,
 ⟨some 12,.extract (.tmp 8) 0,3,none⟩,
 ⟨some 13,.extract (.tmp 8) 1,30,none⟩,
 ⟨some 6,.assign (.tmp 12),3,none⟩,
 ⟨some 7,.assign (.tmp 13),30,none⟩] [0,1,7]) (sg c29S0)) (sg c29S1)))
attribute [go_sem] c29 c29S0 c29S1
theorem ent29(a0 a1:Value)(w:World)(K:Value→World→Prop)(h:W Tryz.prog c29 [(0,a0),(1,a1)] w (finQ Tryz.prog [.tmp 4,.tmp 5] K)):Ret Tryz.prog 29 [a0,a1] w K :=
 Ret_of_W (code:=c29code) Tryz.func29 (by kernel_rfl) (by kernel_rfl) (of_decide_eq_true (by kernel_rfl)) h
@[go_sem] theorem go29:goFunc Tryz.prog 29=true:=by kernel_rfl
def c136code:Code:=match Tryz.f136.body with | some c=>c | none=>.skip
def c136S0(_:Unit):Cmd:=(.seq (.ops [
 ⟨some 53,.move (.tmp 8),4,none⟩] [2,4,5,6,7,8,9,33,34,53])
 (.cond (.tmp 53)
 (.ops [
 ⟨some 54,.fieldAddr 119 (.tmp 4) 2,0,none⟩,
 ⟨some 55,.load 22 (.tmp 54),22,none⟩,
 ⟨some 56,.move (.tmp 9),9,none⟩,
 ⟨some 57,.buildSlice 22 1 #[(0,(.tmp 56))],22,none⟩,
 ⟨some 58,.call ⟨.builtin .append,#[(.tmp 55),(.tmp 57)],#[22,22]⟩,22,none⟩,
 ⟨some 59,.fieldAddr 119 (.tmp 4) 2,0,none⟩,
 ⟨none,.store 22 (.tmp 59) (.tmp 58),0,none⟩] [2,4,5,6,7,8,33,34])
 (.skip [2,4,5,6,7,8,33,34])))
def c136S1(_:Unit):Cmd:=(.ops [
 ⟨some 69,.move (.tmp 7),9,none⟩,
 ⟨some 0,.assign (.tmp 69),9,none⟩] [0,2,4,5,33,34])
def c136S2(_:Unit):Cmd:=(.seq (.ops [
 ⟨some 63,.fieldAddr 119 (.tmp 4) 1,0,none⟩,
 ⟨some 64,.load 22 (.tmp 63),22,none⟩,
 ⟨some 65,.move (.tmp 6),9,none⟩,
 ⟨some 66,.buildSlice 22 1 #[(0,(.tmp 65))],22,none⟩,
 ⟨some 67,.call ⟨.builtin .append,#[(.tmp 64),(.tmp 66)],#[22,22]⟩,22,none⟩,
 ⟨some 68,.fieldAddr 119 (.tmp 4) 1,0,none⟩,
 ⟨none,.store 22 (.tmp 68) (.tmp 67),0,none⟩] [2,4,5,7,33,34]) (sg c136S1))
def c136S3(_:Unit):Cmd:=(.seq (.seq (.ops [
 ⟨some 60,.move (.tmp 8),4,none⟩,
 ⟨some 61,.unOp .not 4 (.tmp 60),4,none⟩] [2,4,5,6,7,33,34,61])
 (.cond (.tmp 61)
 (.seq (.ops [
 ⟨some 62,.build 119 #[],119,none⟩,
 ⟨none,.store 119 (.tmp 2) (.tmp 62),0,none⟩,
 ⟨some 3,.assign (.const (.int .i64 14)),30,none⟩] [2,3])
 .ret)
 (.skip [2,4,5,6,7,33,34]))) (sg c136S2))
def c136S4(_:Unit):Cmd:=(.seq (.seq (.ops [
 ⟨some 42,.move (.tmp 8),4,none⟩,
 ⟨some 43,.move (.tmp 42),4,none⟩,
 ⟨some 44,.fieldAddr 119 (.tmp 4) 0,0,(some (43,true))⟩,
 ⟨some 45,.load 4 (.tmp 44),4,(some (43,true))⟩,
 ⟨some 46,.pick (.tmp 43) (.tmp 45) (.const (.bool false)),4,none⟩] [2,4,5,6,7,8,33,34,46])
 (.cond (.tmp 46)
 (.seq (.ops [
 ⟨some 9,.assign (.const (.string (ofL []))),9,none⟩] [2,4,5,6,7,33,34])
 (.seq (.ops [
 ⟨some 48,.move (.tmp 7),9,none⟩,
 ⟨some 49,.call ⟨.value (.func 172),#[(.tmp 48)],#[9]⟩,225,none⟩,
 ⟨some 47,.move (.tmp 49),225,none⟩,
 ⟨some 50,.extract (.tmp 47) 0,9,none⟩,
 ⟨some 51,.extract (.tmp 47) 1,9,none⟩,
 ⟨some 52,.extract (.tmp 47) 2,4,none⟩,
 ⟨some 9,.assign (.tmp 50),9,none⟩,
 ⟨some 7,.assign (.tmp 51),9,none⟩,
 ⟨some 8,.assign (.tmp 52),4,none⟩] [2,4,5,6,7,8,9,33,34]) (sg c136S0)))
 (.skip [2,4,5,6,7,8,33,34]))) (sg c136S3))
def c136S5(_:Unit):Cmd:=(.ops [
 ⟨some 70,.binOp .add 3 (.tmp 34) (.const (.int .i64 1)) 3,3,none⟩,
 ⟨some 34,.move (.tmp 70),3,none⟩] [0,2,4,5,33,34])
def c136S6(_:Unit):Cmd:=(.seq (.block 1 (.seq (.ops [
 ⟨some 37,.move (.tmp 0),9,none⟩,
 ⟨some 38,.call ⟨.value (.func 172),#[(.tmp 37)],#[9]⟩,225,none⟩,
 ⟨some 36,.move (.tmp 38),225,none⟩,
 ⟨some 39,.extract (.tmp 36) 0,9,none⟩,
 ⟨some 40,.extract (.tmp 36) 1,9,none⟩,
 ⟨some 41,.extract (.tmp 36) 2,4,none⟩,
 ⟨some 6,.assign (.tmp 39),9,none⟩,
 ⟨some 7,.assign (.tmp 40),9,none⟩,
 ⟨some 8,.assign (.tmp 41),4,none⟩] [2,4,5,6,7,8,33,34]) (sg c136S4))) (sg c136S5))
def c136L0(_:Unit):Cmd:=(.seq (.ops [
 ⟨some 35,.binOp .lss 3 (.tmp 34) (.tmp 33) 3,4,none⟩] [0,2,4,5,33,34,35])
 (.seq (.cond (.tmp 35)
 (.skip [0,2,4,5,33,34])
 (.exit 0 [0,2,4,5])) (sg c136S6)))
def c136S7(_:Unit):Cmd:=(.ops [
 ⟨some 95,.move (.tmp 0),9,none⟩,
 ⟨some 96,.slice 9 (.tmp 95) (some (.const (.int .i64 2))) none none,9,none⟩,
 ⟨some 0,.assign (.tmp 96),9,none⟩] [0,2,4,75,76])
def c136S8(_:Unit):Cmd:=(.seq (.draw (drawOps 0 c136code) [0,2,4,75,76]) (sg c136S7))
def c136S9(_:Unit):Cmd:=(.ops [
 ⟨some 97,.binOp .add 3 (.tmp 76) (.const (.int .i64 1)) 3,3,none⟩,
 ⟨some 76,.move (.tmp 97),3,none⟩] [0,2,4,75,76])
def c136S10(_:Unit):Cmd:=(.seq (.block 3 (.seq (.seq (.ops [
 ⟨some 78,.move (.tmp 0),9,none⟩,
 ⟨some 79,.call ⟨.builtin .len,#[(.tmp 78)],#[9]⟩,3,none⟩,
 ⟨some 80,.binOp .lss 3 (.tmp 79) (.const (.int .i64 2)) 3,4,none⟩] [0,2,4,75,76,80])
 (.cond (.tmp 80)
 (.seq (.ops [
 ⟨some 81,.build 119 #[],119,none⟩,
 ⟨none,.store 119 (.tmp 2) (.tmp 81),0,none⟩,
 ⟨some 3,.assign (.const (.int .i64 14)),30,none⟩] [2,3])
 .ret)
 (.skip [0,2,4,75,76]))) (sg c136S8))) (sg c136S9))
def c136L1(_:Unit):Cmd:=(.seq (.ops [
 ⟨some 77,.binOp .lss 3 (.tmp 76) (.tmp 75) 3,4,none⟩] [0,2,4,75,76,77])
 (.seq (.cond (.tmp 77)
 (.skip [0,2,4,75,76])
 (.exit 2 [2,4])) (sg c136S10)))
def c136S11(_:Unit):Cmd:=(.seq (.ops [
 ⟨some 98,.load 119 (.tmp 4),119,none⟩,
 ⟨none,.store 119 (.tmp 2) (.tmp 98),0,none⟩,
 ⟨some 3,.assign (.const (.int .i64 0)),30,none⟩] [2,3])
 .ret)
def c136S12(_:Unit):Cmd:=(.seq (.seq (.ops [
 ⟨some 74,.move (.tmp 5),3,none⟩,
 ⟨some 75,.binOp .add 3 (.tmp 74) (.const (.int .i64 1)) 3,3,none⟩,
 ⟨some 76,.move (.const (.int .i64 0)),3,none⟩] [0,2,4,75,76])
 (.block 2 (.loop (sg c136L1)))) (sg c136S11))
def c136S13(_:Unit):Cmd:=(.seq (.seq (.ops [
 ⟨some 71,.fieldAddr 119 (.tmp 4) 0,0,none⟩,
 ⟨some 72,.load 4 (.tmp 71),4,none⟩] [0,2,4,5,72])
 (.cond (.tmp 72)
 (.seq (.ops [
 ⟨some 73,.load 119 (.tmp 4),119,none⟩,
 ⟨none,.store 119 (.tmp 2) (.tmp 73),0,none⟩,
 ⟨some 3,.assign (.const (.int .i64 0)),30,none⟩] [2,3])
 .ret)
 (.skip [0,2,4,5]))) (sg c136S12))
def c136S14(_:Unit):Cmd:=(.seq (.ops [
 ⟨some 24,.move (.tmp 0),9,none⟩,
 ⟨some 25,.index 9 (.tmp 24) (.const (.int .i64 0)),5,none⟩,
 ⟨some 26,.binOp .eql 5 (.tmp 25) (.const (.int .u8 1)) 5,4,none⟩,
 ⟨some 27,.build 119 #[(0,(.tmp 26))],119,none⟩,
 ⟨some 4,.alloc 119,0,none⟩,
 ⟨none,.store 119 (.tmp 4) (.tmp 27),0,none⟩] [0,2,4])
 (.seq (.ops [
 ⟨some 28,.move (.tmp 0),9,none⟩,
 ⟨some 29,.index 9 (.tmp 28) (.const (.int .i64 1)),5,none⟩,
 ⟨some 30,.convert 5 3 (.tmp 29),3,none⟩,
 ⟨some 5,.assign (.tmp 30),3,none⟩] [0,2,4,5])
 (.seq (.ops [
 ⟨some 31,.move (.tmp 0),9,none⟩,
 ⟨some 32,.slice 9 (.tmp 31) (some (.const (.int .i64 2))) none none,9,none⟩,
 ⟨some 0,.assign (.tmp 32),9,none⟩] [0,2,4,5])
 (.seq (.seq (.ops [
 ⟨some 33,.move (.tmp 5),3,none⟩,
 ⟨some 34,.move (.const (.int .i64 0)),3,none⟩] [0,2,4,5,33,34])
 (.block 0 (.loop (sg c136L0)))) (sg c136S13)))))
def c136:Cmd:=(.seq (.ops [
 ⟨some 2,.alloc 119,0,none⟩,
 ⟨some 3,.assign (.const (.int .i64 0)),30,none⟩] [0,2])
 (.seq (.seq (.ops [
 ⟨some 10,.move (.tmp 0),9,none⟩,
 ⟨some 11,.call ⟨.builtin .len,#[(.tmp 10)],#[9]⟩,3,none⟩,
 ⟨some 12,.binOp .lss 3 (.tmp 11) (.const (.int .i64 2)) 3,4,none⟩,
 ⟨some 13,.move (.tmp 12),4,none⟩,
 ⟨some 14,.move (.tmp 0),9,(some (13,false))⟩,
 ⟨some 15,.index 9 (.tmp 14) (.const (.int .i64 0)),5,(some (13,false))⟩,
 ⟨some 16,.binOp .neq 5 (.tmp 15) (.const (.int .u8 1)) 5,4,(some (13,false))⟩,
 ⟨some 17,.move (.tmp 16),4,(some (13,false))⟩,
 ⟨some 18,.move (.tmp 0),9,(some (17,true))⟩,
 ⟨some 19,.index 9 (.tmp 18) (.const (.int .i64 0)),5,(some (17,true))⟩,
 ⟨some 20,.binOp .neq 5 (.tmp 19) (.const (.int .u8 2)) 5,4,(some (17,true))⟩,
 ⟨some 21,.pick (.tmp 17) (.tmp 20) (.const (.bool false)),4,(some (13,false))⟩,
 ⟨some 22,.pick (.tmp 13) (.const (.bool true)) (.tmp 21),4,none⟩] [0,2,22])
 (.cond (.tmp 22)
 (.seq (.ops [
 ⟨some 23,.build 119 #[],119,none⟩,
 ⟨none,.store 119 (.tmp 2) (.tmp 23),0,none⟩,
 ⟨some 3,.assign (.const (.int .i64 14)),30,none⟩] [2,3])
 .ret)
 (.skip [0,2]))) (sg c136S14)))
attribute [go_sem] c136 c136S0 c136S1 c136S2 c136S5 c136S6 c136S7 c136S8 c136S9 c136S10 c136S11 c136S12
def c136D0:List (Nat × Ins):=[
 (0,⟨some 82,.fieldAddr 119 (.tmp 4) 3,0,none⟩),
 (0,⟨some 84,.move (.tmp 0),9,none⟩),
 (0,⟨some 85,.index 9 (.tmp 84) (.const (.int .i64 0)),5,none⟩),
 (0,⟨some 86,.convert 5 3 (.tmp 85),3,none⟩),
 (0,⟨some 87,.move (.tmp 0),9,none⟩),
 (0,⟨some 88,.index 9 (.tmp 87) (.const (.int .i64 1)),5,none⟩),
 (0,⟨some 89,.convert 5 3 (.tmp 88),3,none⟩),
 (0,⟨some 90,.binOp .shl 3 (.tmp 89) (.const (.int .u64 8)) 78,3,none⟩),
 (0,⟨some 91,.binOp .or 3 (.tmp 86) (.tmp 90) 3,3,none⟩),
 (1,⟨some 83,.load 48 (.tmp 82),48,none⟩),
 (2,⟨some 92,.buildSlice 48 1 #[(0,(.tmp 91))],48,none⟩),
 (3,⟨some 93,.call ⟨.builtin .append,#[(.tmp 83),(.tmp 92)],#[48,48]⟩,48,none⟩),
 (0,⟨some 94,.fieldAddr 119 (.tmp 4) 3,0,none⟩),
 (3,⟨none,.store 48 (.tmp 94) (.tmp 93),0,none⟩)]
theorem c136draw0{L:List Nat}{ρ:Env}{w:World}{Q:Post}(S:World→Prop)(hS:S w.drew)(h:DG Tryz.prog S c136D0 L ρ w.drew Q):drawW Tryz.prog (drawOps 0 c136code) L ρ w Q :=
 drawW_held [1] [(0,0),(0,2),(0,3),(0,4),(0,5),(0,6),(0,7),(0,8),(0,9),(1,1),(2,10),(3,11),(0,12),(3,13)] c136D0 (by kernel_rfl) (by kernel_rfl) (by kernel_rfl) S hS h
theorem ent136(a0:Value)(w:World)(K:Value→World→Prop)(h:W Tryz.prog c136 [(0,a0)] w (finQ Tryz.prog [.cell 2 119,.tmp 3] K)):Ret Tryz.prog 136 [a0] w K :=
 Ret_of_W (code:=c136code) Tryz.func136 (by kernel_rfl) (by kernel_rfl) (of_decide_eq_true (by kernel_rfl)) h
@[go_sem] theorem go136:goFunc Tryz.prog 136=true:=by kernel_rfl
def c172code:Code:=match Tryz.f172.body with | some c=>c | none=>.skip
def c172S0(_:Unit):Cmd:=.ret
def c172S1(_:Unit):Cmd:=(.seq (.ops [
 ⟨some 17,.move (.tmp 0),9,none⟩,
 ⟨some 18,.index 9 (.tmp 17) (.const (.int .i64 0)),5,none⟩,
 ⟨some 19,.convert 5 3 (.tmp 18),3,none⟩,
 ⟨some 20,.binOp .add 3 (.const (.int .i64 1)) (.tmp 19) 3,3,none⟩,
 ⟨some 5,.assign (.tmp 20),3,none⟩] [0,5])
 (.seq (.draw (drawOps 0 c172code) [2,3,4]) (sg c172S0)))
def c172:Cmd:=(.seq (.ops [
 ⟨some 2,.assign (.const (.string (ofL []))),9,none⟩,
 ⟨some 3,.assign (.const (.string (ofL []))),9,none⟩,
 ⟨some 4,.assign (.const (.bool false)),4,none⟩] [0])
 (.seq (.seq (.ops [
 ⟨some 6,.move (.tmp 0),9,none⟩,
 ⟨some 7,.binOp .eql 9 (.tmp 6) (.const (.string (ofL []))) 9,4,none⟩,
 ⟨some 8,.move (.tmp 7),4,none⟩,
 ⟨some 9,.move (.tmp 0),9,(some (8,false))⟩,
 ⟨some 10,.call ⟨.builtin .len,#[(.tmp 9)],#[9]⟩,3,(some (8,false))⟩,
 ⟨some 11,.move (.tmp 0),9,(some (8,false))⟩,
 ⟨some 12,.index 9 (.tmp 11) (.const (.int .i64 0)),5,(some (8,false))⟩,
 ⟨some 13,.convert 5 3 (.tmp 12),3,(some (8,false))⟩,
 ⟨some 14,.binOp .add 3 (.const (.int .i64 1)) (.tmp 13) 3,3,(some (8,false))⟩,
 ⟨some 15,.binOp .lss 3 (.tmp 10) (.tmp 14) 3,4,(some (8,false))⟩,
 ⟨some 16,.pick (.tmp 8) (.const (.bool true)) (.tmp 15),4,none⟩] [0,16])
 (.cond (.tmp 16)
 (.seq (.ops [
 ⟨some 2,.assign (.const (.string (ofL []))),9,none⟩,
 ⟨some 3,.assign (.const (.string (ofL []))),9,none⟩,
 ⟨some 4,.assign (.const (.bool false)),4,none⟩] [2,3,4])
 .ret)
 (.skip [0]))) (sg c172S1)))
attribute [go_sem] c172 c172S0 c172S1
def c172D0:List (Bool × Ins):=[
 (true,⟨some 21,.move (.tmp 0),9,none⟩),
 (true,⟨some 22,.move (.tmp 5),3,none⟩),
 (true,⟨some 23,.slice 9 (.tmp 21) (some (.const (.int .i64 1))) (some (.tmp 22)) none,9,none⟩),
 (true,⟨some 24,.move (.tmp 0),9,none⟩),
 (true,⟨some 25,.move (.tmp 5),3,none⟩),
 (true,⟨some 26,.slice 9 (.tmp 24) (some (.tmp 25)) none none,9,none⟩),
 (true,⟨some 2,.assign (.tmp 23),9,none⟩),
 (true,⟨some 3,.assign (.tmp 26),9,none⟩),
 (true,⟨some 4,.assign (.const (.bool true)),4,none⟩)]
theorem c172draw0{L:List Nat}{ρ:Env}{w:World}{Q:Post}(h:DL Tryz.prog c172D0 L ρ w.drew Q):drawW Tryz.prog (drawOps 0 c172code) L ρ w Q :=
 drawW_by [(true,0),(true,1),(true,2),(true,3),(true,4),(true,5),(true,6),(true,7),(true,8)] c172D0 (by kernel_rfl) (by kernel_rfl) (by kernel_rfl) h
theorem ent172(a0:Value)(w:World)(K:Value→World→Prop)(h:W Tryz.prog c172 [(0,a0)] w (finQ Tryz.prog [.tmp 2,.tmp 3,.tmp 4] K)):Ret Tryz.prog 172 [a0] w K :=
 Ret_of_W (code:=c172code) Tryz.func172 (by kernel_rfl) (by kernel_rfl) (of_decide_eq_true (by kernel_rfl)) h
@[go_sem] theorem go172:goFunc Tryz.prog 172=true:=by kernel_rfl
def c74code:Code:=match Tryz.f74.body with | some c=>c | none=>.skip
def c74S0(_:Unit):Cmd:=(.cond (.tmp 25)
 (.seq (.ops [
 ⟨some 4,.assign (.const (.bool false)),4,none⟩] [4])
 .ret)
 (.skip [0,1,5]))
def c74S1(_:Unit):Cmd:=(.ops [
 ⟨some 15,.move (.tmp 5),3,none⟩,
 ⟨some 16,.binOp .add 3 (.tmp 15) (.const (.int .i64 1)) 3,3,none⟩,
 ⟨some 5,.assign (.tmp 16),3,none⟩] [0,1,5])
def c74S2(_:Unit):Cmd:=(.seq (.block 1 (.seq (.draw (drawOps 0 c74code) [0,1,5,25]) (sg c74S0))) (sg c74S1))
def c74L0(_:Unit):Cmd:=(.seq (.seq (.ops [
 ⟨some 11,.move (.tmp 5),3,none⟩,
 ⟨some 12,.move (.tmp 0),46,none⟩,
 ⟨some 13,.call ⟨.builtin .len,#[(.tmp 12)],#[46]⟩,3,none⟩,
 ⟨some 14,.binOp .lss 3 (.tmp 11) (.tmp 13) 3,4,none⟩] [0,1,5,14])
 (.cond (.tmp 14)
 (.skip [0,1,5])
 (.exit 0 []))) (sg c74S2))
def c74S3(_:Unit):Cmd:=(.seq (.ops [
 ⟨some 4,.assign (.const (.bool true)),4,none⟩] [4])
 .ret)
def c74S4(_:Unit):Cmd:=(.seq (.seq (.ops [
 ⟨some 5,.assign (.const (.int .i64 0)),3,none⟩] [0,1,5])
 (.block 0 (.loop (sg c74L0)))) (sg c74S3))
def c74:Cmd:=(.seq (.ops [
 ⟨some 4,.assign (.const (.bool false)),4,none⟩] [0,1])
 (.seq (.seq (.ops [
 ⟨some 6,.move (.tmp 0),46,none⟩,
 ⟨some 7,.call ⟨.builtin .len,#[(.tmp 6)],#[46]⟩,3,none⟩,
 ⟨some 8,.move (.tmp 1),46,none⟩,
 ⟨some 9,.call ⟨.builtin .len,#[(.tmp 8)],#[46]⟩,3,none⟩,
 ⟨some 10,.binOp .neq 3 (.tmp 7) (.tmp 9) 3,4,none⟩] [0,1,10])
 (.cond (.tmp 10)
 (.seq (.ops [
 ⟨some 4,.assign (.const (.bool false)),4,none⟩] [4])
 .ret)
 (.skip [0,1]))) (sg c74S4)))
attribute [go_sem] c74 c74S0 c74S1 c74S2 c74S3 c74S4
def c74D0:List (Bool × Ins):=[
 (true,⟨some 17,.move (.tmp 0),46,none⟩),
 (true,⟨some 18,.move (.tmp 5),3,none⟩),
 (true,⟨some 19,.indexAddr 46 (.tmp 17) (.tmp 18),0,none⟩),
 (false,⟨some 20,.load 53 (.tmp 19),53,none⟩),
 (true,⟨some 21,.move (.tmp 1),46,none⟩),
 (true,⟨some 22,.move (.tmp 5),3,none⟩),
 (true,⟨some 23,.indexAddr 46 (.tmp 21) (.tmp 22),0,none⟩),
 (false,⟨some 24,.load 53 (.tmp 23),53,none⟩),
 (true,⟨some 25,.binOp .neq 53 (.tmp 20) (.tmp 24) 53,4,none⟩)]
theorem c74draw0{L:List Nat}{ρ:Env}{w:World}{Q:Post}(h:DL Tryz.prog c74D0 L ρ w.drew Q):drawW Tryz.prog (drawOps 0 c74code) L ρ w Q :=
 drawW_still [true,true,true,false,true,true,true,false,true] c74D0 (by kernel_rfl) (by kernel_rfl) (by kernel_rfl) h
theorem ent74(a0 a1:Value)(w:World)(K:Value→World→Prop)(h:W Tryz.prog c74 [(0,a0),(1,a1)] w (finQ Tryz.prog [.tmp 4] K)):Ret Tryz.prog 74 [a0,a1] w K :=
 Ret_of_W (code:=c74code) Tryz.func74 (by kernel_rfl) (by kernel_rfl) (of_decide_eq_true (by kernel_rfl)) h
@[go_sem] theorem go74:goFunc Tryz.prog 74=true:=by kernel_rfl
def c77code:Code:=match Tryz.f77.body with | some c=>c | none=>.skip
def c77S0(_:Unit):Cmd:=(.cond (.tmp 27)
 (.ops [
 ⟨some 28,.move (.tmp 9),3,none⟩,
 ⟨some 29,.binOp .add 3 (.tmp 28) (.const (.int .i64 1)) 3,3,none⟩,
 ⟨some 7,.assign (.tmp 29),3,none⟩] [0,1,6,7,8])
 (.ops [
 ⟨some 30,.move (.tmp 9),3,none⟩,
 ⟨some 8,.assign (.tmp 30),3,none⟩] [0,1,6,7,8]))
def c77S1(_:Unit):Cmd:=(.block 1 (.seq (.ops [
 ⟨some 16,.move (.tmp 7),3,none⟩,
 ⟨some 17,.move (.tmp 8),3,none⟩,
 ⟨some 18,.binOp .add 3 (.tmp 16) (.tmp 17) 3,3,none⟩,
 ⟨some 19,.convert 3 78 (.tmp 18),78,none⟩,
 ⟨some 20,.binOp .shr 78 (.tmp 19) (.const (.int .u64 1)) 78,78,none⟩,
 ⟨some 21,.convert 78 3 (.tmp 20),3,none⟩,
 ⟨some 9,.assign (.tmp 21),3,none⟩] [0,1,6,7,8,9])
 (.seq (.ops [
 ⟨some 22,.move (.tmp 0),22,none⟩,
 ⟨some 23,.move (.tmp 9),3,none⟩,
 ⟨some 24,.indexAddr 22 (.tmp 22) (.tmp 23),0,none⟩,
 ⟨some 25,.load 9 (.tmp 24),9,none⟩,
 ⟨some 26,.move (.tmp 1),9,none⟩,
 ⟨some 27,.call ⟨.value (.func 137),#[(.tmp 25),(.tmp 26)],#[9,9]⟩,4,none⟩] [0,1,6,7,8,9,27]) (sg c77S0))))
def c77L0(_:Unit):Cmd:=(.seq (.seq (.ops [
 ⟨some 13,.move (.tmp 7),3,none⟩,
 ⟨some 14,.move (.tmp 8),3,none⟩,
 ⟨some 15,.binOp .lss 3 (.tmp 13) (.tmp 14) 3,4,none⟩] [0,1,6,7,8,15])
 (.cond (.tmp 15)
 (.skip [0,1,6,7,8])
 (.exit 0 [0,1,6,7]))) (sg c77S1))
def c77S2(_:Unit):Cmd:=.ret
def c77S3(_:Unit):Cmd:=(.seq (.ops [
 ⟨some 31,.move (.tmp 7),3,none⟩,
 ⟨some 32,.move (.tmp 7),3,none⟩,
 ⟨some 33,.move (.tmp 6),3,none⟩,
 ⟨some 34,.binOp .lss 3 (.tmp 32) (.tmp 33) 3,4,none⟩,
 ⟨some 35,.move (.tmp 34),4,none⟩,
 ⟨some 36,.move (.tmp 0),22,(some (35,true))⟩,
 ⟨some 37,.move (.tmp 7),3,(some (35,true))⟩,
 ⟨some 38,.indexAddr 22 (.tmp 36) (.tmp 37),0,(some (35,true))⟩,
 ⟨some 39,.load 9 (.tmp 38),9,(some (35,true))⟩,
 ⟨some 40,.move (.tmp 1),9,(some (35,true))⟩,
 ⟨some 41,.binOp .eql 9 (.tmp 39) (.tmp 40) 9,4,(some (35,true))⟩,
 ⟨some 42,.move (.tmp 41),4,(some (35,true))⟩,
 ⟨some 43,.move (.tmp 0),22,(some (42,false))⟩,
 ⟨some 44,.move (.tmp 7),3,(some (42,false))⟩,
 ⟨some 45,.indexAddr 22 (.tmp 43) (.tmp 44),0,(some (42,false))⟩,
 ⟨some 46,.load 9 (.tmp 45),9,(some (42,false))⟩,
 ⟨some 47,.call ⟨.value (.func 138),#[(.tmp 46)],#[9]⟩,4,(some (42,false))⟩,
 ⟨some 48,.move (.tmp 47),4,(some (42,false))⟩,
 ⟨some 49,.move (.tmp 1),9,(some (48,true))⟩,
 ⟨some 50,.call ⟨.value (.func 138),#[(.tmp 49)],#[9]⟩,4,(some (48,true))⟩,
 ⟨some 51,.pick (.tmp 48) (.tmp 50) (.const (.bool false)),4,(some (42,false))⟩,
 ⟨some 52,.pick (.tmp 42) (.const (.bool true)) (.tmp 51),4,(some (35,true))⟩,
 ⟨some 53,.pick (.tmp 35) (.tmp 52) (.const (.bool false)),4,none⟩,
 ⟨some 4,.assign (.tmp 31),3,none⟩,
 ⟨some 5,.assign (.tmp 53),4,none⟩] [4,5]) (sg c77S2))
def c77:Cmd:=(.seq (.ops [
 ⟨some 4,.assign (.const (.int .i64 0)),3,none⟩,
 ⟨some 5,.assign (.const (.bool false)),4,none⟩] [0,1])
 (.seq (.ops [
 ⟨some 10,.move (.tmp 0),22,none⟩,
 ⟨some 11,.call ⟨.builtin .len,#[(.tmp 10)],#[22]⟩,3,none⟩,
 ⟨some 6,.assign (.tmp 11),3,none⟩] [0,1,6])
 (.seq (.ops [
 ⟨some 12,.move (.tmp 6),3,none⟩,
 ⟨some 7,.assign (.const (.int .i64 0)),3,none⟩,
 ⟨some 8,.assign (.tmp 12),3,none⟩] [0,1,6,7,8])
 (.seq (.block 0 (.loop (sg c77L0))) (sg c77S3)))))
attribute [go_sem] c77 c77S0 c77S1 c77S2
theorem ent77(a0 a1:Value)(w:World)(K:Value→World→Prop)(h:W Tryz.prog c77 [(0,a0),(1,a1)] w (finQ Tryz.prog [.tmp 4,.tmp 5] K)):Ret Tryz.prog 77 [a0,a1] w K :=
 Ret_of_W (code:=c77code) Tryz.func77 (by kernel_rfl) (by kernel_rfl) (of_decide_eq_true (by kernel_rfl)) h
@[go_sem] theorem go77:goFunc Tryz.prog 77=true:=by kernel_rfl
def c138code:Code:=match Tryz.f138.body with | some c=>c | none=>.skip
def c138:Cmd:=(.seq (.ops [
 ⟨some 2,.assign (.const (.bool false)),4,none⟩] [0])
 (.seq (.ops [
 ⟨some 3,.move (.tmp 0),9,none⟩,
 ⟨some 4,.move (.tmp 0),9,none⟩,
 ⟨some 5,.binOp .neq 9 (.tmp 3) (.tmp 4) 9,4,none⟩,
 ⟨some 2,.assign (.tmp 5),4,none⟩] [2])
 .ret))
attribute [go_sem] c138
theorem ent138(a0:Value)(w:World)(K:Value→World→Prop)(h:W Tryz.prog c138 [(0,a0)] w (finQ Tryz.prog [.tmp 2] K)):Ret Tryz.prog 138 [a0] w K :=
 Ret_of_W (code:=c138code) Tryz.func138 (by kernel_rfl) (by kernel_rfl) (of_decide_eq_true (by kernel_rfl)) h
@[go_sem] theorem go138:goFunc Tryz.prog 138=true:=by kernel_rfl
def c128code:Code:=match Tryz.f128.body with | some c=>c | none=>.skip
def c128S0(_:Unit):Cmd:=.ret
def c128S1(_:Unit):Cmd:=(.seq (.ops [
 ⟨some 55,.move (.tmp 9),22,none⟩,
 ⟨some 6,.assign (.tmp 55),22,none⟩] [6])
 .ret)
def c128S2(_:Unit):Cmd:=(.seq (.draw (drawOps 0 c128code) [9]) (sg c128S1))
def c128S3(_:Unit):Cmd:=(.seq (.ops [
 ⟨some 41,.move (.tmp 9),22,none⟩,
 ⟨some 42,.move (.tmp 1),3,none⟩,
 ⟨some 43,.slice 22 (.tmp 41) (some (.tmp 42)) none none,22,none⟩,
 ⟨some 44,.move (.tmp 2),22,none⟩,
 ⟨some 45,.call ⟨.builtin .copy,#[(.tmp 43),(.tmp 44)],#[22,22]⟩,3,none⟩] [0,1,7,9]) (sg c128S2))
def c128S4(_:Unit):Cmd:=(.cond (.tmp 31)
 (.seq (.ops [
 ⟨some 32,.move (.tmp 0),22,none⟩,
 ⟨some 33,.move (.tmp 1),3,none⟩,
 ⟨some 34,.slice 22 (.tmp 32) none (some (.tmp 33)) none,22,none⟩,
 ⟨some 35,.move (.tmp 8),3,none⟩,
 ⟨some 36,.move (.tmp 7),3,none⟩,
 ⟨some 37,.binOp .add 3 (.tmp 35) (.tmp 36) 3,3,none⟩,
 ⟨some 38,.move (.tmp 1),3,none⟩,
 ⟨some 39,.binOp .sub 3 (.tmp 37) (.tmp 38) 3,3,none⟩,
 ⟨some 40,.call ⟨.builtin .append,#[(.tmp 34),(.tmp 39)],#[22,3]⟩,22,none⟩,
 ⟨some 9,.assign (.tmp 40),22,none⟩] [0,1,2,7,9]) (sg c128S3))
 (.skip [0,1,2,7,8]))
def c128S5(_:Unit):Cmd:=(.seq (.ops [
 ⟨some 83,.move (.tmp 0),22,none⟩,
 ⟨some 6,.assign (.tmp 83),22,none⟩] [6])
 .ret)
def c128S6(_:Unit):Cmd:=(.seq (.ops [
 ⟨some 78,.move (.tmp 0),22,none⟩,
 ⟨some 79,.move (.tmp 1),3,none⟩,
 ⟨some 80,.slice 22 (.tmp 78) (some (.tmp 79)) none none,22,none⟩,
 ⟨some 81,.move (.tmp 2),22,none⟩,
 ⟨some 82,.call ⟨.builtin .copy,#[(.tmp 80),(.tmp 81)],#[22,22]⟩,3,none⟩] [0]) (sg c128S5))
def c128S7(_:Unit):Cmd:=(.cond (.tmp 68)
 (.seq (.draw (drawOps 1 c128code) [0,1,2]) (sg c128S6))
 (.skip [0,1,2,7,8]))
def c128S8(_:Unit):Cmd:=(.seq (.ops [
 ⟨some 94,.move (.tmp 0),22,none⟩,
 ⟨some 6,.assign (.tmp 94),22,none⟩] [6])
 .ret)
def c128S9(_:Unit):Cmd:=(.seq (.ops [
 ⟨some 89,.move (.tmp 0),22,none⟩,
 ⟨some 90,.move (.tmp 1),3,none⟩,
 ⟨some 91,.slice 22 (.tmp 89) (some (.tmp 90)) none none,22,none⟩,
 ⟨some 92,.move (.tmp 7),3,none⟩,
 ⟨some 93,.call ⟨.value (.func 164),#[(.tmp 91),(.tmp 92)],#[22,3]⟩,0,none⟩] [0]) (sg c128S8))
def c128S10(_:Unit):Cmd:=(.seq (.ops [
 ⟨some 84,.move (.tmp 0),22,none⟩,
 ⟨some 85,.move (.tmp 8),3,none⟩,
 ⟨some 86,.slice 22 (.tmp 84) (some (.tmp 85)) none none,22,none⟩,
 ⟨some 87,.move (.tmp 2),22,none⟩,
 ⟨some 88,.call ⟨.builtin .copy,#[(.tmp 86),(.tmp 87)],#[22,22]⟩,3,none⟩] [0,1,7]) (sg c128S9))
def c128S11(_:Unit):Cmd:=(.seq (.ops [
 ⟨some 56,.move (.tmp 0),22,none⟩,
 ⟨some 57,.move (.tmp 8),3,none⟩,
 ⟨some 58,.move (.tmp 7),3,none⟩,
 ⟨some 59,.binOp .add 3 (.tmp 57) (.tmp 58) 3,3,none⟩,
 ⟨some 60,.slice 22 (.tmp 56) none (some (.tmp 59)) none,22,none⟩,
 ⟨some 0,.assign (.tmp 60),22,none⟩] [0,1,2,7,8])
 (.seq (.seq (.ops [
 ⟨some 61,.move (.tmp 2),22,none⟩,
 ⟨some 62,.move (.tmp 0),22,none⟩,
 ⟨some 63,.move (.tmp 1),3,none⟩,
 ⟨some 64,.move (.tmp 7),3,none⟩,
 ⟨some 65,.binOp .add 3 (.tmp 63) (.tmp 64) 3,3,none⟩,
 ⟨some 66,.slice 22 (.tmp 62) (some (.tmp 65)) none none,22,none⟩,
 ⟨some 67,.call ⟨.value (.func 163),#[(.tmp 61),(.tmp 66)],#[22,22]⟩,4,none⟩,
 ⟨some 68,.unOp .not 4 (.tmp 67),4,none⟩] [0,1,2,7,8,68]) (sg c128S7)) (sg c128S10)))
def c128S12(_:Unit):Cmd:=(.seq (.seq (.ops [
 ⟨some 26,.move (.tmp 8),3,none⟩,
 ⟨some 27,.move (.tmp 7),3,none⟩,
 ⟨some 28,.binOp .add 3 (.tmp 26) (.tmp 27) 3,3,none⟩,
 ⟨some 29,.move (.tmp 0),22,none⟩,
 ⟨some 30,.call ⟨.builtin .cap,#[(.tmp 29)],#[22]⟩,3,none⟩,
 ⟨some 31,.binOp .gtr 3 (.tmp 28) (.tmp 30) 3,4,none⟩] [0,1,2,7,8,31]) (sg c128S4)) (sg c128S11))
def c128S13(_:Unit):Cmd:=(.seq (.ops [
 ⟨some 18,.move (.tmp 0),22,none⟩,
 ⟨some 19,.call ⟨.builtin .len,#[(.tmp 18)],#[22]⟩,3,none⟩,
 ⟨some 8,.assign (.tmp 19),3,none⟩] [0,1,2,7,8])
 (.seq (.seq (.ops [
 ⟨some 20,.move (.tmp 1),3,none⟩,
 ⟨some 21,.move (.tmp 8),3,none⟩,
 ⟨some 22,.binOp .eql 3 (.tmp 20) (.tmp 21) 3,4,none⟩] [0,1,2,7,8,22])
 (.cond (.tmp 22)
 (.seq (.ops [
 ⟨some 23,.move (.tmp 0),22,none⟩,
 ⟨some 24,.move (.tmp 2),22,none⟩,
 ⟨some 25,.call ⟨.builtin .append,#[(.tmp 23),(.tmp 24)],#[22,22]⟩,22,none⟩,
 ⟨some 6,.assign (.tmp 25),22,none⟩] [6]) (sg c128S0))
 (.skip [0,1,2,7,8]))) (sg c128S12)))
def c128:Cmd:=(.seq (.ops [
 ⟨some 6,.assign (.const (.slice none 0 0)),22,none⟩] [0,1,2])
 (.seq (.ops [
 ⟨some 10,.move (.tmp 0),22,none⟩,
 ⟨some 11,.move (.tmp 1),3,none⟩,
 ⟨some 12,.slice 22 (.tmp 10) (some (.tmp 11)) none none,22,none⟩] [0,1,2])
 (.seq (.ops [
 ⟨some 13,.move (.tmp 2),22,none⟩,
 ⟨some 14,.call ⟨.builtin .len,#[(.tmp 13)],#[22]⟩,3,none⟩,
 ⟨some 7,.assign (.tmp 14),3,none⟩] [0,1,2,7])
 (.seq (.seq (.ops [
 ⟨some 15,.move (.tmp 7),3,none⟩,
 ⟨some 16,.binOp .eql 3 (.tmp 15) (.const (.int .i64 0)) 3,4,none⟩] [0,1,2,7,16])
 (.cond (.tmp 16)
 (.seq (.ops [
 ⟨some 17,.move (.tmp 0),22,none⟩,
 ⟨some 6,.assign (.tmp 17),22,none⟩] [6])
 .ret)
 (.skip [0,1,2,7]))) (sg c128S13)))))
attribute [go_sem] c128 c128S0 c128S1 c128S2 c128S3 c128S4 c128S5 c128S6 c128S7 c128S8 c128S9 c128S10 c128S11 c128S12 c128S13
def c128D0:List (Bool × Ins):=[
 (true,⟨some 46,.move (.tmp 9),22,none⟩),
 (true,⟨some 47,.move (.tmp 1),3,none⟩),
 (true,⟨some 48,.move (.tmp 7),3,none⟩),
 (true,⟨some 49,.binOp .add 3 (.tmp 47) (.tmp 48) 3,3,none⟩),
 (true,⟨some 50,.slice 22 (.tmp 46) (some (.tmp 49)) none none,22,none⟩),
 (true,⟨some 51,.move (.tmp 0),22,none⟩),
 (true,⟨some 52,.move (.tmp 1),3,none⟩),
 (true,⟨some 53,.slice 22 (.tmp 51) (some (.tmp 52)) none none,22,none⟩),
 (false,⟨some 54,.call ⟨.builtin .copy,#[(.tmp 50),(.tmp 53)],#[22,22]⟩,3,none⟩)]
theorem c128draw0{L:List Nat}{ρ:Env}{w:World}{Q:Post}(h:DL Tryz.prog c128D0 L ρ w.drew Q):drawW Tryz.prog (drawOps 0 c128code) L ρ w Q :=
 drawW_by [(true,0),(true,1),(true,2),(true,3),(true,4),(true,5),(true,6),(true,7),(false,8)] c128D0 (by kernel_rfl) (by kernel_rfl) (by kernel_rfl) h
def c128D1:List (Bool × Ins):=[
 (true,⟨some 69,.move (.tmp 0),22,none⟩),
 (true,⟨some 70,.move (.tmp 1),3,none⟩),
 (true,⟨some 71,.move (.tmp 7),3,none⟩),
 (true,⟨some 72,.binOp .add 3 (.tmp 70) (.tmp 71) 3,3,none⟩),
 (true,⟨some 73,.slice 22 (.tmp 69) (some (.tmp 72)) none none,22,none⟩),
 (true,⟨some 74,.move (.tmp 0),22,none⟩),
 (true,⟨some 75,.move (.tmp 1),3,none⟩),
 (true,⟨some 76,.slice 22 (.tmp 74) (some (.tmp 75)) none none,22,none⟩),
 (false,⟨some 77,.call ⟨.builtin .copy,#[(.tmp 73),(.tmp 76)],#[22,22]⟩,3,none⟩)]
theorem c128draw1{L:List Nat}{ρ:Env}{w:World}{Q:Post}(h:DL Tryz.prog c128D1 L ρ w.drew Q):drawW Tryz.prog (drawOps 1 c128code) L ρ w Q :=
 drawW_by [(true,0),(true,1),(true,2),(true,3),(true,4),(true,5),(true,6),(true,7),(false,8)] c128D1 (by kernel_rfl) (by kernel_rfl) (by kernel_rfl) h
theorem ent128(a0 a1 a2:Value)(w:World)(K:Value→World→Prop)(h:W Tryz.prog c128 [(0,a0),(1,a1),(2,a2)] w (finQ Tryz.prog [.tmp 6] K)):Ret Tryz.prog 128 [a0,a1,a2] w K :=
 Ret_of_W (code:=c128code) Tryz.func128 (by kernel_rfl) (by kernel_rfl) (of_decide_eq_true (by kernel_rfl)) h
@[go_sem] theorem go128:goFunc Tryz.prog 128=true:=by kernel_rfl
def c160code:Code:=match Tryz.f160.body with | some c=>c | none=>.skip
def c160S0(_:Unit):Cmd:=(.seq (.ops [
 ⟨some 4,.assign (.const .nilIface),211,none⟩] [4])
 .ret)
def c160S1(_:Unit):Cmd:=(.seq (.ops [
 ⟨some 7,.move (.tmp 0),207,none⟩,
 ⟨some 8,.move (.tmp 0),207,none⟩,
 ⟨some 9,.nilCheck (.tmp 8),0,none⟩,
 ⟨some 10,.fieldAddr 209 (.tmp 9) 1,0,none⟩,
 ⟨some 11,.load 181 (.tmp 10),181,none⟩,
 ⟨some 12,.move (.tmp 1),5,none⟩,
 ⟨some 13,.buildSlice 181 1 #[(0,(.tmp 12))],181,none⟩,
 ⟨some 14,.call ⟨.builtin .append,#[(.tmp 11),(.tmp 13)],#[181,181]⟩,181,none⟩,
 ⟨some 15,.nilCheck (.tmp 7),0,none⟩,
 ⟨some 16,.fieldAddr 209 (.tmp 15) 1,0,none⟩,
 ⟨none,.store 181 (.tmp 16) (.tmp 14),0,none⟩] []) (sg c160S0))
def c160:Cmd:=(.seq (.ops [
 ⟨some 4,.assign (.const .nilIface),211,none⟩] [0,1])
 (.seq (.ops [
 ⟨some 5,.move (.tmp 0),207,none⟩,
 ⟨some 6,.call ⟨.value (.func 188),#[(.tmp 5)],#[207]⟩,0,none⟩] [0,1]) (sg c160S1)))
attribute [go_sem] c160 c160S0 c160S1
theorem ent160(a0 a1:Value)(w:World)(K:Value→World→Prop)(h:W Tryz.prog c160 [(0,a0),(1,a1)] w (finQ Tryz.prog [.tmp 4] K)):Ret Tryz.prog 160 [a0,a1] w K :=
 Ret_of_W (code:=c160code) Tryz.func160 (by kernel_rfl) (by kernel_rfl) (of_decide_eq_true (by kernel_rfl)) h
@[go_sem] theorem go160:goFunc Tryz.prog 160=true:=by kernel_rfl
def c137code:Code:=match Tryz.f137.body with | some c=>c | none=>.skip
def c137S0(_:Unit):Cmd:=.ret
def c137:Cmd:=(.seq (.ops [
 ⟨some 4,.assign (.const (.bool false)),4,none⟩] [0,1])
 (.seq (.ops [
 ⟨some 5,.move (.tmp 0),9,none⟩,
 ⟨some 6,.call ⟨.value (.func 173),#[(.tmp 5)],#[9]⟩,4,none⟩,
 ⟨some 7,.move (.tmp 6),4,none⟩,
 ⟨some 8,.move (.tmp 1),9,(some (7,true))⟩,
 ⟨some 9,.call ⟨.value (.func 173),#[(.tmp 8)],#[9]⟩,4,(some (7,true))⟩,
 ⟨some 10,.unOp .not 4 (.tmp 9),4,(some (7,true))⟩,
 ⟨some 11,.pick (.tmp 7) (.tmp 10) (.const (.bool false)),4,none⟩,
 ⟨some 12,.move (.tmp 11),4,none⟩,
 ⟨some 13,.move (.tmp 0),9,(some (12,false))⟩,
 ⟨some 14,.move (.tmp 1),9,(some (12,false))⟩,
 ⟨some 15,.binOp .lss 9 (.tmp 13) (.tmp 14) 9,4,(some (12,false))⟩,
 ⟨some 16,.pick (.tmp 12) (.const (.bool true)) (.tmp 15),4,none⟩,
 ⟨some 4,.assign (.tmp 16),4,none⟩] [4]) (sg c137S0)))
attribute [go_sem] c137 c137S0
theorem ent137(a0 a1:Value)(w:World)(K:Value→World→Prop)(h:W Tryz.prog c137 [(0,a0),(1,a1)] w (finQ Tryz.prog [.tmp 4] K)):Ret Tryz.prog 137 [a0,a1] w K :=
 Ret_of_W (code:=c137code) Tryz.func137 (by kernel_rfl) (by kernel_rfl) (of_decide_eq_true (by kernel_rfl)) h
@[go_sem] theorem go137:goFunc Tryz.prog 137=true:=by kernel_rfl
def c173code:Code:=match Tryz.f173.body with | some c=>c | none=>.skip
def c173:Cmd:=(.seq (.ops [
 ⟨some 2,.assign (.const (.bool false)),4,none⟩] [0])
 (.seq (.ops [
 ⟨some 3,.move (.tmp 0),9,none⟩,
 ⟨some 4,.move (.tmp 0),9,none⟩,
 ⟨some 5,.binOp .neq 9 (.tmp 3) (.tmp 4) 9,4,none⟩,
 ⟨some 2,.assign (.tmp 5),4,none⟩] [2])
 .ret))
attribute [go_sem] c173
theorem ent173(a0:Value)(w:World)(K:Value→World→Prop)(h:W Tryz.prog c173 [(0,a0)] w (finQ Tryz.prog [.tmp 2] K)):Ret Tryz.prog 173 [a0] w K :=
 Ret_of_W (code:=c173code) Tryz.func173 (by kernel_rfl) (by kernel_rfl) (of_decide_eq_true (by kernel_rfl)) h
@[go_sem] theorem go173:goFunc Tryz.prog 173=true:=by kernel_rfl
@[go_sem] theorem go4:goFunc Tryz.prog 4=true:=by kernel_rfl
@[go_sem] theorem go17:goFunc Tryz.prog 17=true:=by kernel_rfl
@[go_sem] theorem go166:goFunc Tryz.prog 166=true:=by kernel_rfl
@[go_sem] theorem go130:goFunc Tryz.prog 130=true:=by kernel_rfl
@[go_sem] theorem go133:goFunc Tryz.prog 133=true:=by kernel_rfl
@[go_sem] theorem go171:goFunc Tryz.prog 171=true:=by kernel_rfl
@[go_sem] theorem go71:goFunc Tryz.prog 71=true:=by kernel_rfl
@[go_sem] theorem go22:goFunc Tryz.prog 22=true:=by kernel_rfl
@[go_sem] theorem go20:goFunc Tryz.prog 20=true:=by kernel_rfl
@[go_sem] theorem go23:goFunc Tryz.prog 23=true:=by kernel_rfl
open Go Go.Ann Go.RowKit Go.WideShapes
section
variable {W0 w:World} {F:Nat→Prop} {L:List Res} {I:List Inv}
theorem begun08_ok{n:Nat}(mx:Nat)(h:St W0 w F L I)(h0:3≤n)(h1:n≤400)(h2:2≤mx) :
  Ret Tryz.prog 15 [.int .i64 n] w fun u w'=>∃ e:En,u=.tuple #[.pointer (some ⟨e.g,0,none⟩),.pointer (some ⟨e.p,0,none⟩)]∧e.hd=newHd n 460∧e.m=newDkP n 460∧e.mx=mx∧Pgr e (fmtP (List.replicate n zeroB)) W0 w' F L I:=by
 refine ent15 _ _ _ ?_
 simp (disch:=first|omega|exact zF rfl|exact zG rfl|exact fun h=>h|(simp only[zA,zB,zC,zD,bytesW];omega)) only[go_sem]
 have en:(n:Int)+462=((n+460+2:Nat):Int):=by omega
 rw [en]
 refine ⟨by constructor <;> omega,Ret.mono (new_ok h (n:=n+460+2) (by omega) (by omega)) ?_⟩
 rintro _ w2 ⟨g,vb,vl,rfl,s2⟩
 simp (disch:=first|omega|exact zF rfl|exact zG rfl|exact fun h=>h|(simp only[zA,zB,zC,zD,bytesW];omega)) only[go_sem]
 refine Ret.mono (format_ok (room:=460) s2 (by decide) (by omega) (by omega)) ?_
 rintro _ w3 ⟨rfl,vl',s3⟩
 simp (disch:=first|omega|exact zF rfl|exact zG rfl|exact fun h=>h|(simp only[zA,zB,zC,zD,bytesW];omega)) only[go_sem]
 refine Ret.mono (open0_ok (newHd n 460) s3 (fmtDk_ok (by omega) (by omega)) rfl (by simp [fmtDk]) (newest_fmt (by decide) (by omega) (by omega)) rfl) ?_
 rintro _ w4 ⟨b,mb,rfl,s4⟩
 simp (disch:=first|omega|exact zF rfl|exact zG rfl|exact fun h=>h|(simp only[zA,zB,zC,zD,bytesW];omega)) only[go_sem]
 refine Ret.mono (pnew_ok mx s4 (newSto_live (by omega) (by omega) (by omega) (by omega)) ⟨h2,fun _ h=>(by cases h)⟩) ?_
 rintro _ w5 ⟨p,c,rfl,s5⟩
 have s5:Pgr ⟨p,b,mb,g,c,vb,vl',newHd n 460,newDkP n 460,mx⟩ (pgs (newSto n 460)) W0 w5 F L I:=s5
 have ep:pgs (newSto n 460)=List.replicate n zeroB:=newSto_pgs (by omega) (by omega) (by omega) (by omega)
 obtain ⟨e,hep,heg,heh,hem,hmx,k5⟩:∃ e:En,e.p=p∧e.g=g∧e.hd=newHd n 460∧e.m=newDkP n 460∧e.mx=mx∧Pgr e (pgs (newSto n 460)) W0 w5 F L I:=⟨_,rfl,rfl,rfl,rfl,rfl,s5⟩
 rw [ep] at k5
 subst hep heg
 have h3:3≤(List.replicate n zeroB).length:=by rw [List.length_replicate]; exact h0
 generalize List.replicate n zeroB=P0 at k5 h3 ⊢
 simp (disch:=first|omega|exact zF rfl|exact zG rfl|exact fun h=>h|(simp only[zA,zB,zC,zD,bytesW];omega)) only[go_sem]
 refine Ret.mono (pformat_ok k5 h3) ?_
 rintro _ w6 ⟨rfl,s6⟩
 simp (disch:=first|omega|exact zF rfl|exact zG rfl|exact fun h=>h|(simp only[zA,zB,zC,zD,bytesW];omega)) only[go_sem]
 exact ⟨e,rfl,heh,hem,hmx,s6⟩
end
section
variable {W0 w:World} {F:Nat→Prop} {L:List Res} {I:List Inv} {e:En} {P:List (List UInt8)}
def NoT(w:World)(t:Value):Prop:=t=.pointer none∨∃ tb,t=.pointer (some ⟨tb,0,none⟩)∧Blk w tb #[.pointer none,.int .i64 0] 56
theorem NoT.below{w':World}{t:Value}(h:NoT w t)(hb:Below w.heap.size w w'):NoT w' t:=by
 rcases h with h | ⟨tb,h,hB⟩
 ·exact .inl h
 ·exact .inr ⟨tb,h,hB.below hb hB.lt⟩
theorem noroot_ok{t:Value}(w:World)(h:NoT w t):Ret Tryz.prog 63 [t] w fun u w'=>u=.tuple #[.int .i64 0,.int .i64 3]∧w'=w:=by
 rcases h with rfl | ⟨tb,rfl,hB⟩
 ·refine ent63 _ _ _ ?_
  simp (disch:=first|omega|exact zF rfl|exact zG rfl|exact fun h=>h|(simp only[zA,zB,zC,zD,bytesW];omega)) only[go_sem]
 ·have r:=hB.rules
  refine ent63 _ _ _ ?_
  simp (disch:=first|omega|exact zF rfl|exact zG rfl|exact fun h=>h|(simp only[zA,zB,zC,zD,bytesW];omega)) only[go_sem,r]
theorem noget_ok{t:Value}(k:List UInt8)(w:World)(h:NoT w t):Ret Tryz.prog 25 [t,.string (ofL k)] w fun u w'=>u=.tuple #[.string (ofL []),.int .i64 3]∧w'=w:=by
 refine ent25 _ _ _ _ ?_
 simp (disch:=first|omega|exact zF rfl|exact zG rfl|exact fun h=>h|(simp only[zA,zB,zC,zD,bytesW];omega)) only[go_sem]
 refine Ret.mono (noroot_ok w h) ?_
 rintro _ _ ⟨rfl,rfl⟩
 simp (disch:=first|omega|exact zF rfl|exact zG rfl|exact fun h=>h|(simp only[zA,zB,zC,zD,bytesW];omega)) only[go_sem]
theorem noput_ok{t:Value}(k v:List UInt8)(w:World)(h:NoT w t):Ret Tryz.prog 18 [t,.string (ofL k),.string (ofL v)] w fun u w'=>u=.int .i64 3∧w'=w:=by
 refine ent18 _ _ _ _ _ ?_
 simp (disch:=first|omega|exact zF rfl|exact zG rfl|exact fun h=>h|(simp only[zA,zB,zC,zD,bytesW];omega)) only[go_sem,c18S3,c18S4,c18S11,c18S13,c18S14,c18S15]
 refine Ret.mono (noroot_ok w h) ?_
 rintro _ _ ⟨rfl,rfl⟩
 simp (disch:=first|omega|exact zF rfl|exact zG rfl|exact fun h=>h|(simp only[zA,zB,zC,zD,bytesW];omega)) only[go_sem,c18S3,c18S4,c18S11,c18S13,c18S14,c18S15]
theorem nodel_ok{t:Value}(k:List UInt8)(w:World)(h:NoT w t):Ret Tryz.prog 26 [t,.string (ofL k)] w fun u w'=>u=.int .i64 3∧w'=w:=by
 refine ent26 _ _ _ _ ?_
 simp (disch:=first|omega|exact zF rfl|exact zG rfl|exact fun h=>h|(simp only[zA,zB,zC,zD,bytesW];omega)) only[go_sem]
 refine Ret.mono (noget_ok k w h) ?_
 rintro _ _ ⟨rfl,rfl⟩
 simp (disch:=first|omega|exact zF rfl|exact zG rfl|exact fun h=>h|(simp only[zA,zB,zC,zD,bytesW];omega)) only[go_sem]
end
open Go Go.Ann Go.RowKit Go.WideShapes
def fromF(b:Nat):Value:=.func (.func 134) #[] #[.pointer (some ⟨b,0,none⟩),.pointer (some ⟨b+1,0,none⟩)]
theorem from_ok{t:Value}(k:List UInt8)(w:World)(ht:t=.pointer none∨∃ tb,t=.pointer (some ⟨tb,0,none⟩)):Ret Tryz.prog 72 [t,.string (ofL k)] w fun u w'=>u=fromF w.heap.size∧w'=(w.alloc (.cells #[t] 37)).alloc (.cells #[.string (ofL k)] 9):=by
 unfold fromF
 rcases ht with rfl | ⟨tb,rfl⟩
 ·refine ent72 _ _ _ _ ?_
  simp (disch:=first|omega|exact zF rfl|exact zG rfl|exact fun h=>h|(simp only[zA,zB,zC,zD,bytesW];omega)) only[go_sem]
 ·refine ent72 _ _ _ _ ?_
  simp (disch:=first|omega|exact zF rfl|exact zG rfl|exact fun h=>h|(simp only[zA,zB,zC,zD,bytesW];omega)) only[go_sem]
theorem tall_ok{t:Value}(w:World)(ht:t=.pointer none∨∃ tb,t=.pointer (some ⟨tb,0,none⟩)):Ret Tryz.prog 82 [t] w fun u w'=>u=fromF w.heap.size∧w'=(w.alloc (.cells #[t] 37)).alloc (.cells #[.string (ofL [])] 9):=by
 refine ent82 _ _ _ ?_
 simp (disch:=first|omega|exact zF rfl|exact zG rfl|exact fun h=>h|(simp only[zA,zB,zC,zD,bytesW];omega)) only[go_sem]
 refine Ret.mono (from_ok [] w ht) ?_
 rintro _ _ ⟨rfl,rfl⟩
 unfold fromF
 simp (disch:=first|omega|exact zF rfl|exact zG rfl|exact fun h=>h|(simp only[zA,zB,zC,zD,bytesW];omega)) only[go_sem]
theorem NoT.ptr{w:World}{t:Value}(h:NoT w t):t=.pointer none∨∃ tb,t=.pointer (some ⟨tb,0,none⟩):=by
 rcases h with h | ⟨tb,h,_⟩
 ·exact .inl h
 ·exact .inr ⟨tb,h⟩
theorem nofrom1_ok{t fv:Value}{b:Nat}(w:World)(h:NoT w t)(hb:w.cell? ⟨b,0,none⟩=some t):Ret Tryz.prog 134 [fv,.pointer (some ⟨b,0,none⟩),.pointer (some ⟨b+1,0,none⟩)] w fun _ w'=>w'=w:=by
 refine ent134 _ _ _ _ _ ?_
 have key:W Tryz.prog (c134S0 ()) [(0,fv),(1,.pointer (some ⟨b,0,none⟩)),(2,.pointer (some ⟨b+1,0,none⟩)),(4,.int .i64 0),(5,.int .i64 3)] w (finQ Tryz.prog [] fun _ w'=>w'=w):=by
  simp (disch:=first|omega|exact zF rfl|exact zG rfl|exact fun h=>h|(simp only[zA,zB,zC,zD,bytesW];omega)) only[go_sem,c134S0]
 rcases h.ptr with rfl | ⟨tb,rfl⟩
 ·simp (disch:=first|omega|exact zF rfl|exact zG rfl|exact fun h=>h|(simp only[zA,zB,zC,zD,bytesW];omega)) only[go_sem,hb]
  refine Ret.mono (noroot_ok w h) ?_
  rintro _ _ ⟨rfl,rfl⟩
  simp (disch:=first|omega|exact zF rfl|exact zG rfl|exact fun h=>h|(simp only[zA,zB,zC,zD,bytesW];omega)) only[go_sem]
  exact key
 ·simp (disch:=first|omega|exact zF rfl|exact zG rfl|exact fun h=>h|(simp only[zA,zB,zC,zD,bytesW];omega)) only[go_sem,hb]
  refine Ret.mono (noroot_ok w h) ?_
  rintro _ _ ⟨rfl,rfl⟩
  simp (disch:=first|omega|exact zF rfl|exact zG rfl|exact fun h=>h|(simp only[zA,zB,zC,zD,bytesW];omega)) only[go_sem]
  exact key
theorem stS_ok{W0:World}{F:Nat→Prop}{I:List Inv}{σ:Type}{T:σ→List Res}:RgS (fun (s:σ) R w'=>St W0 w' F (R++T s) I):=by
 refine ⟨fun {s l o R w} h=>h.obj 0 rfl,fun {s l o R w} o2 h=>h.putObj 0 rfl o2,fun {s r R w} h=>h.sub (List.sublist_cons_self ..),fun {s R w} o h=>h.lay o⟩
theorem nocount_ok{t:Value}(w:World)(h:NoT w t):Ret Tryz.prog 27 [t] w fun u w'=>u=.int .i64 0∧Below w.heap.size w w':=by
 refine ent27 _ _ _ ?_
 simp (disch:=first|omega|exact zF rfl|exact zG rfl|exact fun h=>h|(simp only[zA,zB,zC,zD,bytesW];omega)) only[go_sem,c27B0]
 have s1:=(St.start (W0:=w)).box #[.int .i64 0] 3
 have h1:=h.below s1.bel
 generalize w.alloc (.cells #[.int .i64 0] 3)=w1 at s1 h1 ⊢
 obtain ⟨b,hbb⟩:∃ b,b=w.heap.size:=⟨_,rfl⟩
 rw [← hbb] at s1 ⊢
 refine Ret.mono (tall_ok w1 h1.ptr) ?_
 rintro _ _ ⟨rfl,rfl⟩
 have s3:=(s1.box #[t] 37).box #[.string (ofL [])] 9
 have h3:=h1.below (((Below.refl _ w1).alloc (Nat.le_refl _) (.cells #[t] 37)).alloc (by simp) (.cells #[.string (ofL [])] 9))
 unfold fromF
 simp (disch:=first|omega|exact zF rfl|exact zG rfl|exact fun h=>h|(simp only[zA,zB,zC,zD,bytesW];omega)) only[go_sem,c27B0]
 rw [World.size_alloc] at s3
 generalize (w1.alloc (.cells #[t] 37)).alloc (.cells #[.string (ofL [])] 9)=w3 at s3 h3 ⊢
 generalize w1.heap.size=b2 at s3 ⊢
 refine RangeW_free (stS_ok (T:=fun _:Unit=>[.blk (b2+1) #[.string (ofL [])] 9,.blk b2 #[t] 37,.blk b #[.int .i64 0] 3])) (fun x:List UInt8 × List UInt8=>[.string (ofL x.1),.string (ofL x.2)]) () (fun _ _=>False) (fun _ _ _=>False) (fun _ _ _=>False) (fun _=>True) (fun _=>False) rfl (by kernel_rfl) s3 (fun _=>rfl) ?_ ?_ ?_ ?_
 ·intro fv l D o o' w4 _ s4
  have h4:NoT w4 t:=h.below s4.bel
  refine Ret.mono (nofrom1_ok w4 h4 ((s4.rules 3 rfl).1 0)) ?_
  rintro _ _ rfl
  exact .inl ⟨(),trivial,s4⟩
 ·rintro _ _ _ _ _ _ _ hf
  exact hf.elim
 ·rintro _ D w4 _ s4
  have r:=s4.rules 3 rfl
  have hD:=s4.obj 0 rfl
  simp (disch:=first|omega|exact zF rfl|exact zG rfl|exact fun h=>h|(simp only[zA,zB,zC,zD,bytesW];omega)) only[go_sem,c27B0,r,hD]
  exact hbb ▸ (s4.putObj 0 rfl (.deferred none)).bel
 ·rintro _ _ _ hf
  exact hf.elim
theorem noall_ok{t:Value}(w:World)(h:NoT w t):Ret Tryz.prog 28 [t] w fun u w'=>u=.slice none 0 0∧Below w.heap.size w w':=by
 refine ent28 _ _ _ ?_
 simp (disch:=first|omega|exact zF rfl|exact zG rfl|exact fun h=>h|(simp only[zA,zB,zC,zD,bytesW];omega)) only[go_sem]
 have s1:=(St.start (W0:=w)).box #[.slice none 0 0] 46
 have h1:=h.below s1.bel
 generalize w.alloc (.cells #[.slice none 0 0] 46)=w1 at s1 h1 ⊢
 obtain ⟨b,hbb⟩:∃ b,b=w.heap.size:=⟨_,rfl⟩
 rw [← hbb] at s1 ⊢
 refine Ret.mono (tall_ok w1 h1.ptr) ?_
 rintro _ _ ⟨rfl,rfl⟩
 have s3:=(s1.box #[t] 37).box #[.string (ofL [])] 9
 unfold fromF
 simp (disch:=first|omega|exact zF rfl|exact zG rfl|exact fun h=>h|(simp only[zA,zB,zC,zD,bytesW];omega)) only[go_sem]
 rw [World.size_alloc] at s3
 generalize (w1.alloc (.cells #[t] 37)).alloc (.cells #[.string (ofL [])] 9)=w3 at s3 ⊢
 generalize w1.heap.size=b2 at s3 ⊢
 have h3:NoT w3 t:=h.below s3.bel
 refine callW_go ⟨by kernel_rfl,Ret.mono (nofrom1_ok w3 h3 ((s3.rules 1 rfl).1 0)) ?_⟩
 rintro _ _ rfl
 have r:=s3.rules 2 rfl
 simp (disch:=first|omega|exact zF rfl|exact zG rfl|exact fun h=>h|(simp only[zA,zB,zC,zD,bytesW];omega)) only[go_sem,r]
 exact hbb ▸ s3.bel
theorem nosome_ok{t:Value}(k:List UInt8)(w:World)(h:NoT w t):Ret Tryz.prog 21 [t,.string (ofL k),.int .i64 3] w fun u w'=>u=.slice none 0 0∧Below w.heap.size w w':=by
 refine ent21 _ _ _ _ _ ?_
 simp (disch:=first|omega|exact zF rfl|exact zG rfl|exact fun h=>h|(simp only[zA,zB,zC,zD,bytesW];omega)) only[go_sem]
 have s1:=((St.start (W0:=w)).box #[.int .i64 3] 3).box #[.slice none 0 0] 46
 rw [World.size_alloc] at s1
 generalize (w.alloc (.cells #[.int .i64 3] 3)).alloc (.cells #[.slice none 0 0] 46)=w1 at s1 ⊢
 have h1:=h.below s1.bel
 obtain ⟨b,hbb⟩:∃ b,b=w.heap.size:=⟨_,rfl⟩
 rw [← hbb] at s1 ⊢
 refine Ret.mono (from_ok k w1 h1.ptr) ?_
 rintro _ _ ⟨rfl,rfl⟩
 have s3:=(s1.box #[t] 37).box #[.string (ofL k)] 9
 unfold fromF
 simp (disch:=first|omega|exact zF rfl|exact zG rfl|exact fun h=>h|(simp only[zA,zB,zC,zD,bytesW];omega)) only[go_sem]
 rw [World.size_alloc] at s3
 generalize (w1.alloc (.cells #[t] 37)).alloc (.cells #[.string (ofL k)] 9)=w3 at s3 ⊢
 generalize w1.heap.size=b2 at s3 ⊢
 have h3:NoT w3 t:=h.below s3.bel
 refine callW_go ⟨by kernel_rfl,Ret.mono (nofrom1_ok w3 h3 ((s3.rules 1 rfl).1 0)) ?_⟩
 rintro _ _ rfl
 have r:=s3.rules 2 rfl
 simp (disch:=first|omega|exact zF rfl|exact zG rfl|exact fun h=>h|(simp only[zA,zB,zC,zD,bytesW];omega)) only[go_sem,r]
 exact hbb ▸ s3.bel
section
variable {W0 w:World} {F:Nat→Prop} {L:List Res} {I:List Inv} {e:En} {P:List (List UInt8)}
theorem pnoroot_ok(i:Int)(w:World):Ret Tryz.prog 36 [.pointer none,.int .i64 i] w fun u w'=>u=.tuple #[.int .i64 0,.int .i64 3]∧w'=w:=by
 have made:Ret Tryz.prog 96 [.pointer none] w fun u w'=>u=.bool false∧w'=w:=by
  refine ent96 _ _ _ ?_
  simp (disch:=first|omega|exact zF rfl|exact zG rfl|exact fun h=>h|(simp only[zA,zB,zC,zD,bytesW];omega)) only[go_sem]
 refine ent36 _ _ _ _ ?_
 simp (disch:=first|omega|exact zF rfl|exact zG rfl|exact fun h=>h|(simp only[zA,zB,zC,zD,bytesW];omega)) only[go_sem]
 refine Ret.mono made ?_
 rintro _ _ ⟨rfl,rfl⟩
 simp (disch:=first|omega|exact zF rfl|exact zG rfl|exact fun h=>h|(simp only[zA,zB,zC,zD,bytesW];omega)) only[go_sem]
theorem noopen_ok(i:Int)(w:World):Ret Tryz.prog 29 [.pointer none,.int .i64 i] w fun u w'=>u=.tuple #[.pointer none,.int .i64 3]∧w'=w:=by
 refine ent29 _ _ _ _ ?_
 simp (disch:=first|omega|exact zF rfl|exact zG rfl|exact fun h=>h|(simp only[zA,zB,zC,zD,bytesW];omega)) only[go_sem]
 refine Ret.mono (pnoroot_ok i w) ?_
 rintro _ _ ⟨rfl,rfl⟩
 simp (disch:=first|omega|exact zF rfl|exact zG rfl|exact fun h=>h|(simp only[zA,zB,zC,zD,bytesW];omega)) only[go_sem]
theorem open16_ok(h:Pgr e P W0 w F L I)(h3:3≤P.length):Ret Tryz.prog 29 [.pointer (some ⟨e.p,0,none⟩),.int .i64 16] w fun u w'=>u=.tuple #[.pointer none,.int .i64 1]∧Pgr e P W0 w' F L I:=by
 refine ent29 _ _ _ _ ?_
 simp (disch:=first|omega|exact zF rfl|exact zG rfl|exact fun h=>h|(simp only[zA,zB,zC,zD,bytesW];omega)) only[go_sem]
 refine Ret.mono (proot_ok 16 h (by omega) ⟨by decide,by decide⟩) ?_
 rintro _ w2 ⟨rfl,h2⟩
 have e1:rootN P 16=(0,1):=by unfold rootN; rfl
 rw [e1]
 simp (disch:=first|omega|exact zF rfl|exact zG rfl|exact fun h=>h|(simp only[zA,zB,zC,zD,bytesW];omega)) only[go_sem]
 exact h2
abbrev trB(tb:Nat)(e:En)(i:Int):Res:=.blk tb #[.pointer (some ⟨e.p,0,none⟩),.int .i64 i] 56
theorem topened_ok{i:Int}(h:Pgr e P W0 w F L I)(h3:3≤P.length)(hi:0≤i∧i<16):Ret Tryz.prog 16 [.pointer (some ⟨e.p,0,none⟩),.int .i64 i] w fun u w'=>∃ tb,u=.pointer (some ⟨tb,0,none⟩)∧Pgr e P W0 w' F (trB tb e i::L) I:=by
 have key:Ret Tryz.prog 29 [.pointer (some ⟨e.p,0,none⟩),.int .i64 i] w fun u w'=>∃ tb,u=.tuple #[.pointer (some ⟨tb,0,none⟩),.int .i64 0]∧Pgr e P W0 w' F (trB tb e i::L) I:=by
  refine ent29 _ _ _ _ ?_
  simp (disch:=first|omega|exact zF rfl|exact zG rfl|exact fun h=>h|(simp only[zA,zB,zC,zD,bytesW];omega)) only[go_sem]
  refine Ret.mono (proot_ok i h (by omega) ⟨by omega,by omega⟩) ?_
  rw [rootN_eq hi]
  rintro _ w2 ⟨rfl,h2⟩
  simp (disch:=first|omega|exact zF rfl|exact zG rfl|exact fun h=>h|(simp only[zA,zB,zC,zD,bytesW];omega)) only[go_sem]
  refine bdW_built (cells:=#[.pointer (some ⟨e.p,0,none⟩),.int .i64 i]) (by kernel_rfl) ?_
  have s4:=h2.box #[.pointer (some ⟨e.p,0,none⟩),.int .i64 i] 56
  simp (disch:=first|omega|exact zF rfl|exact zG rfl|exact fun h=>h|(simp only[zA,zB,zC,zD,bytesW];omega)) only[go_sem]
  exact ⟨_,rfl,s4⟩
 refine ent16 _ _ _ _ ?_
 simp (disch:=first|omega|exact zF rfl|exact zG rfl|exact fun h=>h|(simp only[zA,zB,zC,zD,bytesW];omega)) only[go_sem]
 refine Ret.mono key ?_
 rintro _ w2 ⟨tb,rfl,h2⟩
 simp (disch:=first|omega|exact zF rfl|exact zG rfl|exact fun h=>h|(simp only[zA,zB,zC,zD,bytesW];omega)) only[go_sem]
 exact ⟨tb,rfl,h2⟩
theorem troot_ok{tb:Nat}(h:Pgr e P W0 w F (trB tb e 0::L) I)(h3:3≤P.length):Ret Tryz.prog 63 [.pointer (some ⟨tb,0,none⟩)] w fun u w'=>u=.tuple #[.int .i64 (rootM P 0:Nat),.int .i64 0]∧Pgr e P W0 w' F (trB tb e 0::L) I:=by
 have r:=h.rules 0 rfl
 refine ent63 _ _ _ ?_
 simp (disch:=first|omega|exact zF rfl|exact zG rfl|exact fun h=>h|(simp only[zA,zB,zC,zD,bytesW];omega)) only[go_sem,r]
 refine c63draw0 (Same (fun k=>k=tb) _) (Same.refl _ _) ?_
 have h2:=h.drew
 generalize w.drew=w2 at h2 ⊢
 have r:=h2.rules 0 rfl
 simp (disch:=first|omega|exact zF rfl|exact zG rfl|exact fun h=>h|(simp only[zA,zB,zC,zD,bytesW];omega)) only[go_sem,c63D0,r]
 refine ⟨Same.refl _ _,Ret.mono (proot_ok 0 h2 h3 ⟨by decide,by decide⟩) ?_⟩
 rw [rootN_eq (by decide)]
 rintro _ w3 ⟨rfl,h3'⟩
 simp (disch:=first|omega|exact zF rfl|exact zG rfl|exact fun h=>h|(simp only[zA,zB,zC,zD,bytesW];omega)) only[go_sem,c63D0]
 exact h3'
end
open Go Go.Ann Go.RowKit Go.WideShapes
def textP:List UInt8→Option (List UInt8 × List UInt8)
 | []=>none
 | b::s=>if s.length<b.toNat then none else some (s.take b.toNat,s.drop b.toNat)
theorem text_ok(s:List UInt8)(w:World)(hs:s.length≤1000000) :
  Ret Tryz.prog 172 [.string (ofL s)] w fun u w'=>u=(match textP s with | some x=>.tuple #[.string (ofL x.1),.string (ofL x.2),.bool true] | none=>.tuple #[.string (ofL []),.string (ofL []),.bool false])∧Below w.heap.size w w':=by
 refine ent172 _ _ _ ?_
 cases s with
 | nil =>
  simp (disch:=first|omega|exact zF rfl|exact zG rfl|exact fun h=>h|(simp only[zA,zB,zC,zD,bytesW];omega)) only[go_sem]
  exact ⟨rfl,Below.refl _ _⟩
 | cons b s =>
  have hb:bN (b::s) 0=b.toNat:=rfl
  have hbl:b.toNat<256:=b.toNat_lt
  rw [List.length_cons] at hs
  simp (disch:=first|omega|exact zF rfl|exact zG rfl|exact fun h=>h|(simp only[zA,zB,zC,zD,bytesW];omega)) only[go_sem,List.cons_ne_nil]
  rw [hb]
  refine ⟨by omega,⟨by omega,by omega⟩,⟨by omega,by omega⟩,fun hlt=>?_,fun hge=>⟨by omega,⟨by omega,by omega⟩,⟨by omega,by omega⟩,?_⟩⟩
  ·have e1:textP (b::s)=none:=by rw [textP,if_pos (by omega)]
   rw [e1]
   exact ⟨rfl,Below.refl _ _⟩
  ·have e1:textP (b::s)=some (s.take b.toNat,s.drop b.toNat):=by rw [textP,if_neg (by omega)]
   rw [e1]
   refine c172draw0 ?_
   simp (disch:=first|omega|exact zF rfl|exact zG rfl|exact fun h=>h|(simp only[zA,zB,zC,zD,bytesW];omega)) only[go_sem,c172D0]
   have e2:(1+(b.toNat:Int)).toNat=b.toNat+1:=by omega
   have e3:cutL (b::s) 1 (1+(b.toNat:Int))=s.take b.toNat:=by unfold cutL; rw [e2]; rfl
   rw [e3,e2,List.drop_succ_cons]
   exact ⟨⟨by omega,by omega⟩,⟨by omega,by omega⟩,rfl,(Below.refl _ _).drew⟩
end Go.Proofs.YtkmjkmjpejmlnaaGreat

end
