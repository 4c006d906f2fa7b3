/- Texts put together by program. -/
import Derived.Test.YtkmjkmjpejmlnaaGreatQF3
set_option linter.unusedSimpArgs false
set_option linter.unusedVariables false
set_option maxRecDepth 100000
noncomputable section

namespace Go.Proofs.YtkmjkmjpejmlnaaGreat
open Go Go.Ann Go.RowKit Go.WideShapes
structure Nd where
 leaf:Bool
 keys:List (List UInt8)
 vals:List (List UInt8)
 kids:List Nat
def entsP(leaf:Bool):Nat→List UInt8→List (List UInt8)→List (List UInt8)→Option (List (List UInt8) × List (List UInt8) × List UInt8)
 | 0,s,ks,vs=>some (ks,vs,s)
 | k+1,s,ks,vs=>match textP s with
  | none=>none
  | some (x,r)=>if leaf then match textP r with
    | none=>none
    | some (v,r)=>entsP leaf k r (ks++[x]) (vs++[v])
   else entsP leaf k r (ks++[x]) vs
def kidsP:Nat→List UInt8→List Nat→Option (List Nat)
 | 0,_,cs=>some cs
 | k+1,a::b::s,cs=>kidsP k s (cs++[a.toNat+256 * b.toNat])
 | _+1,_,_=>none
def parseP:List UInt8→Option Nd
 | a::b::s=>if a≠1∧a≠2 then none else match entsP (decide (a=1)) b.toNat s [] [] with
  | none=>none
  | some (ks,vs,r)=>if a=1 then some ⟨true,ks,vs,[]⟩ else match kidsP (b.toNat+1) r [] with
   | none=>none
   | some cs=>some ⟨false,ks,vs,cs⟩
 | _=>none
theorem str_one'(x:List UInt8):∀ u∈strE x,u.oneCell'=true:=by intro u hu; rw [strE,List.mem_singleton] at hu; subst hu; rfl
theorem textP_le{s x r:List UInt8}(h:textP s=some (x,r)):r.length<s.length∧x.length≤255:=by
 cases s with
 | nil=>cases h
 | cons b s =>
  rw [textP] at h
  split at h
  ·cases h
  ·rename_i hl
   obtain ⟨rfl,rfl⟩:=Prod.mk.inj (Option.some.inj h)
   have hb:b.toNat<256:=b.toNat_lt
   rw [List.length_drop,List.length_take,List.length_cons]
   omega
section
variable {W0 w:World} {F:Nat→Prop} {L:List Res} {I:List Inv}
abbrev ndZ:Array Value:=#[.bool false,.slice none 0 0,.slice none 0 0,.slice none 0 0]
def ParsedP(W0:World)(F:Nat→Prop)(L:List Res)(I:List Inv)(x:Option Nd)(u:Value)(w':World):Prop:=match x with
 | none=>u=.tuple #[.agg ndZ,.int .i64 14]∧St W0 w' F L I
 | some nd=>∃ kv vv cv,u=.tuple #[.agg #[.bool nd.leaf,kv,vv,cv],.int .i64 0]∧St W0 w' F (.row kv 9 1 nd.keys.length (nd.keys.flatMap strE)::.row vv 9 1 nd.vals.length (nd.vals.flatMap strE)::.row cv 3 1 nd.kids.length (nd.kids.flatMap natE)::L) I
theorem or_low{a b:Nat}(ha:a<256)(hb:b<256):bits BinOp.or IntKind.i64 (a:Int) (IntKind.i64.wrap ((b:Int) * 2 ^ min 8 64))=((a+256 * b:Nat):Int):=by
 have e1:IntKind.i64.wrap ((b:Int) * 2 ^ min 8 64)=((2 ^ 8 * b:Nat):Int):=by
  simp [IntKind.wrap,IntKind.signed,IntKind.bits]
  omega
 rw [e1]
 have e2:a ||| 2 ^ 8 * b=a+256 * b:=by
  rw [Nat.or_comm,← Nat.two_pow_add_eq_or_of_lt (show a<2 ^ 8 from ha)]
  omega
 have e3:(BitVec.ofInt 64 (a:Int) ||| BitVec.ofInt 64 ((2 ^ 8 * b:Nat):Int)).toNat=a+256 * b:=by
  rw [BitVec.toNat_or,BitVec.ofInt_natCast,BitVec.ofInt_natCast,BitVec.toNat_ofNat,BitVec.toNat_ofNat,Nat.mod_eq_of_lt (by omega),Nat.mod_eq_of_lt (by omega),e2]
 show IntKind.i64.wrap (((BitVec.ofInt 64 (a:Int) ||| BitVec.ofInt 64 ((2 ^ 8 * b:Nat):Int)).toNat:Nat):Int)=_
 rw [e3]
 simp [IntKind.wrap,IntKind.signed,IntKind.bits]
 omega
theorem parse13_ok{b2 b4 cnt:Nat}{lf:Bool}{ks vl:List (List UInt8)}{rest:List UInt8}{kv vv:Value}(h:St W0 w F (.row kv 9 1 ks.length (ks.flatMap strE)::.row vv 9 1 vl.length (vl.flatMap strE)::.blk b4 #[.bool lf,kv,vv,.slice none 0 0] 119::.blk b2 ndZ 119::L) I)(hs:rest.length≤100000)(hc:cnt<256) :
  W Tryz.prog (c136S13 ()) [(0,.string (ofL rest)),(2,.pointer (some ⟨b2,0,none⟩)),(4,.pointer (some ⟨b4,0,none⟩)),(5,.int .i64 cnt)] w (finQ Tryz.prog [.cell 2 119,.tmp 3] (ParsedP W0 F L I (if lf=true then some ⟨true,ks,vl,[]⟩ else match kidsP (cnt+1) rest [] with | none=>none | some cs=>some ⟨false,ks,vl,cs⟩))):=by
 obtain ⟨ka,kc,rfl,_⟩:=own_slice (h.row 0 rfl)
 obtain ⟨va,vc,rfl,_⟩:=own_slice (h.row 1 rfl)
 have r4:=h.rules 2 rfl
 have r2:=h.rules 3 rfl
 cases lf with
 | true =>
  simp (disch:=first|omega|exact zF rfl|exact zG rfl|exact fun h=>h|(simp only[zA,zB,zC,zD,bytesW];omega)) only[go_sem,c136S3,c136S4,c136L0,c136L1,c136S13,c136S14,r4,r2]
  have h2:=((h.fill 3 (cs:=#[.bool true,.slice ka ks.length kc,.slice va vl.length vc,.slice none 0 0]) rfl rfl).nilRow 3 1).sub (L':=.row (.slice none 0 0) 3 1 0 []::.row (.slice ka ks.length kc) 9 1 ks.length (ks.flatMap strE)::.row (.slice va vl.length vc) 9 1 vl.length (vl.flatMap strE)::L) (.cons_cons _ (.cons_cons _ (.cons_cons _ (.cons _ (.cons _ (List.Sublist.refl _))))))
  have h3:=h2.perm (List.perm_middle (l₁:=[Res.row (.slice ka ks.length kc) 9 1 ks.length (ks.flatMap strE),Res.row (.slice va vl.length vc) 9 1 vl.length (vl.flatMap strE)]) (a:=Res.row (.slice none 0 0) 3 1 0 []))
  exact ⟨_,_,.slice none 0 0,rfl,h3⟩
 | false =>
  simp (disch:=first|omega|exact zF rfl|exact zG rfl|exact fun h=>h|(simp only[zA,zB,zC,zD,bytesW];omega)) only[go_sem,c136S3,c136S4,c136L0,c136S13,c136S14,r4,r2]
  refine ⟨⟨by omega,by omega⟩,?_⟩
  refine W_loopU (fun q:Nat × List UInt8 × List Nat × Value=>[(0,.string (ofL q.2.1)),(76,.int .i64 q.1)]) (fun q w'=>q.1≤cnt+1∧q.2.1.length≤100000∧q.2.2.1.length=q.1∧kidsP (cnt+1) rest []=kidsP (cnt+1 - q.1) q.2.1 q.2.2.1∧St W0 w' F (.row q.2.2.2 3 1 q.2.2.1.length (q.2.2.1.flatMap natE)::.row (.slice ka ks.length kc) 9 1 ks.length (ks.flatMap strE)::.row (.slice va vl.length vc) 9 1 vl.length (vl.flatMap strE)::.blk b4 #[.bool false,.slice ka ks.length kc,.slice va vl.length vc,q.2.2.2] 119::.blk b2 ndZ 119::L) I) (fun q=>cnt+1 - q.1) (0,rest,[],.slice none 0 0) rfl ⟨Nat.zero_le _,hs,rfl,rfl,h.nilRow 3 1⟩ ?_
  clear h r4 r2 hs
  rintro ⟨j,rest1,cs,cv⟩ w2 ⟨hj,hs,hcs,hk,h⟩
  simp only at hj hs hcs hk h
  rw [hk]
  obtain ⟨ca,cc,rfl,_⟩:=own_slice (h.row 0 rfl)
  have r4:=h.rules 3 rfl
  have r2:=h.rules 4 rfl
  by_cases hlt:j<cnt+1
  case neg =>
   have hlt':¬ (j:Int)<(cnt:Int)+1:=by omega
   obtain rfl:j=cnt+1:=by omega
   rw [Nat.sub_self,kidsP]
   simp (disch:=first|omega|exact zF rfl|exact zG rfl|exact fun h=>h|(simp only[zA,zB,zC,zD,bytesW];omega)) only[go_sem,c136S3,c136S4,c136L0,c136L1,c136S13,c136S14,c136L1,hlt',r4,r2]
   have h2:=(h.fill 4 (cs:=#[.bool false,.slice ka ks.length kc,.slice va vl.length vc,.slice ca cs.length cc]) rfl rfl).sub (L':=.row (.slice ca cs.length cc) 3 1 cs.length (cs.flatMap natE)::.row (.slice ka ks.length kc) 9 1 ks.length (ks.flatMap strE)::.row (.slice va vl.length vc) 9 1 vl.length (vl.flatMap strE)::L) (.cons_cons _ (.cons_cons _ (.cons_cons _ (.cons _ (.cons _ (List.Sublist.refl _))))))
   have h3:=h2.perm (List.perm_middle (l₁:=[Res.row (.slice ka ks.length kc) 9 1 ks.length (ks.flatMap strE),Res.row (.slice va vl.length vc) 9 1 vl.length (vl.flatMap strE)]) (a:=Res.row (.slice ca cs.length cc) 3 1 cs.length (cs.flatMap natE)))
   exact ⟨fun hc=>by omega,fun _=>⟨_,_,.slice ca cs.length cc,rfl,h3⟩⟩
  have hlt':(j:Int)<(cnt:Int)+1:=by omega
  obtain ⟨m,hm⟩:∃ m,cnt+1 - j=m+1:=⟨cnt - j,by omega⟩
  rw [hm]
  have bad:St W0 (w2.fill b2 ndZ) F L I:=(h.fill 4 rfl rfl).sub (.cons _ (.cons _ (.cons _ (.cons _ (.cons _ (List.Sublist.refl _))))))
  match rest1,hs with
  | [],_ =>
   simp (disch:=first|omega|exact zF rfl|exact zG rfl|exact fun h=>h|(simp only[zA,zB,zC,zD,bytesW];omega)) only[go_sem,c136S3,c136S4,c136L0,c136L1,c136S13,c136S14,c136L1,hlt',r2]
   refine bdW_built (cells:=ndZ) (by kernel_rfl) ?_
   simp (disch:=first|omega|exact zF rfl|exact zG rfl|exact fun h=>h|(simp only[zA,zB,zC,zD,bytesW];omega)) only[go_sem,c136S3,c136S4,c136L0,c136L1,c136S13,c136S14,r2]
   exact ⟨rfl,bad⟩
  | [x],_ =>
   simp (disch:=first|omega|exact zF rfl|exact zG rfl|exact fun h=>h|(simp only[zA,zB,zC,zD,bytesW];omega)) only[go_sem,c136S3,c136S4,c136L0,c136L1,c136S13,c136S14,c136L1,hlt',r2]
   refine bdW_built (cells:=ndZ) (by kernel_rfl) ?_
   simp (disch:=first|omega|exact zF rfl|exact zG rfl|exact fun h=>h|(simp only[zA,zB,zC,zD,bytesW];omega)) only[go_sem,c136S3,c136S4,c136L0,c136L1,c136S13,c136S14,r2]
   exact ⟨rfl,bad⟩
  | x::y::s,hs =>
   rw [List.length_cons,List.length_cons] at hs
   have e0:bN (x::y::s) 0=x.toNat:=rfl
   have e1:bN (x::y::s) 1=y.toNat:=rfl
   have e2:(x::y::s).drop 2=s:=rfl
   have hx:x.toNat<256:=x.toNat_lt
   have hy:y.toNat<256:=y.toNat_lt
   have hl2:¬ ((s.length:Int)+1+1<2):=by omega
   simp (disch:=first|omega|exact zF rfl|exact zG rfl|exact fun h=>h|(simp only[zA,zB,zC,zD,bytesW];omega)) only[go_sem,c136S3,c136S4,c136L0,c136L1,c136S13,c136S14,c136L1,hlt',hl2]
   refine c136draw0 (Same (fun k=>k=b4) _) (Same.refl _ _) ?_
   have h3:=h.drew
   generalize w2.drew=w3 at h3 ⊢
   have r4:=h3.rules 3 rfl
   have eo:=or_low hx hy
   obtain ⟨c,hc'⟩:∃ c,c=x.toNat+256 * y.toNat:=⟨_,rfl⟩
   rw [← hc'] at eo
   simp (disch:=first|omega|exact zF rfl|exact zG rfl|exact fun h=>h|(simp only[zA,zB,zC,zD,bytesW];omega)) only[go_sem,c136S3,c136S4,c136L0,c136L1,c136S13,c136S14,c136D0,r4,e0,e1,eo]
   refine ⟨by omega,⟨by omega,by omega⟩,by omega,⟨by omega,by omega⟩,?_⟩
   refine bsW_ones ty48mkI rfl rfl (by decide) (by decide) (by intro v hv; rw [List.mem_singleton] at hv; subst hv; rfl) ?_
   simp (disch:=first|omega|exact zF rfl|exact zG rfl|exact fun h=>h|(simp only[zA,zB,zC,zD,bytesW];omega)) only[go_sem,c136S3,c136S4,c136L0,c136L1,c136S13,c136S14,c136D0]
   have h4:=h3.alloc' (.cells #[.int .i64 (c:Nat)] 3)
   have same4:Same (fun k=>k=b4) w3 (w3.alloc (.cells #[.int .i64 (c:Nat)] 3)):=by
    rintro k rfl
    exact (h4.blk 3 rfl).trans (h3.blk 3 rfl).symm
   have hxr:Rd (w3.alloc (.cells #[.int .i64 (c:Nat)] 3)) 1 (.slice (some ⟨w3.heap.size,0,none⟩) 1 1) 1 (natE c):=rd_new (n:=1) (cs:=#[.int .i64 (c:Nat)]) rfl
   refine ⟨same4,h4.append 0 rfl ty48mkI rfl (by decide) hxr (nat_one c) (by omega) (by omega) ?_⟩
   intro v6 w6 s6 c6
   have same6:Same (fun k=>k=b4) w3 w6:=by
    rintro k rfl
    exact (s6.blk 3 rfl).trans (h3.blk 3 rfl).symm
   obtain ⟨v6a,v6c,rfl,_⟩:=own_slice (s6.row 0 rfl)
   have r4:=s6.rules 3 rfl
   have s7:=s6.set 3 rfl 3 (.slice v6a (cs.length+1) v6c)
   simp (disch:=first|omega|exact zF rfl|exact zG rfl|exact fun h=>h|(simp only[zA,zB,zC,zD,bytesW];omega)) only[go_sem,c136S3,c136S4,c136L0,c136L1,c136S13,c136S14,c136D0,r4,e2]
   have ec:cs.length+1=(cs++[c]).length:=by simp
   have el:cs.flatMap natE++natE c=(cs++[c]).flatMap natE:=by rw [List.flatMap_append]; simp
   rw [ec,el] at s7
   rw [ec]
   have ek:kidsP (m+1) (x::y::s) cs=kidsP m s (cs++[c]):=by rw [kidsP,hc']
   rw [ek]
   refine ⟨by omega,⟨by omega,by omega⟩,(j+1,s,cs++[c],Value.slice v6a (cs++[c]).length v6c),rfl,⟨by simp only; omega,by simp only; omega,by rw [← ec,hcs],by simp only; rw [show cnt+1 - (j+1)=m by omega],s7⟩,by simp only; omega⟩
theorem parse14_ok{b2:Nat}{a b:UInt8}{s:List UInt8}(h:St W0 w F (.blk b2 ndZ 119::L) I)(ha:a=1∨a=2)(hs:s.length≤100000) :
  W Tryz.prog (c136S14 ()) [(0,.string (ofL (a::b::s))),(2,.pointer (some ⟨b2,0,none⟩))] w (finQ Tryz.prog [.cell 2 119,.tmp 3] (ParsedP W0 F L I (parseP (a::b::s)))):=by
 have e0:bN (a::b::s) 0=a.toNat:=rfl
 have e1:bN (a::b::s) 1=b.toNat:=rfl
 have e2:(a::b::s).drop 2=s:=rfl
 have hbl:b.toNat<256:=b.toNat_lt
 simp (disch:=first|omega|exact zF rfl|exact zG rfl|exact fun h=>h|(simp only[zA,zB,zC,zD,bytesW];omega)) only[go_sem,c136S3,c136S4,c136L1,c136S14,e0,e1,e2]
 obtain ⟨lf,hlf⟩:∃ lf,lf=decide ((a.toNat:Int)=1):=⟨_,rfl⟩
 rw [← hlf]
 refine ⟨by omega,bdW_built (cells:=#[.bool lf,.slice none 0 0,.slice none 0 0,.slice none 0 0]) (by kernel_rfl) ?_⟩
 simp (disch:=first|omega|exact zF rfl|exact zG rfl|exact fun h=>h|(simp only[zA,zB,zC,zD,bytesW];omega)) only[go_sem,c136S3,c136S4,c136L1,c136S14,e0,e1,e2]
 have h4:=h.box #[.bool lf,.slice none 0 0,.slice none 0 0,.slice none 0 0] 119
 generalize w.heap.size=b4 at h4 ⊢
 generalize w.alloc (.cells #[.bool lf,.slice none 0 0,.slice none 0 0,.slice none 0 0] 119)=w4 at h4 ⊢
 have hla:lf=decide (a=1):=by
  rw [hlf]
  have n1:(a.toNat:Int)=1↔a=1:=by
   constructor
   ·intro hc; exact UInt8.toNat_inj.1 (by show a.toNat=1; omega)
   ·rintro rfl; rfl
  simp only [n1]
 have ep:parseP (a::b::s)=match entsP lf b.toNat s [] [] with
   | none=>none
   | some (ks,vs,r)=>if lf=true then some ⟨true,ks,vs,[]⟩ else match kidsP (b.toNat+1) r [] with
    | none=>none
    | some cs=>some ⟨false,ks,vs,cs⟩:=by
  rw [parseP,if_neg (fun hc=>ha.elim hc.1 hc.2),hla]
  simp only [decide_eq_true_eq]
 rw [ep]
 clear hlf hla ep e0 e1 e2 h
 refine ⟨by omega,⟨by omega,by omega⟩,by omega,?_⟩
 refine W_loopU (fun q:Nat × List UInt8 × List (List UInt8) × List (List UInt8) × Value × Value=>[(0,.string (ofL q.2.1)),(34,.int .i64 q.1)]) (fun q w'=>q.1≤b.toNat∧q.2.1.length≤100000∧q.2.2.1.length=q.1∧q.2.2.2.1.length≤q.1∧entsP lf b.toNat s [] []=entsP lf (b.toNat - q.1) q.2.1 q.2.2.1 q.2.2.2.1∧St W0 w' F (.row q.2.2.2.2.1 9 1 q.2.2.1.length (q.2.2.1.flatMap strE)::.row q.2.2.2.2.2 9 1 q.2.2.2.1.length (q.2.2.2.1.flatMap strE)::.blk b4 #[.bool lf,q.2.2.2.2.1,q.2.2.2.2.2,.slice none 0 0] 119::.blk b2 ndZ 119::L) I) (fun q=>b.toNat - q.1) (0,s,[],[],.slice none 0 0,.slice none 0 0) rfl ⟨Nat.zero_le _,hs,rfl,Nat.le_refl _,rfl,(h4.nilRow 9 1).nilRow 9 1⟩ ?_
 clear h4
 rintro ⟨j,rest,ks,vl,kv,vv⟩ w5 ⟨hj,hr,hkl,hvl,hen,h5⟩
 simp only at hj hr hkl hvl hen h5
 rw [hen]
 obtain ⟨ka,kc,rfl,_⟩:=own_slice (h5.row 0 rfl)
 obtain ⟨va,vc,rfl,_⟩:=own_slice (h5.row 1 rfl)
 by_cases hlt:j<b.toNat
 case neg =>
  have hlt':¬ (j:Int)<b.toNat:=by omega
  obtain rfl:j=b.toNat:=by omega
  rw [Nat.sub_self,entsP]
  simp (disch:=first|omega|exact zF rfl|exact zG rfl|exact fun h=>h|(simp only[zA,zB,zC,zD,bytesW];omega)) only[go_sem,c136S3,c136S4,c136L0,c136L1,c136S14,c136L0,hlt']
  exact parse13_ok h5 hr hbl
 have hlt':(j:Int)<b.toNat:=by omega
 obtain ⟨m,hm⟩:∃ m,b.toNat - j=m+1:=⟨b.toNat - j - 1,by omega⟩
 rw [hm,entsP]
 simp (disch:=first|omega|exact zF rfl|exact zG rfl|exact fun h=>h|(simp only[zA,zB,zC,zD,bytesW];omega)) only[go_sem,c136S3,c136L0,c136L1,c136S14,c136L0,hlt']
 refine Ret.mono (text_ok rest w5 (by omega)) ?_
 rintro _ w6 ⟨rfl,b6⟩
 have h6:=h5.call b6
 have r4:=h6.rules 2 rfl
 have r2:=h6.rules 3 rfl
 have bad:∀ {w':World} {kv vv:Value} {vl:List (List UInt8)},St W0 w' F (.row kv 9 1 ks.length (ks.flatMap strE)::.row vv 9 1 vl.length (vl.flatMap strE)::.blk b4 #[.bool lf,kv,vv,.slice none 0 0] 119::.blk b2 ndZ 119::L) I→St W0 (w'.fill b2 ndZ) F L I:=fun h=>(h.fill 3 rfl rfl).sub (.cons _ (.cons _ (.cons _ (.cons _ (List.Sublist.refl _)))))
 cases ht:textP rest with
 | none =>
  simp (disch:=first|omega|exact zF rfl|exact zG rfl|exact fun h=>h|(simp only[zA,zB,zC,zD,bytesW];omega)) only[go_sem,c136S3,c136S4,c136L0,c136L1,c136S14,r2]
  refine bdW_built (cells:=ndZ) (by kernel_rfl) ?_
  simp (disch:=first|omega|exact zF rfl|exact zG rfl|exact fun h=>h|(simp only[zA,zB,zC,zD,bytesW];omega)) only[go_sem,c136S3,c136S4,c136L0,c136L1,c136S14,r2]
  exact ⟨rfl,bad h6⟩
 | some x =>
  obtain ⟨x,r⟩:=x
  have hrl:=(textP_le ht).1
  -- a key more
  have fin3:∀ (Q:Post) (w7:World) (vv:Value) (vl:List (List UInt8)) (r:List UInt8),St W0 w7 F (.row (.slice ka ks.length kc) 9 1 ks.length (ks.flatMap strE)::.row vv 9 1 vl.length (vl.flatMap strE)::.blk b4 #[.bool lf,.slice ka ks.length kc,vv,.slice none 0 0] 119::.blk b2 ndZ 119::L) I →
    (∀ w8 kv,St W0 w8 F (.row kv 9 1 (ks++[x]).length ((ks++[x]).flatMap strE)::.row vv 9 1 vl.length (vl.flatMap strE)::.blk b4 #[.bool lf,kv,vv,.slice none 0 0] 119::.blk b2 ndZ 119::L) I→Q .normal [(0,.string (ofL r)),(2,.pointer (some ⟨b2,0,none⟩)),(4,.pointer (some ⟨b4,0,none⟩)),(5,.int .i64 b.toNat),(33,.int .i64 b.toNat),(34,.int .i64 j)] w8) →
    W Tryz.prog (c136S3 ()) [(2,.pointer (some ⟨b2,0,none⟩)),(4,.pointer (some ⟨b4,0,none⟩)),(5,.int .i64 b.toNat),(6,.string (ofL x)),(7,.string (ofL r)),(8,.bool true),(33,.int .i64 b.toNat),(34,.int .i64 j)] w7 Q:=by
   intro Q w7 vv vl r h7 hQ
   have r4:=h7.rules 2 rfl
   simp (disch:=first|omega|exact zF rfl|exact zG rfl|exact fun h=>h|(simp only[zA,zB,zC,zD,bytesW];omega)) only[go_sem,c136S3,c136S4,c136L0,c136L1,c136S13,c136S14,r4]
   refine bsW_ones ty22mkI rfl rfl (by decide) (by decide) (str_one' x) ?_
   simp (disch:=first|omega|exact zF rfl|exact zG rfl|exact fun h=>h|(simp only[zA,zB,zC,zD,bytesW];omega)) only[go_sem,c136S3,c136S4,c136L0,c136L1,c136S13,c136S14]
   have hxr:Rd (w7.alloc (.cells #[.string (ofL x)] 9)) 1 (.slice (some ⟨w7.heap.size,0,none⟩) 1 1) 1 (strE x):=rd_new (n:=1) (cs:=#[.string (ofL x)]) rfl
   refine (h7.alloc' (.cells #[.string (ofL x)] 9)).append 0 rfl ty22mkI rfl (by decide) hxr (str_one' x) (by omega) (by omega) ?_
   intro v8 w8 s8 c8
   obtain ⟨v8a,v8c,rfl,_⟩:=own_slice (s8.row 0 rfl)
   have r4:=s8.rules 2 rfl
   have s9:=s8.set 2 rfl 1 (.slice v8a (ks.length+1) v8c)
   simp (disch:=first|omega|exact zF rfl|exact zG rfl|exact fun h=>h|(simp only[zA,zB,zC,zD,bytesW];omega)) only[go_sem,c136S3,c136S4,c136L0,c136L1,c136S13,c136S14,r4]
   have ec:ks.length+1=(ks++[x]).length:=by simp
   have el:ks.flatMap strE++strE x=(ks++[x]).flatMap strE:=by rw [List.flatMap_append]; simp
   rw [ec,el] at s9
   rw [ec]
   exact hQ _ _ s9
  have hkx:(ks++[x]).length=j+1:=by rw [List.length_append,hkl]; rfl
  cases lf with
  | false =>
   simp (disch:=first|omega|exact zF rfl|exact zG rfl|exact fun h=>h|(simp only[zA,zB,zC,zD,bytesW];omega)) only[go_sem,c136S4,c136L0,c136L1,c136S14,r4]
   refine fin3 _ _ _ _ r h6 fun w8 kv s8=>?_
   simp (disch:=first|omega|exact zF rfl|exact zG rfl|exact fun h=>h|(simp only[zA,zB,zC,zD,bytesW];omega)) only[go_sem,c136S3,c136S4,c136L0,c136L1,c136S14]
   exact ⟨⟨by omega,by omega⟩,(j+1,r,ks++[x],vl,kv,_),rfl,⟨by simp only; omega,by simp only; omega,hkx,by simp only; omega,by simp only; rw [show b.toNat - (j+1)=m by omega],s8⟩,by simp only; omega⟩
  | true =>
   simp (disch:=first|omega|exact zF rfl|exact zG rfl|exact fun h=>h|(simp only[zA,zB,zC,zD,bytesW];omega)) only[go_sem,c136S4,c136L0,c136L1,c136S14,r4]
   refine Ret.mono (text_ok r w6 (by omega)) ?_
   rintro _ w7 ⟨rfl,b7⟩
   have h7:=h6.call b7
   have r4:=h7.rules 2 rfl
   have r2:=h7.rules 3 rfl
   cases ht2:textP r with
   | none =>
    simp (disch:=first|omega|exact zF rfl|exact zG rfl|exact fun h=>h|(simp only[zA,zB,zC,zD,bytesW];omega)) only[go_sem,c136S3,c136S4,c136L0,c136L1,c136S14,r2]
    refine bdW_built (cells:=ndZ) (by kernel_rfl) ?_
    simp (disch:=first|omega|exact zF rfl|exact zG rfl|exact fun h=>h|(simp only[zA,zB,zC,zD,bytesW];omega)) only[go_sem,c136S3,c136S4,c136L0,c136L1,c136S14,r2]
    exact ⟨rfl,bad h7⟩
   | some y =>
    obtain ⟨v,r'⟩:=y
    have hrl2:=(textP_le ht2).1
    simp (disch:=first|omega|exact zF rfl|exact zG rfl|exact fun h=>h|(simp only[zA,zB,zC,zD,bytesW];omega)) only[go_sem,c136S4,c136L0,c136L1,c136S14,r4]
    refine bsW_ones ty22mkI rfl rfl (by decide) (by decide) (str_one' v) ?_
    simp (disch:=first|omega|exact zF rfl|exact zG rfl|exact fun h=>h|(simp only[zA,zB,zC,zD,bytesW];omega)) only[go_sem,c136S4,c136L0,c136L1,c136S14]
    have hxr:Rd (w7.alloc (.cells #[.string (ofL v)] 9)) 1 (.slice (some ⟨w7.heap.size,0,none⟩) 1 1) 1 (strE v):=rd_new (n:=1) (cs:=#[.string (ofL v)]) rfl
    refine (h7.alloc' (.cells #[.string (ofL v)] 9)).append 1 rfl ty22mkI rfl (by decide) hxr (str_one' v) (by omega) (by omega) ?_
    intro v8 w8 s8 c8
    obtain ⟨v8a,v8c,rfl,_⟩:=own_slice (s8.row 1 rfl)
    have r4:=s8.rules 2 rfl
    have s9:=s8.set 2 rfl 2 (.slice v8a (vl.length+1) v8c)
    simp (disch:=first|omega|exact zF rfl|exact zG rfl|exact fun h=>h|(simp only[zA,zB,zC,zD,bytesW];omega)) only[go_sem,c136S4,c136L0,c136L1,c136S14,r4]
    have ec:vl.length+1=(vl++[v]).length:=by simp
    have el:vl.flatMap strE++strE v=(vl++[v]).flatMap strE:=by rw [List.flatMap_append]; simp
    rw [ec,el] at s9
    rw [ec]
    refine fin3 _ _ _ _ r' s9 fun w8 kv s8=>?_
    simp (disch:=first|omega|exact zF rfl|exact zG rfl|exact fun h=>h|(simp only[zA,zB,zC,zD,bytesW];omega)) only[go_sem,c136S3,c136S4,c136L0,c136L1,c136S14]
    exact ⟨⟨by omega,by omega⟩,(j+1,r',ks++[x],vl++[v],kv,_),rfl,⟨by simp only; omega,by simp only; omega,hkx,by simp only [List.length_append,List.length_singleton]; omega,by simp only; rw [show b.toNat - (j+1)=m by omega],s8⟩,by simp only; omega⟩
theorem parse_ok(s:List UInt8)(h:St W0 w F L I)(hs:s.length≤100000) :
  Ret Tryz.prog 136 [.string (ofL s)] w (ParsedP W0 F L I (parseP s)):=by
 have zero:∀ is vs K w,Tryz.prog.built 119 (zipP is vs)=some ndZ→K (Value.agg ndZ) w→bdW Tryz.prog 119 is vs w K:=fun is vs K w hb hK=>bdW_built hb hK
 refine ent136 _ _ _ ?_
 simp (disch:=first|omega|exact zF rfl|exact zG rfl|exact fun h=>h|(simp only[zA,zB,zC,zD,bytesW];omega)) only[go_sem,c136S3,c136S4,c136L0,c136L1,c136S13]
 have s2:=h.box ndZ 119
 obtain ⟨b2,hb2⟩:∃ b,b=w.heap.size:=⟨_,rfl⟩
 rw [← hb2] at s2 ⊢
 obtain ⟨w2,hw2⟩:∃ w2,w2=w.alloc (.cells ndZ 119):=⟨_,rfl⟩
 rw [← hw2] at s2 ⊢
 have r2:=s2.rules 0 rfl
 have bad:St W0 (w2.fill b2 ndZ) F L I:=(s2.fill 0 rfl rfl).sub (List.sublist_cons_self ..)
 match s,hs with
 | [],_ =>
  refine ⟨fun hc=>absurd hc (by simp),fun _=>?_⟩
  refine zero _ _ _ _ (by kernel_rfl) ?_
  simp (disch:=first|omega|exact zF rfl|exact zG rfl|exact fun h=>h|(simp only[zA,zB,zC,zD,bytesW];omega)) only[go_sem,c136S3,c136S4,c136L0,c136L1,c136S13,c136S14,r2]
  exact ⟨rfl,bad⟩
 | [a],_ =>
  refine ⟨fun hc=>absurd hc (by simp),fun _=>?_⟩
  refine zero _ _ _ _ (by kernel_rfl) ?_
  simp (disch:=first|omega|exact zF rfl|exact zG rfl|exact fun h=>h|(simp only[zA,zB,zC,zD,bytesW];omega)) only[go_sem,c136S3,c136S4,c136L0,c136L1,c136S13,c136S14,r2]
  exact ⟨rfl,bad⟩
 | a::b::s,hs =>
  rw [List.length_cons,List.length_cons] at hs
  have e0:bN (a::b::s) 0=a.toNat:=rfl
  have key:=fun ha=>parse14_ok (a:=a) (b:=b) (s:=s) s2 ha (by omega)
  rw [e0]
  have n1:(a.toNat:Int)=1↔a=1:=by
   constructor
   ·intro hc; exact UInt8.toNat_inj.1 (by show a.toNat=1; omega)
   ·rintro rfl; rfl
  have n2:(a.toNat:Int)=2↔a=2:=by
   constructor
   ·intro hc; exact UInt8.toNat_inj.1 (by show a.toNat=2; omega)
   ·rintro rfl; rfl
  have hl:(0:Int)<((a::b::s).length:Nat):=by rw [List.length_cons]; omega
  refine ⟨fun _=>⟨hl,fun h1=>⟨hl,fun h2=>?_,fun h2=>key (.inr (n2.1 h2))⟩,fun h1=>key (.inl (n1.1 h1))⟩,fun hc=>by rw [List.length_cons,List.length_cons] at hc; omega⟩
  refine zero _ _ _ _ (by kernel_rfl) ?_
  simp (disch:=first|omega|exact zF rfl|exact zG rfl|exact fun h=>h|(simp only[zA,zB,zC,zD,bytesW];omega)) only[go_sem,c136S3,c136S4,c136L0,c136L1,c136S13,c136S14,r2]
  have ep:parseP (a::b::s)=none:=by rw [parseP,if_pos ⟨fun hc=>h1 (n1.2 hc),fun hc=>h2 (n2.2 hc)⟩]
  rw [ep]
  exact ⟨rfl,bad⟩
end
open Go Go.Ann Go.RowKit Go.WideShapes
abbrev Txt:=List UInt8
abbrev Rec:=List UInt8 × List UInt8
def bsGo(l:List Txt)(key:Txt):Nat→Nat→Nat→Nat
 | 0,i,_=>i
 | f+1,i,j=>if i<j then (if Op.bytesLess (l.getD ((i+j) / 2) []) key=true then bsGo l key f ((i+j) / 2+1) j else bsGo l key f i ((i+j) / 2)) else i
def bsP(l:List Txt)(key:Txt):Nat:=bsGo l key l.length 0 l.length
theorem bsGo_fuel(l:List Txt)(key:Txt):∀ f g i j,j - i≤f→j - i≤g→bsGo l key f i j=bsGo l key g i j
 | 0,0,_,_,_,_=>rfl
 | 0,g+1,i,j,h,_=>by rw [bsGo,bsGo,if_neg (by omega)]
 | f+1,0,i,j,_,h=>by rw [bsGo,bsGo,if_neg (by omega)]
 | f+1,g+1,i,j,h1,h2=>by
  rw [bsGo,bsGo]
  split
  ·split
   ·exact bsGo_fuel l key f g _ _ (by omega) (by omega)
   ·exact bsGo_fuel l key f g _ _ (by omega) (by omega)
  ·rfl
theorem bsGo_spec(l:List Txt)(key:Txt):∀ f i j,j - i≤f→i≤j→j≤l.length→(∀ x,0<i→l[i - 1]?=some x→Op.bytesLess x key=true)→(∀ x,l[j]?=some x→Op.bytesLess x key=false) →
  bsGo l key f i j≤l.length∧(∀ x,0<bsGo l key f i j→l[bsGo l key f i j - 1]?=some x→Op.bytesLess x key=true)∧(∀ x,l[bsGo l key f i j]?=some x→Op.bytesLess x key=false)
 | 0,i,j,hf,hij,hj,h1,h2=>by
  obtain rfl:i=j:=by omega
  exact ⟨hj,h1,h2⟩
 | f+1,i,j,hf,hij,hj,h1,h2=>by
  rw [bsGo]
  split
  ·have hm:(i+j) / 2<l.length:=by omega
   have e:l.getD ((i+j) / 2) []=l[(i+j) / 2]:=by rw [List.getD_eq_getElem?_getD,List.getElem?_eq_getElem hm]; rfl
   split
   ·rename_i hb
    refine bsGo_spec l key f _ _ (by omega) (by omega) hj (fun x _ hx=>?_) h2
    rw [Nat.add_sub_cancel,List.getElem?_eq_getElem hm] at hx
    cases hx
    rw [← e]; exact hb
   ·rename_i hb
    refine bsGo_spec l key f _ _ (by omega) (by omega) (by omega) h1 fun x hx=>?_
    rw [List.getElem?_eq_getElem hm] at hx
    cases hx
    rw [← e]; exact Bool.eq_false_iff.2 hb
  ·obtain rfl:i=j:=by omega
   exact ⟨hj,h1,h2⟩
theorem bsP_spec(l:List Txt)(key:Txt):bsP l key≤l.length∧(∀ x,0<bsP l key→l[bsP l key - 1]?=some x→Op.bytesLess x key=true)∧(∀ x,l[bsP l key]?=some x→Op.bytesLess x key=false) :=
 bsGo_spec l key _ _ _ (by omega) (by omega) (by omega) (fun x h _=>absurd h (Nat.lt_irrefl 0)) fun x hx=>by simp at hx
def ndP(P:List Txt)(a:Nat):Option Nd:=if chkN P a=0 then parseP (P.getD a []) else none
def downP(n:Nd)(key:Txt):Nat:=if n.keys[bsP n.keys key]?=some key then bsP n.keys key+1 else bsP n.keys key
theorem downP_le(n:Nd)(key:Txt):downP n key≤n.keys.length:=by
 have h:=(bsP_spec n.keys key).1
 unfold downP
 split
 ·rename_i hh
  have:=(List.getElem?_eq_some_iff.1 hh).1
  omega
 ·exact h
structure NdForm(n:Nd):Prop where
 few:n.keys.length≤255
 key:∀ x∈n.keys,x.length≤255
 val:∀ x∈n.vals,x.length≤255
 kid:∀ x∈n.kids,x≤65535
 lf:n.leaf=true→n.vals.length=n.keys.length∧n.kids=[]
 nl:n.leaf=false→n.vals=[]∧n.kids.length=n.keys.length+1
theorem ents_form(leaf:Bool):∀ (k:Nat) (s:Txt) (ks vs:List Txt) (ks' vs':List Txt) (r:Txt),entsP leaf k s ks vs=some (ks',vs',r)→(∀ x∈ks,x.length≤255)→(∀ x∈vs,x.length≤255) →
  ks'.length=ks.length+k∧vs'.length=vs.length+(if leaf=true then k else 0)∧(∀ x∈ks',x.length≤255)∧(∀ x∈vs',x.length≤255)
 | 0,s,ks,vs,ks',vs',r,h,h1,h2=>by
  simp only [entsP,Option.some.injEq,Prod.mk.injEq] at h
  obtain ⟨rfl,rfl,rfl⟩:=h
  refine ⟨rfl,?_,h1,h2⟩
  split <;> rfl
 | k+1,s,ks,vs,ks',vs',r,h,h1,h2=>by
  rw [entsP] at h
  cases ht:textP s with
  | none=>rw [ht] at h; cases h
  | some x =>
   obtain ⟨x,rr⟩:=x
   rw [ht] at h
   have hx:=(textP_le ht).2
   have h1':∀ y∈ks++[x],y.length≤255:=fun y hy=>by
    rcases List.mem_append.1 hy with hy | hy
    ·exact h1 y hy
    ·rw [List.mem_singleton] at hy; subst hy; exact hx
   cases leaf with
   | true =>
    simp only [if_true] at h
    cases hv:textP rr with
    | none=>rw [hv] at h; cases h
    | some v =>
     obtain ⟨v,r2⟩:=v
     rw [hv] at h
     have hvl:=(textP_le hv).2
     obtain ⟨g1,g2,g3,g4⟩:=ents_form true k r2 _ _ _ _ _ h h1' fun y hy=>by
      rcases List.mem_append.1 hy with hy | hy
      ·exact h2 y hy
      ·rw [List.mem_singleton] at hy; subst hy; exact hvl
     rw [List.length_append,List.length_singleton] at g1 g2
     simp only [if_true] at g2 ⊢
     exact ⟨by omega,by omega,g3,g4⟩
   | false =>
    simp only [Bool.false_eq_true,if_false] at h
    obtain ⟨g1,g2,g3,g4⟩:=ents_form false k rr _ _ _ _ _ h h1' h2
    rw [List.length_append,List.length_singleton] at g1
    simp only [Bool.false_eq_true,if_false] at g2 ⊢
    exact ⟨by omega,by omega,g3,g4⟩
theorem kids_form:∀ (k:Nat) (s:Txt) (cs cs':List Nat),kidsP k s cs=some cs'→(∀ x∈cs,x≤65535)→cs'.length=cs.length+k∧∀ x∈cs',x≤65535
 | 0,s,cs,cs',h,h1=>by
  simp only [kidsP,Option.some.injEq] at h
  subst h
  exact ⟨rfl,h1⟩
 | k+1,[],cs,cs',h,h1=>by simp [kidsP] at h
 | k+1,[_],cs,cs',h,h1=>by simp [kidsP] at h
 | k+1,a::b::s,cs,cs',h,h1=>by
  rw [kidsP] at h
  have ha:a.toNat<256:=a.toNat_lt
  have hb:b.toNat<256:=b.toNat_lt
  obtain ⟨g1,g2⟩:=kids_form k s _ _ h fun y hy=>by
   rcases List.mem_append.1 hy with hy | hy
   ·exact h1 y hy
   ·rw [List.mem_singleton] at hy; subst hy; omega
  rw [List.length_append,List.length_singleton] at g1
  exact ⟨by omega,g2⟩
theorem parse_form{s:Txt}{n:Nd}(h:parseP s=some n):NdForm n:=by
 match s with
 | []=>cases h
 | [_]=>cases h
 | a::b::s =>
  rw [parseP] at h
  split at h
  ·cases h
  cases he:entsP (decide (a=1)) b.toNat s [] [] with
  | none=>rw [he] at h; cases h
  | some x =>
   obtain ⟨ks,vs,r⟩:=x
   rw [he] at h
   obtain ⟨g1,g2,g3,g4⟩:=ents_form _ _ _ _ _ _ _ _ he (fun _ h=>by cases h) (fun _ h=>by cases h)
   have hb:b.toNat<256:=b.toNat_lt
   simp only [List.length_nil,Nat.zero_add] at g1 g2
   simp only at h
   by_cases ha:a=1
   ·rw [if_pos ha,Option.some.injEq] at h
    subst h
    rw [decide_eq_true ha] at g2
    exact ⟨by simp only; omega,g3,g4,(fun _ h=>by cases h),(fun _=>⟨by simp only at g2 ⊢; rw [g2,g1]; rfl,rfl⟩),(fun h=>by cases h)⟩
   ·rw [if_neg ha] at h
    rw [decide_eq_false ha] at g2
    cases hk:kidsP (b.toNat+1) r [] with
    | none=>rw [hk] at h; cases h
    | some cs =>
     rw [hk,Option.some.injEq] at h
     subst h
     obtain ⟨k1,k2⟩:=kids_form _ _ _ _ hk (fun _ h=>by cases h)
     rw [List.length_nil,Nat.zero_add] at k1
     exact ⟨by simp only; omega,g3,g4,k2,(fun h=>by cases h),fun _=>⟨List.eq_nil_of_length_eq_zero (by rw [g2]; rfl),by simp only; omega⟩⟩
theorem ndP_form{P:List Txt}{a:Nat}{n:Nd}(h:ndP P a=some n):NdForm n∧chkN P a=0:=by
 unfold ndP at h
 split at h
 ·rename_i hc; exact ⟨parse_form h,hc⟩
 ·cases h
def recsGo{σ:Type}(f:σ→Rec→Bool × σ)(key:Txt):List Rec→σ→Bool × σ
 | [],s=>(true,s)
 | x::r,s=>if Op.bytesLess x.1 key=true then recsGo f key r s else if (f s x).1=true then recsGo f key r (f s x).2 else (false,(f s x).2)
def kidsGo{σ:Type}(g:Nat→Nat→σ→Bool × Nat × σ):List Nat→Nat→σ→Bool × Nat × σ
 | [],left,s=>(true,left,s)
 | k::ks,left,s=>if (g k left s).1=true then kidsGo g ks (g k left s).2.1 (g k left s).2.2 else (false,0,(g k left s).2.2)
def walkP{σ:Type}(P:List Txt)(f:σ→Rec→Bool × σ)(key:Txt):Nat→Nat→Nat→σ→Bool × Nat × σ
 | 0,_,_,s=>(false,0,s)
 | d+1,at',left,s=>match ndP P at' with
  | none=>(false,0,s)
  | some n=>if left=0 then (false,0,s) else if n.leaf=true then ((recsGo f key (n.keys.zip n.vals) s).1,left - 1,(recsGo f key (n.keys.zip n.vals) s).2) else kidsGo (walkP P f key d) (n.kids.drop (downP n key)) (left - 1) s
def getP(P:List Txt)(key:Txt):Nat→Nat→Option Txt
 | 0,_=>none
 | f+1,at'=>match ndP P at' with
  | none=>none
  | some n=>if n.leaf=true then (if n.keys[bsP n.keys key]?=some key then n.vals[bsP n.keys key]? else none) else getP P key f (n.kids.getD (downP n key) 0)
structure Vis where
 pages:List Nat
 depth:Nat
 last:Txt
 any:Bool
 bad:Bool
open Go Go.Ann Go.RowKit Go.WideShapes
theorem cnan_ok(x:List UInt8)(w:World):Ret Tryz.prog 173 [.string (ofL x)] w fun u w'=>u=.bool false∧w'=w:=by
 refine ent173 _ _ _ ?_
 simp (disch:=first|omega|exact zF rfl|exact zG rfl|exact fun h=>h|(simp only[zA,zB,zC,zD,bytesW];omega)) only[go_sem]
theorem snan_ok(x:List UInt8)(w:World):Ret Tryz.prog 138 [.string (ofL x)] w fun u w'=>u=.bool false∧w'=w:=by
 refine ent138 _ _ _ ?_
 simp (disch:=first|omega|exact zF rfl|exact zG rfl|exact fun h=>h|(simp only[zA,zB,zC,zD,bytesW];omega)) only[go_sem]
theorem less_ok(x y:List UInt8)(w:World):Ret Tryz.prog 137 [.string (ofL x),.string (ofL y)] w fun u w'=>u=.bool (Op.bytesLess x y)∧w'=w:=by
 refine ent137 _ _ _ _ ?_
 simp (disch:=first|omega|exact zF rfl|exact zG rfl|exact fun h=>h|(simp only[zA,zB,zC,zD,bytesW];omega)) only[go_sem]
 refine Ret.mono (cnan_ok x w) ?_
 rintro _ _ ⟨rfl,rfl⟩
 simp (disch:=first|omega|exact zF rfl|exact zG rfl|exact fun h=>h|(simp only[zA,zB,zC,zD,bytesW];omega)) only[go_sem]
theorem bsearch_ok{v:Value}{l:List (List UInt8)}(key:List UInt8)(w:World)(h:RdS w 1 strE v l)(hl:l.length≤100000) :
  Ret Tryz.prog 77 [v,.string (ofL key)] w fun u w'=>∃ i:Nat,u=.tuple #[.int .i64 i,.bool (decide (l[i]?=some key))]∧i≤l.length∧(∀ x,0<i→l[i - 1]?=some x→Op.bytesLess x key=true)∧(∀ x,l[i]?=some x→Op.bytesLess x key=false)∧Below w.heap.size w w':=by
 obtain ⟨a,c,rfl,_⟩:=h.form
 refine ent77 _ _ _ _ ?_
 simp (disch:=first|omega|exact zF rfl|exact zG rfl|exact fun h=>h|(simp only[zA,zB,zC,zD,bytesW];omega)) only[go_sem]
 refine W_loopU (fun q:Nat × Nat=>[(7,.int .i64 q.1),(8,.int .i64 q.2)]) (fun q w'=>q.1≤q.2∧q.2≤l.length∧(∀ x,0<q.1→l[q.1 - 1]?=some x→Op.bytesLess x key=true)∧(∀ x,l[q.2]?=some x→Op.bytesLess x key=false)∧Below w.heap.size w w') (fun q=>q.2 - q.1) (0,l.length) rfl ⟨Nat.zero_le _,Nat.le_refl _,fun x hx _=>absurd hx (Nat.lt_irrefl 0),fun x hx=>(by simp at hx),Below.refl _ _⟩ ?_
 rintro ⟨i,j⟩ w2 ⟨hij,hj,hlo,hhi,b2⟩
 simp only at hij hj hlo hhi
 have h2:=h.below b2 (by decide)
 by_cases hlt:i<j
 case pos =>
  have hlt':(i:Int)<j:=by omega
  obtain ⟨p,rfl⟩:=h.ptr (by omega)
  obtain ⟨m,hm⟩:∃ m,m=(i+j) / 2:=⟨_,rfl⟩
  have hml:m<l.length:=by omega
  have em:=RdS.at1 (e1:=fun r=>.string (ofL r)) h2 hml
  have emid:IntKind.u64.wrap ((i:Int)+(j:Int)) / 2 ^ min 1 64=(m:Int):=by
   have e1:IntKind.u64.wrap ((i:Int)+(j:Int))=((i+j:Nat):Int):=by
    have:((i:Int)+(j:Int))=((i+j:Nat):Int):=by omega
    rw [this,wrap_u64_id _ (by omega) (by omega)]
   rw [e1,hm]
   show (((i+j:Nat):Int)) / 2=_
   omega
  have hml':(m:Int)<l.length:=by omega
  simp (disch:=first|omega|exact zF rfl|exact zG rfl|exact fun h=>h|(simp only[zA,zB,zC,zD,bytesW];omega)) only[go_sem,c77L0,c77L0,hlt',emid,em,hml']
  refine ⟨⟨by omega,by omega⟩,⟨by omega,by omega⟩,by omega,Ret.mono (less_ok l[m] key w2) ?_⟩
  rintro _ w3 ⟨rfl,rfl⟩
  cases hb:Op.bytesLess l[m] key with
  | true =>
   simp (disch:=first|omega|exact zF rfl|exact zG rfl|exact fun h=>h|(simp only[zA,zB,zC,zD,bytesW];omega)) only[go_sem,c77L0]
   refine ⟨⟨by omega,by omega⟩,(m+1,j),rfl,⟨by simp only; omega,hj,fun x _ hx=>?_,hhi,b2⟩,by simp only; omega⟩
   rw [Nat.add_sub_cancel,List.getElem?_eq_getElem hml] at hx
   cases hx
   exact hb
  | false =>
   simp (disch:=first|omega|exact zF rfl|exact zG rfl|exact fun h=>h|(simp only[zA,zB,zC,zD,bytesW];omega)) only[go_sem,c77L0]
   refine ⟨(i,m),rfl,⟨by simp only; omega,by simp only; omega,hlo,fun x hx=>?_,b2⟩,by simp only; omega⟩
   rw [List.getElem?_eq_getElem hml] at hx
   cases hx
   exact hb
 case neg =>
  have hlt':¬ (i:Int)<j:=by omega
  obtain rfl:i=j:=by omega
  simp (disch:=first|omega|exact zF rfl|exact zG rfl|exact fun h=>h|(simp only[zA,zB,zC,zD,bytesW];omega)) only[go_sem,c77L0,c77L0,hlt']
  by_cases hil:i<l.length
  case neg =>
   have hil':¬ (i:Int)<l.length:=by omega
   obtain rfl:i=l.length:=by omega
   simp (disch:=first|omega|exact zF rfl|exact zG rfl|exact fun h=>h|(simp only[zA,zB,zC,zD,bytesW];omega)) only[go_sem,c77L0,c77S3,hil']
   exact ⟨l.length,by simp,hj,hlo,hhi,b2⟩
  have hil':(i:Int)<l.length:=by omega
  obtain ⟨p,rfl⟩:=h.ptr (by omega)
  have em:=RdS.at1 (e1:=fun r=>.string (ofL r)) h2 hil
  by_cases hk:l[i]=key
  ·simp (disch:=first|omega|exact zF rfl|exact zG rfl|exact fun h=>h|(simp only[zA,zB,zC,zD,bytesW];omega)) only[go_sem,c77L0,c77S3,hil',em,hk]
   exact ⟨by omega,i,by rw [List.getElem?_eq_getElem hil,hk]; simp,hj,hlo,hhi,b2⟩
  ·simp (disch:=first|omega|exact zF rfl|exact zG rfl|exact fun h=>h|(simp only[zA,zB,zC,zD,bytesW];omega)) only[go_sem,c77L0,c77S3,hil',em,hk]
   refine ⟨by omega,by omega,Ret.mono (snan_ok l[i] w2) ?_⟩
   rintro _ _ ⟨rfl,rfl⟩
   simp (disch:=first|omega|exact zF rfl|exact zG rfl|exact fun h=>h|(simp only[zA,zB,zC,zD,bytesW];omega)) only[go_sem,c77L0,c77S3]
   exact ⟨i,by rw [List.getElem?_eq_getElem hil]; simp [hk],hj,hlo,hhi,b2⟩
open Go Go.Ann Go.RowKit Go.WideShapes
theorem gbsearch_ok{v:Value}{l:List (List UInt8)}(key:List UInt8)(w:World)(h:RdS w 1 strE v l)(hl:l.length≤100000) :
  Ret Tryz.prog 77 [v,.string (ofL key)] w fun u w'=>u=.tuple #[.int .i64 (bsP l key:Nat),.bool (decide (l[bsP l key]?=some key))]∧Below w.heap.size w w':=by
 obtain ⟨a,c,rfl,_⟩:=h.form
 refine ent77 _ _ _ _ ?_
 simp (disch:=first|omega|exact zF rfl|exact zG rfl|exact fun h=>h|(simp only[zA,zB,zC,zD,bytesW];omega)) only[go_sem]
 refine W_loopU (fun q:Nat × Nat=>[(7,.int .i64 q.1),(8,.int .i64 q.2)]) (fun q w'=>q.1≤q.2∧q.2≤l.length∧bsGo l key (q.2 - q.1) q.1 q.2=bsP l key∧Below w.heap.size w w') (fun q=>q.2 - q.1) (0,l.length) rfl ⟨Nat.zero_le _,Nat.le_refl _,rfl,Below.refl _ _⟩ ?_
 rintro ⟨i,j⟩ w2 ⟨hij,hj,hgo,b2⟩
 simp only at hij hj hgo
 have h2:=h.below b2 (by decide)
 by_cases hlt:i<j
 case pos =>
  have hlt':(i:Int)<j:=by omega
  obtain ⟨p,rfl⟩:=h.ptr (by omega)
  obtain ⟨m,hm⟩:∃ m,m=(i+j) / 2:=⟨_,rfl⟩
  have hml:m<l.length:=by omega
  have em:=RdS.at1 (e1:=fun r=>.string (ofL r)) h2 hml
  have emid:IntKind.u64.wrap ((i:Int)+(j:Int)) / 2 ^ min 1 64=(m:Int):=by
   have e1:IntKind.u64.wrap ((i:Int)+(j:Int))=((i+j:Nat):Int):=by
    have:((i:Int)+(j:Int))=((i+j:Nat):Int):=by omega
    rw [this,wrap_u64_id _ (by omega) (by omega)]
   rw [e1,hm]
   show (((i+j:Nat):Int)) / 2=_
   omega
  have hml':(m:Int)<l.length:=by omega
  obtain ⟨f,hf⟩:∃ f,j - i=f+1:=⟨j - i - 1,by omega⟩
  rw [hf,bsGo,if_pos hlt,← hm] at hgo
  have eg:l.getD m []=l[m]:=by rw [List.getD_eq_getElem?_getD,List.getElem?_eq_getElem hml]; rfl
  rw [eg] at hgo
  simp (disch:=first|omega|exact zF rfl|exact zG rfl|exact fun h=>h|(simp only[zA,zB,zC,zD,bytesW];omega)) only[go_sem,c77L0,c77L0,hlt',emid,em,hml']
  refine ⟨⟨by omega,by omega⟩,⟨by omega,by omega⟩,by omega,Ret.mono (less_ok l[m] key w2) ?_⟩
  rintro _ w3 ⟨rfl,rfl⟩
  cases hb:Op.bytesLess l[m] key with
  | true =>
   rw [if_pos hb] at hgo
   simp (disch:=first|omega|exact zF rfl|exact zG rfl|exact fun h=>h|(simp only[zA,zB,zC,zD,bytesW];omega)) only[go_sem,c77L0]
   refine ⟨⟨by omega,by omega⟩,(m+1,j),rfl,⟨by simp only; omega,hj,?_,b2⟩,by simp only; omega⟩
   rw [← hgo]
   exact bsGo_fuel l key _ _ _ _ (by simp only; omega) (by omega)
  | false =>
   rw [if_neg (by rw [hb]; decide)] at hgo
   simp (disch:=first|omega|exact zF rfl|exact zG rfl|exact fun h=>h|(simp only[zA,zB,zC,zD,bytesW];omega)) only[go_sem,c77L0]
   refine ⟨(i,m),rfl,⟨by simp only; omega,by simp only; omega,?_,b2⟩,by simp only; omega⟩
   rw [← hgo]
   exact bsGo_fuel l key _ _ _ _ (by simp only; omega) (by omega)
 case neg =>
  have hlt':¬ (i:Int)<j:=by omega
  obtain rfl:i=j:=by omega
  rw [Nat.sub_self,bsGo] at hgo
  rw [← hgo]
  simp (disch:=first|omega|exact zF rfl|exact zG rfl|exact fun h=>h|(simp only[zA,zB,zC,zD,bytesW];omega)) only[go_sem,c77L0,c77L0,hlt']
  by_cases hil:i<l.length
  case neg =>
   have hil':¬ (i:Int)<l.length:=by omega
   obtain rfl:i=l.length:=by omega
   simp (disch:=first|omega|exact zF rfl|exact zG rfl|exact fun h=>h|(simp only[zA,zB,zC,zD,bytesW];omega)) only[go_sem,c77L0,c77S3,hil']
   simp
   exact b2
  have hil':(i:Int)<l.length:=by omega
  obtain ⟨p,rfl⟩:=h.ptr (by omega)
  have em:=RdS.at1 (e1:=fun r=>.string (ofL r)) h2 hil
  by_cases hk:l[i]=key
  ·simp (disch:=first|omega|exact zF rfl|exact zG rfl|exact fun h=>h|(simp only[zA,zB,zC,zD,bytesW];omega)) only[go_sem,c77L0,c77S3,hil',em,hk]
   refine ⟨by omega,?_,b2⟩
   rw [List.getElem?_eq_getElem hil,hk]; simp
  ·simp (disch:=first|omega|exact zF rfl|exact zG rfl|exact fun h=>h|(simp only[zA,zB,zC,zD,bytesW];omega)) only[go_sem,c77L0,c77S3,hil',em,hk]
   refine ⟨by omega,by omega,Ret.mono (snan_ok l[i] w2) ?_⟩
   rintro _ _ ⟨rfl,rfl⟩
   simp (disch:=first|omega|exact zF rfl|exact zG rfl|exact fun h=>h|(simp only[zA,zB,zC,zD,bytesW];omega)) only[go_sem,c77L0,c77S3]
   refine ⟨?_,b2⟩
   rw [List.getElem?_eq_getElem hil]; simp [hk]
theorem down_ok{kv vv cv:Value}{n:Nd}(key:List UInt8)(w:World)(h:RdS w 1 strE kv n.keys)(hl:n.keys.length≤100000) :
  Ret Tryz.prog 76 [.agg #[.bool n.leaf,kv,vv,cv],.string (ofL key)] w fun u w'=>u=.int .i64 (downP n key:Nat)∧Below w.heap.size w w':=by
 obtain ⟨a,c,rfl,_⟩:=h.form
 have b1:=(Below.refl _ w).alloc (Nat.le_refl _) (.cells #[.bool n.leaf,.slice a n.keys.length c,vv,cv] 119)
 refine ent76 _ _ _ _ ?_
 simp (disch:=first|omega|exact zF rfl|exact zG rfl|exact fun h=>h|(simp only[zA,zB,zC,zD,bytesW];omega)) only[go_sem]
 generalize w.alloc (.cells #[.bool n.leaf,.slice a n.keys.length c,vv,cv] 119)=w1 at b1 ⊢
 refine Ret.mono (gbsearch_ok key w1 (h.below b1 (by decide)) hl) ?_
 rintro _ w2 ⟨rfl,b2⟩
 have b3:Below w.heap.size w w2:=Below.next b1 b2
 have hle:=(bsP_spec n.keys key).1
 unfold downP
 generalize bsP n.keys key=b at hle ⊢
 by_cases hk:n.keys[b]?=some key
 ·rw [decide_eq_true hk,if_pos hk]
  simp (disch:=first|omega|exact zF rfl|exact zG rfl|exact fun h=>h|(simp only[zA,zB,zC,zD,bytesW];omega)) only[go_sem]
  exact ⟨⟨by omega,by omega⟩,b3⟩
 ·rw [decide_eq_false hk,if_neg hk]
  simp (disch:=first|omega|exact zF rfl|exact zG rfl|exact fun h=>h|(simp only[zA,zB,zC,zD,bytesW];omega)) only[go_sem]
  exact b3
section
variable {W0 w:World} {F:Nat→Prop} {L:List Res} {I:List Inv} {e:En} {P:List (List UInt8)} {tb:Nat} {i:Int}
abbrev ndR(nd:Nd)(kv vv cv:Value):List Res:=[.row kv 9 1 nd.keys.length (nd.keys.flatMap strE),.row vv 9 1 nd.vals.length (nd.vals.flatMap strE),.row cv 3 1 nd.kids.length (nd.kids.flatMap natE)]
def LoadedP(e:En)(P:List (List UInt8))(W0:World)(F:Nat→Prop)(L:List Res)(I:List Inv)(x:Option Nd)(u:Value)(w':World):Prop:=match x with
 | none=>∃ er:Int,er≠0∧u=.tuple #[.agg ndZ,.int .i64 er]∧Pgr e P W0 w' F L I
 | some nd=>∃ kv vv cv,u=.tuple #[.agg #[.bool nd.leaf,kv,vv,cv],.int .i64 0]∧Pgr e P W0 w' F (ndR nd kv vv cv++L) I
theorem Pgr.plen(h:Pgr e P W0 w F L I)(a:Nat):(P.getD a []).length≤256:=by
 rw [List.getD_eq_getElem?_getD]
 cases hp:P[a]? with
 | none=>exact Nat.zero_le _
 | some x=>rw [Option.getD_some,h.full x (List.mem_of_getElem? hp)]; exact Nat.le_refl _
theorem gload_ok{a:Nat}(h:Pgr e P W0 w F (trB tb e i::L) I)(h3:3≤P.length)(ha:a≤4294967296) :
  Ret Tryz.prog 75 [.pointer (some ⟨tb,0,none⟩),.int .i64 a] w (LoadedP e P W0 F (trB tb e i::L) I (ndP P a)):=by
 have h2:=h.box #[.bool false,.slice none 0 0,.slice none 0 0,.slice none 0 0] 119
 have hpl:=h.plen a
 refine ent75 _ _ _ _ ?_
 simp (disch:=first|omega|exact zF rfl|exact zG rfl|exact fun h=>h|(simp only[zA,zB,zC,zD,bytesW];omega)) only[go_sem,c75S1]
 generalize w.heap.size=b at h2 ⊢
 generalize w.alloc (.cells #[.bool false,.slice none 0 0,.slice none 0 0,.slice none 0 0] 119)=w2 at h2 ⊢
 have r:=h2.rules 1 rfl
 simp (disch:=first|omega|exact zF rfl|exact zG rfl|exact fun h=>h|(simp only[zA,zB,zC,zD,bytesW];omega)) only[go_sem,c75S1,r]
 refine Ret.mono (pget_ok (a:Nat) h2 h3 ⟨by omega,by omega⟩) ?_
 unfold ndP
 by_cases hok:chkN P (a:Nat)=0
 ·have eg:getN P (a:Nat)=(P.getD a [],0):=by
   unfold getN
   rw [if_neg (by rw [hok]; exact fun h=>h rfl)]; rfl
  rw [eg,if_pos hok]
  rintro _ w3 ⟨rfl,h3'⟩
  simp (disch:=first|omega|exact zF rfl|exact zG rfl|exact fun h=>h|(simp only[zA,zB,zC,zD,bytesW];omega)) only[go_sem,c75S1]
  obtain ⟨A,st,back⟩:=h3'.lift
  refine Ret.mono (parse_ok (P.getD a []) st (by omega)) ?_
  cases hp:parseP (P.getD a []) with
  | none =>
   rintro _ w4 ⟨rfl,s4⟩
   have r4:=s4.rules 0 rfl
   simp (disch:=first|omega|exact zF rfl|exact zG rfl|exact fun h=>h|(simp only[zA,zB,zC,zD,bytesW];omega)) only[go_sem,c75S1,r4]
   exact ⟨14,by decide,rfl,back _ (trB tb e i::L) _ ((s4.fill 0 rfl rfl).sub (List.sublist_cons_self ..))⟩
  | some nd =>
   rintro _ w4 ⟨kv,vv,cv,rfl,s4⟩
   obtain ⟨ka,kc,rfl,_⟩:=own_slice (s4.row 0 rfl)
   obtain ⟨va,vc,rfl,_⟩:=own_slice (s4.row 1 rfl)
   obtain ⟨ca,cc,rfl,_⟩:=own_slice (s4.row 2 rfl)
   have r4:=s4.rules 3 rfl
   simp (disch:=first|omega|exact zF rfl|exact zG rfl|exact fun h=>h|(simp only[zA,zB,zC,zD,bytesW];omega)) only[go_sem,c75S1,r4]
   exact ⟨_,_,_,rfl,back _ (_::_::_::trB tb e i::L) _ ((s4.fill 3 (cs:=#[.bool nd.leaf,.slice ka nd.keys.length kc,.slice va nd.vals.length vc,.slice ca nd.kids.length cc]) rfl rfl).sub (.cons_cons _ (.cons_cons _ (.cons_cons _ (List.sublist_cons_self ..)))))⟩
 ·have eg:getN P (a:Nat)=([],chkN P (a:Nat)):=by
   unfold getN
   rw [if_pos hok]
  rw [eg,if_neg hok]
  rintro _ w3 ⟨rfl,h3'⟩
  simp (disch:=first|omega|exact zF rfl|exact zG rfl|exact fun h=>h|(simp only[zA,zB,zC,zD,bytesW];omega)) only[go_sem]
  refine ⟨fun _=>bdW_built (cells:=ndZ) (by kernel_rfl) ?_,fun hc=>(hok hc).elim⟩
  have r:=h3'.rules 0 rfl
  simp (disch:=first|omega|exact zF rfl|exact zG rfl|exact fun h=>h|(simp only[zA,zB,zC,zD,bytesW];omega)) only[go_sem,c75S1,r]
  obtain ⟨A,st,back⟩:=h3'.lift
  exact ⟨_,hok,rfl,back _ (trB tb e i::L) _ ((st.fill 0 rfl rfl).sub (List.sublist_cons_self ..))⟩
end
open Go Go.Ann Go.RowKit Go.WideShapes
section
variable {W0 w:World} {F:Nat→Prop} {L:List Res} {I:List Inv} {e:En} {P:List (List UInt8)} {tb n:Nat} {i:Int}
abbrev wkB(wb tb:Nat)(key:List UInt8)(fv:Value)(left:Int):Res:=.blk wb #[.pointer (some ⟨tb,0,none⟩),.string (ofL key),fv,.int .i64 left] 189
def YieldF{σ:Type}(e:En)(P:List Txt)(W0:World)(F:Nat→Prop)(I:List Inv)(R:σ→Value→List Res)(f:σ→Rec→Bool × σ)(Ok:σ→Prop)(fv:Value):Prop :=
 ∀ (Y:List Res) s v x w',Ok s→Pgr e P W0 w' F (Y++R s v) I→callW Tryz.prog fv [.string (ofL x.1),.string (ofL x.2)] w' fun u w''=>u=.bool (f s x).1∧∃ v',Pgr e P W0 w'' F (Y++R (f s x).2 v') I
def WalkE{σ:Type}(e:En)(P:List Txt)(W0:World)(F:Nat→Prop)(I:List Inv)(R:σ→Value→List Res)(Ok:σ→Prop)(wb tb:Nat)(key:Txt)(fv:Value)(i:Int)(X:List Res)(r:Bool × Nat × σ)(u:Value)(w':World):Prop :=
 ∃ (lf:Int) (v':Value),u=.bool r.1∧(r.1=true→lf=r.2.1∧r.2.1≤1024∧Ok r.2.2)∧Pgr e P W0 w' F (wkB wb tb key fv lf::trB tb e i::(X++R r.2.2 v')) I
theorem walk_ok{σ:Type}{f:σ→Rec→Bool × σ}{R:σ→Value→List Res}{Ok:σ→Prop}{fv:Value}{wb:Nat}{key:Txt}(hf:YieldF e P W0 F I R f Ok fv)(hOk:∀ s x,Ok s→(f s x).1=true→Ok (f s x).2)(h3:3≤P.length) :
  ∀ (d a left:Nat) (s:σ) (v0:Value) (X:List Res) (w:World),Pgr e P W0 w F (wkB wb tb key fv left::trB tb e i::(X++R s v0)) I→d≤32→a≤4294967296→left≤1024→Ok s →
  Ret Tryz.prog 135 [.pointer (some ⟨wb,0,none⟩),.int .i64 a,.int .i64 d] w (WalkE e P W0 F I R Ok wb tb key fv i X (walkP P f key d a left s)):=by
 intro d
 induction d with
 | zero =>
  intro a left s v0 X w h hd ha hl hs
  have r:=h.rules 0 rfl
  refine ent135 _ _ _ _ _ ?_
  simp (disch:=first|omega|exact zF rfl|exact zG rfl|exact fun h=>h|(simp only[zA,zB,zC,zD,bytesW];omega)) only[go_sem,c135L0,c135L1,r]
  have h2:=(h.set 0 rfl 3 (.int .i64 ((left:Int) - 1)))
  generalize w.setCell ⟨wb,3,none⟩ (.int .i64 ((left:Int) - 1))=w2 at h2 ⊢
  refine ⟨⟨by omega,by omega⟩,Ret.mono (gload_ok (h2.perm (List.Perm.swap _ _ _)) h3 ha) ?_⟩
  rw [walkP]
  cases hnd:ndP P a with
  | none =>
   rintro _ w3 ⟨er,her,rfl,h3'⟩
   simp (disch:=first|omega|exact zF rfl|exact zG rfl|exact fun h=>h|(simp only[zA,zB,zC,zD,bytesW];omega)) only[go_sem,c135L0,c135L1,c135S11,her]
   exact ⟨_,_,rfl,fun h=>(by cases h),((h3'.box _ _).sub (List.sublist_cons_self ..)).perm (List.Perm.swap _ _ _)⟩
  | some nd =>
   rintro _ w3 ⟨kv,vv,cv,rfl,h3'⟩
   obtain ⟨ka,kc,rfl,_⟩:=own_slice (h3'.row 0 rfl)
   obtain ⟨va,vc,rfl,_⟩:=own_slice (h3'.row 1 rfl)
   obtain ⟨ca,cc,rfl,_⟩:=own_slice (h3'.row 2 rfl)
   simp (disch:=first|omega|exact zF rfl|exact zG rfl|exact fun h=>h|(simp only[zA,zB,zC,zD,bytesW];omega)) only[go_sem,c135L0,c135L1,c135S11]
   exact ⟨_,_,rfl,fun h=>(by cases h),((h3'.box _ _).sub (L':=_::_::(X++R s v0)) (.cons _ (.cons _ (.cons _ (.cons _ (List.Sublist.refl _)))))).perm (List.Perm.swap _ _ _)⟩
 | succ d ih =>
 intro a left s v0 X w h hd ha hl hs
 have r:=h.rules 0 rfl
 refine ent135 _ _ _ _ _ ?_
 simp (disch:=first|omega|exact zF rfl|exact zG rfl|exact fun h=>h|(simp only[zA,zB,zC,zD,bytesW];omega)) only[go_sem,c135L0,c135L1,r]
 have h2:=(h.set 0 rfl 3 (.int .i64 ((left:Int) - 1)))
 generalize w.setCell ⟨wb,3,none⟩ (.int .i64 ((left:Int) - 1))=w2 at h2 ⊢
 refine ⟨⟨by omega,by omega⟩,Ret.mono (gload_ok (h2.perm (List.Perm.swap _ _ _)) h3 ha) ?_⟩
 rw [walkP]
 cases hnd:ndP P a with
 | none =>
  rintro _ w3 ⟨er,her,rfl,h3'⟩
  simp (disch:=first|omega|exact zF rfl|exact zG rfl|exact fun h=>h|(simp only[zA,zB,zC,zD,bytesW];omega)) only[go_sem,c135L0,c135L1,c135S11,her]
  exact ⟨_,_,rfl,fun h=>(by cases h),(h3'.box _ _).sub (List.sublist_cons_self ..) |>.perm (List.Perm.swap _ _ _)⟩
 | some nd =>
 rintro _ w3 ⟨kv,vv,cv,rfl,h3'⟩
 have form:=(ndP_form hnd).1
 have hkl:=form.few
 obtain ⟨ka,kc,rfl,_⟩:=own_slice (h3'.row 0 rfl)
 obtain ⟨va,vc,rfl,_⟩:=own_slice (h3'.row 1 rfl)
 obtain ⟨ca,cc,rfl,_⟩:=own_slice (h3'.row 2 rfl)
 simp (disch:=first|omega|exact zF rfl|exact zG rfl|exact fun h=>h|(simp only[zA,zB,zC,zD,bytesW];omega)) only[go_sem,c135L0,c135L1]
 have h4:=h3'.box #[.bool nd.leaf,.slice ka nd.keys.length kc,.slice va nd.vals.length vc,.slice ca nd.kids.length cc] 119
 generalize w3.heap.size=nb at h4 ⊢
 generalize w3.alloc (.cells #[.bool nd.leaf,.slice ka nd.keys.length kc,.slice va nd.vals.length vc,.slice ca nd.kids.length cc] 119)=w4 at h4 ⊢
 have r:=h4.rules 5 rfl
 have rn:=h4.rules 0 rfl
 have hd1:¬ ((d:Int)+1=0):=by omega
 by_cases hl0:left=0
 ·have hl1:(left:Int) - 1<0:=by omega
  rw [if_pos hl0]
  simp (disch:=first|omega|exact zF rfl|exact zG rfl|exact fun h=>h|(simp only[zA,zB,zC,zD,bytesW];omega)) only[go_sem,c135L0,c135L1,c135S11,r,rn,hd1,hl1]
  exact ⟨_,_,rfl,fun h=>(by cases h),(h4.sub (L':=_::_::(X++R s v0)) (.cons _ (.cons _ (.cons _ (.cons _ (List.Sublist.refl _)))))).perm (List.Perm.swap _ _ _)⟩
 have hl1:¬ ((left:Int) - 1<0):=by omega
 rw [if_neg hl0]
 have el:((left:Int) - 1)=((left - 1:Nat):Int):=by omega
 rw [el] at h4 r hl1
 obtain ⟨l1,hl1e⟩:∃ l1,l1=left - 1:=⟨_,rfl⟩
 rw [← hl1e] at h4 r hl1 ⊢
 have hl1':l1≤1024:=by omega
 clear el hl1e hl0 h2 h3' h
 cases hlf:nd.leaf with
 | true =>
  obtain ⟨hvl,_⟩:=form.lf hlf
  rw [hlf] at h4 rn
  simp (disch:=first|omega|exact zF rfl|exact zG rfl|exact fun h=>h|(simp only[zA,zB,zC,zD,bytesW];omega)) only[go_sem,c135L0,c135S11,r,rn,hd1,hl1]
  have h5:Pgr e P W0 w4 F (.blk nb #[.bool true,.slice ka nd.keys.length kc,.slice va nd.vals.length vc,.slice ca nd.kids.length cc] 119::.row (.slice ka nd.keys.length kc) 9 1 nd.keys.length (nd.keys.flatMap strE)::.row (.slice va nd.vals.length vc) 9 1 nd.vals.length (nd.vals.flatMap strE)::.row (.slice ca nd.kids.length cc) 3 1 nd.kids.length (nd.kids.flatMap natE)::trB tb e i::wkB wb tb key fv l1::(X++R s v0)) I:=h4
  obtain ⟨zl,hzl⟩:∃ zl,zl=nd.keys.zip nd.vals:=⟨_,rfl⟩
  rw [← hzl]
  have hzlen:zl.length=nd.keys.length:=by rw [hzl,List.length_zip]; omega
  refine W_loopU (fun k:Nat=>[(70,.int .i64 k)]) (fun k w'=>k≤nd.keys.length∧∃ sk vk,recsGo f key zl s=recsGo f key (zl.drop k) sk∧Ok sk∧Pgr e P W0 w' F (.blk nb #[.bool true,.slice ka nd.keys.length kc,.slice va nd.vals.length vc,.slice ca nd.kids.length cc] 119::.row (.slice ka nd.keys.length kc) 9 1 nd.keys.length (nd.keys.flatMap strE)::.row (.slice va nd.vals.length vc) 9 1 nd.vals.length (nd.vals.flatMap strE)::.row (.slice ca nd.kids.length cc) 3 1 nd.kids.length (nd.kids.flatMap natE)::trB tb e i::wkB wb tb key fv l1::(X++R sk vk)) I) (fun k=>nd.keys.length - k) 0 rfl ⟨Nat.zero_le _,s,v0,rfl,hs,h5⟩ ?_
  clear h4 h5 r rn
  rintro k w5 ⟨hk,sk,vk,hgo,hsk,h5⟩
  by_cases hlt:k<nd.keys.length
  case neg =>
   have hlt':¬ (k:Int)<nd.keys.length:=by omega
   rw [List.drop_of_length_le (by omega),recsGo] at hgo
   rw [hgo]
   simp (disch:=first|omega|exact zF rfl|exact zG rfl|exact fun h=>h|(simp only[zA,zB,zC,zD,bytesW];omega)) only[go_sem,c135L0,c135L1,c135S11,c135L1,hlt']
   exact ⟨_,_,rfl,fun _=>⟨rfl,hl1',hsk⟩,(h5.sub (L':=_::_::(X++R sk vk)) (.cons _ (.cons _ (.cons _ (.cons _ (List.Sublist.refl _)))))).perm (List.Perm.swap _ _ _)⟩
  have hlt':(k:Int)<nd.keys.length:=by omega
  have hrk:RdS w5 1 strE (.slice ka nd.keys.length kc) nd.keys:=RdS.of_own' (h5.row 1 rfl) nd.keys rfl rfl
  obtain ⟨p1,rfl⟩:=hrk.ptr (by omega)
  have ek:=RdS.at1 (e1:=fun r=>.string (ofL r)) hrk hlt
  have hdk:zl.drop k=(nd.keys[k],nd.vals[k])::zl.drop (k+1):=by
   rw [List.drop_eq_getElem_cons (by omega)]
   congr 1
   simp only [hzl,List.getElem_zip]
  rw [hdk,recsGo] at hgo
  simp (disch:=first|omega|exact zF rfl|exact zG rfl|exact fun h=>h|(simp only[zA,zB,zC,zD,bytesW];omega)) only[go_sem,c135L0,c135L1,c135S11,c135L1,hlt',ek]
  refine ⟨by omega,?_⟩
  refine c135draw1Y (Same (fun b=>b=wb) _) (Same.refl _ _) ?_
  have h6:=h5.drew
  generalize w5.drew=w6 at h6 ⊢
  have r:=h6.rules 5 rfl
  have rn:=h6.rules 0 rfl
  have hrv:RdS w6 1 strE (.slice va nd.vals.length vc) nd.vals:=RdS.of_own' (h6.row 2 rfl) nd.vals rfl rfl
  obtain ⟨p2,rfl⟩:=hrv.ptr (by omega)
  have ev:=RdS.at1 (e1:=fun r=>.string (ofL r)) hrv (k:=k) (by omega)
  have hltv:(k:Int)<nd.vals.length:=by omega
  simp (disch:=first|omega|exact zF rfl|exact zG rfl|exact fun h=>h|(simp only[zA,zB,zC,zD,bytesW];omega)) only[go_sem,c135L0,c135L1,c135S11,c135D1,r,rn,ev,hlt',hltv]
  cases hb:Op.bytesLess nd.keys[k] key with
  | true =>
   rw [if_pos hb] at hgo
   simp (disch:=first|omega|exact zF rfl|exact zG rfl|exact fun h=>h|(simp only[zA,zB,zC,zD,bytesW];omega)) only[go_sem,c135L0,c135L1,c135S11]
   exact ⟨Same.refl _ _,⟨by omega,by omega⟩,k+1,rfl,⟨hlt,sk,vk,hgo,hsk,h6⟩,by omega⟩
  | false =>
   rw [if_neg (by rw [hb]; decide)] at hgo
   simp (disch:=first|omega|exact zF rfl|exact zG rfl|exact fun h=>h|(simp only[zA,zB,zC,zD,bytesW];omega)) only[go_sem,c135L0,c135L1,c135S11]
   refine ⟨Same.refl _ _,Same.refl _ _,by omega,Same.refl _ _,callW_mono (hf (_::_::_::_::_::_::X) sk vk (nd.keys[k],nd.vals[k]) w6 hsk h6) ?_⟩
   rintro _ w7 ⟨rfl,v7,h7⟩
   have hst:=hOk sk (nd.keys[k],nd.vals[k]) hsk
   cases hc:(f sk (nd.keys[k],nd.vals[k])).1 with
   | true =>
    rw [if_pos hc] at hgo
    simp (disch:=first|omega|exact zF rfl|exact zG rfl|exact fun h=>h|(simp only[zA,zB,zC,zD,bytesW];omega)) only[go_sem,c135L0,c135L1,c135S11,c135D1]
    exact ⟨⟨by omega,by omega⟩,k+1,rfl,⟨hlt,_,v7,hgo,hst hc,h7⟩,by omega⟩
   | false =>
    rw [if_neg (by rw [hc]; decide)] at hgo
    rw [hgo]
    simp (disch:=first|omega|exact zF rfl|exact zG rfl|exact fun h=>h|(simp only[zA,zB,zC,zD,bytesW];omega)) only[go_sem,c135L0,c135L1,c135S11,c135D1]
    exact ⟨_,_,rfl,fun h=>(by cases h),(h7.sub (L':=_::_::(X++R _ v7)) (.cons _ (.cons _ (.cons _ (.cons _ (List.Sublist.refl _)))))).perm (List.Perm.swap _ _ _)⟩
 | false =>
  obtain ⟨_,hcl⟩:=form.nl hlf
  rw [hlf] at h4 rn
  simp (disch:=first|omega|exact zF rfl|exact zG rfl|exact fun h=>h|(simp only[zA,zB,zC,zD,bytesW];omega)) only[go_sem,c135L1,c135S11,r,rn,hd1,hl1]
  have h5:Pgr e P W0 w4 F (.blk nb #[.bool false,.slice ka nd.keys.length kc,.slice va nd.vals.length vc,.slice ca nd.kids.length cc] 119::.row (.slice ka nd.keys.length kc) 9 1 nd.keys.length (nd.keys.flatMap strE)::.row (.slice va nd.vals.length vc) 9 1 nd.vals.length (nd.vals.flatMap strE)::.row (.slice ca nd.kids.length cc) 3 1 nd.kids.length (nd.kids.flatMap natE)::trB tb e i::wkB wb tb key fv l1::(X++R s v0)) I:=h4
  refine c135draw0 (Same (fun b=>b=nb) _) (Same.refl _ _) ?_
  have h6:=h5.drew
  generalize w4.drew=w6 at h6 ⊢
  have r:=h6.rules 5 rfl
  have rn:=h6.rules 0 rfl
  have hrk:RdS w6 1 strE (.slice ka nd.keys.length kc) nd.keys:=RdS.of_own' (h6.row 1 rfl) nd.keys rfl rfl
  simp (disch:=first|omega|exact zF rfl|exact zG rfl|exact fun h=>h|(simp only[zA,zB,zC,zD,bytesW];omega)) only[go_sem,c135L0,c135L1,c135S11,c135D0,r,rn]
  refine ⟨Same.refl _ _,?_⟩
  rw [← hlf]
  refine Ret.mono (down_ok key w6 hrk (by omega)) ?_
  rintro _ w7 ⟨rfl,b7⟩
  have h7:=h6.below b7
  have hdn:=downP_le nd key
  obtain ⟨dn,hdne⟩:∃ dn,dn=downP nd key:=⟨_,rfl⟩
  rw [← hdne] at hdn ⊢
  simp (disch:=first|omega|exact zF rfl|exact zG rfl|exact fun h=>h|(simp only[zA,zB,zC,zD,bytesW];omega)) only[go_sem,c135L1,c135S11,c135D0]
  refine W_loopU (fun j:Nat=>[(9,.int .i64 j)]) (fun j w'=>j≤nd.kids.length∧∃ lj sj vj,kidsGo (walkP P f key d) (nd.kids.drop dn) l1 s=kidsGo (walkP P f key d) (nd.kids.drop j) lj sj∧lj≤1024∧Ok sj∧Pgr e P W0 w' F (.blk nb #[.bool false,.slice ka nd.keys.length kc,.slice va nd.vals.length vc,.slice ca nd.kids.length cc] 119::.row (.slice ka nd.keys.length kc) 9 1 nd.keys.length (nd.keys.flatMap strE)::.row (.slice va nd.vals.length vc) 9 1 nd.vals.length (nd.vals.flatMap strE)::.row (.slice ca nd.kids.length cc) 3 1 nd.kids.length (nd.kids.flatMap natE)::trB tb e i::wkB wb tb key fv lj::(X++R sj vj)) I) (fun j=>nd.kids.length - j) dn rfl ⟨by omega,l1,s,v0,rfl,hl1',hs,h7⟩ ?_
  clear h4 h5 h6 h7 r rn hrk hl1 hl1' hs
  rintro j w8 ⟨hj,lj,sj,vj,hgo,hlj,hsj,h8⟩
  have rn:=h8.rules 0 rfl
  by_cases hlt:j<nd.kids.length
  case neg =>
   have hlt':¬ (j:Int)<nd.kids.length:=by omega
   rw [List.drop_of_length_le (i:=j) (by omega),kidsGo] at hgo
   rw [hgo]
   simp (disch:=first|omega|exact zF rfl|exact zG rfl|exact fun h=>h|(simp only[zA,zB,zC,zD,bytesW];omega)) only[go_sem,c135L0,c135L1,c135S11,c135L0,rn,hlt']
   exact ⟨_,_,rfl,fun _=>⟨rfl,hlj,hsj⟩,(h8.sub (L':=_::_::(X++R sj vj)) (.cons _ (.cons _ (.cons _ (.cons _ (List.Sublist.refl _)))))).perm (List.Perm.swap _ _ _)⟩
  have hlt':(j:Int)<nd.kids.length:=by omega
  have hrc:RdS w8 1 natE (.slice ca nd.kids.length cc) nd.kids:=RdS.of_own' (h8.row 3 rfl) nd.kids rfl rfl
  obtain ⟨p1,rfl⟩:=hrc.ptr (by omega)
  have ec:=RdS.at1 (e1:=fun r:Nat=>.int .i64 r) hrc hlt
  rw [List.drop_eq_getElem_cons hlt,kidsGo] at hgo
  have ed:(d:Int)+1 - 1=d:=by omega
  simp (disch:=first|omega|exact zF rfl|exact zG rfl|exact fun h=>h|(simp only[zA,zB,zC,zD,bytesW];omega)) only[go_sem,c135L0,c135L1,c135S11,c135L0,rn,hlt',ec,ed]
  have hkb:=form.kid _ (List.getElem_mem hlt)
  have pm:∀ (A B C D E F:Res) (Z:List Res),(A::B::C::D::E::F::Z).Perm (F::E::A::B::C::D::Z):=fun A B C D E F Z =>
   (List.perm_append_comm (l₁:=[A,B,C,D]) (l₂:=[E,F])).append_right Z |>.trans (List.Perm.swap _ _ _)
  obtain ⟨Y,hY⟩:∃ Y:List Res,Y=[.blk nb #[.bool false,.slice ka nd.keys.length kc,.slice va nd.vals.length vc,.slice (some p1) nd.kids.length cc] 119,.row (.slice ka nd.keys.length kc) 9 1 nd.keys.length (nd.keys.flatMap strE),.row (.slice va nd.vals.length vc) 9 1 nd.vals.length (nd.vals.flatMap strE),.row (.slice (some p1) nd.kids.length cc) 3 1 nd.kids.length (nd.kids.flatMap natE)]:=⟨_,rfl⟩
  have pm:∀ (lf:Int) (s:σ) (v:Value),(.blk nb #[.bool false,.slice ka nd.keys.length kc,.slice va nd.vals.length vc,.slice (some p1) nd.kids.length cc] 119::.row (.slice ka nd.keys.length kc) 9 1 nd.keys.length (nd.keys.flatMap strE)::.row (.slice va nd.vals.length vc) 9 1 nd.vals.length (nd.vals.flatMap strE)::.row (.slice (some p1) nd.kids.length cc) 3 1 nd.kids.length (nd.kids.flatMap natE)::trB tb e i::wkB wb tb key fv lf::(X++R s v)).Perm (wkB wb tb key fv lf::trB tb e i::((Y++X)++R s v)):=fun lf s v=>by
   subst hY
   exact pm _ _ _ _ _ _ _
  have h8':=h8.perm (pm lj sj vj)
  refine ⟨by omega,⟨by omega,by omega⟩,Ret.mono (ih nd.kids[j] lj sj vj (Y++X) w8 h8' (by omega) (by omega) hlj hsj) ?_⟩
  rintro _ w9 ⟨lf,v9,rfl,hok9,h9⟩
  have h9:=h9.perm (pm lf _ v9).symm
  cases hc:(walkP P f key d nd.kids[j] lj sj).1 with
  | true =>
   obtain ⟨rfl,g1,g2⟩:=hok9 hc
   rw [if_pos hc] at hgo
   simp (disch:=first|omega|exact zF rfl|exact zG rfl|exact fun h=>h|(simp only[zA,zB,zC,zD,bytesW];omega)) only[go_sem,c135L0,c135L1,c135S11]
   exact ⟨⟨by omega,by omega⟩,j+1,rfl,⟨hlt,_,_,v9,hgo,g1,g2,h9⟩,by omega⟩
  | false =>
   rw [if_neg (by rw [hc]; decide)] at hgo
   rw [hgo]
   simp (disch:=first|omega|exact zF rfl|exact zG rfl|exact fun h=>h|(simp only[zA,zB,zC,zD,bytesW];omega)) only[go_sem,c135L0,c135L1,c135S11]
   exact ⟨_,_,rfl,fun h=>(by cases h),(h9.sub (L':=_::_::(X++R _ v9)) (.cons _ (.cons _ (.cons _ (.cons _ (List.Sublist.refl _)))))).perm (List.Perm.swap _ _ _)⟩
end
open Go Go.Ann Go.RowKit Go.WideShapes
theorem rootM_lt(P:List Txt)(i:Int):rootM P i<4294967296:=by
 have h:=unfixL_lt (cutL (rootB P) (4 * i) (4 * i+4))
 have hl:(cutL (rootB P) (4 * i) (4 * i+4)).length≤4:=by
  unfold cutL
  rw [List.length_drop,List.length_take]
  omega
 have:256 ^ (cutL (rootB P) (4 * i) (4 * i+4)).length≤256 ^ 4:=Nat.pow_le_pow_right (by decide) hl
 unfold rootM
 omega
def fromP{σ:Type}(P:List Txt)(f:σ→Rec→Bool × σ)(key:Txt)(s:σ):σ:=if rootM P 0=0 then s else (walkP P f key 32 (rootM P 0) 1024 s).2.2
theorem callW_func{p:Program}{fv:Value}{xs:List Value}{w:World}{K:Value→World→Prop}(h:callW p fv xs w K):∃ g fa fc,fv=.func g fa fc:=by
 unfold callW at h
 split at h
 ·exact ⟨_,_,_,rfl⟩
 ·exact ⟨_,_,_,rfl⟩
 ·exact h.elim
section
variable {W0 w:World} {F:Nat→Prop} {L:List Res} {I:List Inv} {e:En} {P:List (List UInt8)} {tb n:Nat} {i:Int}
theorem from1_ok{σ:Type}{f:σ→Rec→Bool × σ}{R:σ→Value→List Res}{Ok:σ→Prop}{fv:Value}{b:Nat}{key:Txt}{s:σ}{v0:Value}(h:Pgr e P W0 w F (.blk (b+1) #[.string (ofL key)] 9::.blk b #[.pointer (some ⟨tb,0,none⟩)] 37::trB tb e 0::R s v0) I)(h3:3≤P.length)
  (hf:YieldF e P W0 F I R f Ok fv) (hOk:∀ s x,Ok s→(f s x).1=true→Ok (f s x).2) (hs:Ok s) :
  Ret Tryz.prog 134 [fv,.pointer (some ⟨b,0,none⟩),.pointer (some ⟨b+1,0,none⟩)] w fun _ w'=>∃ v',Pgr e P W0 w' F (trB tb e 0::R (fromP P f key s) v') I:=by
 have r1:=h.rules 1 rfl
 refine ent134 _ _ _ _ _ ?_
 simp (disch:=first|omega|exact zF rfl|exact zG rfl|exact fun h=>h|(simp only[zA,zB,zC,zD,bytesW];omega)) only[go_sem,c134S0,r1]
 refine Ret.mono (troot_ok (h.perm (List.perm_middle (l₁:=[_,_]))) h3) ?_
 rintro _ w2 ⟨rfl,h2⟩
 have hrl:=rootM_lt P 0
 unfold fromP
 generalize rootM P 0=rt at hrl ⊢
 have r0:=h2.rules 1 rfl
 have r1:=h2.rules 2 rfl
 by_cases hr0:rt=0
 ·have hr0':(rt:Int)=0:=by omega
  rw [if_pos hr0]
  simp (disch:=first|omega|exact zF rfl|exact zG rfl|exact fun h=>h|(simp only[zA,zB,zC,zD,bytesW];omega)) only[go_sem,c134S0,r0,r1,hr0']
  exact ⟨_,h2.sub (.cons_cons _ (.cons _ (.cons _ (List.Sublist.refl _))))⟩
 have hr0':¬ (rt:Int)=0:=by omega
 rw [if_neg hr0]
 obtain ⟨g,fa,fc,rfl⟩:=callW_func (hf [trB tb e 0] s v0 ([],[]) w2 hs (h2.sub (L':=trB tb e 0::R s v0) (.cons_cons _ (.cons _ (.cons _ (List.Sublist.refl _))))))
 simp (disch:=first|omega|exact zF rfl|exact zG rfl|exact fun h=>h|(simp only[zA,zB,zC,zD,bytesW];omega)) only[go_sem,c134S0,r0,r1,hr0']
 refine bdW_built (cells:=#[.pointer (some ⟨tb,0,none⟩),.string (ofL key),.func g fa fc,.int .i64 1024]) (by kernel_rfl) ?_
 simp (disch:=first|omega|exact zF rfl|exact zG rfl|exact fun h=>h|(simp only[zA,zB,zC,zD,bytesW];omega)) only[go_sem,c134S0]
 have h4:=(h2.box #[.pointer (some ⟨tb,0,none⟩),.string (ofL key),.func g fa fc,.int .i64 1024] 189).sub (L':=wkB w2.heap.size tb key (.func g fa fc) 1024::trB tb e 0::R s v0) (.cons_cons _ (.cons_cons _ (.cons _ (.cons _ (List.Sublist.refl _)))))
 generalize w2.heap.size=wb at h4 ⊢
 generalize w2.alloc (.cells #[.pointer (some ⟨tb,0,none⟩),.string (ofL key),.func g fa fc,.int .i64 1024] 189)=w4 at h4 ⊢
 refine Ret.mono (walk_ok hf hOk h3 32 rt 1024 s v0 [] w4 h4 (by decide) (by omega) (by decide) hs) ?_
 rintro _ w5 ⟨lf,v5,rfl,_,h5⟩
 simp (disch:=first|omega|exact zF rfl|exact zG rfl|exact fun h=>h|(simp only[zA,zB,zC,zD,bytesW];omega)) only[go_sem,c134S0]
 exact ⟨v5,h5.sub (List.sublist_cons_self ..)⟩
end
open Go Go.Ann Go.RowKit Go.WideShapes
def prE(x:List UInt8 × List UInt8):List Value:=[.string (ofL x.1),.string (ofL x.2)]
theorem prE_one(x:List UInt8 × List UInt8):∀ u∈prE x,u.oneCell'=true:=by
 intro u hu
 simp only [prE,List.mem_cons,List.not_mem_nil,or_false] at hu
 rcases hu with rfl | rfl <;> rfl
def takeF(most:Nat)(pre:List Rec)(x:Rec):Bool × List Rec:=(decide (pre.length+1<most),pre++[x])
def cntF(n:Nat)(_:Rec):Bool × Nat:=(true,n+1)
theorem take_ok{most:Nat}:∀ (s:List Rec) (x:Rec),s.length<most→(takeF most s x).1=true→(takeF most s x).2.length<most:=by
 intro s x _ h
 have:=of_decide_eq_true h
 simp only [takeF,List.length_append,List.length_singleton]
 exact this
section
variable {W0 w:World} {F:Nat→Prop} {L:List Res} {I:List Inv} {e:En} {P:List (List UInt8)} {tb n:Nat} {i:Int}
def prR(lb:Nat)(L:List Res)(pre:List (List UInt8 × List UInt8))(v:Value):List Res:=.blk lb #[v] 46::.row v 53 2 pre.length (pre.flatMap prE)::L
theorem all1_ok{lb:Nat}{pre:List (List UInt8 × List UInt8)}{v:Value}{x:List UInt8 × List UInt8}(Y:List Res)(h:Pgr e P W0 w F (Y++prR lb L pre v) I)(hp:pre.length<5000) :
  Ret Tryz.prog 83 [.string (ofL x.1),.string (ofL x.2),.pointer (some ⟨lb,0,none⟩)] w fun u w'=>u=.bool (takeF 5000 pre x).1∧∃ v',Pgr e P W0 w' F (Y++prR lb L (takeF 5000 pre x).2 v') I:=by
 have h0:Pgr e P W0 w F (.blk lb #[v] 46::.row v 53 2 pre.length (pre.flatMap prE)::(Y++L)) I:=h.perm (List.perm_middle.trans (List.perm_middle.cons _))
 have r:=h0.rules 0 rfl
 obtain ⟨va,vc,rfl,_⟩:=own_slice (h0.row 1 rfl)
 refine ent83 _ _ _ _ _ ?_
 simp (disch:=first|omega|exact zF rfl|exact zG rfl|exact fun h=>h|(simp only[zA,zB,zC,zD,bytesW];omega)) only[go_sem,r]
 refine bdW_built (cells:=(prE x).toArray) (by kernel_rfl) ?_
 simp (disch:=first|omega|exact zF rfl|exact zG rfl|exact fun h=>h|(simp only[zA,zB,zC,zD,bytesW];omega)) only[go_sem]
 refine bsW_agg (cs:=(prE x).toArray) ty46mkI rfl (by decide) (by decide) ?_
 simp (disch:=first|omega|exact zF rfl|exact zG rfl|exact fun h=>h|(simp only[zA,zB,zC,zD,bytesW];omega)) only[go_sem]
 have hx:Rd (w.alloc (.cells (prE x).toArray 53)) 2 (.slice (some ⟨w.heap.size,0,none⟩) 1 1) 1 (prE x):=rd_new (n:=1) (cs:=(prE x).toArray) rfl
 obtain ⟨A,st,back⟩:=h0.lift
 refine (st.alloc' (.cells (prE x).toArray 53)).append 1 rfl ty46mkI rfl (by decide) hx (prE_one x) (by omega) (by omega) ?_
 intro v6 w6 s6 c6
 obtain ⟨v6a,v6c,rfl,_⟩:=own_slice (s6.row 1 rfl)
 have r:=s6.rules 0 rfl
 simp (disch:=first|omega|exact zF rfl|exact zG rfl|exact fun h=>h|(simp only[zA,zB,zC,zD,bytesW];omega)) only[go_sem,r]
 have s7:=s6.set 0 rfl 0 (.slice v6a (pre.length+1) v6c)
 have ec:pre.length+1=(pre++[x]).length:=by simp
 have el:pre.flatMap prE++prE x=(pre++[x]).flatMap prE:=by rw [List.flatMap_append]; simp
 unfold takeF
 rw [ec,el] at s7
 rw [ec]
 have q7:=back _ (.blk lb #[.slice v6a (pre++[x]).length v6c] 46::.row (.slice v6a (pre++[x]).length v6c) 53 2 (pre++[x]).length ((pre++[x]).flatMap prE)::(Y++L)) _ s7
 have q8:Pgr e P W0 _ F (Y++prR lb L (pre++[x]) (.slice v6a (pre++[x]).length v6c)) I:=q7.perm ((List.perm_middle.trans (List.perm_middle.cons _)).symm)
 have e5:decide (((pre.length:Int)+1)<5000)=decide ((pre++[x]).length<5000):=by
  rw [List.length_append,List.length_singleton]
  congr 1
  simp only [eq_iff_iff]
  omega
 exact ⟨e5,_,q8⟩
theorem some1_ok{lb mb:Nat}{pre:List (List UInt8 × List UInt8)}{v:Value}{x:List UInt8 × List UInt8}{most:Nat}(Y:List Res)(h:Pgr e P W0 w F (Y++prR lb (.blk mb #[.int .i64 most] 3::L) pre v) I)(hp:pre.length<most)(hm:most≤5000) :
  Ret Tryz.prog 73 [.string (ofL x.1),.string (ofL x.2),.pointer (some ⟨lb,0,none⟩),.pointer (some ⟨mb,0,none⟩)] w fun u w'=>u=.bool (takeF most pre x).1∧∃ v',Pgr e P W0 w' F (Y++prR lb (.blk mb #[.int .i64 most] 3::L) (takeF most pre x).2 v') I:=by
 have pm:∀ pre v,(Y++prR lb (.blk mb #[.int .i64 most] 3::L) pre v).Perm (.blk lb #[v] 46::.row v 53 2 pre.length (pre.flatMap prE)::.blk mb #[.int .i64 most] 3::(Y++L)):=fun _ _=>List.perm_middle.trans ((List.perm_middle.trans (List.perm_middle.cons _)).cons _)
 have h0:=h.perm (pm _ _)
 have r:=h0.rules 0 rfl
 obtain ⟨va,vc,rfl,_⟩:=own_slice (h0.row 1 rfl)
 refine ent73 _ _ _ _ _ _ ?_
 simp (disch:=first|omega|exact zF rfl|exact zG rfl|exact fun h=>h|(simp only[zA,zB,zC,zD,bytesW];omega)) only[go_sem,r]
 refine bdW_built (cells:=(prE x).toArray) (by kernel_rfl) ?_
 simp (disch:=first|omega|exact zF rfl|exact zG rfl|exact fun h=>h|(simp only[zA,zB,zC,zD,bytesW];omega)) only[go_sem]
 refine bsW_agg (cs:=(prE x).toArray) ty46mkI rfl (by decide) (by decide) ?_
 simp (disch:=first|omega|exact zF rfl|exact zG rfl|exact fun h=>h|(simp only[zA,zB,zC,zD,bytesW];omega)) only[go_sem]
 have hx:Rd (w.alloc (.cells (prE x).toArray 53)) 2 (.slice (some ⟨w.heap.size,0,none⟩) 1 1) 1 (prE x):=rd_new (n:=1) (cs:=(prE x).toArray) rfl
 obtain ⟨A,st,back⟩:=h0.lift
 refine (st.alloc' (.cells (prE x).toArray 53)).append 1 rfl ty46mkI rfl (by decide) hx (prE_one x) (by omega) (by omega) ?_
 intro v6 w6 s6 c6
 obtain ⟨v6a,v6c,rfl,_⟩:=own_slice (s6.row 1 rfl)
 have r:=s6.rules 0 rfl
 simp (disch:=first|omega|exact zF rfl|exact zG rfl|exact fun h=>h|(simp only[zA,zB,zC,zD,bytesW];omega)) only[go_sem,r]
 have s7:=s6.set 0 rfl 0 (.slice v6a (pre.length+1) v6c)
 have ec:pre.length+1=(pre++[x]).length:=by simp
 have el:pre.flatMap prE++prE x=(pre++[x]).flatMap prE:=by rw [List.flatMap_append]; simp
 unfold takeF
 rw [ec,el] at s7
 have q7:=back _ (.blk lb #[.slice v6a (pre++[x]).length v6c] 46::.row (.slice v6a (pre++[x]).length v6c) 53 2 (pre++[x]).length ((pre++[x]).flatMap prE)::.blk mb #[.int .i64 most] 3::(Y++L)) _ s7
 have q8:=q7.perm (pm (pre++[x]) _).symm
 have rm:=q7.rules 2 rfl
 rw [ec]
 simp (disch:=first|omega|exact zF rfl|exact zG rfl|exact fun h=>h|(simp only[zA,zB,zC,zD,bytesW];omega)) only[go_sem,rm]
 have e5:decide (((pre.length:Int)+1)<most)=decide ((pre++[x]).length<most):=by
  rw [List.length_append,List.length_singleton]
  congr 1
  simp only [eq_iff_iff]
  omega
 exact ⟨e5,_,q8⟩
theorem all_ok(h:Pgr e P W0 w F (trB tb e 0::L) I)(h3:3≤P.length) :
  Ret Tryz.prog 28 [.pointer (some ⟨tb,0,none⟩)] w fun u w'=>Pgr e P W0 w' F (.row u 53 2 (fromP P (takeF 5000) [] []).length ((fromP P (takeF 5000) [] []).flatMap prE)::trB tb e 0::L) I:=by
 refine ent28 _ _ _ ?_
 simp (disch:=first|omega|exact zF rfl|exact zG rfl|exact fun h=>h|(simp only[zA,zB,zC,zD,bytesW];omega)) only[go_sem]
 have h1:=h.box #[.slice none 0 0] 46
 generalize w.heap.size=lb at h1 ⊢
 generalize w.alloc (.cells #[.slice none 0 0] 46)=w1 at h1 ⊢
 have h2:Pgr e P W0 w1 F (trB tb e 0::prR lb L [] (.slice none 0 0)) I:=by
  obtain ⟨A,st,back⟩:=h1.lift
  exact (back _ (.row (.slice none 0 0) 53 2 0 []::.blk lb #[.slice none 0 0] 46::trB tb e 0::L) _ (st.nilRow 53 2)).perm ((List.reverse_perm [Res.row (.slice none 0 0) 53 2 0 [],.blk lb #[.slice none 0 0] 46,trB tb e 0]).symm.append_right L)
 refine Ret.mono (tall_ok w1 (.inr ⟨tb,rfl⟩)) ?_
 rintro _ _ ⟨rfl,rfl⟩
 have h4:=(h2.box #[.pointer (some ⟨tb,0,none⟩)] 37).box #[.string (ofL [])] 9
 rw [World.size_alloc] at h4
 unfold fromF
 simp (disch:=first|omega|exact zF rfl|exact zG rfl|exact fun h=>h|(simp only[zA,zB,zC,zD,bytesW];omega)) only[go_sem]
 generalize (w1.alloc (.cells #[.pointer (some ⟨tb,0,none⟩)] 37)).alloc (.cells #[.string (ofL [])] 9)=w3 at h4 ⊢
 generalize w1.heap.size=b at h4 ⊢
 refine callW_go ⟨by kernel_rfl,Ret.mono (from1_ok (f:=takeF 5000) (R:=prR lb L) (Ok:=fun s=>s.length<5000) (s:=[]) (v0:=.slice none 0 0) h4 h3 ?_ take_ok (by decide)) ?_⟩
 ·intro Y pre v x w' hp h'
  exact callW_go ⟨by kernel_rfl,all1_ok Y h' hp⟩
 rintro _ w4 ⟨v4,h4⟩
 have r:=h4.rules 1 rfl
 obtain ⟨va,vc,rfl,_⟩:=own_slice (h4.row 2 rfl)
 simp (disch:=first|omega|exact zF rfl|exact zG rfl|exact fun h=>h|(simp only[zA,zB,zC,zD,bytesW];omega)) only[go_sem,r]
 exact (h4.sub (L':=[_,_]++L) (.cons_cons _ (.cons _ (.cons_cons _ (List.Sublist.refl _))))).perm (List.Perm.swap _ _ _)
theorem some_ok(key:List UInt8)(most:Nat)(h:Pgr e P W0 w F (trB tb e 0::L) I)(h3:3≤P.length)(hm:0<most∧most≤5000) :
  Ret Tryz.prog 21 [.pointer (some ⟨tb,0,none⟩),.string (ofL key),.int .i64 most] w fun u w'=>Pgr e P W0 w' F (.row u 53 2 (fromP P (takeF most) key []).length ((fromP P (takeF most) key []).flatMap prE)::trB tb e 0::L) I:=by
 refine ent21 _ _ _ _ _ ?_
 have hm1:¬ (most:Int)≤0:=by omega
 simp (disch:=first|omega|exact zF rfl|exact zG rfl|exact fun h=>h|(simp only[zA,zB,zC,zD,bytesW];omega)) only[go_sem,hm1]
 have h1:=(h.box #[.int .i64 most] 3).box #[.slice none 0 0] 46
 rw [World.size_alloc] at h1
 generalize (w.alloc (.cells #[.int .i64 most] 3)).alloc (.cells #[.slice none 0 0] 46)=w1 at h1 ⊢
 generalize w.heap.size=mb at h1 ⊢
 have h2:Pgr e P W0 w1 F (trB tb e 0::prR (mb+1) (.blk mb #[.int .i64 most] 3::L) [] (.slice none 0 0)) I:=by
  obtain ⟨A,st,back⟩:=h1.lift
  have q:=back _ (.row (.slice none 0 0) 53 2 0 []::.blk (mb+1) #[.slice none 0 0] 46::.blk mb #[.int .i64 most] 3::trB tb e 0::L) _ (st.nilRow 53 2)
  exact (q.perm (List.Perm.swap _ _ _)).perm (List.perm_middle (l₁:=[_,_,_]))
 refine Ret.mono (from_ok key w1 (.inr ⟨tb,rfl⟩)) ?_
 rintro _ _ ⟨rfl,rfl⟩
 have h4:=(h2.box #[.pointer (some ⟨tb,0,none⟩)] 37).box #[.string (ofL key)] 9
 rw [World.size_alloc] at h4
 unfold fromF
 simp (disch:=first|omega|exact zF rfl|exact zG rfl|exact fun h=>h|(simp only[zA,zB,zC,zD,bytesW];omega)) only[go_sem]
 generalize (w1.alloc (.cells #[.pointer (some ⟨tb,0,none⟩)] 37)).alloc (.cells #[.string (ofL key)] 9)=w3 at h4 ⊢
 generalize w1.heap.size=b at h4 ⊢
 refine callW_go ⟨by kernel_rfl,Ret.mono (from1_ok (f:=takeF most) (R:=prR (mb+1) (.blk mb #[.int .i64 most] 3::L)) (Ok:=fun s=>s.length<most) (s:=[]) (v0:=.slice none 0 0) h4 h3 ?_ take_ok hm.1) ?_⟩
 ·intro Y pre v x w' hp h'
  exact callW_go ⟨by kernel_rfl,some1_ok Y h' hp hm.2⟩
 rintro _ w4 ⟨v4,h4⟩
 have r:=h4.rules 1 rfl
 obtain ⟨va,vc,rfl,_⟩:=own_slice (h4.row 2 rfl)
 simp (disch:=first|omega|exact zF rfl|exact zG rfl|exact fun h=>h|(simp only[zA,zB,zC,zD,bytesW];omega)) only[go_sem,r]
 exact (h4.sub (L':=[_,_]++L) (.cons_cons _ (.cons _ (.cons_cons _ (.cons _ (List.Sublist.refl _)))))).perm (List.Perm.swap _ _ _)
end
open Go Go.Ann Go.RowKit Go.WideShapes
theorem wrap_step(a:Int):IntKind.i64.wrap (IntKind.i64.wrap a+1)=IntKind.i64.wrap (a+1):=by
 simp [IntKind.wrap,IntKind.signed,IntKind.bits]
 omega
section
variable {W0 w:World} {F:Nat→Prop} {L:List Res} {I:List Inv} {e:En} {P:List (List UInt8)} {tb n:Nat} {i:Int}
def cntS(e:En)(P:List (List UInt8))(W0:World)(F:Nat→Prop)(I:List Inv)(nb:Nat)(L:List Res)(s:Nat × List Res)(O:List Res)(w:World):Prop:=Pgr e P W0 w F (O++(s.2++.blk nb #[.int .i64 (IntKind.i64.wrap (s.1:Int))] 3::L)) I
theorem cntS_ok{nb:Nat}:RgS (cntS e P W0 F I nb L) :=
 ⟨fun {s l o Rr w} h=>Pgr.ob h 0 rfl,fun {s l o Rr w} o2 h=>Pgr.putOb h 0 rfl o2,fun {s r Rr w} h=>Pgr.sub h (List.sublist_cons_self ..),fun {s Rr w} o h=>by
  obtain ⟨A,s1,k⟩:=Pgr.lift h
  exact k _ _ _ (s1.lay o)⟩
theorem tcount_ok(h:Pgr e P W0 w F (trB tb e 0::L) I)(h3:3≤P.length) :
  Ret Tryz.prog 27 [.pointer (some ⟨tb,0,none⟩)] w fun u w'=>u=.int .i64 (IntKind.i64.wrap (fromP P cntF [] 0:Nat))∧Pgr e P W0 w' F (trB tb e 0::L) I:=by
 refine ent27 _ _ _ ?_
 simp (disch:=first|omega|exact zF rfl|exact zG rfl|exact fun h=>h|(simp only[zA,zB,zC,zD,bytesW];omega)) only[go_sem,c27B0]
 have h1:=h.box #[.int .i64 0] 3
 generalize w.heap.size=nb at h1 ⊢
 generalize w.alloc (.cells #[.int .i64 0] 3)=w1 at h1 ⊢
 refine Ret.mono (tall_ok w1 (.inr ⟨tb,rfl⟩)) ?_
 rintro _ _ ⟨rfl,rfl⟩
 have h4:=(h1.box #[.pointer (some ⟨tb,0,none⟩)] 37).box #[.string (ofL [])] 9
 rw [World.size_alloc] at h4
 unfold fromF
 simp (disch:=first|omega|exact zF rfl|exact zG rfl|exact fun h=>h|(simp only[zA,zB,zC,zD,bytesW];omega)) only[go_sem,c27B0]
 generalize (w1.alloc (.cells #[.pointer (some ⟨tb,0,none⟩)] 37)).alloc (.cells #[.string (ofL [])] 9)=w3 at h4 ⊢
 generalize w1.heap.size=b at h4 ⊢
 have e0:IntKind.i64.wrap ((0:Nat):Int)=0:=by decide
 have h5:cntS e P W0 F I nb L (0,[.blk (b+1) #[.string (ofL [])] 9,.blk b #[.pointer (some ⟨tb,0,none⟩)] 37,trB tb e 0]) [] w3:=by
  unfold cntS
  rw [e0]
  exact h4.perm ((List.perm_append_comm (l₁:=[_]) (l₂:=[_]) |>.append_right _).append_left [_,_])
 refine RangeW_free cntS_ok (fun x:Rec=>[.string (ofL x.1),.string (ofL x.2)]) (0,[.blk (b+1) #[.string (ofL [])] 9,.blk b #[.pointer (some ⟨tb,0,none⟩)] 37,trB tb e 0]) (fun _ _=>True) (fun s _ s'=>s'=(s.1+1,s.2)) (fun _ _ _=>False) (fun s=>s=(fromP P cntF [] 0,[trB tb e 0])) (fun _=>False) rfl (by kernel_rfl) h5 (fun _=>rfl) ?_ ?_ ?_ ?_
 ·intro fv l D o o' w4 hf h6
  obtain ⟨R,hR⟩:∃ R:Nat→Value→List Res,R=fun (s:Nat) (_:Value)=>Res.obj l o::Res.obj D defO::Res.blk nb #[.int .i64 (IntKind.i64.wrap (s:Int))] 3::L:=⟨_,rfl⟩
  have pm:∀ (Y:List Res) (s:Nat),([Res.obj l o,Res.obj D defO]++(Y++Res.blk nb #[.int .i64 (IntKind.i64.wrap (s:Int))] 3::L)).Perm (Y++(Res.obj l o::Res.obj D defO::Res.blk nb #[.int .i64 (IntKind.i64.wrap (s:Int))] 3::L)):=fun Y s=>by
   rw [← List.append_assoc]
   refine ((List.perm_append_comm (l₁:=[Res.obj l o,Res.obj D defO]) (l₂:=Y)).append_right _).trans ?_
   rw [List.append_assoc]
   exact List.Perm.refl _
  have h7:Pgr e P W0 w4 F (.blk (b+1) #[.string (ofL [])] 9::.blk b #[.pointer (some ⟨tb,0,none⟩)] 37::trB tb e 0::R 0 undef) I:=by
   rw [hR]
   exact Pgr.perm h6 (pm _ 0)
  refine Ret.mono (from1_ok (f:=cntF) (Ok:=fun _=>True) (fv:=fv) (key:=[]) h7 h3 ?_ (fun _ _ _ _=>trivial) trivial) ?_
  ·intro Y s v x w' _ h'
   rw [hR] at h'
   refine callW_mono (hf x (s,Y) w' trivial (Pgr.perm h' (pm Y s).symm)) ?_
   rintro u w'' (⟨rfl,s',rfl,h2⟩ | ⟨_,s',hs',_⟩)
   ·refine ⟨rfl,undef,?_⟩
    rw [hR]
    exact Pgr.perm h2 (pm Y (s+1))
   ·exact hs'.elim
  ·rintro _ w' ⟨v',h'⟩
   rw [hR] at h'
   exact .inl ⟨_,rfl,Pgr.perm h' (pm [trB tb e 0] _).symm⟩
 ·rintro x ⟨c,Y⟩ w' l D o o2 _ h'
  simp (disch:=first|omega|exact zF rfl|exact zG rfl|exact fun h=>h|(simp only[zA,zB,zC,zD,bytesW];omega)) only[go_sem]
  refine ⟨(c,Y),h',fun w2 h2=>?_⟩
  have h2:Pgr e P W0 w2 F (.obj l o2::.obj D defO::(Y++.blk nb #[.int .i64 (IntKind.i64.wrap (c:Int))] 3::L)) I:=h2
  have h8:=h2.perm (List.perm_middle (l₁:=Res.obj l o2::Res.obj D defO::Y))
  have r:=h8.rules 0 rfl
  have e1:=wrap_step (c:Int)
  simp (disch:=first|omega|exact zF rfl|exact zG rfl|exact fun h=>h|(simp only[zA,zB,zC,zD,bytesW];omega)) only[go_sem,c27B0,c27B0,r,e1]
  have h9:=(h8.set 0 rfl 0 (.int .i64 (IntKind.i64.wrap ((c:Int)+1)))).perm (List.perm_middle (l₁:=Res.obj l o2::Res.obj D defO::Y)).symm
  exact ⟨(c+1,Y),rfl,h9⟩
 ·rintro _ D w4 rfl h6
  have h6:Pgr e P W0 w4 F (.obj D defO::trB tb e 0::.blk nb #[.int .i64 (IntKind.i64.wrap ((fromP P cntF [] 0:Nat):Int))] 3::L) I:=h6
  have r:=h6.rules 2 rfl
  have hD:=h6.ob 0 rfl
  simp (disch:=first|omega|exact zF rfl|exact zG rfl|exact fun h=>h|(simp only[zA,zB,zC,zD,bytesW];omega)) only[go_sem,c27B0,r,hD]
  exact (h6.putOb 0 rfl (.deferred none)).sub (.cons _ (.cons_cons _ (.cons _ (List.Sublist.refl _))))
 ·rintro _ _ _ hf
  exact hf.elim
end
open Go Go.Ann Go.RowKit Go.WideShapes
def foldGo{σ:Type}(f:σ→Rec→Bool × σ):List Rec→σ→Bool × σ
 | [],s=>(true,s)
 | x::r,s=>if (f s x).1=true then foldGo f r (f s x).2 else (false,(f s x).2)
structure Gave(R:List Rec)(v v':Vis):Prop where
 fin:(R=[]∧v'.last=v.last∧v'.any=v.any)∨(v'.any=true∧∃ z∈R,v'.last=z.1∧∀ x∈R,Op.bytesLess z.1 x.1=false)
 ups:R.Pairwise fun x y=>Op.bytesLess x.1 y.1=true
 frm:v.any=true→∀ x∈R,Op.bytesLess v.last x.1=true
 fit:∀ x∈R,x.1≠[]∧x.2.length≤80
 len:v.pages.length≤v'.pages.length
theorem Gave.nil{v v':Vis}(h1:v'.last=v.last)(h2:v'.any=v.any)(h3:v.pages.length≤v'.pages.length):Gave [] v v' :=
 ⟨.inl ⟨rfl,h1,h2⟩,.nil,fun _ _ h=>(by cases h),fun _ h=>(by cases h),h3⟩
open Go Go.Proofs Go.Shelf
def layJoin_ren:Go.Shelf.Ren:=⟨fun | 156=>156 | 165=>187 | 166=>161 | 169=>162 | 240=>188 | 241=>203 | 276=>204 | 277=>219 | n=>n,fun | 31=>22 | 9=>9 | 3=>3 | 4=>4 | 0=>0 | 20=>20 | 72=>209 | 76=>213 | 70=>207 | 37=>181 | 75=>211 | 127=>236 | 164=>250 | 5=>5 | 80=>154 | n=>n,fun | n=>n⟩
theorem layJoin:Go.Proofs.Lays.n156 Tryz.prog layJoin_ren:={
  mixed:=by kernel_rfl,
  f156:=Tryz.func156.trans (congrArg some (by kernel_rfl)),
  f165:=Tryz.func187.trans (congrArg some (by kernel_rfl)),
  f166:=Tryz.func161.trans (congrArg some (by kernel_rfl)),
  f169:=Tryz.func162.trans (congrArg some (by kernel_rfl)),
  f240:=Tryz.func188.trans (congrArg some (by kernel_rfl)),
  f241:=Tryz.func203.trans (congrArg some (by kernel_rfl)),
  f276:=Tryz.func204.trans (congrArg some (by kernel_rfl)),
  f277:=Tryz.func219.trans (congrArg some (by kernel_rfl)),
  t0:=Tryz.underlying0,
  a0:=Tryz.isAgg0,
  z0:=Tryz.sizeOf0,
  v0:=Tryz.zeroValue0,
  t3:=Tryz.underlying3,
  a3:=Tryz.isAgg3,
  z3:=Tryz.sizeOf3,
  v3:=Tryz.zeroValue3,
  t4:=Tryz.underlying4,
  a4:=Tryz.isAgg4,
  z4:=Tryz.sizeOf4,
  v4:=Tryz.zeroValue4,
  t9:=Tryz.underlying9,
  a9:=Tryz.isAgg9,
  z9:=Tryz.sizeOf9,
  v9:=Tryz.zeroValue9,
  t20:=Tryz.underlying20,
  a20:=Tryz.isAgg20,
  z20:=Tryz.sizeOf20,
  v20:=Tryz.zeroValue20,
  t31:=Tryz.underlying22,
  a31:=Tryz.isAgg22,
  z31:=Tryz.sizeOf22,
  v31:=Tryz.zeroValue22,
  t37:=Tryz.underlying181,
  a37:=Tryz.isAgg181,
  z37:=Tryz.sizeOf181,
  v37:=Tryz.zeroValue181,
  t70:=Tryz.underlying207,
  a70:=Tryz.isAgg207,
  z70:=Tryz.sizeOf207,
  v70:=Tryz.zeroValue207,
  t72:=Tryz.underlying209,
  a72:=Tryz.isAgg209,
  z72:=Tryz.sizeOf209,
  v72:=Tryz.zeroValue209,
  t75:=Tryz.underlying211,
  a75:=Tryz.isAgg211,
  z75:=Tryz.sizeOf211,
  v75:=Tryz.zeroValue211,
  t76:=Tryz.underlying213,
  a76:=Tryz.isAgg213,
  z76:=Tryz.sizeOf213,
  v76:=Tryz.zeroValue213,
  t127:=Tryz.underlying236,
  a127:=Tryz.isAgg236,
  z127:=Tryz.sizeOf236,
  v127:=Tryz.zeroValue236,
  t164:=Tryz.underlying250,
  a164:=Tryz.isAgg250,
  z164:=Tryz.sizeOf250,
  v164:=Tryz.zeroValue250 }
open Go Go.Ann Go.RowKit Go.WideShapes Go.Shelf
def BuL(b:Nat)(p v:Value)(bs:List UInt8):List Res:=[.blk b #[p,v] 209,.row v 5 1 bs.length (bs.map byteV)]
structure BuOk(b:Nat)(p v:Value)(bs:List UInt8):Prop where
 ptr:p=.pointer none∨p=.pointer (some ⟨b,0,none⟩)
 nil:bs=[]→v=.slice none 0 0
theorem goCC:goFunc Tryz.prog 188=true:=by kernel_rfl
theorem x72:Builder.X72 Tryz.prog layJoin_ren:=⟨by kernel_rfl,by kernel_rfl⟩
section
variable {W0 w:World} {F:Nat→Prop} {L:List Res} {I:List Inv} {b:Nat} {p v:Value} {bs:List UInt8}
theorem copyCheck_ok(h:St W0 w F (BuL b p v bs++L) I)(ok:BuOk b p v bs) :
  Ret Tryz.prog 188 [.pointer (some ⟨b,0,none⟩)] w fun u w'=>u=.tuple #[]∧St W0 w' F (BuL b (.pointer (some ⟨b,0,none⟩)) v bs++L) I:=by
 have hb:=h.blk 0 rfl
 have L240:Lays.n240 Tryz.prog layJoin_ren:={ layJoin with }
 rcases ok.ptr with rfl | rfl
 ·refine (Any.Builder_copyCheck_fresh L240 x72 b w (hb.cell 0) (by unfold World.shape?; rw [show w.heap[b]?=_ from hb]; rfl) (hb.frozen 0)).mono ?_
  rintro e w' ⟨rfl,rfl⟩
  exact ⟨_,rfl,rfl,h.set 0 rfl 0 (.pointer (some ⟨b,0,none⟩))⟩
 ·refine (Any.Builder_copyCheck_used L240 x72 b w (hb.cell 0)).mono ?_
  rintro e w' ⟨rfl,rfl⟩
  exact ⟨_,rfl,rfl,h⟩
theorem writeS_ok(s:List UInt8)(h:St W0 w F (BuL b p v bs++L) I)(ok:BuOk b p v bs)(hl:bs.length+s.length≤140737488355328) :
  Ret Tryz.prog 161 [.pointer (some ⟨b,0,none⟩),.string (ofL s)] w fun u w'=>∃ p' v',BuOk b p' v' (bs++s)∧St W0 w' F (BuL b p' v' (bs++s)++L) I:=by
 refine ent161 _ _ _ _ ?_
 simp (disch:=first|omega|exact zF rfl|exact zG rfl|exact fun h=>h|(simp only[zA,zB,zC,zD,bytesW];omega)) only[go_sem,goCC]
 refine Ret.mono (copyCheck_ok h ok) ?_
 rintro _ w2 ⟨rfl,h2⟩
 have r2:=h2.rules 0 rfl
 obtain ⟨a,c,rfl,_⟩:=own_slice (h2.row 1 rfl)
 simp (disch:=first|omega|exact zF rfl|exact zG rfl|exact fun h=>h|(simp only[zA,zB,zC,zD,bytesW];omega)) only[go_sem,r2]
 refine h2.appendS 1 rfl (by kernel_rfl) Tryz.underlying9 s hl ?_
 intro v3 w3 h3 c3 hn
 obtain ⟨a3,c3',rfl,_⟩:=own_slice (h3.row 1 rfl)
 have r3:=h3.rules 0 rfl
 simp (disch:=first|omega|exact zF rfl|exact zG rfl|exact fun h=>h|(simp only[zA,zB,zC,zD,bytesW];omega)) only[go_sem,r3]
 refine ⟨.pointer (some ⟨b,0,none⟩),.slice a3 (bs.length+s.length) c3',⟨.inr rfl,fun hnil=>?_⟩,st_recast (h3.set 0 rfl 1 (.slice a3 (bs.length+s.length) c3')) (by simp only [BuL,List.length_append,List.map_append]; rfl)⟩
 rw [List.append_eq_nil_iff] at hnil
 exact hn.2 ⟨ok.nil hnil.1,hnil.2⟩
theorem stringS_ok(h:St W0 w F (BuL b p v bs++L) I)(ok:BuOk b p v bs)(hl:bs.length≤140737488355328) :
  Ret Tryz.prog 162 [.pointer (some ⟨b,0,none⟩)] w fun u w'=>u=.string (ofL bs)∧St W0 w' F L I:=by
 refine ent162 _ _ _ ?_
 obtain ⟨a,c,rfl,hc⟩:=own_slice (h.row 1 rfl)
 simp (disch:=first|omega|exact zF rfl|exact zG rfl|exact fun h=>h|(simp only[zA,zB,zC,zD,bytesW];omega)) only[go_sem]
 refine c162draw0 (Same (fun k=>k=b) _) (Same.refl _ _) ?_
 have h2:=h.drew
 have r2:=h2.rules 0 rfl
 have l2:=h2.low 0 rfl
 generalize w.drew=w2 at h2 r2 l2 ⊢
 simp (disch:=first|omega|exact zF rfl|exact zG rfl|exact fun h=>h|(simp only[zA,zB,zC,zD,bytesW];omega)) only[go_sem,c162D0,r2]
 have h0:a=none∧c=0∨0<c:=by
  rcases Nat.eq_zero_or_pos bs.length with hz | hz
  ·have:=ok.nil (List.eq_nil_of_length_eq_zero hz)
   simp only [Value.slice.injEq] at this
   exact .inl ⟨this.1,this.2.2⟩
  ·exact .inr (by omega)
 have same:∀ w',Chg (fun k=>(Value.slice a bs.length c).ownBlock=some k) w2 w'→Same (fun k=>k=b) w2 w':=fun w' hc k hk=>by
  subst hk
  exact hc.block k l2.2 fun e=>h2.ne 1 0 rfl rfl (by decide) (k:=k) e rfl
 refine rawB_sliceData (e:=5) Tryz.underlying236 h0 ?_
 simp (disch:=first|omega|exact zF rfl|exact zG rfl|exact fun h=>h|(simp only[zA,zB,zC,zD,bytesW];omega)) only[go_sem]
 refine ⟨Same.refl _ _,h2.unsafeS 1 rfl Tryz.underlying236 (by kernel_rfl) ?_⟩
 intro w3 h3 c3
 simp (disch:=first|omega|exact zF rfl|exact zG rfl|exact fun h=>h|(simp only[zA,zB,zC,zD,bytesW];omega)) only[go_sem]
 exact ⟨same _ c3,h3.sub ((List.sublist_cons_self _ _).trans (List.sublist_cons_self _ _))⟩
end
open Go Go.Ann Go.RowKit Go.WideShapes Go.Shelf
section
variable {W0 w:World} {F:Nat→Prop} {L:List Res} {I:List Inv} {b:Nat} {p v:Value} {bs:List UInt8}
theorem byteV_one(x:UInt8):∀ u∈[byteV x],u.oneCell'=true:=by intro u hu; rw [List.mem_singleton] at hu; subst hu; rfl
theorem writeB_ok(x:UInt8)(h:St W0 w F (BuL b p v bs++L) I)(ok:BuOk b p v bs)(hl:bs.length+1≤140737488355328) :
  Ret Tryz.prog 160 [.pointer (some ⟨b,0,none⟩),.int .u8 x.toNat] w fun u w'=>∃ p' v',BuOk b p' v' (bs++[x])∧St W0 w' F (BuL b p' v' (bs++[x])++L) I:=by
 refine ent160 _ _ _ _ ?_
 simp (disch:=first|omega|exact zF rfl|exact zG rfl|exact fun h=>h|(simp only[zA,zB,zC,zD,bytesW];omega)) only[go_sem,goCC]
 refine Ret.mono (copyCheck_ok h ok) ?_
 rintro _ w2 ⟨rfl,h2⟩
 have r2:=h2.rules 0 rfl
 obtain ⟨a,c,rfl,_⟩:=own_slice (h2.row 1 rfl)
 simp (disch:=first|omega|exact zF rfl|exact zG rfl|exact fun h=>h|(simp only[zA,zB,zC,zD,bytesW];omega)) only[go_sem,r2]
 refine bsW_ones ty181mkI rfl rfl (by decide) (by decide) (byteV_one x) ?_
 simp (disch:=first|omega|exact zF rfl|exact zG rfl|exact fun h=>h|(simp only[zA,zB,zC,zD,bytesW];omega)) only[go_sem]
 have hx:Rd (w2.alloc (.cells #[.int .u8 x.toNat] 5)) 1 (.slice (some ⟨w2.heap.size,0,none⟩) 1 1) 1 [byteV x]:=rd_new (n:=1) (cs:=#[.int .u8 x.toNat]) rfl
 refine (h2.alloc' (.cells #[.int .u8 x.toNat] 5)).append 1 rfl ty181mkI rfl (by decide) hx (byteV_one x) (by omega) (by omega) ?_
 intro v3 w3 h3 c3
 obtain ⟨a3,c3',rfl,_⟩:=own_slice (h3.row 1 rfl)
 have r3:=h3.rules 0 rfl
 simp (disch:=first|omega|exact zF rfl|exact zG rfl|exact fun h=>h|(simp only[zA,zB,zC,zD,bytesW];omega)) only[go_sem,r3]
 refine ⟨.pointer (some ⟨b,0,none⟩),.slice a3 (bs.length+1) c3',⟨.inr rfl,fun hnil=>?_⟩,st_recast (h3.set 0 rfl 1 (.slice a3 (bs.length+1) c3')) (by simp only [BuL,List.length_append,List.map_append]; rfl)⟩
 rw [List.append_eq_nil_iff] at hnil
 exact absurd hnil.2 (by simp)
end
open Go Go.Ann Go.RowKit Go.WideShapes Go.Shelf
def u8N(n:Nat):UInt8:=UInt8.ofNat n
def entB(x:List UInt8 × List UInt8):List UInt8:=u8N x.1.length::(x.1++u8N x.2.length::x.2)
def leafB(l:List (List UInt8 × List UInt8)):List UInt8:=1::u8N l.length::l.flatMap entB
theorem u8N_wrap(n:Nat):IntKind.u8.wrap (n:Int)=((u8N n).toNat:Int):=by
 unfold u8N
 simp [IntKind.wrap,IntKind.signed,IntKind.bits]
theorem entB_len{l:List (List UInt8 × List UInt8)}(h:∀ x∈l,x.1.length≤255∧x.2.length≤255):(l.flatMap entB).length≤512 * l.length:=by
 induction l with
 | nil=>exact Nat.le_refl _
 | cons x l ih =>
  have h1:=h x List.mem_cons_self
  have h2:=ih fun y hy=>h y (List.mem_cons_of_mem _ hy)
  rw [List.flatMap_cons,List.length_append,List.length_cons]
  simp only [entB,List.length_cons,List.length_append]
  omega
section
variable {W0 w:World} {F:Nat→Prop} {L:List Res} {I:List Inv}
theorem writeLeaf_ok{kv vv:Value}{ca:Option Addr}{cc:Nat}{l:List (List UInt8 × List UInt8)}(w:World)(hk:RdS w 1 strE kv (l.map Prod.fst))(hv:RdS w 1 strE vv (l.map Prod.snd))(hl:l.length≤255)(hb:∀ x∈l,x.1.length≤255∧x.2.length≤255) :
  Ret Tryz.prog 127 [.agg #[.bool true,kv,vv,.slice ca 0 cc]] w fun u w'=>u=.string (ofL (leafB l))∧Below w.heap.size w w':=by
 obtain ⟨ka,kc,rfl,_⟩:=hk.form
 obtain ⟨va,vc,rfl,_⟩:=hv.form
 simp only [List.length_map] at *
 refine ent127 _ _ _ ?_
 simp (disch:=first|omega|exact zF rfl|exact zG rfl|exact fun h=>h|(simp only[zA,zB,zC,zD,bytesW];omega)) only[go_sem,c127S0,c127S1,c127S2,c127L0,c127L1,c127S10,c127S11]
 have s1:=((St.start (W0:=w)).box #[.bool true,.slice ka l.length kc,.slice va l.length vc,.slice ca 0 cc] 119).box #[.pointer none,.slice none 0 0] 209
 rw [World.size_alloc] at s1
 generalize (w.alloc (.cells #[.bool true,.slice ka l.length kc,.slice va l.length vc,.slice ca 0 cc] 119)).alloc (.cells #[.pointer none,.slice none 0 0] 209)=w2 at s1 ⊢
 obtain ⟨b,hbb⟩:∃ b,b=w.heap.size:=⟨_,rfl⟩
 have fin:∀ {w'},Below w.heap.size w w'→Below b w w':=fun h=>hbb ▸ h
 rw [← hbb] at s1 ⊢
 have s2:St w w2 (fun _=>False) (BuL (b+1) (.pointer none) (.slice none 0 0) []++[.blk b #[.bool true,.slice ka l.length kc,.slice va l.length vc,.slice ca 0 cc] 119]) []:=(s1.nilRow 5 1).perm (List.Perm.swap _ _ _)
 refine Ret.mono (writeB_ok 1 s2 ⟨.inl rfl,fun _=>rfl⟩ (by decide)) ?_
 rintro _ w3 ⟨p3,v3,ok3,s3⟩
 have r3:=s3.rules 2 rfl
 simp (disch:=first|omega|exact zF rfl|exact zG rfl|exact fun h=>h|(simp only[zA,zB,zC,zD,bytesW];omega)) only[go_sem,c127S0,c127S1,c127S2,c127L0,c127L1,c127S10,c127S12,r3,u8N_wrap]
 refine Ret.mono (writeB_ok (u8N l.length) s3 ok3 (by simp)) ?_
 rintro _ w4 ⟨p4,v4,ok4,s4⟩
 have r4:=s4.rules 2 rfl
 simp (disch:=first|omega|exact zF rfl|exact zG rfl|exact fun h=>h|(simp only[zA,zB,zC,zD,bytesW];omega)) only[go_sem,c127S0,c127S1,c127S2,c127L1,c127S11,c127S12,r4]
 refine W_loopU (fun q:Nat × Value × Value=>[(21,.int .i64 q.1)]) (fun q w'=>q.1≤l.length∧BuOk (b+1) q.2.1 q.2.2 (1::u8N l.length::(l.take q.1).flatMap entB)∧St w w' (fun _=>False) (BuL (b+1) q.2.1 q.2.2 (1::u8N l.length::(l.take q.1).flatMap entB)++[.blk b #[.bool true,.slice ka l.length kc,.slice va l.length vc,.slice ca 0 cc] 119]) []) (fun q=>l.length - q.1) (0,p4,v4) rfl ⟨Nat.zero_le _,ok4,s4⟩ ?_
 clear r3 r4 s3 s4 s2 s1
 rintro ⟨k,p5,v5⟩ w5 ⟨hkl,ok5,s5⟩
 simp only at hkl ok5 s5
 have r5:=s5.rules 2 rfl
 by_cases hlt:k<l.length
 case neg =>
  have hlt':¬ (k:Int)<l.length:=by omega
  obtain rfl:k=l.length:=by omega
  rw [List.take_length] at s5 ok5
  simp (disch:=first|omega|exact zF rfl|exact zG rfl|exact fun h=>h|(simp only[zA,zB,zC,zD,bytesW];omega)) only[go_sem,c127S0,c127S1,c127S2,c127L0,c127S10,c127S11,c127S12,c127L0,hlt',r5]
  have hel:=entB_len hb
  refine W_loopU (fun _:Unit=>[]) (fun _ w'=>w'=w5) (fun _=>0) () rfl rfl ?_
  rintro _ _ rfl
  simp (disch:=first|omega|exact zF rfl|exact zG rfl|exact fun h=>h|(simp only[zA,zB,zC,zD,bytesW];omega)) only[go_sem,c127S0,c127S1,c127S2,c127L0,c127L1,c127S10,c127S11,c127S12,c127L1]
  refine Ret.mono (stringS_ok s5 ok5 (by rw [List.length_cons,List.length_cons]; omega)) ?_
  rintro _ w6 ⟨rfl,s6⟩
  simp (disch:=first|omega|exact zF rfl|exact zG rfl|exact fun h=>h|(simp only[zA,zB,zC,zD,bytesW];omega)) only[go_sem,c127S0,c127S1,c127S2,c127L0,c127L1,c127S10,c127S11,c127S12]
  exact ⟨rfl,fin s6.bel⟩
 have hlt':(k:Int)<l.length:=by omega
 obtain ⟨q1,rfl⟩:=hk.ptr (by rw [List.length_map]; omega)
 obtain ⟨q2,rfl⟩:=hv.ptr (by rw [List.length_map]; omega)
 have hkr:∀ w',Below w.heap.size w w'→w'.cell? (q1.add k)=some (.string (ofL l[k].1)):=fun w' hb=>by
  have:=RdS.at1 (e1:=fun r=>.string (ofL r)) (hk.below hb (by decide)) (k:=k) (by rw [List.length_map]; omega)
  rw [List.getElem_map] at this
  exact this
 have hvr:∀ w',Below w.heap.size w w'→w'.cell? (q2.add k)=some (.string (ofL l[k].2)):=fun w' hb=>by
  have:=RdS.at1 (e1:=fun r=>.string (ofL r)) (hv.below hb (by decide)) (k:=k) (by rw [List.length_map]; omega)
  rw [List.getElem_map] at this
  exact this
 have ek:=hkr _ s5.bel
 have hbk:=hb _ (List.getElem_mem hlt)
 have hel:=entB_len (l:=l.take k) fun x hx=>hb x (List.mem_of_mem_take hx)
 rw [List.length_take] at hel
 obtain ⟨B,hB⟩:∃ B,B=1::u8N l.length::(l.take k).flatMap entB:=⟨_,rfl⟩
 have hBl:B.length≤512 * 255+2:=by rw [hB,List.length_cons,List.length_cons]; omega
 rw [← hB] at s5 ok5
 have en:1::u8N l.length::(l.take (k+1)).flatMap entB=B++[u8N l[k].1.length]++l[k].1++[u8N l[k].2.length]++l[k].2:=by
  rw [List.take_succ_eq_append_getElem hlt,List.flatMap_append,hB]
  simp [entB]
 simp (disch:=first|omega|exact zF rfl|exact zG rfl|exact fun h=>h|(simp only[zA,zB,zC,zD,bytesW];omega)) only[go_sem,c127S0,c127S1,c127L0,c127L1,c127S11,c127S12,c127L0,hlt',ek,u8N_wrap]
 refine ⟨by omega,Ret.mono (writeB_ok (u8N l[k].1.length) s5 ok5 (by omega)) ?_⟩
 rintro _ w6 ⟨p6,v6,ok6,s6⟩
 have hl6:(B++[u8N l[k].1.length]).length=B.length+1:=by simp
 simp (disch:=first|omega|exact zF rfl|exact zG rfl|exact fun h=>h|(simp only[zA,zB,zC,zD,bytesW];omega)) only[go_sem,c127S0,c127S2,c127L0,c127L1,c127S11,c127S12]
 refine Ret.mono (writeS_ok l[k].1 s6 ok6 (by omega)) ?_
 rintro _ w7 ⟨p7,v7,ok7,s7⟩
 have hl7:(B++[u8N l[k].1.length]++l[k].1).length=B.length+1+l[k].1.length:=by simp; omega
 have r7:=s7.rules 2 rfl
 have ev:=hvr _ s7.bel
 simp (disch:=first|omega|exact zF rfl|exact zG rfl|exact fun h=>h|(simp only[zA,zB,zC,zD,bytesW];omega)) only[go_sem,c127S1,c127S2,c127L0,c127L1,c127S11,c127S12,r7,ev,hlt',u8N_wrap]
 refine ⟨by omega,Ret.mono (writeB_ok (u8N l[k].2.length) s7 ok7 (by omega)) ?_⟩
 rintro _ w8 ⟨p8,v8,ok8,s8⟩
 have hl8:(B++[u8N l[k].1.length]++l[k].1++[u8N l[k].2.length]).length=B.length+1+l[k].1.length+1:=by simp; omega
 have r8:=s8.rules 2 rfl
 have ev:=hvr _ s8.bel
 simp (disch:=first|omega|exact zF rfl|exact zG rfl|exact fun h=>h|(simp only[zA,zB,zC,zD,bytesW];omega)) only[go_sem,c127S0,c127S1,c127S2,c127L0,c127L1,c127S11,c127S12,r8,ev,hlt']
 refine ⟨by omega,Ret.mono (writeS_ok l[k].2 s8 ok8 (by omega)) ?_⟩
 rintro _ w9 ⟨p9,v9,ok9,s9⟩
 simp (disch:=first|omega|exact zF rfl|exact zG rfl|exact fun h=>h|(simp only[zA,zB,zC,zD,bytesW];omega)) only[go_sem,c127S0,c127S1,c127S2,c127L0,c127L1,c127S11,c127S12]
 rw [← en] at s9 ok9
 exact ⟨⟨by omega,by omega⟩,(k+1,p9,v9),rfl,⟨hlt,ok9,s9⟩,by simp only; omega⟩
end
open Go Go.Ann Go.RowKit Go.WideShapes Go.Shelf
theorem u8N_nat{n:Nat}(h:n≤255):(u8N n).toNat=n:=by
 unfold u8N
 rw [UInt8.toNat_ofNat']
 omega
theorem textP_own{x r:List UInt8}(h:x.length≤255):textP (u8N x.length::(x++r))=some (x,r):=by
 rw [textP,u8N_nat h,if_neg (by rw [List.length_append]; omega),List.take_left',List.drop_left'] <;> rfl
theorem entsP_own:∀ (l:List (List UInt8 × List UInt8)) (rest:List UInt8) (ks vs:List (List UInt8)),(∀ x∈l,x.1.length≤255∧x.2.length≤255)→entsP true l.length (l.flatMap entB++rest) ks vs=some (ks++l.map Prod.fst,vs++l.map Prod.snd,rest)
 | [],rest,ks,vs,_=>by simp [entsP]
 | x::l,rest,ks,vs,h=>by
  have h1:=h x List.mem_cons_self
  have ih:=entsP_own l rest (ks++[x.1]) (vs++[x.2]) fun y hy=>h y (List.mem_cons_of_mem _ hy)
  have e1:(x::l).flatMap entB++rest=u8N x.1.length::(x.1++(u8N x.2.length::(x.2++(l.flatMap entB++rest)))):=by simp [entB]
  rw [e1,List.length_cons,entsP,textP_own h1.1]
  simp only [if_true]
  rw [textP_own h1.2]
  simp only
  rw [ih]
  simp
theorem parseP_own{l:List (List UInt8 × List UInt8)}(rest:List UInt8)(hl:l.length≤255)(h:∀ x∈l,x.1.length≤255∧x.2.length≤255):parseP (leafB l++rest)=some ⟨true,l.map Prod.fst,l.map Prod.snd,[]⟩:=by
 have e1:leafB l++rest=1::u8N l.length::(l.flatMap entB++rest):=rfl
 rw [e1,parseP,if_neg (by simp),u8N_nat hl]
 have e2:decide ((1:UInt8)=1)=true:=rfl
 rw [e2,entsP_own l rest [] [] h]
 simp
section
variable {W0 w:World} {F:Nat→Prop} {L:List Res} {I:List Inv} {e:En} {P:List (List UInt8)} {tb:Nat} {i:Int}
def LeafAt(P:List (List UInt8))(a:Nat)(l:List (List UInt8 × List UInt8)):Prop:=(∀ x∈l,x.1.length≤255∧x.2.length≤255)∧l.length≤255∧∃ r,P.getD a []=leafB l++r
theorem load_ok{a:Nat}{l:List (List UInt8 × List UInt8)}(h:Pgr e P W0 w F (trB tb e i::L) I)(h3:3≤P.length)(ha:a≤100000)(hok:chkN P a=0)(hl:LeafAt P a l)(hlen:(P.getD a []).length≤1000) :
  Ret Tryz.prog 75 [.pointer (some ⟨tb,0,none⟩),.int .i64 a] w fun u w'=>∃ kv vv ca cc,u=.tuple #[.agg #[.bool true,kv,vv,.slice ca 0 cc],.int .i64 0]∧Pgr e P W0 w' F (.row kv 9 1 l.length ((l.map Prod.fst).flatMap strE)::.row vv 9 1 l.length ((l.map Prod.snd).flatMap strE)::trB tb e i::L) I:=by
 have h2:=h.box #[.bool false,.slice none 0 0,.slice none 0 0,.slice none 0 0] 119
 refine ent75 _ _ _ _ ?_
 simp (disch:=first|omega|exact zF rfl|exact zG rfl|exact fun h=>h|(simp only[zA,zB,zC,zD,bytesW];omega)) only[go_sem,c75S1]
 generalize w.heap.size=b at h2 ⊢
 generalize w.alloc (.cells #[.bool false,.slice none 0 0,.slice none 0 0,.slice none 0 0] 119)=w2 at h2 ⊢
 have r:=h2.rules 1 rfl
 simp (disch:=first|omega|exact zF rfl|exact zG rfl|exact fun h=>h|(simp only[zA,zB,zC,zD,bytesW];omega)) only[go_sem,c75S1,r]
 refine Ret.mono (pget_ok (a:Nat) h2 h3 ⟨by omega,by omega⟩) ?_
 have eg:getN P (a:Nat)=(P.getD a [],0):=by
  unfold getN
  rw [if_neg (by rw [hok]; exact fun h=>h rfl)]; rfl
 rw [eg]
 rintro _ w3 ⟨rfl,h3'⟩
 simp (disch:=first|omega|exact zF rfl|exact zG rfl|exact fun h=>h|(simp only[zA,zB,zC,zD,bytesW];omega)) only[go_sem,c75S1]
 obtain ⟨A,st,back⟩:=h3'.lift
 refine Ret.mono (parse_ok (P.getD a []) st (by omega)) ?_
 obtain ⟨hb,hl2,r2,er⟩:=hl
 rw [er,parseP_own r2 hl2 hb]
 rintro _ w4 ⟨kv,vv,cv,rfl,s4⟩
 obtain ⟨ca,cc,rfl,_⟩:=own_slice (s4.row 2 rfl)
 obtain ⟨ka,kc,rfl,_⟩:=own_slice (s4.row 0 rfl)
 obtain ⟨va,vc,rfl,_⟩:=own_slice (s4.row 1 rfl)
 simp only [List.length_map] at s4 ⊢
 have r4:=s4.rules 3 rfl
 simp (disch:=first|omega|exact zF rfl|exact zG rfl|exact fun h=>h|(simp only[zA,zB,zC,zD,bytesW];omega)) only[go_sem,c75S1,r4]
 have q5:=back _ (.row (.slice ka l.length kc) 9 1 l.length ((l.map Prod.fst).flatMap strE)::.row (.slice va l.length vc) 9 1 l.length ((l.map Prod.snd).flatMap strE)::.row (.slice ca 0 cc) 3 1 0 []::.blk b #[.bool true,.slice ka l.length kc,.slice va l.length vc,.slice ca 0 cc] 119::trB tb e i::L) _ (s4.fill 3 rfl rfl)
 exact ⟨_,_,ca,cc,rfl,q5.sub (.cons_cons _ (.cons_cons _ (.cons _ (.cons _ (List.Sublist.refl _)))))⟩
theorem lay_ok{a:Nat}{l:List (List UInt8 × List UInt8)}{kv vv:Value}{ca:Option Addr}{cc:Nat}(h:Pgr e P W0 w F (trB tb e i::L) I)(h3:3≤P.length)(ha:a≤100000)(hok:chkN P a=0)(hm:a<e.mx)(hk:RdS w 1 strE kv (l.map Prod.fst))(hv:RdS w 1 strE vv (l.map Prod.snd))(hl:l.length≤255)(hb:∀ x∈l,x.1.length≤255∧x.2.length≤255)(hs:(leafB l).length≤256) :
  Ret Tryz.prog 65 [.pointer (some ⟨tb,0,none⟩),.int .i64 a,.agg #[.bool true,kv,vv,.slice ca 0 cc]] w fun u w'=>u=.int .i64 0∧Pgr e (P.set a (filledL (leafB l))) W0 w' F (trB tb e i::L) I:=by
 obtain ⟨ka,kc,rfl,_⟩:=hk.form
 obtain ⟨va,vc,rfl,_⟩:=hv.form
 simp only [List.length_map] at *
 have h2:=h.box #[.bool true,.slice ka l.length kc,.slice va l.length vc,.slice ca 0 cc] 119
 have hk2:=hk.below ((Below.refl _ w).alloc (Nat.le_refl _) (.cells #[.bool true,.slice ka l.length kc,.slice va l.length vc,.slice ca 0 cc] 119)) (by decide)
 have hv2:=hv.below ((Below.refl _ w).alloc (Nat.le_refl _) (.cells #[.bool true,.slice ka l.length kc,.slice va l.length vc,.slice ca 0 cc] 119)) (by decide)
 refine ent65 _ _ _ _ _ ?_
 simp (disch:=first|omega|exact zF rfl|exact zG rfl|exact fun h=>h|(simp only[zA,zB,zC,zD,bytesW];omega)) only[go_sem]
 generalize w.heap.size=b at h2 ⊢
 generalize w.alloc (.cells #[.bool true,.slice ka l.length kc,.slice va l.length vc,.slice ca 0 cc] 119)=w2 at h2 hk2 hv2 ⊢
 refine c65draw0 (Same (fun k=>k=tb) _) (Same.refl _ _) ?_
 have h3':=h2.drew
 have hk3:=hk2.below (Below.refl _ w2).drew (by decide)
 have hv3:=hv2.below (Below.refl _ w2).drew (by decide)
 generalize w2.drew=w3 at h3' hk3 hv3 ⊢
 have r0:=h3'.rules 0 rfl
 have r1:=h3'.rules 1 rfl
 simp (disch:=first|omega|exact zF rfl|exact zG rfl|exact fun h=>h|(simp only[zA,zB,zC,zD,bytesW];omega)) only[go_sem,c65D0,r0,r1]
 refine ⟨Same.refl _ _,Ret.mono (writeLeaf_ok w3 hk3 hv3 hl hb) ?_⟩
 rintro _ w4 ⟨rfl,b4⟩
 have h4:=h3'.below b4
 simp (disch:=first|omega|exact zF rfl|exact zG rfl|exact fun h=>h|(simp only[zA,zB,zC,zD,bytesW];omega)) only[go_sem,c65D0]
 have es:setPN P (a:Nat) (leafB l)=(P.set a (filledL (leafB l)),0):=by
  unfold setPN
  rw [if_neg (by rw [hok]; exact fun h=>h rfl),if_neg (by omega)]; rfl
 refine ⟨?_,Ret.mono (pset_ok (a:Nat) (leafB l) h4 h3 ⟨by omega,by omega⟩ (fun _=>by omega)) ?_⟩
 ·rintro k rfl
  exact (h4.bk 1 rfl).trans (h3'.bk 1 rfl).symm
 rw [es]
 rintro _ w5 ⟨rfl,h5⟩
 simp (disch:=first|omega|exact zF rfl|exact zG rfl|exact fun h=>h|(simp only[zA,zB,zC,zD,bytesW];omega)) only[go_sem]
 exact h5.sub (List.sublist_cons_self ..)
end
open Go Go.Ann Go.RowKit Go.WideShapes Go.Shelf
theorem strE_len1(x:List UInt8):(strE x).length=1:=rfl
theorem strE_one1(x:List UInt8):∀ u∈strE x,u.oneCell'=true:=str_one' x
theorem strE_ones7(l:List (List UInt8)):∀ u∈l.flatMap strE,u.oneCell'=true:=fun u hu=>by
 obtain ⟨x,_,hx⟩:=List.mem_flatMap.1 hu
 exact str_one' x u hx
theorem strs_len1(l:List (List UInt8)):(l.flatMap strE).length=l.length * 1:=by
 induction l with
 | nil=>rfl
 | cons a l ih=>rw [List.flatMap_cons,List.length_append,ih,List.length_cons,strE_len1]; omega
@[go_sem] theorem goOverlapsS:goFunc Tryz.prog 163=false:=by kernel_rfl
section
variable {W0 w:World} {F:Nat→Prop} {L:List Res} {I:List Inv} {rv:Value} {l:List (List UInt8)}
theorem insertS_ok{x:List UInt8}{vb:Nat}(h:St W0 w F (.row rv 9 1 l.length (l.flatMap strE)::.blk vb (strE x).toArray 9::L) I)(hl:l.length≤1000000) :
  Ret Tryz.prog 128 [rv,.int .i64 0,.slice (some ⟨vb,0,none⟩) 1 1] w fun u w'=>St W0 w' F (.row u 9 1 (l.length+1) ((x::l).flatMap strE)::.blk vb (strE x).toArray 9::L) I:=by
 have hr:=h.row 0 rfl
 have hv:=h.blk 1 rfl
 obtain ⟨a,cap,rfl,hnc⟩:=own_slice hr
 have hx:Rd w 1 (.slice (some ⟨vb,0,none⟩) 1 1) 1 (strE x):=by
  refine ⟨rfl,_,_,rfl,Nat.le_refl _,fun _=>⟨_,rfl,fun j u hu=>?_⟩⟩
  rw [Addr.add_lit,Nat.zero_add,hv.cell,List.getElem?_toArray]
  exact hu
 refine ent128 _ _ _ _ _ ?_
 by_cases hn:l.length=0
 ·have hl0:l=[]:=List.eq_nil_of_length_eq_zero hn
  subst hl0
  simp (disch:=first|omega|exact zF rfl|exact zG rfl|exact fun h=>h|(simp only[zA,zB,zC,zD,bytesW];omega)) only[go_sem]
  refine h.append 0 rfl ty22mkI rfl (by decide) hx (strE_one1 x) (by simp) (by simp) ?_
  intro v2 w2 s2 _
  simp (disch:=first|omega|exact zF rfl|exact zG rfl|exact fun h=>h|(simp only[zA,zB,zC,zD,bytesW];omega)) only[go_sem]
  exact s2
 have hn':¬ (0:Int)=l.length:=by omega
 rcases hr.2 with ⟨_,h0⟩ | ⟨g,cap',cur,hv',hb,hg,hnc',hcm,hcs,htake⟩
 ·omega
 simp only [Value.slice.injEq,true_and] at hv'
 obtain ⟨rfl,rfl⟩:=hv'
 have hclen:cur.toList.length=cap * 1:=by rw [Array.length_toList,hcs]
 have hcells:∀ j u,(l.flatMap strE)[j]?=some u→w.cell? ((⟨g,0,none⟩:Addr).add j)=some u:=fun j u hu=>by
  have hj:j<l.length * 1:=by
   have:=(List.getElem?_eq_some_iff.1 hu).1
   rwa [strs_len1] at this
  rw [Addr.add_lit,Nat.zero_add,hr.cellAt _ hj,hu]
 have hvcells:∀ j u,(strE x)[j]?=some u→w.cell? ((⟨vb,0,none⟩:Addr).add j)=some u:=fun j u hu=>by
  rw [Addr.add_lit,Nat.zero_add,hv.cell,List.getElem?_toArray]; exact hu
 have hgv:g≠vb:=fun e=>h.ne 0 1 rfl rfl (by decide) (k:=g) rfl (by rw [e]; rfl)
 have e0:offA (some ⟨g,0,none⟩) cap 0 1=some ⟨g,0,none⟩:=by unfold offA; split <;> rfl
 have hfl:=strs_len1 l
 by_cases hc:cap<l.length+1
 ·have hc':(cap:Int)<l.length+1:=by omega
  simp (disch:=first|omega|exact zF rfl|exact zG rfl|exact fun h=>h|(simp only[zA,zB,zC,zD,bytesW];omega)) only[go_sem,hn',hc']
  refine ⟨by omega,⟨by omega,by omega⟩,capB ty22mkI ?_⟩
  simp (disch:=first|omega|exact zF rfl|exact zG rfl|exact fun h=>h|(simp only[zA,zB,zC,zD,bytesW];omega)) only[go_sem,hc']
  rw [e0,show ((l.length:Int)+1 - 0)=((l.length+1:Nat):Int) by omega]
  refine ⟨by omega,⟨by omega,by omega⟩,⟨by omega,by omega⟩,growB ty22mkI Tryz.underlying3 rfl (by decide) (by omega) hc (by omega) (by omega) ?_⟩
  intro G Z hG1 hG2 hZ
  have b1:Below w.heap.size w (w.drew.alloc (.cells Z 9)):=((Below.refl _ w).drew).alloc (Nat.le_refl _) _
  have B1:Blk (w.drew.alloc (.cells Z 9)) w.heap.size Z 9:=Blk.new (w:=w.drew)
  have hlt:=hr.lt g rfl
  have hltv:=hv.lt
  generalize w.drew.alloc (.cells Z 9)=w1 at b1 B1 ⊢
  generalize hy:w.heap.size=y at b1 B1 hlt hltv ⊢
  simp (disch:=first|omega|exact zF rfl|exact zG rfl|exact fun h=>h|(simp only[zA,zB,zC,zD,bytesW];omega)) only[go_sem]
  have e1:offA (some ⟨y,0,none⟩) G 0 1=some ⟨y,0,none⟩:=by unfold offA; split <;> rfl
  have hZl:Z.toList.length=G * 1:=by rw [Array.length_toList,hZ]
  have old1:∀ p:Addr,p.block<y→w1.cell? p=w.cell? p:=fun p hp=>World.cell?_of_block (b1.block _ hp)
  rw [e1]
  refine ⟨by omega,copyB (sz:=1) (k:=1) (ys:=strE x) ty22mkI B1 (by omega) rfl (fun j u hu=>by rw [old1 _ (by rw [add_block]; exact hltv)]; exact hvcells j u hu) (strE_one1 x) (by rw [hZ,strE_len1]; omega) ?_⟩
  intro w2 B2 c2
  have b2:Below y w w2:=b1.trans (c2.below (hy ▸ b1.size) fun k hk e=>by omega)
  simp (disch:=first|omega|exact zF rfl|exact zG rfl|exact fun h=>h|(simp only[zA,zB,zC,zD,bytesW];omega)) only[go_sem]
  refine c128draw0 ?_
  have b3:Below y w w2.drew:=b2.drew
  have B3:Blk w2.drew y (overL Z.toList 0 (strE x)).toArray 9:=B2
  have old3:∀ p:Addr,p.block<y→w2.drew.cell? p=w.cell? p:=fun p hp=>World.cell?_of_block (b3.block _ hp)
  generalize w2.drew=w3 at b3 B3 old3 ⊢
  have e3:offA (some ⟨y,0,none⟩) G 1 1=some ⟨y,1,none⟩:=by unfold offA; rw [if_neg (by omega)]; rfl
  have hl3:(overL Z.toList 0 (strE x)).length=G * 1:=by rw [overL_length (by rw [hZl,strE_len1]; omega),hZl]
  simp (disch:=first|omega|exact zF rfl|exact zG rfl|exact fun h=>h|(simp only[zA,zB,zC,zD,bytesW];omega)) only[go_sem,c128D0]
  rw [e3,e0]
  refine ⟨⟨by omega,by omega⟩,by omega,by omega,copyB (sz:=1) (k:=l.length) (ys:=l.flatMap strE) ty22mkI B3 (by rw [Nat.sub_zero]; exact Nat.min_self _) hfl (fun j u hu=>by rw [old3 _ (by rw [add_block]; exact hlt.2)]; exact hcells j u hu) (strE_ones7 l) (by rw [List.size_toArray,hl3,hfl]; omega) ?_⟩
  intro w5 B5 c5
  simp only [List.toList_toArray] at B5
  have b5:Below w.heap.size w w5:=by
   rw [hy]
   exact b3.trans (c5.below (hy ▸ b3.size) fun k hk e=>by omega)
  simp (disch:=first|omega|exact zF rfl|exact zG rfl|exact fun h=>h|(simp only[zA,zB,zC,zD,bytesW];omega)) only[go_sem]
  have hl5:(overL (overL Z.toList 0 (strE x)) 1 (l.flatMap strE)).length=G * 1:=by rw [overL_length (by rw [hl3,hfl]; omega),hl3]
  have ht:(overL (overL Z.toList 0 (strE x)) 1 (l.flatMap strE)).take ((l.length+1) * 1)=(x::l).flatMap strE:=by
   rw [overL_take (by rw [hfl]; omega) (by rw [hl3]; omega),overL_take (by rw [strE_len1]) (by omega),List.take_zero,List.nil_append,List.flatMap_cons]
  have hnew:(Res.row (.slice (some ⟨y,0,none⟩) (l.length+1) G) 9 1 (l.length+1) ((x::l).flatMap strE)).ok w5 W0.heap.size :=
   ⟨by rw [strs_len1,List.length_cons],.inr ⟨y,G,_,rfl,by rw [← hy]; exact h.size,B5,hG1,hG2,by rw [List.size_toArray,hl5],ht⟩⟩
  have s5:=h.add b5 _ hnew fun k hk=>by
   simp only [Res.own,Value.ownBlock,Option.some.injEq] at hk; omega
  exact s5.sub (List.Sublist.cons_cons _ (List.sublist_cons_self _ _))
 ·have hc':¬ (cap:Int)<l.length+1:=by omega
  simp (disch:=first|omega|exact zF rfl|exact zG rfl|exact fun h=>h|(simp only[zA,zB,zC,zD,bytesW];omega)) only[go_sem,hn',hc']
  refine ⟨by omega,⟨by omega,by omega⟩,capB ty22mkI ?_⟩
  simp (disch:=first|omega|exact zF rfl|exact zG rfl|exact fun h=>h|(simp only[zA,zB,zC,zD,bytesW];omega)) only[go_sem,hc']
  have e1:offA (some ⟨g,0,none⟩) cap 1 1=some ⟨g,1,none⟩:=by unfold offA; rw [if_neg (by omega)]; rfl
  rw [e0,e1]
  refine ⟨⟨by omega,by omega⟩,⟨by omega,by omega⟩,⟨by omega,by omega⟩,by omega,overlapsW (t:=22) (tR:=4) Tryz.func163 (by kernel_rfl) (by kernel_rfl) (by kernel_rfl) (by kernel_rfl) ty22mkI (fun e=>hgv e.symm) hv hg (by omega) ?_⟩
  simp (disch:=first|omega|exact zF rfl|exact zG rfl|exact fun h=>h|(simp only[zA,zB,zC,zD,bytesW];omega)) only[go_sem]
  refine c128draw1 ?_
  have h2:=h.drew
  have hg2:Blk w.drew g cur 9:=hg
  have hc2:∀ j u,(l.flatMap strE)[j]?=some u→w.drew.cell? ((⟨g,0,none⟩:Addr).add j)=some u:=hcells
  have e2:((l.length:Int)+1).toNat=l.length+1:=by omega
  simp (disch:=first|omega|exact zF rfl|exact zG rfl|exact fun h=>h|(simp only[zA,zB,zC,zD,bytesW];omega)) only[go_sem,c128D1]
  rw [e2,e0,e1]
  refine ⟨by constructor <;> omega,by omega,by omega,copyB (sz:=1) (k:=l.length) (ys:=l.flatMap strE) ty22mkI hg2 (by omega) hfl hc2 (strE_ones7 l) (by rw [hfl]; omega) ?_⟩
  intro w3 B3 c3
  have hl3:(overL cur.toList 1 (l.flatMap strE)).length=cap * 1:=by rw [overL_length (by rw [hclen,hfl]; omega),hclen]
  have hvc3:∀ j u,(strE x)[j]?=some u→w3.cell? ((⟨vb,0,none⟩:Addr).add j)=some u:=fun j u hu=>by
   have:w3.cell? ((⟨vb,0,none⟩:Addr).add j)=w.cell? ((⟨vb,0,none⟩:Addr).add j):=World.cell?_of_block (by rw [add_block]; exact c3.block vb hv.lt (fun e=>hgv e.symm))
   rw [this]; exact hvcells j u hu
  simp (disch:=first|omega|exact zF rfl|exact zG rfl|exact fun h=>h|(simp only[zA,zB,zC,zD,bytesW];omega)) only[go_sem]
  rw [e0]
  refine ⟨by omega,copyB (sz:=1) (k:=1) (ys:=strE x) ty22mkI B3 (by omega) rfl hvc3 (strE_one1 x) (by rw [List.size_toArray,hl3,strE_len1]; omega) ?_⟩
  intro w5 B5 c5
  simp only [List.toList_toArray] at B5
  simp (disch:=first|omega|exact zF rfl|exact zG rfl|exact fun h=>h|(simp only[zA,zB,zC,zD,bytesW];omega)) only[go_sem]
  have hl5:(overL (overL cur.toList 1 (l.flatMap strE)) 0 (strE x)).length=cap * 1:=by rw [overL_length (by rw [hl3,strE_len1]; omega),hl3]
  have ht:(overL (overL cur.toList 1 (l.flatMap strE)) 0 (strE x)).take ((l.length+1) * 1)=(x::l).flatMap strE:=by
   rw [overL_head (by rw [strE_len1]; omega),overL_take (by rw [hfl]; omega) (by rw [hclen]; omega),strE_len1,List.drop_append,List.drop_of_length_le (by rw [List.length_take]; omega),List.nil_append,List.length_take,Nat.min_eq_left (by omega),Nat.sub_self,List.drop_zero,List.flatMap_cons]
  have hc:Chg (fun k=>(Res.row (.slice (some ⟨g,0,none⟩) l.length cap) 9 1 l.length (l.flatMap strE)).own=some k) w w5 :=
   (((Chg.refl (fun k=>k=g) w).drew.trans c3).trans c5).mono fun k _ hk=>by subst hk; rfl
  exact h.upd 0 rfl hc (.row (.slice (some ⟨g,0,none⟩) (l.length+1) cap) 9 1 (l.length+1) ((x::l).flatMap strE)) ⟨by rw [strs_len1,List.length_cons],.inr ⟨g,cap,_,rfl,hb,B5,by omega,hcm,by rw [List.size_toArray,hl5],ht⟩⟩ fun k hk=>.inl hk
end
open Go Go.Ann Go.RowKit Go.WideShapes Go.Shelf
def ksum(l:List (List UInt8)):Nat:=(l.map fun x=>1+x.length).sum
theorem ksum_snoc(l:List (List UInt8))(x:List UInt8):ksum (l++[x])=ksum l+(1+x.length):=by
 unfold ksum
 rw [List.map_append,List.sum_append]; simp
theorem ksum_le{l:List (List UInt8)}(h:∀ x∈l,x.length≤255):ksum l≤256 * l.length:=by
 induction l with
 | nil=>exact Nat.le_refl _
 | cons x l ih =>
  have h1:=h x List.mem_cons_self
  have h2:=ih fun y hy=>h y (List.mem_cons_of_mem _ hy)
  unfold ksum at h2 ⊢
  rw [List.map_cons,List.sum_cons,List.length_cons]
  omega
theorem leafB_len(l:List (List UInt8 × List UInt8)):(leafB l).length=2+ksum (l.map Prod.fst)+ksum (l.map Prod.snd):=by
 unfold leafB
 rw [List.length_cons,List.length_cons]
 induction l with
 | nil=>rfl
 | cons x l ih =>
  rw [List.flatMap_cons,List.length_append]
  unfold ksum at ih ⊢
  simp only [List.map_cons,List.sum_cons,entB,List.length_cons,List.length_append] at ih ⊢
  omega
section
variable {W0 w:World} {F:Nat→Prop} {L:List Res} {I:List Inv} {e:En} {P:List (List UInt8)} {tb:Nat} {i:Int}
theorem size_ok{kv vv:Value}{ca:Option Addr}{cc:Nat}{lf:Bool}{ks vl:List (List UInt8)}(w:World)(hk:RdS w 1 strE kv ks)(hv:RdS w 1 strE vv vl)(hkl:ks.length≤1000)(hvl:vl.length≤1000)(hkb:∀ x∈ks,x.length≤255)(hvb:∀ x∈vl,x.length≤255) :
  Ret Tryz.prog 165 [.agg #[.bool lf,kv,vv,.slice ca 0 cc]] w fun u w'=>u=.int .i64 (2+ksum ks+ksum vl:Nat)∧Below w.heap.size w w':=by
 obtain ⟨ka,kc,rfl,_⟩:=hk.form
 obtain ⟨va,vc,rfl,_⟩:=hv.form
 refine ent165 _ _ _ ?_
 simp (disch:=first|omega|exact zF rfl|exact zG rfl|exact fun h=>h|(simp only[zA,zB,zC,zD,bytesW];omega)) only[go_sem,c165L1]
 have s1:=(St.start (W0:=w)).box #[.bool lf,.slice ka ks.length kc,.slice va vl.length vc,.slice ca 0 cc] 119
 obtain ⟨b,hbb⟩:∃ b,b=w.heap.size:=⟨_,rfl⟩
 rw [← hbb] at s1 ⊢
 generalize w.alloc (.cells #[.bool lf,.slice ka ks.length kc,.slice va vl.length vc,.slice ca 0 cc] 119)=w2 at s1 ⊢
 refine ⟨⟨by decide,by decide⟩,⟨by decide,by decide⟩,?_⟩
 have hkt:=ksum_le hkb
 have hvt:=ksum_le hvb
 refine W_loopU (fun j:Nat=>[(3,.int .i64 (2+ksum (ks.take j):Nat)),(16,.int .i64 j)]) (fun j w'=>j≤ks.length∧w'=w2) (fun j=>ks.length - j) 0 rfl ⟨Nat.zero_le _,rfl⟩ ?_
 rintro j w3 ⟨hj,rfl⟩
 by_cases hlt:j<ks.length
 case pos =>
  have hlt':(j:Int)<ks.length:=by omega
  obtain ⟨p,rfl⟩:=hk.ptr (by omega)
  have em:=RdS.at1 (e1:=fun r=>.string (ofL r)) (hk.below s1.bel (by decide)) hlt
  have es:=ksum_snoc (ks.take j) ks[j]
  rw [← List.take_succ_eq_append_getElem hlt] at es
  have hle:=ksum_le (l:=ks.take j) fun x hx=>hkb x (List.mem_of_mem_take hx)
  rw [List.length_take] at hle
  have hkj:=hkb _ (List.getElem_mem hlt)
  simp (disch:=first|omega|exact zF rfl|exact zG rfl|exact fun h=>h|(simp only[zA,zB,zC,zD,bytesW];omega)) only[go_sem,c165L0,c165L1,c165L0,hlt',em]
  refine ⟨by omega,⟨by omega,by omega⟩,⟨by omega,by omega⟩,⟨by omega,by omega⟩,j+1,?_,hlt,by omega⟩
  rw [es]
  have:((2+(ksum (ks.take j)+(1+ks[j].length)):Nat):Int)=2+(ksum (ks.take j):Int)+(1+(ks[j].length:Int)):=by omega
  simp
  omega
 case neg =>
  have hlt':¬ (j:Int)<ks.length:=by omega
  obtain rfl:j=ks.length:=by omega
  rw [List.take_length]
  have r1:=s1.rules 0 rfl
  simp (disch:=first|omega|exact zF rfl|exact zG rfl|exact fun h=>h|(simp only[zA,zB,zC,zD,bytesW];omega)) only[go_sem,c165L0,c165S3,c165L0,hlt',r1]
  refine W_loopU (fun j:Nat=>[(3,.int .i64 (2+ksum ks+ksum (vl.take j):Nat)),(29,.int .i64 j)]) (fun j w'=>j≤vl.length∧w'=w3) (fun j=>vl.length - j) 0 rfl ⟨Nat.zero_le _,rfl⟩ ?_
  rintro j _ ⟨hj,rfl⟩
  by_cases hlt:j<vl.length
  case pos =>
   have hlt':(j:Int)<vl.length:=by omega
   obtain ⟨p,rfl⟩:=hv.ptr (by omega)
   have em:=RdS.at1 (e1:=fun r=>.string (ofL r)) (hv.below s1.bel (by decide)) hlt
   have es:=ksum_snoc (vl.take j) vl[j]
   rw [← List.take_succ_eq_append_getElem hlt] at es
   have hle:=ksum_le (l:=vl.take j) fun x hx=>hvb x (List.mem_of_mem_take hx)
   rw [List.length_take] at hle
   have hkj:=hvb _ (List.getElem_mem hlt)
   simp (disch:=first|omega|exact zF rfl|exact zG rfl|exact fun h=>h|(simp only[zA,zB,zC,zD,bytesW];omega)) only[go_sem,c165L0,c165L1,c165S3,c165L1,hlt',em]
   refine ⟨by omega,⟨by omega,by omega⟩,⟨by omega,by omega⟩,⟨by omega,by omega⟩,j+1,?_,hlt,by omega⟩
   rw [es]
   have:((2+ksum ks+(ksum (vl.take j)+(1+vl[j].length)):Nat):Int)=2+(ksum ks:Int)+(ksum (vl.take j):Int)+(1+(vl[j].length:Int)):=by omega
   simp
   omega
  case neg =>
   have hlt':¬ (j:Int)<vl.length:=by omega
   obtain rfl:j=vl.length:=by omega
   rw [List.take_length]
   simp (disch:=first|omega|exact zF rfl|exact zG rfl|exact fun h=>h|(simp only[zA,zB,zC,zD,bytesW];omega)) only[go_sem,c165L0,c165L1,c165S3,c165L1,hlt']
   exact hbb ▸ s1.bel
end
open Go Go.Ann Go.RowKit Go.WideShapes Go.Shelf
section
variable {W0 w:World} {F:Nat→Prop} {L:List Res} {I:List Inv} {e:En} {P:List (List UInt8)} {tb:Nat} {i:Int}
theorem cut_ok{a:Nat}{l:List (List UInt8 × List UInt8)}{kv vv:Value}{ca:Option Addr}{cc:Nat}(h:Pgr e P W0 w F (trB tb e i::L) I)(h3:3≤P.length)(ha:a≤100000)(hok:chkN P a=0)(hm:a<e.mx)(hk:RdS w 1 strE kv (l.map Prod.fst))(hv:RdS w 1 strE vv (l.map Prod.snd))(hl:l.length≤255)(hb:∀ x∈l,x.1.length≤255∧x.2.length≤255)(hs:(leafB l).length≤256) :
  Ret Tryz.prog 129 [.pointer (some ⟨tb,0,none⟩),.int .i64 a,.agg #[.bool true,kv,vv,.slice ca 0 cc]] w fun u w'=>u=.tuple #[.string (ofL []),.int .i64 0,.int .i64 0]∧Pgr e (P.set a (filledL (leafB l))) W0 w' F (trB tb e i::L) I:=by
 obtain ⟨ka,kc,rfl,_⟩:=hk.form
 obtain ⟨va,vc,rfl,_⟩:=hv.form
 simp only [List.length_map] at *
 have h2:=h.box #[.bool true,.slice ka l.length kc,.slice va l.length vc,.slice ca 0 cc] 119
 have hb2:=((Below.refl _ w).alloc (Nat.le_refl _) (.cells #[.bool true,.slice ka l.length kc,.slice va l.length vc,.slice ca 0 cc] 119))
 have hk2:=hk.below hb2 (by decide)
 have hv2:=hv.below hb2 (by decide)
 clear hb2
 refine ent129 _ _ _ _ _ ?_
 simp (disch:=first|omega|exact zF rfl|exact zG rfl|exact fun h=>h|(simp only[zA,zB,zC,zD,bytesW];omega)) only[go_sem]
 generalize w.heap.size=b at h2 ⊢
 generalize w.alloc (.cells #[.bool true,.slice ka l.length kc,.slice va l.length vc,.slice ca 0 cc] 119)=w2 at h2 hk2 hv2 ⊢
 have hkb:∀ x∈l.map Prod.fst,x.length≤255:=fun x hx=>by
  obtain ⟨y,hy,rfl⟩:=List.mem_map.1 hx
  exact (hb y hy).1
 have hvb:∀ x∈l.map Prod.snd,x.length≤255:=fun x hx=>by
  obtain ⟨y,hy,rfl⟩:=List.mem_map.1 hx
  exact (hb y hy).2
 refine Ret.mono (size_ok w2 hk2 hv2 (by rw [List.length_map]; omega) (by rw [List.length_map]; omega) hkb hvb) ?_
 rintro _ w3 ⟨rfl,b3⟩
 have h3':=h2.below b3
 rw [leafB_len] at hs
 have hs':((2+ksum (l.map Prod.fst)+ksum (l.map Prod.snd):Nat):Int)≤256:=by omega
 rw [← leafB_len] at hs hs' ⊢
 have r0:=h3'.rules 0 rfl
 simp (disch:=first|omega|exact zF rfl|exact zG rfl|exact fun h=>h|(simp only[zA,zB,zC,zD,bytesW];omega)) only[go_sem,hs',r0]
 refine Ret.mono (lay_ok (h3'.sub (List.sublist_cons_self ..)) h3 ha hok hm (hk2.below b3 (by decide)) (hv2.below b3 (by decide)) hl hb hs) ?_
 rintro _ w4 ⟨rfl,h4⟩
 simp (disch:=first|omega|exact zF rfl|exact zG rfl|exact fun h=>h|(simp only[zA,zB,zC,zD,bytesW];omega)) only[go_sem]
 exact h4
theorem room_ok{a:Nat}{l:List (List UInt8 × List UInt8)}(h:Pgr e P W0 w F (trB tb e i::L) I)(h3:3≤P.length)(hP:P.length≤2000)(ha:a≤100000)(hok:chkN P a=0)(hl:LeafAt P a l)(hlen:(P.getD a []).length≤1000)(hrm:2≤roomN P)(hrm2:roomN P≤100000) :
  Ret Tryz.prog 67 [.pointer (some ⟨tb,0,none⟩),.int .i64 a] w fun u w'=>u=.int .i64 0∧Pgr e P W0 w' F (trB tb e i::L) I:=by
 refine ent67 _ _ _ _ ?_
 simp (disch:=first|omega|exact zF rfl|exact zG rfl|exact fun h=>h|(simp only[zA,zB,zC,zD,bytesW];omega)) only[go_sem]
 refine W_loopU (fun _:Unit=>[]) (fun _ w'=>w'=w) (fun _=>0) () rfl rfl ?_
 rintro _ _ rfl
 simp (disch:=first|omega|exact zF rfl|exact zG rfl|exact fun h=>h|(simp only[zA,zB,zC,zD,bytesW];omega)) only[go_sem,c67L0,c67L0]
 refine Ret.mono (load_ok h h3 ha hok hl hlen) ?_
 rintro _ w2 ⟨kv,vv,ca,cc,rfl,h2⟩
 obtain ⟨ka,kc,rfl,_⟩:=own_slice (h2.row 0 rfl)
 obtain ⟨va,vc,rfl,_⟩:=own_slice (h2.row 1 rfl)
 simp (disch:=first|omega|exact zF rfl|exact zG rfl|exact fun h=>h|(simp only[zA,zB,zC,zD,bytesW];omega)) only[go_sem,c67L0]
 have h4:=(h2.box #[.bool true,.slice ka l.length kc,.slice va l.length vc,.slice ca 0 cc] 119).sub (L':=trB tb e i::L) (.cons _ (.cons _ (.cons _ (List.Sublist.refl _))))
 generalize w2.alloc (.cells #[.bool true,.slice ka l.length kc,.slice va l.length vc,.slice ca 0 cc] 119)=w4 at h4 ⊢
 have r0:=h4.rules 0 rfl
 simp (disch:=first|omega|exact zF rfl|exact zG rfl|exact fun h=>h|(simp only[zA,zB,zC,zD,bytesW];omega)) only[go_sem,c67L0,c67S7,r0]
 refine Ret.mono (proom_ok h4 (by omega)) ?_
 rintro _ w5 ⟨rfl,h5⟩
 have hr:¬ (roomN P:Int)<2:=by omega
 simp (disch:=first|omega|exact zF rfl|exact zG rfl|exact fun h=>h|(simp only[zA,zB,zC,zD,bytesW];omega)) only[go_sem,c67L0,c67S7,hr]
 exact ⟨⟨by decide,by decide⟩,h5⟩
end
open Go Go.Ann Go.RowKit Go.WideShapes Go.Shelf
section
variable {W0 w:World} {F:Nat→Prop} {L:List Res} {I:List Inv} {e:En} {P:List (List UInt8)} {tb:Nat} {i:Int}
theorem pins_ok{ks:List (List UInt8)}{rv:Value}{x:List UInt8}{vb n:Nat}(h:Pgr e P W0 w F (.row rv 9 1 n (ks.flatMap strE)::.blk vb #[.string (ofL x)] 9::L) I)(hn:n=ks.length)(hl:n≤1000000) :
  Ret Tryz.prog 128 [rv,.int .i64 0,.slice (some ⟨vb,0,none⟩) 1 1] w fun u w'=>Pgr e P W0 w' F (.row u 9 1 (n+1) ((x::ks).flatMap strE)::.blk vb #[.string (ofL x)] 9::L) I:=by
 subst hn
 obtain ⟨A,st,back⟩:=h.lift
 refine Ret.mono (insertS_ok (L:=L++A) st hl) ?_
 intro u w' s'
 exact back _ (_::_::L) _ s'
def PlaceK(ks:List (List UInt8))(key:List UInt8)(n:Nat):Prop:=∀ j,j≤ks.length→(∀ x,0<j→ks[j - 1]?=some x→Op.bytesLess x key=true)→(∀ x,ks[j]?=some x→Op.bytesLess x key=false)→j=n
theorem put_new{a:Nat}{l:List (List UInt8 × List UInt8)}(key val:List UInt8)(h:Pgr e P W0 w F (trB tb e i::L) I)(h3:3≤P.length)(ha:a≤100000)(hok:chkN P a=0)(hm:a<e.mx)(hl:LeafAt P a l)(hlen:(P.getD a []).length≤1000)(hp:PlaceK (l.map Prod.fst) key 0)(hno:(l.map Prod.fst)[0]?≠some key)(hl':l.length≤200)(hkv:key.length≤255∧val.length≤255)(hs:(leafB ((key,val)::l)).length≤256) :
  Ret Tryz.prog 68 [.pointer (some ⟨tb,0,none⟩),.int .i64 a,.int .i64 32,.string (ofL key),.string (ofL val)] w fun u w'=>u=.tuple #[.string (ofL []),.int .i64 0,.int .i64 0]∧Pgr e (P.set a (filledL (leafB ((key,val)::l)))) W0 w' F (trB tb e i::L) I:=by
 refine ent68 _ _ _ _ _ _ _ ?_
 simp (disch:=first|omega|exact zF rfl|exact zG rfl|exact fun h=>h|(simp only[zA,zB,zC,zD,bytesW];omega)) only[go_sem,c68S0,c68S2,c68S3,c68S10,c68S11]
 refine Ret.mono (load_ok h h3 ha hok hl hlen) ?_
 rintro _ w2 ⟨kv,vv,ca,cc,rfl,h2⟩
 obtain ⟨ka,kc,rfl,_⟩:=own_slice (h2.row 0 rfl)
 obtain ⟨va,vc,rfl,_⟩:=own_slice (h2.row 1 rfl)
 simp (disch:=first|omega|exact zF rfl|exact zG rfl|exact fun h=>h|(simp only[zA,zB,zC,zD,bytesW];omega)) only[go_sem,c68S0,c68S2,c68S3,c68S10,c68S13]
 have h4:=h2.box #[.bool true,.slice ka l.length kc,.slice va l.length vc,.slice ca 0 cc] 119
 generalize w2.heap.size=b at h4 ⊢
 generalize w2.alloc (.cells #[.bool true,.slice ka l.length kc,.slice va l.length vc,.slice ca 0 cc] 119)=w4 at h4 ⊢
 have r0:=h4.rules 0 rfl
 simp (disch:=first|omega|exact zF rfl|exact zG rfl|exact fun h=>h|(simp only[zA,zB,zC,zD,bytesW];omega)) only[go_sem,c68S0,c68S2,c68S11,c68S13,r0]
 have hrk:RdS w4 1 strE (.slice ka l.length kc) (l.map Prod.fst):=RdS.of_own' (h4.row 1 rfl) (l.map Prod.fst) (by rw [List.length_map]) rfl
 refine Ret.mono (bsearch_ok key w4 hrk (by rw [List.length_map]; omega)) ?_
 rintro _ w5 ⟨j,rfl,hj,hlo,hhi,b5⟩
 obtain rfl:=hp j hj hlo hhi
 have h5:=h4.below b5
 have r0:=h5.rules 0 rfl
 rw [decide_eq_false hno]
 simp (disch:=first|omega|exact zF rfl|exact zG rfl|exact fun h=>h|(simp only[zA,zB,zC,zD,bytesW];omega)) only[go_sem,c68S3,c68S11,c68S13,r0]
 refine bsW_ones ty22mkI rfl rfl (by decide) (by decide) (str_one' key) ?_
 simp (disch:=first|omega|exact zF rfl|exact zG rfl|exact fun h=>h|(simp only[zA,zB,zC,zD,bytesW];omega)) only[go_sem,c68S3,c68S11,c68S13]
 have q6:=(h5.box #[.string (ofL key)] 9).perm (List.perm_middle (l₁:=[_,_]))
 generalize w5.heap.size=kb at q6 ⊢
 generalize w5.alloc (.cells #[.string (ofL key)] 9)=w6 at q6 ⊢
 refine Ret.mono (pins_ok (ks:=l.map Prod.fst) q6 (List.length_map _).symm (by omega)) ?_
 rintro u w7 q7
 obtain ⟨ua,uc,rfl,_⟩:=own_slice (q7.row 0 rfl)
 have r0:=q7.rules 2 rfl
 simp (disch:=first|omega|exact zF rfl|exact zG rfl|exact fun h=>h|(simp only[zA,zB,zC,zD,bytesW];omega)) only[go_sem,c68S3,c68S11,c68S13,r0]
 have q8:=q7.set 2 rfl 1 (.slice ua (l.length+1) uc)
 generalize w7.setCell ⟨b,1,none⟩ (.slice ua (l.length+1) uc)=w8 at q8 ⊢
 have r0:=q8.rules 2 rfl
 simp (disch:=first|omega|exact zF rfl|exact zG rfl|exact fun h=>h|(simp only[zA,zB,zC,zD,bytesW];omega)) only[go_sem,c68S0,c68S3,c68S11,c68S13,r0]
 refine bsW_ones ty22mkI rfl rfl (by decide) (by decide) (str_one' val) ?_
 simp (disch:=first|omega|exact zF rfl|exact zG rfl|exact fun h=>h|(simp only[zA,zB,zC,zD,bytesW];omega)) only[go_sem,c68S0,c68S3,c68S11,c68S13]
 have q9:=(q8.box #[.string (ofL val)] 9).perm (List.perm_middle (l₁:=[_,_,_,_]))
 generalize w8.heap.size=vb at q9 ⊢
 generalize w8.alloc (.cells #[.string (ofL val)] 9)=w9 at q9 ⊢
 refine Ret.mono (pins_ok (ks:=l.map Prod.snd) q9 (List.length_map _).symm (by omega)) ?_
 rintro u w10 q10
 obtain ⟨xa,xc,rfl,_⟩:=own_slice (q10.row 0 rfl)
 have r0:=q10.rules 4 rfl
 simp (disch:=first|omega|exact zF rfl|exact zG rfl|exact fun h=>h|(simp only[zA,zB,zC,zD,bytesW];omega)) only[go_sem,c68S0,c68S3,c68S11,c68S13,r0]
 have q11:=q10.set 4 rfl 2 (.slice xa (l.length+1) xc)
 generalize w10.setCell ⟨b,2,none⟩ (.slice xa (l.length+1) xc)=w11 at q11 ⊢
 have r0:=q11.rules 4 rfl
 simp (disch:=first|omega|exact zF rfl|exact zG rfl|exact fun h=>h|(simp only[zA,zB,zC,zD,bytesW];omega)) only[go_sem,c68S0,c68S2,c68S3,c68S11,c68S13,r0]
 have hk:RdS w11 1 strE (.slice ua (l.length+1) uc) (((key,val)::l).map Prod.fst):=RdS.of_own' (q11.row 2 rfl) (((key,val)::l).map Prod.fst) (by simp) rfl
 have hv:RdS w11 1 strE (.slice xa (l.length+1) xc) (((key,val)::l).map Prod.snd):=RdS.of_own' (q11.row 0 rfl) (((key,val)::l).map Prod.snd) (by simp) rfl
 obtain ⟨hb,_,_⟩:=hl
 refine Ret.mono (cut_ok (l:=(key,val)::l) (q11.sub (L':=trB tb e i::L) (.cons _ (.cons _ (.cons _ (.cons _ (.cons _ (List.Sublist.refl _))))))) h3 ha hok hm hk hv (by rw [List.length_cons]; omega) (fun x hx=>?_) hs) ?_
 ·rcases List.mem_cons.1 hx with rfl | hx
  ·exact hkv
  ·exact hb x hx
 rintro _ w12 ⟨rfl,h12⟩
 simp (disch:=first|omega|exact zF rfl|exact zG rfl|exact fun h=>h|(simp only[zA,zB,zC,zD,bytesW];omega)) only[go_sem,c68S0,c68S2,c68S3,c68S11,c68S13]
 exact h12
end
open Go Go.Ann Go.RowKit Go.WideShapes Go.Shelf
section
variable {W0 w:World} {F:Nat→Prop} {L:List Res} {I:List Inv} {e:En} {P:List (List UInt8)} {tb:Nat} {i:Int}
theorem strs_set:∀ (l:List (List UInt8)) (i:Nat) (r:List UInt8),(l.set i r).flatMap strE=(l.flatMap strE).set i (.string (ofL r))
 | [],_,_=>rfl
 | a::l,0,r=>rfl
 | a::l,i+1,r=>by
  rw [List.set_cons_succ,List.flatMap_cons,List.flatMap_cons,strs_set l i r]; rfl
theorem put_old{a n:Nat}{l:List (List UInt8 × List UInt8)}(key val:List UInt8)(h:Pgr e P W0 w F (trB tb e i::L) I)(h3:3≤P.length)(ha:a≤100000)(hok:chkN P a=0)(hm:a<e.mx)(hl:LeafAt P a l)(hlen:(P.getD a []).length≤1000)(hp:PlaceK (l.map Prod.fst) key n)(hn:n<l.length)(hno:l[n].1=key)(hl':l.length≤200)(hkv:key.length≤255∧val.length≤255)(hs:(leafB (l.set n (key,val))).length≤256) :
  Ret Tryz.prog 68 [.pointer (some ⟨tb,0,none⟩),.int .i64 a,.int .i64 32,.string (ofL key),.string (ofL val)] w fun u w'=>u=.tuple #[.string (ofL []),.int .i64 0,.int .i64 0]∧Pgr e (P.set a (filledL (leafB (l.set n (key,val))))) W0 w' F (trB tb e i::L) I:=by
 refine ent68 _ _ _ _ _ _ _ ?_
 simp (disch:=first|omega|exact zF rfl|exact zG rfl|exact fun h=>h|(simp only[zA,zB,zC,zD,bytesW];omega)) only[go_sem,c68S0,c68S2,c68S3,c68S10,c68S11]
 refine Ret.mono (load_ok h h3 ha hok hl hlen) ?_
 rintro _ w2 ⟨kv,vv,ca,cc,rfl,h2⟩
 obtain ⟨ka,kc,rfl,_⟩:=own_slice (h2.row 0 rfl)
 obtain ⟨va,vc,rfl,_⟩:=own_slice (h2.row 1 rfl)
 simp (disch:=first|omega|exact zF rfl|exact zG rfl|exact fun h=>h|(simp only[zA,zB,zC,zD,bytesW];omega)) only[go_sem,c68S0,c68S2,c68S3,c68S10,c68S13]
 have h4:=h2.box #[.bool true,.slice ka l.length kc,.slice va l.length vc,.slice ca 0 cc] 119
 generalize w2.heap.size=b at h4 ⊢
 generalize w2.alloc (.cells #[.bool true,.slice ka l.length kc,.slice va l.length vc,.slice ca 0 cc] 119)=w4 at h4 ⊢
 have r0:=h4.rules 0 rfl
 simp (disch:=first|omega|exact zF rfl|exact zG rfl|exact fun h=>h|(simp only[zA,zB,zC,zD,bytesW];omega)) only[go_sem,c68S0,c68S2,c68S11,c68S13,r0]
 have hrk:RdS w4 1 strE (.slice ka l.length kc) (l.map Prod.fst):=RdS.of_own' (h4.row 1 rfl) (l.map Prod.fst) (by rw [List.length_map]) rfl
 refine Ret.mono (bsearch_ok key w4 hrk (by rw [List.length_map]; omega)) ?_
 rintro _ w5 ⟨j,rfl,hj,hlo,hhi,b5⟩
 obtain rfl:=hp j hj hlo hhi
 have h5:=h4.below b5
 have r0:=h5.rules 0 rfl
 have hfd:(l.map Prod.fst)[j]?=some key:=by rw [List.getElem?_map,List.getElem?_eq_getElem hn,Option.map_some,hno]
 rw [decide_eq_true hfd]
 rcases (h5.row 2 rfl).2 with ⟨hv',h0⟩ | ⟨g,cap',cur,hv',_,hg,_⟩
 ·simp only [Value.slice.injEq] at hv'
  omega
 simp only [Value.slice.injEq,true_and] at hv'
 obtain ⟨rfl,rfl⟩:=hv'
 have hjl:(j:Int)<l.length:=by omega
 have hrv:RdS w5 1 strE (.slice (some ⟨g,0,none⟩) l.length vc) (l.map Prod.snd):=RdS.of_own' (h5.row 2 rfl) (l.map Prod.snd) (by rw [List.length_map]) rfl
 have ev:=RdS.at1 (e1:=fun r=>.string (ofL r)) hrv (k:=j) (by rw [List.length_map]; omega)
 simp (disch:=first|omega|exact zF rfl|exact zG rfl|exact fun h=>h|(simp only[zA,zB,zC,zD,bytesW];omega)) only[go_sem,c68S0,c68S3,c68S11,c68S13,r0,hjl,ev]
 have hg:Blk w5 g cur 9:=hg
 refine ⟨by omega,⟨_,(by have:=ev; rw [Addr.add_lit,Nat.zero_add] at this; exact this)⟩,hg.frozen j,?_⟩
 have q6:Pgr e P W0 (w5.setCell ⟨g,j,none⟩ (.string (ofL val))) F (.blk b #[.bool true,.slice ka l.length kc,.slice (some ⟨g,0,none⟩) l.length vc,.slice ca 0 cc] 119::.row (.slice ka l.length kc) 9 1 l.length ((l.map Prod.fst).flatMap strE)::.row (.slice (some ⟨g,0,none⟩) l.length vc) 9 1 l.length (((l.map Prod.snd).set j val).flatMap strE)::trB tb e i::L) I:=by
  obtain ⟨A,st,back⟩:=h5.lift
  rw [strs_set]
  exact back _ (_::_::_::_::_) _ (st.put 2 rfl j (.string (ofL val)))
 generalize w5.setCell ⟨g,j,none⟩ (.string (ofL val))=w6 at q6 ⊢
 have r0:=q6.rules 0 rfl
 simp (disch:=first|omega|exact zF rfl|exact zG rfl|exact fun h=>h|(simp only[zA,zB,zC,zD,bytesW];omega)) only[go_sem,c68S0,c68S2,c68S3,c68S11,c68S13,r0]
 obtain ⟨hb,_,_⟩:=hl
 have ek:(l.set j (key,val)).map Prod.fst=l.map Prod.fst:=by
  rw [List.map_set]
  refine List.ext_getElem? fun m=>?_
  rw [List.getElem?_set]
  split
  ·rename_i hc; subst hc; rw [List.length_map,if_pos hn,hfd]
  ·rfl
 have ev2:(l.set j (key,val)).map Prod.snd=(l.map Prod.snd).set j val:=List.map_set
 have hk:RdS w6 1 strE (.slice ka l.length kc) ((l.set j (key,val)).map Prod.fst):=by
  rw [ek]; exact RdS.of_own' (q6.row 1 rfl) (l.map Prod.fst) (by rw [List.length_map]) rfl
 have hv:RdS w6 1 strE (.slice (some ⟨g,0,none⟩) l.length vc) ((l.set j (key,val)).map Prod.snd):=by
  rw [ev2]; exact RdS.of_own' (q6.row 2 rfl) ((l.map Prod.snd).set j val) (by rw [List.length_set,List.length_map]) rfl
 refine Ret.mono (cut_ok (l:=l.set j (key,val)) (q6.sub (L':=trB tb e i::L) (.cons _ (.cons _ (.cons _ (List.Sublist.refl _))))) h3 ha hok hm hk hv (by rw [List.length_set]; omega) (fun x hx=>?_) hs) ?_
 ·rcases List.mem_or_eq_of_mem_set hx with hx | rfl
  ·exact hb x hx
  ·exact hkv
 rintro _ w12 ⟨rfl,h12⟩
 simp (disch:=first|omega|exact zF rfl|exact zG rfl|exact fun h=>h|(simp only[zA,zB,zC,zD,bytesW];omega)) only[go_sem,c68S0,c68S2,c68S3,c68S11,c68S13]
 exact h12
end
open Go Go.Ann Go.RowKit Go.WideShapes Go.Shelf
structure Tr(n:Nat)(P:List (List UInt8))(l:List (List UInt8 × List UInt8)):Prop where
 given:Given n P fun j=>decide (j<3)
 leaf:LeafAt P 2 l
 root:rootM P 0=2
 big:5≤n∧n≤400
section
variable {W0 w:World} {F:Nat→Prop} {L:List Res} {I:List Inv} {e:En} {P:List (List UInt8)} {tb n:Nat} {i:Int}
theorem filledL_app(s:List UInt8):∃ r,filledL s=s++r:=⟨_,rfl⟩
theorem tput_first(key val:List UInt8)(h:Pgr e P W0 w F (trB tb e 0::L) I)(hg:Given n P fun j=>decide (j<2))(hr:rootM P 0=0)(hn:5≤n∧n≤400)(hmx:3≤e.mx)(hk:key≠[]∧key.length≤32)(hv:val.length≤80) :
  Ret Tryz.prog 18 [.pointer (some ⟨tb,0,none⟩),.string (ofL key),.string (ofL val)] w fun u w'=>u=.int .i64 0∧∃ P',Pgr e P' W0 w' F (trB tb e 0::L) I∧Tr n P' [(key,val)]:=by
 have hlen:=hg.len
 refine ent18 _ _ _ _ _ ?_
 simp (disch:=first|omega|exact zF rfl|exact zG rfl|exact fun h=>h|(simp only[zA,zB,zC,zD,bytesW];omega)) only[go_sem,c18S3,c18S4,c18S11,c18S13,c18S14]
 refine Ret.mono (troot_ok h (by omega)) ?_
 rintro _ w2 ⟨rfl,h2⟩
 rw [hr]
 have hk0:=hk.1
 have hk1:¬ (32:Int)<key.length:=by omega
 have hv1:¬ (80:Int)<val.length:=by omega
 have r:=h2.rules 0 rfl
 simp (disch:=first|omega|exact zF rfl|exact zG rfl|exact fun h=>h|(simp only[zA,zB,zC,zD,bytesW];omega)) only[go_sem,c18S3,c18S11,c18S13,c18S15,hk0,hk1,hv1,r]
 obtain ⟨ea,hlow,hg2⟩:=hg.alloc (k:=2) (by omega) (by decide) (by omega) (by decide) (fun j h1 h2=>by omega)
 refine Ret.mono (palloc_ok h2 (by omega) (fun k hk=>by rw [hlow] at hk; cases hk; omega)) ?_
 rw [ea]
 rintro _ w3 ⟨rfl,h3⟩
 have h3:Pgr e (emptyP (markP P 2 true) 2) W0 w3 F (trB tb e 0::L) I:=h3
 have hr3:rootM (emptyP (markP P 2 true) 2) 0=rootM P 0:=by
  unfold rootM rootB emptyP markP
  rw [List.getD_eq_getElem?_getD,List.getElem?_set_ne (by decide),List.getElem?_set_ne (by decide),← List.getD_eq_getElem?_getD]
 generalize emptyP (markP P 2 true) 2=P3 at h3 hg2 hr3 ⊢
 have hg3:Given n P3 fun j=>decide (j<3):=hg2.ext fun j _=>by
  by_cases hj:j=2
  ·subst hj; rfl
  ·rw [if_neg hj]; congr 1; simp; omega
 have hl3:=hg3.len
 have hok:chkN P3 (2:Nat)=0:=by rw [hg3.chk (by decide) (by omega)]; rfl
 simp (disch:=first|omega|exact zF rfl|exact zG rfl|exact fun h=>h|(simp only[zA,zB,zC,zD,bytesW];omega)) only[go_sem,c18S3,c18S4,c18S11,c18S13,c18S15]
 refine bsW_ones ty22mkI rfl rfl (by decide) (by decide) (str_one' key) ?_
 simp (disch:=first|omega|exact zF rfl|exact zG rfl|exact fun h=>h|(simp only[zA,zB,zC,zD,bytesW];omega)) only[go_sem,c18S3,c18S4,c18S11,c18S13,c18S15]
 have hxr:RdS (w3.alloc (.cells #[.string (ofL key)] 9)) 1 strE (.slice (some ⟨w3.heap.size,0,none⟩) 1 1) [key]:=rd_new (n:=1) (cs:=#[.string (ofL key)]) rfl
 have h4:=h3.box #[.string (ofL key)] 9
 generalize w3.heap.size=kb at h4 hxr ⊢
 generalize w3.alloc (.cells #[.string (ofL key)] 9)=w4 at h4 hxr ⊢
 refine bsW_ones ty22mkI rfl rfl (by decide) (by decide) (str_one' val) ?_
 simp (disch:=first|omega|exact zF rfl|exact zG rfl|exact fun h=>h|(simp only[zA,zB,zC,zD,bytesW];omega)) only[go_sem,c18S3,c18S4,c18S11,c18S13,c18S15]
 have hyr:RdS (w4.alloc (.cells #[.string (ofL val)] 9)) 1 strE (.slice (some ⟨w4.heap.size,0,none⟩) 1 1) [val]:=rd_new (n:=1) (cs:=#[.string (ofL val)]) rfl
 have hxr2:=hxr.below ((Below.refl _ w4).alloc (Nat.le_refl _) (.cells #[.string (ofL val)] 9)) (by decide)
 have h5:=h4.box #[.string (ofL val)] 9
 generalize w4.heap.size=vb at h5 hyr ⊢
 generalize w4.alloc (.cells #[.string (ofL val)] 9)=w5 at h5 hyr hxr2 ⊢
 refine bdW_built (cells:=#[.bool true,.slice (some ⟨kb,0,none⟩) 1 1,.slice (some ⟨vb,0,none⟩) 1 1,.slice none 0 0]) (by kernel_rfl) ?_
 simp (disch:=first|omega|exact zF rfl|exact zG rfl|exact fun h=>h|(simp only[zA,zB,zC,zD,bytesW];omega)) only[go_sem,c18S4,c18S11,c18S13,c18S15]
 have hsz:(leafB [(key,val)]).length≤256:=by
  rw [leafB_len]
  simp [ksum]
  omega
 refine Ret.mono (lay_ok (a:=2) (l:=[(key,val)]) (h5.sub (L':=trB tb e 0::L) (.cons _ (.cons _ (List.Sublist.refl _)))) (by omega) (by decide) hok (by omega) hxr2 hyr (by simp) (fun x hx=>by rw [List.mem_singleton] at hx; subst hx; exact ⟨by simp only; omega,by simp only; omega⟩) hsz) ?_
 rintro _ w6 ⟨rfl,h6⟩
 simp (disch:=first|omega|exact zF rfl|exact zG rfl|exact fun h=>h|(simp only[zA,zB,zC,zD,bytesW];omega)) only[go_sem,c18S3,c18S4,c18S11,c18S13,c18S15]
 refine c18draw0 (Same (fun k=>k=tb) _) (Same.refl _ _) ?_
 have h7:=h6.drew
 generalize w6.drew=w7 at h7 ⊢
 have r:=h7.rules 0 rfl
 simp (disch:=first|omega|exact zF rfl|exact zG rfl|exact fun h=>h|(simp only[zA,zB,zC,zD,bytesW];omega)) only[go_sem,c18S3,c18S4,c18S11,c18S13,c18S15,c18D0,r]
 have hg7:Given n (P3.set 2 (filledL (leafB [(key,val)]))) fun j=>decide (j<3):=hg3.set (by decide) _
 have hok7:chkN (P3.set 2 (filledL (leafB [(key,val)]))) (2:Nat)=0:=by rw [hg7.chk (by decide) (by omega)]; rfl
 have hr7:=h7.root256 (by rw [List.length_set]; omega)
 have hl7:=hg7.len
 have hd7:(P3.set 2 (filledL (leafB [(key,val)]))).getD 2 []=filledL (leafB [(key,val)]):=by
  rw [List.getD_eq_getElem?_getD,List.getElem?_set_self (by omega)]; rfl
 generalize P3.set 2 (filledL (leafB [(key,val)]))=P7 at h7 hg7 hok7 hr7 hl7 hd7 ⊢
 refine ⟨Same.refl _ _,Ret.mono (psetRoot_ok 0 (2:Nat) h7 (by omega) ⟨by decide,by decide⟩ ⟨by decide,by decide⟩) ?_⟩
 rw [setRootN_in (by decide) hr7 (.inr hok7) (by decide)]
 rintro _ w8 ⟨rfl,h8⟩
 simp (disch:=first|omega|exact zF rfl|exact zG rfl|exact fun h=>h|(simp only[zA,zB,zC,zD,bytesW];omega)) only[go_sem,c18S3,c18S4,c18S11,c18S13,c18S15,c18D0]
 refine ⟨_,h8,hg7.set (by decide) _,⟨fun x hx=>by rw [List.mem_singleton] at hx; subst hx; exact ⟨by simp only; omega,by simp only; omega⟩,by simp,?_⟩,rootM_set (by decide) hr7 (by omega) (by decide),hn⟩
 obtain ⟨r2,e2⟩:=filledL_app (leafB [(key,val)])
 refine ⟨r2,?_⟩
 rw [List.getD_eq_getElem?_getD,List.getElem?_set_ne (by decide),← List.getD_eq_getElem?_getD,hd7,e2]
theorem tput_more{l l':List (List UInt8 × List UInt8)}(key val:List UInt8)(h:Pgr e P W0 w F (trB tb e 0::L) I)(t:Tr n P l)(hk:key≠[]∧key.length≤32)(hv:val.length≤80)(hl':(∀ x∈l',x.1.length≤255∧x.2.length≤255)∧l'.length≤255)
  (hput:∀ w2,Pgr e P W0 w2 F (trB tb e 0::L) I→Ret Tryz.prog 68 [.pointer (some ⟨tb,0,none⟩),.int .i64 (2:Nat),.int .i64 32,.string (ofL key),.string (ofL val)] w2 fun u w'=>u=.tuple #[.string (ofL []),.int .i64 0,.int .i64 0]∧Pgr e (P.set 2 (filledL (leafB l'))) W0 w' F (trB tb e 0::L) I) :
  Ret Tryz.prog 18 [.pointer (some ⟨tb,0,none⟩),.string (ofL key),.string (ofL val)] w fun u w'=>u=.int .i64 0∧∃ P',Pgr e P' W0 w' F (trB tb e 0::L) I∧Tr n P' l':=by
 have hlen:=t.given.len
 have hn:=t.big
 have hok:chkN P (2:Nat)=0:=by rw [t.given.chk (by decide) (by omega)]; rfl
 have hrm:roomN P=n - 3:=by
  rw [t.given.room]
  congr 1
  have e1:=count_given (n:=n) (l:=[2]) (by omega) (fun a ha=>by rw [List.mem_singleton] at ha; subst ha; omega) (List.pairwise_singleton _ _)
  have e2:(List.range n).filter (fun j=>decide (j<3))=(List.range n).filter fun j=>decide (j<2∨j∈[2]):=List.filter_congr fun j _=>by
   congr 1
   simp only [List.mem_singleton,eq_iff_iff]
   omega
  rw [e2,e1]; rfl
 refine ent18 _ _ _ _ _ ?_
 simp (disch:=first|omega|exact zF rfl|exact zG rfl|exact fun h=>h|(simp only[zA,zB,zC,zD,bytesW];omega)) only[go_sem,c18S3,c18S4,c18S11,c18S13,c18S14]
 refine Ret.mono (troot_ok h (by omega)) ?_
 rintro _ w2 ⟨rfl,h2⟩
 rw [t.root]
 have hk0:=hk.1
 have hk1:¬ (32:Int)<key.length:=by omega
 have hv1:¬ (80:Int)<val.length:=by omega
 simp (disch:=first|omega|exact zF rfl|exact zG rfl|exact fun h=>h|(simp only[zA,zB,zC,zD,bytesW];omega)) only[go_sem,c18S3,c18S4,c18S11,c18S14,c18S15,hk0,hk1,hv1]
 have hf:=h2.full (P.getD 2 []) (by rw [List.getD_eq_getElem?_getD,List.getElem?_eq_getElem (by omega)]; exact List.getElem_mem _)
 refine Ret.mono (room_ok (a:=2) h2 (by omega) (by omega) (by decide) hok t.leaf (by omega) (by omega) (by omega)) ?_
 rintro _ w3 ⟨rfl,h3⟩
 simp (disch:=first|omega|exact zF rfl|exact zG rfl|exact fun h=>h|(simp only[zA,zB,zC,zD,bytesW];omega)) only[go_sem,c18S3,c18S4,c18S13,c18S14,c18S15]
 refine Ret.mono (hput w3 h3) ?_
 rintro _ w4 ⟨rfl,h4⟩
 simp (disch:=first|omega|exact zF rfl|exact zG rfl|exact fun h=>h|(simp only[zA,zB,zC,zD,bytesW];omega)) only[go_sem,c18S3,c18S4,c18S11,c18S13,c18S14,c18S15]
 refine ⟨_,h4,t.given.set (by decide) _,⟨hl'.1,hl'.2,?_⟩,?_,hn⟩
 ·obtain ⟨r2,e2⟩:=filledL_app (leafB l')
  refine ⟨r2,?_⟩
  rw [List.getD_eq_getElem?_getD,List.getElem?_set_self (by omega),Option.getD_some,e2]
 ·refine Eq.trans ?_ t.root
  unfold rootM rootB
  rw [List.getD_eq_getElem?_getD,List.getElem?_set_ne (by decide),← List.getD_eq_getElem?_getD]
end
open Go Go.Ann Go.RowKit Go.WideShapes Go.Shelf
def fromK(key:List UInt8)(l:List (List UInt8 × List UInt8)):List (List UInt8 × List UInt8):=l.filter fun x=>!Op.bytesLess x.1 key
theorem fromK_nil(l:List (List UInt8 × List UInt8)):fromK [] l=l:=by
 unfold fromK
 refine List.filter_eq_self.2 fun x _=>?_
 cases x.1 <;> rfl
theorem recs_from{σ:Type}(f:σ→Rec→Bool × σ)(key:Txt):∀ (l:List Rec) (s:σ),recsGo f key l s=foldGo f (fromK key l) s
 | [],_=>rfl
 | x::r,s=>by
  rw [recsGo]
  unfold fromK
  rw [List.filter_cons]
  cases h:Op.bytesLess x.1 key with
  | true=>rw [if_pos rfl]; exact recs_from f key r s
  | false =>
   rw [if_neg (by decide)]
   simp only [Bool.not_false,if_true,foldGo]
   split
   ·exact recs_from f key r _
   ·rfl
theorem fold_take{most:Nat}:∀ (l pre:List Rec),pre.length<most→(foldGo (takeF most) l pre).2=(pre++l).take most
 | [],pre,h=>by rw [foldGo,List.append_nil,List.take_of_length_le (by omega)]
 | x::r,pre,h=>by
  have e:pre++x::r=pre++[x]++r:=by simp
  rw [foldGo,e]
  by_cases hc:pre.length+1<most
  ·rw [if_pos (show (takeF most pre x).1=true from decide_eq_true hc)]
   exact fold_take r (pre++[x]) (by rw [List.length_append,List.length_singleton]; exact hc)
  ·rw [if_neg (by show ¬ (decide _=true); simpa using Nat.le_of_not_lt hc)]
   have hl:(pre++[x]).length=most:=by rw [List.length_append,List.length_singleton]; omega
   show pre++[x]=_
   rw [← hl,List.take_left]
theorem fold_cnt:∀ (l:List Rec) (n:Nat),(foldGo cntF l n).2=n+l.length
 | [],n=>rfl
 | x::r,n=>by
  show (foldGo cntF r (n+1)).2=_
  rw [fold_cnt r,List.length_cons]
  omega
theorem zip_own(l:List Rec):(l.map Prod.fst).zip (l.map Prod.snd)=l:=by
 induction l with
 | nil=>rfl
 | cons x l ih=>rw [List.map_cons,List.map_cons,List.zip_cons_cons,ih]
section
variable {W0 w:World} {F:Nat→Prop} {L:List Res} {I:List Inv} {e:En} {P:List (List UInt8)} {tb n:Nat} {i:Int}
theorem leaf_from{l:List Rec}{σ:Type}(f:σ→Rec→Bool × σ)(key:Txt)(s:σ)(t:Tr n P l):fromP P f key s=(foldGo f (fromK key l) s).2:=by
 have hn:=t.big
 have hok:chkN P (2:Nat)=0:=by rw [t.given.chk (by decide) (by omega)]; rfl
 obtain ⟨h1,h2,r,h3⟩:=t.leaf
 unfold fromP
 rw [t.root,if_neg (by decide),walkP]
 have e:ndP P 2=some ⟨true,l.map Prod.fst,l.map Prod.snd,[]⟩:=by
  unfold ndP
  rw [if_pos hok,h3,parseP_own r h2 h1]
 rw [e]
 simp only
 rw [if_neg (by decide),if_pos trivial,zip_own,recs_from]
theorem leaf_take{l:List Rec}{most:Nat}(key:Txt)(t:Tr n P l)(h:l.length≤most)(h0:0<most):fromP P (takeF most) key []=fromK key l:=by
 rw [leaf_from _ key [] t,fold_take _ _ h0,List.nil_append,List.take_of_length_le (show (fromK key l).length≤most from Nat.le_trans (List.length_filter_le _ _) h)]
theorem leaf_cnt{l:List Rec}(t:Tr n P l):fromP P cntF [] 0=l.length:=by
 rw [leaf_from _ [] 0 t,fold_cnt,fromK_nil,Nat.zero_add]
theorem same_ok{u v:Value}{l:List (List UInt8 × List UInt8)}(w:World)(h:RdS w 2 prE u l)(h':RdS w 2 prE v l)(hl:l.length≤100000) :
  Ret Tryz.prog 74 [u,v] w fun u w'=>u=.bool true∧Below w.heap.size w w':=by
 obtain ⟨ua,uc,rfl,_⟩:=h.form
 obtain ⟨va,vc,rfl,_⟩:=h'.form
 refine ent74 _ _ _ _ ?_
 simp (disch:=first|omega|exact zF rfl|exact zG rfl|exact fun h=>h|(simp only[zA,zB,zC,zD,bytesW];omega)) only[go_sem]
 refine W_loopU (fun k:Nat=>[(5,.int .i64 k)]) (fun k w'=>k≤l.length∧Below w.heap.size w w') (fun k=>l.length - k) 0 rfl ⟨Nat.zero_le _,Below.refl _ _⟩ ?_
 rintro k w2 ⟨hk,b2⟩
 by_cases hlt:k<l.length
 case neg =>
  have hlt':¬ (k:Int)<l.length:=by omega
  simp (disch:=first|omega|exact zF rfl|exact zG rfl|exact fun h=>h|(simp only[zA,zB,zC,zD,bytesW];omega)) only[go_sem,c74L0,c74L0,hlt']
  exact b2
 have hlt':(k:Int)<l.length:=by omega
 obtain ⟨p,rfl⟩:=h.ptr (by omega)
 obtain ⟨q,rfl⟩:=h'.ptr (by omega)
 simp (disch:=first|omega|exact zF rfl|exact zG rfl|exact fun h=>h|(simp only[zA,zB,zC,zD,bytesW];omega)) only[go_sem,c74L0,c74L0,hlt']
 refine c74draw0 ?_
 have b3:=b2.drew
 generalize w2.drew=w3 at b3 ⊢
 have e1:=(h.below b3 (by decide)).at (fun _=>rfl) hlt
 have e2:=(h'.below b3 (by decide)).at (fun _=>rfl) hlt
 have hlen:(prE l[k]).length=2:=rfl
 generalize l[k]=x at *
 have e3:aggEq [FK.str,FK.str] (prE x) (prE x)=some true:=by simp [aggEq,prE,vEq,andO]
 simp (disch:=first|omega|exact zF rfl|exact zG rfl|exact fun h=>h|(simp only[zA,zB,zC,zD,bytesW];omega)) only[go_sem,c74L0,c74D0,e1,e2,hlt',e3]
 exact ⟨by omega,by omega,⟨by omega,by omega⟩,k+1,rfl,⟨hlt,b3⟩,by omega⟩
end
open Go Go.Ann Go.RowKit Go.WideShapes Go.Shelf
theorem place_a:PlaceK [[98]] [97] 0:=by
 intro j hj h1 h2
 match j,hj with
 | 0,_=>rfl
 | 1,_=>exact absurd (h1 [98] (by decide) rfl) (by decide)
theorem place_b:PlaceK [[97],[98]] [98] 1:=by
 intro j hj h1 h2
 match j,hj with
 | 0,_=>exact absurd (h2 [97] rfl) (by decide)
 | 1,_=>rfl
 | 2,_=>exact absurd (h1 [98] (by decide) rfl) (by decide)
theorem tawake_ok(w:World):Ret Tryz.prog 24 [] w fun u w'=>u=.bool true∧Below w.heap.size w w':=by
 refine ent24 _ _ ?_
 simp (disch:=first|omega|exact zF rfl|exact zG rfl|exact fun h=>h|(simp only[zA,zB,zC,zD,bytesW];omega)) only[go_sem]
 refine Ret.mono (begun08_ok (n:=40) 40 (St.start (W0:=w)) (by decide) (by decide) (by decide)) ?_
 rintro _ w2 ⟨e,rfl,_,_,hmx,h2⟩
 have hg2:=fmt_given (P:=List.replicate 40 zeroB) (n:=40) List.length_replicate (by decide) (by decide)
 have hp2:=hpN_start (mx:=40) (n:=40) (i:=0) (by decide) (by decide) (by decide) (by decide)
 have hr2:rootM (fmtP (List.replicate 40 zeroB)) 0=0:=hp2.root
 generalize fmtP (List.replicate 40 zeroB)=P2 at h2 hg2 hr2
 clear hp2
 have hl2:=hg2.len
 simp (disch:=first|omega|exact zF rfl|exact zG rfl|exact fun h=>h|(simp only[zA,zB,zC,zD,bytesW];omega)) only[go_sem]
 refine Ret.mono (topened_ok h2 (by omega) (by decide)) ?_
 rintro _ w3 ⟨tb,rfl,h3⟩
 simp (disch:=first|omega|exact zF rfl|exact zG rfl|exact fun h=>h|(simp only[zA,zB,zC,zD,bytesW];omega)) only[go_sem]
 refine Ret.mono (tput_first [98] [49] h3 hg2 hr2 (by decide) (by omega) (by decide) (by decide)) ?_
 rintro _ w4 ⟨rfl,P4,h4,t4⟩
 have hl4:=t4.given.len
 have hok4:chkN P4 (2:Nat)=0:=by rw [t4.given.chk (by decide) (by decide)]; rfl
 have hf4:=h4.full (P4.getD 2 []) (by rw [List.getD_eq_getElem?_getD,List.getElem?_eq_getElem (by omega)]; exact List.getElem_mem _)
 simp (disch:=first|omega|exact zF rfl|exact zG rfl|exact fun h=>h|(simp only[zA,zB,zC,zD,bytesW];omega)) only[go_sem]
 refine Ret.mono (tput_more (l':=[([97],[50]),([98],[49])]) [97] [50] h4 t4 (by decide) (by decide) (by decide) fun wz hz=>put_new [97] [50] hz (by omega) (by decide) hok4 (by omega) t4.leaf (by omega) place_a (by decide) (by decide) (by decide) (by decide)) ?_
 rintro _ w5 ⟨rfl,P5,h5,t5⟩
 have hl5:=t5.given.len
 have hok5:chkN P5 (2:Nat)=0:=by rw [t5.given.chk (by decide) (by decide)]; rfl
 have hf5:=h5.full (P5.getD 2 []) (by rw [List.getD_eq_getElem?_getD,List.getElem?_eq_getElem (by omega)]; exact List.getElem_mem _)
 simp (disch:=first|omega|exact zF rfl|exact zG rfl|exact fun h=>h|(simp only[zA,zB,zC,zD,bytesW];omega)) only[go_sem]
 refine Ret.mono (tput_more (l':=[([97],[50]),([98],[51])]) [98] [51] h5 t5 (by decide) (by decide) (by decide) fun wz hz=>put_old (n:=1) [98] [51] hz (by omega) (by decide) hok5 (by omega) t5.leaf (by omega) place_b (by decide) rfl (by decide) (by decide) (by decide)) ?_
 rintro _ w6 ⟨rfl,P6,h6,t6⟩
 simp (disch:=first|omega|exact zF rfl|exact zG rfl|exact fun h=>h|(simp only[zA,zB,zC,zD,bytesW];omega)) only[go_sem]
 obtain ⟨l6,hl6⟩:∃ l,l=[(([97]:List UInt8),([50]:List UInt8)),([98],[51])]:=⟨_,rfl⟩
 rw [← hl6] at t6
 have hl6':=t6.given.len
 have hl6n:=t6.big
 refine Ret.mono (all_ok h6 (by omega)) ?_
 rw [leaf_take [] t6 (by rw [hl6]; decide) (by decide),fromK_nil]
 rintro ua w7 h7
 obtain ⟨va,vc,rfl,_⟩:=own_slice (h7.row 0 rfl)
 simp (disch:=first|omega|exact zF rfl|exact zG rfl|exact fun h=>h|(simp only[zA,zB,zC,zD,bytesW];omega)) only[go_sem]
 refine bdW_built (cells:=(prE ([97],[50])).toArray) (by kernel_rfl) ?_
 simp (disch:=first|omega|exact zF rfl|exact zG rfl|exact fun h=>h|(simp only[zA,zB,zC,zD,bytesW];omega)) only[go_sem]
 refine bdW_built (cells:=(prE ([98],[51])).toArray) (by kernel_rfl) ?_
 simp (disch:=first|omega|exact zF rfl|exact zG rfl|exact fun h=>h|(simp only[zA,zB,zC,zD,bytesW];omega)) only[go_sem]
 refine bsW_cells (cells:=([(([97]:List UInt8),([50]:List UInt8)),([98],[51])].flatMap prE).toArray) ty46mkI (by decide) (by decide) (by kernel_rfl) ?_
 rw [← hl6]
 have h8:=h7.box (l6.flatMap prE).toArray 53
 have hr8:RdS (w7.alloc (.cells (l6.flatMap prE).toArray 53)) 2 prE (.slice (some ⟨w7.heap.size,0,none⟩) 2 2) l6:=by
  rw [hl6]; exact rd_new (n:=2) (cs:=([(([97]:List UInt8),([50]:List UInt8)),([98],[51])].flatMap prE).toArray) rfl
 generalize w7.heap.size=b8 at h8 hr8 ⊢
 generalize w7.alloc (.cells (l6.flatMap prE).toArray 53)=w8 at h8 hr8 ⊢
 have hra:RdS w8 2 prE (.slice va l6.length vc) l6:=RdS.of_own' (h8.row 1 rfl) l6 rfl rfl
 simp (disch:=first|omega|exact zF rfl|exact zG rfl|exact fun h=>h|(simp only[zA,zB,zC,zD,bytesW];omega)) only[go_sem]
 refine Ret.mono (same_ok w8 hra hr8 (by rw [hl6]; decide)) ?_
 rintro _ w9 ⟨rfl,b9⟩
 have h9:=(h8.below b9).sub (L':=[trB tb e 0]) (.cons _ (.cons _ (List.Sublist.refl _)))
 simp (disch:=first|omega|exact zF rfl|exact zG rfl|exact fun h=>h|(simp only[zA,zB,zC,zD,bytesW];omega)) only[go_sem]
 refine Ret.mono (some_ok [97,97] 9 h9 (by omega) (by decide)) ?_
 rw [leaf_take [97,97] t6 (by rw [hl6]; decide) (by decide)]
 have ef:fromK [97,97] l6=[(([98]:List UInt8),([51]:List UInt8))]:=by rw [hl6]; decide
 rw [ef]
 rintro ub w10 h10
 obtain ⟨va2,vc2,rfl,_⟩:=own_slice (h10.row 0 rfl)
 simp (disch:=first|omega|exact zF rfl|exact zG rfl|exact fun h=>h|(simp only[zA,zB,zC,zD,bytesW];omega)) only[go_sem]
 obtain ⟨lm,hlm⟩:∃ l,l=[(([98]:List UInt8),([51]:List UInt8))]:=⟨_,rfl⟩
 have elm:lm.length=1:=by rw [hlm]; rfl
 have h10:Pgr e P6 w w10 (fun _=>False) [.row (.slice va2 lm.length vc2) 53 2 lm.length (lm.flatMap prE),trB tb e 0] []:=by rw [hlm]; exact h10
 refine bdW_built (cells:=(prE ([98],[51])).toArray) (by kernel_rfl) ?_
 simp (disch:=first|omega|exact zF rfl|exact zG rfl|exact fun h=>h|(simp only[zA,zB,zC,zD,bytesW];omega)) only[go_sem]
 refine bsW_cells (cells:=(lm.flatMap prE).toArray) ty46mkI (by decide) (by decide) (by rw [hlm]; kernel_rfl) ?_
 have h11:=h10.box (lm.flatMap prE).toArray 53
 have hr11:RdS (w10.alloc (.cells (lm.flatMap prE).toArray 53)) 2 prE (.slice (some ⟨w10.heap.size,0,none⟩) 1 1) lm:=by
  rw [hlm]; exact rd_new (n:=1) (cs:=([(([98]:List UInt8),([51]:List UInt8))].flatMap prE).toArray) rfl
 generalize w10.heap.size=b11 at h11 hr11 ⊢
 generalize w10.alloc (.cells (lm.flatMap prE).toArray 53)=w11 at h11 hr11 ⊢
 have hra:RdS w11 2 prE (.slice va2 lm.length vc2) lm:=RdS.of_own' (h11.row 1 rfl) lm rfl rfl
 rw [elm] at hra
 simp (disch:=first|omega|exact zF rfl|exact zG rfl|exact fun h=>h|(simp only[zA,zB,zC,zD,bytesW];omega)) only[go_sem]
 refine Ret.mono (same_ok w11 hra hr11 (by omega)) ?_
 rintro _ w12 ⟨rfl,b12⟩
 have h12:=(h11.below b12).sub (L':=[trB tb e 0]) (.cons _ (.cons _ (List.Sublist.refl _)))
 simp (disch:=first|omega|exact zF rfl|exact zG rfl|exact fun h=>h|(simp only[zA,zB,zC,zD,bytesW];omega)) only[go_sem]
 have e2:l6.length=2:=by rw [hl6]; rfl
 refine Ret.mono (tcount_ok h12 (by omega)) ?_
 rw [leaf_cnt t6]
 rintro _ w13 ⟨rfl,h13⟩
 rw [e2]
 simp (disch:=first|omega|exact zF rfl|exact zG rfl|exact fun h=>h|(simp only[zA,zB,zC,zD,bytesW];omega)) only[go_sem]
 exact ⟨by decide,h13.bel⟩
open Go Go.Ann Go.RowKit Go.WideShapes Go.Shelf
theorem btreeNobody_ok(kind:Int)(key val:List UInt8)(w:World) :
  Ret Tryz.prog 5 [.agg #[.int .i64 kind,.string (ofL key),.string (ofL val)]] w fun u w'=>u=.bool true∧Below w.heap.size w w':=by
 refine ent5 _ _ _ ?_
 simp (disch:=first|omega|exact zF rfl|exact zG rfl|exact fun h=>h|(simp only[zA,zB,zC,zD,bytesW];omega)) only[go_sem,c5S0,c5S1]
 have s1:=(St.start (W0:=w)).box #[.int .i64 kind,.string (ofL key),.string (ofL val)] 40
 obtain ⟨b,hbb⟩:∃ b,b=w.heap.size:=⟨_,rfl⟩
 rw [← hbb] at s1 ⊢
 generalize w.alloc (.cells #[.int .i64 kind,.string (ofL key),.string (ofL val)] 40)=w1 at s1 ⊢
 refine bdW_built (cells:=#[.pointer none,.int .i64 0]) (by kernel_rfl) ?_
 simp (disch:=first|omega|exact zF rfl|exact zG rfl|exact fun h=>h|(simp only[zA,zB,zC,zD,bytesW];omega)) only[go_sem,c5S0,c5S1]
 have s2:=s1.box #[.pointer none,.int .i64 0] 56
 generalize w1.heap.size=tb at s2 ⊢
 generalize w1.alloc (.cells #[.pointer none,.int .i64 0] 56)=w2 at s2 ⊢
 refine bsW_ones ty57mkI rfl rfl (by decide) (by decide) (by intro v hv; simp only [List.mem_cons,List.not_mem_nil,or_false] at hv; rcases hv with rfl | rfl <;> rfl) ?_
 simp (disch:=first|omega|exact zF rfl|exact zG rfl|exact fun h=>h|(simp only[zA,zB,zC,zD,bytesW];omega)) only[go_sem,c5S0,c5S1]
 have s3:=s2.box #[.pointer none,.pointer (some ⟨tb,0,none⟩)] 37
 generalize w2.heap.size=sb at s3 ⊢
 generalize w2.alloc (.cells #[.pointer none,.pointer (some ⟨tb,0,none⟩)] 37)=w3 at s3 ⊢
 refine W_loopU (fun k:Nat=>[(17,.int .i64 k)]) (fun k w'=>k≤2∧St w w' (fun _=>False) [.blk sb #[.pointer none,.pointer (some ⟨tb,0,none⟩)] 37,.blk tb #[.pointer none,.int .i64 0] 56,.blk b #[.int .i64 kind,.string (ofL key),.string (ofL val)] 40] []) (fun k=>2 - k) 0 rfl ⟨by decide,s3⟩ ?_
 rintro k w4 ⟨hk,s4⟩
 by_cases hlt:k<2
 case neg =>
  have hlt':¬ (k:Int)<2:=by omega
  simp (disch:=first|omega|exact zF rfl|exact zG rfl|exact fun h=>h|(simp only[zA,zB,zC,zD,bytesW];omega)) only[go_sem,c5S0,c5S1,c5L0,c5S8,c5L0,hlt']
  refine Ret.mono (noopen_ok 0 w4) ?_
  rintro _ w5 ⟨rfl,rfl⟩
  have b5:=s4.bel
  simp (disch:=first|omega|exact zF rfl|exact zG rfl|exact fun h=>h|(simp only[zA,zB,zC,zD,bytesW];omega)) only[go_sem,c5S0,c5S1,c5L0,c5S8]
  refine Ret.mono (begun08_ok (n:=20) 20 (St.start (W0:=w5)) (by decide) (by decide) (by decide)) ?_
  rintro _ w6 ⟨e,rfl,_,_,hmx,h6⟩
  have hg6:=fmt_given (P:=List.replicate 20 zeroB) (n:=20) List.length_replicate (by decide) (by decide)
  have hl6:=hg6.len
  generalize fmtP (List.replicate 20 zeroB)=P6 at h6 hl6
  clear hg6
  simp (disch:=first|omega|exact zF rfl|exact zG rfl|exact fun h=>h|(simp only[zA,zB,zC,zD,bytesW];omega)) only[go_sem,c5S0,c5S1,c5L0,c5S8]
  refine Ret.mono (open16_ok h6 (by omega)) ?_
  rintro _ w7 ⟨rfl,h7⟩
  have b7:=Below.next b5 h7.bel
  simp (disch:=first|omega|exact zF rfl|exact zG rfl|exact fun h=>h|(simp only[zA,zB,zC,zD,bytesW];omega)) only[go_sem,c5S0,c5S1,c5L0,c5S8]
  refine Ret.mono (tawake_ok w7) ?_
  rintro _ w8 ⟨rfl,b8⟩
  simp (disch:=first|omega|exact zF rfl|exact zG rfl|exact fun h=>h|(simp only[zA,zB,zC,zD,bytesW];omega)) only[go_sem,c5S0,c5S1,c5L0,c5S8]
  exact hbb ▸ Below.next b7 b8
 have hlt':(k:Int)<2:=by omega
 have rs:=s4.rules 0 rfl
 obtain ⟨p,ht,hnt⟩:∃ p:Option Addr,(#[.pointer none,.pointer (some ⟨tb,0,none⟩)]:Array Value)[k]?=some (.pointer p)∧NoT w4 (.pointer p):=by
  match k,hlt with
  | 0,_=>exact ⟨_,rfl,.inl rfl⟩
  | 1,_=>exact ⟨_,rfl,.inr ⟨tb,rfl,s4.blk 1 rfl⟩⟩
 have et:w4.cell? ⟨sb,k,none⟩=some (.pointer p):=by rw [rs.1 k,ht]
 have ra:=s4.rules 2 rfl
 simp (disch:=first|omega|exact zF rfl|exact zG rfl|exact fun h=>h|(simp only[zA,zB,zC,zD,bytesW];omega)) only[go_sem,c5S0,c5L0,c5L0,hlt',et,ra]
 refine ⟨by omega,Ret.mono (noget_ok key w4 hnt) ?_⟩
 rintro _ w5 ⟨rfl,rfl⟩
 simp (disch:=first|omega|exact zF rfl|exact zG rfl|exact fun h=>h|(simp only[zA,zB,zC,zD,bytesW];omega)) only[go_sem,c5S1,c5L0,ra]
 refine Ret.mono (noput_ok key val w5 hnt) ?_
 rintro _ w6 ⟨rfl,rfl⟩
 simp (disch:=first|omega|exact zF rfl|exact zG rfl|exact fun h=>h|(simp only[zA,zB,zC,zD,bytesW];omega)) only[go_sem,c5S1,c5L0,ra]
 refine Ret.mono (nodel_ok key w6 hnt) ?_
 rintro _ w7 ⟨rfl,rfl⟩
 simp (disch:=first|omega|exact zF rfl|exact zG rfl|exact fun h=>h|(simp only[zA,zB,zC,zD,bytesW];omega)) only[go_sem,c5S1,c5L0,ra]
 refine Ret.mono (nocount_ok w7 hnt) ?_
 rintro _ w8 ⟨rfl,b8⟩
 have s8:=s4.call b8
 have hn8:=hnt.below b8
 simp (disch:=first|omega|exact zF rfl|exact zG rfl|exact fun h=>h|(simp only[zA,zB,zC,zD,bytesW];omega)) only[go_sem,c5S1,c5L0]
 refine Ret.mono (noall_ok w8 hn8) ?_
 rintro _ w9 ⟨rfl,b9⟩
 have s9:=s8.call b9
 have hn9:=hn8.below b9
 have ra:=s9.rules 2 rfl
 simp (disch:=first|omega|exact zF rfl|exact zG rfl|exact fun h=>h|(simp only[zA,zB,zC,zD,bytesW];omega)) only[go_sem,c5S1,c5L0,ra]
 refine Ret.mono (nosome_ok key w9 hn9) ?_
 rintro _ w10 ⟨rfl,b10⟩
 have s10:=s9.call b10
 simp (disch:=first|omega|exact zF rfl|exact zG rfl|exact fun h=>h|(simp only[zA,zB,zC,zD,bytesW];omega)) only[go_sem,c5S0,c5S1,c5L0]
 exact ⟨⟨by omega,by omega⟩,k+1,rfl,⟨by omega,s10⟩,by omega⟩
open Go Go.Ann Go.RowKit Go.WideShapes Go.Shelf
structure BActT where
 Kind:Int
 Key:List UInt8
 Val:List UInt8
deriving DecidableEq
def BActT.enc(a:BActT):List Value:=[.int .i64 a.Kind,.string (ofL a.Key),.string (ofL a.Val)]
def BActT.wf(a:BActT):Prop:=kOk .i64 a.Kind∧(a.Key.length:Int)≤9223372036854775807∧(a.Val.length:Int)≤9223372036854775807
theorem BActT.len(a:BActT):a.enc.length=3:=rfl
theorem BActT.at(a:BActT):a.enc[0]?=some (.int .i64 a.Kind)∧a.enc[1]?=some (.string (ofL a.Key))∧a.enc[2]?=some (.string (ofL a.Val)):=⟨rfl,rfl,rfl⟩
theorem opens_BActT:Opens Tryz.prog 40 (fun _ (a:BActT) cs=>cs=a.enc∧a.wf):=by
 intro H enc w base sp hd fuel cs x hx
 obtain ⟨hl,hf⟩:=opens_fields Tryz.underlying40 hx
 rw [show Tryz.prog.cellsOf 40=3 by kernel_rfl] at hl
 have c_0:Tryz.prog.cellsOf 3=1:=by kernel_rfl
 have c_1:Tryz.prog.cellsOf 9=1:=by kernel_rfl
 match cs,hl with
 | [v0,v1,v2],_ =>
  obtain ⟨n0,y0,g0⟩:=hf 0 _ rfl
  have h0:DataW.trod enc Tryz.prog w base sp hd n0 3 (List.take (Tryz.prog.cellsOf 3) [v0,v1,v2])=some y0:=g0
  rw [c_0] at h0
  obtain ⟨a0,e0⟩:=opens_int Tryz.underlying3 enc w base sp hd n0 [v0] y0 h0
  have r0:v0=_:=(List.cons.inj e0.1).1
  obtain ⟨n1,y1,g1⟩:=hf 1 _ rfl
  have h1:DataW.trod enc Tryz.prog w base sp hd n1 9 (List.take (Tryz.prog.cellsOf 9) [v1,v2])=some y1:=g1
  rw [c_1] at h1
  obtain ⟨a1,e1⟩:=opens_str Tryz.underlying9 enc w base sp hd n1 [v1] y1 h1
  have r1:v1=_:=(List.cons.inj e1.1).1
  obtain ⟨n2,y2,g2⟩:=hf 2 _ rfl
  have h2:DataW.trod enc Tryz.prog w base sp hd n2 9 (List.take (Tryz.prog.cellsOf 9) [v2])=some y2:=g2
  rw [c_1] at h2
  obtain ⟨a2,e2⟩:=opens_str Tryz.underlying9 enc w base sp hd n2 [v2] y2 h2
  have r2:v2=_:=(List.cons.inj e2.1).1
  exact ⟨⟨a0,a1,a2⟩,by rw [r0,r1,r2]; rfl,e0.2,e1.2,e2.2⟩
theorem btreeNobody_law{H:Type}{enc:TypeId × Value→H}{w:World}{r:Reach}{b base:Nat}{sp:Nat→Bool}{hd:Bool}{v:Value}{d:DataW H}{p:List MemPlace}
  (h:Value.okWide Tryz.prog w r b 40 v) (k:DataW.Trod enc Tryz.prog w base sp hd 40 v d p) :
  Ret Tryz.prog 5 [v] w fun u w'=>u=.bool true∧Below w.heap.size w w':=by
 obtain ⟨a,cs,rfl,rfl,q⟩:=Opens.struct_arg opens_BActT Tryz.underlying40 h k
 exact btreeNobody_ok a.Kind a.Key a.Val w
end Go.Proofs.YtkmjkmjpejmlnaaGreat

end
