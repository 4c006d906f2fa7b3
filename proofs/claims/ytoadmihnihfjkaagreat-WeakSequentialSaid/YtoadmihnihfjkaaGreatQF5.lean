/- Texts put together by program. -/
import Derived.Test.YtoadmihnihfjkaaGreatQF4
set_option linter.unusedSimpArgs false
set_option linter.unusedVariables false
set_option maxRecDepth 100000
noncomputable section

namespace Go.Proofs.YtoadmihnihfjkaaGreat.Cut
open Go Go.Ann Go.RowKit
def leq(a b:OpT):Bool:=decide (a.Invoke<b.Invoke∨a.Invoke=b.Invoke∧a.ID≤b.ID)
theorem leq_ear(a b:OpT):leq a b=true↔¬ earI b a<0:=by
 unfold leq
 rw [ear_neg,decide_eq_true_eq]
 omega
theorem sorts_ins{r:List OpT}{o:OpT}{n:Nat}(hs:r.Pairwise fun a b=>¬ earI b a<0)(h1:∀ j,(h:j<r.length)→j<n→leq r[j] o=true)(h2:(h:n<r.length)→leq r[n] o=false):(r.take n++[o]++r.drop n).Pairwise fun a b=>¬ earI b a<0:=by
 have tr:∀ x y z:OpT,¬ earI y x<0→¬ earI z y<0→¬ earI z x<0:=fun x y z a b=>by rw [ear_neg] at *; omega
 rw [List.append_assoc,List.pairwise_append]
 have hpre:∀ a∈r.take n,leq a o=true:=fun a ha=>by
  obtain ⟨j,hj,rfl⟩:=List.mem_iff_getElem.1 ha
  rw [List.length_take] at hj
  rw [List.getElem_take]
  exact h1 j (by omega) (by omega)
 have hpost:∀ b∈r.drop n,¬ earI b o<0:=fun b hb=>by
  obtain ⟨j,hj,rfl⟩:=List.mem_iff_getElem.1 hb
  rw [List.length_drop] at hj
  rw [List.getElem_drop]
  have e:=h2 (by omega)
  have e':¬ leq r[n] o=true:=by rw [e]; decide
  rw [leq_ear] at e'
  have e2:¬ earI r[n] o<0:=by rw [ear_neg] at *; omega
  rcases Nat.eq_zero_or_pos j with rfl | hj0
  ·exact e2
  ·exact tr _ _ _ e2 (List.pairwise_iff_getElem.1 hs n (n+j) (by omega) (by omega) (by omega))
 refine ⟨hs.sublist (List.take_sublist _ _),?_,fun a ha b hb=>?_⟩
 ·rw [List.singleton_append,List.pairwise_cons]
  exact ⟨hpost,hs.sublist (List.drop_sublist _ _)⟩
 ·have ha':=(leq_ear _ _).1 (hpre a ha)
  rcases List.mem_append.1 hb with hb | hb
  ·simp only [List.mem_singleton] at hb; subst hb; exact ha'
  ·exact tr _ _ _ ha' (hpost b hb)
theorem perm_ins{l r:List OpT}{i n:Nat}(hp:r.Perm (l.take i))(hi:i<l.length):(r.take n++[l[i]]++r.drop n).Perm (l.take (i+1)):=by
 rw [List.take_succ_eq_append_getElem hi]
 have h1:(r.take n++[l[i]]++r.drop n).Perm (l[i]::(r.take n++r.drop n)):=by
  rw [List.append_assoc]; exact List.perm_middle
 rw [List.take_append_drop] at h1
 exact h1.trans ((hp.cons _).trans (List.perm_append_singleton _ _).symm)
theorem offA_zero{a:Option Addr}{c sz:Nat}:offA a c 0 sz=a:=by
 unfold offA
 rw [Nat.zero_mul]
 split
 ·rfl
 ·cases a with
  | none=>rfl
  | some a=>exact congrArg some (by unfold Addr.add; rfl)
theorem rd_take{w:World}{sz n k cap:Nat}{a:Option Addr}{xs:List Value}(h:Rd w sz (.slice a n cap) n xs)(hk:k≤n):Rd w sz (.slice (offA a cap 0 sz) k cap) k (xs.take (k * sz)):=by
 rw [offA_zero]; exact h.take hk
theorem rd_drop{w:World}{sz n k cap:Nat}{a:Option Addr}{xs:List Value}(h:Rd w sz (.slice a n cap) n xs)(hk:k≤n):Rd w sz (.slice (offA a cap k sz) (n - k) (cap - k)) (n - k) (xs.drop (k * sz)):=by
 obtain ⟨h1,a',cap',he,h2,h3⟩:=h
 simp only [Value.slice.injEq,true_and] at he
 obtain ⟨rfl,rfl⟩:=he
 refine ⟨by rw [List.length_drop,h1,Nat.sub_mul],_,_,rfl,by omega,fun h=>?_⟩
 obtain ⟨ad,rfl,h4⟩:=h3 (by omega)
 refine ⟨ad.add (k * sz),by unfold offA; rw [if_neg (by omega)]; rfl,fun j u hu=>?_⟩
 rw [add_add]
 rw [List.getElem?_drop] at hu
 exact h4 _ u hu
theorem take_flat{l:List OpT}{k:Nat}:(l.flatMap OpT.enc).take (k * 11)=(l.take k).flatMap OpT.enc:=by
 induction l generalizing k with
 | nil=>simp
 | cons a l ih =>
  cases k with
  | zero=>simp
  | succ k=>rw [List.flatMap_cons,List.take_succ_cons,List.flatMap_cons,show (k+1) * 11=a.enc.length+k * 11 by rw [OpT.len]; omega,List.take_length_add_append,ih]
theorem drop_flat{l:List OpT}{k:Nat}:(l.flatMap OpT.enc).drop (k * 11)=(l.drop k).flatMap OpT.enc:=by
 induction l generalizing k with
 | nil=>simp
 | cons a l ih =>
  cases k with
  | zero=>simp
  | succ k=>rw [List.flatMap_cons,List.drop_succ_cons,show (k+1) * 11=a.enc.length+k * 11 by rw [OpT.len]; omega,List.drop_length_add_append,ih]
theorem ins38{W0 w:World}{Q:Post}{q:Addr}{c i n co:Nat}{ao:Option Addr}{l r:List OpT}(h:RdS W0 11 OpT.enc (.slice (some q) l.length c) l)(hl:l.length≤1048576)(hr:r.length≤1048576)(hi:i<l.length)(hn:n≤r.length)
  (s:St W0 w (fun _=>False) [.row (.slice ao r.length co) 52 11 r.length (r.flatMap OpT.enc)] [])
  (hQ:∀ v' w',St W0 w' (fun _=>False) [.row v' 52 11 (r.take n++[l[i]]++r.drop n).length ((r.take n++[l[i]]++r.drop n).flatMap OpT.enc)] []→Q .normal [(0,.slice (some q) l.length c),(3,v'),(4,.int .i64 i)] w') :
  W Tryz.prog (c36S4 ()) [(0,.slice (some q) l.length c),(3,.slice ao r.length co),(4,.int .i64 i),(5,.int .i64 n)] w Q:=by
 simp (disch:=first|omega|exact zF rfl|exact zG rfl|exact fun h=>h|(simp only[zA,zB,zC,zD,bytesW];omega)) only[go_sem,c36S4]
 refine bsW_none ty22mkI ?_
 have s2:=s.emptyRow 52 11
 generalize w.alloc (.cells #[] 52)=w2 at s2 ⊢
 simp (disch:=first|omega|exact zF rfl|exact zG rfl|exact fun h=>h|(simp only[zA,zB,zC,zD,bytesW];omega)) only[go_sem,c36S4]
 have hco:r.length≤co:=by
  obtain ⟨a',c',e,h⟩:=own_slice (s2.row 1 rfl)
  cases e; exact h
 have e1:(r.take n).length=n:=by rw [List.length_take]; omega
 refine ⟨⟨by omega,by omega⟩,?_⟩
 refine s2.append 0 rfl ty22mkI rfl (by decide) (rd_take (Rd.of_own (s2.row 1 rfl)) hn) (by rw [take_flat]; exact OpT.ones _) (by omega) (by omega) ?_
 intro v3 w3 s3 _
 simp only [List.set_cons_zero,List.nil_append,take_flat,Nat.zero_add] at s3
 obtain ⟨a3,c3,rfl,_⟩:=own_slice (s3.row 0 rfl)
 have eo:=h.eltB s3.bel OpT.len (by decide) hi
 have ato:=l[i].at
 have ci:=cellsO_below s3.bel (h.at OpT.len hi)
 simp (disch:=first|omega|exact zF rfl|exact zG rfl|exact fun h=>h|(simp only[zA,zB,zC,zD,bytesW];omega)) only[go_sem,c36S4,ci]
 refine ⟨⟨by omega,by omega⟩,bsW_agg ty22mkI rfl (by decide) (by decide) ?_⟩
 have hrd:Rd (w3.alloc (.cells l[i].enc.toArray 52)) 11 (.slice (some ⟨w3.heap.size,0,none⟩) 1 1) 1 l[i].enc:=rd_new (t:=52) (sz:=11) (n:=1) (cs:=l[i].enc.toArray) rfl
 have s4:=s3.alloc' (.cells l[i].enc.toArray 52)
 generalize w3.alloc (.cells l[i].enc.toArray 52)=w4 at s4 hrd ⊢
 simp (disch:=first|omega|exact zF rfl|exact zG rfl|exact fun h=>h|(simp only[zA,zB,zC,zD,bytesW];omega)) only[go_sem,c36S4,ci]
 refine s4.append 0 rfl ty22mkI rfl (by decide) hrd l[i].one (by omega) (by omega) ?_
 intro v5 w5 s5 _
 simp only [List.set_cons_zero] at s5
 obtain ⟨a5,c5,rfl,_⟩:=own_slice (s5.row 0 rfl)
 simp (disch:=first|omega|exact zF rfl|exact zG rfl|exact fun h=>h|(simp only[zA,zB,zC,zD,bytesW];omega)) only[go_sem,c36S4]
 refine ⟨⟨by omega,by omega⟩,?_⟩
 refine s5.append 0 rfl ty22mkI rfl (by decide) (rd_drop (Rd.of_own (s5.row 1 rfl)) hn) (by rw [drop_flat]; exact OpT.ones _) (by omega) (by omega) ?_
 intro v6 w6 s6 _
 simp only [List.set_cons_zero,drop_flat] at s6
 simp (disch:=first|omega|exact zF rfl|exact zG rfl|exact fun h=>h|(simp only[zA,zB,zC,zD,bytesW];omega)) only[go_sem,c36S4]
 refine hQ _ _ ?_
 have s7:=s6.sub (L':=[_]) ((List.nil_sublist _).cons_cons _)
 have el:(r.take n++[l[i]]++r.drop n).length=n+1+(r.length - n):=by
  rw [List.length_append,List.length_append,e1,List.length_drop]; rfl
 have ef:(r.take n++[l[i]]++r.drop n).flatMap OpT.enc=(r.take n).flatMap OpT.enc++l[i].enc++(r.drop n).flatMap OpT.enc:=by
  rw [List.flatMap_append,List.flatMap_append]; simp
 rw [el,ef]
 exact s7
theorem sorted_ok(v:Value)(l:List OpT)(w:World)(h:RdS w 11 OpT.enc v l)(hl:l.length≤1048576) :
  Ret Tryz.prog 36 [v] w fun u w'=>(∃ r,Sorts earI l r∧w'.ownsRow w.heap.size 52 11 u r.length (r.flatMap OpT.enc))∧Below w.heap.size w w':=by
 obtain ⟨a,c,rfl,_⟩:=h.form
 refine ent36 _ _ _ ?_
 simp (disch:=first|omega|exact zF rfl|exact zG rfl|exact fun h=>h|(simp only[zA,zB,zC,zD,bytesW];omega)) only[go_sem,c36S4]
 refine W_loopU (fun x:Nat × Value=>[(3,x.2),(4,.int .i64 x.1)]) (fun x w'=>x.1≤l.length∧∃ r,Sorts earI (l.take x.1) r∧St w w' (fun _=>False) [.row x.2 52 11 r.length (r.flatMap OpT.enc)] []) (fun x=>l.length - x.1) (0,.slice none 0 0) rfl ⟨Nat.zero_le _,[],⟨List.Perm.refl _,List.Pairwise.nil⟩,(St.start (W0:=w)).nilRow 52 11⟩ ?_
 rintro ⟨i,vo⟩ w1 ⟨hi,r,⟨hp,hs⟩,s1⟩
 simp only at hi hp s1
 have hrl:r.length=i:=by rw [hp.length_eq,List.length_take]; omega
 obtain ⟨ao,co,rfl,_⟩:=own_slice (s1.row 0 rfl)
 by_cases hlt:i<l.length
 ·have hlt':(i:Int)<l.length:=by omega
  obtain ⟨q,rfl⟩:=h.ptr (by omega)
  simp (disch:=first|omega|exact zF rfl|exact zG rfl|exact fun h=>h|(simp only[zA,zB,zC,zD,bytesW];omega)) only[go_sem,hlt']
  refine W_loopU (fun n:Nat=>[(5,.int .i64 n)]) (fun n w'=>n≤r.length∧(∀ j,(h:j<r.length)→j<n→leq r[j] l[i]=true)∧St w w' (fun _=>False) [.row (.slice ao r.length co) 52 11 r.length (r.flatMap OpT.enc)] []) (fun n=>r.length - n) 0 rfl ⟨Nat.zero_le _,fun j _ h=>by omega,s1⟩ ?_
  rintro n w2 ⟨hn,hle,s2⟩
  have eo:=h.eltB s2.bel OpT.len (by decide) hlt
  have ato:=l[i].at
  by_cases hnr:n<r.length
  ·have hnr':(n:Int)<r.length:=by omega
   have hro:RdS w2 11 OpT.enc (.slice ao r.length co) r:=RdS.of_own (s2.row 0 rfl)
   obtain ⟨p,rfl⟩:=hro.ptr (by omega)
   have er:=hro.elt OpT.len (by decide) hnr
   have atr:=r[n].at
   simp (disch:=first|omega|exact zF rfl|exact zG rfl|exact fun h=>h|(simp only[zA,zB,zC,zD,bytesW];omega)) only[go_sem]
   refine c36draw0 ?_
   simp (disch:=first|omega|exact zF rfl|exact zG rfl|exact fun h=>h|(simp only[zA,zB,zC,zD,bytesW];omega)) only[go_sem,c36D0,eo,ato,er,atr,hnr']
   have stp:leq r[n] l[i]=true→(n+1≤r.length∧(∀ (j:Nat) (h:j<r.length),j<n+1→leq r[j] l[i]=true)∧St w w2.drew (fun _=>False) [.row (.slice (some p) r.length co) 52 11 r.length (r.flatMap OpT.enc)] []):=fun hy=>⟨by omega,fun j h1 h2=>by
    rcases Nat.lt_or_ge j n with h' | h'
    ·exact hle j h1 h'
    ·obtain rfl:j=n:=by omega
     exact hy,s2.drew⟩
   have hy:leq r[n] l[i]=decide (r[n].Invoke<l[i].Invoke∨r[n].Invoke=l[i].Invoke∧r[n].ID≤l[i].ID):=rfl
   refine ⟨by omega,⟨by omega,by omega⟩,fun e1=>⟨by omega,⟨by omega,by omega⟩,fun e2=>⟨by omega,⟨by omega,by omega⟩,fun e3=>⟨⟨by omega,by omega⟩,n+1,rfl,stp (by rw [hy]; exact decide_eq_true (by omega)),by omega⟩,fun e3=>?_⟩,fun e2=>?_⟩,fun e1=>⟨⟨by omega,by omega⟩,n+1,rfl,stp (by rw [hy]; exact decide_eq_true (by omega)),by omega⟩⟩
   ·have hno:leq r[n] l[i]=false:=by rw [hy]; exact decide_eq_false (by omega)
    refine ins38 h hl (by omega) hlt hn s2.drew ?_
    intro v9 w9 s9
    simp (disch:=first|omega|exact zF rfl|exact zG rfl|exact fun h=>h|(simp only[zA,zB,zC,zD,bytesW];omega)) only[go_sem,c36S4]
    refine ⟨⟨by omega,by omega⟩,(i+1,_),rfl,⟨by simp only; omega,_,⟨?_,sorts_ins hs hle fun _=>hno⟩,s9⟩,by simp only; omega⟩
    exact perm_ins hp hlt
   ·have hno:leq r[n] l[i]=false:=by rw [hy]; exact decide_eq_false (by omega)
    refine ins38 h hl (by omega) hlt hn s2.drew ?_
    intro v9 w9 s9
    simp (disch:=first|omega|exact zF rfl|exact zG rfl|exact fun h=>h|(simp only[zA,zB,zC,zD,bytesW];omega)) only[go_sem,c36S4]
    refine ⟨⟨by omega,by omega⟩,(i+1,_),rfl,⟨by simp only; omega,_,⟨?_,sorts_ins hs hle fun _=>hno⟩,s9⟩,by simp only; omega⟩
    exact perm_ins hp hlt
  ·have hnr':¬ (n:Int)<r.length:=by omega
   simp (disch:=first|omega|exact zF rfl|exact zG rfl|exact fun h=>h|(simp only[zA,zB,zC,zD,bytesW];omega)) only[go_sem]
   refine c36draw0 ?_
   simp (disch:=first|omega|exact zF rfl|exact zG rfl|exact fun h=>h|(simp only[zA,zB,zC,zD,bytesW];omega)) only[go_sem,c36D0,hnr']
   refine ins38 h hl (by omega) hlt hn s2.drew ?_
   intro v9 w9 s9
   simp (disch:=first|omega|exact zF rfl|exact zG rfl|exact fun h=>h|(simp only[zA,zB,zC,zD,bytesW];omega)) only[go_sem,c36S4]
   refine ⟨⟨by omega,by omega⟩,(i+1,_),rfl,⟨by simp only; omega,_,⟨?_,sorts_ins hs hle fun h=>absurd h (by omega)⟩,s9⟩,by simp only; omega⟩
   exact perm_ins hp hlt
 ·have hlt':¬ (i:Int)<l.length:=by omega
  simp (disch:=first|omega|exact zF rfl|exact zG rfl|exact fun h=>h|(simp only[zA,zB,zC,zD,bytesW];omega)) only[go_sem,c36S4,hlt']
  have hil:i=l.length:=by omega
  subst hil
  rw [List.take_length] at hp
  exact ⟨⟨r,⟨hp,hs⟩,s1.row 0 rfl⟩,s1.bel⟩
end Go.Proofs.YtoadmihnihfjkaaGreat.Cut

namespace Go.Proofs.YtoadmihnihfjkaaGreat.Cut
open Go Go.Ann Go.RowKit
def Piece(r:List OpT)(al:Option Addr)(cl:Nat)(s:Seg)(v:Value):Prop:=∃ f t,f≤t∧t≤r.length∧v=.slice (offA al cl f 11) (t - f) (cl - f)∧s.ops=(r.take t).drop f
theorem Piece.rd{w:World}{r:List OpT}{al:Option Addr}{cl:Nat}{s:Seg}{v:Value}(h:Piece r al cl s v)(hr:RdS w 11 OpT.enc (.slice al r.length cl) r):RdS w 11 OpT.enc v s.ops:=by
 obtain ⟨f,t,h1,h2,rfl,h3⟩:=h
 have e1:=rd_drop (Rd.take (k:=t) hr h2) h1
 rw [take_flat,drop_flat] at e1
 have e2:s.ops.length=t - f:=by rw [h3,List.length_drop,List.length_take]; omega
 unfold RdS
 rw [e2,h3]
 exact e1
end Go.Proofs.YtoadmihnihfjkaaGreat.Cut

namespace Go.Proofs.YtoadmihnihfjkaaGreat.Cut
open Go Go.Ann Go.RowKit
def ofObj(x:Int)(l:List OpT):List OpT:=l.filter fun o=>decide (o.Object=x)
structure ByObj(l:List OpT)(acc:List Seg):Prop where
 up:acc.Pairwise fun a b=>a.obj<b.obj
 sorts:∀ s∈acc,Sorts earI (ofObj s.obj l) s.ops
 kind:∀ s∈acc,∃ o r,s.ops=o::r∧s.kind=o.Kind
 all:∀ o∈l,∃ s∈acc,s.obj=o.Object
def Next(l:List OpT)(any:Bool)(last:Int)(k:Nat)(found:Bool)(next:Int):Prop :=
 (found=false∧∀ o∈l.take k,any=true∧o.Object≤last)∨(found=true∧(∃ o∈l.take k,o.Object=next)∧(any=true→last<next)∧∀ o∈l.take k,(any=true→last<o.Object)→next≤o.Object)
def left(l:List OpT)(any:Bool)(last:Int):List OpT:=l.filter fun o=>!any || decide (last<o.Object)
structure Part(l:List OpT)(acc:List Seg)(any:Bool)(last:Int):Prop where
 up:acc.Pairwise fun a b=>a.obj<b.obj
 sorts:∀ s∈acc,Sorts earI (ofObj s.obj l) s.ops
 kind:∀ s∈acc,∃ o r,s.ops=o::r∧s.kind=o.Kind
 low:∀ s∈acc,any=true∧s.obj≤last
 all:∀ o∈l,o∈left l any last∨∃ s∈acc,s.obj=o.Object
theorem Part.nil(l:List OpT)(x:Int):Part l [] false x:=⟨List.Pairwise.nil,(fun s h=>by cases h),(fun s h=>by cases h),(fun s h=>by cases h),fun o h=>.inl (by unfold left; simpa using h)⟩
theorem mem_take_succ{l:List OpT}{k:Nat}(hk:k<l.length){o:OpT}:o∈l.take (k+1)↔o∈l.take k∨o=l[k]:=by
 rw [List.take_succ_eq_append_getElem hk,List.mem_append,List.mem_singleton]
theorem Next.take{l:List OpT}{any found:Bool}{last next:Int}{k:Nat}(h:Next l any last k found next)(hk:k<l.length)(h1:any=true→last<l[k].Object)(h2:found=true→l[k].Object<next):Next l any last (k+1) true l[k].Object:=by
 refine .inr ⟨rfl,⟨_,(mem_take_succ hk).2 (.inr rfl),rfl⟩,h1,fun o ho hlo=>?_⟩
 rcases (mem_take_succ hk).1 ho with ho | rfl
 ·rcases h with ⟨_,h⟩ | ⟨hf,_,_,h⟩
  ·have:=h o ho; have:=hlo this.1; omega
  ·have:=h o ho hlo; have:=h2 hf; omega
 ·exact Int.le_refl _
theorem Next.skip{l:List OpT}{any found:Bool}{last next:Int}{k:Nat}(h:Next l any last k found next)(hk:k<l.length)(h1:(any=true∧l[k].Object≤last)∨(found=true∧next≤l[k].Object)):Next l any last (k+1) found next:=by
 rcases h with ⟨hf,h⟩ | ⟨hf,⟨x,hx,hxe⟩,h2,h⟩
 ·subst hf
  refine .inl ⟨rfl,fun o ho=>?_⟩
  rcases (mem_take_succ hk).1 ho with ho | rfl
  ·exact h o ho
  ·rcases h1 with h1 | h1
   ·exact h1
   ·cases h1.1
 ·refine .inr ⟨hf,⟨x,(mem_take_succ hk).2 (.inl hx),hxe⟩,h2,fun o ho hlo=>?_⟩
  rcases (mem_take_succ hk).1 ho with ho | rfl
  ·exact h o ho hlo
  ·rcases h1 with h1 | h1
   ·have:=hlo h1.1; omega
   ·exact h1.2
theorem segs_rd{W0 w:World}{F:Nat→Prop}{L:List Res}{I:List Inv}{vo:Value}{acc:List Seg}{vs:List Value}(hvs:vs.length=acc.length)(h:St W0 w F (.row vo 47 3 acc.length (segCells acc vs)::L) I)
  (hr:∀ (j:Nat) (s:Seg) (v:Value),acc[j]?=some s→vs[j]?=some v→RdS w 11 OpT.enc v s.ops) (hl:∀ s∈acc,(s.ops.length:Int)≤9223372036854775806):RdR w 3 segR vo acc:=by
 refine ⟨List.zipWith segC acc vs,by simp [hvs],?_,?_⟩
 ·intro j c x hc hx
  rw [List.getElem?_zipWith,hx] at hc
  cases hv:vs[j]? with
  | none=>rw [hv] at hc; cases hc
  | some v =>
   rw [hv] at hc
   simp only [Option.some.injEq] at hc
   subst hc
   exact ⟨rfl,v,rfl,hr j x v hx hv,hl x (List.mem_of_getElem? hx)⟩
 ·rw [segCells_flat]
  exact Rd.of_own (h.row 0 rfl)
theorem ofObj_len(x:Int)(l:List OpT):(ofObj x l).length≤l.length:=List.length_filter_le _ _
theorem ofObj_snoc(x:Int){l:List OpT}{k:Nat}(hk:k<l.length):ofObj x (l.take (k+1))=ofObj x (l.take k)++if l[k].Object=x then [l[k]] else []:=by
 rw [List.take_succ_eq_append_getElem hk]
 unfold ofObj
 rw [List.filter_append]
 by_cases h:l[k].Object=x
 ·rw [if_pos h]; simp [h]
 ·rw [if_neg h]; simp [h]
theorem Part.step{l:List OpT}{acc:List Seg}{any:Bool}{last next:Int}{x o:OpT}{r':List OpT}(h:Part l acc any last)(hx:x∈l)(hxe:x.Object=next)(hlo:any=true→last<next)(hmin:∀ o∈l,(any=true→last<o.Object)→next≤o.Object)(hs:Sorts earI (ofObj next l) (o::r')) :
  Part l (acc++[⟨next,o.Kind,o::r'⟩]) true next∧(left l true next).length<(left l any last).length:=by
 refine ⟨⟨?_,fun s hm=>?_,fun s hm=>?_,fun s hm=>?_,fun y hy=>?_⟩,?_⟩
 ·rw [List.pairwise_append]
  refine ⟨h.up,List.pairwise_singleton _ _,fun a ha b hb=>?_⟩
  simp only [List.mem_singleton] at hb; subst hb
  obtain ⟨a1,a2⟩:=h.low a ha
  have:=hlo a1
  simp only; omega
 ·rcases List.mem_append.1 hm with hm | hm
  ·exact h.sorts s hm
  ·simp only [List.mem_singleton] at hm; subst hm; exact hs
 ·rcases List.mem_append.1 hm with hm | hm
  ·exact h.kind s hm
  ·simp only [List.mem_singleton] at hm; subst hm; exact ⟨o,r',rfl,rfl⟩
 ·refine ⟨rfl,?_⟩
  rcases List.mem_append.1 hm with hm | hm
  ·obtain ⟨a1,a2⟩:=h.low s hm
   have:=hlo a1; omega
  ·simp only [List.mem_singleton] at hm; subst hm; exact Int.le_refl _
 ·rcases h.all y hy with hl | ⟨s,hm,he⟩
  ·by_cases hn:y.Object=next
   ·exact .inr ⟨_,List.mem_append_right _ (List.mem_singleton_self _),hn.symm⟩
   ·unfold left at hl ⊢
    rw [List.mem_filter] at hl ⊢
    have:=hmin y hy fun ha=>by have:=hl.2; rw [ha] at this; simpa using this
    exact .inl ⟨hy,by simp; omega⟩
  ·exact .inr ⟨s,List.mem_append_left _ hm,he⟩
 ·have hsub:(left l true next)=(left l any last).filter fun o=>decide (next<o.Object):=by
   unfold left
   rw [List.filter_filter]
   apply List.filter_congr
   intro y hy
   cases any with
   | false=>simp
   | true=>have:=hlo rfl; simp; omega
  rw [hsub]
  refine List.length_filter_lt_length_iff_exists.2 ⟨x,?_,?_⟩
  ·unfold left
   rw [List.mem_filter]
   refine ⟨hx,?_⟩
   cases any with
   | false=>rfl
   | true=>have:=hlo rfl; simp; omega
  ·simp; omega
theorem robjects_ok(v:Value)(l:List OpT)(w:World)(h:RdS w 11 OpT.enc v l)(hl:l.length≤1048576) :
  Ret Tryz.prog 20 [v] w fun u w'=>(∃ acc,ByObj l acc∧RdR w' 3 segR u acc)∧Below w.heap.size w w':=by
 obtain ⟨a,c,rfl,_⟩:=h.form
 refine ent20 _ _ _ ?_
 simp (disch:=first|omega|exact zF rfl|exact zG rfl|exact fun h=>h|(simp only[zA,zB,zC,zD,bytesW];omega)) only[go_sem,c20S6,c20S7,c20S8]
 refine W_loopU (fun x:Value × Int × Bool=>[(3,x.1),(4,.int .i64 x.2.1),(5,.bool x.2.2)]) (fun x w'=>∃ acc vs,vs.length=acc.length∧acc.length+(left l x.2.2 x.2.1).length≤l.length∧St w w' (fun _=>False) [.row x.1 47 3 acc.length (segCells acc vs)] (segInvs acc vs)∧Part l acc x.2.2 x.2.1) (fun x=>(left l x.2.2 x.2.1).length) (.slice none 0 0,0,false) rfl ⟨[],[],rfl,by rw [List.length_nil,Nat.zero_add]; exact List.length_filter_le _ _,(St.start (W0:=w)).nilRow 47 3,Part.nil l 0⟩ ?_
 rintro ⟨vo,last,any⟩ w1 ⟨acc,vs,hvs,hlen,s1,hp⟩
 simp only at hlen s1 hp
 simp (disch:=first|omega|exact zF rfl|exact zG rfl|exact fun h=>h|(simp only[zA,zB,zC,zD,bytesW];omega)) only[go_sem,c20S6,c20S7]
 refine W_loopU (fun x:Int × Bool × Nat=>[(6,.int .i64 x.1),(7,.bool x.2.1),(8,.int .i64 x.2.2)]) (fun x w'=>w'=w1∧x.2.2≤l.length∧Next l any last x.2.2 x.2.1 x.1) (fun x=>l.length - x.2.2) (0,false,0) rfl ⟨rfl,Nat.zero_le _,.inl ⟨rfl,fun o h=>by simp at h⟩⟩ ?_
 rintro ⟨next,found,k⟩ _ ⟨rfl,hk,hn⟩
 simp only at hk hn
 by_cases hkl:k<l.length
 ·have hkl':(k:Int)<l.length:=by omega
  obtain ⟨q,rfl⟩:=h.ptr (by omega)
  have ek:=h.eltB s1.bel OpT.len (by decide) hkl
  have ak:=l[k].at
  simp (disch:=first|omega|exact zF rfl|exact zG rfl|exact fun h=>h|(simp only[zA,zB,zC,zD,bytesW];omega)) only[go_sem,c20S6,c20S7,hkl',ek,ak]
  have tk:(any=true→last<l[k].Object)→(found=true→l[k].Object<next)→k+1≤l.length∧Next l any last (k+1) true l[k].Object:=fun a b=>⟨hkl,hn.take hkl a b⟩
  have sk:((any=true∧l[k].Object≤last)∨(found=true∧next≤l[k].Object))→k+1≤l.length∧Next l any last (k+1) found next:=fun a=>⟨hkl,hn.skip hkl a⟩
  refine ⟨fun ha=>⟨by omega,fun h1=>⟨fun hf=>⟨by omega,fun h2=>⟨by omega,⟨by omega,by omega⟩,(_,_,k+1),rfl,tk (fun _=>h1) (fun _=>h2),by simp only; omega⟩,fun h2=>⟨⟨by omega,by omega⟩,(_,_,k+1),rfl,sk (.inr ⟨hf,h2⟩),by simp only; omega⟩⟩,fun hf=>⟨by omega,⟨by omega,by omega⟩,(_,_,k+1),rfl,tk (fun _=>h1) (fun h=>by rw [hf] at h; cases h),by simp only; omega⟩⟩,fun h1=>⟨⟨by omega,by omega⟩,(_,_,k+1),rfl,sk (.inl ⟨ha,h1⟩),by simp only; omega⟩⟩,fun ha=>⟨fun hf=>⟨by omega,fun h2=>⟨by omega,⟨by omega,by omega⟩,(_,_,k+1),rfl,tk (fun h=>by rw [ha] at h; cases h) (fun _=>h2),by simp only; omega⟩,fun h2=>⟨⟨by omega,by omega⟩,(_,_,k+1),rfl,sk (.inr ⟨hf,h2⟩),by simp only; omega⟩⟩,fun hf=>⟨by omega,⟨by omega,by omega⟩,(_,_,k+1),rfl,tk (fun h=>by rw [ha] at h; cases h) (fun h=>by rw [hf] at h; cases h),by simp only; omega⟩⟩⟩
 ·have hkl':¬ (k:Int)<l.length:=by omega
  simp (disch:=first|omega|exact zF rfl|exact zG rfl|exact fun h=>h|(simp only[zA,zB,zC,zD,bytesW];omega)) only[go_sem,c20S6,c20S8,hkl']
  have hkk:k=l.length:=by omega
  subst hkk
  unfold Next at hn
  rw [List.take_length] at hn
  refine ⟨fun hf=>⟨⟨acc,⟨hp.up,hp.sorts,hp.kind,fun o ho=>?_⟩,segs_rd hvs s1 (fun j s v hs hv=>?_) fun s hs=>?_⟩,s1.bel⟩,fun hf=>?_⟩
  ·rcases hn with ⟨_,hn⟩ | ⟨hn,_⟩
   ·rcases hp.all o ho with h' | h'
    ·unfold left at h'
     rw [List.mem_filter] at h'
     obtain ⟨a1,a2⟩:=hn o ho
     rw [a1] at h'
     have:=h'.2
     simp at this
     omega
    ·exact h'
   ·rw [hf] at hn; cases hn
  ·exact (s1.inv _ (segInvs_mem acc vs j s v hs hv)).1
  ·have e1:=(hp.sorts s hs).1.length_eq
   have e2:=ofObj_len s.obj l
   omega
  ·rcases hn with ⟨hn,_⟩ | ⟨_,⟨x,hx,hxe⟩,hlo,hmin⟩
   ·rw [hf] at hn; cases hn
   simp (disch:=first|omega|exact zF rfl|exact zG rfl|exact fun h=>h|(simp only[zA,zB,zC,zD,bytesW];omega)) only[go_sem,c20S7,c20S8]
   refine W_loopU (fun y:Value × Nat=>[(9,y.1),(10,.int .i64 y.2)]) (fun y w'=>y.2≤l.length∧St w w' (fun _=>False) [.row y.1 52 11 (ofObj next (l.take y.2)).length ((ofObj next (l.take y.2)).flatMap OpT.enc),.row vo 47 3 acc.length (segCells acc vs)] (segInvs acc vs)) (fun y=>l.length - y.2) (.slice none 0 0,0) rfl ⟨Nat.zero_le _,s1.nilRow 52 11⟩ ?_
   rintro ⟨v2,k⟩ w2 ⟨hk2,s2⟩
   simp only at hk2 s2
   by_cases hkl2:k<l.length
   ·have hkl2':(k:Int)<l.length:=by omega
    obtain ⟨q,rfl⟩:=h.ptr (by omega)
    have ek:=h.eltB s2.bel OpT.len (by decide) hkl2
    have ck:=cellsO_below s2.bel (h.at OpT.len hkl2)
    have ak:=l[k].at
    have hf1:=ofObj_len next (l.take k)
    rw [List.length_take] at hf1
    have hsn:=ofObj_snoc next hkl2
    simp (disch:=first|omega|exact zF rfl|exact zG rfl|exact fun h=>h|(simp only[zA,zB,zC,zD,bytesW];omega)) only[go_sem,c20S7,c20S8,hkl2',ek,ak,ck]
    refine ⟨by omega,fun he=>⟨by omega,bsW_agg ty22mkI rfl (by decide) (by decide) ?_⟩,fun he=>⟨⟨by omega,by omega⟩,(v2,k+1),rfl,⟨hkl2,?_⟩,by simp only; omega⟩⟩
    ·have hrd:Rd (w2.alloc (.cells l[k].enc.toArray 52)) 11 (.slice (some ⟨w2.heap.size,0,none⟩) 1 1) 1 l[k].enc:=rd_new (t:=52) (sz:=11) (n:=1) (cs:=l[k].enc.toArray) rfl
     have s3:=s2.alloc' (.cells l[k].enc.toArray 52)
     generalize w2.alloc (.cells l[k].enc.toArray 52)=w3 at s3 hrd ⊢
     simp (disch:=first|omega|exact zF rfl|exact zG rfl|exact fun h=>h|(simp only[zA,zB,zC,zD,bytesW];omega)) only[go_sem,c20S7,c20S8]
     refine s3.append 0 rfl ty22mkI rfl (by decide) hrd l[k].one (by omega) (by omega) ?_
     intro v4 w4 s4 _
     simp only [List.set_cons_zero] at s4
     simp (disch:=first|omega|exact zF rfl|exact zG rfl|exact fun h=>h|(simp only[zA,zB,zC,zD,bytesW];omega)) only[go_sem,c20S7,c20S8]
     refine ⟨⟨by omega,by omega⟩,(v4,k+1),rfl,⟨hkl2,?_⟩,by simp only; omega⟩
     simp only
     have e2:(ofObj next (l.take k)++[l[k]]).length=(ofObj next (l.take k)).length+1:=by simp
     have e3:(ofObj next (l.take k)++[l[k]]).flatMap OpT.enc=(ofObj next (l.take k)).flatMap OpT.enc++l[k].enc:=by rw [List.flatMap_append]; simp
     rw [hsn,if_pos he,e2,e3]
     exact s4
    ·simp only
     rw [hsn,if_neg he,List.append_nil]
     exact s2
   ·have hkl2':¬ (k:Int)<l.length:=by omega
    simp (disch:=first|omega|exact zF rfl|exact zG rfl|exact fun h=>h|(simp only[zA,zB,zC,zD,bytesW];omega)) only[go_sem,c20S7,c20S8,hkl2']
    have hkk:k=l.length:=by omega
    subst hkk
    rw [List.take_length] at s2
    simp (disch:=first|omega|exact zF rfl|exact zG rfl|exact fun h=>h|(simp only[zA,zB,zC,zD,bytesW];omega)) only[go_sem,c20S6,c20S7,c20S8]
    refine Ret.mono (sorted_ok _ _ _ (RdS.of_own (s2.row 0 rfl)) (by have:=ofObj_len next l; omega)) ?_
    rintro v3 w3 ⟨⟨r,hs,o3⟩,b3⟩
    have s3:=(s2.sub (List.sublist_cons_self _ _)).add b3 (.row v3 52 11 r.length (r.flatMap OpT.enc)) (own_mono o3 s2.size) fun k hk=>(o3.lt k hk).1
    have hrx:r≠[]:=fun e=>by
     have hm:x∈ofObj next l:=by unfold ofObj; rw [List.mem_filter]; exact ⟨hx,by simpa using hxe⟩
     have:=hs.1.length_eq
     rw [e] at this
     rw [List.eq_nil_of_length_eq_zero this.symm] at hm
     cases hm
    obtain ⟨o,r',rfl⟩:=List.exists_cons_of_ne_nil hrx
    have hro:RdS w3 11 OpT.enc v3 (o::r'):=RdS.of_own o3
    obtain ⟨p,cp,rfl,_⟩:=hro.form
    obtain ⟨p,rfl⟩:=hro.ptr (by simp)
    have er:=hro.elt OpT.len (by decide) (show 0<(o::r').length by simp)
    have ar:=o.at
    have e3:w3.cell? ⟨p.block,p.off+3,none⟩=some (.int .i64 o.Kind):=by
     have:=er.2 3 (by decide) (by decide)
     simpa [ar] using this
    simp (disch:=first|omega|exact zF rfl|exact zG rfl|exact fun h=>h|(simp only[zA,zB,zC,zD,bytesW];omega)) only[go_sem,c20S6,c20S7,c20S8,er,ar,e3]
    refine ⟨by omega,bdW_built (cells:=(segC ⟨next,o.Kind,[]⟩ (.slice (some p) (r'.length+1) cp)).toArray) (by kernel_rfl) ?_⟩
    simp (disch:=first|omega|exact zF rfl|exact zG rfl|exact fun h=>h|(simp only[zA,zB,zC,zD,bytesW];omega)) only[go_sem,c20S6,c20S7,c20S8]
    refine bsW_agg ty39mkI rfl (by decide) (by decide) ?_
    have s4:=(s3.seal (.rd 11 OpT.enc (.slice (some p) (r'.length+1) cp) (o::r')) hro fun k hk=>slFoot_own hk).alloc' (.cells (segC ⟨next,o.Kind,[]⟩ (.slice (some p) (r'.length+1) cp)).toArray 47)
    have hrd:Rd (w3.alloc (.cells (segC ⟨next,o.Kind,[]⟩ (.slice (some p) (r'.length+1) cp)).toArray 47)) 3 (.slice (some ⟨w3.heap.size,0,none⟩) 1 1) 1 (segC ⟨next,o.Kind,[]⟩ (.slice (some p) (r'.length+1) cp)):=rd_new (t:=47) (sz:=3) (n:=1) (cs:=(segC ⟨next,o.Kind,[]⟩ (.slice (some p) (r'.length+1) cp)).toArray) rfl
    generalize w3.alloc (.cells (segC ⟨next,o.Kind,[]⟩ (.slice (some p) (r'.length+1) cp)).toArray 47)=w4 at s4 hrd ⊢
    simp (disch:=first|omega|exact zF rfl|exact zG rfl|exact fun h=>h|(simp only[zA,zB,zC,zD,bytesW];omega)) only[go_sem,c20S6,c20S7,c20S8]
    refine s4.append 0 rfl ty39mkI rfl (by decide) hrd (by intro u hu; simp only [segC,List.mem_cons,List.not_mem_nil,or_false] at hu; rcases hu with rfl | rfl | rfl <;> rfl) (by omega) (by omega) ?_
    intro v5 w5 s5 _
    simp only [List.set_cons_zero] at s5
    simp (disch:=first|omega|exact zF rfl|exact zG rfl|exact fun h=>h|(simp only[zA,zB,zC,zD,bytesW];omega)) only[go_sem,c20S6,c20S7,c20S8]
    obtain ⟨p1,p2⟩:=hp.step hx hxe hlo hmin hs
    refine ⟨(v5,next,true),rfl,⟨acc++[⟨next,o.Kind,o::r'⟩],vs++[.slice (some p) (r'.length+1) cp],by simp [hvs],by simp only; rw [List.length_append,List.length_singleton]; omega,?_,p1⟩,p2⟩
    rw [List.length_append,List.length_singleton,segCells_snoc _ _ _ _ hvs]
    refine St.inv_sub s5 fun a ha=>?_
    rcases (segInvs_snoc acc vs _ _ hvs a).1 ha with rfl | ha
    ·exact List.mem_cons_self
    ·exact List.mem_cons_of_mem _ ha
end Go.Proofs.YtoadmihnihfjkaaGreat.Cut

namespace Go.Proofs.YtoadmihnihfjkaaGreat.Cut
open Go Go.Ann Go.RowKit
theorem sorts_unique{l a b:List OpT}(hp:Pure l)(ha:Sorts earI l a)(hb:Sorts earI l b):a=b:=by
 refine List.Perm.eq_of_pairwise ?_ ha.2 hb.2 (ha.1.trans hb.1.symm)
 intro x y hx hy h1 h2
 refine hp x (ha.1.mem_iff.1 hx) y (hb.1.mem_iff.1 hy) ?_
 rw [ear_neg] at h1 h2
 omega
theorem byObj_unique{l:List OpT}(hp:Pure l):∀ {a b:List Seg},ByObj l a→ByObj l b→a=b:=by
 intro a b ha hb
 have mem:∀ {a b:List Seg},ByObj l a→ByObj l b→∀ s∈a,s∈b:=by
  intro a b ha hb s hs
  obtain ⟨o,r,e,hk⟩:=ha.kind s hs
  have ho:o∈ofObj s.obj l:=(ha.sorts s hs).1.mem_iff.1 (by rw [e]; exact List.mem_cons_self)
  unfold ofObj at ho
  rw [List.mem_filter,decide_eq_true_eq] at ho
  obtain ⟨t,ht,hto⟩:=hb.all o ho.1
  have heq:t.obj=s.obj:=hto.trans ho.2
  have hops:t.ops=s.ops:=by
   have h1:=hb.sorts t ht
   rw [heq] at h1
   refine sorts_unique (l:=ofObj s.obj l) (fun x hx y hy=>hp x ?_ y ?_) h1 (ha.sorts s hs)
   ·exact (List.mem_filter.1 hx).1
   ·exact (List.mem_filter.1 hy).1
  obtain ⟨o2,r2,e2,hk2⟩:=hb.kind t ht
  have:t=s:=by
   rw [hops,e] at e2
   cases t; cases s
   simp only at heq hops hk hk2 e2 ⊢
   simp only [List.cons.injEq] at e2
   subst heq; subst hops
   rw [hk,hk2,e2.1]
  rw [← this]; exact ht
 have nd:∀ {a:List Seg},ByObj l a→a.Nodup:=fun h=>h.up.imp fun h e=>by rw [e] at h; omega
 have hperm:a.Perm b:=(List.perm_ext_iff_of_nodup (nd ha) (nd hb)).2 fun s=>⟨mem ha hb s,mem hb ha s⟩
 exact List.Perm.eq_of_pairwise (le:=fun x y:Seg=>x.obj<y.obj) (fun x y _ _ h1 h2=>by omega) ha.up hb.up hperm
end Go.Proofs.YtoadmihnihfjkaaGreat.Cut

namespace Go.Proofs.YtoadmihnihfjkaaGreat.Cut
open Go Go.Ann Go.RowKit
theorem blk_okSt{w:World}{b:Nat}{cs:Array Value}{t:TypeId}(h:Blk w b cs t){vs:List Value}(h1:∀ u∈vs,u.oneCell'=true)(h2:vs.length≤cs.size):okSt w b 0 vs:=by
 rw [okSt_iff]
 refine ⟨h1,fun j hj=>⟨⟨cs[j]'(by omega),?_⟩,?_⟩⟩
 ·rw [h.rules.1,Nat.zero_add]; exact Array.getElem?_eq_getElem (by omega)
 ·exact h.rules.2.1 _
structure Row4 where
 kind:Int
 method:Int
 args:Int
 how:Int
def Row4.enc(r:Row4):List Value:=[.int .i64 r.kind,.int .i64 r.method,.int .i64 r.args,.int .i64 r.how]
theorem Row4.len(r:Row4):r.enc.length=4:=rfl
theorem Row4.one(r:Row4):∀ u∈r.enc,u.oneCell'=true:=by intro u hu; simp only [Row4.enc,List.mem_cons,List.not_mem_nil,or_false] at hu; rcases hu with rfl | rfl | rfl | rfl <;> rfl
theorem Row4.at(r:Row4):r.enc[0]?=some (.int .i64 r.kind)∧r.enc[1]?=some (.int .i64 r.method)∧r.enc[2]?=some (.int .i64 r.args)∧r.enc[3]?=some (.int .i64 r.how):=⟨rfl,rfl,rfl,rfl⟩
def rowsTable:List Row4:=[⟨1,1,0,2⟩,⟨1,2,1,0⟩,⟨1,3,2,1⟩,⟨2,1,0,3⟩,⟨2,4,0,0⟩,⟨2,5,0,0⟩,⟨3,6,1,0⟩,⟨3,7,0,4⟩,⟨4,8,1,0⟩,⟨4,9,0,4⟩,⟨5,10,1,1⟩,⟨5,11,1,1⟩,⟨5,12,1,1⟩,⟨6,13,0,0⟩,⟨6,14,0,0⟩]
theorem rows_ok(w:World):Ret Tryz.prog 92 [] w fun v w'=>RdS w' 4 Row4.enc v rowsTable∧Below w.heap.size w w':=by
 refine ent92 _ _ ?_
 simp (disch:=first|omega|exact zF rfl|exact zG rfl|exact fun h=>h|(simp only[zA,zB,zC,zD,bytesW];omega)) only[go_sem]
 refine bdW_built (cells:=(Row4.enc ⟨1,1,0,2⟩).toArray) (by kernel_rfl) ?_
 simp (disch:=first|omega|exact zF rfl|exact zG rfl|exact fun h=>h|(simp only[zA,zB,zC,zD,bytesW];omega)) only[go_sem]
 refine bdW_built (cells:=(Row4.enc ⟨1,2,1,0⟩).toArray) (by kernel_rfl) ?_
 simp (disch:=first|omega|exact zF rfl|exact zG rfl|exact fun h=>h|(simp only[zA,zB,zC,zD,bytesW];omega)) only[go_sem]
 refine bdW_built (cells:=(Row4.enc ⟨1,3,2,1⟩).toArray) (by kernel_rfl) ?_
 simp (disch:=first|omega|exact zF rfl|exact zG rfl|exact fun h=>h|(simp only[zA,zB,zC,zD,bytesW];omega)) only[go_sem]
 refine bdW_built (cells:=(Row4.enc ⟨2,1,0,3⟩).toArray) (by kernel_rfl) ?_
 simp (disch:=first|omega|exact zF rfl|exact zG rfl|exact fun h=>h|(simp only[zA,zB,zC,zD,bytesW];omega)) only[go_sem]
 refine bdW_built (cells:=(Row4.enc ⟨2,4,0,0⟩).toArray) (by kernel_rfl) ?_
 simp (disch:=first|omega|exact zF rfl|exact zG rfl|exact fun h=>h|(simp only[zA,zB,zC,zD,bytesW];omega)) only[go_sem]
 refine bdW_built (cells:=(Row4.enc ⟨2,5,0,0⟩).toArray) (by kernel_rfl) ?_
 simp (disch:=first|omega|exact zF rfl|exact zG rfl|exact fun h=>h|(simp only[zA,zB,zC,zD,bytesW];omega)) only[go_sem]
 refine bdW_built (cells:=(Row4.enc ⟨3,6,1,0⟩).toArray) (by kernel_rfl) ?_
 simp (disch:=first|omega|exact zF rfl|exact zG rfl|exact fun h=>h|(simp only[zA,zB,zC,zD,bytesW];omega)) only[go_sem]
 refine bdW_built (cells:=(Row4.enc ⟨3,7,0,4⟩).toArray) (by kernel_rfl) ?_
 simp (disch:=first|omega|exact zF rfl|exact zG rfl|exact fun h=>h|(simp only[zA,zB,zC,zD,bytesW];omega)) only[go_sem]
 refine bdW_built (cells:=(Row4.enc ⟨4,8,1,0⟩).toArray) (by kernel_rfl) ?_
 simp (disch:=first|omega|exact zF rfl|exact zG rfl|exact fun h=>h|(simp only[zA,zB,zC,zD,bytesW];omega)) only[go_sem]
 refine bdW_built (cells:=(Row4.enc ⟨4,9,0,4⟩).toArray) (by kernel_rfl) ?_
 simp (disch:=first|omega|exact zF rfl|exact zG rfl|exact fun h=>h|(simp only[zA,zB,zC,zD,bytesW];omega)) only[go_sem]
 refine bdW_built (cells:=(Row4.enc ⟨5,10,1,1⟩).toArray) (by kernel_rfl) ?_
 simp (disch:=first|omega|exact zF rfl|exact zG rfl|exact fun h=>h|(simp only[zA,zB,zC,zD,bytesW];omega)) only[go_sem]
 refine bdW_built (cells:=(Row4.enc ⟨5,11,1,1⟩).toArray) (by kernel_rfl) ?_
 simp (disch:=first|omega|exact zF rfl|exact zG rfl|exact fun h=>h|(simp only[zA,zB,zC,zD,bytesW];omega)) only[go_sem]
 refine bdW_built (cells:=(Row4.enc ⟨5,12,1,1⟩).toArray) (by kernel_rfl) ?_
 simp (disch:=first|omega|exact zF rfl|exact zG rfl|exact fun h=>h|(simp only[zA,zB,zC,zD,bytesW];omega)) only[go_sem]
 refine bdW_built (cells:=(Row4.enc ⟨6,13,0,0⟩).toArray) (by kernel_rfl) ?_
 simp (disch:=first|omega|exact zF rfl|exact zG rfl|exact fun h=>h|(simp only[zA,zB,zC,zD,bytesW];omega)) only[go_sem]
 refine bdW_built (cells:=(Row4.enc ⟨6,14,0,0⟩).toArray) (by kernel_rfl) ?_
 simp (disch:=first|omega|exact zF rfl|exact zG rfl|exact fun h=>h|(simp only[zA,zB,zC,zD,bytesW];omega)) only[go_sem]
 refine bsW_cells (cells:=(rowsTable.flatMap Row4.enc).toArray) ty144mkI (by decide) (by decide) (by kernel_rfl) ?_
 simp (disch:=first|omega|exact zF rfl|exact zG rfl|exact fun h=>h|(simp only[zA,zB,zC,zD,bytesW];omega)) only[go_sem]
 exact ⟨rd_new (w:=w) (sz:=4) (n:=15) (cs:=(rowsTable.flatMap Row4.enc).toArray) rfl,by (repeat' (first | with_reducible exact Below.refl _ _ | with_reducible assumption | (with_reducible refine Below.drew ?_) | (with_reducible refine Below.alloc ?_ ?_ _) | (with_reducible refine Below.setCell ?_ ?_ _) | (with_reducible refine Below.fill ?_ ?_) | (with_reducible refine Below.via (by assumption) ?_ ?_) | omega | (simp only [World.size_alloc,World.size_drew,World.size_setCell,size_fill,bytesW]; omega)))⟩
end Go.Proofs.YtoadmihnihfjkaaGreat.Cut

namespace Go.Proofs.YtoadmihnihfjkaaGreat.Cut
open Go Go.Ann Go.RowKit
def Tells(w:World)(fv:Value)(p:OpT→Bool):Prop:=∀ x w',Below w.heap.size w w'→callW Tryz.prog fv [.agg x.enc.toArray] w' fun u w''=>u=.bool (p x)∧Below w'.heap.size w' w''
def firstI(p:OpT→Bool)(l:List OpT):Int:=match l.findIdx? p with | some i=>i | none => -1
theorem firstI_at{p:OpT→Bool}{l:List OpT}{k:Nat}(h:k<l.length)(hp:p l[k]=true)(hb:∀ j,(h:j<l.length)→j<k→p l[j]=false):firstI p l=k:=by
 unfold firstI
 rw [List.findIdx?_eq_some_iff_getElem.2 ⟨h,hp,fun j hj=>by rw [hb j (by omega) hj]; decide⟩]
theorem firstI_none{p:OpT→Bool}{l:List OpT}(hb:∀ j,(h:j<l.length)→p l[j]=false):firstI p l = -1:=by
 unfold firstI
 rw [List.findIdx?_eq_none_iff.2 fun x hx=>by obtain ⟨j,hj,rfl⟩:=List.mem_iff_getElem.1 hx; exact hb j hj]
theorem firstI_any{p:OpT→Bool}{l:List OpT}:decide (0≤firstI p l)=l.any p:=by
 rcases h:l.any p with _ | _
 ·rw [firstI_none fun j hj=>by simpa using (List.any_eq_false.1 h) _ (List.getElem_mem hj)]; decide
 ·unfold firstI
  cases e:l.findIdx? p with
  | none=>rw [List.findIdx?_eq_none_iff] at e; obtain ⟨x,hx,hp⟩:=List.any_eq_true.1 h; rw [e x hx] at hp; cases hp
  | some i=>exact decide_eq_true (by show (0:Int)≤(i:Int); omega)
theorem indexFunc_ok(fv:Value)(p:OpT→Bool)(v:Value)(l:List OpT)(w:World)(h:RdS w 11 OpT.enc v l)(hf:Tells w fv p)(hl:(l.length:Int)≤9223372036854775806) :
  Ret Tryz.prog 38 [v,fv] w fun u w'=>u=.int .i64 (firstI p l)∧Below w.heap.size w w':=by
 obtain ⟨a,c,rfl,_⟩:=h.form
 refine ent38 _ _ _ _ ?_
 simp (disch:=first|omega|exact zF rfl|exact zG rfl|exact fun h=>h|(simp only[zA,zB,zC,zD,bytesW];omega)) only[go_sem]
 refine W_loopU (fun k:Nat=>[(8,.int .i64 k)]) (fun k w'=>Below w.heap.size w w'∧k≤l.length∧∀ j,(h:j<l.length)→j<k→p l[j]=false) (fun k=>l.length - k) 0 rfl ⟨Below.refl _ _,Nat.zero_le _,fun j _ h=>by omega⟩ ?_
 rintro k w1 ⟨hw,hk,he⟩
 by_cases hlt:k<l.length
 ·obtain ⟨q,rfl⟩:=h.ptr (by omega)
  have ek:=h.eltB hw OpT.len (by decide) hlt
  have ck:=cellsO_below hw (h.at OpT.len hlt)
  have hlt':(k:Int)<l.length:=by omega
  simp (disch:=first|omega|exact zF rfl|exact zG rfl|exact fun h=>h|(simp only[zA,zB,zC,zD,bytesW];omega)) only[go_sem,hlt',ck,ek]
  refine ⟨by omega,callW_mono (hf _ _ hw) ?_⟩
  rintro _ w2 ⟨rfl,hb⟩
  simp (disch:=first|omega|exact zF rfl|exact zG rfl|exact fun h=>h|(simp only[zA,zB,zC,zD,bytesW];omega)) only[go_sem,hlt']
  have hwt:=hw.trans (hb.mono hw.size)
  refine ⟨fun hp=>⟨(firstI_at hlt hp he).symm,hwt⟩,fun hp=>⟨⟨by omega,by omega⟩,k+1,rfl,⟨hwt,by omega,fun j h1 h2=>?_⟩,by omega⟩⟩
  rcases Nat.lt_or_ge j k with h' | h'
  ·exact he j h1 h'
  ·obtain rfl:j=k:=by omega
   exact hp
 ·have hlt':¬ (k:Int)<l.length:=by omega
  simp (disch:=first|omega|exact zF rfl|exact zG rfl|exact fun h=>h|(simp only[zA,zB,zC,zD,bytesW];omega)) only[go_sem,hlt']
  exact ⟨(firstI_none fun j h=>he j h (by omega)).symm,hw⟩
theorem containsFunc_ok(fv:Value)(p:OpT→Bool)(v:Value)(l:List OpT)(w:World)(h:RdS w 11 OpT.enc v l)(hf:Tells w fv p)(hl:(l.length:Int)≤9223372036854775806) :
  Ret Tryz.prog 42 [v,fv] w fun u w'=>u=.bool (l.any p)∧Below w.heap.size w w':=by
 refine ent42 _ _ _ _ ?_
 simp (disch:=first|omega|exact zF rfl|exact zG rfl|exact fun h=>h|(simp only[zA,zB,zC,zD,bytesW];omega)) only[go_sem]
 refine Ret.mono (indexFunc_ok _ p _ _ _ h hf hl) ?_
 rintro _ w1 ⟨rfl,hb⟩
 simp (disch:=first|omega|exact zF rfl|exact zG rfl|exact fun h=>h|(simp only[zA,zB,zC,zD,bytesW];omega)) only[go_sem]
 exact ⟨firstI_any,hb⟩
theorem isNaN_ok(a:Int)(w:World):Ret Tryz.prog 82 [.int .i64 a] w fun u w'=>u=.bool false∧w'=w:=by
 refine ent82 _ _ _ ?_
 simp (disch:=first|omega|exact zF rfl|exact zG rfl|exact fun h=>h|(simp only[zA,zB,zC,zD,bytesW];omega)) only[go_sem]
theorem compare_ok(a b:Int)(w:World):Ret Tryz.prog 53 [.int .i64 a,.int .i64 b] w fun u w'=>u=.int .i64 (cmpI a b)∧w'=w:=by
 refine ent53 _ _ _ _ ?_
 simp (disch:=first|omega|exact zF rfl|exact zG rfl|exact fun h=>h|(simp only[zA,zB,zC,zD,bytesW];omega)) only[go_sem]
 refine Ret.mono (isNaN_ok _ _) ?_
 rintro _ _ ⟨rfl,rfl⟩
 simp (disch:=first|omega|exact zF rfl|exact zG rfl|exact fun h=>h|(simp only[zA,zB,zC,zD,bytesW];omega)) only[go_sem]
 refine Ret.mono (isNaN_ok _ _) ?_
 rintro _ _ ⟨rfl,rfl⟩
 simp (disch:=first|omega|exact zF rfl|exact zG rfl|exact fun h=>h|(simp only[zA,zB,zC,zD,bytesW];omega)) only[go_sem]
 unfold cmpI
 refine ⟨fun h=>by rw [if_pos h],fun h=>⟨fun h2=>by rw [if_neg (by omega),if_pos h2],fun h2=>by rw [if_neg (by omega),if_neg (by omega)]⟩⟩
theorem find_at{α:Type}{p:α→Bool}:∀ {l:List α} {k:Nat} (h:k<l.length),p l[k]=true→(∀ j,(h:j<l.length)→j<k→p l[j]=false)→l.find? p=some l[k]
 | a::l,0,h,hp,_=>by rw [List.find?_cons_of_pos (by exact hp)]; rfl
 | a::l,k+1,h,hp,hb=>by
  rw [List.find?_cons_of_neg (by have:=hb 0 (by simp) (by omega); exact Bool.eq_false_iff.1 this)]
  exact find_at (l:=l) (k:=k) (by simpa using h) hp fun j h1 h2=>hb (j+1) (by simpa using h1) (by omega)
theorem or_ok(v:Value)(l:List Int)(w:World)(h:RdS w 1 (fun n=>[.int .i64 n]) v l)(hl:(l.length:Int)≤9223372036854775806) :
  Ret Tryz.prog 52 [v] w fun u w'=>u=.int .i64 ((l.find? (·≠0)).getD 0)∧w'=w:=by
 obtain ⟨a,c,rfl,_⟩:=h.form
 refine ent52 _ _ _ ?_
 simp (disch:=first|omega|exact zF rfl|exact zG rfl|exact fun h=>h|(simp only[zA,zB,zC,zD,bytesW];omega)) only[go_sem]
 refine W_loopU (fun k:Nat=>[(8,.int .i64 k)]) (fun k w'=>w'=w∧k≤l.length∧∀ j,(h:j<l.length)→j<k→l[j]=0) (fun k=>l.length - k) 0 rfl ⟨rfl,Nat.zero_le _,fun j _ h=>by omega⟩ ?_
 rintro k _ ⟨rfl,hk,he⟩
 by_cases hlt:k<l.length
 ·obtain ⟨q,rfl⟩:=h.ptr (by omega)
  have ck:=h.at1 (e1:=fun n=>.int .i64 n) hlt
  have hlt':(k:Int)<l.length:=by omega
  simp (disch:=first|omega|exact zF rfl|exact zG rfl|exact fun h=>h|(simp only[zA,zB,zC,zD,bytesW];omega)) only[go_sem,hlt',ck]
  refine ⟨by omega,fun hne=>?_,fun h0=>⟨⟨by omega,by omega⟩,k+1,rfl,⟨by omega,fun j h1 h2=>?_⟩,by omega⟩⟩
  ·rw [find_at hlt (by simpa using hne) fun j h h2=>by simpa using he j h h2]; rfl
  ·rcases Nat.lt_or_ge j k with h' | h'
   ·exact he j h1 h'
   ·obtain rfl:j=k:=by omega
    exact h0
 ·have hlt':¬ (k:Int)<l.length:=by omega
  simp (disch:=first|omega|exact zF rfl|exact zG rfl|exact fun h=>h|(simp only[zA,zB,zC,zD,bytesW];omega)) only[go_sem,hlt']
  rw [List.find?_eq_none.2 fun x hx=>by obtain ⟨j,hj,rfl⟩:=List.mem_iff_getElem.1 hx; simpa using he j hj (by omega)]
  rfl
end Go.Proofs.YtoadmihnihfjkaaGreat.Cut

namespace Go.Proofs.YtoadmihnihfjkaaGreat.Cut
open Go Go.Ann Go.RowKit
def Gr(w w':World):Prop:=∃ q os,w'=Go.Sort.grow (w.drewN q) os
theorem Gr.refl(w:World):Gr w w:=⟨0,#[],by rw [Go.Sort.grow_empty]; rfl⟩
theorem Gr.alloc{w w':World}(h:Gr w w')(o:Obj):Gr w (w'.alloc o):=by
 obtain ⟨q,os,rfl⟩:=h
 exact ⟨q,os++#[o],by rw [Go.Sort.alloc_eq_grow,Go.Sort.grow_grow]⟩
theorem Gr.drew{w w':World}(h:Gr w w'):Gr w w'.drew:=by
 obtain ⟨q,os,rfl⟩:=h
 exact ⟨q+1,os,rfl⟩
theorem Gr.trans{a b c:World}(h:Gr a b)(k:Gr b c):Gr a c:=by
 obtain ⟨q,os,rfl⟩:=h
 obtain ⟨r,ps,rfl⟩:=k
 exact ⟨q+r,os++ps,by rw [← Go.Sort.grow_grow]; show Go.Sort.grow (Go.Sort.grow ((a.drewN q).drewN r) os) ps=_; rw [World.drewN_drewN]⟩
theorem Gr.below{w w':World}(h:Gr w w'):Below w.heap.size w w':=by
 obtain ⟨q,os,rfl⟩:=h
 refine ⟨rfl,rfl,rfl,?_,fun k hk=>?_⟩
 ·show w.heap.size≤(w.heap++os).size
  rw [Array.size_append]; omega
 ·show (w.heap++os)[k]?=_
  rw [Array.getElem?_append_left hk]
theorem ints2_new{w:World}{b:Nat}{t:TypeId}(x y:Int)(hb:b=w.heap.size):RdS (w.alloc (.cells #[.int .i64 x,.int .i64 y] t)) 1 (fun n=>[.int .i64 n]) (.slice (some ⟨b,0,none⟩) 2 2) [x,y]:=by
 subst hb
 exact rd_new (n:=2) (cs:=#[.int .i64 x,.int .i64 y]) rfl
end Go.Proofs.YtoadmihnihfjkaaGreat.Cut

namespace Go.Proofs.YtoadmihnihfjkaaGreat.Cut
open Go Go.Ann Go.RowKit
theorem sortnil1(fv:Value)(w:World):Ret Tryz.prog 102 [.slice none 0 0,.int .i64 0,.int .i64 0,fv] w fun u w'=>w'=w:=by
 refine ent102 _ _ _ _ _ _ ?_
 simp (disch:=first|omega|exact zF rfl|exact zG rfl|exact fun h=>h|(simp only[zA,zB,zC,zD,bytesW];omega)) only[go_sem]
 refine ⟨⟨by decide,by decide⟩,?_⟩
 refine W_loopU (fun _:Unit=>[]) (fun _ w'=>w'=w) (fun _=>0) () rfl rfl ?_
 rintro _ _ rfl
 simp (disch:=first|omega|exact zF rfl|exact zG rfl|exact fun h=>h|(simp only[zA,zB,zC,zD,bytesW];omega)) only[go_sem]
theorem sortnil2(fv:Value)(l:Int)(w:World):Ret Tryz.prog 80 [.slice none 0 0,.int .i64 0,.int .i64 0,.int .i64 l,fv] w fun u w'=>w'=w:=by
 refine ent80 _ _ _ _ _ _ _ ?_
 simp (disch:=first|omega|exact zF rfl|exact zG rfl|exact fun h=>h|(simp only[zA,zB,zC,zD,bytesW];omega)) only[go_sem]
 refine W_loopU (fun _:Unit=>[]) (fun _ w'=>w'=w) (fun _=>0) () rfl rfl ?_
 rintro _ _ rfl
 simp (disch:=first|omega|exact zF rfl|exact zG rfl|exact fun h=>h|(simp only[zA,zB,zC,zD,bytesW];omega)) only[go_sem]
 refine ⟨⟨by decide,by decide⟩,Ret.mono (sortnil1 _ _) ?_⟩
 rintro _ _ rfl
 simp (disch:=first|omega|exact zF rfl|exact zG rfl|exact fun h=>h|(simp only[zA,zB,zC,zD,bytesW];omega)) only[go_sem]
theorem sortnil(fv:Value)(w:World):Ret Tryz.prog 50 [.slice none 0 0,fv] w fun u w'=>w'=w:=by
 refine ent50 _ _ _ _ ?_
 simp (disch:=first|omega|exact zF rfl|exact zG rfl|exact fun h=>h|(simp only[zA,zB,zC,zD,bytesW];omega)) only[go_sem]
 have hb:=Any.bits_Len (SlLaysF0.n15.bits (P:=Tryz.prog) (ρ:=laySortOps_ren) { laySortOps with }) 0 w (by omega) (by omega)
 have hb':Ret Tryz.prog 81 [.int .u64 (IntKind.u64.wrap 0)] w fun u w'=>u=.int .i64 (Lib.bitLen 0:Nat)∧w'=w:=hb.mono fun e w' ⟨h1,h2⟩=>⟨_,h1,rfl,h2⟩
 refine Ret.mono hb' ?_
 rintro _ _ ⟨rfl,rfl⟩
 simp (disch:=first|omega|exact zF rfl|exact zG rfl|exact fun h=>h|(simp only[zA,zB,zC,zD,bytesW];omega)) only[go_sem]
 refine Ret.mono (sortnil2 _ _ _) ?_
 rintro _ _ rfl
 simp (disch:=first|omega|exact zF rfl|exact zG rfl|exact fun h=>h|(simp only[zA,zB,zC,zD,bytesW];omega)) only[go_sem]
theorem flatK_eq{α:Type}[Inhabited α]{enc:α→List Value}{k:Nat}(hk:∀ x,(enc x).length=k)(d:Array α):(Go.Sort.flatK enc k d).toList=d.toList.flatMap enc:=by
 have hl:(d.toList.flatMap enc).length=d.size * k:=by
  rw [List.length_flatMap,← Array.length_toList]
  generalize d.toList=l
  induction l with
  | nil=>simp
  | cons a l ih=>rw [List.map_cons,List.sum_cons,ih,hk,List.length_cons,Nat.add_mul]; omega
 refine List.ext_getElem (by rw [hl,Array.length_toList,Go.Sort.size_flatK]) fun t h1 h2=>?_
 have ht:t<d.size * k:=by omega
 have hk0:0<k:=Nat.pos_of_ne_zero fun h=>by subst h; omega
 have hi:t / k<d.size:=(Nat.div_lt_iff_lt_mul hk0).2 ht
 have hj:t % k<k:=Nat.mod_lt _ hk0
 have a:=Go.Sort.get_flatK enc k d t ht
 rw [getElem!_pos d _ hi,getElem!_pos (enc _) _ (by rw [hk]; exact hj),getElem!_pos _ _ (by rw [Go.Sort.size_flatK]; exact ht)] at a
 rw [Array.getElem_toList,a]
 have b:=flatten_at (sz:=k) (d.toList.map enc) (t / k) (t % k) (enc d[t / k]) ((enc d[t / k])[t % k]'(by rw [hk]; exact hj)) (fun c hc=>by obtain ⟨x,_,rfl⟩:=List.mem_map.1 hc; exact hk x) (by rw [List.getElem?_map,List.getElem?_eq_getElem (by simpa using hi)]; rfl) (List.getElem?_eq_getElem _)
 rw [show t / k * k+t % k=t by rw [Nat.mul_comm]; exact Nat.div_add_mod t k] at b
 have c:(d.toList.flatMap enc)[t]?=some ((enc d[t / k])[t % k]'(by rw [hk]; exact hj)):=b
 rw [List.getElem?_eq_getElem h2] at c
 exact (Option.some.inj c).symm
theorem own_holdsK{α:Type}[Inhabited α]{enc:α→List Value}{k B e g n cap:Nat}{w:World}{d:Array α}(hk:∀ x,(enc x).length=k)(hd:d.size=n)(h:w.ownsRow B e k (.slice (some ⟨g,0,none⟩) n cap) n (d.toList.flatMap enc)) :
  Go.Sort.HoldsK enc k w g 0 d:=by
 obtain ⟨hl,⟨h0,_⟩ | ⟨g',cap',cur,he,hB,hb,hc,hm,hs,hx⟩⟩:=h
 ·cases h0
 cases he
 have hblk:Blk w g cur e:=hb
 intro j hj
 rw [Go.Sort.size_flatK] at hj
 have hj':j<(Go.Sort.flatK enc k d).size:=by rw [Go.Sort.size_flatK]; exact hj
 refine ⟨?_,hblk.frozen _⟩
 rw [hblk.cell,Nat.zero_add,getElem!_pos (Go.Sort.flatK enc k d) j hj']
 have e1:=flatK_eq hk d
 rw [← hx] at e1
 have e2:(Go.Sort.flatK enc k d).toList[j]?=(cur.toList.take (n * k))[j]?:=by rw [e1]
 rw [List.getElem?_take_of_lt (by rw [← hd]; exact hj),Array.getElem?_toList,Array.getElem?_toList,Array.getElem?_eq_getElem hj'] at e2
 exact e2.symm
theorem own_sorted{α:Type}[Inhabited α]{enc:α→List Value}{k B e g n cap:Nat}{w:World}{d:Array α}(hk:∀ x,(enc x).length=k)(hd:d.size=n)(h:w.ownsRow B e k (.slice (some ⟨g,0,none⟩) n cap) n (d.toList.flatMap enc))
  (m:Nat) (d':Array α) (os:Array Obj) (hd':d'.size=n):(sortWorldK enc k w g 0 m d' os).ownsRow B e k (.slice (some ⟨g,0,none⟩) n cap) n (d'.toList.flatMap enc)∧Chg (fun k=>k=g) w (sortWorldK enc k w g 0 m d' os):=by
 obtain ⟨hl,⟨h0,_⟩ | ⟨g',cap',cur,he,hB,hb,hc,hm,hs,hx⟩⟩:=h
 ·cases h0
 cases he
 have hg:g<w.heap.size:=(Array.getElem?_eq_some_iff.1 hb).1
 have hh:(sortWorldK enc k w g 0 m d' os).heap=w.heap.modify g (Go.Sort.onCells (Go.Sort.putCells id 0 (Go.Sort.flatK enc k d')))++os:=rfl
 have hgb:(sortWorldK enc k w g 0 m d' os).heap[g]?=some (.cells (Go.Sort.putCells id 0 (Go.Sort.flatK enc k d') cur) e (0,0)):=by
  rw [hh,Array.getElem?_append_left (by rw [Array.size_modify]; exact hg),Array.getElem?_modify,if_pos rfl,hb]
  rfl
 have e1:=flatK_eq hk d'
 have hle:n * k≤cap * k:=Nat.mul_le_mul_right _ hc
 refine ⟨⟨by rw [← e1,Array.length_toList,Go.Sort.size_flatK,hd'],.inr ⟨g,cap,_,rfl,hB,hgb,hc,hm,by unfold Go.Sort.putCells; rw [Array.size_mapIdx]; exact hs,?_⟩⟩,rfl,rfl,rfl,?_,fun j hj hne=>?_⟩
 ·rw [← e1]
  refine List.ext_getElem (by simp only [Go.Sort.putCells,List.length_take,Array.length_toList,Array.size_mapIdx,Go.Sort.size_flatK,hs,hd']; omega) fun t h1 h2=>?_
  rw [Array.length_toList,Go.Sort.size_flatK,hd'] at h2
  rw [List.getElem_take,Array.getElem_toList,Array.getElem_toList]
  unfold Go.Sort.putCells
  rw [Array.getElem_mapIdx,if_pos ⟨Nat.zero_le _,by rw [Go.Sort.size_flatK,hd']; omega⟩,Nat.sub_zero,getElem!_pos (Go.Sort.flatK enc k d') t (by rw [Go.Sort.size_flatK,hd']; exact h2)]
  rfl
 ·rw [hh,Array.size_append,Array.size_modify]; omega
 ·rw [hh,Array.getElem?_append_left (by rw [Array.size_modify]; exact hj),Array.getElem?_modify,if_neg (fun e=>hne e.symm)]
theorem sort_ok(cf:OpT→OpT→Int)(g:Nat)(eg:∀ args w,(callFunc g args).run Tryz.prog w=.ok (.enter g args) w)(hO:Go.Sort.SWO (ltOf cf))(hf:∀ a b w,Ret Tryz.prog g [.agg a.enc.toArray,.agg b.enc.toArray] w fun u w'=>u=.int .i64 (cf a b)∧Gr w w')
  (v:Value) (l:List OpT) (w:World) (B:Nat) (h:w.ownsRow B 52 11 v l.length (l.flatMap OpT.enc)) (hl:l.length≤100) :
  Ret Tryz.prog 50 [v,.func (.func g) #[] #[]] w fun _ w'=>∃ l',Sorts cf l l'∧w'.ownsRow B 52 11 v l.length (l'.flatMap OpT.enc)∧Chg (fun k=>v.ownBlock=some k) w w':=by
 obtain ⟨hlen,⟨rfl,h0⟩ | ⟨g',cap,cur,rfl,hB,hb,hc,hm,hs,hx⟩⟩:=id h
 ·refine Ret.mono (sortnil _ _) ?_
  rintro _ _ rfl
  have hl0:l=[]:=List.eq_nil_of_length_eq_zero h0
  subst hl0
  exact ⟨[],⟨List.Perm.refl _,List.Pairwise.nil⟩,h,Chg.refl _ _⟩
 have hcl:CmpLays Tryz.prog g #[] OpT.enc 11 cf g' 0 l.toArray.size w:=fun m os dk hdk x y=>by
  have e:=hf x y (sortWorldK OpT.enc 11 w g' 0 m dk os)
  unfold Ret at e
  rw [Array.append_empty]
  exact e.mono fun e w' ⟨u,h1,h2,h3⟩=>⟨by rw [h1,h2],h3⟩
 have hH:Go.Sort.HoldsK OpT.enc 11 w g' 0 l.toArray:=own_holdsK OpT.len (by simp) h
 have hs:=AnyQ.slices_SortFunc laySortOps 11 Tryz.isAgg52 Tryz.sizeOf52 OpT.enc OpT.len OpT.one cf hO g #[] g' 0 cap l.toArray w eg hcl hH (Array.getElem?_eq_some_iff.1 hb).1 (by simp; omega)
 refine hs.mono ?_
 rintro e w' ⟨rfl,d',n,os,hp,hs,rfl⟩
 have hsz:d'.size=l.length:=hp.1
 obtain ⟨o1,o2⟩:=own_sorted OpT.len (by simp) (show w.ownsRow B 52 11 (.slice (some ⟨g',0,none⟩) l.length cap) l.length (l.toArray.toList.flatMap OpT.enc) from h) n d' os hsz
 refine ⟨_,rfl,d'.toList,⟨?_,?_⟩,o1,o2.mono fun k _ e=>by rw [e]; rfl⟩
 ·have:=hp.2.2
  simp only [List.size_toArray] at this
  rw [Array.extract_eq_self_of_le (by omega),Array.extract_eq_self_of_le (by simp)] at this
  exact this
 ·rw [List.pairwise_iff_getElem]
  intro i j hi hj hij
  have:=hs i j (Nat.zero_le _) hij (by simpa [hsz] using hj)
  rw [getElem!_pos d' i (by simpa using hi),getElem!_pos d' j (by simpa using hj)] at this
  simpa [ltOf] using this
end Go.Proofs.YtoadmihnihfjkaaGreat.Cut

namespace Go.Proofs.YtoadmihnihfjkaaGreat.Cut
open Go Go.Ann Go.RowKit
theorem swo_ear:Go.Sort.SWO (ltOf earI) where
 irrefl x:=by rw [lt_ear]; exact decide_eq_false (by omega)
 trans x y z h1 h2:=by rw [lt_ear,decide_eq_true_eq] at *; omega
 ntrans x y z h1 h2:=by rw [lt_ear,decide_eq_false_iff_not] at *; omega
def Cuts(W0 w:World)(more:List Res)(I0:List Inv)(vo:Value)(acc:List Seg):Prop :=
 (acc=[]∧vo=.slice none 0 0∧St W0 w (fun _=>False) more I0) ∨
 ∃ ini s vs vl,acc=ini++[s]∧vs.length=ini.length∧(∀ v∈vs,∀ k,slFoot v k→W0.heap.size≤k)∧St W0 w (fun _=>False) (.row vl 52 11 s.ops.length (s.ops.flatMap OpT.enc)::.row vo 47 3 (ini.length+1) (segCells ini vs++segC s vl)::more) (segInvs ini vs++I0)
theorem Cuts.form{W0 w:World}{more:List Res}{I0:List Inv}{vo:Value}{acc:List Seg}(h:Cuts W0 w more I0 vo acc):∃ a c,vo=.slice a acc.length c:=by
 rcases h with ⟨rfl,rfl,_⟩ | ⟨ini,s,vs,vl,rfl,_,_,h⟩
 ·exact ⟨_,_,rfl⟩
 ·obtain ⟨a,c,rfl,_⟩:=own_slice (h.row 1 rfl)
  exact ⟨a,c,by rw [List.length_append]; rfl⟩
theorem own_mono{w:World}{B B' e sz n:Nat}{v:Value}{xs:List Value}(h:w.ownsRow B e sz v n xs)(hb:B'≤B):w.ownsRow B' e sz v n xs:=by
 obtain ⟨h1,h2 | ⟨g,cap,cur,h3,h4,h5⟩⟩:=h
 ·exact ⟨h1,.inl h2⟩
 ·exact ⟨h1,.inr ⟨g,cap,cur,h3,by omega,h5⟩⟩
end Go.Proofs.YtoadmihnihfjkaaGreat.Cut

namespace Go.Proofs.YtoadmihnihfjkaaGreat.Cut
open Go Go.Ann Go.RowKit
def objQ(s:Seg)(o:OpT):Bool:=!decide (s.obj=o.Object)
def objMk(o:OpT):Int × Int:=(o.Object,o.Kind)
structure Seen(r:List OpT)(acc:List Seg):Prop where
 up:acc.Pairwise fun a b=>a.obj<b.obj
 ops:∀ s∈acc,s.ops=ofObj s.obj r
 kind:∀ s∈acc,∃ o r,s.ops=o::r∧s.kind=o.Kind
 all:∀ o∈r,∃ s∈acc,s.obj=o.Object
 top:∀ s∈acc,∃ o∈r,s.obj=o.Object
theorem ofObj_append(x:Int)(a b:List OpT):ofObj x (a++b)=ofObj x a++ofObj x b:=List.filter_append ..
theorem ofObj_one(x:Int)(o:OpT):ofObj x [o]=if o.Object=x then [o] else []:=by unfold ofObj; by_cases h:o.Object=x <;> simp [h]
theorem Seen.step{r:List OpT}{acc:List Seg}(h:Seen r acc)(o:OpT)(hle:∀ x∈r,x.Object≤o.Object):Seen (r++[o]) (cutStep objQ objMk acc o):=by
 have low:∀ s∈acc,s.obj≤o.Object:=fun s hs=>by obtain ⟨x,hx,e⟩:=h.top s hs; rw [e]; exact hle x hx
 have fresh:(∀ s∈acc,s.obj<o.Object)→Seen (r++[o]) (acc++[⟨o.Object,o.Kind,[o]⟩]):=by
  intro hlt
  have hno:ofObj o.Object r=[]:=by
   unfold ofObj
   rw [List.filter_eq_nil_iff]
   intro x hx
   obtain ⟨s,hs,e⟩:=h.all x hx
   have:=hlt s hs
   simp; omega
  refine ⟨?_,fun s hs=>?_,fun s hs=>?_,fun x hx=>?_,fun s hs=>?_⟩
  ·rw [List.pairwise_append]
   refine ⟨h.up,List.pairwise_singleton _ _,fun a ha b hb=>?_⟩
   simp only [List.mem_singleton] at hb; subst hb
   exact hlt a ha
  ·rcases List.mem_append.1 hs with hs | hs
   ·rw [ofObj_append,← h.ops s hs,ofObj_one,if_neg (by have:=hlt s hs; omega),List.append_nil]
   ·simp only [List.mem_singleton] at hs; subst hs
    rw [ofObj_append,hno,ofObj_one,if_pos rfl]; rfl
  ·rcases List.mem_append.1 hs with hs | hs
   ·exact h.kind s hs
   ·simp only [List.mem_singleton] at hs; subst hs; exact ⟨o,[],rfl,rfl⟩
  ·rcases List.mem_append.1 hx with hx | hx
   ·obtain ⟨s,hs,e⟩:=h.all x hx
    exact ⟨s,List.mem_append_left _ hs,e⟩
   ·simp only [List.mem_singleton] at hx; subst hx
    exact ⟨_,List.mem_append_right _ (List.mem_singleton_self _),rfl⟩
  ·rcases List.mem_append.1 hs with hs | hs
   ·obtain ⟨x,hx,e⟩:=h.top s hs
    exact ⟨x,List.mem_append_left _ hx,e⟩
   ·simp only [List.mem_singleton] at hs; subst hs
    exact ⟨o,List.mem_append_right _ (List.mem_singleton_self _),rfl⟩
 rcases List.eq_nil_or_concat acc with rfl | ⟨ini,s,he⟩
 ·exact fresh fun s hs=>by cases hs
 ·rw [List.concat_eq_append] at he
  subst he
  have hup:=List.pairwise_append.1 h.up
  have hslow:=low s (by simp)
  by_cases hso:s.obj=o.Object
  ·rw [cutStep_old _ _ (by unfold objQ; simp [hso])]
   have hini:∀ t∈ini,t.obj<s.obj:=fun t ht=>hup.2.2 t ht s (by simp)
   refine ⟨?_,fun t ht=>?_,fun t ht=>?_,fun x hx=>?_,fun t ht=>?_⟩
   ·rw [List.pairwise_append]
    refine ⟨hup.1,List.pairwise_singleton _ _,fun a ha b hb=>?_⟩
    simp only [List.mem_singleton] at hb; subst hb
    exact hini a ha
   ·rcases List.mem_append.1 ht with ht | ht
    ·rw [ofObj_append,← h.ops t (List.mem_append_left _ ht),ofObj_one,if_neg (by have:=hini t ht; omega),List.append_nil]
    ·simp only [List.mem_singleton] at ht; subst ht
     simp only
     rw [ofObj_append,← h.ops s (by simp),ofObj_one,if_pos hso.symm]
   ·rcases List.mem_append.1 ht with ht | ht
    ·exact h.kind t (List.mem_append_left _ ht)
    ·simp only [List.mem_singleton] at ht; subst ht
     obtain ⟨x,y,e,hk⟩:=h.kind s (by simp)
     exact ⟨x,y++[o],by simp only; rw [e]; rfl,hk⟩
   ·rcases List.mem_append.1 hx with hx | hx
    ·obtain ⟨t,ht,e⟩:=h.all x hx
     rcases List.mem_append.1 ht with ht | ht
     ·exact ⟨t,List.mem_append_left _ ht,e⟩
     ·simp only [List.mem_singleton] at ht; subst ht
      exact ⟨_,List.mem_append_right _ (List.mem_singleton_self _),e⟩
    ·simp only [List.mem_singleton] at hx; subst hx
     exact ⟨_,List.mem_append_right _ (List.mem_singleton_self _),hso⟩
   ·rcases List.mem_append.1 ht with ht | ht
    ·obtain ⟨x,hx,e⟩:=h.top t (List.mem_append_left _ ht)
     exact ⟨x,List.mem_append_left _ hx,e⟩
    ·simp only [List.mem_singleton] at ht; subst ht
     exact ⟨o,List.mem_append_right _ (List.mem_singleton_self _),hso⟩
  ·rw [cutStep_new _ _ (by unfold objQ; simp [hso])]
   refine fresh fun t ht=>?_
   rcases List.mem_append.1 ht with ht | ht
   ·have:=hup.2.2 t ht s (by simp); omega
   ·simp only [List.mem_singleton] at ht; subst ht; omega
theorem seen_fold:∀ (b a:List OpT) (acc:List Seg),Seen a acc→(a++b).Pairwise (fun x y=>x.Object≤y.Object)→Seen (a++b) (b.foldl (cutStep objQ objMk) acc)
 | [],a,acc,h,_=>by rw [List.append_nil]; exact h
 | o::b,a,acc,h,hp=>by
  have:=seen_fold b (a++[o]) _ (h.step o fun x hx=>(List.pairwise_append.1 hp).2.2 x hx o List.mem_cons_self) (by rw [List.append_assoc]; exact hp)
  rw [List.append_assoc] at this
  exact this
theorem objects_by{l r:List OpT}(h:Sorts objI l r):ByObj l (r.foldl (cutStep objQ objMk) []):=by
 have hp:r.Pairwise fun x y=>x.Object≤y.Object:=h.2.imp fun {a b} e=>by rw [obj_neg] at e; omega
 have s:=seen_fold r [] [] ⟨List.Pairwise.nil,(fun s h=>by cases h),(fun s h=>by cases h),(fun s h=>by cases h),(fun s h=>by cases h)⟩ hp
 rw [List.nil_append] at s
 refine ⟨s.up,fun t ht=>⟨?_,?_⟩,s.kind,fun o ho=>s.all o (h.1.mem_iff.2 ho)⟩
 ·rw [s.ops t ht]; exact h.1.filter _
 ·rw [s.ops t ht]
  have h2:(ofObj t.obj r).Pairwise fun a b=>¬ objI b a<0:=h.2.sublist List.filter_sublist
  refine List.Pairwise.imp_of_mem ?_ h2
  intro a b ha hb e
  have ea:=(List.mem_filter.1 ha).2
  have eb:=(List.mem_filter.1 hb).2
  rw [decide_eq_true_eq] at ea eb
  rw [obj_neg] at e
  rw [ear_neg]
  omega
end Go.Proofs.YtoadmihnihfjkaaGreat.Cut

namespace Go.Proofs.YtoadmihnihfjkaaGreat.Cut
open Go Go.Ann Go.RowKit Go.WideShapes
def ofProc(x:Int)(l:List OpT):List OpT:=l.filter fun o=>decide (o.Proc=x)
structure ByProc(l:List OpT)(acc:List Seg):Prop where
 up:acc.Pairwise fun a b=>a.obj<b.obj
 sorts:∀ s∈acc,Sorts earI (ofProc s.obj l) s.ops
 kind:∀ s∈acc,∃ o r,s.ops=o::r∧s.kind=o.Kind
 all:∀ o∈l,∃ s∈acc,s.obj=o.Proc
def NextP(l:List OpT)(any:Bool)(last:Int)(k:Nat)(found:Bool)(next:Int):Prop :=
 (found=false∧∀ o∈l.take k,any=true∧o.Proc≤last)∨(found=true∧(∃ o∈l.take k,o.Proc=next)∧(any=true→last<next)∧∀ o∈l.take k,(any=true→last<o.Proc)→next≤o.Proc)
def leftP(l:List OpT)(any:Bool)(last:Int):List OpT:=l.filter fun o=>!any || decide (last<o.Proc)
structure PartP(l:List OpT)(acc:List Seg)(any:Bool)(last:Int):Prop where
 up:acc.Pairwise fun a b=>a.obj<b.obj
 sorts:∀ s∈acc,Sorts earI (ofProc s.obj l) s.ops
 kind:∀ s∈acc,∃ o r,s.ops=o::r∧s.kind=o.Kind
 low:∀ s∈acc,any=true∧s.obj≤last
 all:∀ o∈l,o∈leftP l any last∨∃ s∈acc,s.obj=o.Proc
theorem PartP.nil(l:List OpT)(x:Int):PartP l [] false x:=⟨List.Pairwise.nil,(fun s h=>by cases h),(fun s h=>by cases h),(fun s h=>by cases h),fun o h=>.inl (by unfold leftP; simpa using h)⟩
theorem NextP.take{l:List OpT}{any found:Bool}{last next:Int}{k:Nat}(h:NextP l any last k found next)(hk:k<l.length)(h1:any=true→last<l[k].Proc)(h2:found=true→l[k].Proc<next):NextP l any last (k+1) true l[k].Proc:=by
 refine .inr ⟨rfl,⟨_,(mem_take_succ hk).2 (.inr rfl),rfl⟩,h1,fun o ho hlo=>?_⟩
 rcases (mem_take_succ hk).1 ho with ho | rfl
 ·rcases h with ⟨_,h⟩ | ⟨hf,_,_,h⟩
  ·have:=h o ho; have:=hlo this.1; omega
  ·have:=h o ho hlo; have:=h2 hf; omega
 ·exact Int.le_refl _
theorem NextP.skip{l:List OpT}{any found:Bool}{last next:Int}{k:Nat}(h:NextP l any last k found next)(hk:k<l.length)(h1:(any=true∧l[k].Proc≤last)∨(found=true∧next≤l[k].Proc)):NextP l any last (k+1) found next:=by
 rcases h with ⟨hf,h⟩ | ⟨hf,⟨x,hx,hxe⟩,h2,h⟩
 ·subst hf
  refine .inl ⟨rfl,fun o ho=>?_⟩
  rcases (mem_take_succ hk).1 ho with ho | rfl
  ·exact h o ho
  ·rcases h1 with h1 | h1
   ·exact h1
   ·cases h1.1
 ·refine .inr ⟨hf,⟨x,(mem_take_succ hk).2 (.inl hx),hxe⟩,h2,fun o ho hlo=>?_⟩
  rcases (mem_take_succ hk).1 ho with ho | rfl
  ·exact h o ho hlo
  ·rcases h1 with h1 | h1
   ·have:=hlo h1.1; omega
   ·exact h1.2
theorem ofProc_len(x:Int)(l:List OpT):(ofProc x l).length≤l.length:=List.length_filter_le _ _
theorem ofProc_snoc(x:Int){l:List OpT}{k:Nat}(hk:k<l.length):ofProc x (l.take (k+1))=ofProc x (l.take k)++if l[k].Proc=x then [l[k]] else []:=by
 rw [List.take_succ_eq_append_getElem hk]
 unfold ofProc
 rw [List.filter_append]
 by_cases h:l[k].Proc=x
 ·rw [if_pos h]; simp [h]
 ·rw [if_neg h]; simp [h]
theorem PartP.step{l:List OpT}{acc:List Seg}{any:Bool}{last next:Int}{x o:OpT}{r':List OpT}(h:PartP l acc any last)(hx:x∈l)(hxe:x.Proc=next)(hlo:any=true→last<next)(hmin:∀ o∈l,(any=true→last<o.Proc)→next≤o.Proc)(hs:Sorts earI (ofProc next l) (o::r')) :
  PartP l (acc++[⟨next,o.Kind,o::r'⟩]) true next∧(leftP l true next).length<(leftP l any last).length:=by
 refine ⟨⟨?_,fun s hm=>?_,fun s hm=>?_,fun s hm=>?_,fun y hy=>?_⟩,?_⟩
 ·rw [List.pairwise_append]
  refine ⟨h.up,List.pairwise_singleton _ _,fun a ha b hb=>?_⟩
  simp only [List.mem_singleton] at hb; subst hb
  obtain ⟨a1,a2⟩:=h.low a ha
  have:=hlo a1
  simp only; omega
 ·rcases List.mem_append.1 hm with hm | hm
  ·exact h.sorts s hm
  ·simp only [List.mem_singleton] at hm; subst hm; exact hs
 ·rcases List.mem_append.1 hm with hm | hm
  ·exact h.kind s hm
  ·simp only [List.mem_singleton] at hm; subst hm; exact ⟨o,r',rfl,rfl⟩
 ·refine ⟨rfl,?_⟩
  rcases List.mem_append.1 hm with hm | hm
  ·obtain ⟨a1,a2⟩:=h.low s hm
   have:=hlo a1; omega
  ·simp only [List.mem_singleton] at hm; subst hm; exact Int.le_refl _
 ·rcases h.all y hy with hl | ⟨s,hm,he⟩
  ·by_cases hn:y.Proc=next
   ·exact .inr ⟨_,List.mem_append_right _ (List.mem_singleton_self _),hn.symm⟩
   ·unfold leftP at hl ⊢
    rw [List.mem_filter] at hl ⊢
    have:=hmin y hy fun ha=>by have:=hl.2; rw [ha] at this; simpa using this
    exact .inl ⟨hy,by simp; omega⟩
  ·exact .inr ⟨s,List.mem_append_left _ hm,he⟩
 ·have hsub:(leftP l true next)=(leftP l any last).filter fun o=>decide (next<o.Proc):=by
   unfold leftP
   rw [List.filter_filter]
   apply List.filter_congr
   intro y hy
   cases any with
   | false=>simp
   | true=>have:=hlo rfl; simp; omega
  rw [hsub]
  refine List.length_filter_lt_length_iff_exists.2 ⟨x,?_,?_⟩
  ·unfold leftP
   rw [List.mem_filter]
   refine ⟨hx,?_⟩
   cases any with
   | false=>rfl
   | true=>have:=hlo rfl; simp; omega
  ·simp; omega
theorem byProc_unique{l:List OpT}(hp:Pure l):∀ {a b:List Seg},ByProc l a→ByProc l b→a=b:=by
 intro a b ha hb
 have mem:∀ {a b:List Seg},ByProc l a→ByProc l b→∀ s∈a,s∈b:=by
  intro a b ha hb s hs
  obtain ⟨o,r,e,hk⟩:=ha.kind s hs
  have ho:o∈ofProc s.obj l:=(ha.sorts s hs).1.mem_iff.1 (by rw [e]; exact List.mem_cons_self)
  unfold ofProc at ho
  rw [List.mem_filter,decide_eq_true_eq] at ho
  obtain ⟨t,ht,hto⟩:=hb.all o ho.1
  have heq:t.obj=s.obj:=hto.trans ho.2
  have hops:t.ops=s.ops:=by
   have h1:=hb.sorts t ht
   rw [heq] at h1
   refine sorts_unique (l:=ofProc s.obj l) (fun x hx y hy=>hp x ?_ y ?_) h1 (ha.sorts s hs)
   ·exact (List.mem_filter.1 hx).1
   ·exact (List.mem_filter.1 hy).1
  obtain ⟨o2,r2,e2,hk2⟩:=hb.kind t ht
  have:t=s:=by
   rw [hops,e] at e2
   cases t; cases s
   simp only at heq hops hk hk2 e2 ⊢
   simp only [List.cons.injEq] at e2
   subst heq; subst hops
   rw [hk,hk2,e2.1]
  rw [← this]; exact ht
 have nd:∀ {a:List Seg},ByProc l a→a.Nodup:=fun h=>h.up.imp fun h e=>by rw [e] at h; omega
 have hperm:a.Perm b:=(List.perm_ext_iff_of_nodup (nd ha) (nd hb)).2 fun s=>⟨mem ha hb s,mem hb ha s⟩
 exact List.Perm.eq_of_pairwise (le:=fun x y:Seg=>x.obj<y.obj) (fun x y _ _ h1 h2=>by omega) ha.up hb.up hperm
end Go.Proofs.YtoadmihnihfjkaaGreat.Cut

namespace Go.Proofs.YtoadmihnihfjkaaGreat
open Go Go.Ann Go.RowKit
def fitsP(k m:Int):Bool :=
 if k=1 then decide (1≤m) && decide (m≤3) else if k=2 then decide (m=1) || decide (m=4) || decide (m=5) else if k=3 then decide (m=6) || decide (m=7) else if k=4 then decide (m=8) || decide (m=9) else if k=5 then decide (10≤m) && decide (m≤12) else if k=6 then decide (m=13) || decide (m=14) else false
theorem fits_ok(k m:Int)(w:World):Ret Tryz.prog 54 [.int .i64 k,.int .i64 m] w fun u w'=>u=.bool (fitsP k m)∧w'=w:=by
 refine ent54 _ _ _ _ ?_
 unfold fitsP
 by_cases h1:k=1
 ·simp (disch:=first|omega|exact zF rfl|exact zG rfl|exact fun h=>h|(simp only[zA,zB,zC,zD,bytesW];omega)) only[go_sem,h1]
  refine ⟨fun h=>?_,fun h=>?_⟩ <;> simp [h] <;> omega
 by_cases h2:k=2
 ·simp (disch:=first|omega|exact zF rfl|exact zG rfl|exact fun h=>h|(simp only[zA,zB,zC,zD,bytesW];omega)) only[go_sem,h1,h2]
  refine ⟨fun h=>?_,fun h=>?_⟩ <;> simp [*] <;> omega
 by_cases h3:k=3
 ·simp (disch:=first|omega|exact zF rfl|exact zG rfl|exact fun h=>h|(simp only[zA,zB,zC,zD,bytesW];omega)) only[go_sem,h1,h2,h3]
  refine ⟨fun h=>?_,fun h=>?_⟩ <;> simp [*]
 by_cases h4:k=4
 ·simp (disch:=first|omega|exact zF rfl|exact zG rfl|exact fun h=>h|(simp only[zA,zB,zC,zD,bytesW];omega)) only[go_sem,h1,h2,h3,h4]
  refine ⟨fun h=>?_,fun h=>?_⟩ <;> simp [*]
 by_cases h5:k=5
 ·simp (disch:=first|omega|exact zF rfl|exact zG rfl|exact fun h=>h|(simp only[zA,zB,zC,zD,bytesW];omega)) only[go_sem,h1,h2,h3,h4,h5]
  refine ⟨fun h=>?_,fun h=>?_⟩ <;> simp [h] <;> omega
 by_cases h6:k=6
 ·simp (disch:=first|omega|exact zF rfl|exact zG rfl|exact fun h=>h|(simp only[zA,zB,zC,zD,bytesW];omega)) only[go_sem,h1,h2,h3,h4,h5,h6]
  refine ⟨fun h=>?_,fun h=>?_⟩ <;> simp [*]
 simp (disch:=first|omega|exact zF rfl|exact zG rfl|exact fun h=>h|(simp only[zA,zB,zC,zD,bytesW];omega)) only[go_sem,h1,h2,h3,h4,h5,h6]
def valP(n:Int):Bool:=decide (0≤n) && decide (n≤1073741824)
theorem value_ok(n:Int)(w:World):Ret Tryz.prog 83 [.int .i64 n] w fun u w'=>u=.bool (valP n)∧w'=w:=by
 refine ent83 _ _ _ ?_
 unfold valP
 simp (disch:=first|omega|exact zF rfl|exact zG rfl|exact fun h=>h|(simp only[zA,zB,zC,zD,bytesW];omega)) only[go_sem]
 refine ⟨fun h=>?_,fun h=>?_⟩ <;> simp [h] <;> omega
def argsP(o:OpT):Bool :=
 if o.Method=3 then valP o.Arg && valP o.Second else if o.Method=2∨o.Method=6∨o.Method=8∨o.Method=10∨o.Method=11∨o.Method=12 then valP o.Arg && decide (o.Second=0) else decide (o.Arg=0) && decide (o.Second=0)
theorem args_one{o:OpT}{w:World}{g:Nat}{K:Value→World→Prop}(h:Blk w g o.enc.toArray 52)(hK:K (.bool (valP o.Arg && decide (o.Second=0))) w):W Tryz.prog (c55S2 ()) [(1,.pointer (some ⟨g,0,none⟩)),(15,.bool true)] w (blockQ 0 (thenQ Tryz.prog (sg c55S3) (finQ Tryz.prog [.tmp 2] K))):=by
 have ao:=o.at
 have r:=h.rules
 simp (disch:=first|omega|exact zF rfl|exact zG rfl|exact fun h=>h|(simp only[zA,zB,zC,zD,bytesW];omega)) only[go_sem,c55S2,r,ao]
 refine Ret.mono (value_ok _ _) ?_
 rintro _ _ ⟨rfl,rfl⟩
 cases e:valP o.Arg <;> rw [e] at hK <;> simp (disch:=first|omega|exact zF rfl|exact zG rfl|exact fun h=>h|(simp only[zA,zB,zC,zD,bytesW];omega)) only[go_sem,c55S2,r,ao] <;> exact hK
theorem args_ok(o:OpT)(w:World):Ret Tryz.prog 55 [.agg o.enc.toArray] w fun u w'=>u=.bool (argsP o)∧Below w.heap.size w w':=by
 refine ent55 _ _ _ ?_
 have s1:=(St.start (W0:=w)).box o.enc.toArray 52
 have r1:=s1.rules 0 rfl
 have ao:=o.at
 unfold argsP
 by_cases h1:o.Method=3
 ·simp (disch:=first|omega|exact zF rfl|exact zG rfl|exact fun h=>h|(simp only[zA,zB,zC,zD,bytesW];omega)) only[go_sem,c55S2,r1,ao,h1]
  refine Ret.mono (value_ok _ _) ?_
  rintro _ _ ⟨rfl,rfl⟩
  cases e:valP o.Arg
  ·simp (disch:=first|omega|exact zF rfl|exact zG rfl|exact fun h=>h|(simp only[zA,zB,zC,zD,bytesW];omega)) only[go_sem,c55S2,r1,ao,h1]
   exact ⟨rfl,s1.bel⟩
  ·simp (disch:=first|omega|exact zF rfl|exact zG rfl|exact fun h=>h|(simp only[zA,zB,zC,zD,bytesW];omega)) only[go_sem,c55S2,r1,ao,h1]
   refine Ret.mono (value_ok _ _) ?_
   rintro _ _ ⟨rfl,rfl⟩
   simp (disch:=first|omega|exact zF rfl|exact zG rfl|exact fun h=>h|(simp only[zA,zB,zC,zD,bytesW];omega)) only[go_sem,c55S2]
   exact ⟨rfl,s1.bel⟩
 have hb:=s1.blk 0 rfl
 by_cases h2:o.Method=2
 ·simp (disch:=first|omega|exact zF rfl|exact zG rfl|exact fun h=>h|(simp only[zA,zB,zC,zD,bytesW];omega)) only[go_sem,r1,ao,h1,h2]
  exact args_one hb ⟨rfl,s1.bel⟩
 by_cases h3:o.Method=6
 ·simp (disch:=first|omega|exact zF rfl|exact zG rfl|exact fun h=>h|(simp only[zA,zB,zC,zD,bytesW];omega)) only[go_sem,r1,ao,h1,h2,h3]
  exact args_one hb ⟨rfl,s1.bel⟩
 by_cases h4:o.Method=8
 ·simp (disch:=first|omega|exact zF rfl|exact zG rfl|exact fun h=>h|(simp only[zA,zB,zC,zD,bytesW];omega)) only[go_sem,r1,ao,h1,h2,h3,h4]
  exact args_one hb ⟨rfl,s1.bel⟩
 by_cases h5:o.Method=10
 ·simp (disch:=first|omega|exact zF rfl|exact zG rfl|exact fun h=>h|(simp only[zA,zB,zC,zD,bytesW];omega)) only[go_sem,r1,ao,h1,h2,h3,h4,h5]
  exact args_one hb ⟨rfl,s1.bel⟩
 by_cases h6:o.Method=11
 ·simp (disch:=first|omega|exact zF rfl|exact zG rfl|exact fun h=>h|(simp only[zA,zB,zC,zD,bytesW];omega)) only[go_sem,r1,ao,h1,h2,h3,h4,h5,h6]
  exact args_one hb ⟨rfl,s1.bel⟩
 by_cases h7:o.Method=12
 ·simp (disch:=first|omega|exact zF rfl|exact zG rfl|exact fun h=>h|(simp only[zA,zB,zC,zD,bytesW];omega)) only[go_sem,r1,ao,h1,h2,h3,h4,h5,h6,h7]
  exact args_one hb ⟨rfl,s1.bel⟩
 simp (disch:=first|omega|exact zF rfl|exact zG rfl|exact fun h=>h|(simp only[zA,zB,zC,zD,bytesW];omega)) only[go_sem,c55S2,r1,ao,h1,h2,h3,h4,h5,h6,h7]
 refine ⟨fun h=>?_,fun h=>?_⟩ <;> simp [h,s1.bel]
def bitP(n:Int):Bool:=decide (n=0) || decide (n=1)
def resP(o:OpT):Bool :=
 if o.Method=1 then valP o.Result || decide (o.Kind=2) && valP (0 - o.Result) else if o.Method=3∨o.Method=10∨o.Method=11∨o.Method=12 then bitP o.Result else if o.Method=7∨o.Method=9 then decide (o.Result = -1) || valP o.Result else decide (o.Result=0)
theorem res_bit{o:OpT}{w:World}{g:Nat}{K:Value→World→Prop}{n:Int}(h:Blk w g o.enc.toArray 52)(hK:K (.bool (bitP o.Result)) w):W Tryz.prog (c56S3 ()) [(1,.pointer (some ⟨g,0,none⟩)),(4,.int .i64 n),(21,.bool true)] w (blockQ 0 (thenQ Tryz.prog (sg c56S4) (finQ Tryz.prog [.tmp 2] K))):=by
 have ao:=o.at
 have r:=h.rules
 unfold bitP at hK
 simp (disch:=first|omega|exact zF rfl|exact zG rfl|exact fun h=>h|(simp only[zA,zB,zC,zD,bytesW];omega)) only[go_sem,c56S2,c56S3,r,ao]
 refine ⟨fun h=>?_,fun h=>?_⟩
 ·rw [decide_eq_false h] at hK; exact hK
 ·rw [decide_eq_true h] at hK; exact hK
theorem res_val{o:OpT}{w:World}{g:Nat}{K:Value→World→Prop}(h:Blk w g o.enc.toArray 52)(hK:K (.bool (decide (o.Result = -1) || valP o.Result)) w):W Tryz.prog (c56S2 ()) [(1,.pointer (some ⟨g,0,none⟩)),(34,.bool true)] w (blockQ 0 (thenQ Tryz.prog (sg c56S4) (finQ Tryz.prog [.tmp 2] K))):=by
 have ao:=o.at
 have r:=h.rules
 by_cases h1:o.Result = -1
 ·rw [decide_eq_true h1] at hK
  simp (disch:=first|omega|exact zF rfl|exact zG rfl|exact fun h=>h|(simp only[zA,zB,zC,zD,bytesW];omega)) only[go_sem,c56S2,c56S3,r,ao,h1]
  exact hK
 ·rw [decide_eq_false h1] at hK
  simp (disch:=first|omega|exact zF rfl|exact zG rfl|exact fun h=>h|(simp only[zA,zB,zC,zD,bytesW];omega)) only[go_sem,c56S2,c56S3,r,ao,h1]
  refine Ret.mono (value_ok _ _) ?_
  rintro _ _ ⟨rfl,rfl⟩
  simp (disch:=first|omega|exact zF rfl|exact zG rfl|exact fun h=>h|(simp only[zA,zB,zC,zD,bytesW];omega)) only[go_sem,c56S2,c56S3]
  exact hK
theorem valP_neg{r:Int}(h:I64 r):valP (IntKind.i64.wrap (0 - r))=valP (0 - r):=by
 by_cases e:r = -9223372036854775808
 ·subst e; decide
 ·have h1:-9223372036854775808≤r∧r≤9223372036854775807:=h
  congr 1
  simp [IntKind.wrap,IntKind.bits,IntKind.signed]
  omega
theorem result_ok(o:OpT)(hw:o.wf)(w:World):Ret Tryz.prog 56 [.agg o.enc.toArray] w fun u w'=>u=.bool (resP o)∧Below w.heap.size w w':=by
 refine ent56 _ _ _ ?_
 have s1:=(St.start (W0:=w)).box o.enc.toArray 52
 have r1:=s1.rules 0 rfl
 have hb:=s1.blk 0 rfl
 have ao:=o.at
 have hr:I64 o.Result:=by
  have h:=hw.2.2.2.2.2.2.2.1
  unfold kOk at h
  simp [Lit.wf,IntKind.min,IntKind.max,IntKind.signed,IntKind.bits] at h
  exact h
 unfold resP
 by_cases h1:o.Method=1
 ·simp (disch:=first|omega|exact zF rfl|exact zG rfl|exact fun h=>h|(simp only[zA,zB,zC,zD,bytesW];omega)) only[go_sem,c56S2,c56S3,r1,ao,h1]
  refine Ret.mono (value_ok _ _) ?_
  rintro _ _ ⟨rfl,rfl⟩
  cases e:valP o.Result
  ·by_cases h2:o.Kind=2
   ·simp (disch:=first|omega|exact zF rfl|exact zG rfl|exact fun h=>h|(simp only[zA,zB,zC,zD,bytesW];omega)) only[go_sem,c56S2,c56S3,r1,ao,h1,h2]
    refine Ret.mono (value_ok _ _) ?_
    rintro _ _ ⟨rfl,rfl⟩
    simp (disch:=first|omega|exact zF rfl|exact zG rfl|exact fun h=>h|(simp only[zA,zB,zC,zD,bytesW];omega)) only[go_sem,c56S2,c56S3]
    rw [valP_neg hr]
    exact ⟨by simp,s1.bel⟩
   ·simp (disch:=first|omega|exact zF rfl|exact zG rfl|exact fun h=>h|(simp only[zA,zB,zC,zD,bytesW];omega)) only[go_sem,c56S2,c56S3,r1,ao,h1,h2]
    exact ⟨by simp [h2],s1.bel⟩
  ·simp (disch:=first|omega|exact zF rfl|exact zG rfl|exact fun h=>h|(simp only[zA,zB,zC,zD,bytesW];omega)) only[go_sem,c56S2,c56S3,r1,ao,h1]
   exact ⟨by simp,s1.bel⟩
 by_cases h2:o.Method=3
 ·simp (disch:=first|omega|exact zF rfl|exact zG rfl|exact fun h=>h|(simp only[zA,zB,zC,zD,bytesW];omega)) only[go_sem,c56S2,r1,ao,h1,h2]
  exact res_bit hb ⟨rfl,s1.bel⟩
 by_cases h3:o.Method=10
 ·simp (disch:=first|omega|exact zF rfl|exact zG rfl|exact fun h=>h|(simp only[zA,zB,zC,zD,bytesW];omega)) only[go_sem,c56S2,r1,ao,h1,h2,h3]
  exact res_bit hb ⟨rfl,s1.bel⟩
 by_cases h4:o.Method=11
 ·simp (disch:=first|omega|exact zF rfl|exact zG rfl|exact fun h=>h|(simp only[zA,zB,zC,zD,bytesW];omega)) only[go_sem,c56S2,r1,ao,h1,h2,h3,h4]
  exact res_bit hb ⟨rfl,s1.bel⟩
 by_cases h5:o.Method=12
 ·simp (disch:=first|omega|exact zF rfl|exact zG rfl|exact fun h=>h|(simp only[zA,zB,zC,zD,bytesW];omega)) only[go_sem,c56S2,r1,ao,h1,h2,h3,h4,h5]
  exact res_bit hb ⟨rfl,s1.bel⟩
 by_cases h6:o.Method=7
 ·simp (disch:=first|omega|exact zF rfl|exact zG rfl|exact fun h=>h|(simp only[zA,zB,zC,zD,bytesW];omega)) only[go_sem,c56S3,r1,ao,h1,h2,h3,h4,h5,h6]
  exact res_val hb ⟨rfl,s1.bel⟩
 by_cases h7:o.Method=9
 ·simp (disch:=first|omega|exact zF rfl|exact zG rfl|exact fun h=>h|(simp only[zA,zB,zC,zD,bytesW];omega)) only[go_sem,c56S3,r1,ao,h1,h2,h3,h4,h5,h6,h7]
  exact res_val hb ⟨rfl,s1.bel⟩
 simp (disch:=first|omega|exact zF rfl|exact zG rfl|exact fun h=>h|(simp only[zA,zB,zC,zD,bytesW];omega)) only[go_sem,c56S2,c56S3,r1,ao,h1,h2,h3,h4,h5,h6,h7]
 exact s1.bel
def chkP(o:OpT):Int :=
 if o.ID<1∨o.ID > 1073741824∨o.Proc<0∨o.Proc > 1023∨o.Object<0∨o.Object > 1023 then 30
 else if fitsP o.Kind o.Method=false∨argsP o=false∨(o.Done=true∧resP o=false)∨(o.Done=false∧o.Result≠0) then 33
 else if o.Invoke<0∨o.Invoke > 1099511627776∨(o.Done=true∧(o.Return≤o.Invoke∨o.Return > 1099511627776))∨(o.Done=false∧o.Return≠0) then 31 else 0
theorem opCheck_ok(o:OpT)(hw:o.wf)(w:World):Ret Tryz.prog 28 [.agg o.enc.toArray] w fun u w'=>u=.int .i64 (chkP o)∧Below w.heap.size w w':=by
 refine ent28 _ _ _ ?_
 have s1:=(St.start (W0:=w)).box o.enc.toArray 52
 have r1:=s1.rules 0 rfl
 have ao:=o.at
 unfold chkP
 by_cases h1:o.ID<1∨o.ID > 1073741824∨o.Proc<0∨o.Proc > 1023∨o.Object<0∨o.Object > 1023
 ·rw [if_pos h1]
  by_cases a1:o.ID<1
  ·simp (disch:=first|omega|exact zF rfl|exact zG rfl|exact fun h=>h|(simp only[zA,zB,zC,zD,bytesW];omega)) only[go_sem,c28S0,r1,ao,a1]
   exact s1.bel
  by_cases a2:o.ID > 1073741824
  ·simp (disch:=first|omega|exact zF rfl|exact zG rfl|exact fun h=>h|(simp only[zA,zB,zC,zD,bytesW];omega)) only[go_sem,c28S0,r1,ao,a1,a2]
   exact s1.bel
  by_cases a3:o.Proc<0
  ·simp (disch:=first|omega|exact zF rfl|exact zG rfl|exact fun h=>h|(simp only[zA,zB,zC,zD,bytesW];omega)) only[go_sem,c28S0,r1,ao,a1,a2,a3]
   exact s1.bel
  by_cases a4:o.Proc > 1023
  ·simp (disch:=first|omega|exact zF rfl|exact zG rfl|exact fun h=>h|(simp only[zA,zB,zC,zD,bytesW];omega)) only[go_sem,c28S0,r1,ao,a1,a2,a3,a4]
   exact s1.bel
  by_cases a5:o.Object<0
  ·simp (disch:=first|omega|exact zF rfl|exact zG rfl|exact fun h=>h|(simp only[zA,zB,zC,zD,bytesW];omega)) only[go_sem,c28S0,r1,ao,a1,a2,a3,a4,a5]
   exact s1.bel
  have a6:o.Object > 1023:=by omega
  simp (disch:=first|omega|exact zF rfl|exact zG rfl|exact fun h=>h|(simp only[zA,zB,zC,zD,bytesW];omega)) only[go_sem,c28S0,r1,ao,a1,a2,a3,a4,a5,a6]
  exact s1.bel
 rw [if_neg h1]
 have a1:¬ o.ID<1:=by omega
 have a2:¬ o.ID > 1073741824:=by omega
 have a3:¬ o.Proc<0:=by omega
 have a4:¬ o.Proc > 1023:=by omega
 have a5:¬ o.Object<0:=by omega
 have a6:¬ o.Object > 1023:=by omega
 simp (disch:=first|omega|exact zF rfl|exact zG rfl|exact fun h=>h|(simp only[zA,zB,zC,zD,bytesW];omega)) only[go_sem,r1,ao,a1,a2,a3,a4,a5,a6]
 refine Ret.mono (fits_ok _ _ _) ?_
 rintro _ _ ⟨rfl,rfl⟩
 have bad:∀ w',Below w.heap.size w w'→W Tryz.prog (c28S0 ()) [(1,.pointer (some ⟨w.heap.size,0,none⟩)),(32,.bool true)] w' (blockQ 0 (thenQ Tryz.prog (sg c28S1) (finQ Tryz.prog [.tmp 2] fun u w'=>u=.int .i64 33∧Below w.heap.size w w'))):=fun w' hb=>by
  simp (disch:=first|omega|exact zF rfl|exact zG rfl|exact fun h=>h|(simp only[zA,zB,zC,zD,bytesW];omega)) only[go_sem,c28S0]
  exact hb
 have good:∀ w',Blk w' w.heap.size o.enc.toArray 52→Below w.heap.size w w'→W Tryz.prog (c28S0 ()) [(1,.pointer (some ⟨w.heap.size,0,none⟩)),(32,.bool false)] w' (blockQ 0 (thenQ Tryz.prog (sg c28S1) (finQ Tryz.prog [.tmp 2] fun u w'=>u=.int .i64 (if o.Invoke<0∨o.Invoke > 1099511627776∨(o.Done=true∧(o.Return≤o.Invoke∨o.Return > 1099511627776))∨(o.Done=false∧o.Return≠0) then 31 else 0)∧Below w.heap.size w w'))):=fun w' hB hb=>by
  have r:=hB.rules
  by_cases t1:o.Invoke<0
  ·simp (disch:=first|omega|exact zF rfl|exact zG rfl|exact fun h=>h|(simp only[zA,zB,zC,zD,bytesW];omega)) only[go_sem,c28S0,r,ao,t1]
   exact ⟨by simp,hb⟩
  by_cases t2:o.Invoke > 1099511627776
  ·simp (disch:=first|omega|exact zF rfl|exact zG rfl|exact fun h=>h|(simp only[zA,zB,zC,zD,bytesW];omega)) only[go_sem,c28S0,r,ao,t1,t2]
   exact ⟨by simp,hb⟩
  cases d:o.Done
  ·by_cases t3:o.Return=0
   ·simp (disch:=first|omega|exact zF rfl|exact zG rfl|exact fun h=>h|(simp only[zA,zB,zC,zD,bytesW];omega)) only[go_sem,c28S0,r,ao,t1,t2,d,t3]
    exact hb
   ·simp (disch:=first|omega|exact zF rfl|exact zG rfl|exact fun h=>h|(simp only[zA,zB,zC,zD,bytesW];omega)) only[go_sem,c28S0,r,ao,t1,t2,d,t3]
    exact hb
  ·by_cases t3:o.Return≤o.Invoke
   ·simp (disch:=first|omega|exact zF rfl|exact zG rfl|exact fun h=>h|(simp only[zA,zB,zC,zD,bytesW];omega)) only[go_sem,c28S0,r,ao,t1,t2,d,t3]
    exact ⟨by simp,hb⟩
   by_cases t4:o.Return > 1099511627776
   ·simp (disch:=first|omega|exact zF rfl|exact zG rfl|exact fun h=>h|(simp only[zA,zB,zC,zD,bytesW];omega)) only[go_sem,c28S0,r,ao,t1,t2,d,t3,t4]
    exact hb
   ·simp (disch:=first|omega|exact zF rfl|exact zG rfl|exact fun h=>h|(simp only[zA,zB,zC,zD,bytesW];omega)) only[go_sem,c28S0,r,ao,t1,t2,d,t3,t4]
    exact hb
 cases e1:fitsP o.Kind o.Method
 ·rw [if_pos (.inl rfl)]
  simp (disch:=first|omega|exact zF rfl|exact zG rfl|exact fun h=>h|(simp only[zA,zB,zC,zD,bytesW];omega)) only[go_sem,r1,ao]
  exact bad _ s1.bel
 simp (disch:=first|omega|exact zF rfl|exact zG rfl|exact fun h=>h|(simp only[zA,zB,zC,zD,bytesW];omega)) only[go_sem,r1,ao]
 refine Ret.mono (args_ok o _) ?_
 rintro _ w2 ⟨rfl,b2⟩
 have s2:=s1.call b2
 have r2:=s2.rules 0 rfl
 cases e2:argsP o
 ·rw [if_pos (.inl rfl)]
  simp (disch:=first|omega|exact zF rfl|exact zG rfl|exact fun h=>h|(simp only[zA,zB,zC,zD,bytesW];omega)) only[go_sem,r2,ao]
  exact bad _ s2.bel
 cases d:o.Done
 ·by_cases e3:o.Result=0
  ·simp (disch:=first|omega|exact zF rfl|exact zG rfl|exact fun h=>h|(simp only[zA,zB,zC,zD,bytesW];omega)) only[go_sem,r2,ao,d,e3]
   have:=good _ (s2.blk 0 rfl) s2.bel
   simp only [d,e3] at this
   simpa using this
  ·simp (disch:=first|omega|exact zF rfl|exact zG rfl|exact fun h=>h|(simp only[zA,zB,zC,zD,bytesW];omega)) only[go_sem,r2,ao,d,e3]
   exact bad _ s2.bel
 ·simp (disch:=first|omega|exact zF rfl|exact zG rfl|exact fun h=>h|(simp only[zA,zB,zC,zD,bytesW];omega)) only[go_sem,r2,ao,d]
  refine Ret.mono (result_ok o hw _) ?_
  rintro _ w3 ⟨rfl,b3⟩
  have s3:=s2.call b3
  have r3:=s3.rules 0 rfl
  cases e3:resP o
  ·simp (disch:=first|omega|exact zF rfl|exact zG rfl|exact fun h=>h|(simp only[zA,zB,zC,zD,bytesW];omega)) only[go_sem,r3,ao,d]
   exact bad _ s3.bel
  ·simp (disch:=first|omega|exact zF rfl|exact zG rfl|exact fun h=>h|(simp only[zA,zB,zC,zD,bytesW];omega)) only[go_sem,r3,ao,d]
   have:=good _ (s3.blk 0 rfl) s3.bel
   simp only [d] at this
   simpa using this
open Go Go.Ann Go.RowKit
open Cut (Row4 rowsTable rows_ok)
def btw(n a b:Int):Bool:=decide (a≤n) && decide (n≤b)
theorem between_x(n a b:Int)(w:World):Ret Tryz.prog 67 [.int .i64 n,.int .i64 a,.int .i64 b] w fun u w'=>u=.bool (btw n a b)∧w'=w:=by
 refine ent67 _ _ _ _ _ ?_
 unfold btw
 simp (disch:=first|omega|exact zF rfl|exact zG rfl|exact fun h=>h|(simp only[zA,zB,zC,zD,bytesW];omega)) only[go_sem]
 refine ⟨fun h=>?_,fun h=>?_⟩ <;> simp [h] <;> omega
def ansR(n how:Int):Bool:=if how=0 then decide (n=0) else if how=1 then bitP n else if how=2 then btw n 0 1073741824 else if how=3 then btw n (-1073741824) 1073741824 else btw n (-1) 1073741824
theorem answer_x(n how:Int)(w:World):Ret Tryz.prog 69 [.int .i64 n,.int .i64 how] w fun u w'=>u=.bool (ansR n how)∧w'=w:=by
 refine ent69 _ _ _ _ ?_
 unfold ansR bitP
 by_cases h0:how=0
 ·simp (disch:=first|omega|exact zF rfl|exact zG rfl|exact fun h=>h|(simp only[zA,zB,zC,zD,bytesW];omega)) only[go_sem,h0]
 by_cases h1:how=1
 ·simp (disch:=first|omega|exact zF rfl|exact zG rfl|exact fun h=>h|(simp only[zA,zB,zC,zD,bytesW];omega)) only[go_sem,h0,h1]
  refine ⟨fun h=>?_,fun h=>?_⟩ <;> simp [h]
 by_cases h2:how=2
 ·simp (disch:=first|omega|exact zF rfl|exact zG rfl|exact fun h=>h|(simp only[zA,zB,zC,zD,bytesW];omega)) only[go_sem,h0,h1,h2]
  refine Ret.mono (between_x _ _ _ _) ?_
  rintro _ _ ⟨rfl,rfl⟩
  simp (disch:=first|omega|exact zF rfl|exact zG rfl|exact fun h=>h|(simp only[zA,zB,zC,zD,bytesW];omega)) only[go_sem]
 by_cases h3:how=3
 ·simp (disch:=first|omega|exact zF rfl|exact zG rfl|exact fun h=>h|(simp only[zA,zB,zC,zD,bytesW];omega)) only[go_sem,h0,h1,h2,h3]
  refine Ret.mono (between_x _ _ _ _) ?_
  rintro _ _ ⟨rfl,rfl⟩
  simp (disch:=first|omega|exact zF rfl|exact zG rfl|exact fun h=>h|(simp only[zA,zB,zC,zD,bytesW];omega)) only[go_sem]
 simp (disch:=first|omega|exact zF rfl|exact zG rfl|exact fun h=>h|(simp only[zA,zB,zC,zD,bytesW];omega)) only[go_sem,h0,h1,h2,h3]
 refine Ret.mono (between_x _ _ _ _) ?_
 rintro _ _ ⟨rfl,rfl⟩
 simp (disch:=first|omega|exact zF rfl|exact zG rfl|exact fun h=>h|(simp only[zA,zB,zC,zD,bytesW];omega)) only[go_sem]
def rowOf(k m:Int):Option Row4:=rowsTable.find? fun r=>decide (r.kind=k) && decide (r.method=m)
theorem find_atG{α:Type}{p:α→Bool}{l:List α}{k:Nat}(h:k<l.length)(hp:p l[k]=true)(hb:∀ j,(h:j<l.length)→j<k→p l[j]=false):l.find? p=some l[k]:=by
 rw [List.find?_eq_some_iff_append]
 refine ⟨hp,l.take k,l.drop (k+1),?_,fun a ha=>?_⟩
 ·rw [← List.drop_eq_getElem_cons h,List.take_append_drop]
 ·obtain ⟨j,hj,rfl⟩:=List.mem_iff_getElem.1 ha
  rw [List.length_take] at hj
  rw [List.getElem_take,hb j (by omega) (by omega)]
  rfl
theorem find_x(a b:Int)(w:World):Ret Tryz.prog 68 [.int .i64 a,.int .i64 b] w fun v w'=>(∃ r:Row4,v=.tuple #[.agg r.enc.toArray,.bool (rowOf a b).isSome]∧(∀ x,rowOf a b=some x→x=r))∧Below w.heap.size w w':=by
 refine ent68 _ _ _ _ ?_
 simp (disch:=first|omega|exact zF rfl|exact zG rfl|exact fun h=>h|(simp only[zA,zB,zC,zD,bytesW];omega)) only[go_sem]
 obtain ⟨z,hz⟩:∃ z:Row4,z=⟨0,0,0,0⟩:=⟨_,rfl⟩
 have s1:=(St.start (W0:=w)).box z.enc.toArray 117
 have hzz:#[Value.int .i64 0,.int .i64 0,.int .i64 0,.int .i64 0]=z.enc.toArray:=by rw [hz]; rfl
 rw [hzz]
 generalize w.alloc (.cells z.enc.toArray 117)=w1 at s1 ⊢
 obtain ⟨b0,hb0⟩:∃ b,b=w.heap.size:=⟨_,rfl⟩
 have hbb:∀ w',Below w.heap.size w w'→Below b0 w w':=fun _ h=>by rw [hb0]; exact h
 rw [← hb0] at s1 ⊢
 have az:=z.at
 refine Ret.mono (rows_ok _) ?_
 rintro vt w2 ⟨ht,b2⟩
 obtain ⟨pt,ct,rfl,_⟩:=ht.form
 have s2:=s1.call b2
 simp (disch:=first|omega|exact zF rfl|exact zG rfl|exact fun h=>h|(simp only[zA,zB,zC,zD,bytesW];omega)) only[go_sem]
 refine W_loopU (fun k:Nat=>[(7,.int .i64 k)]) (fun k w'=>Below w2.heap.size w2 w'∧k≤rowsTable.length∧∀ j,(h:j<rowsTable.length)→j<k→(decide (rowsTable[j].kind=a) && decide (rowsTable[j].method=b))=false) (fun k=>rowsTable.length - k) 0 rfl ⟨Below.refl _ _,Nat.zero_le _,fun j _ h=>by omega⟩ ?_
 rintro k w3 ⟨b3,hk,hall⟩
 have s3:=s2.call b3
 have r3:=s3.rules 0 rfl
 have h3:=ht.below b3 (by decide)
 have b03:=s3.bel
 have hsz:rowsTable.length=15:=rfl
 unfold rowOf at *
 generalize rowsTable=tb at *
 by_cases hlt:k<tb.length
 ·have hlt':(k:Int)<tb.length:=by omega
  obtain ⟨p,rfl⟩:=ht.ptr (by omega)
  have ek:=h3.eltB (Below.refl _ _) Row4.len (by decide) hlt
  have ck:=h3.at Row4.len hlt
  have ak:=tb[k].at
  have nxt:¬ (tb[k].kind=a∧tb[k].method=b)→∀ j,(h:j<tb.length)→j<k+1→(decide (tb[j].kind=a) && decide (tb[j].method=b))=false:=fun hn j hj hjk=>by
   rcases Nat.lt_or_ge j k with h | h
   ·exact hall j hj h
   ·obtain rfl:j=k:=by omega
    rw [Bool.and_eq_false_iff,decide_eq_false_iff_not,decide_eq_false_iff_not]
    omega
  simp (disch:=first|omega|exact zF rfl|exact zG rfl|exact fun h=>h|(simp only[zA,zB,zC,zD,bytesW];omega)) only[go_sem,hlt',ek,ak,ck,r3,az]
  refine ⟨by omega,fun e1=>⟨by omega,fun e2=>⟨by omega,tb[k].len.symm,Cut.blk_okSt (s3.blk 0 rfl) tb[k].one (Nat.le_refl _),⟨tb[k],?_⟩,hbb _ ((s3.fill 0 rfl (cs:=tb[k].enc.toArray) rfl).bel)⟩,fun e2=>⟨⟨by omega,by omega⟩,k+1,rfl,⟨b3,by omega,nxt (fun h=>e2 h.2)⟩,by omega⟩⟩,fun e1=>⟨⟨by omega,by omega⟩,k+1,rfl,⟨b3,by omega,nxt (fun h=>e1 h.1)⟩,by omega⟩⟩
  have e:tb.find? (fun r=>decide (r.kind=a) && decide (r.method=b))=some tb[k]:=find_atG hlt (by simp [e1,e2]) fun j hj hjk=>hall j hj hjk
  rw [e]
  exact ⟨rfl,fun x hx=>(Option.some.inj hx).symm⟩
 ·have hlt':¬ (k:Int)<tb.length:=by omega
  simp (disch:=first|omega|exact zF rfl|exact zG rfl|exact fun h=>h|(simp only[zA,zB,zC,zD,bytesW];omega)) only[go_sem,hlt',r3]
  refine bdW_built (cells:=z.enc.toArray) (by rw [hz]; kernel_rfl) ?_
  simp (disch:=first|omega|exact zF rfl|exact zG rfl|exact fun h=>h|(simp only[zA,zB,zC,zD,bytesW];omega)) only[go_sem,hlt',r3,az]
  have e:tb.find? (fun r=>decide (r.kind=a) && decide (r.method=b))=none:=List.find?_eq_none.2 fun x hx=>by
   obtain ⟨j,hj,rfl⟩:=List.mem_iff_getElem.1 hx
   rw [hall j hj (by omega)]
   exact Bool.false_ne_true
  rw [e]
  exact ⟨z.len.symm,Cut.blk_okSt (s3.blk 0 rfl) z.one (Nat.le_refl _),⟨z,rfl,fun x hx=>by cases hx⟩,hbb _ ((s3.fill 0 rfl (cs:=z.enc.toArray) rfl).bel)⟩
def timeR(o:OpT):Int :=
 if btw o.Invoke 0 1099511627776=false∨(o.Done=false∧o.Return≠0) then 31 else if o.Done=true∧(o.Return≤o.Invoke∨o.Return > 1099511627776) then 31 else 0
theorem chk6{o:OpT}{w:World}{K:Value→World→Prop}{b0:Nat}(h0:Blk w b0 o.enc.toArray 52)(hK:K (.int .i64 (timeR o)) w) :
  W Tryz.prog (c33S6 ()) [(1,.pointer (some ⟨b0,0,none⟩))] w (finQ Tryz.prog [.tmp 2] K):=by
 have r0:=h0.rules
 have ao:=o.at
 unfold timeR at hK
 simp (disch:=first|omega|exact zF rfl|exact zG rfl|exact fun h=>h|(simp only[zA,zB,zC,zD,bytesW];omega)) only[go_sem,c33S6,c33S8,c33S11,c33S12,r0,ao]
 refine Ret.mono (between_x _ _ _ _) ?_
 rintro _ _ ⟨rfl,rfl⟩
 cases e1:btw o.Invoke 0 1099511627776
 ·rw [e1,if_pos (.inl rfl)] at hK
  simp (disch:=first|omega|exact zF rfl|exact zG rfl|exact fun h=>h|(simp only[zA,zB,zC,zD,bytesW];omega)) only[go_sem,c33S6,c33S8,c33S11,c33S12,r0,ao]
  exact hK
 cases d:o.Done
 ·by_cases e2:o.Return=0
  ·rw [if_neg (by simp [e1,e2]),if_neg (by simp [d])] at hK
   simp (disch:=first|omega|exact zF rfl|exact zG rfl|exact fun h=>h|(simp only[zA,zB,zC,zD,bytesW];omega)) only[go_sem,c33S6,c33S8,c33S11,c33S12,r0,ao,d,e2]
   exact hK
  ·rw [if_pos (.inr ⟨d,e2⟩)] at hK
   simp (disch:=first|omega|exact zF rfl|exact zG rfl|exact fun h=>h|(simp only[zA,zB,zC,zD,bytesW];omega)) only[go_sem,c33S6,c33S8,c33S11,c33S12,r0,ao,d,e2]
   exact hK
 ·rw [if_neg (by simp [e1,d])] at hK
  by_cases e2:o.Return≤o.Invoke
  ·rw [if_pos ⟨d,.inl e2⟩] at hK
   simp (disch:=first|omega|exact zF rfl|exact zG rfl|exact fun h=>h|(simp only[zA,zB,zC,zD,bytesW];omega)) only[go_sem,c33S6,c33S8,c33S11,c33S12,r0,ao,d,e2]
   exact hK
  by_cases e3:o.Return > 1099511627776
  ·rw [if_pos ⟨d,.inr e3⟩] at hK
   simp (disch:=first|omega|exact zF rfl|exact zG rfl|exact fun h=>h|(simp only[zA,zB,zC,zD,bytesW];omega)) only[go_sem,c33S6,c33S8,c33S11,c33S12,r0,ao,d,e2,e3]
   exact hK
  ·rw [if_neg (by simp only [d,true_and]; omega)] at hK
   simp (disch:=first|omega|exact zF rfl|exact zG rfl|exact fun h=>h|(simp only[zA,zB,zC,zD,bytesW];omega)) only[go_sem,c33S6,c33S8,c33S11,c33S12,r0,ao,d,e2,e3]
   exact hK
def rowR(o:OpT)(x:Row4)(a b:Int):Int :=
 if btw o.Arg 0 a=false∨btw o.Second 0 b=false then 33 else if (o.Done=true∧ansR o.Result x.how=false)∨(o.Done=false∧o.Result≠0) then 33 else timeR o
theorem chk8{o:OpT}{r:Row4}{w:World}{K:Value→World→Prop}{b0 b1:Nat}(m n:Int)(h0:Blk w b0 o.enc.toArray 52)(h1:Blk w b1 r.enc.toArray 117)
  (hK:K (.int .i64 (rowR o r m n)) w) :
  W Tryz.prog (c33S8 ()) [(1,.pointer (some ⟨b0,0,none⟩)),(3,.pointer (some ⟨b1,0,none⟩)),(5,.int .i64 m),(6,.int .i64 n)] w (finQ Tryz.prog [.tmp 2] K):=by
 have r0:=h0.rules
 have r1:=h1.rules
 have ao:=o.at
 have ar:=r.at
 unfold rowR at hK
 simp (disch:=first|omega|exact zF rfl|exact zG rfl|exact fun h=>h|(simp only[zA,zB,zC,zD,bytesW];omega)) only[go_sem,c33S8,c33S11,c33S12,r0,r1,ao,ar]
 refine Ret.mono (between_x _ _ _ _) ?_
 rintro _ _ ⟨rfl,rfl⟩
 cases e1:btw o.Arg 0 m
 ·rw [if_pos (.inl e1)] at hK
  simp (disch:=first|omega|exact zF rfl|exact zG rfl|exact fun h=>h|(simp only[zA,zB,zC,zD,bytesW];omega)) only[go_sem,c33S8,c33S11,c33S12,r0,r1,ao,ar]
  exact hK
 simp (disch:=first|omega|exact zF rfl|exact zG rfl|exact fun h=>h|(simp only[zA,zB,zC,zD,bytesW];omega)) only[go_sem,c33S8,c33S11,c33S12,r0,r1,ao,ar]
 refine Ret.mono (between_x _ _ _ _) ?_
 rintro _ _ ⟨rfl,rfl⟩
 cases e2:btw o.Second 0 n
 ·rw [if_pos (.inr e2)] at hK
  simp (disch:=first|omega|exact zF rfl|exact zG rfl|exact fun h=>h|(simp only[zA,zB,zC,zD,bytesW];omega)) only[go_sem,c33S8,c33S11,c33S12,r0,r1,ao,ar]
  exact hK
 rw [if_neg (by simp [e1,e2])] at hK
 cases d:o.Done
 ·by_cases e3:o.Result=0
  ·rw [if_neg (by simp [d,e3])] at hK
   simp (disch:=first|omega|exact zF rfl|exact zG rfl|exact fun h=>h|(simp only[zA,zB,zC,zD,bytesW];omega)) only[go_sem,c33S8,c33S11,c33S12,r0,r1,ao,ar,d,e3]
   exact chk6 h0 hK
  ·rw [if_pos (.inr ⟨d,e3⟩)] at hK
   simp (disch:=first|omega|exact zF rfl|exact zG rfl|exact fun h=>h|(simp only[zA,zB,zC,zD,bytesW];omega)) only[go_sem,c33S8,c33S11,c33S12,r0,r1,ao,ar,d,e3]
   exact hK
 ·simp (disch:=first|omega|exact zF rfl|exact zG rfl|exact fun h=>h|(simp only[zA,zB,zC,zD,bytesW];omega)) only[go_sem,c33S8,c33S11,c33S12,r0,r1,ao,ar,d]
  refine Ret.mono (answer_x _ _ _) ?_
  rintro _ _ ⟨rfl,rfl⟩
  cases e3:ansR o.Result r.how
  ·rw [if_pos (.inl ⟨d,e3⟩)] at hK
   simp (disch:=first|omega|exact zF rfl|exact zG rfl|exact fun h=>h|(simp only[zA,zB,zC,zD,bytesW];omega)) only[go_sem,c33S8,c33S11,c33S12,r0,r1,ao,ar,d]
   exact hK
  ·rw [if_neg (by simp [d,e3])] at hK
   simp (disch:=first|omega|exact zF rfl|exact zG rfl|exact fun h=>h|(simp only[zA,zB,zC,zD,bytesW];omega)) only[go_sem,c33S8,c33S11,c33S12,r0,r1,ao,ar,d]
   exact chk6 h0 hK
def chkR(o:OpT):Int :=
 if btw o.ID 1 1073741824=false∨btw o.Proc 0 1023=false∨btw o.Object 0 1023=false then 30 else match rowOf o.Kind o.Method with
  | none=>33
  | some x=>rowR o x (if 1≤x.args then 1073741824 else 0) (if 2≤x.args then 1073741824 else 0)
theorem checkOp_x(o:OpT)(w:World):Ret Tryz.prog 33 [.agg o.enc.toArray] w fun v w'=>v=.int .i64 (chkR o)∧Below w.heap.size w w':=by
 refine ent33 _ _ _ ?_
 simp (disch:=first|omega|exact zF rfl|exact zG rfl|exact fun h=>h|(simp only[zA,zB,zC,zD,bytesW];omega)) only[go_sem,c33S6,c33S8,c33S11,c33S12]
 have s1:=(St.start (W0:=w)).box o.enc.toArray 52
 generalize w.alloc (.cells o.enc.toArray 52)=w1 at s1 ⊢
 obtain ⟨b0,hb0⟩:∃ b,b=w.heap.size:=⟨_,rfl⟩
 have hbb:∀ w',Below w.heap.size w w'→Below b0 w w':=fun _ h=>by rw [hb0]; exact h
 rw [← hb0] at s1 ⊢
 have ao:=o.at
 have r1:=s1.rules 0 rfl
 unfold chkR
 simp (disch:=first|omega|exact zF rfl|exact zG rfl|exact fun h=>h|(simp only[zA,zB,zC,zD,bytesW];omega)) only[go_sem,c33S6,c33S8,c33S11,ao,r1]
 refine Ret.mono (between_x _ _ _ _) ?_
 rintro _ _ ⟨rfl,rfl⟩
 cases e1:btw o.ID 1 1073741824
 ·rw [if_pos (.inl rfl)]
  simp (disch:=first|omega|exact zF rfl|exact zG rfl|exact fun h=>h|(simp only[zA,zB,zC,zD,bytesW];omega)) only[go_sem,c33S6,c33S8,c33S11,c33S12,ao,r1]
  exact hbb _ s1.bel
 simp (disch:=first|omega|exact zF rfl|exact zG rfl|exact fun h=>h|(simp only[zA,zB,zC,zD,bytesW];omega)) only[go_sem,c33S6,c33S8,c33S11,ao,r1]
 refine Ret.mono (between_x _ _ _ _) ?_
 rintro _ _ ⟨rfl,rfl⟩
 cases e2:btw o.Proc 0 1023
 ·simp (disch:=first|omega|exact zF rfl|exact zG rfl|exact fun h=>h|(simp only[zA,zB,zC,zD,bytesW];omega)) only[go_sem,c33S6,c33S8,c33S11,c33S12,ao,r1]
  exact ⟨by simp,hbb _ s1.bel⟩
 simp (disch:=first|omega|exact zF rfl|exact zG rfl|exact fun h=>h|(simp only[zA,zB,zC,zD,bytesW];omega)) only[go_sem,c33S6,c33S8,c33S11,ao,r1]
 refine Ret.mono (between_x _ _ _ _) ?_
 rintro _ _ ⟨rfl,rfl⟩
 cases e3:btw o.Object 0 1023
 ·simp (disch:=first|omega|exact zF rfl|exact zG rfl|exact fun h=>h|(simp only[zA,zB,zC,zD,bytesW];omega)) only[go_sem,c33S6,c33S8,c33S11,c33S12,ao,r1]
  exact hbb _ s1.bel
 simp (disch:=first|omega|exact zF rfl|exact zG rfl|exact fun h=>h|(simp only[zA,zB,zC,zD,bytesW];omega)) only[go_sem,c33S6,c33S8,c33S12,ao,r1]
 refine Ret.mono (find_x _ _ _) ?_
 rintro _ w5 ⟨⟨r,rfl,hr⟩,b5⟩
 have s5:=s1.call b5
 have ar:=r.at
 have r5:=s5.rules 0 rfl
 simp (disch:=first|omega|exact zF rfl|exact zG rfl|exact fun h=>h|(simp only[zA,zB,zC,zD,bytesW];omega)) only[go_sem,c33S6,c33S8,c33S12,ao,ar,r5]
 have s6:=s5.box r.enc.toArray 117
 generalize w5.alloc (.cells r.enc.toArray 117)=w6 at s6 ⊢
 have r6:=s6.rules 0 rfl
 refine ⟨r.len.symm,?_⟩
 cases e4:rowOf o.Kind o.Method with
 | none =>
  simp (disch:=first|omega|exact zF rfl|exact zG rfl|exact fun h=>h|(simp only[zA,zB,zC,zD,bytesW];omega)) only[go_sem,c33S6,c33S8,c33S11,c33S12,Option.isSome_none]
  exact hbb _ s6.bel
 | some x =>
  obtain rfl:=hr x e4
  rw [Option.isSome_some]
  by_cases g1:1≤x.args
  ·by_cases g2:2≤x.args
   ·simp (disch:=first|omega|exact zF rfl|exact zG rfl|exact fun h=>h|(simp only[zA,zB,zC,zD,bytesW];omega)) only[go_sem,c33S6,c33S11,c33S12,r6,ar,g1,g2]
    refine chk8 _ _ (s6.blk 1 rfl) (s6.blk 0 rfl) ?_
    exact ⟨rfl,hbb _ s6.bel⟩
   ·simp (disch:=first|omega|exact zF rfl|exact zG rfl|exact fun h=>h|(simp only[zA,zB,zC,zD,bytesW];omega)) only[go_sem,c33S6,c33S11,c33S12,r6,ar,g1,g2]
    refine chk8 _ _ (s6.blk 1 rfl) (s6.blk 0 rfl) ?_
    exact ⟨rfl,hbb _ s6.bel⟩
  ·have g2:¬ 2≤x.args:=by omega
   simp (disch:=first|omega|exact zF rfl|exact zG rfl|exact fun h=>h|(simp only[zA,zB,zC,zD,bytesW];omega)) only[go_sem,c33S6,c33S11,c33S12,r6,ar,g1,g2]
   refine chk8 _ _ (s6.blk 1 rfl) (s6.blk 0 rfl) ?_
   exact ⟨rfl,hbb _ s6.bel⟩
theorem rowOf_eq(k m:Int):rowOf k m=if k=1∧m=1 then some ⟨1,1,0,2⟩ else if k=1∧m=2 then some ⟨1,2,1,0⟩ else if k=1∧m=3 then some ⟨1,3,2,1⟩ else if k=2∧m=1 then some ⟨2,1,0,3⟩ else if k=2∧m=4 then some ⟨2,4,0,0⟩ else if k=2∧m=5 then some ⟨2,5,0,0⟩ else if k=3∧m=6 then some ⟨3,6,1,0⟩ else if k=3∧m=7 then some ⟨3,7,0,4⟩ else if k=4∧m=8 then some ⟨4,8,1,0⟩ else if k=4∧m=9 then some ⟨4,9,0,4⟩ else if k=5∧m=10 then some ⟨5,10,1,1⟩ else if k=5∧m=11 then some ⟨5,11,1,1⟩ else if k=5∧m=12 then some ⟨5,12,1,1⟩ else if k=6∧m=13 then some ⟨6,13,0,0⟩ else if k=6∧m=14 then some ⟨6,14,0,0⟩ else none:=by
 unfold rowOf rowsTable
 have st:∀ (x:Row4) (l:List Row4),(x::l).find? (fun r=>decide (r.kind=k) && decide (r.method=m))=if k=x.kind∧m=x.method then some x else l.find? (fun r=>decide (r.kind=k) && decide (r.method=m)):=fun x l=>by
  rw [List.find?_cons]
  by_cases h:k=x.kind∧m=x.method
  ·rw [if_pos h,h.1,h.2]; simp
  ·rw [if_neg h]
   have:(decide (x.kind=k) && decide (x.method=m))=false:=by
    rw [Bool.and_eq_false_iff,decide_eq_false_iff_not,decide_eq_false_iff_not]
    omega
   rw [this]
 simp only [st,List.find?_nil]
theorem fits_row(k m:Int):fitsP k m=(rowOf k m).isSome:=by
 rw [rowOf_eq]
 unfold fitsP
 by_cases h1:k=1
 ·subst h1
  by_cases a1:m=1
  ·subst a1; rfl
  by_cases a2:m=2
  ·subst a2; rfl
  by_cases a3:m=3
  ·subst a3; rfl
  simp [a1,a2,a3]
  omega
 by_cases h2:k=2
 ·subst h2
  by_cases a1:m=1
  ·subst a1; rfl
  by_cases a2:m=4
  ·subst a2; rfl
  by_cases a3:m=5
  ·subst a3; rfl
  simp [a1,a2,a3]
 by_cases h3:k=3
 ·subst h3
  by_cases a1:m=6
  ·subst a1; rfl
  by_cases a2:m=7
  ·subst a2; rfl
  simp [a1,a2]
 by_cases h4:k=4
 ·subst h4
  by_cases a1:m=8
  ·subst a1; rfl
  by_cases a2:m=9
  ·subst a2; rfl
  simp [a1,a2]
 by_cases h5:k=5
 ·subst h5
  by_cases a1:m=10
  ·subst a1; rfl
  by_cases a2:m=11
  ·subst a2; rfl
  by_cases a3:m=12
  ·subst a3; rfl
  simp [a1,a2,a3]
  omega
 by_cases h6:k=6
 ·subst h6
  by_cases a1:m=13
  ·subst a1; rfl
  by_cases a2:m=14
  ·subst a2; rfl
  simp [a1,a2]
 simp [h1,h2,h3,h4,h5,h6]
theorem btw_f{n a b:Int}:btw n a b=false↔n<a∨n > b:=by
 unfold btw
 rw [Bool.and_eq_false_iff,decide_eq_false_iff_not,decide_eq_false_iff_not]
 omega
theorem val_btw(n:Int):valP n=btw n 0 1073741824:=rfl
theorem btw_zero(n:Int):btw n 0 0=decide (n=0):=by
 unfold btw
 rw [← Bool.decide_and]
 congr 1
 exact propext (by omega)
theorem rowOf_some{k m:Int}{x:Row4}(h:rowOf k m=some x):x∈rowsTable∧x.kind=k∧x.method=m :=
 ⟨List.mem_of_find?_eq_some h,by have:=List.find?_some h; simpa using this⟩
theorem args_row{o:OpT}{x:Row4}(h:rowOf o.Kind o.Method=some x):argsP o=false↔btw o.Arg 0 (if 1≤x.args then 1073741824 else 0)=false∨btw o.Second 0 (if 2≤x.args then 1073741824 else 0)=false:=by
 obtain ⟨hx,hk,hm⟩:=rowOf_some h
 unfold argsP
 simp only [rowsTable,List.mem_cons,List.not_mem_nil,or_false] at hx
 rcases hx with rfl | rfl | rfl | rfl | rfl | rfl | rfl | rfl | rfl | rfl | rfl | rfl | rfl | rfl | rfl <;> simp only at hk hm <;> simp [← hm,val_btw,btw_zero]
 all_goals first
  | omega
  | (cases btw o.Arg 0 1073741824 <;> simp; done)
  | (cases btw o.Arg 0 1073741824 <;> cases btw o.Second 0 1073741824 <;> simp; done)
theorem res_row{o:OpT}{x:Row4}(h:rowOf o.Kind o.Method=some x):resP o=ansR o.Result x.how:=by
 obtain ⟨hx,hk,hm⟩:=rowOf_some h
 unfold resP ansR
 simp only [rowsTable,List.mem_cons,List.not_mem_nil,or_false] at hx
 rcases hx with rfl | rfl | rfl | rfl | rfl | rfl | rfl | rfl | rfl | rfl | rfl | rfl | rfl | rfl | rfl <;> simp only at hk hm <;> rw [Bool.eq_iff_iff] <;> simp [← hm,← hk,bitP,valP,btw] <;> try omega
theorem chk_eq(o:OpT):chkP o=chkR o:=by
 unfold chkP chkR
 simp only [btw_f]
 by_cases h1:o.ID<1∨o.ID > 1073741824∨o.Proc<0∨o.Proc > 1023∨o.Object<0∨o.Object > 1023
 ·rw [if_pos h1,if_pos (by omega)]
 rw [if_neg h1,if_neg (show ¬ ((o.ID<1∨o.ID > 1073741824)∨(o.Proc<0∨o.Proc > 1023)∨(o.Object<0∨o.Object > 1023)) from by omega),fits_row]
 cases e:rowOf o.Kind o.Method with
 | none=>rw [if_pos (.inl rfl)]
 | some x =>
  unfold rowR timeR
  rw [Option.isSome_some]
  dsimp only
  by_cases a1:argsP o=false
  ·rw [if_pos (.inr (.inl a1)),if_pos ((args_row e).1 a1)]
  by_cases a2:(o.Done=true∧resP o=false)∨(o.Done=false∧o.Result≠0)
  ·rw [if_pos (.inr (.inr a2)),if_neg (fun h=>a1 ((args_row e).2 h)),if_pos (by rw [← res_row e]; exact a2)]
  rw [if_neg (by
   rintro (h | h | h)
   ·cases h
   ·exact a1 h
   ·exact a2 h),if_neg (fun h=>a1 ((args_row e).2 h)),if_neg (show ¬ (o.Done=true∧ansR o.Result x.how=false∨o.Done=false∧o.Result≠0) from by rw [← res_row e]; exact a2)]
  simp only [btw_f]
  by_cases t1:(o.Invoke<0∨o.Invoke > 1099511627776)∨(o.Done=false∧o.Return≠0)
  ·rw [if_pos t1,if_pos]
   rcases t1 with (t | t) | t
   ·exact .inl t
   ·exact .inr (.inl t)
   ·exact .inr (.inr (.inr t))
  ·rw [if_neg t1]
   by_cases t2:o.Done=true∧(o.Return≤o.Invoke∨o.Return > 1099511627776)
   ·rw [if_pos t2,if_pos (.inr (.inr (.inl t2)))]
   ·rw [if_neg t2,if_neg]
    rintro (t | t | t | t)
    ·exact t1 (.inl (.inl t))
    ·exact t1 (.inl (.inr t))
    ·exact t2 t
    ·exact t1 (.inr t)
open Go Go.Ann Go.RowKit
def firstP(k:Int):List Int:=if k=1∨k=2 then [0] else []
theorem mfirst_ok(k:Int)(w:World):Ret Tryz.prog 40 [.int .i64 k] w fun u w'=>(RdS w' 1 intE u (firstP k)∧∀ j,slFoot u j→w.heap.size≤j)∧Below w.heap.size w w':=by
 refine ent40 _ _ _ ?_
 by_cases h:k=1∨k=2
 ·have e:firstP k=[0]:=if_pos h
  rw [e]
  have fin:∀ {K:Value→World→Prop},K (.slice (some ⟨w.heap.size,0,none⟩) 1 1) (w.alloc (.cells #[.int .i64 0] 3))→bsW Tryz.prog 25 1 [0] [.int .i64 0] w K:=fun hK=>bsW_ones ty25mkI rfl rfl (by decide) (by decide) (fun u hu=>by rw [List.mem_singleton] at hu; subst hu; rfl) hK
  have res:(RdS (w.alloc (.cells #[.int .i64 0] 3)) 1 intE (.slice (some ⟨w.heap.size,0,none⟩) 1 1) [0]∧∀ j,slFoot (.slice (some ⟨w.heap.size,0,none⟩) 1 1) j→w.heap.size≤j)∧Below w.heap.size w (w.alloc (.cells #[.int .i64 0] 3)):=by
   refine ⟨⟨rd_new (sz:=1) (n:=1) rfl,fun j hj=>?_⟩,(Below.refl _ _).alloc (Nat.le_refl _) _⟩
   have:=slFoot_own hj
   simp only [Value.ownBlock,Option.some.injEq] at this
   omega
  rcases h with rfl | rfl
  ·simp (disch:=first|omega|exact zF rfl|exact zG rfl|exact fun h=>h|(simp only[zA,zB,zC,zD,bytesW];omega)) only[go_sem]
   refine fin ?_
   simp (disch:=first|omega|exact zF rfl|exact zG rfl|exact fun h=>h|(simp only[zA,zB,zC,zD,bytesW];omega)) only[go_sem]
   exact res
  ·simp (disch:=first|omega|exact zF rfl|exact zG rfl|exact fun h=>h|(simp only[zA,zB,zC,zD,bytesW];omega)) only[go_sem]
   refine fin ?_
   simp (disch:=first|omega|exact zF rfl|exact zG rfl|exact fun h=>h|(simp only[zA,zB,zC,zD,bytesW];omega)) only[go_sem]
   exact res
 ·have e:firstP k=[]:=if_neg h
  rw [e]
  have h1:¬ k=1:=fun e=>h (.inl e)
  have h2:¬ k=2:=fun e=>h (.inr e)
  simp (disch:=first|omega|exact zF rfl|exact zG rfl|exact fun h=>h|(simp only[zA,zB,zC,zD,bytesW];omega)) only[go_sem,h1,h2]
  refine ⟨⟨⟨by simp,none,0,rfl,Nat.le_refl _,fun h=>absurd rfl h⟩,fun j hj=>?_⟩,Below.refl _ _⟩
  have:=slFoot_own hj
  simp [Value.ownBlock] at this
theorem rfirst_ok(k:Int)(w:World):Ret Tryz.prog 22 [.int .i64 k] w fun u w'=>(RdS w' 1 intE u (firstP k)∧∀ j,slFoot u j→w.heap.size≤j)∧Below w.heap.size w w':=by
 refine ent22 _ _ _ ?_
 by_cases h:k=1∨k=2
 ·have e:firstP k=[0]:=if_pos h
  rw [e]
  have fin:∀ {K:Value→World→Prop},K (.slice (some ⟨w.heap.size,0,none⟩) 1 1) (w.alloc (.cells #[.int .i64 0] 3))→bsW Tryz.prog 25 1 [0] [.int .i64 0] w K:=fun hK=>bsW_ones ty25mkI rfl rfl (by decide) (by decide) (intE_one 0) hK
  have res:(RdS (w.alloc (.cells #[.int .i64 0] 3)) 1 intE (.slice (some ⟨w.heap.size,0,none⟩) 1 1) [0]∧∀ j,slFoot (.slice (some ⟨w.heap.size,0,none⟩) 1 1) j→w.heap.size≤j)∧Below w.heap.size w (w.alloc (.cells #[.int .i64 0] 3)):=by
   refine ⟨⟨rd_new (sz:=1) (n:=1) rfl,fun j hj=>?_⟩,(Below.refl _ _).alloc (Nat.le_refl _) _⟩
   have:=slFoot_own hj
   simp only [Value.ownBlock,Option.some.injEq] at this
   omega
  rcases h with rfl | rfl
  ·simp (disch:=first|omega|exact zF rfl|exact zG rfl|exact fun h=>h|(simp only[zA,zB,zC,zD,bytesW];omega)) only[go_sem]
   refine fin ?_
   simp (disch:=first|omega|exact zF rfl|exact zG rfl|exact fun h=>h|(simp only[zA,zB,zC,zD,bytesW];omega)) only[go_sem]
   exact res
  ·simp (disch:=first|omega|exact zF rfl|exact zG rfl|exact fun h=>h|(simp only[zA,zB,zC,zD,bytesW];omega)) only[go_sem]
   refine fin ?_
   simp (disch:=first|omega|exact zF rfl|exact zG rfl|exact fun h=>h|(simp only[zA,zB,zC,zD,bytesW];omega)) only[go_sem]
   exact res
 ·have e:firstP k=[]:=if_neg h
  rw [e]
  have h1:¬ k=1:=fun e=>h (.inl e)
  have h2:¬ k=2:=fun e=>h (.inr e)
  simp (disch:=first|omega|exact zF rfl|exact zG rfl|exact fun h=>h|(simp only[zA,zB,zC,zD,bytesW];omega)) only[go_sem,h1,h2]
  refine ⟨⟨⟨by simp,none,0,rfl,Nat.le_refl _,fun h=>absurd rfl h⟩,fun j hj=>?_⟩,Below.refl _ _⟩
  have:=slFoot_own hj
  simp [Value.ownBlock] at this
theorem pure_nodup{l:List OpT}(h:(l.map OpT.ID).Nodup):Cut.Pure l:=by
 induction l with
 | nil=>exact fun a ha=>by cases ha
 | cons x r ih =>
  rw [List.map_cons,List.nodup_cons] at h
  intro a ha b hb e
  rcases List.mem_cons.1 ha with e1 | ha1
  ·rcases List.mem_cons.1 hb with e2 | hb1
   ·rw [e1,e2]
   ·exact absurd (by rw [← e1,e]; exact List.mem_map_of_mem hb1) h.1
  ·rcases List.mem_cons.1 hb with e2 | hb1
   ·exact absurd (by rw [← e2,← e]; exact List.mem_map_of_mem ha1) h.1
   ·exact ih h.2 a ha1 b hb1 e
theorem nodup_sub_len:∀ {a b:List Int},a.Nodup→(∀ x∈a,x∈b)→a.length≤b.length
 | [],_,_,_=>Nat.zero_le _
 | x::r,b,h,hs=>by
  rw [List.nodup_cons] at h
  have hx:=hs x List.mem_cons_self
  have:=nodup_sub_len (a:=r) (b:=b.erase x) h.2 fun y hy=>(List.mem_erase_of_ne (fun e=>h.1 (by rw [← e]; exact hy))).2 (hs y (List.mem_cons_of_mem _ hy))
  rw [List.length_erase_of_mem hx] at this
  have:=List.length_pos_of_mem hx
  rw [List.length_cons]
  omega
theorem byObj_len{l:List OpT}{segs:List Seg}(h:Cut.ByObj l segs):segs.length≤l.length:=by
 have:=nodup_sub_len (a:=segs.map Seg.obj) (b:=l.map OpT.Object) (by
  unfold List.Nodup
  rw [List.pairwise_map]
  exact h.up.imp fun h=>Int.ne_of_lt h) (fun x hx=>by
  obtain ⟨s,hs,rfl⟩:=List.mem_map.1 hx
  obtain ⟨o,r,e,_⟩:=h.kind s hs
  have ho:o∈s.ops:=by rw [e]; exact List.mem_cons_self
  have:=(h.sorts s hs).1.mem_iff.1 ho
  unfold Cut.ofObj at this
  obtain ⟨a,b⟩:=List.mem_filter.1 this
  exact List.mem_map.2 ⟨o,a,by simpa using b⟩)
 simpa using this
theorem st_recast{W0 w:World}{F:Nat→Prop}{L L':List Res}{I:List Inv}(h:St W0 w F L I)(e:L=L'):St W0 w F L' I:=e ▸ h
theorem St.front{W0 w:World}{F:Nat→Prop}{A D L:List Res}{I:List Inv}(h:St W0 w F (A++(D++L)) I):St W0 w F (D++(A++L)) I :=
 h.perm (by rw [← List.append_assoc,← List.append_assoc]; exact List.perm_append_comm.append_right L)
open Go Go.Ann Go.RowKit
theorem idx_mem{l:List Int}{x:Int}(h:x∈l):∃ h1:l.idxOf x<l.length,l[l.idxOf x]=x:=⟨List.idxOf_lt_length_iff.2 h,List.getElem_idxOf (List.idxOf_lt_length_iff.2 h)⟩
def startW(accP accO:List Seg):Sp:=⟨List.replicate accP.length 0,accO.map fun s=>firstP s.kind⟩
def progsW(accP:List Seg):List (List OpT):=accP.map Seg.ops
def objsW(accO:List Seg):List Int:=accO.map Seg.obj
theorem byProc_mem{l:List OpT}{acc:List Seg}(h:Cut.ByProc l acc){s:Seg}(hs:s∈acc)(o:OpT):o∈s.ops↔o∈l∧o.Proc=s.obj:=by
 rw [(h.sorts s hs).1.mem_iff]
 unfold Cut.ofProc
 rw [List.mem_filter,decide_eq_true_eq]
theorem byObj_mem{l:List OpT}{acc:List Seg}(h:Cut.ByObj l acc){s:Seg}(hs:s∈acc)(o:OpT):o∈s.ops↔o∈l∧o.Object=s.obj:=by
 rw [(h.sorts s hs).1.mem_iff]
 unfold Cut.ofObj
 rw [List.mem_filter,decide_eq_true_eq]
open Go Go.Ann Go.RowKit
theorem mem_opAt{P:List (List OpT)}{d:List Nat}{k:Nat}{o:OpT}(h:opAt P d k=some o):k<P.length∧o∈P.getD k []:=by
 have hk:=opAt_lt h
 refine ⟨hk,?_⟩
 unfold opAt at h
 rw [List.getElem?_eq_getElem hk] at h
 rw [List.getD_eq_getElem?_getD,List.getElem?_eq_getElem hk]
 simp only [Option.bind_some] at h
 cases e:d[k]? with
 | none=>rw [e] at h; cases h
 | some n =>
  rw [e] at h
  exact List.mem_of_getElem? h
theorem progs_getD{accP:List Seg}{k:Nat}(hk:k<accP.length):(progsW accP).getD k []=accP[k].ops:=by
 unfold progsW
 rw [List.getD_eq_getElem?_getD,List.getElem?_map,List.getElem?_eq_getElem hk]
 rfl
theorem progs_one{l:List OpT}{accP:List Seg}(hp:Cut.ByProc l accP)(hl:Cut.Pure l):∀ d k k' o o',opAt (progsW accP) d k=some o→opAt (progsW accP) d k'=some o'→o.ID=o'.ID→k=k':=by
 intro d k k' o o' h h' e
 obtain ⟨h1,h2⟩:=mem_opAt h
 obtain ⟨h3,h4⟩:=mem_opAt h'
 have hlen:(progsW accP).length=accP.length:=List.length_map ..
 rw [hlen] at h1 h3
 rw [progs_getD h1] at h2
 rw [progs_getD h3] at h4
 obtain ⟨a1,a2⟩:=(byProc_mem hp (List.getElem_mem h1) o).1 h2
 obtain ⟨b1,b2⟩:=(byProc_mem hp (List.getElem_mem h3) o').1 h4
 rw [hl o a1 o' b1 e] at a2
 have hnd:(accP.map Seg.obj).Nodup:=by
  unfold List.Nodup
  rw [List.pairwise_map]
  exact hp.up.imp fun h=>Int.ne_of_lt h
 have h5:(accP.map Seg.obj)[k]'(by simpa using h1)=(accP.map Seg.obj)[k']'(by simpa using h3):=by
  rw [List.getElem_map,List.getElem_map,← a2,← b2]
 exact (List.getElem_inj hnd).1 h5
theorem rem_zero:∀ (P:List (List OpT)),remP P (List.replicate P.length 0)=(P.map List.length).sum
 | []=>rfl
 | p::P=>by rw [List.length_cons,List.replicate_succ,remP,rem_zero P,List.map_cons,List.sum_cons]; omega
theorem rem_start{l:List OpT}{accP accO:List Seg}(hp:Cut.ByProc l accP)(hl:(l.map OpT.ID).Nodup):remP (progsW accP) (startW accP accO).done≤l.length:=by
 have hlen:(progsW accP).length=accP.length:=List.length_map ..
 have e:(startW accP accO).done=List.replicate (progsW accP).length 0:=by rw [hlen]; rfl
 rw [e,rem_zero]
 have h1:((progsW accP).map List.length).sum=(progsW accP).flatten.length:=(List.length_flatten ..).symm
 rw [h1]
 have hpure:=pure_nodup hl
 have hnl:l.Nodup:=by
  unfold List.Nodup at hl ⊢
  rw [List.pairwise_map] at hl
  exact hl.imp fun h e=>h (by rw [e])
 have h2:((progsW accP).flatten.map OpT.ID).Nodup:=by
  have h3:(progsW accP).flatten.Pairwise fun a b=>a.ID≠b.ID:=by
   refine List.pairwise_flatten.2 ⟨fun Q hQ=>?_,?_⟩
   ·obtain ⟨s,hs,rfl⟩:=List.mem_map.1 hQ
    have:s.ops.Nodup:=((hp.sorts s hs).1.nodup_iff).2 (hnl.filter _)
    unfold List.Nodup at this
    refine this.imp_of_mem fun {a b} ha hb h e=>h (hpure a ((byProc_mem hp hs a).1 ha).1 b ((byProc_mem hp hs b).1 hb).1 e)
   ·unfold progsW
    rw [List.pairwise_map]
    refine hp.up.imp_of_mem fun {s t} hs ht h a ha b hb e=>?_
    obtain ⟨a1,a2⟩:=(byProc_mem hp hs a).1 ha
    obtain ⟨b1,b2⟩:=(byProc_mem hp ht b).1 hb
    rw [hpure a a1 b b1 e] at a2
    omega
  unfold List.Nodup
  rw [List.pairwise_map]
  exact h3
 have:=nodup_sub_len h2 (b:=l.map OpT.ID) fun x hx=>by
  obtain ⟨o,ho,rfl⟩:=List.mem_map.1 hx
  obtain ⟨Q,hQ,hoQ⟩:=List.mem_flatten.1 ho
  obtain ⟨s,hs,rfl⟩:=List.mem_map.1 hQ
  exact List.mem_map_of_mem ((byProc_mem hp hs o).1 hoQ).1
 rw [List.length_map,List.length_map] at this
 exact this
structure SpOk(P:List (List OpT))(accO:List Seg)(M:Nat)(s:Sp):Prop where
 dl:s.done.length=P.length
 sl:s.st.length=accO.length
 le:∀ k,s.done.getD k 0≤(P.getD k []).length
 ok:∀ x,(h:x<accO.length)→Ok64 (s.st.getD x [])∧(s.st.getD x []).length+remP P s.done≤M∧(accO[x].kind=5→(s.st.getD x []).Pairwise (· < ·))
theorem firstP_ok(k:Int):Ok64 (firstP k)∧(firstP k).length≤1∧(k=5→(firstP k).Pairwise (· < ·)):=by
 unfold firstP
 split
 ·exact ⟨fun n hn=>by rw [List.mem_singleton] at hn; subst hn; exact ⟨by decide,by decide⟩,Nat.le_refl _,fun _=>by simp⟩
 ·exact ⟨fun n hn=>(by cases hn),Nat.zero_le _,fun _=>List.Pairwise.nil⟩
theorem start_ok{accP accO:List Seg}{M:Nat}(h:remP (progsW accP) (startW accP accO).done+1≤M):SpOk (progsW accP) accO M (startW accP accO):=by
 refine ⟨by simp [startW,progsW],by simp [startW],fun k=>?_,fun x hx=>?_⟩
 ·have:(startW accP accO).done.getD k 0=0:=by
   unfold startW
   simp only
   rw [List.getD_eq_getElem?_getD,List.getElem?_replicate]
   split <;> rfl
  omega
 ·have e:(startW accP accO).st.getD x []=firstP accO[x].kind:=by
   unfold startW
   simp only
   rw [List.getD_eq_getElem?_getD,List.getElem?_map,List.getElem?_eq_getElem hx]
   rfl
  rw [e]
  obtain ⟨h1,h2,h3⟩:=firstP_ok accO[x].kind
  exact ⟨h1,by omega,h3⟩
structure PrOk(P:List (List OpT))(accO:List Seg):Prop where
 wf:∀ k,∀ o∈P.getD k [],o.wf
 ob:∀ k,∀ o∈P.getD k [],∃ h:(objsW accO).idxOf o.Object<accO.length,accO[(objsW accO).idxOf o.Object].kind=o.Kind
theorem mv_ok{P:List (List OpT)}{accO:List Seg}{M:Nat}{s:Sp}{k:Nat}{m:Int × Sp}(hP:PrOk P accO)(h:SpOk P accO M s)(hm:mvP P (objsW accO) s k=some m):SpOk P accO M m.2:=by
 have hrem:=mvP_rem hm
 unfold mvP at hm
 cases ho:opAt P s.done k with
 | none=>rw [ho] at hm; cases hm
 | some o =>
  rw [ho] at hm
  simp only at hm
  cases ht:stepP (s.st.getD ((objsW accO).idxOf o.Object) []) o with
  | none=>rw [ht] at hm; cases hm
  | some t =>
   rw [ht] at hm
   cases hm
   obtain ⟨hk,hmem⟩:=mem_opAt ho
   obtain ⟨hx,hkind⟩:=hP.ob k o hmem
   obtain ⟨a1,a2,a3⟩:=h.ok _ hx
   obtain ⟨b1,b2,b3⟩:=stepP_ok (hP.wf k o hmem) a1 (fun e=>a3 (hkind.trans e)) ht
   simp only at hrem
   refine ⟨by simp only [List.length_set]; exact h.dl,by simp only [List.length_set]; exact h.sl,fun j=>?_,fun x hxl=>?_⟩
   ·simp only
    by_cases e:k=j
    ·subst e
     rw [getD_set_eq (by rw [h.dl]; exact hk)]
     unfold opAt at ho
     rw [List.getElem?_eq_getElem hk,List.getElem?_eq_getElem (show k<s.done.length by rw [h.dl]; exact hk)] at ho
     simp only [Option.bind_some] at ho
     have:=(List.getElem?_eq_some_iff.1 ho).choose
     have e2:s.done.getD k 0=s.done[k]'(by rw [h.dl]; exact hk):=by rw [List.getD_eq_getElem?_getD,List.getElem?_eq_getElem]; rfl
     have e3:P.getD k []=P[k]:=by rw [List.getD_eq_getElem?_getD,List.getElem?_eq_getElem hk]; rfl
     rw [e2,e3]
     omega
    ·rw [getD_set_ne e]
     exact h.le j
   ·simp only
    by_cases e:(objsW accO).idxOf o.Object=x
    ·subst e
     rw [getD_set_eq (by rw [h.sl]; exact hx)]
     exact ⟨b1,by omega,fun e=>b3 (hkind.symm.trans e)⟩
    ·rw [getD_set_ne e]
     obtain ⟨c1,c2,c3⟩:=h.ok x hxl
     exact ⟨c1,by omega,c3⟩
theorem SpOk.text{P:List (List OpT)}{accO:List Seg}{M:Nat}{s:Sp}(h:SpOk P accO M s)(hM:M≤1000)(hP:∀ k,(P.getD k []).length≤200):OkSp P.length accO.length s:=by
 refine ⟨h.dl,h.sl,fun n hn=>?_,fun x hx=>?_⟩
 ·obtain ⟨k,hk,rfl⟩:=List.mem_iff_getElem.1 hn
  have:=h.le k
  have e:s.done.getD k 0=s.done[k]:=by rw [List.getD_eq_getElem?_getD,List.getElem?_eq_getElem hk]; rfl
  have:=hP k
  omega
 ·obtain ⟨k,hk,rfl⟩:=List.mem_iff_getElem.1 hx
  have e:s.st.getD k []=s.st[k]:=by rw [List.getD_eq_getElem?_getD,List.getElem?_eq_getElem hk]; rfl
  obtain ⟨a,b,_⟩:=h.ok k (by rw [← h.sl]; exact hk)
  rw [e] at a b
  exact ⟨a,by omega⟩
theorem prok_of{l:List OpT}{accP accO:List Seg}(hp:Cut.ByProc l accP)(ho:Cut.ByObj l accO)(hw:∀ o∈l,o.wf)(hk:∀ a∈l,∀ b∈l,a.Object=b.Object→a.Kind=b.Kind):PrOk (progsW accP) accO:=by
 have hin:∀ k,∀ o∈(progsW accP).getD k [],o∈l:=fun k o h=>by
  by_cases hkl:k<accP.length
  ·rw [progs_getD hkl] at h
   exact ((byProc_mem hp (List.getElem_mem hkl) o).1 h).1
  ·rw [List.getD_eq_getElem?_getD,List.getElem?_eq_none (by unfold progsW; simpa using hkl)] at h
   cases h
 refine ⟨fun k o h=>hw o (hin k o h),fun k o h=>?_⟩
 obtain ⟨s,hs,e⟩:=ho.all o (hin k o h)
 have hmem:o.Object∈objsW accO:=List.mem_map.2 ⟨s,hs,e⟩
 obtain ⟨h1,h2⟩:=idx_mem hmem
 have hlt:(objsW accO).idxOf o.Object<accO.length:=by simpa [objsW] using h1
 refine ⟨hlt,?_⟩
 have h3:accO[(objsW accO).idxOf o.Object].obj=o.Object:=by
  have:(objsW accO)[(objsW accO).idxOf o.Object]=accO[(objsW accO).idxOf o.Object].obj:=List.getElem_map ..
  rw [← this,h2]
 obtain ⟨o1,r,e1,e2⟩:=ho.kind _ (List.getElem_mem hlt)
 have ho1:o1∈accO[(objsW accO).idxOf o.Object].ops:=by rw [e1]; exact List.mem_cons_self
 obtain ⟨b1,b2⟩:=(byObj_mem ho (List.getElem_mem hlt) o1).1 ho1
 rw [e2]
 exact hk o1 b1 o (hin k o h) (by rw [b2,h3])
open Go Go.Ann Go.RowKit
theorem sum_set:∀ {d:List Nat} {k:Nat},k<d.length→(d.set k (d.getD k 0+1)).sum=d.sum+1
 | [],_,h=>by simp at h
 | n::d,0,_=>by simp only [List.set_cons_zero,List.getD_cons_zero,List.sum_cons]; omega
 | n::d,k+1,h=>by
  have:=sum_set (d:=d) (k:=k) (by simpa using h)
  simp only [List.set_cons_succ,List.getD_cons_succ,List.sum_cons]
  omega
theorem mv_sum{P:List (List OpT)}{obs:List Int}{s:Sp}{m:Int × Sp}(hd:s.done.length=P.length)(h:m∈mvsP P obs s):m.2.done.sum=s.done.sum+1:=by
 obtain ⟨k,hk,hm⟩:=List.mem_filterMap.1 h
 unfold mvP at hm
 split at hm
 ·cases hm
 ·rename_i o ho
  split at hm
  ·cases hm
  ·cases hm
   exact sum_set (by rw [hd]; exact opAt_lt ho)
inductive SeqR(P:List (List OpT))(obs:List Int)(s:Sp)(most:Int):Int→Int→Option (List Int)→Prop
 | over {r:List Sp} (h:BfsR P obs most [s] 0 r) (hr:most<r.length):SeqR P obs s most 35 0 none
 | all {r:List Sp} (h:BfsR P obs most [s] 0 r) (hr:(r.length:Int)≤most):SeqR P obs s most 0 r.length (bestS P obs s)
theorem SeqR.one{P:List (List OpT)}{obs:List Int}{s:Sp}{most e e' n n':Int}{x x':Option (List Int)}(h:SeqR P obs s most e n x)(k:SeqR P obs s most e' n' x'):e=e'∧n=n'∧x=x':=by
 cases h with
 | over h hr =>
  cases k with
  | over=>exact ⟨rfl,rfl,rfl⟩
  | all h' hr'=>cases h.one h'; omega
 | all h hr =>
  cases k with
  | over h' hr'=>cases h.one h'; omega
  | all h'=>cases h.one h'; exact ⟨rfl,rfl,rfl⟩
open Go Go.Ann Go.RowKit
abbrev ObS:=Int × List Int
def posD(SL:List ObS)(x:Int):Option Nat:=SL.findIdx? fun p=>decide (p.1=x)
def findD(SL:List ObS)(x k:Int):List Int:=match posD SL x with
 | some i=>(SL.getD i (0,[])).2
 | none=>firstP k
def putD(SL:List ObS)(x:Int)(t:List Int):List ObS:=match posD SL x with
 | some i=>SL.set i ((SL.getD i (0,[])).1,t)
 | none=>SL++[(x,t)]
theorem posD_some{SL:List ObS}{x:Int}{i:Nat}(h:posD SL x=some i):∃ hi:i<SL.length,SL[i].1=x:=by
 obtain ⟨h1,h2,_⟩:=List.findIdx?_eq_some_iff_getElem.1 h
 exact ⟨h1,by simpa using h2⟩
theorem posD_none{SL:List ObS}{x:Int}(h:posD SL x=none):∀ p∈SL,p.1≠x:=fun p hp=>by
 have:=List.findIdx?_eq_none_iff.1 h p hp
 simpa using this
theorem posD_keys{A B:List ObS}(h:A.map Prod.fst=B.map Prod.fst)(x:Int):posD A x=posD B x:=by
 unfold posD
 have e:∀ L:List ObS,L.findIdx? (fun p=>decide (p.1=x))=(L.map Prod.fst).findIdx? fun y=>decide (y=x):=fun L=>by
  rw [List.findIdx?_map]
  rfl
 rw [e,e,h]
theorem putD_find{SL:List ObS}{x y k:Int}{t:List Int}:findD (putD SL x t) y k=if y=x then t else findD SL y k:=by
 unfold putD
 cases e:posD SL x with
 | some i =>
  obtain ⟨hi,hx⟩:=posD_some e
  have hkeys:(SL.set i ((SL.getD i (0,[])).1,t)).map Prod.fst=SL.map Prod.fst:=by
   rw [List.map_set]
   refine List.ext_getElem (by simp) fun j h1 h2=>?_
   rw [List.getElem_set]
   split
   ·rename_i ej
    subst ej
    rw [List.getElem_map,List.getD_eq_getElem?_getD,List.getElem?_eq_getElem hi]
    rfl
   ·rfl
  simp only
  unfold findD
  rw [posD_keys hkeys]
  by_cases ey:y=x
  ·subst ey
   rw [e,if_pos rfl]
   simp only
   rw [getD_set_eq hi]
  ·rw [if_neg ey]
   cases e2:posD SL y with
   | none=>rfl
   | some j =>
    obtain ⟨hj,hy⟩:=posD_some e2
    simp only
    rw [getD_set_ne fun ej=>ey (by subst ej; rw [← hx,← hy])]
 | none =>
  have hno:=posD_none e
  simp only
  unfold findD
  by_cases ey:y=x
  ·subst ey
   have:posD (SL++[(y,t)]) y=some SL.length:=by
    unfold posD
    refine List.findIdx?_eq_some_iff_getElem.2 ⟨by simp,by simp,fun j hj=>?_⟩
    rw [List.getElem_append_left hj]
    have:=hno _ (List.getElem_mem hj)
    simpa using this
   rw [this,if_pos rfl]
   simp only
   rw [List.getD_eq_getElem?_getD,List.getElem?_append_right (Nat.le_refl _),Nat.sub_self]
   rfl
  ·rw [if_neg ey]
   cases e2:posD SL y with
   | none =>
    have:posD (SL++[(x,t)]) y=none:=by
     unfold posD
     refine List.findIdx?_eq_none_iff.2 fun p hp=>?_
     rcases List.mem_append.1 hp with hp | hp
     ·have:=posD_none e2 p hp
      simpa using this
     ·rw [List.mem_singleton] at hp
      subst hp
      simpa using fun h=>ey h.symm
    rw [this]
   | some j =>
    obtain ⟨hj,hy⟩:=posD_some e2
    have:posD (SL++[(x,t)]) y=some j:=by
     unfold posD at e2 ⊢
     obtain ⟨h1,h2,h3⟩:=List.findIdx?_eq_some_iff_getElem.1 e2
     refine List.findIdx?_eq_some_iff_getElem.2 ⟨by simp; omega,by rw [List.getElem_append_left h1]; exact h2,fun i hi=>?_⟩
     rw [List.getElem_append_left (by omega)]
     exact h3 i hi
    rw [this]
    simp only
    rw [List.getD_eq_getElem?_getD,List.getElem?_append_left hj,← List.getD_eq_getElem?_getD]
def StD(accO:List Seg)(SL:List ObS)(st:List (List Int)):Prop:=∀ x,(h:x<accO.length)→findD SL accO[x].obj accO[x].kind=st.getD x []
theorem StD.start{accP accO:List Seg}:StD accO [] (startW accP accO).st:=fun x hx=>by
 unfold startW findD posD
 simp only [List.findIdx?_nil]
 rw [List.getD_eq_getElem?_getD,List.getElem?_map,List.getElem?_eq_getElem hx]
 rfl
theorem StD.put{accO:List Seg}{SL:List ObS}{st:List (List Int)}(h:StD accO SL st)(hst:st.length=accO.length)(hu:accO.Pairwise fun a b=>a.obj<b.obj){o:OpT}(ho:(objsW accO).idxOf o.Object<accO.length)(t:List Int):StD accO (putD SL o.Object t) (st.set ((objsW accO).idxOf o.Object) t):=fun x hx=>by
 rw [putD_find]
 have hob:accO[(objsW accO).idxOf o.Object].obj=o.Object:=by
  have h1:(objsW accO).idxOf o.Object<(objsW accO).length:=by simpa [objsW] using ho
  have:=List.getElem_idxOf h1
  have e:(objsW accO)[(objsW accO).idxOf o.Object]=accO[(objsW accO).idxOf o.Object].obj:=List.getElem_map ..
  rw [← e,this]
 by_cases e:(objsW accO).idxOf o.Object=x
 ·subst e
  rw [hob,if_pos rfl,getD_set_eq (by omega)]
 ·rw [getD_set_ne e,if_neg,h x hx]
  intro e2
  apply e
  have hnd:(accO.map Seg.obj).Nodup:=by
   unfold List.Nodup
   rw [List.pairwise_map]
   exact hu.imp fun h=>Int.ne_of_lt h
  have h3:(accO.map Seg.obj)[(objsW accO).idxOf o.Object]'(by simpa using ho)=(accO.map Seg.obj)[x]'(by simpa using hx):=by
   rw [List.getElem_map,List.getElem_map,hob,e2]
  exact (List.getElem_inj hnd).1 h3
def keyD(accO:List Seg)(done:List Nat)(SL:List ObS):List UInt8:=done.map u8++accO.flatMap fun s=>txt (findD SL s.obj s.kind)
theorem key_eq{accO:List Seg}{done:List Nat}{SL:List ObS}{st:List (List Int)}(h:StD accO SL st)(hst:st.length=accO.length):keyD accO done SL=spT ⟨done,st⟩:=by
 unfold keyD spT
 congr 1
 have e:accO.map (fun s=>findD SL s.obj s.kind)=st:=by
  refine List.ext_getElem (by simp [hst]) fun i h1 h2=>?_
  rw [List.getElem_map]
  have:=h i (by simpa using h1)
  rw [this,List.getD_eq_getElem?_getD,List.getElem?_eq_getElem h2]
  rfl
 have e2:accO.flatMap (fun s=>txt (findD SL s.obj s.kind))=(accO.map fun s=>findD SL s.obj s.kind).flatMap txt:=by
  rw [List.flatMap_map]
 rw [e2,e]
end Go.Proofs.YtoadmihnihfjkaaGreat

namespace Go.Proofs.YtoadmihnihfjkaaGreat.Cut
open Go Go.Ann Go.RowKit Go.WideShapes
def progR(w:World)(s:Seg)(c:List Value):Prop:=∃ v,c=[v]∧RdS w 11 OpT.enc v s.ops∧(s.ops.length:Int)≤9223372036854775806
theorem progR.below{w w':World}(hb:Below w.heap.size w w')(s:Seg)(c:List Value)(h:progR w s c):progR w' s c:=by
 obtain ⟨v,rfl,h1,h2⟩:=h
 exact ⟨v,rfl,h1.below hb (by decide),h2⟩
end Go.Proofs.YtoadmihnihfjkaaGreat.Cut

namespace Go.Ann
open Go Go.RowKit
section
variable {P:Program} {N:Nat}
theorem RangeW_any{g:Operand}{ps:List Nat}{A B:Cmd}{ρ:Env}{w W0:World}{Q:Post}{F:Nat→Prop}{L0:List Res}{I:List Inv}{α β:Type}{gf:Nat}{lb:Array Value}
  (encs:α→List Value) (E:List α→α→Prop) (G:List α→Prop) (L:β→List α→List Res) (y0:β)
  (hg:ev ρ g=some (.func (.func gf) #[] lb)) (hgo:goFunc P gf=true) (s:St W0 w F L0 I) (hL:L y0 []=L0) (hlen:∀ x,(encs x).length=ps.length)
  (hit:∀ (fv:Value) (J:List Res→List α→World→Prop) (w1:World),(∀ R pre w',J R pre w'→∃ l D o y,St W0 w' F (.obj l o::.obj D (.deferred (some []))::(L y pre++R)) I)→(∀ R R' pre w' w'',J R pre w'→(∀ X,St W0 w' F (X++R) I→St W0 w'' F (X++R') I)→J R' pre w'') →
   (∀ R pre x w',J R pre w'→E pre x→callW P fv (encs x) w' fun v w''=>v=.bool true∧J R (pre++[x]) w'')→J [] [] w1→Ret P gf (fv::lb.toList) w1 fun _ w'=>∃ xs,G xs∧J [] xs w')
  (hbody:∀ R y pre x w' l D o o2,E pre x→St W0 w' F (.obj l o::.obj D (.deferred (some []))::(L y pre++R)) I→W P A (zipE ps (encs x) (lowE ρ)) w' fun e ρ1 w1=>match e with
   | .normal=>∃ M,St W0 w1 F (.obj l o::.obj D (.deferred (some []))::(M++R)) I∧∀ w2,St W0 w2 F (.obj l o2::.obj D (.deferred (some []))::(M++R)) I→W P B ρ1 w2 fun e2 _ w3=>match e2 with
    | .normal=>∃ y',St W0 w3 F (.obj l o2::.obj D (.deferred (some []))::(L y' (pre++[x])++R)) I
    | _=>False
   | _=>False)
  (hdone:∀ xs y D w',G xs→St W0 w' F (.obj D (.deferred (some []))::L y xs) I→Q .normal ((D+1000000,undef)::ρ) w'):RangeW P g ps A B ρ w Q:=by
 intro N a ca cb hca hcb hra hrb hps hs
 refine wpIn_rangeFunc fun fn _=>?_
 obtain ⟨rec,hrec⟩:∃ rec:LoopState→Option Code→Loop,rec=fun st pe=>{ state:=st,pending:=pe,fn,tmps:=a.tmps,params:=ps.toArray,assign:=ca,body:=cb,defers:=w.heap.size }:=⟨_,rfl⟩
 have hs1:St W0 ((w.alloc (.deferred (some []))).alloc (.loop (rec .ready none))) F (.obj (w.heap.size+1) (.loop (rec .ready none))::.obj w.heap.size (.deferred (some []))::L y0 []) I:=by
  rw [hL]
  have:=(s.lay (.deferred (some []))).lay (.loop (rec .ready none))
  rw [World.size_alloc] at this
  exact this
 generalize hw1:(w.alloc (.deferred (some []))).alloc (.loop (rec .ready none))=w1 at hs1
 refine ⟨w.heap.size+1,[{ target:=.collected w.heap.size,args:=#[] }],w1,{ target:=.fn (.func gf) lb,args:=#[.func (.yield (w.heap.size+1)) #[] #[]] },w1,gf,
  #[.func (.yield (w.heap.size+1)) #[] #[]]++lb,w1,?_,?_,?_,?_,fun _=>by decide,?_⟩
 ·rw [← hw1,hrec]; exact run_enterLoop_outer _ _ _ _ _
 ·simp only [resolve,hs.eval _ _ hg]
  simp [go_sem]
 ·intro f' _; exact trivial
 ·simp [invoke,go_sem,callFunc_run hgo]
 ·generalize w.heap.size+1=l at hs1 ⊢
  generalize w.heap.size=D at hrec hs1 ⊢
  have key:=hit (.func (.yield l) #[] #[]) (fun R pre w'=>∃ y,St W0 w' F (.obj l (.loop (rec .ready none))::.obj D (.deferred (some []))::(L y pre++R)) I) w1 (fun R pre w' ⟨y,h⟩=>⟨_,_,_,y,h⟩) (fun R R' pre w' w'' ⟨y,h⟩ hX=>⟨y,hX (.obj l (.loop (rec .ready none))::.obj D (.deferred (some []))::L y pre) h⟩) ?_ ⟨y0,by rw [List.append_nil]; exact hs1⟩
  ·have e:#[Value.func (.yield l) #[] #[]]++lb=(Value.func (.yield l) #[] #[]::lb.toList).toArray:=by simp
   rw [e]
   refine CallsIn.mono (callsIn_wide.2 key) fun e w2 ⟨v,he,xs,hG,y,h2⟩=>?_
   subst he
   simp only [List.append_nil] at h2
   have hl:=h2.obj 0 rfl
   refine ⟨none,w2.putObj l (.loop { rec .ready none with state:=.exhausted }),?_,?_⟩
   ·have:=run_endLoop (P:=P) hl (by rw [hrec]; simp)
    rw [hrec] at this ⊢
    exact this
   ·have h3:=(h2.putObj 0 rfl (.loop { rec .ready none with state:=.exhausted })).sub (L':=.obj D (.deferred (some []))::L y xs) (by simp)
    exact ⟨_,hs.mark D,hdone xs y D _ hG h3⟩
  ·rintro R pre x w' ⟨y,h⟩ hx
   have hl:=h.obj 0 rfl
   have hsz:(encs x).toArray.size=(rec .ready none).params.size:=by rw [hrec]; simp [hlen]
   have hy:=run_yield (P:=P) hl hsz
   rw [hrec] at hy
   refine ⟨rfl,rfl,fn,_,ca,cb,hy,?_⟩
   refine roundIn_of_wpIn trivial ?_
   have hsim:Sim N { tmps:=((ps.toArray.zip (encs x).toArray).foldl (fun t (p,v)=>t.setIfInBounds p v) a.tmps),defers:=[] } (zipE ps (encs x) (lowE ρ)):=by
    have:=Sim.zipE (a:={ tmps:=a.tmps,defers:=[] }) ps (encs x) (lowE ρ) a.tmps hps hs.lowE
    rw [← Array.foldl_toList,Array.toList_zip]
    exact this
   have hA:=W_sound (r:=some l) (n:=0) ca A hca (.inl hra) _ w' _ _ hsim (hbody R y pre x w' l D _ (.loop { rec .ready none with state:=.busy }) hx h)
   refine wpIn_mono hA fun e a1 w1 hh=>?_
   obtain ⟨ρ1,hs1,hq⟩:=hh
   cases e with
   | normal =>
    obtain ⟨M,hM,hB⟩:=hq
    have hl1:=hM.obj 0 rfl
    refine ⟨_,run_beginRound hl1 (by rw [hrec]),?_⟩
    have hB':=W_sound (r:=some l) (n:=0) cb B hcb (.inl hrb) _ _ _ a1 hs1 (hB _ (hM.putObj 0 rfl _))
    refine wpIn_mono hB' fun e2 a2 w2 hh=>?_
    obtain ⟨ρ2,hs2,hq2⟩:=hh
    cases e2 with
    | normal =>
     obtain ⟨y',hq2⟩:=hq2
     have hl2:=St.obj hq2 0 rfl
     have he:=run_endRound (P:=P) none hl2
     refine ⟨.bool true,w2.putObj l (.loop (rec .ready none)),?_,.bool true,rfl,rfl,?_⟩
     ·rw [hrec] at he ⊢; exact he
     ·exact ⟨y',St.putObj hq2 0 rfl _⟩
    | _=>exact hq2.elim
   | _=>exact hq.elim
end
end Go.Ann

namespace Go.Proofs.YtoadmihnihfjkaaGreat.Cut
open Go Go.Ann Go.RowKit Go.WideShapes Go.Shelf
def intK(n:Int):Value:=.int .i64 n
def idK(v:Value):Value:=v
theorem int_one(n:Int):∀ u∈intE n,u.oneCell'=true:=intE_one n
theorem keyT_i:KeyT Tryz.prog 3 intK (.int .i64):=keyT_int Tryz.underlying3
theorem intE_map(l:List Int):l.flatMap intE=l.map encZ:=by
 induction l with
 | nil=>rfl
 | cons a l ih=>rw [List.flatMap_cons,ih]; rfl
theorem left_in{ν:Type}{evK:ν→Value}{d:List (Int × ν × Nat)}{D:List (Int × ν × Nat)}{e:MapEntry}(h:e∈(leftOf (d.map (entG intK evK)).toArray (D.map fun x=>x.2.2).toArray).toList):∃ x∈d,e=entG intK evK x∧x.2.2 ∉ D.map fun x=>x.2.2:=by
 unfold leftOf at h
 rw [Array.toList_filter,List.mem_filter] at h
 obtain ⟨h1,h2⟩:=h
 obtain ⟨x,hx,rfl⟩:=List.mem_map.1 h1
 refine ⟨x,hx,rfl,?_⟩
 simpa [entG] using h2
theorem left_none{ν:Type}{evK:ν→Value}{d:List (Int × ν × Nat)}{D:List (Int × ν × Nat)}(h:(leftOf (d.map (entG intK evK)).toArray (D.map fun x=>x.2.2).toArray).size=0):∀ x∈d,x.2.2∈D.map fun x=>x.2.2:=by
 intro x hx
 unfold leftOf at h
 rw [← Array.length_toList,Array.toList_filter,List.length_eq_zero_iff,List.filter_eq_nil_iff] at h
 have:=h (entG intK evK x) (List.mem_map_of_mem hx)
 simpa [entG] using this
theorem all_perm{ν:Type}{d D:List (Int × ν × Nat)}(hb:(d.map fun x=>x.2.2).Nodup)(hD:(D.map fun x=>x.2.2).Nodup)(hs:∀ x∈D,x∈d)(ha:∀ x∈d,x.2.2∈D.map fun x=>x.2.2):D.Perm d:=by
 have inj:∀ x∈d,∀ y∈d,x.2.2=y.2.2→x=y:=fun x hx y hy e=>by
  obtain ⟨i,hi,rfl⟩:=List.mem_iff_getElem.1 hx
  obtain ⟨j,hj,rfl⟩:=List.mem_iff_getElem.1 hy
  have hp:=List.pairwise_iff_getElem.1 hb
  rcases Nat.lt_trichotomy i j with h | h | h
  ·exact absurd (by rw [List.getElem_map,List.getElem_map]; exact e) (hp i j (by simpa using hi) (by simpa using hj) h)
  ·subst h; rfl
  ·exact absurd (by rw [List.getElem_map,List.getElem_map]; exact e.symm) (hp j i (by simpa using hj) (by simpa using hi) h)
 have nd:∀ l:List (Int × ν × Nat),(l.map fun x=>x.2.2).Nodup→l.Nodup:=fun l h=>by
  unfold List.Nodup at h ⊢
  rw [List.pairwise_map] at h
  exact h.imp fun h e=>h (by rw [e])
 refine (List.perm_ext_iff_of_nodup (nd D hD) (nd d hb)).2 fun x=>⟨hs x,fun hx=>?_⟩
 obtain ⟨y,hy,e⟩:=List.mem_map.1 (ha x hx)
 have:=inj y (hs y hy) x hx e
 rw [← this]; exact hy
theorem nat_le{D d:List Nat}(nd:D.Nodup)(hs:∀ x∈D,x∈d):D.length≤d.length:=by
 induction D generalizing d with
 | nil=>exact Nat.zero_le _
 | cons a D ih =>
  rw [List.nodup_cons] at nd
  have h1:∀ x∈D,x∈d.erase a:=fun x hx=>(List.mem_erase_of_ne (fun e=>nd.1 (by rw [← e]; exact hx))).2 (hs x (List.mem_cons_of_mem _ hx))
  have:=ih nd.2 h1
  have ha:=hs a (List.mem_cons_self ..)
  rw [List.length_erase_of_mem ha] at this
  have:=List.length_pos_of_mem ha
  rw [List.length_cons]; omega
theorem nodup_le{ν:Type}{d D:List (Int × ν × Nat)}(hD:(D.map fun x=>x.2.2).Nodup)(hs:∀ x∈D,x∈d):D.length≤d.length:=by
 have:=nat_le hD (d:=d.map fun x=>x.2.2) fun x hx=>by
  obtain ⟨y,hy,rfl⟩:=List.mem_map.1 hx
  exact List.mem_map_of_mem (f:=fun x:Int × ν × Nat=>x.2.2) (hs y hy)
 simpa using this
theorem last_get{α:Type}(X:List α)(r:α):(X++[r])[X.length]?=some r:=by simp
theorem last_set{α:Type}(X:List α)(r r':α):(X++[r]).set X.length r'=X++[r']:=by simp
theorem not_in{ν:Type}{d D:List (Int × ν × Nat)}{x:Int × ν × Nat}(hk:(d.map Prod.fst).Nodup)(hs:∀ y∈D,y∈d)(hx:x∈d)(hn:x.2.2 ∉ D.map fun x=>x.2.2):x.1 ∉ D.map Prod.fst:=by
 intro h
 obtain ⟨y,hy,e⟩:=List.mem_map.1 h
 obtain ⟨i,hi,ei⟩:=List.mem_iff_getElem.1 (hs y hy)
 obtain ⟨j,hj,ej⟩:=List.mem_iff_getElem.1 hx
 have hp:=List.pairwise_iff_getElem.1 hk
 have hij:i=j:=by
  rcases Nat.lt_trichotomy i j with h | h | h
  ·exact absurd (by rw [List.getElem_map,List.getElem_map,ei,ej]; exact e) (hp i j (by simpa using hi) (by simpa using hj) h)
  ·exact h
  ·exact absurd (by rw [List.getElem_map,List.getElem_map,ei,ej]; exact e.symm) (hp j i (by simpa using hj) (by simpa using hi) h)
 subst hij
 have:y=x:=ei.symm.trans ej
 subst this
 exact hn (List.mem_map_of_mem hy)
section
variable {W0 w:World} {F:Nat→Prop} {L:List Res} {I:List Inv}
theorem sortI_ok{v:Value}{ks:List Int}(h:St W0 w F (.row v 3 1 ks.length (ks.flatMap intE)::L) I)(hl:ks.length≤100000) :
  Ret Tryz.prog 78 [v] w fun u w'=>u=.tuple #[]∧∃ ts:List Int,(ts.Perm ks∧ts.Pairwise (·≤·))∧St W0 w' F (.row v 3 1 ks.length (ts.flatMap intE)::L) I:=by
 have hr:=h.row 0 rfl
 obtain ⟨hlen,⟨rfl,h0⟩ | ⟨g',cap,cur,rfl,hB,hb,hc,hm,hs,hx⟩⟩:=id hr
 ·have hn:ks.length=0:=h0
  refine (Any.slices_Sort_int_none laySortI none 0 w).mono ?_
  rintro e w' ⟨rfl,rfl⟩
  exact ⟨_,rfl,rfl,ks,⟨List.Perm.refl _,by rw [List.eq_nil_of_length_eq_zero hn]; exact List.Pairwise.nil⟩,h⟩
 ·have hx':cur.toList.take ks.length=ks.map encZ:=by rw [← intE_map,← hx,Nat.mul_one]
  have hb':w.heap[g']?=some (.cells cur 3 (0,0)):=hb
  refine (Any.slices_Sort_int laySortI g' 0 cap ks w (holds_of_block_i hb' hx') (Array.getElem?_eq_some_iff.1 hb).1 (by omega)).mono ?_
  rintro e w' ⟨rfl,n,os,rfl⟩
  have hml:(ks.mergeSort fun x y=>decide (x≤y)).length=ks.length:=List.length_mergeSort _
  refine ⟨_,rfl,rfl,ks.mergeSort fun x y=>decide (x≤y),⟨List.mergeSort_perm _ _,(List.pairwise_mergeSort (le:=fun x y:Int=>decide (x≤y)) (fun a b c h1 h2=>by simp at h1 h2 ⊢; omega) (fun a b=>by simp; omega) ks).imp fun h=>by simpa using h⟩,?_⟩
  have ho:=ownsRow_sorted_i (n:=n) (os:=os) hml hB hb' hc hm hs
  rw [← intE_map] at ho
  exact h.grow 0 rfl (grownBy_sorted_i _) ho fun k hk=>.inl hk
end
section
variable {W0 w:World} {F:Nat→Prop} {L:List Res} {I:List Inv} {d:List (Int × Value × Nat)} {c bx mb:Nat}
theorem keys1_ok(fv:Value)(J:List Res→List Int→World→Prop)(w:World)(hJ:∀ R pre w',J R pre w'→w'.cell? ⟨bx,0,none⟩=some (.map (some mb))∧w'.heap[mb]?=some (mapG intK idK d c)∧∃ X,St W0 w' F (X++R) I)
  (hJ2:∀ R R' pre w' w'',J R pre w'→(∀ X,St W0 w' F (X++R) I→St W0 w'' F (X++R') I)→J R' pre w'')
  (hf:∀ R pre x w',J R pre w'→(x ∉ pre∧x∈d.map Prod.fst∧pre.length<d.length)→callW Tryz.prog fv [.int .i64 x] w' fun v w''=>v=.bool true∧J R (pre++[x]) w'')
  (hk:(d.map Prod.fst).Nodup) (hb:(d.map fun x=>x.2.2).Nodup) (hc:∀ x∈d,x.2.2<c) (h0:J [] [] w) :
  Ret Tryz.prog 79 [fv,.pointer (some ⟨bx,0,none⟩)] w fun _ w'=>∃ xs,xs.Perm (d.map Prod.fst)∧J [] xs w':=by
 refine ent79 _ _ _ _ ?_
 obtain ⟨k1,k2,_⟩:=hJ _ _ _ h0
 simp (disch:=first|omega|exact zF rfl|exact zG rfl|exact fun h=>h|(simp only[zA,zB,zC,zD,bytesW];omega)) only[go_sem,k1]
 refine rgG Tryz.underlying91 k2 ?_
 have j1:J [.obj w.heap.size (.mapIter (some mb) c #[] c)] [] (w.alloc (.mapIter (some mb) c #[] c)):=hJ2 _ _ _ _ _ h0 fun X hX=>by
  have:=hX.lay (.mapIter (some mb) c #[] c)
  rw [List.append_nil] at this
  exact this.perm (List.perm_append_singleton _ _)
 generalize w.heap.size=q at j1 ⊢
 generalize w.alloc (.mapIter (some mb) c #[] c)=w1 at j1 ⊢
 simp (disch:=first|omega|exact zF rfl|exact zG rfl|exact fun h=>h|(simp only[zA,zB,zC,zD,bytesW];omega)) only[go_sem]
 refine W_loopU (fun D:List (Int × Value × Nat)=>[]) (fun D w'=>(∀ x∈D,x∈d)∧(D.map fun x=>x.2.2).Nodup∧J [.obj q (.mapIter (some mb) c (D.map fun x=>x.2.2).toArray c)] (D.map Prod.fst) w') (fun D=>d.length - D.length) [] rfl ⟨fun _ h=>(by cases h),List.Pairwise.nil,j1⟩ ?_
 clear j1 k1 k2 h0
 rintro D w2 ⟨hD1,hD2,j2⟩
 have hle:=nodup_le hD2 hD1
 obtain ⟨k1,k2,X,sX⟩:=hJ _ _ _ j2
 simp (disch:=first|omega|exact zF rfl|exact zG rfl|exact fun h=>h|(simp only[zA,zB,zC,zD,bytesW];omega)) only[go_sem,c79L0,c79L0]
 refine nxG (sX.obj X.length (last_get X _)) k2 (fun e he=>?_) (Nat.le_refl _) (fun h0'=>?_) (fun e he w3 hw3=>?_)
 ·obtain ⟨x,hx,rfl⟩:=List.mem_map.1 he
  exact hc x hx
 ·simp (disch:=first|omega|exact zF rfl|exact zG rfl|exact fun h=>h|(simp only[zA,zB,zC,zD,bytesW];omega)) only[go_sem,c79L0]
  have hperm:=all_perm hb hD2 hD1 (left_none h0')
  refine ⟨D.map Prod.fst,hperm.map _,hJ2 _ _ _ _ _ j2 fun Y hY=>?_⟩
  rw [List.append_nil]
  exact hY.sub (List.sublist_append_left _ _)
 ·obtain ⟨x,hx,rfl,hxn⟩:=left_in he
  have j3:J [.obj q (.mapIter (some mb) c ((D.map fun x=>x.2.2).toArray.push x.2.2) c)] (D.map Prod.fst) (w3.putObj q (.mapIter (some mb) c ((D.map fun x=>x.2.2).toArray.push x.2.2) c)):=hJ2 _ _ _ _ _ j2 fun Y hY=>by
   have h3:St W0 w3 F (Y++[.obj q (.mapIter (some mb) c (D.map fun x=>x.2.2).toArray c)]) I:=by
    rcases hw3 with rfl | rfl
    ·exact hY
    ·exact hY.drew
   have:=h3.putObj Y.length (last_get Y _) (.mapIter (some mb) c ((D.map fun x=>x.2.2).toArray.push x.2.2) c)
   rwa [last_set] at this
  have hbn:((d.map (entG intK idK)).toArray.toList.map (·.born)).Nodup:=by
   rw [List.toList_toArray,List.map_map]
   exact hb
  simp (disch:=first|omega|exact zF rfl|exact zG rfl|exact fun h=>h|(simp only[zA,zB,zC,zD,bytesW];omega)) only[go_sem,c79L0]
  have e1:(entG intK idK x).born=x.2.2:=rfl
  rw [e1]
  obtain ⟨_,k4,Z,sZ⟩:=hJ _ _ _ j3
  refine enG (sZ.obj Z.length (last_get Z _)) k4 (by rw [List.toList_toArray]; exact List.mem_map_of_mem hx) hbn ?_
  simp (disch:=first|omega|exact zF rfl|exact zG rfl|exact fun h=>h|(simp only[zA,zB,zC,zD,bytesW];omega)) only[go_sem,c79L0,entG,intK,idK]
  have hnk:=not_in hk hD1 hx hxn
  have hn2:((x::D).map fun x=>x.2.2).Nodup:=by rw [List.map_cons,List.nodup_cons]; exact ⟨hxn,hD2⟩
  have hDl:=nodup_le hn2 fun y hy=>by
   rcases List.mem_cons.1 hy with rfl | hy
   ·exact hx
   ·exact hD1 y hy
  rw [List.length_cons] at hDl
  refine callW_mono (hf _ _ x.1 _ j3 ⟨hnk,List.mem_map_of_mem hx,by rw [List.length_map]; omega⟩) ?_
  rintro _ w5 ⟨rfl,j5⟩
  simp (disch:=first|omega|exact zF rfl|exact zG rfl|exact fun h=>h|(simp only[zA,zB,zC,zD,bytesW];omega)) only[go_sem,c79L0]
  refine ⟨D++[x],⟨fun y hy=>?_,?_,?_⟩,by rw [List.length_append,List.length_singleton]; omega⟩
  ·rcases List.mem_append.1 hy with hy | hy
   ·exact hD1 y hy
   ·rw [List.mem_singleton] at hy; subst hy; exact hx
  ·rw [List.map_append,List.nodup_append]
   refine ⟨hD2,List.pairwise_singleton _ _,fun a ha e he=>?_⟩
   rw [List.map_cons,List.map_nil,List.mem_singleton] at he
   subst he
   exact fun h=>hxn (h ▸ ha)
  ·have e2:((D++[x]).map fun x=>x.2.2).toArray=(D.map fun x=>x.2.2).toArray.push x.2.2:=by simp
   have e3:(D++[x]).map Prod.fst=D.map Prod.fst++[x.1]:=by simp
   rw [e2,e3]
   exact j5
theorem keys_ok(w:World):Ret Tryz.prog 49 [.map (some mb)] w fun v w'=>v=.func (.func 79) #[] #[.pointer (some ⟨w.heap.size,0,none⟩)]∧w'=w.alloc (.cells #[.map (some mb)] 91):=by
 refine ent49 _ _ _ ?_
 simp (disch:=first|omega|exact zF rfl|exact zG rfl|exact fun h=>h|(simp only[zA,zB,zC,zD,bytesW];omega)) only[go_sem]
theorem appendKeys_ok(h:St W0 w F (.blk bx #[.map (some mb)] 91::.obj mb (mapG intK idK d c)::L) I)(hk:(d.map Prod.fst).Nodup)(hb:(d.map fun x=>x.2.2).Nodup)(hc:∀ x∈d,x.2.2<c)(hd:d.length≤100000) :
  Ret Tryz.prog 100 [.slice none 0 0,.func (.func 79) #[] #[.pointer (some ⟨bx,0,none⟩)]] w fun u w'=>∃ ks:List Int,ks.Perm (d.map Prod.fst)∧St W0 w' F (.row u 3 1 ks.length (ks.flatMap intE)::.blk bx #[.map (some mb)] 91::.obj mb (mapG intK idK d c)::L) I:=by
 refine ent100 _ _ _ _ ?_
 simp (disch:=first|omega|exact zF rfl|exact zG rfl|exact fun h=>h|(simp only[zA,zB,zC,zD,bytesW];omega)) only[go_sem]
 have s1:=(h.nilRow 3 1).box #[.slice none 0 0] 25
 generalize w.heap.size=bs at s1 ⊢
 generalize w.alloc (.cells #[.slice none 0 0] 25)=w1 at s1 ⊢
 refine RangeW_any (β:=Value) (fun x:Int=>[.int .i64 x]) (fun pre x=>x ∉ pre∧x∈d.map Prod.fst∧pre.length<d.length) (fun xs=>xs.Perm (d.map Prod.fst)) (fun u pre=>.blk bs #[u] 25::.row u 3 1 pre.length (pre.flatMap intE)::.blk bx #[.map (some mb)] 91::.obj mb (mapG intK idK d c)::L) (.slice none 0 0) rfl (by kernel_rfl) s1 rfl (fun _=>rfl) ?_ ?_ ?_
 ·intro fv J w2 hJ1 hJ2 hf h0
  refine keys1_ok (mb:=mb) fv J w2 (fun R pre w' j=>?_) hJ2 (fun R pre x w' j e=>hf R pre x w' j e) hk hb hc h0
  obtain ⟨l,D,o,u,hX⟩:=hJ1 R pre w' j
  exact ⟨(hX.blk 4 rfl).cell 0,hX.obj 5 rfl,.obj l o::.obj D (.deferred (some []))::(.blk bs #[u] 25::.row u 3 1 pre.length (pre.flatMap intE)::.blk bx #[.map (some mb)] 91::.obj mb (mapG intK idK d c)::L),hX⟩
 ·intro R u pre x w' l D o o2 hx h1
  obtain ⟨e1,e2,e3⟩:=hx
  simp (disch:=first|omega|exact zF rfl|exact zG rfl|exact fun h=>h|(simp only[zA,zB,zC,zD,bytesW];omega)) only[go_sem,c100A0,c100B0,c100A0,c100B0]
  refine ⟨_,h1,fun w2 h2=>?_⟩
  obtain ⟨ao,co,rfl,_⟩:=own_slice (h2.row 3 rfl)
  have r2:=h2.rules 2 rfl
  simp (disch:=first|omega|exact zF rfl|exact zG rfl|exact fun h=>h|(simp only[zA,zB,zC,zD,bytesW];omega)) only[go_sem,c100A0,c100B0,r2]
  refine bsW_ones ty25mkI rfl rfl (Nat.le_of_ble_eq_true rfl) (by simp [intE]) (int_one x) ?_
  have hx:Rd (w2.alloc (.cells (intE x).toArray 3)) 1 (.slice (some ⟨w2.heap.size,0,none⟩) 1 1) 1 (intE x):=rd_new (n:=1) (cs:=(intE x).toArray) rfl
  simp (disch:=first|omega|exact zF rfl|exact zG rfl|exact fun h=>h|(simp only[zA,zB,zC,zD,bytesW];omega)) only[go_sem,c100A0,c100B0]
  refine (h2.alloc' (.cells (intE x).toArray 3)).append 3 rfl ty25mkI rfl (by decide) hx (int_one x) (by omega) (by omega) ?_
  intro u' w4 s4 _
  obtain ⟨ao',co',rfl,_⟩:=own_slice (s4.row 3 rfl)
  have r4:=s4.rules 2 rfl
  have s5:=s4.set 2 rfl 0 (.slice ao' (pre.length+1) co')
  simp (disch:=first|omega|exact zF rfl|exact zG rfl|exact fun h=>h|(simp only[zA,zB,zC,zD,bytesW];omega)) only[go_sem,c100A0,c100B0,r4]
  refine ⟨.slice ao' (pre.length+1) co',st_recast s5 ?_⟩
  rw [List.length_append,List.flatMap_append,List.flatMap_singleton]
  rfl
 ·intro xs u D w' hG h1
  obtain ⟨ao,co,rfl,_⟩:=own_slice (h1.row 2 rfl)
  have r1:=h1.rules 1 rfl
  have hD:=h1.obj 0 rfl
  simp (disch:=first|omega|exact zF rfl|exact zG rfl|exact fun h=>h|(simp only[zA,zB,zC,zD,bytesW];omega)) only[go_sem,c100A0,c100B0,r1,hD]
  refine ⟨xs,hG,?_⟩
  exact ((h1.putObj 0 rfl (.deferred none)).sub (L':=.row (.slice ao xs.length co) 3 1 xs.length (xs.flatMap intE)::.blk bx #[.map (some mb)] 91::.obj mb (mapG intK idK d c)::L) (by simp))
theorem collect_ok{d:List (Int × Value × Nat)}{c bx:Nat}(h:St W0 w F (.blk bx #[.map (some mb)] 91::.obj mb (mapG intK idK d c)::L) I)(hk:(d.map Prod.fst).Nodup)(hb:(d.map fun x=>x.2.2).Nodup)(hc:∀ x∈d,x.2.2<c)(hd:d.length≤100000) :
  Ret Tryz.prog 77 [.func (.func 79) #[] #[.pointer (some ⟨bx,0,none⟩)]] w fun u w'=>∃ ks:List Int,ks.Perm (d.map Prod.fst)∧St W0 w' F (.row u 3 1 ks.length (ks.flatMap intE)::.blk bx #[.map (some mb)] 91::.obj mb (mapG intK idK d c)::L) I:=by
 refine ent77 _ _ _ ?_
 simp (disch:=first|omega|exact zF rfl|exact zG rfl|exact fun h=>h|(simp only[zA,zB,zC,zD,bytesW];omega)) only[go_sem]
 refine Ret.mono (appendKeys_ok h hk hb hc hd) ?_
 rintro u w2 ⟨ks,hp,s2⟩
 obtain ⟨ao,co,rfl,_⟩:=own_slice (s2.row 0 rfl)
 simp (disch:=first|omega|exact zF rfl|exact zG rfl|exact fun h=>h|(simp only[zA,zB,zC,zD,bytesW];omega)) only[go_sem]
 exact ⟨ks,hp,s2⟩
theorem sortedK_ok{d:List (Int × Value × Nat)}{c bx:Nat}(h:St W0 w F (.blk bx #[.map (some mb)] 91::.obj mb (mapG intK idK d c)::L) I)(hk:(d.map Prod.fst).Nodup)(hb:(d.map fun x=>x.2.2).Nodup)(hc:∀ x∈d,x.2.2<c)(hd:d.length≤100000) :
  Ret Tryz.prog 48 [.func (.func 79) #[] #[.pointer (some ⟨bx,0,none⟩)]] w fun u w'=>∃ ts:List Int,ts.Perm (d.map Prod.fst)∧ts.Pairwise (·≤·)∧St W0 w' F (.row u 3 1 ts.length (ts.flatMap intE)::.blk bx #[.map (some mb)] 91::.obj mb (mapG intK idK d c)::L) I:=by
 refine ent48 _ _ _ ?_
 simp (disch:=first|omega|exact zF rfl|exact zG rfl|exact fun h=>h|(simp only[zA,zB,zC,zD,bytesW];omega)) only[go_sem]
 refine Ret.mono (collect_ok h hk hb hc hd) ?_
 rintro u w2 ⟨ks,hp,s2⟩
 have hkl:ks.length=d.length:=by rw [hp.length_eq,List.length_map]
 obtain ⟨ao,co,rfl,_⟩:=own_slice (s2.row 0 rfl)
 have gS:goFunc Tryz.prog 78=true:=by kernel_rfl
 simp (disch:=first|omega|exact zF rfl|exact zG rfl|exact fun h=>h|(simp only[zA,zB,zC,zD,bytesW];omega)) only[go_sem,gS]
 refine Ret.mono (sortI_ok s2 (by omega)) ?_
 rintro _ w3 ⟨rfl,ts,⟨h1,h2⟩,s3⟩
 simp (disch:=first|omega|exact zF rfl|exact zG rfl|exact fun h=>h|(simp only[zA,zB,zC,zD,bytesW];omega)) only[go_sem]
 exact ⟨ts,h1.trans hp,h2,by rw [h1.length_eq]; exact s3⟩
end
end Go.Proofs.YtoadmihnihfjkaaGreat.Cut

namespace Go.Proofs.YtoadmihnihfjkaaGreat.Cut
open Go Go.Ann Go.RowKit Go.WideShapes Go.Shelf
def rowO(t:List OpT)(p:Int)(v:Value):Res:=.row v 52 11 (ofProc p t).length ((ofProc p t).flatMap OpT.enc)
def rowsO(t:List OpT)(d:List (Int × Value × Nat)):List Res:=d.map fun x=>rowO t x.1 x.2.1
theorem ofProc_one(x:Int)(t:List OpT)(o:OpT):ofProc x (t++[o])=ofProc x t++if o.Proc=x then [o] else []:=by
 unfold ofProc
 rw [List.filter_append]
 by_cases h:o.Proc=x <;> simp [h]
theorem rowO_other{t:List OpT}{o:OpT}{p:Int}(h:o.Proc≠p)(v:Value):rowO (t++[o]) p v=rowO t p v:=by
 unfold rowO
 rw [ofProc_one,if_neg h,List.append_nil]
theorem rows_other{t:List OpT}{o:OpT}{d:List (Int × Value × Nat)}(h:∀ x∈d,o.Proc≠x.1):rowsO (t++[o]) d=rowsO t d:=by
 unfold rowsO
 exact List.map_congr_left fun x hx=>rowO_other (h x hx) _
theorem rows_some{t:List OpT}{o:OpT}{v:Value}:∀ {d:List (Int × Value × Nat)},(d.map Prod.fst).Nodup→getM o.Proc d=some v→∃ R,(rowsO t d).Perm (rowO t o.Proc v::R)∧∀ v' c,(rowO (t++[o]) o.Proc v'::R).Perm (rowsO (t++[o]) (setM o.Proc v' c d))
 | [],_,h=>by cases h
 | x::d,hn,h=>by
  rw [List.map_cons,List.nodup_cons] at hn
  simp only [getM] at h
  by_cases e:o.Proc=x.1
  ·rw [if_pos e] at h
   simp only [Option.some.injEq] at h
   refine ⟨rowsO t d,by unfold rowsO; rw [List.map_cons,e,h],fun v' c=>?_⟩
   rw [show setM o.Proc v' c (x::d)=(x.1,v',x.2.2)::d from if_pos e]
   have:rowsO (t++[o]) d=rowsO t d:=rows_other fun y hy e2=>hn.1 (by rw [← e,e2]; exact List.mem_map_of_mem hy)
   show (_::_).Perm (rowO (t++[o]) x.1 v'::rowsO (t++[o]) d)
   rw [this,e]
  ·rw [if_neg e] at h
   obtain ⟨R,h1,h2⟩:=rows_some hn.2 h
   refine ⟨rowO t x.1 x.2.1::R,(h1.cons _).trans (List.Perm.swap ..),fun v' c=>?_⟩
   rw [show setM o.Proc v' c (x::d)=x::setM o.Proc v' c d from if_neg e]
   show (_::_).Perm (rowO (t++[o]) x.1 x.2.1::rowsO (t++[o]) (setM o.Proc v' c d))
   rw [rowO_other e]
   exact (List.Perm.swap ..).trans ((h2 v' c).cons _)
theorem getM_none{p:Int}:∀ {d:List (Int × Value × Nat)},getM p d=none→∀ x∈d,p≠x.1
 | [],_,_,h=>by cases h
 | y::d,h,x,hx=>by
  simp only [getM] at h
  by_cases e:p=y.1
  ·rw [if_pos e] at h; cases h
  ·rw [if_neg e] at h
   rcases List.mem_cons.1 hx with rfl | hx
   ·exact e
   ·exact getM_none h x hx
theorem setM_none{p:Int}{v:Value}{c:Nat}:∀ {d:List (Int × Value × Nat)},getM p d=none→setM p v c d=d++[(p,v,c)]
 | [],_=>rfl
 | y::d,h=>by
  simp only [getM] at h
  by_cases e:p=y.1
  ·rw [if_pos e] at h; cases h
  ·rw [if_neg e] at h
   rw [show setM p v c (y::d)=y::setM p v c d from if_neg e,setM_none h]; rfl
theorem rows_none{t:List OpT}{o:OpT}{d:List (Int × Value × Nat)}(h:getM o.Proc d=none)(v':Value)(c:Nat):(rowO (t++[o]) o.Proc v'::rowsO t d).Perm (rowsO (t++[o]) (setM o.Proc v' c d)):=by
 rw [setM_none h]
 unfold rowsO
 rw [List.map_append]
 have:=rows_other (t:=t) (o:=o) (d:=d) (getM_none h)
 unfold rowsO at this
 rw [this]
 exact (List.perm_append_singleton _ _).symm
theorem getM_key{p:Int}{v:Value}:∀ {d:List (Int × Value × Nat)},getM p d=some v→∃ x∈d,x.1=p∧x.2.1=v
 | [],h=>by cases h
 | y::d,h=>by
  simp only [getM] at h
  by_cases e:p=y.1
  ·rw [if_pos e] at h
   exact ⟨y,List.mem_cons_self,e.symm,Option.some.inj h⟩
  ·rw [if_neg e] at h
   obtain ⟨x,hx,h1⟩:=getM_key h
   exact ⟨x,List.mem_cons_of_mem _ hx,h1⟩
theorem getM_mem{d:List (Int × Value × Nat)}(hn:(d.map Prod.fst).Nodup){x:Int × Value × Nat}(hx:x∈d):getM x.1 d=some x.2.1:=by
 induction d with
 | nil=>cases hx
 | cons y d ih =>
  rw [List.map_cons,List.nodup_cons] at hn
  simp only [getM]
  rcases List.mem_cons.1 hx with rfl | hx
  ·rw [if_pos rfl]
  ·rw [if_neg fun e=>hn.1 (by rw [← e]; exact List.mem_map_of_mem hx),ih hn.2 hx]
structure ByM(t:List OpT)(d:List (Int × Value × Nat))(c:Nat):Prop where
 nd:(d.map Prod.fst).Nodup
 bn:(d.map fun x=>x.2.2).Nodup
 lt:∀ x∈d,x.2.2<c
 mem:∀ p,p∈d.map Prod.fst↔∃ o∈t,o.Proc=p
 few:d.length≤t.length
theorem setM_keys{p:Int}{v v0:Value}{c:Nat}:∀ {d:List (Int × Value × Nat)},getM p d=some v0→(setM p v c d).map Prod.fst=d.map Prod.fst∧(setM p v c d).map (fun x=>x.2.2)=d.map fun x=>x.2.2
 | [],h=>by cases h
 | y::d,h=>by
  simp only [getM] at h
  by_cases e:p=y.1
  ·rw [show setM p v c (y::d)=(y.1,v,y.2.2)::d from if_pos e]; exact ⟨rfl,rfl⟩
  ·rw [if_neg e] at h
   obtain ⟨h1,h2⟩:=setM_keys (v:=v) (c:=c) h
   rw [show setM p v c (y::d)=y::setM p v c d from if_neg e]
   simp only [List.map_cons,h1,h2,and_self]
theorem ByM.step{t:List OpT}{d:List (Int × Value × Nat)}{c:Nat}(h:ByM t d c)(o:OpT)(v:Value):ByM (t++[o]) (setM o.Proc v c d) (if (getM o.Proc d).isSome then c else c+1):=by
 cases hg:getM o.Proc d with
 | some v0 =>
  obtain ⟨h1,h2⟩:=setM_keys (v:=v) (c:=c) hg
  simp only [Option.isSome_some,if_true]
  obtain ⟨y,hy,hy1,_⟩:=getM_key hg
  refine ⟨by rw [h1]; exact h.nd,by rw [h2]; exact h.bn,fun x hx=>?_,fun p=>?_,?_⟩
  ·have:x.2.2∈(setM o.Proc v c d).map fun x=>x.2.2:=List.mem_map_of_mem (f:=fun x:Int × Value × Nat=>x.2.2) hx
   rw [h2] at this
   obtain ⟨z,hz,e⟩:=List.mem_map.1 this
   rw [← e]; exact h.lt z hz
  ·rw [h1,h.mem]
   constructor
   ·rintro ⟨a,ha,e⟩; exact ⟨a,List.mem_append_left _ ha,e⟩
   ·rintro ⟨a,ha,e⟩
    rcases List.mem_append.1 ha with ha | ha
    ·exact ⟨a,ha,e⟩
    ·rw [List.mem_singleton] at ha; subst ha
     exact (h.mem p).1 (by rw [← e,← hy1]; exact List.mem_map_of_mem hy)
  ·have:=congrArg List.length h1
   rw [List.length_map,List.length_map] at this
   rw [this,List.length_append]; have:=h.few; omega
 | none =>
  rw [setM_none hg]
  simp only [Option.isSome_none,Bool.false_eq_true,if_false]
  refine ⟨?_,?_,fun x hx=>?_,fun p=>?_,by simp only [List.length_append,List.length_singleton]; have:=h.few; omega⟩
  ·rw [List.map_append,List.nodup_append]
   refine ⟨h.nd,List.pairwise_singleton _ _,fun a ha b hb e=>?_⟩
   simp only [List.map_cons,List.map_nil,List.mem_singleton] at hb
   obtain ⟨x,hx,rfl⟩:=List.mem_map.1 ha
   exact getM_none hg x hx (by rw [e,hb])
  ·rw [List.map_append,List.nodup_append]
   refine ⟨h.bn,List.pairwise_singleton _ _,fun a ha b hb e=>?_⟩
   simp only [List.map_cons,List.map_nil,List.mem_singleton] at hb
   obtain ⟨x,hx,rfl⟩:=List.mem_map.1 ha
   have:=h.lt x hx
   omega
  ·rcases List.mem_append.1 hx with hx | hx
   ·have:=h.lt x hx; omega
   ·rw [List.mem_singleton] at hx; subst hx; exact Nat.lt_succ_self _
  ·rw [List.map_append,List.mem_append,h.mem]
   constructor
   ·rintro (⟨a,ha,e⟩ | hp)
    ·exact ⟨a,List.mem_append_left _ ha,e⟩
    ·simp only [List.map_cons,List.map_nil,List.mem_singleton] at hp
     exact ⟨o,by simp,hp.symm⟩
   ·rintro ⟨a,ha,e⟩
    rcases List.mem_append.1 ha with ha | ha
    ·exact .inl ⟨a,ha,e⟩
    ·rw [List.mem_singleton] at ha; subst ha; exact .inr (by simp [e])
end Go.Proofs.YtoadmihnihfjkaaGreat.Cut

namespace Go.Proofs.YtoadmihnihfjkaaGreat.Cut
open Go Go.Ann Go.RowKit Go.WideShapes Go.Shelf
theorem progs1_ok(a b:OpT)(w:World):Ret Tryz.prog 51 [.agg a.enc.toArray,.agg b.enc.toArray] w fun u w'=>u=.int .i64 (earI a b)∧Gr w w':=by
 refine ent51 _ _ _ _ ?_
 have ha:=a.at; have hb:=b.at
 simp (disch:=first|omega|exact zF rfl|exact zG rfl|exact fun h=>h|(simp only[zA,zB,zC,zD,bytesW];omega)) only[go_sem,ha,hb]
 refine c51draw0 (Chg (fun _=>False) _) (Chg.refl _ _) ?_
 simp (disch:=first|omega|exact zF rfl|exact zG rfl|exact fun h=>h|(simp only[zA,zB,zC,zD,bytesW];omega)) only[go_sem,c51D0,ha,hb]
 refine Ret.mono (compare_ok _ _ _) ?_
 rintro _ _ ⟨rfl,rfl⟩
 simp (disch:=first|omega|exact zF rfl|exact zG rfl|exact fun h=>h|(simp only[zA,zB,zC,zD,bytesW];omega)) only[go_sem,c51D0,ha,hb]
 refine Ret.mono (compare_ok _ _ _) ?_
 rintro _ _ ⟨rfl,rfl⟩
 simp (disch:=first|omega|exact zF rfl|exact zG rfl|exact fun h=>h|(simp only[zA,zB,zC,zD,bytesW];omega)) only[go_sem,c51D0,ha,hb]
 refine bsW_ones ty25mkI rfl rfl (by decide) (by decide) (by intro v hv; simp only [List.mem_cons,List.not_mem_nil,or_false] at hv; rcases hv with rfl | rfl <;> rfl) ?_
 simp (disch:=first|omega|exact zF rfl|exact zG rfl|exact fun h=>h|(simp only[zA,zB,zC,zD,bytesW];omega)) only[go_sem,c51D0,ha,hb]
 refine ⟨chg_da,Ret.mono (or_ok _ [cmpI a.Invoke b.Invoke,cmpI a.ID b.ID] _ ((ints2_new _ _ (by simp)).below (Below.refl _ _).drew (by decide)) (by simp)) ?_⟩
 rintro _ _ ⟨rfl,rfl⟩
 simp (disch:=first|omega|exact zF rfl|exact zG rfl|exact fun h=>h|(simp only[zA,zB,zC,zD,bytesW];omega)) only[go_sem,c51D0,ha,hb]
 exact ⟨chg_da,rfl,(((((Gr.refl w).alloc _).alloc _)).alloc _).drew⟩
def oneE(v:Value):List Value:=[v]
theorem flatMap_one(vs:List Value):vs.flatMap oneE=vs:=by
 induction vs with
 | nil=>rfl
 | cons v vs ih=>rw [List.flatMap_cons,ih]; rfl
structure Progs(w:World)(B:Nat)(u:Value)(acc:List Seg)(vs:List Value):Prop where
 len:vs.length=acc.length
 top:RdS w 1 oneE u vs
 elt:∀ (j:Nat) (s:Seg) (v:Value),acc[j]?=some s→vs[j]?=some v→RdS w 11 OpT.enc v s.ops∧s.ops.length≤100
 newT:∀ k,slFoot u k→B≤k
 newE:∀ v∈vs,∀ k,slFoot v k→B≤k
theorem rowsO_keys{l:List OpT}{d:List (Int × Value × Nat)}{ks:List Int}(hn:(d.map Prod.fst).Nodup)(hp:ks.Perm (d.map Prod.fst)):(ks.map fun p=>rowO l p ((getM p d).getD (.slice none 0 0))).Perm (rowsO l d):=by
 refine (hp.map _).trans ?_
 rw [List.map_map]
 unfold rowsO
 refine List.Perm.of_eq (List.map_congr_left fun x hx=>?_)
 simp only [Function.comp]
 rw [getM_mem hn hx]; rfl
theorem progs7{W0 w2:World}{l:List OpT}{mb cl:Nat}{d:List (Int × Value × Nat)}(hM:ByM l d cl)(s2:St W0 w2 (fun _=>False) (.obj mb (mapG intK idK d cl)::rowsO l d) [])(hl:l.length≤100) :
  W Tryz.prog (c24S7 ()) [(3,.map (some mb))] w2 (finQ Tryz.prog [.tmp 2] fun u w'=>(∃ acc vs,ByProc l acc∧Progs w' W0.heap.size u acc vs)∧Below W0.heap.size W0 w'):=by
 simp (disch:=first|omega|exact zF rfl|exact zG rfl|exact fun h=>h|(simp only[zA,zB,zC,zD,bytesW];omega)) only[go_sem,c24L0,c24S7]
 refine Ret.mono (keys_ok w2) ?_
 rintro _ _ ⟨rfl,rfl⟩
 have s3:=s2.box #[.map (some mb)] 91
 generalize w2.heap.size=bx at s3 ⊢
 generalize w2.alloc (.cells #[.map (some mb)] 91)=w3 at s3 ⊢
 simp (disch:=first|omega|exact zF rfl|exact zG rfl|exact fun h=>h|(simp only[zA,zB,zC,zD,bytesW];omega)) only[go_sem,c24L0,c24S7]
 have hdl:=hM.few
 refine Ret.mono (sortedK_ok s3 hM.nd hM.bn hM.lt (by omega)) ?_
 rintro u w4 ⟨ks,hp,hord,s4⟩
 have hkl:ks.length=d.length:=by rw [hp.length_eq,List.length_map]
 obtain ⟨au,cu,rfl,_⟩:=own_slice (s4.row 0 rfl)
 have hnd:ks.Nodup:=hp.nodup_iff.2 hM.nd
 have hup:ks.Pairwise (· < ·):=by
  have:=hord.and hnd
  exact this.imp fun h=>by have:=h.1; have:=h.2; omega
 have hmem:∀ p,p∈ks↔∃ o∈l,o.Proc=p:=fun p=>by rw [hp.mem_iff]; exact hM.mem p
 have s5:=(s4.perm (L':=.blk bx #[.map (some mb)] 91::.row (.slice au ks.length cu) 3 1 ks.length (ks.flatMap intE)::.obj mb (mapG intK idK d cl)::(ks.map fun p=>rowO l p ((getM p d).getD (.slice none 0 0)))) ((List.Perm.swap ..).trans ((((rowsO_keys hM.nd hp).cons _).cons _).cons _))).sub (List.sublist_cons_self ..)
 have s6:=s5.nilRow 22 1
 clear s2 s3 s4 s5
 simp (disch:=first|omega|exact zF rfl|exact zG rfl|exact fun h=>h|(simp only[zA,zB,zC,zD,bytesW];omega)) only[go_sem,c24L0,c24S5,c24S7]
 refine W_loopU (fun x:Nat × Value=>[(6,x.2),(31,.int .i64 x.1)]) (fun x w'=>x.1≤ks.length∧∃ acc vs,vs.length=acc.length∧acc.map Seg.obj=ks.take x.1∧(∀ s∈acc,Sorts earI (ofProc s.obj l) s.ops)∧(∀ s∈acc,∃ o r,s.ops=o::r∧s.kind=o.Kind)∧(∀ v∈vs,∀ k,slFoot v k→W0.heap.size≤k)∧St W0 w' (fun _=>False) (.row x.2 22 1 acc.length vs::.row (.slice au ks.length cu) 3 1 ks.length (ks.flatMap intE)::.obj mb (mapG intK idK d cl)::((ks.drop x.1).map fun p=>rowO l p ((getM p d).getD (.slice none 0 0)))) (segInvs acc vs)) (fun x=>ks.length - x.1) (0,.slice none 0 0) rfl ⟨Nat.zero_le _,[],[],rfl,rfl,(fun s h=>by cases h),(fun s h=>by cases h),(fun v h=>by cases h),s6⟩ ?_
 rintro ⟨i,vo⟩ w5 ⟨hi,acc,vs,hvs,hobj,hsorts,hkind,hnew,s7⟩
 simp only at hi hobj s7
 have hal:acc.length=i:=by have:=congrArg List.length hobj; rw [List.length_map,List.length_take] at this; omega
 by_cases hlt:i<ks.length
 ·have hlt':(i:Int)<ks.length:=by omega
  have hR:RdS w5 1 intE (.slice au ks.length cu) ks:=RdS.of_own (s7.row 1 rfl)
  obtain ⟨q,rfl⟩:=hR.ptr (by omega)
  have ek:=hR.at1 (e1:=fun n=>.int .i64 n) hlt
  obtain ⟨p,hpe⟩:∃ p,p=ks[i]:=⟨_,rfl⟩
  have hpm:p∈ks:=by rw [hpe]; exact List.getElem_mem hlt
  obtain ⟨x,hx,hxe⟩:=List.mem_map.1 (hp.mem_iff.1 hpm)
  have hg:getM p d=some x.2.1:=by rw [← hxe]; exact getM_mem hM.nd hx
  obtain ⟨v,hv⟩:∃ v,v=x.2.1:=⟨_,rfl⟩
  rw [← hv] at hg
  rw [← hpe] at ek
  have hdr:ks.drop i=p::ks.drop (i+1):=by rw [hpe]; exact List.drop_eq_getElem_cons hlt
  rw [hdr,List.map_cons,hg] at s7
  change St W0 w5 (fun _=>False) (_::_::_::rowO l p v::_) _ at s7
  have hol:=ofProc_len p l
  simp (disch:=first|omega|exact zF rfl|exact zG rfl|exact fun h=>h|(simp only[zA,zB,zC,zD,bytesW];omega)) only[go_sem,c24L0,c24S5,c24S7,hlt',ek]
  refine ⟨by omega,luG_map (ek:=intK) (ev:=idK) keyT_i Tryz.underlying91 (s7.obj 2 rfl) p (by rfl) ?_⟩
  rw [hg]
  simp (disch:=first|omega|exact zF rfl|exact zG rfl|exact fun h=>h|(simp only[zA,zB,zC,zD,bytesW];omega)) only[go_sem,c24L0,c24S5,c24S7,luG,idK]
  refine Ret.mono (sort_ok earI _ (enters_of Tryz.func51 (by kernel_rfl) rfl) swo_ear progs1_ok v (ofProc p l) w5 _ (s7.row 3 rfl) (by omega)) ?_
  rintro _ w6 ⟨l',hs,o6,c6⟩
  have s8:=s7.upd 3 rfl c6 (.row v 52 11 (ofProc p l).length (l'.flatMap OpT.enc)) o6 fun k hk=>.inl hk
  have hll:l'.length=(ofProc p l).length:=hs.1.length_eq
  simp only [List.set_cons_succ,List.set_cons_zero] at s8
  have s9:=s8.perm (L':=.row v 52 11 (ofProc p l).length (l'.flatMap OpT.enc)::.row vo 22 1 acc.length vs::.row (.slice (some q) ks.length cu) 3 1 ks.length (ks.flatMap intE)::.obj mb (mapG intK idK d cl)::((ks.drop (i+1)).map fun p=>rowO l p ((getM p d).getD (.slice none 0 0)))) ((List.Perm.swap ..).trans (((List.Perm.swap ..).trans ((List.Perm.swap ..).cons _)).cons _))
  have s10:=s9.seal (.rd 11 OpT.enc v l') (RdS.of_own' (s9.row 0 rfl) l' hll.symm rfl) fun k hk=>slFoot_own hk
  clear s7 s8 s9 c6
  simp (disch:=first|omega|exact zF rfl|exact zG rfl|exact fun h=>h|(simp only[zA,zB,zC,zD,bytesW];omega)) only[go_sem,c24L0,c24S5,c24S7]
  refine luG_map (ek:=intK) (ev:=idK) keyT_i Tryz.underlying91 (s10.obj 2 rfl) p (by rfl) ?_
  rw [hg]
  simp (disch:=first|omega|exact zF rfl|exact zG rfl|exact fun h=>h|(simp only[zA,zB,zC,zD,bytesW];omega)) only[go_sem,c24L0,c24S5,c24S7,luG,idK]
  refine bsW_ones ty31mkI rfl rfl (by decide) (by decide) (by intro u hu; rw [List.mem_singleton] at hu; subst hu; obtain ⟨a,b,rfl,_⟩:=own_slice o6; rfl) ?_
  have s11:=s10.alloc' (.cells #[v] 22)
  have hrd:Rd (w6.alloc (.cells #[v] 22)) 1 (.slice (some ⟨w6.heap.size,0,none⟩) 1 1) 1 [v]:=rd_new (t:=22) (sz:=1) (n:=1) (cs:=#[v]) rfl
  simp (disch:=first|omega|exact zF rfl|exact zG rfl|exact fun h=>h|(simp only[zA,zB,zC,zD,bytesW];omega)) only[go_sem,c24L0,c24S5,c24S7]
  generalize w6.alloc (.cells #[v] 22)=w7 at s11 hrd ⊢
  refine s11.append 0 rfl ty31mkI rfl (by decide) hrd (by intro u hu; rw [List.mem_singleton] at hu; subst hu; obtain ⟨a,b,rfl,_⟩:=own_slice o6; rfl) (by omega) (by omega) ?_
  intro v8 w8 s12 _
  simp only [List.set_cons_zero] at s12
  simp (disch:=first|omega|exact zF rfl|exact zG rfl|exact fun h=>h|(simp only[zA,zB,zC,zD,bytesW];omega)) only[go_sem,c24L0,c24S5,c24S7]
  obtain ⟨o,ho,hop⟩:=(hmem p).1 hpm
  have hne:l'≠[]:=fun e=>by
   have hm:o∈ofProc p l:=by unfold ofProc; rw [List.mem_filter]; exact ⟨ho,by simpa using hop⟩
   rw [e] at hll
   rw [List.eq_nil_of_length_eq_zero hll.symm] at hm
   cases hm
  obtain ⟨y,r,rfl⟩:=List.exists_cons_of_ne_nil hne
  refine ⟨⟨by omega,by omega⟩,(i+1,v8),rfl,⟨by simp only; omega,acc++[⟨p,y.Kind,y::r⟩],vs++[v],by simp [hvs],?_,fun s hm=>?_,fun s hm=>?_,fun x hm=>?_,?_⟩,by simp only; omega⟩
  ·rw [List.map_append,hobj,List.take_succ_eq_append_getElem hlt,hpe]; rfl
  ·rcases List.mem_append.1 hm with hm | hm
   ·exact hsorts s hm
   ·rw [List.mem_singleton] at hm; subst hm; exact hs
  ·rcases List.mem_append.1 hm with hm | hm
   ·exact hkind s hm
   ·rw [List.mem_singleton] at hm; subst hm; exact ⟨y,r,rfl,rfl⟩
  ·rcases List.mem_append.1 hm with hm | hm
   ·exact hnew x hm
   ·rw [List.mem_singleton] at hm; subst hm
    exact fun k hk=>(o6.lt k (slFoot_own hk)).1
  ·simp only
   rw [List.length_append,List.length_singleton]
   refine St.inv_sub s12 fun a ha=>?_
   rcases (segInvs_snoc acc vs _ _ hvs a).1 ha with rfl | ha
   ·exact List.mem_cons_self
   ·exact List.mem_cons_of_mem _ ha
 ·have hlt':¬ (i:Int)<ks.length:=by omega
  have hii:i=ks.length:=by omega
  subst hii
  rw [List.take_length] at hobj
  simp (disch:=first|omega|exact zF rfl|exact zG rfl|exact fun h=>h|(simp only[zA,zB,zC,zD,bytesW];omega)) only[go_sem,c24L0,c24S5,c24S7,hlt']
  have o7:=s7.row 0 rfl
  rw [← hvs] at o7
  refine ⟨⟨acc,vs,⟨?_,hsorts,hkind,fun o ho=>?_⟩,hvs,RdS.of_own' o7 vs rfl (flatMap_one vs).symm,fun j s v hs hv=>⟨(s7.inv _ (segInvs_mem acc vs j s v hs hv)).1,?_⟩,fun k hk=>(o7.lt k (slFoot_own hk)).1,hnew⟩,s7.bel⟩
  ·rw [← List.pairwise_map (f:=Seg.obj) (R:=(· < ·)),hobj]; exact hup
  ·have:=(hmem o.Proc).2 ⟨o,ho,rfl⟩
   rw [← hobj] at this
   obtain ⟨s,hs,e⟩:=List.mem_map.1 this
   exact ⟨s,hs,e⟩
  ·have e1:=(hsorts s (List.mem_of_getElem? hs)).1.length_eq
   have e2:=ofProc_len s.obj l
   omega
theorem programs_ok(v:Value)(l:List OpT)(w:World)(h:RdS w 11 OpT.enc v l)(hl:l.length≤100) :
  Ret Tryz.prog 24 [v] w fun u w'=>(∃ acc vs,ByProc l acc∧Progs w' w.heap.size u acc vs)∧Below w.heap.size w w':=by
 obtain ⟨a,c,rfl,_⟩:=h.form
 refine ent24 _ _ _ ?_
 simp (disch:=first|omega|exact zF rfl|exact zG rfl|exact fun h=>h|(simp only[zA,zB,zC,zD,bytesW];omega)) only[go_sem,c24S5]
 refine mmG (ek:=intK) (ev:=idK) ?_
 have s1:=(St.start (W0:=w)).lay (mapG intK idK [] 0)
 generalize hw1:w.alloc (mapG intK idK [] 0)=w1 at s1 ⊢
 generalize hmb:w.heap.size=mb at s1 ⊢
 simp (disch:=first|omega|exact zF rfl|exact zG rfl|exact fun h=>h|(simp only[zA,zB,zC,zD,bytesW];omega)) only[go_sem,c24S5]
 refine W_loopU (fun k:Nat=>[(12,.int .i64 k)]) (fun k w'=>k≤l.length∧∃ d c,ByM (l.take k) d c∧St w w' (fun _=>False) (.obj mb (mapG intK idK d c)::rowsO (l.take k) d) []) (fun k=>l.length - k) 0 rfl ⟨Nat.zero_le _,[],0,⟨List.Pairwise.nil,List.Pairwise.nil,(fun x hx=>by cases hx),(fun p=>by simp),Nat.zero_le _⟩,s1⟩ ?_
 rintro k w2 ⟨hk,d,cl,hM,s2⟩
 by_cases hlt:k<l.length
 ·have hlt':(k:Int)<l.length:=by omega
  obtain ⟨q,rfl⟩:=h.ptr (by omega)
  have ek:=h.eltB s2.bel OpT.len (by decide) hlt
  have ck:=cellsO_below s2.bel (h.at OpT.len hlt)
  have hts:l.take (k+1)=l.take k++[l[k]]:=List.take_succ_eq_append_getElem hlt
  generalize l[k]=o at *
  have ao:=o.at
  simp (disch:=first|omega|exact zF rfl|exact zG rfl|exact fun h=>h|(simp only[zA,zB,zC,zD,bytesW];omega)) only[go_sem,c24L0,c24S5,c24L0,hlt',ck]
  refine ⟨by omega,?_⟩
  have s3:=s2.box o.enc.toArray 52
  generalize w2.heap.size=b0 at s3 ⊢
  generalize w2.alloc (.cells o.enc.toArray 52)=w3 at s3 ⊢
  refine ⟨by simp [OpT.len],c24draw0 (Same (fun k=>k=b0) _) (Same.refl _ _) ?_⟩
  have s4:=s3.drew
  have r4:=s4.rules 0 rfl
  generalize w3.drew=w4 at s4 r4 ⊢
  have sm:∀ w',Blk w' b0 o.enc.toArray 52→Same (fun k=>k=b0) w4 w':=fun w' hB b hb=>by subst hb; exact Eq.trans hB (s4.blk 0 rfl).symm
  obtain ⟨v,R,hv,hperm,s5⟩:∃ v R,luG idK (.slice none 0 0) (getM o.Proc d) false=v∧(∀ v' c',(rowO (l.take k++[o]) o.Proc v'::R).Perm (rowsO (l.take k++[o]) (setM o.Proc v' c' d)))∧St w w4 (fun _=>False) (rowO (l.take k) o.Proc v::.blk b0 o.enc.toArray 52::.obj mb (mapG intK idK d cl)::R) []:=by
   cases hg:getM o.Proc d with
   | some v =>
    obtain ⟨R,h1,h2⟩:=rows_some (t:=l.take k) hM.nd hg
    refine ⟨v,R,rfl,h2,s4.perm ?_⟩
    refine List.Perm.trans ?_ (((h1.symm.cons _).cons _))
    exact (List.Perm.swap ..).trans ((List.Perm.swap ..).cons _)
   | none =>
    have e0:ofProc o.Proc (l.take k)=[]:=by
     unfold ofProc
     rw [List.filter_eq_nil_iff]
     intro x hx hp
     rw [decide_eq_true_eq] at hp
     obtain ⟨y,hy,hy1⟩:=List.mem_map.1 ((hM.mem o.Proc).2 ⟨x,hx,hp⟩)
     exact getM_none hg y hy hy1.symm
    refine ⟨_,rowsO (l.take k) d,rfl,rows_none hg,?_⟩
    unfold rowO
    rw [e0]
    exact s4.nilRow 52 11
  have hol:(ofProc o.Proc (l.take k)).length≤100:=by
   have:=ofProc_len o.Proc (l.take k)
   rw [List.length_take] at this; omega
  have hK:∀ v5 w5 (hs:St w w5 (fun _=>False) (rowO (l.take k++[o]) o.Proc v5::.blk b0 o.enc.toArray 52::.obj mb (mapG intK idK d cl)::R) []),St w (w5.putObj mb (mapG intK idK (setM o.Proc v5 cl d) (if (getM o.Proc d).isSome then cl else cl+1))) (fun _=>False) (rowO (l.take k++[o]) o.Proc v5::.blk b0 o.enc.toArray 52::.obj mb (mapG intK idK (setM o.Proc v5 cl d) (if (getM o.Proc d).isSome then cl else cl+1))::R) []:=fun v5 w5 hs=>hs.putObj 2 rfl _
  have hK2:∀ v5 w5 (hs:St w w5 (fun _=>False) (rowO (l.take k++[o]) o.Proc v5::.blk b0 o.enc.toArray 52::.obj mb (mapG intK idK (setM o.Proc v5 cl d) (if (getM o.Proc d).isSome then cl else cl+1))::R) []),k+1≤l.length∧∃ d c,ByM (l.take (k+1)) d c∧St w w5 (fun _=>False) (.obj mb (mapG intK idK d c)::rowsO (l.take (k+1)) d) []:=by
   intro v5 w5 hs
   rw [hts]
   refine ⟨hlt,_,_,hM.step o v5,?_⟩
   have hs2:=hs.perm (L':=.blk b0 o.enc.toArray 52::.obj mb (mapG intK idK (setM o.Proc v5 cl d) (if (getM o.Proc d).isSome then cl else cl+1))::rowO (l.take k++[o]) o.Proc v5::R) (((List.Perm.swap ..).cons _).trans (List.Perm.swap ..))
   exact (hs2.sub (List.sublist_cons_self ..)).perm ((hperm v5 cl).symm.cons _)
  have hx:∀ w',Below w4.heap.size w4 w'→Rd (w'.alloc (.cells o.enc.toArray 52)) 11 (.slice (some ⟨w'.heap.size,0,none⟩) 1 1) 1 o.enc:=fun w' _=>rd_new (t:=52) (sz:=11) (n:=1) (cs:=o.enc.toArray) rfl
  have hx0:=hx w4 (Below.refl _ _)
  have s6:=s5.alloc' (.cells o.enc.toArray 52)
  have h0:Rd (w4.alloc (.cells o.enc.toArray 52)) 11 (.slice (some ⟨w4.heap.size,0,none⟩) 1 1) 1 o.enc:=hx0
  have hcast:∀ v7 w7,St w w7 (fun _=>False) ((rowO (l.take k) o.Proc v::.blk b0 o.enc.toArray 52::.obj mb (mapG intK idK d cl)::R).set 0 (.row v7 52 11 ((ofProc o.Proc (l.take k)).length+1) ((ofProc o.Proc (l.take k)).flatMap OpT.enc++o.enc))) []→St w w7 (fun _=>False) (rowO (l.take k++[o]) o.Proc v7::.blk b0 o.enc.toArray 52::.obj mb (mapG intK idK d cl)::R) []:=fun v7 w7 hs=>st_recast hs (by
   unfold rowO
   rw [ofProc_one,if_pos rfl,List.length_append,List.flatMap_append]
   simp)
  simp (disch:=first|omega|exact zF rfl|exact zG rfl|exact fun h=>h|(simp only[zA,zB,zC,zD,bytesW];omega)) only[go_sem,c24L0,c24S5,c24D0,r4,ao]
  refine ⟨luG_map (ek:=intK) (ev:=idK) keyT_i Tryz.underlying91 (s5.obj 2 rfl) o.Proc (by rfl) ?_,bsW_agg ty22mkI rfl (by decide) (by decide) ?_⟩
  ·rw [hv]
   simp (disch:=first|omega|exact zF rfl|exact zG rfl|exact fun h=>h|(simp only[zA,zB,zC,zD,bytesW];omega)) only[go_sem,c24L0,c24S5,c24D0,r4,ao]
   refine ⟨Same.refl _ _,bsW_agg ty22mkI rfl (by decide) (by decide) ?_⟩
   generalize w4.alloc (.cells o.enc.toArray 52)=w6 at s6 h0 ⊢
   simp (disch:=first|omega|exact zF rfl|exact zG rfl|exact fun h=>h|(simp only[zA,zB,zC,zD,bytesW];omega)) only[go_sem,c24L0,c24S5,c24D0,r4,ao]
   refine ⟨sm _ (s6.blk 1 rfl),s6.append 0 rfl ty22mkI rfl (by decide) h0 o.one (by omega) (by omega) ?_⟩
   intro v7 w7 s7 _
   have s7':=hcast v7 w7 s7
   simp (disch:=first|omega|exact zF rfl|exact zG rfl|exact fun h=>h|(simp only[zA,zB,zC,zD,bytesW];omega)) only[go_sem,c24L0,c24S5,c24D0,r4,ao]
   refine ⟨sm _ (s7'.blk 1 rfl),?_⟩
   refine muG_map (ek:=intK) (ev:=idK) keyT_i Tryz.underlying91 (fun a=>by simp [Instr.sameBits,intK]) (s7'.obj 2 rfl) o.Proc v7 ?_
   have s8:=hK v7 w7 s7'
   generalize w7.putObj mb (mapG intK idK (setM o.Proc v7 cl d) (if (getM o.Proc d).isSome then cl else cl+1))=w8 at s8 ⊢
   simp (disch:=first|omega|exact zF rfl|exact zG rfl|exact fun h=>h|(simp only[zA,zB,zC,zD,bytesW];omega)) only[go_sem,c24L0,c24S5,c24D0,r4,ao]
   exact ⟨sm _ (s8.blk 1 rfl),⟨by omega,by omega⟩,k+1,rfl,hK2 _ _ s8,by omega⟩
  ·generalize w4.alloc (.cells o.enc.toArray 52)=w6 at s6 h0 ⊢
   simp (disch:=first|omega|exact zF rfl|exact zG rfl|exact fun h=>h|(simp only[zA,zB,zC,zD,bytesW];omega)) only[go_sem,c24L0,c24S5,c24D0,r4,ao]
   refine ⟨sm _ (s6.blk 1 rfl),luG_map (ek:=intK) (ev:=idK) keyT_i Tryz.underlying91 (s6.obj 2 rfl) o.Proc (by rfl) ?_⟩
   rw [hv]
   simp (disch:=first|omega|exact zF rfl|exact zG rfl|exact fun h=>h|(simp only[zA,zB,zC,zD,bytesW];omega)) only[go_sem,c24L0,c24S5,c24D0,r4,ao]
   refine ⟨sm _ (s6.blk 1 rfl),s6.append 0 rfl ty22mkI rfl (by decide) h0 o.one (by omega) (by omega) ?_⟩
   intro v7 w7 s7 _
   have s7':=hcast v7 w7 s7
   simp (disch:=first|omega|exact zF rfl|exact zG rfl|exact fun h=>h|(simp only[zA,zB,zC,zD,bytesW];omega)) only[go_sem,c24L0,c24S5,c24D0,r4,ao]
   refine ⟨sm _ (s7'.blk 1 rfl),?_⟩
   refine muG_map (ek:=intK) (ev:=idK) keyT_i Tryz.underlying91 (fun a=>by simp [Instr.sameBits,intK]) (s7'.obj 2 rfl) o.Proc v7 ?_
   have s8:=hK v7 w7 s7'
   generalize w7.putObj mb (mapG intK idK (setM o.Proc v7 cl d) (if (getM o.Proc d).isSome then cl else cl+1))=w8 at s8 ⊢
   simp (disch:=first|omega|exact zF rfl|exact zG rfl|exact fun h=>h|(simp only[zA,zB,zC,zD,bytesW];omega)) only[go_sem,c24L0,c24S5,c24D0,r4,ao]
   exact ⟨sm _ (s8.blk 1 rfl),⟨by omega,by omega⟩,k+1,rfl,hK2 _ _ s8,by omega⟩
 ·have hlt':¬ (k:Int)<l.length:=by omega
  have hkk:k=l.length:=by omega
  subst hkk
  rw [List.take_length] at hM s2
  simp (disch:=first|omega|exact zF rfl|exact zG rfl|exact fun h=>h|(simp only[zA,zB,zC,zD,bytesW];omega)) only[go_sem,c24L0,c24S5,c24L0,hlt']
  have:=progs7 hM s2 hl
  rw [hmb] at this
  exact this
end Go.Proofs.YtoadmihnihfjkaaGreat.Cut

namespace Go.Proofs.YtoadmihnihfjkaaGreat
open Go Go.Ann Go.RowKit
def zN(d:List Nat):List Int:=d.map fun n:Nat=>(n:Int)
theorem zN_len(d:List Nat):(zN d).length=d.length:=by simp [zN]
theorem zN_get{d:List Nat}{k:Nat}(hk:k<(zN d).length):(zN d)[k]=((d.getD k 0:Nat):Int):=by
 rw [zN_len] at hk
 simp [zN,List.getD_eq_getElem?_getD,List.getElem?_eq_getElem hk]
theorem zN_cell{w:World}{p:Addr}{n c:Nat}{d:List Nat}(h:RdS w 1 intE (.slice (some p) n c) (zN d)){k:Nat}(hk:k<d.length):w.cell? (p.add k)=some (.int .i64 (d.getD k 0:Nat)):=by
 rw [RdS.int h (by rw [zN_len]; exact hk),zN_get]
theorem txts_len{U:List VS}(h:∀ p∈U,Ok64 p.2∧p.2.length≤1000):(U.flatMap fun p=>txt p.2).length≤10010 * U.length:=by
 induction U with
 | nil=>simp
 | cons p U ih =>
  have h1:=ih fun q hq=>h q (List.mem_cons_of_mem _ hq)
  obtain ⟨h2,h3⟩:=h p List.mem_cons_self
  have h4:=flat_len h2
  have h5:=varL_10 (show p.2.length<18446744073709551616 by omega)
  have e:(txt p.2).length=(varL p.2.length).length+(p.2.flatMap fun n=>varL (foldN n)).length:=by unfold txt; rw [List.length_append]
  rw [List.flatMap_cons,List.length_append,List.length_cons]
  omega
theorem wtext_ok(dv sv:Value)(d:List Nat)(U:List VS)(w:World)(hd:RdS w 1 intE dv (zN d))(hU:RowS w sv U)(hl:d.length≤1000)(hok:∀ p∈U,Ok64 p.2∧p.2.length≤1000)(hUl:U.length≤1000) :
  Ret Tryz.prog 86 [dv,sv] w fun u w'=>u=.string (ofL (d.map u8++U.flatMap fun p=>txt p.2))∧Below w.heap.size w w':=by
 obtain ⟨a,c,rfl,_⟩:=hd.form
 obtain ⟨sa,sc,rfl,_⟩:=hU.form
 rw [zN_len] at hd ⊢
 refine ent86 _ _ _ _ ?_
 simp (disch:=first|omega|exact zF rfl|exact zG rfl|exact fun h=>h|(simp only[zA,zB,zC,zD,bytesW];omega)) only[go_sem,c86L1,c86S4]
 refine msW_one ty120mkI rfl (by omega) (by omega) (by omega) (by omega) ?_
 simp (disch:=first|omega|exact zF rfl|exact zG rfl|exact fun h=>h|(simp only[zA,zB,zC,zD,bytesW];omega)) only[go_sem,c86L1,c86S4]
 have hz:Blk (w.alloc (.cells (zerosA (.int .u8 0) d.length) 5)) w.heap.size (zerosA (.int .u8 0) d.length) 5:=Blk.new
 have ho:=hz.own (n:=0) (cap:=d.length) (size:=1) (xs:=[]) (base:=w.heap.size) (Nat.le_refl _) (Nat.zero_le _) (by have:maxLen=9223372036854775807:=(by decide); omega) (by simp [zerosA]) (by simp)
 have s1:=(St.start (W0:=w)).add ((Below.refl _ w).alloc (Nat.le_refl _) (.cells (zerosA (.int .u8 0) d.length) 5)) (.row (.slice (some ⟨w.heap.size,0,none⟩) 0 d.length) 5 1 0 []) ho fun k hk=>(ho.lt k hk).1
 refine W_loopU (fun x:Nat × Value=>[(5,x.2),(16,.int .i64 x.1)]) (fun x w'=>St w w' (fun _=>False) [.row x.2 5 1 x.1 (((d.take x.1).map u8).map byteC)] []∧x.1≤d.length∧∃ g c,x.2=.slice (some ⟨g,0,none⟩) x.1 c) (fun x=>d.length - x.1) (0,.slice (some ⟨w.heap.size,0,none⟩) 0 d.length) rfl ⟨s1,Nat.zero_le _,_,_,rfl⟩ ?_
 rintro ⟨k,bv⟩ w2 ⟨s2,hk,g,cg,hu⟩
 simp only at s2 hk hu
 subst hu
 by_cases hlt:k<d.length
 ·have hlt':(k:Int)<d.length:=by omega
  obtain ⟨p,rfl⟩:=hd.ptr (by rw [zN_len]; omega)
  have ek:=zN_cell (hd.below s2.bel (by decide)) hlt
  simp (disch:=first|omega|exact zF rfl|exact zG rfl|exact fun h=>h|(simp only[zA,zB,zC,zD,bytesW];omega)) only[go_sem,c86L1,c86S4,hlt',ek]
  rw [wrap_u8]
  refine ⟨by omega,bsW_ones ty120mkI rfl rfl (by decide) (by decide) (byte_one _) ?_⟩
  simp (disch:=first|omega|exact zF rfl|exact zG rfl|exact fun h=>h|(simp only[zA,zB,zC,zD,bytesW];omega)) only[go_sem,c86L1,c86S4]
  have hx:Rd (w2.alloc (.cells #[byteC (u8 (d.getD k 0))] 5)) 1 (.slice (some ⟨w2.heap.size,0,none⟩) 1 1) 1 [byteC (u8 (d.getD k 0))]:=rd_new (n:=1) (cs:=#[byteC (u8 (d.getD k 0))]) rfl
  refine (s2.alloc' (.cells #[byteC (u8 (d.getD k 0))] 5)).append 0 rfl ty120mkI rfl (by decide) hx (byte_one _) (by omega) (by omega) ?_
  intro v6 w6 s6 c6
  simp only [List.set_cons_zero] at s6
  obtain ⟨a6,c6',rfl,_⟩:=own_slice (s6.row 0 rfl)
  obtain ⟨g6,rfl⟩:=own_ptr (s6.row 0 rfl) (by omega)
  have et:((d.take (k+1)).map u8).map byteC=((d.take k).map u8).map byteC++[byteC (u8 (d.getD k 0))]:=by
   rw [List.take_succ_eq_append_getElem hlt,List.map_append,List.map_append]
   simp [List.getD_eq_getElem?_getD,List.getElem?_eq_getElem hlt]
  rw [← et] at s6
  simp (disch:=first|omega|exact zF rfl|exact zG rfl|exact fun h=>h|(simp only[zA,zB,zC,zD,bytesW];omega)) only[go_sem,c86L1,c86S4]
  exact ⟨⟨by omega,by omega⟩,(k+1,.slice (some ⟨g6,0,none⟩) (k+1) c6'),rfl,⟨s6,by simp only; omega,_,_,rfl⟩,by simp only; omega⟩
 ·have hlt':¬ (k:Int)<d.length:=by omega
  obtain rfl:k=d.length:=by omega
  rw [List.take_length] at s2
  have hc:=(s2.row 0 rfl).cells rfl
  simp (disch:=first|omega|exact zF rfl|exact zG rfl|exact fun h=>h|(simp only[zA,zB,zC,zD,bytesW];omega)) only[go_sem,c86S5,hlt']
  refine ⟨d.map u8,by simp,fun j b hb=>?_,?_⟩
  ·refine hc j _ ?_
   rw [List.getElem?_map,hb]; rfl
  refine W_loopU (fun k:Nat=>[(8,.string (ofL (d.map u8++(U.take k).flatMap fun p=>txt p.2))),(30,.int .i64 k)]) (fun k w'=>Below w.heap.size w w'∧k≤U.length) (fun k=>U.length - k) 0 (by simp [ovr,lk]) ⟨s2.bel,Nat.zero_le _⟩ ?_
  rintro k w3 ⟨b3,hk3⟩
  by_cases hlt3:k<U.length
  ·have hlt3':(k:Int)<U.length:=by omega
   have hU3:=hU.below b3
   obtain ⟨p,rfl⟩:=hU.ptr (by omega)
   have ek:=hU3.at hlt3
   have rk:=hU3.rd _ (List.getElem_mem hlt3)
   obtain ⟨va,vc,hva,_⟩:=rk.form
   obtain ⟨o1,o2⟩:=hok _ (List.getElem_mem hlt3)
   simp (disch:=first|omega|exact zF rfl|exact zG rfl|exact fun h=>h|(simp only[zA,zB,zC,zD,bytesW];omega)) only[go_sem,c86L1,c86S5,c86L1,hlt3',ek,hva]
   rw [hva] at rk
   refine ⟨by omega,Ret.mono (text_ok _ U[k].2 w3 rk o1 (by omega)) ?_⟩
   rintro _ w4 ⟨rfl,g4⟩
   have hb:=txts_len (U:=U.take k) fun q hq=>hok q (List.mem_of_mem_take hq)
   rw [List.length_take] at hb
   have hv:=txts_len (U:=[U[k]]) fun q hq=>by rw [List.mem_singleton] at hq; subst hq; exact ⟨o1,o2⟩
   simp only [List.flatMap_cons,List.flatMap_nil,List.append_nil,List.length_singleton] at hv
   simp (disch:=first|omega|exact zF rfl|exact zG rfl|exact fun h=>h|(simp only[zA,zB,zC,zD,bytesW];omega)) only[go_sem,c86L1,c86S5]
   refine ⟨?_,⟨by omega,by omega⟩,k+1,?_,⟨Below.next b3 g4.below,by omega⟩,by omega⟩
   ·simp only [List.length_append,List.length_map]; omega
   ·rw [List.take_succ_eq_append_getElem hlt3,List.flatMap_append,List.append_assoc]; simp
  ·have hlt3':¬ (k:Int)<U.length:=by omega
   simp (disch:=first|omega|exact zF rfl|exact zG rfl|exact fun h=>h|(simp only[zA,zB,zC,zD,bytesW];omega)) only[go_sem,c86L1,c86S4,c86S5,c86L1,hlt3']
   rw [List.take_of_length_le (by omega)]
   exact ⟨rfl,b3⟩
open Go Go.Ann Go.RowKit
theorem flat_all{α:Type}{sz:Nat}{enc:α→List Value}(hsz:∀ x,(enc x).length=sz):∀ l:List α,(l.flatMap enc).length=l.length * sz
 | []=>by simp
 | x::l=>by rw [List.flatMap_cons,List.length_append,flat_all hsz l,hsz,List.length_cons,Nat.add_mul]; omega
theorem RdS.dropO{α:Type}{w:World}{sz cap:Nat}{enc:α→List Value}{a:Option Addr}{xs:List α}(h:RdS w sz enc (.slice a xs.length cap) xs)(hsz:∀ x,(enc x).length=sz){k:Nat}(hk:k≤xs.length):RdS w sz enc (.slice (offA a cap k sz) (xs.length - k) (cap - k)) (xs.drop k):=by
 have ht:((xs.take k).flatMap enc).length=k * sz:=by rw [flat_all hsz,List.length_take,Nat.min_eq_left hk]
 have hd:(xs.drop k).flatMap enc=(xs.flatMap enc).drop (k * sz):=by
  have e:xs.flatMap enc=(xs.take k).flatMap enc++(xs.drop k).flatMap enc:=by rw [← List.flatMap_append,List.take_append_drop]
  rw [e,← ht,List.drop_left]
 have:=Cut.rd_drop h hk
 rw [← hd] at this
 unfold RdS
 rw [List.length_drop]
 exact this
structure PgR(w:World)(pv:Value)(P:List (List OpT))(vs:List Value):Prop where
 len:vs.length=P.length
 top:RdS w 1 Cut.oneE pv vs
 elt:∀ (j:Nat) (p:List OpT) (v:Value),P[j]?=some p→vs[j]?=some v→RdS w 11 OpT.enc v p
def PgR.foot(pv:Value)(vs:List Value)(k:Nat):Prop:=slFoot pv k∨∃ v∈vs,slFoot v k
theorem PgR.loc{w w':World}{pv:Value}{P:List (List OpT)}{vs:List Value}(h:PgR w pv P vs)(hk:∀ k,PgR.foot pv vs k→w'.heap[k]?=w.heap[k]?):PgR w' pv P vs :=
 ⟨h.len,h.top.loc fun k hf=>hk k (.inl hf),fun j p v hp hv=>(h.elt j p v hp hv).loc fun k hf=>hk k (.inr ⟨v,List.mem_of_getElem? hv,hf⟩)⟩
def Inv.pg(pv:Value)(P:List (List OpT))(vs:List Value):Inv:=⟨fun w=>PgR w pv P vs,PgR.foot pv vs,fun _ _ h hk=>h.loc hk⟩
theorem PgR.below{w w':World}{pv:Value}{P:List (List OpT)}{vs:List Value}(h:PgR w pv P vs)(hb:Below w.heap.size w w'):PgR w' pv P vs :=
 ⟨h.len,h.top.below hb (by decide),fun j p v hp hv=>(h.elt j p v hp hv).below hb (by decide)⟩
theorem PgR.footLt{w:World}{pv:Value}{P:List (List OpT)}{vs:List Value}(h:PgR w pv P vs){k:Nat}(hk:PgR.foot pv vs k):k<w.heap.size:=by
 rcases hk with hk | ⟨v,hv,hk⟩
 ·exact h.top.footLt (by decide) hk
 ·obtain ⟨j,hj,rfl⟩:=List.mem_iff_getElem.1 hv
  have hjp:j<P.length:=by have:=h.len; omega
  exact (h.elt j P[j] vs[j] (List.getElem?_eq_getElem hjp) (List.getElem?_eq_getElem hj)).footLt (by decide) hk
theorem PgR.at{w:World}{p:Addr}{n c:Nat}{P:List (List OpT)}{vs:List Value}(h:PgR w (.slice (some p) n c) P vs){k:Nat}(hk:k<P.length):∃ a cc,w.cell? (p.add k)=some (.slice a P[k].length cc)∧RdS w 11 OpT.enc (.slice a P[k].length cc) P[k]:=by
 have hv:k<vs.length:=by have:=h.len; omega
 have r:=h.elt k P[k] vs[k] (List.getElem?_eq_getElem hk) (List.getElem?_eq_getElem hv)
 obtain ⟨a,cc,e,_⟩:=r.form
 have hc:=RdS.at1 (e1:=fun v=>v) (show RdS w 1 (fun v=>[v]) (.slice (some p) n c) vs from h.top) hv
 rw [e] at hc r
 exact ⟨a,cc,hc,r⟩
theorem PgR.form{w:World}{pv:Value}{P:List (List OpT)}{vs:List Value}(h:PgR w pv P vs):∃ a c,pv=.slice a P.length c:=by
 obtain ⟨a,c,e,_⟩:=h.top.form
 rw [h.len] at e
 exact ⟨a,c,e⟩
theorem PgR.ptr{w:World}{a:Option Addr}{n c:Nat}{P:List (List OpT)}{vs:List Value}(h:PgR w (.slice a n c) P vs)(h0:0<P.length):∃ p,a=some p:=h.top.ptr (by have:=h.len; omega)
theorem PgR.of{w:World}{B:Nat}{u:Value}{acc:List Seg}{vs:List Value}(h:Cut.Progs w B u acc vs):PgR w u (progsW acc) vs:=by
 refine ⟨by rw [h.len]; simp [progsW],h.top,fun j p v hp hv=>?_⟩
 unfold progsW at hp
 rw [List.getElem?_map] at hp
 cases hs:acc[j]? with
 | none=>rw [hs] at hp; cases hp
 | some s =>
  rw [hs] at hp
  cases hp
  exact (h.elt j s v hs hv).1
def endK(P:List (List OpT))(d:List Nat)(k:Nat):Bool:=((P.getD k []).drop (d.getD k 0)).all fun o=>!o.Done
theorem endsP_no{P:List (List OpT)}{d:List Nat}{k:Nat}(hk:k<P.length)(h:endK P d k=false):endsP P d=false:=by
 cases e:endsP P d
 ·rfl
 ·have:=List.all_eq_true.1 e k (List.mem_range.2 hk)
  unfold endK at h
  rw [h] at this
  cases this
theorem over_ok{w:World}{x:Nat}{c1 c2 c3 c4 dv pv:Value}{P:List (List OpT)}{vs:List Value}{d:List Nat}(hB:Blk w x #[pv,c1,c2,c3,c4] 60)(hP:PgR w pv P vs)(hd:RdS w 1 intE dv (zN d))(hl:d.length=P.length)(hn:P.length≤1000)(hp:∀ k,(P.getD k []).length≤1000)(hle:∀ k,d.getD k 0≤(P.getD k []).length) :
  Ret Tryz.prog 87 [.pointer (some ⟨x,0,none⟩),dv] w fun u w'=>u=.bool (endsP P d)∧Below w.heap.size w w':=by
 obtain ⟨a,c,rfl,_⟩:=hd.form
 obtain ⟨pa,pc,rfl⟩:=hP.form
 rw [zN_len] at hd ⊢
 have r:=hB.rules
 refine ent87 _ _ _ _ ?_
 simp (disch:=first|omega|exact zF rfl|exact zG rfl|exact fun h=>h|(simp only[zA,zB,zC,zD,bytesW];omega)) only[go_sem,c87L0,r]
 refine W_loopU (fun k:Nat=>[(14,.int .i64 k)]) (fun k w'=>Below w.heap.size w w'∧k≤P.length∧∀ j,j<k→endK P d j=true) (fun k=>P.length - k) 0 rfl ⟨Below.refl _ _,Nat.zero_le _,fun j h=>by omega⟩ ?_
 rintro k w2 ⟨b2,hk,hall⟩
 have z2:=b2.size
 by_cases hlt:k<P.length
 ·have hlt':(k:Int)<P.length:=by omega
  obtain ⟨p,rfl⟩:=hP.ptr (by omega)
  obtain ⟨q,rfl⟩:=hd.ptr (by rw [zN_len]; omega)
  obtain ⟨ra,rc,e1,e2⟩:=(hP.below b2).at hlt
  have e3:=zN_cell (hd.below b2 (by decide)) (k:=k) (by omega)
  have hk2:(k:Int)<d.length:=by omega
  have hpk:P.getD k []=P[k]:=by simp [List.getD_eq_getElem?_getD,List.getElem?_eq_getElem hlt]
  have hle2:=hle k
  have hp2:=hp k
  rw [hpk] at hle2 hp2
  simp (disch:=first|omega|exact zF rfl|exact zG rfl|exact fun h=>h|(simp only[zA,zB,zC,zD,bytesW];omega)) only[go_sem,c87L1,c87L1,hlt',e1,e3,hk2]
  refine ⟨by omega,by omega,⟨by omega,by omega⟩,?_⟩
  have e4:=RdS.dropO e2 OpT.len hle2
  have hkk:endK P d k=(P[k].drop (d.getD k 0)).all fun o=>!o.Done:=by unfold endK; rw [hpk]
  have hpl:=hp2
  generalize hQ:P[k].drop (d.getD k 0)=Q at e4 hkk
  have hQl:P[k].length - d.getD k 0=Q.length:=by rw [← hQ,List.length_drop]
  rw [hQl] at e4 ⊢
  generalize offA ra rc (d.getD k 0) 11=oa at e4 ⊢
  generalize rc - d.getD k 0=oc at e4 ⊢
  have hQb:Q.length≤1000:=by omega
  refine W_loopU (fun j:Nat=>[(26,.int .i64 j)]) (fun j w'=>Below w2.heap.size w2 w'∧j≤Q.length∧(Q.take j).all (fun o=>!o.Done)=true) (fun j=>Q.length - j) 0 rfl ⟨Below.refl _ _,Nat.zero_le _,rfl⟩ ?_
  rintro j w3 ⟨b3,hj,ha⟩
  have z3:=b3.size
  by_cases hjl:j<Q.length
  ·have hjl':(j:Int)<Q.length:=by omega
   obtain ⟨s,rfl⟩:=e4.ptr (by omega)
   have ej:=e4.eltB b3 OpT.len (by decide) hjl
   have cj:=cellsO_below b3 (e4.at OpT.len hjl)
   have aj:=Q[j].at
   have et:(Q.take (j+1)).all (fun o=>!o.Done)=!Q[j].Done:=by
    rw [List.take_succ_eq_append_getElem hjl,List.all_append,ha]
    simp
   simp (disch:=first|omega|exact zF rfl|exact zG rfl|exact fun h=>h|(simp only[zA,zB,zC,zD,bytesW];omega)) only[go_sem,c87L0,c87L1,c87L0,hjl',ej,cj,aj]
   refine ⟨by omega,by simp [OpT.len],fun hd1=>?_,fun hd0=>?_⟩
   ·refine ⟨(endsP_no hlt ?_).symm,by (repeat' (first | with_reducible exact Below.refl _ _ | with_reducible assumption | (with_reducible refine Below.drew ?_) | (with_reducible refine Below.alloc ?_ ?_ _) | (with_reducible refine Below.setCell ?_ ?_ _) | (with_reducible refine Below.fill ?_ ?_) | (with_reducible refine Below.via (by assumption) ?_ ?_) | omega | (simp only [World.size_alloc,World.size_drew,World.size_setCell,size_fill,bytesW]; omega)))⟩
    rw [hkk]
    cases e:Q.all (fun o=>!o.Done)
    ·rfl
    ·have:=List.all_eq_true.1 e _ (List.getElem_mem hjl)
     rw [hd1] at this
     cases this
   ·exact ⟨⟨by omega,by omega⟩,j+1,rfl,⟨by (repeat' (first | with_reducible exact Below.refl _ _ | with_reducible assumption | (with_reducible refine Below.drew ?_) | (with_reducible refine Below.alloc ?_ ?_ _) | (with_reducible refine Below.setCell ?_ ?_ _) | (with_reducible refine Below.fill ?_ ?_) | (with_reducible refine Below.via (by assumption) ?_ ?_) | omega | (simp only [World.size_alloc,World.size_drew,World.size_setCell,size_fill,bytesW]; omega))),by omega,by rw [et,hd0]; rfl⟩,by omega⟩
  ·have hjl':¬ (j:Int)<Q.length:=by omega
   simp (disch:=first|omega|exact zF rfl|exact zG rfl|exact fun h=>h|(simp only[zA,zB,zC,zD,bytesW];omega)) only[go_sem,c87L0,c87L1,c87L0,hjl']
   refine ⟨⟨by omega,by omega⟩,k+1,rfl,⟨Below.next b2 b3,by omega,fun i hi=>?_⟩,by omega⟩
   rcases Nat.lt_or_ge i k with h | h
   ·exact hall i h
   ·obtain rfl:i=k:=by omega
    rw [hkk,← ha,List.take_of_length_le (by omega)]
 ·have hlt':¬ (k:Int)<P.length:=by omega
  simp (disch:=first|omega|exact zF rfl|exact zG rfl|exact fun h=>h|(simp only[zA,zB,zC,zD,bytesW];omega)) only[go_sem,c87L0,c87L1,c87S4,c87L1,hlt']
  refine ⟨?_,b2⟩
  unfold endsP
  exact (List.all_eq_true.2 fun j hj=>hall j (by have:=List.mem_range.1 hj; omega)).symm
open Go Go.Ann Go.RowKit
structure Nd where
 b:Nat
 dv:Value
 sv:Value
 nv:Value
 sp:Sp
 U:List VS
 nx:List (Int × Nat)
 gd:Bool
def mvE(m:Int × Nat):List Value:=[.int .i64 m.1,.int .i64 m.2]
def ptV(b:Nat):Value:=.pointer (some ⟨b,0,none⟩)
def ndR(P:List (List OpT))(n:Nd):List Res:=[.blk n.b #[n.dv,n.sv,n.nv,.bool (endsP P n.sp.done),.bool n.gd] 64,.row n.nv 113 2 n.nx.length (n.nx.flatMap mvE)]
abbrev DS:=Value × List Nat × Value × List VS
def Nd.ds(n:Nd):DS:=(n.dv,n.sp.done,n.sv,n.U)
def dsFoot(c:DS)(k:Nat):Prop:=slFoot c.1 k∨RowS.foot c.2.2.1 c.2.2.2 k
def Inv.ds(C:List DS):Inv:=⟨fun w=>∀ c∈C,RdS w 1 intE c.1 (zN c.2.1)∧RowS w c.2.2.1 c.2.2.2,fun k=>∃ c∈C,dsFoot c k,fun w w' h hk c hc=>⟨RdS.loc (h c hc).1 fun k hf=>hk k ⟨c,hc,.inl hf⟩,(h c hc).2.loc fun k hf=>hk k ⟨c,hc,.inr hf⟩⟩⟩
def natK(n:Nat):Value:=.int .i64 n
def metL:List Sp→Nat→List (List UInt8 × Nat × Nat)
 | [],_=>[]
 | s::l,i=>(spT s,i,i)::metL l (i+1)
theorem metL_snoc(s:Sp):∀ (Ls:List Sp) (i:Nat),metL (Ls++[s]) i=metL Ls i++[(spT s,i+Ls.length,i+Ls.length)]
 | [],i=>by simp [metL]
 | t::l,i=>by
  rw [List.cons_append,metL,metL,metL_snoc s l,List.length_cons,List.cons_append]
  have e:i+1+l.length=i+(l.length+1):=by omega
  rw [e]
theorem metL_get{s:Sp}:∀ {Ls:List Sp} {i:Nat},(∀ t∈Ls,spT t=spT s→t=s)→getM (spT s) (metL Ls i)=if s∈Ls then some (i+Ls.idxOf s) else none
 | [],_,_=>by simp [metL,getM]
 | t::l,i,h=>by
  rw [metL,getM]
  have ih:=metL_get (s:=s) (Ls:=l) (i:=i+1) fun u hu=>h u (List.mem_cons_of_mem _ hu)
  by_cases e:spT s=spT t
  ·rw [if_pos e]
   obtain rfl:=h t List.mem_cons_self e.symm
   simp
  ·rw [if_neg e,ih]
   have hne:t≠s:=fun h'=>e (by rw [h'])
   have hne':s≠t:=fun h'=>hne h'.symm
   by_cases hm:s∈l
   ·rw [if_pos hm,if_pos (List.mem_cons_of_mem _ hm),List.idxOf_cons,show (t == s)=false from by simpa using hne]
    simp only [cond_false]
    congr 1
    omega
   ·rw [if_neg hm,if_neg (by simp [hne',hm])]
theorem setM_snoc{κ ν:Type}[DecidableEq κ]{a:κ}{v:ν}{c:Nat}:∀ {l:List (κ × ν × Nat)},getM a l=none→setM a v c l=l++[(a,v,c)]
 | [],_=>rfl
 | x::l,h=>by
  rw [getM] at h
  split at h
  ·cases h
  ·rename_i e
   rw [setM,if_neg e,setM_snoc h]; rfl
theorem same_str(a:List UInt8):Instr.sameBits 10000 (strE a) (strE a)=true:=by
 simp only [Instr.sameBits,strE]
 change (a.toArray == a.toArray)=true
 exact beq_self_eq_true _
def SX(P:List (List OpT))(x pl m:Nat)(mst:Int)(pv tv:Value)(N:List Nd):List Res :=
 .blk x #[pv,.map (some pl),tv,.map (some m),.int .i64 mst] 60::.row tv 65 1 N.length (N.map fun n=>ptV n.b)::.obj m (mapG strE natK (metL (N.map Nd.sp) 0) N.length)::N.flatMap (ndR P)
theorem perm_in{α:Type}{A M L:List α}{a b:α}:(A++((M++[a,b])++L)).Perm (b::a::(A++(M++L))):=by
 have e:A++((M++[a,b])++L)=(A++M)++[a,b]++L:=by simp
 rw [e]
 refine ((List.perm_append_comm (l₁:=A++M) (l₂:=[a,b])).append_right L).trans ?_
 simp only [List.append_assoc,List.cons_append,List.nil_append]
 exact List.Perm.swap _ _ _
theorem wadd_ok{W0 w:World}{F:Nat→Prop}{L:List Res}{I:List Inv}{P:List (List OpT)}{vs:List Value}{x pl m q:Nat}{mst:Int}{pv tv dv sv:Value}{N:List Nd}{C:List DS}{s:Sp}{U:List VS}(h:St W0 w F (SX P x pl m mst pv tv N++L) (Inv.ds C::Inv.pg pv P vs::I))
  (hc:(dv,s.done,sv,U)∈C) (hU:U.map Prod.snd=s.st) (ok:OkSp P.length q s) (okN:∀ n∈N,OkSp P.length q n.sp) (hok:∀ p∈U,Ok64 p.2∧p.2.length≤1000) (hq:q≤1000) (hn:P.length≤1000) (hp:∀ k,(P.getD k []).length≤1000) (hle:∀ k,s.done.getD k 0≤(P.getD k []).length) (hN:N.length≤100000) :
  Ret Tryz.prog 59 [.pointer (some ⟨x,0,none⟩),dv,sv] w fun u w'=>∃ tv' N',St W0 w' F (SX P x pl m mst pv tv' N'++L) (Inv.ds C::Inv.pg pv P vs::I)∧N'.map Nd.sp=addW (N.map Nd.sp) s∧u=.int .i64 ((N'.map Nd.sp).idxOf s:Nat)∧(N'=N∨∃ b,N'=N++[⟨b,dv,sv,.slice none 0 0,s,U,[],false⟩]):=by
 have hds:=h.get 0 rfl _ hc
 simp only at hds
 obtain ⟨hd,hS⟩:=hds
 have hP:PgR w pv P vs:=h.get 1 rfl
 obtain ⟨da,dc,rfl,_⟩:=hd.form
 obtain ⟨sa,sc,rfl,_⟩:=hS.form
 have hUl:U.length=s.st.length:=by rw [← hU,List.length_map]
 have r1:=ok.dl
 have r2:=ok.sl
 have hinj:∀ t∈N.map Nd.sp,spT t=spT s→t=s:=fun t ht e=>by
  obtain ⟨n,hn,rfl⟩:=List.mem_map.1 ht
  exact spT_inj (okN n hn) ok e
 have hspT:s.done.map u8++(U.flatMap fun p=>txt p.2)=spT s:=by
  unfold spT
  rw [← hU,List.flatMap_map]
 have hget:=metL_get (s:=s) (Ls:=N.map Nd.sp) (i:=0) hinj
 obtain ⟨ta,tc,rfl,_⟩:=own_slice (h.row 1 rfl)
 refine ent59 _ _ _ _ _ ?_
 simp (disch:=first|omega|exact zF rfl|exact zG rfl|exact fun h=>h|(simp only[zA,zB,zC,zD,bytesW];omega)) only[go_sem,c59S0,c59S1]
 refine Ret.mono (wtext_ok _ _ s.done U w hd hS (by omega) hok (by omega)) ?_
 rintro _ w1 ⟨rfl,b1⟩
 rw [hspT]
 have s1:=h.call b1
 have r1:=s1.rules 0 rfl
 simp (disch:=first|omega|exact zF rfl|exact zG rfl|exact fun h=>h|(simp only[zA,zB,zC,zD,bytesW];omega)) only[go_sem,c59S0,c59S1,r1]
 refine luG_map keyT_s Tryz.underlying58 (s1.obj 2 rfl) (spT s) (by rfl) ?_
 rw [hget]
 by_cases hm:s∈N.map Nd.sp
 ·rw [if_pos hm]
  simp (disch:=first|omega|exact zF rfl|exact zG rfl|exact fun h=>h|(simp only[zA,zB,zC,zD,bytesW];omega)) only[go_sem,c59S0,c59S1,luG,natK]
  refine ⟨_,N,s1,?_,rfl,.inl rfl⟩
  unfold addW
  rw [if_pos hm]
 ·rw [if_neg hm] at hget
  rw [if_neg hm]
  simp (disch:=first|omega|exact zF rfl|exact zG rfl|exact fun h=>h|(simp only[zA,zB,zC,zD,bytesW];omega)) only[go_sem,c59S0,c59S2,luG,natK]
  refine c59draw0 (Same (fun k=>k=x) _) (Same.refl _ _) ?_
  have s2:=s1.drew
  have r2:=s2.rules 0 rfl
  generalize w1.drew=w2 at s2 r2 ⊢
  have sm:∀ w',Blk w' x #[pv,.map (some pl),.slice ta N.length tc,.map (some m),.int .i64 mst] 60→Same (fun k=>k=x) w2 w':=fun w' hB b hb=>by subst hb; exact Eq.trans hB (s2.blk 0 rfl).symm
  simp (disch:=first|omega|exact zF rfl|exact zG rfl|exact fun h=>h|(simp only[zA,zB,zC,zD,bytesW];omega)) only[go_sem,c59S0,c59S2,c59D0,r2]
  refine ⟨Same.refl _ _,?_⟩
  refine muG_map (ev:=natK) keyT_s Tryz.underlying58 same_str (s2.obj 2 rfl) (spT s) N.length ?_
  have eset:setM (spT s) N.length N.length (metL (N.map Nd.sp) 0)=metL (N.map Nd.sp++[s]) 0:=by rw [setM_snoc hget,metL_snoc,List.length_map,Nat.zero_add]
  rw [eset,hget]
  have s3:=s2.putObj 2 rfl (mapG strE natK (metL (N.map Nd.sp++[s]) 0) (N.length+1))
  have e3:(if (none:Option Nat).isSome=true then N.length else N.length+1)=N.length+1:=rfl
  rw [e3]
  generalize w2.putObj m (mapG strE natK (metL (N.map Nd.sp++[s]) 0) (N.length+1))=w3 at s3 ⊢
  simp (disch:=first|omega|exact zF rfl|exact zG rfl|exact fun h=>h|(simp only[zA,zB,zC,zD,bytesW];omega)) only[go_sem,c59S1,c59S2,c59D0,r2]
  simp only [SX,List.cons_append,List.set_cons_zero,List.set_cons_succ] at s3
  refine c59draw1 (Same (fun k=>k=x) _) (Same.refl _ _) ?_
  have s4:=s3.drew
  have r4:=s4.rules 0 rfl
  have l4:=s4.low 0 rfl
  have r3:=s3.rules 0 rfl
  generalize w3.drew=w4 at s4 r4 l4 ⊢
  have sm:∀ w',Blk w' x #[pv,.map (some pl),.slice ta N.length tc,.map (some m),.int .i64 mst] 60→Same (fun k=>k=x) w4 w':=fun w' hB b hb=>by subst hb; exact Eq.trans hB (s4.blk 0 rfl).symm
  simp (disch:=first|omega|exact zF rfl|exact zG rfl|exact fun h=>h|(simp only[zA,zB,zC,zD,bytesW];omega)) only[go_sem,c59S1,c59S2,c59D1,r3,r4]
  refine Ret.mono (over_ok (s4.blk 0 rfl) (s4.get 1 rfl) (s4.get 0 rfl _ hc).1 (by omega) hn hp hle) ?_
  rintro _ w5 ⟨rfl,b5⟩
  have s5:=s4.call b5
  simp (disch:=first|omega|exact zF rfl|exact zG rfl|exact fun h=>h|(simp only[zA,zB,zC,zD,bytesW];omega)) only[go_sem,c59S1,c59S2,c59D1,r3,r4]
  refine ⟨sm _ (s5.blk 0 rfl),?_⟩
  refine bdW_built (cells:=#[.slice da (zN s.done).length dc,.slice sa U.length sc,.slice none 0 0,.bool (endsP P s.done),.bool false]) (by kernel_rfl) ?_
  simp (disch:=first|omega|exact zF rfl|exact zG rfl|exact fun h=>h|(simp only[zA,zB,zC,zD,bytesW];omega)) only[go_sem,c59S1,c59S2,c59D1,r3,r4]
  have s6:=(s5.box #[.slice da (zN s.done).length dc,.slice sa U.length sc,.slice none 0 0,.bool (endsP P s.done),.bool false] 64).nilRow 113 2
  refine ⟨sm _ (s5.blk 0 rfl),sm _ (s6.blk 2 rfl),?_⟩
  generalize w5.alloc (.cells #[.slice da (zN s.done).length dc,.slice sa U.length sc,.slice none 0 0,.bool (endsP P s.done),.bool false] 64)=w6 at s6 ⊢
  generalize w5.heap.size=nb at s6 ⊢
  refine bsW_ones ty57mkI rfl rfl (by decide) (by decide) (by intro u hu; rw [List.mem_singleton] at hu; subst hu; rfl) ?_
  simp (disch:=first|omega|exact zF rfl|exact zG rfl|exact fun h=>h|(simp only[zA,zB,zC,zD,bytesW];omega)) only[go_sem,c59S1,c59S2,c59D1,r3,r4]
  have s7:=s6.alloc' (.cells #[ptV nb] 65)
  have hx:Rd (w6.alloc (.cells #[ptV nb] 65)) 1 (.slice (some ⟨w6.heap.size,0,none⟩) 1 1) 1 [ptV nb]:=rd_new (n:=1) (cs:=#[ptV nb]) rfl
  refine ⟨sm _ (s7.blk 2 rfl),s7.append 3 rfl ty57mkI rfl (by decide) hx (by intro u hu; rw [List.mem_singleton] at hu; subst hu; rfl) (by omega) (by omega) ?_⟩
  intro v8 w8 s8 _
  simp only [List.set_cons_zero,List.set_cons_succ] at s8
  obtain ⟨a8,d8,rfl,_⟩:=own_slice (s8.row 3 rfl)
  have r8:=s8.rules 2 rfl
  simp (disch:=first|omega|exact zF rfl|exact zG rfl|exact fun h=>h|(simp only[zA,zB,zC,zD,bytesW];omega)) only[go_sem,c59S1,c59S2,c59D1,r3,r4,r8]
  have s9:=s8.set 2 rfl 2 (.slice a8 (N.length+1) d8)
  simp only [List.set_cons_zero,List.set_cons_succ,List.setIfInBounds_toArray] at s9
  generalize w8.setCell ⟨x,2,none⟩ (.slice a8 (N.length+1) d8)=w9 at s9 ⊢
  have r9:=s9.rules 2 rfl
  simp (disch:=first|omega|exact zF rfl|exact zG rfl|exact fun h=>h|(simp only[zA,zB,zC,zD,bytesW];omega)) only[go_sem,c59S0,c59S1,c59S2,r9]
  refine ⟨⟨by omega,by omega⟩,.slice a8 (N.length+1) d8,N++[⟨nb,.slice da (zN s.done).length dc,.slice sa U.length sc,.slice none 0 0,s,U,[],false⟩],?_,?_,?_,.inr ⟨nb,rfl⟩⟩
  ·refine st_recast (s9.perm (perm_in (A:=[Res.blk x #[pv,.map (some pl),.slice a8 (N.length+1) d8,.map (some m),.int .i64 mst] 60,Res.row (.slice a8 (N.length+1) d8) 65 1 (N.length+1) (N.map (fun n=>ptV n.b)++[ptV nb]),Res.obj m (mapG strE natK (metL (N.map Nd.sp++[s]) 0) (N.length+1))]))) ?_
   unfold SX
   simp [ndR]
  ·unfold addW
   rw [if_neg hm]
   simp
  ·congr 1
   rw [List.map_append,List.idxOf_append,if_neg hm]
   simp
open Go Go.Ann Go.RowKit
theorem wclone_ok(v:Value)(D:List VS)(w:World)(h:RowS w v D)(hl:D.length≤1000000) :
  Ret Tryz.prog 89 [v] w fun u w'=>w'.ownsRow w.heap.size 25 1 u D.length (D.map Prod.fst)∧Below w.heap.size w w':=by
 obtain ⟨a,c,rfl,_⟩:=h.form
 refine ent89 _ _ _ ?_
 simp (disch:=first|omega|exact zF rfl|exact zG rfl|exact fun h=>h|(simp only[zA,zB,zC,zD,bytesW];omega)) only[go_sem]
 have hSt:=(St.start (W0:=w)).emptyRow 25 1
 refine ⟨fun ha=>?_,fun ha=>bsW_none ty61mkI ?_⟩
 ·cases a with
  | some a=>cases ha
  | none =>
   have h0:D=[]:=by
    cases D with
    | nil=>rfl
    | cons x l=>obtain ⟨p,hp⟩:=h.ptr (by simp); cases hp
   subst h0
   exact ⟨⟨rfl,.inl ⟨rfl,rfl⟩⟩,Below.refl _ _⟩
 simp (disch:=first|omega|exact zF rfl|exact zG rfl|exact fun h=>h|(simp only[zA,zB,zC,zD,bytesW];omega)) only[go_sem]
 have h2:RowS (w.alloc (.cells #[] 25)) (.slice a D.length c) D:=h.below hSt.bel
 refine hSt.append 0 rfl ty61mkI rfl (by decide) h2.row (RowS.ones h2) (by omega) (by omega) ?_
 intro v2 w2 s2 _
 have e2:=s2.row 0 rfl
 rw [Nat.zero_add,List.nil_append] at e2
 simp (disch:=first|omega|exact zF rfl|exact zG rfl|exact fun h=>h|(simp only[zA,zB,zC,zD,bytesW];omega)) only[go_sem]
 exact ⟨e2,s2.bel⟩
theorem pclone_ok(v:Value)(bs:List Value)(w:World)(h:Rd w 1 v bs.length bs)(h1:∀ u∈bs,u.oneCell'=true)(hl:bs.length≤1000000) :
  Ret Tryz.prog 62 [v] w fun u w'=>w'.ownsRow w.heap.size 65 1 u bs.length bs∧Below w.heap.size w w':=by
 have hh:=h
 obtain ⟨_,a,c,rfl,_,h0⟩:=hh
 refine ent62 _ _ _ ?_
 simp (disch:=first|omega|exact zF rfl|exact zG rfl|exact fun h=>h|(simp only[zA,zB,zC,zD,bytesW];omega)) only[go_sem]
 have hSt:=(St.start (W0:=w)).emptyRow 65 1
 refine ⟨fun ha=>?_,fun ha=>bsW_none ty57mkI ?_⟩
 ·cases a with
  | some a=>cases ha
  | none =>
   have h0:bs=[]:=by
    cases bs with
    | nil=>rfl
    | cons x l=>obtain ⟨p,hp,_⟩:=h0 (by simp); cases hp
   subst h0
   exact ⟨⟨rfl,.inl ⟨rfl,rfl⟩⟩,Below.refl _ _⟩
 simp (disch:=first|omega|exact zF rfl|exact zG rfl|exact fun h=>h|(simp only[zA,zB,zC,zD,bytesW];omega)) only[go_sem]
 refine hSt.append 0 rfl ty57mkI rfl (by decide) (h.below hSt.bel (by decide)) h1 (by omega) (by omega) ?_
 intro v2 w2 s2 _
 have e2:=s2.row 0 rfl
 rw [Nat.zero_add,List.nil_append] at e2
 simp (disch:=first|omega|exact zF rfl|exact zG rfl|exact fun h=>h|(simp only[zA,zB,zC,zD,bytesW];omega)) only[go_sem]
 exact ⟨e2,s2.bel⟩
def SXr(P:List (List OpT))(x pl m:Nat)(mst:Int)(pv tv:Value)(N:List Nd)(i:Nat)(L:List Res):List Res :=
 .blk x #[pv,.map (some pl),tv,.map (some m),.int .i64 mst] 60::.row tv 65 1 N.length (N.map fun n=>ptV n.b)::.obj m (mapG strE natK (metL (N.map Nd.sp) 0) N.length)::((N.take i).flatMap (ndR P)++((N.drop (i+1)).flatMap (ndR P)++L))
theorem sx_out{P:List (List OpT)}{x pl m:Nat}{mst:Int}{pv tv:Value}{N:List Nd}{i:Nat}{L:List Res}(hi:i<N.length):(ndR P N[i]++SXr P x pl m mst pv tv N i L).Perm (SX P x pl m mst pv tv N++L):=by
 have e:N.flatMap (ndR P)=(N.take i).flatMap (ndR P)++(ndR P N[i]++(N.drop (i+1)).flatMap (ndR P)):=by
  conv=>lhs; rw [← List.take_append_drop i N,List.drop_eq_getElem_cons hi,List.flatMap_append,List.flatMap_cons]
 unfold SX SXr
 rw [e]
 simp only [List.cons_append,List.append_assoc]
 have h3:∀ (A B C:List Res) (a b c:Res),(A++(a::b::c::(B++C))).Perm (a::b::c::(B++(A++C))):=fun A B C a b c=>by
  have h1:((A++([a,b,c]++B))++C).Perm ((([a,b,c]++B)++A)++C):=List.perm_append_comm.append_right C
  simpa using h1
 exact h3 _ _ _ _ _ _
theorem SXr_set{P:List (List OpT)}{x pl m:Nat}{mst:Int}{pv tv:Value}{N:List Nd}{i:Nat}{L:List Res}(hi:i<N.length){n:Nd}(hb:n.b=N[i].b)(hs:n.sp=N[i].sp):SXr P x pl m mst pv tv (N.set i n) i L=SXr P x pl m mst pv tv N i L:=by
 have e1:(N.set i n).map (fun n=>ptV n.b)=N.map fun n=>ptV n.b:=by
  rw [List.map_set,hb]
  exact List.ext_getElem (by simp) fun j h1 h2=>by
   rw [List.getElem_set]
   split
   ·rename_i h; subst h; simp
   ·rfl
 have e2:(N.set i n).map Nd.sp=N.map Nd.sp:=by
  rw [List.map_set,hs]
  exact List.ext_getElem (by simp) fun j h1 h2=>by
   rw [List.getElem_set]
   split
   ·rename_i h; subst h; simp
   ·rfl
 unfold SXr
 rw [e1,e2,List.length_set,List.take_set_of_le (Nat.le_refl _),List.drop_set_of_lt (Nat.lt_succ_self _)]
theorem sx_in{P:List (List OpT)}{x pl m:Nat}{mst:Int}{pv tv:Value}{N:List Nd}{i:Nat}{L:List Res}(hi:i<N.length){n:Nd}(hb:n.b=N[i].b)(hs:n.sp=N[i].sp):(ndR P n++SXr P x pl m mst pv tv N i L).Perm (SX P x pl m mst pv tv (N.set i n)++L):=by
 have h:=sx_out (P:=P) (x:=x) (pl:=pl) (m:=m) (mst:=mst) (pv:=pv) (tv:=tv) (N:=N.set i n) (i:=i) (L:=L) (by rw [List.length_set]; exact hi)
 rw [List.getElem_set_self,SXr_set hi hb hs] at h
 exact h
theorem sx_blk{W0 w:World}{F:Nat→Prop}{L:List Res}{I:List Inv}{P:List (List OpT)}{x pl m:Nat}{mst:Int}{pv tv:Value}{N:List Nd}(h:St W0 w F (SX P x pl m mst pv tv N++L) I){i:Nat}(hi:i<N.length):Blk w N[i].b #[N[i].dv,N[i].sv,N[i].nv,.bool (endsP P N[i].sp.done),.bool N[i].gd] 64:=by
 have h1:=h.perm (sx_out hi)
 exact h1.blk 0 rfl
theorem sx_row{W0 w:World}{F:Nat→Prop}{L:List Res}{I:List Inv}{P:List (List OpT)}{x pl m:Nat}{mst:Int}{pv tv:Value}{N:List Nd}(h:St W0 w F (SX P x pl m mst pv tv N++L) I){i:Nat}(hi:i<N.length):w.ownsRow W0.heap.size 113 2 N[i].nv N[i].nx.length (N[i].nx.flatMap mvE):=by
 have h1:=h.perm (sx_out hi)
 exact h1.row 1 rfl
theorem St.keepU{W0 w:World}{F:Nat→Prop}{L:List Res}{I:List Inv}(h:St W0 w F L I)(a:Inv)(ha:a.holds w)(hf:∀ k,a.foot k→∃ b∈I,b.foot k):St W0 w F L (a::I) :=
 h.keep a ha fun k hk=>by
  obtain ⟨b,hb,hk⟩:=hf k hk
  exact (h.inv b hb).2 k hk
def oneV(v:Value):List Value:=[v]
theorem flat_oneV(vs:List Value):vs.flatMap oneV=vs:=by
 induction vs with
 | nil=>rfl
 | cons v vs ih=>rw [List.flatMap_cons,ih]; rfl
theorem ds_more{W0 w:World}{F:Nat→Prop}{L:List Res}{I:List Inv}{C:List DS}{dv sv tv:Value}{ts:List Int}{d:List Nat}{U:List VS}
  (h:St W0 w F (.row dv 3 1 d.length ((zN d).flatMap intE)::.row sv 25 1 U.length (U.map Prod.fst)::L) (Inv.rd 1 intE tv ts::Inv.ds C::I))
  (hU:∀ p∈U,RdS w 1 intE p.1 p.2∧∀ k,slFoot p.1 k→slFoot tv k∨(Inv.ds C).foot k):St W0 w F L (Inv.ds ((dv,d,sv,U)::C)::I):=by
 have hd:RdS w 1 intE dv (zN d):=RdS.of_own' (h.row 0 rfl) (zN d) (by rw [zN_len]) rfl
 have h1:=h.seal (Inv.rd 1 intE dv (zN d)) hd fun k hk=>slFoot_own hk
 have hs:RdS w 1 oneV sv (U.map Prod.fst):=RdS.of_own' (h1.row 0 rfl) (U.map Prod.fst) (by simp) (flat_oneV _).symm
 have h2:=h1.seal (Inv.rd 1 oneV sv (U.map Prod.fst)) hs fun k hk=>slFoot_own hk
 have hr:RowS w sv U:=⟨Rd.of_own (h1.row 0 rfl),fun p hp=>(hU p hp).1⟩
 have hC:=h2.get 3 rfl
 refine (St.keepU h2 (Inv.ds ((dv,d,sv,U)::C)) (fun c hc=>?_) fun k hk=>?_).inv_sub fun a ha=>?_
 ·rcases List.mem_cons.1 hc with rfl | hc
  ·exact ⟨hd,hr⟩
  ·exact hC c hc
 ·obtain ⟨c,hc,hk⟩:=hk
  rcases List.mem_cons.1 hc with rfl | hc
  ·rcases hk with hk | hk | ⟨p,hp,hk⟩
   ·exact ⟨Inv.rd 1 intE dv (zN d),by simp,hk⟩
   ·exact ⟨Inv.rd 1 oneV sv (U.map Prod.fst),by simp,hk⟩
   ·rcases (hU p hp).2 k hk with hk | hk
    ·exact ⟨Inv.rd 1 intE tv ts,by simp,hk⟩
    ·exact ⟨Inv.ds C,by simp,hk⟩
  ·exact ⟨Inv.ds C,by simp,c,hc,hk⟩
 ·rcases List.mem_cons.1 ha with rfl | ha
  ·exact List.mem_cons_self
  ·simp [ha]
open Go Go.Ann Go.RowKit
def Inv.ob(b:Nat)(o:Obj):Inv:=⟨fun w=>w.heap[b]?=some o,fun k=>k=b,fun w w' h hk=>(hk b rfl).trans h⟩
def plM:List Int→Nat→List (Int × Nat × Nat)
 | [],_=>[]
 | x::l,i=>(x,i,i)::plM l (i+1)
theorem plM_get{x:Int}:∀ {l:List Int} {i:Nat},getM x (plM l i)=if x∈l then some (i+l.idxOf x) else none
 | [],_=>by simp [plM,getM]
 | t::l,i=>by
  rw [plM,getM]
  by_cases e:x=t
  ·subst e; simp
  ·rw [if_neg e,plM_get]
   by_cases hm:x∈l
   ·rw [if_pos hm,if_pos (List.mem_cons_of_mem _ hm),List.idxOf_cons,show (t == x)=false from by simpa using fun h=>e h.symm]
    simp only [cond_false]
    congr 1
    omega
   ·rw [if_neg hm,if_neg (by simp [e,hm])]
structure NdOk(P:List (List OpT))(accO:List Seg)(M:Nat)(C:List DS)(n:Nd):Prop where
 st:n.U.map Prod.snd=n.sp.st
 ds:n.ds∈C
 ok:SpOk P accO M n.sp
theorem NdOk.mono{P:List (List OpT)}{accO:List Seg}{M:Nat}{C C':List DS}{n:Nd}(h:NdOk P accO M C n)(hs:∀ c∈C,c∈C'):NdOk P accO M C' n:=⟨h.st,hs _ h.ds,h.ok⟩
def setNx(N:List Nd)(i:Nat)(nv:Value)(nx:List (Int × Nat)):List Nd:=match N[i]? with
 | some n=>N.set i { n with nv:=nv,nx:=nx }
 | none=>N
inductive TryR(P:List (List OpT))(obs:List Int)(k i:Nat)(N:List Nd):List Nd→Prop
 | no {n:Nd} (hn:N[i]?=some n) (h:mvP P obs n.sp k=none):TryR P obs k i N N
 | yes {n:Nd} {m:Int × Sp} {N':List Nd} {nv:Value} (hn:N[i]?=some n) (h:mvP P obs n.sp k=some m) (hsp:N'.map Nd.sp=addW (N.map Nd.sp) m.2)
   (hE:N'=N∨∃ b dv sv U,N'=N++[⟨b,dv,sv,.slice none 0 0,m.2,U,[],false⟩]):TryR P obs k i N (setNx N' i nv (n.nx++[(m.1,(N'.map Nd.sp).idxOf m.2)]))
theorem zN_set{d:List Nat}{k n:Nat}:zN (d.set k n)=(zN d).set k (n:Int):=by simp [zN,List.map_set]
theorem try_ok{W0 w:World}{F:Nat→Prop}{L:List Res}{I:List Inv}{P:List (List OpT)}{accO:List Seg}{vs:List Value}{x pl m M:Nat}{mst:Int}{pv tv:Value}{N:List Nd}{C:List DS}{i k c0:Nat}{o:OpT}
  (h:St W0 w F (SX P x pl m mst pv tv N++L) (Inv.ds C::Inv.pg pv P vs::Inv.ob pl (mapG Cut.intK natK (plM (objsW accO) 0) c0)::I))
  (hP:PrOk P accO) (hN:∀ n∈N,NdOk P accO M C n) (hM:M≤1000) (hi:i<N.length) (ho:opAt P N[i].sp.done k=some o) (hn:P.length≤200) (hp:∀ k,(P.getD k []).length≤200) (hl:accO.length≤1000) (hNl:N.length≤100000) (hnx:N[i].nx.length≤1000) :
  Ret Tryz.prog 60 [.pointer (some ⟨x,0,none⟩),ptV N[i].b,.int .i64 k,.agg o.enc.toArray] w fun _ w'=>∃ tv' N' C',St W0 w' F (SX P x pl m mst pv tv' N'++L) (Inv.ds C'::Inv.pg pv P vs::Inv.ob pl (mapG Cut.intK natK (plM (objsW accO) 0) c0)::I)∧(∀ c∈C,c∈C')∧(∀ n∈N',NdOk P accO M C' n)∧TryR P (objsW accO) k i N N':=by
 obtain ⟨hk,hmem⟩:=mem_opAt ho
 obtain ⟨hx,hkind⟩:=hP.ob k o hmem
 have hnd:=hN _ (List.getElem_mem hi)
 obtain ⟨a1,a2,a3⟩:=hnd.ok.ok _ hx
 have hob:=fun (w9:World) (F9:Nat→Prop) (I9:List Inv) (L9:List Res) (tv9:Value) (h9:St W0 w9 F9 (SX P x pl m mst pv tv9 N++L9) I9)=>sx_blk h9 hi
 have hor:=fun (w9:World) (F9:Nat→Prop) (I9:List Inv) (L9:List Res) (tv9:Value) (h9:St W0 w9 F9 (SX P x pl m mst pv tv9 N++L9) I9)=>sx_row h9 hi
 have hNi:N[i]?=some N[i]:=List.getElem?_eq_getElem hi
 generalize N[i]=n at hnd hob hor ho a1 a2 a3 hNi hnx ⊢
 obtain ⟨nb,dv,sv,nv,sp,U,nx,gd⟩:=n
 have hst:U.map Prod.snd=sp.st:=hnd.st
 have hds:(dv,sp.done,sv,U)∈C:=hnd.ds
 have hok:SpOk P accO M sp:=hnd.ok
 simp only at hob hor ho a1 a2 a3 hnx
 have hat:((objsW accO).idxOf o.Object)<U.length:=by
  have:=congrArg List.length hst
  rw [List.length_map,hok.sl] at this
  omega
 have hUll:U.length=accO.length:=by
  have:=congrArg List.length hst
  rw [List.length_map,hok.sl] at this
  exact this
 have hobm:o.Object∈objsW accO:=List.idxOf_lt_length_iff.1 (by unfold objsW at hx ⊢; simpa using hx)
 have hkd:k<sp.done.length:=by rw [hok.dl]; exact hk
 have hgm:=plM_get (x:=o.Object) (l:=objsW accO) (i:=0)
 rw [if_pos hobm,Nat.zero_add] at hgm
 have hUat:(U[(objsW accO).idxOf o.Object]).2=sp.st.getD ((objsW accO).idxOf o.Object) []:=by
  rw [← hst,List.getD_eq_getElem?_getD,List.getElem?_map,List.getElem?_eq_getElem hat]; rfl
 have hmv:mvP P (objsW accO) sp k=match stepP (sp.st.getD ((objsW accO).idxOf o.Object) []) o with
   | none=>none
   | some t=>some (o.ID,⟨sp.done.set k (sp.done.getD k 0+1),sp.st.set ((objsW accO).idxOf o.Object) t⟩):=by
  unfold mvP
  rw [ho]
  rfl
 generalize hatd:(objsW accO).idxOf o.Object=at_ at *
 have hat1:(at_:Int)<U.length:=by omega
 have hao:=o.at
 have hS0:=(h.get 0 rfl _ hds).2
 have hD0:=(h.get 0 rfl _ hds).1
 simp only at hS0 hD0
 obtain ⟨sa,sc,rfl,_⟩:=hS0.form
 obtain ⟨da,dc,rfl,_⟩:=hD0.form
 obtain ⟨sa,rfl⟩:=hS0.ptr (by omega)
 obtain ⟨da,rfl⟩:=hD0.ptr (by rw [zN_len]; omega)
 refine ent60 _ _ _ _ _ _ ?_
 unfold ptV
 simp (disch:=first|omega|exact zF rfl|exact zG rfl|exact fun h=>h|(simp only[zA,zB,zC,zD,bytesW];omega)) only[go_sem,c60S0,c60S1,c60S2]
 have s1:=h.box o.enc.toArray 52
 generalize w.alloc (.cells o.enc.toArray 52)=w1 at s1 ⊢
 generalize w.heap.size=y at s1 ⊢
 have s2:=s1.drew
 have r1:=s1.rules 0 rfl
 have x1:=s1.rules 1 rfl
 have r2:=s2.rules 0 rfl
 have x2:=s2.rules 1 rfl
 refine c60draw0 (Same (fun k=>k=x∨k=y) _) (Same.refl _ _) ?_
 generalize w1.drew=w2 at s2 r2 x2 ⊢
 simp (disch:=first|omega|exact zF rfl|exact zG rfl|exact fun h=>h|(simp only[zA,zB,zC,zD,bytesW];omega)) only[go_sem,c60S0,c60S1,c60S2,c60D0,r1,x1,r2,x2,hao]
 refine ⟨Same.refl _ _,luG_map (ek:=Cut.intK) (ev:=natK) Cut.keyT_i Tryz.underlying56 (s2.get 2 rfl) o.Object (by rfl) ?_⟩
 rw [hgm]
 simp (disch:=first|omega|exact zF rfl|exact zG rfl|exact fun h=>h|(simp only[zA,zB,zC,zD,bytesW];omega)) only[go_sem,c60S0,c60S1,c60S3,c60D0,luG,natK]
 refine c60draw1 (Chg (fun _=>False) _) (Chg.refl _ _) ?_
 have s3:=s2.drew
 have r3:=s3.rules 0 rfl
 have n2:=(hob _ _ _ _ _ (s2.sub (List.sublist_cons_self _ _))).rules
 have n3:=(hob _ _ _ _ _ (s3.sub (List.sublist_cons_self _ _))).rules
 have u2:=(s2.get 0 rfl _ hds).2.at hat
 have u3:=(s3.get 0 rfl _ hds).2.at hat
 have ln2:=(hob _ _ _ _ _ (s2.sub (List.sublist_cons_self _ _))).lt
 have ls2:sa.block<w2.heap.size:=Rd.footLt (s2.get 0 rfl _ hds).2.row (by decide) ⟨_,_,_,rfl,by omega,rfl⟩
 obtain ⟨va,vc,hva,_⟩:=((s2.get 0 rfl _ hds).2.rd _ (List.getElem_mem hat)).form
 simp only at u2 u3
 rw [hva] at u2 u3
 simp (disch:=first|omega|exact zF rfl|exact zG rfl|exact fun h=>h|(simp only[zA,zB,zC,zD,bytesW];omega)) only[go_sem,c60S0,c60S1,c60S3,c60D1,r2,r3,n2,n3,u2,u3,hat1]
 have rk:=(s3.get 0 rfl _ hds).2.rd _ (List.getElem_mem hat)
 rw [hva] at rk
 have hUl:(U[at_]).2.length≤1000:=by rw [hUat]; omega
 refine ⟨by omega,Ret.mono (step_ok _ _ o _ rk (by omega) (fun e=>by rw [hUat]; exact a3 (hkind.trans e))) ?_⟩
 rintro _ w4 ⟨⟨t,ok,rfl,hm⟩,b4⟩
 rw [hUat] at hm
 have chg:∀ {wa wb:World},Below wa.heap.size wa wb→Chg (fun _=>False) wa wb:=fun hb=>Chg.of_below hb
 cases hst2:stepP (sp.st.getD at_ []) o with
 | none =>
  rw [hst2] at hm hmv
  have hm:ok=false:=hm
  subst hm
  have s4:=s3.call b4
  simp (disch:=first|omega|exact zF rfl|exact zG rfl|exact fun h=>h|(simp only[zA,zB,zC,zD,bytesW];omega)) only[go_sem,c60S0,c60S2,c60S3,c60D1]
  refine ⟨chg b4,tv,N,C,s4.sub (List.sublist_cons_self _ _),fun c hc=>hc,hN,.no hNi ?_⟩
  exact hmv
 | some s' =>
  rw [hst2] at hm hmv
  obtain ⟨rfl,h4,f4⟩:=hm
  have s4:=s3.made b4 (Inv.rd 1 intE t s') h4 fun k hk=>⟨f4 k hk,h4.footLt (by decide) hk⟩
  have hok':SpOk P accO M ⟨sp.done.set k (sp.done.getD k 0+1),sp.st.set at_ s'⟩:=mv_ok (k:=k) (m:=(o.ID,⟨sp.done.set k (sp.done.getD k 0+1),sp.st.set at_ s'⟩)) hP hok hmv
  obtain ⟨ta,tc,rfl,_⟩:=h4.form
  simp (disch:=first|omega|exact zF rfl|exact zG rfl|exact fun h=>h|(simp only[zA,zB,zC,zD,bytesW];omega)) only[go_sem,c60S0,c60S2,c60S3,c60D1]
  refine ⟨chg b4,?_⟩
  clear b4 s3 s2 s1 n2 n3 u2 u3 r1 r2 r3 x1 x2 ln2 ls2
  simp (disch:=first|omega|exact zF rfl|exact zG rfl|exact fun h=>h|(simp only[zA,zB,zC,zD,bytesW];omega)) only[go_sem,c60S1,c60S2,c60S3]
  refine c60draw2 (Chg (fun _=>False) _) (Chg.refl _ _) ?_
  have s5:=s4.drew
  have n4:=(hob _ _ _ _ _ (s4.sub (List.sublist_cons_self _ _))).rules
  have n5:=(hob _ _ _ _ _ (s5.sub (List.sublist_cons_self _ _))).rules
  have ln4:=(hob _ _ _ _ _ (s4.sub (List.sublist_cons_self _ _))).lt
  simp (disch:=first|omega|exact zF rfl|exact zG rfl|exact fun h=>h|(simp only[zA,zB,zC,zD,bytesW];omega)) only[go_sem,c60S1,c60S2,c60S3,c60D2,n4,n5]
  generalize hw5:w4.drew=w5 at s5 n5 ⊢
  refine Ret.mono (iclone_ok _ (zN sp.done) w5 (s5.get 1 rfl _ hds).1 (by rw [zN_len,hok.dl]; omega)) ?_
  rintro dv' w6 ⟨o6,b6⟩
  have s6:=s5.add b6 (.row dv' 3 1 (zN sp.done).length ((zN sp.done).flatMap intE)) (own_mono o6 s5.size) fun k hk=>(o6.lt k hk).1
  simp (disch:=first|omega|exact zF rfl|exact zG rfl|exact fun h=>h|(simp only[zA,zB,zC,zD,bytesW];omega)) only[go_sem,c60S1,c60S2,c60S3,c60D2,n4,n5]
  refine ⟨chg b6,Ret.mono (wclone_ok _ U w6 (s6.get 1 rfl _ hds).2 (by omega)) ?_⟩
  rintro sv' w7 ⟨o7,b7⟩
  have s7:=s6.add b7 (.row sv' 25 1 U.length (U.map Prod.fst)) (own_mono o7 s6.size) fun k hk=>(o7.lt k hk).1
  obtain ⟨da',dc',rfl,hdc⟩:=own_slice o6
  obtain ⟨sa',sc',rfl,hsc⟩:=own_slice o7
  obtain ⟨ga,rfl⟩:=own_ptr o6 (by rw [zN_len]; omega)
  obtain ⟨gb,rfl⟩:=own_ptr o7 (by omega)
  have dk:((zN sp.done).flatMap intE)[k]?=some (.int .i64 (sp.done.getD k 0:Nat)):=by
   have:(zN sp.done).flatMap intE=(zN sp.done).map fun n=>.int .i64 n:=by
    induction zN sp.done with
    | nil=>rfl
    | cons a l ih=>rw [List.flatMap_cons,ih]; rfl
   rw [this,List.getElem?_map,List.getElem?_eq_getElem (by rw [zN_len]; omega),zN_get]; rfl
  have uk:(U.map Prod.fst)[at_]?=some (.slice va (U[at_]).2.length vc):=by rw [List.getElem?_map,List.getElem?_eq_getElem hat,← hva]; rfl
  have c7:=own_cell (s7.row 1 rfl)
  have e7:=own_cell (s7.row 0 rfl)
  have c7k:=c7.1 k _ dk
  have f7k:=c7.2 k
  have e7k:=e7.1 at_ _ uk
  have g7k:=e7.2 at_
  have hkd1:(k:Int)<(zN sp.done).length:=by rw [zN_len]; omega
  have hkb:(sp.done.getD k 0:Nat)≤200:=Nat.le_trans (hok.le k) (hp k)
  have nab:ga≠gb:=fun e=>s7.ne 0 1 rfl rfl (by decide) (k:=gb) rfl (by rw [← e]; rfl)
  simp (disch:=first|omega|exact zF rfl|exact zG rfl|exact fun h=>h|(simp only[zA,zB,zC,zD,bytesW];omega)) only[go_sem,c60S0,c60S1,c60S2,c60S3,c60D2,c7k,f7k,e7k,g7k,hkd1,hat1,nab]
  refine ⟨chg (Below.next b6 b7),by omega,⟨by omega,by omega⟩,by omega,by omega,?_⟩
  have s8:=(s7.put 1 rfl k (.int .i64 ((sp.done.getD k 0:Nat)+1))).put 0 rfl at_ (.slice ta s'.length tc)
  simp only [List.set_cons_zero,List.set_cons_succ] at s8
  generalize (w7.setCell ⟨ga,k,none⟩ (.int .i64 ((sp.done.getD k 0:Nat)+1))).setCell ⟨gb,at_,none⟩ (.slice ta s'.length tc)=w8 at s8 ⊢
  have e1:((zN sp.done).flatMap intE).set k (.int .i64 ((sp.done.getD k 0:Nat)+1))=(zN (sp.done.set k (sp.done.getD k 0+1))).flatMap intE:=by
   have:∀ l:List Int,l.flatMap intE=l.map fun n=>.int .i64 n:=fun l=>by
    induction l with
    | nil=>rfl
    | cons a l ih=>rw [List.flatMap_cons,ih]; rfl
   rw [this,this,zN_set,List.map_set]
   simp
  have e2:(U.map Prod.fst).set at_ (.slice ta s'.length tc)=(U.set at_ (.slice ta s'.length tc,s')).map Prod.fst:=by rw [List.map_set]
  rw [e1,e2] at s8
  have s9:=ds_more (dv:=.slice (some ⟨ga,0,none⟩) (zN sp.done).length dc') (d:=sp.done.set k (sp.done.getD k 0+1)) (U:=U.set at_ (.slice ta s'.length tc,s')) (st_recast (s8.perm (List.Perm.swap _ _ _)) (by rw [List.length_set,List.length_set]; simp only [zN_len]; rfl)) fun p hp=>by
   rcases List.mem_or_eq_of_mem_set hp with hp | rfl
   ·exact ⟨(s8.get 1 rfl _ hds).2.rd _ hp,fun k hk=>.inr ⟨_,hds,.inr (.inr ⟨p,hp,hk⟩)⟩⟩
   ·exact ⟨s8.get 0 rfl,fun k hk=>.inl hk⟩
  have hst':(U.set at_ (.slice ta s'.length tc,s')).map Prod.snd=sp.st.set at_ s':=by rw [List.map_set,hst]
  generalize hd':sp.done.set k (sp.done.getD k 0+1)=d' at *
  generalize hU':U.set at_ (.slice ta s'.length tc,s')=U' at *
  generalize hst'':sp.st.set at_ s'=st' at *
  have hdl:d'.length=sp.done.length:=by rw [← hd',List.length_set]
  have hUl':U'.length=U.length:=by rw [← hU',List.length_set]
  have r8:=s9.rules 0 rfl
  have n8:=(hob _ _ _ _ _ (s9.sub (List.sublist_cons_self _ _))).rules
  have s10:=s9.drew
  have r10:=s10.rules 0 rfl
  have n10:=(hob _ _ _ _ _ (s10.sub (List.sublist_cons_self _ _))).rules
  have b10:=s10.blk 0 rfl
  have m10:=hob _ _ _ _ _ (s10.sub (List.sublist_cons_self _ _))
  refine c60draw3 (Same (fun k=>k=nb∨k=y) _) (Same.refl _ _) ?_
  generalize w8.drew=w10 at s10 r10 n10 b10 m10 ⊢
  have sm:∀ w',Blk w' nb #[.slice (some da) (zN sp.done).length dc,.slice (some sa) U.length sc,nv,.bool (endsP P sp.done),.bool gd] 64→Blk w' y o.enc.toArray 52→Same (fun k=>k=nb∨k=y) w10 w':=fun w' hB hB2 b hb=>by
   rcases hb with rfl | rfl
   ·exact Eq.trans hB m10.symm
   ·exact Eq.trans hB2 b10.symm
  obtain ⟨na,nc,rfl,hnc⟩:=own_slice (hor _ _ _ _ _ (s10.sub (List.sublist_cons_self _ _)))
  simp (disch:=first|omega|exact zF rfl|exact zG rfl|exact fun h=>h|(simp only[zA,zB,zC,zD,bytesW];omega)) only[go_sem,c60S0,c60S1,c60S2,c60S3,c60D3,n8,n10,r8,r10,hao]
  have hC2:∀ c∈C,c∈((.slice (some ⟨ga,0,none⟩) (zN sp.done).length dc',d',.slice (some ⟨gb,0,none⟩) U.length sc',U')::C:List DS):=fun c hc=>List.mem_cons_of_mem _ hc
  have tx:∀ {s:Sp},SpOk P accO M s→OkSp P.length accO.length s:=fun hs=>hs.text hM hp
  have s11:=s10.perm (L':=SX P x pl m mst pv tv N++(.blk y o.enc.toArray 52::L)) List.perm_middle
  refine Ret.mono (wadd_ok (q:=accO.length) (s:=⟨d',st'⟩) (U:=U') s11 List.mem_cons_self hst' (tx hok') (fun n hn=>tx (hN n hn).ok) (fun p hp=>?_) hl (by omega) (fun k=>Nat.le_trans (hp k) (by decide)) hok'.le hNl) ?_
  ·have hpm:p.2∈st':=by rw [← hst']; exact List.mem_map_of_mem hp
   obtain ⟨j,hj,e⟩:=List.mem_iff_getElem.1 hpm
   have hj2:j<accO.length:=by have:=hok'.sl; simp only at this; omega
   obtain ⟨q1,q2,_⟩:=hok'.ok j hj2
   have e3:st'.getD j []=st'[j]:=by rw [List.getD_eq_getElem?_getD,List.getElem?_eq_getElem hj]; rfl
   simp only at q1 q2
   rw [e3,e] at q1 q2
   exact ⟨q1,by omega⟩
  rintro _ w11 ⟨tv',N',s12,hsp,rfl,hE⟩
  have hNl':N'.length≤N.length+1:=by rcases hE with rfl | ⟨b,rfl⟩ <;> simp
  have hi':i<N'.length:=by
   rcases hE with rfl | ⟨b,rfl⟩
   ·exact hi
   ·rw [List.length_append]; omega
  have hNi':N'[i]=⟨nb,.slice (some da) (zN sp.done).length dc,.slice (some sa) U.length sc,.slice na nx.length nc,sp,U,nx,gd⟩:=by
   have:N'[i]?=some ⟨nb,.slice (some da) (zN sp.done).length dc,.slice (some sa) U.length sc,.slice na nx.length nc,sp,U,nx,gd⟩:=by
    rcases hE with rfl | ⟨b,rfl⟩
    ·exact hNi
    ·rw [List.getElem?_append_left hi]; exact hNi
   exact Option.some.inj ((List.getElem?_eq_getElem hi').symm.trans this)
  have hNok:∀ n∈N',NdOk P accO M ((.slice (some ⟨ga,0,none⟩) (zN sp.done).length dc',d',.slice (some ⟨gb,0,none⟩) U.length sc',U')::C) n:=fun n hn=>by
   have old:∀ n∈N,NdOk P accO M ((.slice (some ⟨ga,0,none⟩) (zN sp.done).length dc',d',.slice (some ⟨gb,0,none⟩) U.length sc',U')::C) n:=fun n hn=>(hN n hn).mono hC2
   rcases hE with rfl | ⟨b,rfl⟩
   ·exact old n hn
   ·rcases List.mem_append.1 hn with hn | hn
    ·exact old n hn
    ·rw [List.mem_singleton] at hn
     subst hn
     exact ⟨hst',List.mem_cons_self,hok'⟩
  have s13:=s12.perm (sx_out hi')
  rw [hNi'] at s13
  simp only [ndR,List.cons_append,List.nil_append] at s13
  have sB:∀ {w':World} {tvx:Value} {Lx:List Res} {Ix:List Inv} {Nx:List Nd} {Mx:List Res},St W0 w' F (SXr P x pl m mst pv tvx Nx i (.blk y o.enc.toArray 52::Lx)) Ix→Blk w' y o.enc.toArray 52:=fun hs=>(hs.res (.blk y o.enc.toArray 52) (by unfold SXr; simp)).1.1
  have by13:Blk w11 y o.enc.toArray 52:=sB (Mx:=[]) (s13.sub ((List.sublist_cons_self _ _).trans (List.sublist_cons_self _ _)))
  have r13:=s13.rules 0 rfl
  have l13:=s13.low 0 rfl
  simp (disch:=first|omega|exact zF rfl|exact zG rfl|exact fun h=>h|(simp only[zA,zB,zC,zD,bytesW];omega)) only[go_sem,c60S0,c60S1,c60S2,c60S3,c60D3,r13]
  refine ⟨sm _ (s13.blk 0 rfl) by13,?_⟩
  refine bdW_built (cells:=#[.int .i64 o.ID,.int .i64 ((N'.map Nd.sp).idxOf ⟨d',st'⟩:Nat)]) (by kernel_rfl) ?_
  simp (disch:=first|omega|exact zF rfl|exact zG rfl|exact fun h=>h|(simp only[zA,zB,zC,zD,bytesW];omega)) only[go_sem,c60S0,c60S1,c60S2,c60S3,c60D3,r13]
  generalize hjj:(N'.map Nd.sp).idxOf ⟨d',st'⟩=jj
  refine ⟨sm _ (s13.blk 0 rfl) by13,bsW_agg ty62mkI rfl (by decide) (by decide) ?_⟩
  have s14:=s13.alloc' (.cells #[.int .i64 o.ID,.int .i64 jj] 113)
  have hxx:Rd (w11.alloc (.cells #[.int .i64 o.ID,.int .i64 jj] 113)) 2 (.slice (some ⟨w11.heap.size,0,none⟩) 1 1) 1 (mvE (o.ID,jj)):=rd_new (n:=1) (cs:=#[.int .i64 o.ID,.int .i64 jj]) rfl
  simp (disch:=first|omega|exact zF rfl|exact zG rfl|exact fun h=>h|(simp only[zA,zB,zC,zD,bytesW];omega)) only[go_sem,c60S0,c60S1,c60S2,c60S3,c60D3,r13]
  refine ⟨sm _ (s14.blk 0 rfl) (sB (Mx:=[]) (s14.sub ((List.sublist_cons_self _ _).trans (List.sublist_cons_self _ _)))),s14.append 1 rfl ty62mkI rfl (by decide) hxx (by intro u hu; simp only [mvE,List.mem_cons,List.not_mem_nil,or_false] at hu; rcases hu with rfl | rfl <;> rfl) (by omega) (by omega) ?_⟩
  intro v15 w15 s15 _
  simp only [List.set_cons_zero,List.set_cons_succ] at s15
  obtain ⟨a15,c15,rfl,_⟩:=own_slice (s15.row 1 rfl)
  have r15:=s15.rules 0 rfl
  simp (disch:=first|omega|exact zF rfl|exact zG rfl|exact fun h=>h|(simp only[zA,zB,zC,zD,bytesW];omega)) only[go_sem,c60S0,c60S1,c60S2,c60S3,c60D3,r15]
  have s16:=s15.set 0 rfl 2 (.slice a15 (nx.length+1) c15)
  simp only [List.set_cons_zero,List.set_cons_succ,List.setIfInBounds_toArray] at s16
  refine ⟨sm _ (s15.blk 0 rfl) (sB (Mx:=[]) (s15.sub ((List.sublist_cons_self _ _).trans (List.sublist_cons_self _ _)))),tv',setNx N' i (.slice a15 (nx.length+1) c15) (nx++[(o.ID,jj)]),_,?_,hC2,?_,?_⟩
  ·have e1:setNx N' i (.slice a15 (nx.length+1) c15) (nx++[(o.ID,jj)])=N'.set i ⟨nb,.slice (some da) (zN sp.done).length dc,.slice (some sa) U.length sc,.slice a15 (nx.length+1) c15,sp,U,nx++[(o.ID,jj)],gd⟩:=by
    unfold setNx
    rw [List.getElem?_eq_getElem hi',hNi']
   have s17:=s16.perm (L':=SX P x pl m mst pv tv' (setNx N' i (.slice a15 (nx.length+1) c15) (nx++[(o.ID,jj)]))++(.blk y o.enc.toArray 52::L)) (by
    rw [e1]
    refine (sx_in hi' (by rw [hNi']) (by rw [hNi'])).symm.trans (List.Perm.of_eq ?_)
    simp [ndR])
   exact (s17.perm List.perm_middle.symm).sub (List.sublist_cons_self _ _)
  ·intro n hn
   unfold setNx at hn
   rw [List.getElem?_eq_getElem hi',hNi'] at hn
   rcases List.mem_or_eq_of_mem_set hn with hn | rfl
   ·exact hNok n hn
   ·have:=hNok _ (List.getElem_mem hi')
    rw [hNi'] at this
    exact ⟨this.st,this.ds,this.ok⟩
  ·rw [← hjj]
   exact TryR.yes (m:=(o.ID,⟨d',st'⟩)) hNi (hmv.trans (by rw [← hst''])) hsp (by
    rcases hE with hE | ⟨b,hE⟩
    ·exact .inl hE
    ·exact .inr ⟨b,_,_,_,hE⟩)
open Go Go.Ann Go.RowKit
def NxR(Ls:List Sp)(nx:List (Int × Nat))(ms:List (Int × Sp)):Prop:=nx.map (fun a=>(a.1,Ls[a.2]?))=ms.map fun m=>(m.1,some m.2)
theorem NxR.len{Ls:List Sp}{nx:List (Int × Nat)}{ms:List (Int × Sp)}(h:NxR Ls nx ms):nx.length=ms.length:=by
 have:=congrArg List.length h
 simpa using this
theorem NxR.mono{Ls:List Sp}(t:List Sp){nx:List (Int × Nat)}{ms:List (Int × Sp)}(h:NxR Ls nx ms):NxR (Ls++t) nx ms:=by
 unfold NxR at h ⊢
 rw [← h]
 refine List.map_congr_left fun a ha=>?_
 have:(a.1,Ls[a.2]?)∈ms.map fun m=>(m.1,some m.2):=by rw [← h]; exact List.mem_map_of_mem (f:=fun a:Int × Nat=>(a.1,Ls[a.2]?)) ha
 obtain ⟨m,_,e⟩:=List.mem_map.1 this
 simp only [Prod.mk.injEq] at e
 have hl:a.2<Ls.length:=(List.getElem?_eq_some_iff.1 e.2.symm).1
 rw [List.getElem?_append_left hl]
theorem NxR.snoc{Ls:List Sp}{nx:List (Int × Nat)}{ms:List (Int × Sp)}{a:Int}{j:Nat}{s:Sp}(h:NxR Ls nx ms)(hj:Ls[j]?=some s):NxR Ls (nx++[(a,j)]) (ms++[(a,s)]):=by
 unfold NxR at h ⊢
 rw [List.map_append,List.map_append,h]
 simp [hj]
theorem NxR.mem{Ls:List Sp}{nx:List (Int × Nat)}{ms:List (Int × Sp)}(h:NxR Ls nx ms){a:Int × Nat}(ha:a∈nx):∃ m∈ms,m.1=a.1∧Ls[a.2]?=some m.2:=by
 have:(a.1,Ls[a.2]?)∈ms.map fun m=>(m.1,some m.2):=by
  rw [← show _=_ from h]
  exact List.mem_map_of_mem (f:=fun a:Int × Nat=>(a.1,Ls[a.2]?)) ha
 obtain ⟨m,hm,e⟩:=List.mem_map.1 this
 simp only [Prod.mk.injEq] at e
 exact ⟨m,hm,e.1,e.2.symm⟩
theorem NxR.mem'{Ls:List Sp}{nx:List (Int × Nat)}{ms:List (Int × Sp)}(h:NxR Ls nx ms){m:Int × Sp}(hm:m∈ms):∃ a∈nx,a.1=m.1∧Ls[a.2]?=some m.2:=by
 have:(m.1,some m.2)∈nx.map fun a=>(a.1,Ls[a.2]?):=by
  rw [show _=_ from h]
  exact List.mem_map_of_mem (f:=fun m:Int × Sp=>(m.1,some m.2)) hm
 obtain ⟨a,ha,e⟩:=List.mem_map.1 this
 simp only [Prod.mk.injEq] at e
 exact ⟨a,ha,e.1,e.2⟩
theorem addW_pre(Ls:List Sp)(s:Sp):∃ t,addW Ls s=Ls++t∧t.length≤1:=by
 unfold addW
 split
 ·exact ⟨[],by simp,by simp⟩
 ·exact ⟨[s],rfl,by simp⟩
theorem addW_at(Ls:List Sp)(s:Sp):(addW Ls s)[(addW Ls s).idxOf s]?=some s:=by
 have hm:s∈addW Ls s:=by
  unfold addW
  split
  ·assumption
  ·simp
 obtain ⟨h1,h2⟩:∃ h:(addW Ls s).idxOf s<(addW Ls s).length,(addW Ls s)[(addW Ls s).idxOf s]=s:=⟨List.idxOf_lt_length_iff.2 hm,List.getElem_idxOf _⟩
 rw [List.getElem?_eq_getElem h1,h2]
theorem setNx_map(N:List Nd)(i:Nat)(nv:Value)(nx:List (Int × Nat)):(setNx N i nv nx).map Nd.sp=N.map Nd.sp:=by
 unfold setNx
 cases h:N[i]? with
 | none=>rfl
 | some n =>
  obtain ⟨hi,rfl⟩:=List.getElem?_eq_some_iff.1 h
  simp only
  rw [List.map_set]
  exact List.ext_getElem (by simp) fun j h1 h2=>by
   rw [List.getElem_set]
   split
   ·rename_i e; subst e; simp
   ·rfl
theorem setNx_get(N:List Nd)(i:Nat)(nv:Value)(nx:List (Int × Nat))(j:Nat):(setNx N i nv nx)[j]?=if j=i then (N[i]?).map (fun n=>{ n with nv:=nv,nx:=nx }) else N[j]?:=by
 unfold setNx
 cases h:N[i]? with
 | none =>
  simp only
  split
  ·rename_i e; subst e; rw [h]; rfl
  ·rfl
 | some n =>
  simp only
  rw [List.getElem?_set]
  have hi:=(List.getElem?_eq_some_iff.1 h).1
  by_cases e:j=i
  ·subst e; simp [hi]
  ·rw [if_neg e,if_neg (fun h=>e h.symm)]
def GrI(P:List (List OpT))(obs:List Int)(N:List Nd)(i:Nat)(ms:List (Int × Sp)):Prop :=
 ∀ j n,N[j]?=some n→n.gd=false∧(j<i→NxR (N.map Nd.sp) n.nx (mvsP P obs n.sp))∧(j=i→NxR (N.map Nd.sp) n.nx ms)∧(i<j→n.nx=[])
theorem mvsK_succ(P:List (List OpT))(obs:List Int)(s:Sp)(k:Nat):(List.range (k+1)).filterMap (mvP P obs s)=(List.range k).filterMap (mvP P obs s)++(mvP P obs s k).toList:=by
 rw [List.range_succ,List.filterMap_append]
 congr 1
theorem try_gr{P:List (List OpT)}{obs:List Int}{k i:Nat}{N N':List Nd}{n:Nd}{ms:List (Int × Sp)}(h:TryR P obs k i N N')(hg:GrI P obs N i ms)(hn:N[i]?=some n) :
  GrI P obs N' i (ms++(mvP P obs n.sp k).toList)∧N'.map Nd.sp=(mvP P obs n.sp k).toList.foldl (fun L m=>addW L m.2) (N.map Nd.sp)∧(∃ n',N'[i]?=some n'∧n'.sp=n.sp∧n'.b=n.b∧n'.ds=n.ds)∧N'.length≤N.length+1∧(∀ n0:Nd,N.head?=some n0→∃ n1,N'.head?=some n1∧n1.sp=n0.sp):=by
 cases h with
 | @no n2 hn2 hm =>
  obtain rfl:n2=n:=Option.some.inj (hn2.symm.trans hn)
  rw [hm]
  exact ⟨by simpa using hg,rfl,⟨_,hn,rfl,rfl,rfl⟩,by omega,fun n0 h0=>⟨n0,h0,rfl⟩⟩
 | @yes n2 m N1 nv hn2 hm hsp hE =>
  obtain rfl:n2=n:=Option.some.inj (hn2.symm.trans hn)
  rw [hm]
  obtain ⟨t,ht,htl⟩:=addW_pre (N.map Nd.sp) m.2
  have hat:=addW_at (N.map Nd.sp) m.2
  rw [← hsp] at hat
  have hN1:∀ j,j<N.length→N1[j]?=N[j]?:=fun j hj=>by
   rcases hE with rfl | ⟨b,dv,sv,U,rfl⟩
   ·rfl
   ·exact List.getElem?_append_left hj
  have hil:i<N.length:=(List.getElem?_eq_some_iff.1 hn).1
  have h1i:N1[i]?=some n2:=by rw [hN1 i hil]; exact hn
  have hlen:N1.length≤N.length+1:=by
   rcases hE with rfl | ⟨b,dv,sv,U,rfl⟩ <;> simp
  have hls:(setNx N1 i nv (n2.nx++[(m.1,(N1.map Nd.sp).idxOf m.2)])).length=N1.length:=by
   have:=congrArg List.length (setNx_map N1 i nv (n2.nx++[(m.1,(N1.map Nd.sp).idxOf m.2)]))
   simpa using this
  refine ⟨fun j n' hj=>?_,?_,?_,by rw [hls]; exact hlen,fun n0 h0=>?_⟩
  ·rw [setNx_map]
   rw [setNx_get] at hj
   have mono:∀ {nx:List (Int × Nat)} {ms:List (Int × Sp)},NxR (N.map Nd.sp) nx ms→NxR (N1.map Nd.sp) nx ms:=fun h=>by rw [hsp,ht]; exact h.mono t
   by_cases e:j=i
   ·subst e
    rw [if_pos rfl,h1i] at hj
    cases hj
    obtain ⟨g1,_,g3,_⟩:=hg _ _ hn
    exact ⟨g1,fun h=>absurd h (Nat.lt_irrefl _),fun _=>(mono (g3 rfl)).snoc hat,fun h=>absurd h (Nat.lt_irrefl _)⟩
   ·rw [if_neg e] at hj
    by_cases hjl:j<N.length
    ·rw [hN1 j hjl] at hj
     obtain ⟨g1,g2,g3,g4⟩:=hg _ _ hj
     exact ⟨g1,fun h=>mono (g2 h),fun h=>absurd h e,g4⟩
    ·rcases hE with rfl | ⟨b,dv,sv,U,rfl⟩
     ·exact absurd (List.getElem?_eq_some_iff.1 hj).1 hjl
     ·rw [List.getElem?_append_right (by omega)] at hj
      have:j - N.length=0:=by
       have:=(List.getElem?_eq_some_iff.1 hj).1
       simpa using this
      rw [this] at hj
      cases hj
      exact ⟨rfl,fun h=>absurd h (by omega),fun h=>absurd h e,fun _=>rfl⟩
  ·rw [setNx_map,hsp]; rfl
  ·exact ⟨{ n2 with nv:=nv,nx:=n2.nx++[(m.1,(N1.map Nd.sp).idxOf m.2)] },by rw [setNx_get,if_pos rfl,h1i]; rfl,rfl,rfl,rfl⟩
  ·rw [List.head?_eq_getElem?,setNx_get]
   rw [List.head?_eq_getElem?] at h0
   by_cases e:0=i
   ·subst e
    rw [if_pos rfl,h1i]
    rw [hn] at h0
    cases h0
    exact ⟨{ n2 with nv:=nv,nx:=n2.nx++[(m.1,(N1.map Nd.sp).idxOf m.2)] },rfl,rfl⟩
   ·rw [if_neg e,hN1 0 (by omega)]
    exact ⟨n0,h0,rfl⟩
theorem gr_next{P:List (List OpT)}{obs:List Int}{i:Nat}{N:List Nd}{n:Nd}(hg:GrI P obs N i (mvsP P obs n.sp))(hn:N[i]?=some n):GrI P obs N (i+1) []:=fun j n' hj=>by
 obtain ⟨g1,g2,g3,g4⟩:=hg j n' hj
 refine ⟨g1,fun h=>?_,fun h=>?_,fun h=>g4 (by omega)⟩
 ·by_cases e:j=i
  ·subst e
   obtain rfl:n'=n:=Option.some.inj (hj.symm.trans hn)
   exact g3 rfl
  ·exact g2 (by omega)
 ·rw [g4 (by omega)]; rfl
open Go Go.Ann Go.RowKit
structure Ctx(P:List (List OpT))(accO:List Seg)(M:Nat):Prop where
 pr:PrOk P accO
 m:M≤1000
 pl:P.length≤200
 pp:∀ k,(P.getD k []).length≤200
 ob:accO.length≤1000
structure SrS(W0 w:World)(F:Nat→Prop)(L:List Res)(I:List Inv)(P:List (List OpT))(accO:List Seg)(vs:List Value)(x pl m M c0:Nat)(mst:Int)(pv tv:Value)(N:List Nd)(C:List DS):Prop where
 st:St W0 w F (SX P x pl m mst pv tv N++L) (Inv.ds C::Inv.pg pv P vs::Inv.ob pl (mapG Cut.intK natK (plM (objsW accO) 0) c0)::I)
 nd:∀ n∈N,NdOk P accO M C n
theorem mvs_one{P:List (List OpT)}{obs:List Int}{s:Sp}(k:Nat):((List.range k).filterMap (mvP P obs s)).length≤k:=by
 have:=List.length_filterMap_le (mvP P obs s) (List.range k)
 rw [List.length_range] at this
 exact this
theorem all_in{W0 w:World}{F:Nat→Prop}{L:List Res}{I:List Inv}{P:List (List OpT)}{accO:List Seg}{vs:List Value}{x pl m M c0 i pc:Nat}{mst:Int}{pa:Option Addr}{tv:Value}{N:List Nd}{C:List DS}{n:Nd}{Q:Post}
  (cx:Ctx P accO M) (h:SrS W0 w F L I P accO vs x pl m M c0 mst (.slice pa P.length pc) tv N C) (hg:GrI P (objsW accO) N i []) (hi:N[i]?=some n) (hNl:N.length≤40000)
  (hQ:∀ w' tv' N' C',SrS W0 w' F L I P accO vs x pl m M c0 mst (.slice pa P.length pc) tv' N' C'→GrI P (objsW accO) N' (i+1) []→N'.map Nd.sp=roundW P (objsW accO) (N.map Nd.sp) n.sp→N'.length≤N.length+P.length→(∃ n0,N'.head?=some n0∧(N.head?.map Nd.sp)=some n0.sp)→Q .normal [(0,.pointer (some ⟨x,0,none⟩)),(3,.int .i64 i)] w') :
  W Tryz.prog (.loop (sg c30L0)) [(0,.pointer (some ⟨x,0,none⟩)),(3,.int .i64 i),(4,.pointer (some ⟨n.b,0,none⟩)),(36,.slice pa P.length pc),(37,.int .i64 P.length),(38,.int .i64 0)] w (blockQ 2 Q):=by
 have hpl:=cx.pl
 have hhd:∃ n0,N.head?=some n0:=by
  cases N with
  | nil=>cases hi
  | cons a r=>exact ⟨a,rfl⟩
 obtain ⟨n0,hn0⟩:=hhd
 refine W_loopU (fun z:Nat × Value × List Nd × List DS=>[(38,.int .i64 z.1)]) (fun z w'=>SrS W0 w' F L I P accO vs x pl m M c0 mst (.slice pa P.length pc) z.2.1 z.2.2.1 z.2.2.2∧z.1≤P.length∧GrI P (objsW accO) z.2.2.1 i ((List.range z.1).filterMap (mvP P (objsW accO) n.sp))∧z.2.2.1.map Nd.sp=((List.range z.1).filterMap (mvP P (objsW accO) n.sp)).foldl (fun L m=>addW L m.2) (N.map Nd.sp)∧(∃ n',z.2.2.1[i]?=some n'∧n'.sp=n.sp∧n'.b=n.b)∧z.2.2.1.length≤N.length+z.1∧(∃ n1,z.2.2.1.head?=some n1∧n1.sp=n0.sp)) (fun z=>P.length - z.1) (0,tv,N,C) rfl ⟨h,Nat.zero_le _,hg,rfl,⟨n,hi,rfl,rfl⟩,by simp,n0,hn0,rfl⟩ ?_
 rintro ⟨k,tk,Nk,Ck⟩ w2 ⟨h2,hk,g2,e2,⟨n',hn',hsp,hb⟩,hl2,n1,hn1,hs1⟩
 simp only at h2 hk g2 e2 hn' hl2 hn1
 by_cases hlt:k<P.length
 ·have hlt':(k:Int)<P.length:=by omega
  obtain ⟨hil,hNi⟩:=List.getElem?_eq_some_iff.1 hn'
  have nd':=h2.nd n' (List.mem_of_getElem? hn')
  have hB:=(sx_blk h2.st hil).rules
  rw [hNi] at hB
  rw [← hb]
  have hdr:=(h2.st.get 0 rfl _ nd'.ds).1
  simp only [Nd.ds] at hdr
  have hPr:PgR w2 (.slice pa P.length pc) P vs:=h2.st.get 1 rfl
  obtain ⟨p,rfl⟩:=hPr.ptr (by omega)
  obtain ⟨ra,rc,e1,r1⟩:=hPr.at hlt
  obtain ⟨da,dc,hda,_⟩:=hdr.form
  have hkd:k<n'.sp.done.length:=by rw [nd'.ok.dl]; exact hlt
  rw [hda] at hdr hB
  obtain ⟨da,rfl⟩:=hdr.ptr (by rw [zN_len]; omega)
  have e3:=zN_cell hdr hkd
  have hk2:(k:Int)<(zN n'.sp.done).length:=by rw [zN_len]; omega
  have hop:opAt P n'.sp.done k=P[k][n'.sp.done.getD k 0]?:=by
   unfold opAt
   rw [List.getElem?_eq_getElem hlt,List.getElem?_eq_getElem hkd]
   simp [List.getD_eq_getElem?_getD,List.getElem?_eq_getElem hkd]
  have hmk:mvsP P (objsW accO) n.sp=(List.range P.length).filterMap (mvP P (objsW accO) n.sp):=rfl
  by_cases hlt2:n'.sp.done.getD k 0<P[k].length
  ·have hlt2':((n'.sp.done.getD k 0:Nat):Int)<P[k].length:=by omega
   obtain ⟨q,rfl⟩:=r1.ptr (by omega)
   have ec:=r1.at OpT.len hlt2
   have hop2:opAt P n'.sp.done k=some (P[k][n'.sp.done.getD k 0]):=by rw [hop,List.getElem?_eq_getElem hlt2]
   simp (disch:=first|omega|exact zF rfl|exact zG rfl|exact fun h=>h|(simp only[zA,zB,zC,zD,bytesW];omega)) only[go_sem,c30S3,c30S4,c30L1,c30S7,hlt',e1,e3,hB,hk2,hlt2',ec]
   have hnxl:n'.nx.length≤k:=by
    have h1:=((g2 i n' hn').2.2.1 rfl).len
    have h2:=mvs_one (P:=P) (obs:=objsW accO) (s:=n.sp) k
    omega
   have ht:=try_ok (i:=i) (k:=k) (o:=P[k][n'.sp.done.getD k 0]) h2.st cx.pr h2.nd cx.m hil (by rw [hNi]; exact hop2) cx.pl cx.pp cx.ob (by omega) (by rw [hNi]; have:=cx.pl; omega)
   rw [hNi] at ht
   unfold ptV at ht
   refine ⟨by omega,by omega,by omega,by omega,Ret.mono ht ?_⟩
   rintro _ w5 ⟨tv5,N5,C5,s5,_,nd5,t5⟩
   obtain ⟨k1,k2,⟨n5,k3,k4,k5,_⟩,k6,k7⟩:=try_gr t5 g2 hn'
   obtain ⟨n6,k8,k9⟩:=k7 n1 hn1
   rw [hsp] at k1 k2 k4
   rw [hb] at k5
   simp (disch:=first|omega|exact zF rfl|exact zG rfl|exact fun h=>h|(simp only[zA,zB,zC,zD,bytesW];omega)) only[go_sem,c30S3,c30S4,c30L1,c30S7]
   refine ⟨⟨by omega,by omega⟩,(k+1,tv5,N5,C5),rfl,⟨⟨s5,nd5⟩,by simp only; omega,by simp only; rw [mvsK_succ]; exact k1,by simp only; rw [mvsK_succ,List.foldl_append,← e2]; exact k2,⟨n5,k3,k4,by rw [hb]; exact k5⟩,by simp only; omega,n6,k8,by rw [k9,hs1]⟩,by simp only; omega⟩
  ·have hlt2':¬ ((n'.sp.done.getD k 0:Nat):Int)<P[k].length:=by omega
   have hnone:mvP P (objsW accO) n.sp k=none:=by
    unfold mvP
    rw [← hsp,hop,List.getElem?_eq_none (by omega)]
   simp (disch:=first|omega|exact zF rfl|exact zG rfl|exact fun h=>h|(simp only[zA,zB,zC,zD,bytesW];omega)) only[go_sem,c30S3,c30S4,c30L1,c30S7,hlt',e1,e3,hB,hk2,hlt2']
   refine ⟨by omega,by omega,⟨by omega,by omega⟩,(k+1,tk,Nk,Ck),rfl,⟨h2,by simp only; omega,by simp only; rw [mvsK_succ,hnone]; simpa using g2,by simp only; rw [mvsK_succ,hnone]; simpa using e2,⟨n',hn',hsp,rfl⟩,by simp only; omega,n1,hn1,hs1⟩,by simp only; omega⟩
 ·have hlt':¬ (k:Int)<P.length:=by omega
  obtain rfl:k=P.length:=by omega
  simp (disch:=first|omega|exact zF rfl|exact zG rfl|exact fun h=>h|(simp only[zA,zB,zC,zD,bytesW];omega)) only[go_sem,c30S3,c30S4,c30L1,c30S7,hlt']
  refine hQ _ _ _ _ h2 (gr_next (n:=n') (by rw [hsp]; exact g2) hn') e2 hl2 ⟨n1,hn1,?_⟩
  rw [hn0,hs1]; rfl
theorem all_ok{W0 w:World}{F:Nat→Prop}{L:List Res}{I:List Inv}{P:List (List OpT)}{accO:List Seg}{vs:List Value}{x pl m M c0:Nat}{mst:Int}{pv tv:Value}{N:List Nd}{C:List DS}{s0:Sp}
  (cx:Ctx P accO M) (h:SrS W0 w F L I P accO vs x pl m M c0 mst pv tv N C) (hg:GrI P (objsW accO) N 0 []) (h1:N.map Nd.sp=[s0]) (hm:mst≤32768) :
  Ret Tryz.prog 30 [.pointer (some ⟨x,0,none⟩)] w fun u w'=>∃ tv' N' C' r,SrS W0 w' F L I P accO vs x pl m M c0 mst pv tv' N' C'∧BfsR P (objsW accO) mst [s0] 0 r∧N'.map Nd.sp=r∧r.length≤40000∧u=.bool (decide ((r.length:Int)≤mst))∧((r.length:Int)≤mst→∀ n∈N',n.gd=false∧NxR (N'.map Nd.sp) n.nx (mvsP P (objsW accO) n.sp)):=by
 have hpl:=cx.pl
 obtain ⟨pa,pc,rfl⟩:=(show PgR w pv P vs from h.st.get 1 rfl).form
 have hN1:N.length=1:=by have:=congrArg List.length h1; simpa using this
 refine ent30 _ _ _ ?_
 simp (disch:=first|omega|exact zF rfl|exact zG rfl|exact fun h=>h|(simp only[zA,zB,zC,zD,bytesW];omega)) only[go_sem,c30S3,c30S4,c30S6]
 refine W_loopU (fun z:Nat × Value × List Nd × List DS=>[(3,.int .i64 z.1)]) (fun z w'=>SrS W0 w' F L I P accO vs x pl m M c0 mst (.slice pa P.length pc) z.2.1 z.2.2.1 z.2.2.2∧GrI P (objsW accO) z.2.2.1 z.1 []∧z.1≤z.2.2.1.length∧z.2.2.1.length≤33000∧z.1≤32768∧∀ r,BfsR P (objsW accO) mst (z.2.2.1.map Nd.sp) z.1 r→BfsR P (objsW accO) mst [s0] 0 r) (fun z=>33000 - z.1) (0,tv,N,C) rfl ⟨h,hg,Nat.zero_le _,by simp only; omega,by simp only; omega,fun r hr=>by rw [h1] at hr; exact hr⟩ ?_
 rintro ⟨i,ti,Ni,Ci⟩ w2 ⟨h2,g2,hi,hl,hi2,hb⟩
 simp only at h2 g2 hi hl hi2 hb
 obtain ⟨ta,tc,rfl,_⟩:=own_slice (h2.st.row 1 rfl)
 have r2:=h2.st.rules 0 rfl
 have lens:(Ni.map Nd.sp).length=Ni.length:=by simp
 by_cases hlt:i<Ni.length
 ·have hlt':(i:Int)<Ni.length:=by omega
  simp (disch:=first|omega|exact zF rfl|exact zG rfl|exact fun h=>h|(simp only[zA,zB,zC,zD,bytesW];omega)) only[go_sem,c30S4,c30L1,c30S6,c30L1,r2,hlt']
  refine c30draw0 ?_
  simp (disch:=first|omega|exact zF rfl|exact zG rfl|exact fun h=>h|(simp only[zA,zB,zC,zD,bytesW];omega)) only[go_sem,c30S4,c30L1,c30S6,c30D0,r2]
  have h3:SrS W0 w2.drew F L I P accO vs x pl m M c0 mst (.slice pa P.length pc) (.slice ta Ni.length tc) Ni Ci:=⟨h2.st.drew,h2.nd⟩
  generalize w2.drew=w3 at h3 ⊢
  refine ⟨fun hov=>?_,fun hle=>?_⟩
  ·refine ⟨_,Ni,Ci,Ni.map Nd.sp,h3,hb _ (.full (by rw [lens]; omega)),rfl,by rw [lens]; omega,?_,fun h=>by rw [lens] at h; omega⟩
   rw [lens,decide_eq_false (by omega)]
  ·have r3:=h3.st.rules 0 rfl
   obtain ⟨g,rfl⟩:=own_ptr (h3.st.row 1 rfl) (by omega)
   have hrow:=own_cell (h3.st.row 1 rfl)
   have ec:=hrow.1 i (ptV Ni[i].b) (by rw [List.getElem?_map,List.getElem?_eq_getElem hlt]; rfl)
   unfold ptV at ec
   simp (disch:=first|omega|exact zF rfl|exact zG rfl|exact fun h=>h|(simp only[zA,zB,zC,zD,bytesW];omega)) only[go_sem,c30S3,c30L1,c30S6,r3,ec,hlt']
   refine ⟨by omega,?_⟩
   refine all_in cx h3 g2 (List.getElem?_eq_getElem hlt) (by omega) ?_
   intro w5 t5 N5 C5 h5 g5 e5 l5 _
   simp (disch:=first|omega|exact zF rfl|exact zG rfl|exact fun h=>h|(simp only[zA,zB,zC,zD,bytesW];omega)) only[go_sem,c30S3,c30S4,c30L1,c30S6]
   have lr:N5.length=(roundW P (objsW accO) (Ni.map Nd.sp) Ni[i].sp).length:=by have:=congrArg List.length e5; simpa using this
   obtain ⟨t,ht,_⟩:=roundW_out P (objsW accO) (Ni.map Nd.sp) Ni[i].sp
   have lr2:Ni.length≤N5.length:=by rw [lr,ht,List.length_append,lens]; omega
   refine ⟨⟨by omega,by omega⟩,(i+1,t5,N5,C5),rfl,⟨h5,g5,by simp only; omega,by simp only; omega,by simp only; omega,fun r hr=>hb r ?_⟩,by simp only; omega⟩
   simp only at hr
   rw [e5] at hr
   refine .go (by rw [lens]; exact hlt) (by rw [lens]; omega) ?_
   simpa using hr
 ·have hlt':¬ (i:Int)<Ni.length:=by omega
  simp (disch:=first|omega|exact zF rfl|exact zG rfl|exact fun h=>h|(simp only[zA,zB,zC,zD,bytesW];omega)) only[go_sem,c30S3,c30S4,c30L1,c30S6,c30S7,c30L1,r2,hlt']
  refine c30draw1 ?_
  simp (disch:=first|omega|exact zF rfl|exact zG rfl|exact fun h=>h|(simp only[zA,zB,zC,zD,bytesW];omega)) only[go_sem,c30S3,c30S4,c30L1,c30S6,c30S7,c30D1,r2]
  refine ⟨_,Ni,Ci,Ni.map Nd.sp,⟨h2.st.drew,h2.nd⟩,hb _ (.last (by rw [lens]; omega)),rfl,by rw [lens]; omega,by rw [lens],fun _ n hn=>?_⟩
  obtain ⟨j,hj,rfl⟩:=List.mem_iff_getElem.1 hn
  obtain ⟨a1,a2,_⟩:=g2 j _ (List.getElem?_eq_getElem hj)
  exact ⟨a1,a2 (by omega)⟩
open Go Go.Ann Go.RowKit
section
variable {W0 w:World} {F:Nat→Prop} {L:List Res} {I:List Inv} {g n c:Nat} {X:List Value} {fv:Value} {key:Value→Int}
abbrev RowP(g n c:Nat)(X:List Value):Res:=.row (.slice (some ⟨g,0,none⟩) n c) 65 1 n X
def CmpOk(W0:World)(F:Nat→Prop)(L:List Res)(I:List Inv)(g n c:Nat)(fv:Value)(key:Value→Int)(X:List Value):Prop :=
 ∀ w' X',St W0 w' F (RowP g n c X'::L) I→∀ u∈X,∀ v∈X,callW Tryz.prog fv [u,v] w' fun r w''=>∃ z,r=.int .i64 z∧(z<0↔key u<key v)∧Below w'.heap.size w' w''
def PtrV(X:List Value):Prop:=∀ u∈X,∃ b,u=ptV b
theorem swap_mid{α:Type}(A B:List α)(x y:α):((A++y::x::B).set (A.length+1) y).set A.length x=A++x::y::B:=by
 rw [List.set_append_right _ _ (by omega),List.set_append_right _ _ (by omega)]
 simp
theorem own_lt{w:World}{B0 e sz n m c g:Nat}{xs:List Value}(h:w.ownsRow B0 e sz (.slice (some ⟨g,0,none⟩) n c) m xs):B0≤g∧g<w.heap.size:=World.ownsRow.lt h g rfl
theorem isort_ok(h:St W0 w F (RowP g n c X::L) I)(hc:CmpOk W0 F L I g n c fv key X)(hX:PtrV X)(hy:noYV (some fv))(hn:X.length=n)(hn2:n≤100000){lo hi:Nat}(h1:lo≤hi)(h2:hi≤n) :
  Ret Tryz.prog 113 [.slice (some ⟨g,0,none⟩) n c,.int .i64 lo,.int .i64 hi,fv] w fun _ w'=>∃ M,St W0 w' F (RowP g n c (X.take lo++(M++X.drop hi))::L) I∧M.Perm ((X.take hi).drop lo)∧Ordd key M:=by
 refine ent113 _ _ _ _ _ _ ?_
 simp (disch:=first|omega|exact zF rfl|exact zG rfl|exact fun h=>h|(simp only[zA,zB,zC,zD,bytesW];omega)) only[go_sem,c113S2,c113L0,c113S3]
 refine ⟨⟨by omega,by omega⟩,?_⟩
 have hlo:lo<hi∨lo=hi:=by omega
 rcases hlo with hlo | rfl
 ·have hst:(X.take (lo+1)).drop lo=[X[lo]'(by omega)]:=by
   rw [List.take_succ_eq_append_getElem (by omega),List.drop_append_of_le_length (by rw [List.length_take]; omega),List.drop_of_length_le (by rw [List.length_take]; omega)]
   rfl
  have hX0:X=X.take lo++([X[lo]'(by omega)]++X.drop (lo+1)):=by
   conv=>lhs; rw [← List.take_append_drop lo X,List.drop_eq_getElem_cons (by omega)]
   rfl
  refine W_loopU (fun z:Nat × List Value=>[(8,.int .i64 z.1)]) (fun z w'=>St W0 w' F (RowP g n c (X.take lo++(z.2++X.drop z.1))::L) I∧lo<z.1∧z.1≤hi∧z.2.Perm ((X.take z.1).drop lo)∧Ordd key z.2) (fun z=>hi - z.1) (lo+1,[X[lo]'(by omega)]) rfl ⟨by simp only; rw [← hX0]; exact h,by simp only; omega,by simp only; omega,by simp only; rw [hst],by simp [Ordd]⟩ ?_
  rintro ⟨i,M⟩ w2 ⟨s2,hi1,hi2,hp2,ho2⟩
  simp only at s2 hi1 hi2 hp2 ho2
  have hMl:M.length=i - lo:=by
   rw [hp2.length_eq,List.length_drop,List.length_take]; omega
  by_cases hlt:i<hi
  ·have hlt':(i:Int)<hi:=by omega
   have hdr:X.drop i=X[i]'(by omega)::X.drop (i+1):=List.drop_eq_getElem_cons (by omega)
   have hxm:X[i]'(by omega)∈X:=List.getElem_mem _
   have hMm:∀ y∈M,y∈X:=fun y hy=>List.mem_of_mem_take (List.mem_of_mem_drop (hp2.mem_iff.1 hy))
   have htl:(X.take lo).length=lo:=by rw [List.length_take]; omega
   have hpi:(X.take (i+1)).drop lo=(X.take i).drop lo++[X[i]'(by omega)]:=by
    rw [List.take_succ_eq_append_getElem (by omega),List.drop_append_of_le_length (by rw [List.length_take]; omega)]
   rw [hdr] at s2
   generalize X[i]'(by omega)=x at s2 hxm hpi
   simp (disch:=first|omega|exact zF rfl|exact zG rfl|exact fun h=>h|(simp only[zA,zB,zC,zD,bytesW];omega)) only[go_sem,c113S2,c113L1,c113L1,hlt']
   refine W_loopU (fun z:Nat × List Value × List Value=>[(9,.int .i64 z.1)]) (fun z w'=>St W0 w' F (RowP g n c (X.take lo++(z.2.1++(x::(z.2.2++X.drop (i+1)))))::L) I∧z.1=lo+z.2.1.length∧z.2.1++z.2.2=M∧∀ y∈z.2.2,key x≤key y) (fun z=>z.1) (i,M,[]) rfl ⟨by simpa using s2,by simp only; omega,by simp,fun y hy=>by cases hy⟩ ?_
   rintro ⟨j,M1,M2⟩ w3 ⟨s3,hj,hM,hle⟩
   simp only at s3 hj hM hle
   have done:∀ w',St W0 w' F (RowP g n c (X.take lo++(M1++(x::(M2++X.drop (i+1)))))::L) I→(∀ y∈M1,key y≤key x)→St W0 w' F (RowP g n c (X.take lo++((M1++x::M2)++X.drop (i+1)))::L) I∧lo<i+1∧i+1≤hi∧(M1++x::M2).Perm ((X.take (i+1)).drop lo)∧Ordd key (M1++x::M2):=fun w' sd hl1=>by
    obtain ⟨q1,q2⟩:=put_in (u:=x) (by rw [hM]; exact ho2) hl1 hle
    refine ⟨by simpa using sd,by omega,by omega,?_,q2⟩
    rw [hpi]
    refine q1.trans ?_
    rw [hM]
    exact (hp2.cons x).trans (List.perm_append_singleton x _).symm
   rcases List.eq_nil_or_concat M1 with rfl | ⟨M1',y,rfl⟩
   ·have hj':¬ (j:Int) > lo:=by simp only [List.length_nil] at hj; omega
    simp (disch:=first|omega|exact zF rfl|exact zG rfl|exact fun h=>h|(simp only[zA,zB,zC,zD,bytesW];omega)) only[go_sem,c113L0,c113L1,c113L0]
    refine c113draw0 (Chg (fun _=>False) _) (Chg.refl _ _) ?_
    simp (disch:=first|omega|exact zF rfl|exact zG rfl|exact fun h=>h|(simp only[zA,zB,zC,zD,bytesW];omega)) only[go_sem,c113L0,c113S3,c113L1,c113D0,hj']
    have s4:=s3.drew
    generalize w3.drew=w4 at s4 ⊢
    exact ⟨⟨by omega,by omega⟩,(i+1,[]++x::M2),rfl,done _ s4 (fun y hy=>by cases hy),by simp only; omega⟩
   ·rw [List.concat_eq_append] at *
    have hj2:j=lo+M1'.length+1:=by rw [hj,List.length_append,List.length_singleton]; omega
    obtain ⟨j',rfl⟩:∃ j',j=j'+1:=⟨lo+M1'.length,hj2⟩
    have hym:y∈X:=hMm y (by rw [← hM]; simp)
    have hj3:j'+1<n:=by
     have:=congrArg List.length hM
     rw [hMl] at this
     simp only [List.length_append,List.length_singleton] at this
     omega
    have s4:=s3.drew
    have eY:X.take lo++(M1'++[y]++(x::(M2++X.drop (i+1))))=(X.take lo++M1')++y::x::(M2++X.drop (i+1)):=by simp
    have hAl:(X.take lo++M1').length=j':=by rw [List.length_append,htl]; omega
    rw [eY] at s3 s4
    obtain ⟨by_,rfl⟩:=hX y hym
    obtain ⟨bx,rfl⟩:=hX x hxm
    have c3:=(own_cell (s3.row 0 rfl)).1
    have c4:=(own_cell (s4.row 0 rfl)).1
    have y3:=c3 j' (ptV by_) (by rw [List.getElem?_append_right (by omega),hAl]; simp)
    have x3:=c3 (j'+1) (ptV bx) (by rw [List.getElem?_append_right (by omega),hAl]; simp)
    have y4:=c4 j' (ptV by_) (by rw [List.getElem?_append_right (by omega),hAl]; simp)
    have x4:=c4 (j'+1) (ptV bx) (by rw [List.getElem?_append_right (by omega),hAl]; simp)
    have lg:g<w3.heap.size:=(own_lt (s3.row 0 rfl)).2
    have hj':(lo:Int)<(j':Int)+1:=by omega
    have t1:((j':Int)+1).toNat=j'+1:=by omega
    have t2:((j':Int)+1 - 1).toNat=j':=by omega
    have nj:j'+1≠j':=by omega
    unfold ptV at y3 x3 y4 x4
    simp (disch:=first|omega|exact zF rfl|exact zG rfl|exact fun h=>h|(simp only[zA,zB,zC,zD,bytesW];omega)) only[go_sem,c113L0,c113L1,c113L0]
    refine c113draw0 (Chg (fun _=>False) _) (Chg.refl _ _) ?_
    simp (disch:=first|omega|exact zF rfl|exact zG rfl|exact fun h=>h|(simp only[zA,zB,zC,zD,bytesW];omega)) only[go_sem,c113L0,c113S3,c113L1,c113D0,hj',t1,t2,y3,x3,y4,x4]
    refine ⟨⟨by omega,by omega⟩,⟨by omega,by omega⟩,⟨by omega,by omega⟩,?_⟩
    refine ⟨hy,callW_mono (hc _ _ s4 _ hxm _ hym) ?_⟩
    rintro _ w5 ⟨z,rfl,hz,b5⟩
    have s5:=s4.call b5
    simp (disch:=first|omega|exact zF rfl|exact zG rfl|exact fun h=>h|(simp only[zA,zB,zC,zD,bytesW];omega)) only[go_sem,c113L0,c113S3,c113L1,c113D0]
    refine ⟨fun hz0=>?_,fun hz0=>?_⟩
    ·have hlt3:=hz.1 hz0
     have s6:=s5.drew
     have c5:=(own_cell (s5.row 0 rfl)).1
     have c6:=(own_cell (s6.row 0 rfl)).1
     have f6:=(own_cell (s5.row 0 rfl)).2
     have y5:=c5 j' (ptV by_) (by rw [List.getElem?_append_right (by omega),hAl]; simp)
     have x5:=c5 (j'+1) (ptV bx) (by rw [List.getElem?_append_right (by omega),hAl]; simp)
     have y6:=c6 j' (ptV by_) (by rw [List.getElem?_append_right (by omega),hAl]; simp)
     have x6:=c6 (j'+1) (ptV bx) (by rw [List.getElem?_append_right (by omega),hAl]; simp)
     have f6a:=f6 j'
     have f6b:=f6 (j'+1)
     have lg5:g<w5.heap.size:=(own_lt (s5.row 0 rfl)).2
     unfold ptV at y5 x5 y6 x6
     have s7:=((s5.put 0 rfl (j'+1) (ptV by_)).put 0 rfl j' (ptV bx)).drew
     simp only [List.set_cons_zero] at s7
     have esw:=swap_mid (X.take lo++M1') (M2++X.drop (i+1)) (ptV bx) (ptV by_)
     rw [hAl] at esw
     rw [esw] at s7
     simp (disch:=first|omega|exact zF rfl|exact zG rfl|exact fun h=>h|(simp only[zA,zB,zC,zD,bytesW];omega)) only[go_sem,c113S2,c113L0,c113S3,c113L1]
     refine c113draw1 (Chg (fun _=>False) _) (Chg.refl _ _) ?_
     simp (disch:=first|omega|exact zF rfl|exact zG rfl|exact fun h=>h|(simp only[zA,zB,zC,zD,bytesW];omega)) only[go_sem,c113S2,c113L0,c113S3,c113L1,c113D1,t1,t2,y5,x5,y6,x6,f6a,f6b]
     refine ⟨⟨by omega,by omega⟩,⟨by omega,by omega⟩,⟨by omega,by omega⟩,⟨by omega,by omega⟩,⟨by omega,by omega⟩,⟨by omega,by omega⟩,⟨by omega,by omega⟩,(j',M1',ptV by_::M2),?_,⟨?_,by simp only; omega,by rw [← hM]; simp,fun u hu=>?_⟩,by simp only; omega⟩
     ·simp only
      have:(j':Int)+1 - 1=j':=by omega
      rw [this]
     ·simp only
      exact st_recast s7 (by simp [RowP])
     ·rcases List.mem_cons.1 hu with rfl | hu
      ·exact Int.le_of_lt hlt3
      ·exact hle u hu
    ·have hge:key (ptV by_)≤key (ptV bx):=by
      have:¬ key (ptV bx)<key (ptV by_):=fun h=>by have:=hz.2 h; omega
      omega
     rw [← eY] at s5
     refine ⟨⟨by omega,by omega⟩,(i+1,(M1'++[ptV by_])++ptV bx::M2),rfl,done _ s5 fun u hu=>?_,by simp only; omega⟩
     have:Ordd key (M1'++[ptV by_]):=by rw [← hM] at ho2; exact ho2.left
     rcases List.mem_append.1 hu with hu | hu
     ·have:=this.mid u hu (ptV by_) (by simp)
      omega
     ·rw [List.mem_singleton] at hu
      subst hu
      exact hge
  ·have hlt':¬ (i:Int)<hi:=by omega
   obtain rfl:i=hi:=by omega
   simp (disch:=first|omega|exact zF rfl|exact zG rfl|exact fun h=>h|(simp only[zA,zB,zC,zD,bytesW];omega)) only[go_sem,c113S2,c113L0,c113S3,c113L1,c113L1,hlt']
   exact ⟨M,s2,hp2,ho2⟩
 ·have hlt':¬ ((lo:Int)+1<lo):=by omega
  refine W_loopU (fun z:Unit=>[(8,.int .i64 (lo+1))]) (fun z w'=>w'=w) (fun z=>0) () rfl rfl ?_
  rintro _ _ rfl
  simp (disch:=first|omega|exact zF rfl|exact zG rfl|exact fun h=>h|(simp only[zA,zB,zC,zD,bytesW];omega)) only[go_sem,c113S2,c113L0,c113S3,c113L1,c113L1,hlt']
  refine ⟨[],by simpa using h,?_,List.Pairwise.nil⟩
  rw [List.drop_of_length_le (by rw [List.length_take]; omega)]
end
open Go Go.Ann Go.RowKit
theorem set_mid{α:Type}(A B:List α)(x y:α):(A++x::B).set A.length y=A++y::B:=by
 rw [List.set_append_right _ _ (by omega)]
 simp
theorem get_mid{α:Type}(A B:List α)(x:α){i:Nat}(h:A.length=i):(A++x::B)[i]?=some x:=by
 rw [List.getElem?_append_right (by omega),h]
 simp
def swapY{α:Type}(A U M V D:List α)(i:Nat):List α:=A++((V.take i++U.drop i)++(M++((U.take i++V.drop i)++D)))
theorem swapY_zero{α:Type}(A U M V D:List α):swapY A U M V D 0=A++(U++(M++(V++D))):=by simp [swapY]
theorem swapY_all{α:Type}(A U M V D:List α)(h:U.length=V.length):swapY A U M V D U.length=A++(V++(M++(U++D))):=by
 unfold swapY
 rw [List.take_of_length_le (by omega),List.take_of_length_le (by omega),List.drop_of_length_le (by omega),List.drop_of_length_le (by omega)]
 simp
theorem swapY_one{α:Type}(A U M V D:List α){i:Nat}(h:U.length=V.length)(hi:i<U.length) :
  swapY A U M V D i=(A++V.take i)++U[i]::(U.drop (i+1)++(M++((U.take i++V.drop i)++D))) ∧
  (A++V.take i)++(V[i]'(by omega))::(U.drop (i+1)++(M++((U.take i++V.drop i)++D)))=(A++(V.take (i+1)++(U.drop (i+1)++(M++U.take i))))++(V[i]'(by omega))::(V.drop (i+1)++D) ∧
  (A++(V.take (i+1)++(U.drop (i+1)++(M++U.take i))))++U[i]::(V.drop (i+1)++D)=swapY A U M V D (i+1) ∧
  swapY A U M V D i=(A++(V.take i++(U.drop i++(M++U.take i))))++(V[i]'(by omega))::(V.drop (i+1)++D):=by
 have e1:U.drop i=U[i]::U.drop (i+1):=List.drop_eq_getElem_cons hi
 have e2:V.drop i=(V[i]'(by omega))::V.drop (i+1):=List.drop_eq_getElem_cons (by omega)
 have e3:V.take (i+1)=V.take i++[V[i]'(by omega)]:=List.take_succ_eq_append_getElem (by omega)
 have e4:U.take (i+1)=U.take i++[U[i]]:=List.take_succ_eq_append_getElem hi
 unfold swapY
 rw [e1,e2,e3,e4]
 simp only [List.append_assoc,List.cons_append,List.nil_append,and_self]
section
variable {W0 w:World} {F:Nat→Prop} {L:List Res} {I:List Inv} {g n c:Nat} {X:List Value} {fv:Value} {key:Value→Int}
theorem swapr_ok{A U M V D:List Value}(h:St W0 w F (RowP g n c (A++(U++(M++(V++D))))::L) I)(hX:PtrV (A++(U++(M++(V++D)))))(hn:(A++(U++(M++(V++D)))).length=n)(hn2:n≤100000)(huv:U.length=V.length){a b k:Nat}(ha:a=A.length)(hb:b=A.length+U.length+M.length)(hk:k=U.length) :
  Ret Tryz.prog 146 [.slice (some ⟨g,0,none⟩) n c,.int .i64 a,.int .i64 b,.int .i64 k,fv] w fun _ w'=>St W0 w' F (RowP g n c (A++(V++(M++(U++D))))::L) I:=by
 subst ha hb hk
 have hnn:A.length+U.length+M.length+V.length+D.length=n:=by rw [← hn]; simp only [List.length_append]; omega
 refine ent146 _ _ _ _ _ _ _ ?_
 simp (disch:=first|omega|exact zF rfl|exact zG rfl|exact fun h=>h|(simp only[zA,zB,zC,zD,bytesW];omega)) only[go_sem]
 refine W_loopU (fun i:Nat=>[(10,.int .i64 i)]) (fun i w'=>St W0 w' F (RowP g n c (swapY A U M V D i)::L) I∧i≤U.length) (fun i=>U.length - i) 0 rfl ⟨by rw [swapY_zero]; exact h,Nat.zero_le _⟩ ?_
 rintro i w2 ⟨s2,hi⟩
 by_cases hlt:i<U.length
 ·have hlt':(i:Int)<U.length:=by omega
  obtain ⟨f1,f2,f3,f4⟩:=swapY_one A U M V D huv hlt
  have hum:U[i]∈A++(U++(M++(V++D))):=by simp [List.getElem_mem]
  have hvm:V[i]'(by omega)∈A++(U++(M++(V++D))):=by simp [List.getElem_mem]
  generalize U[i]=u at f1 f2 f3 f4 hum
  generalize V[i]'(by omega)=v at f1 f2 f3 f4 hvm
  obtain ⟨bu,rfl⟩:=hX u hum
  obtain ⟨bv,rfl⟩:=hX v hvm
  have l1:(A++V.take i).length=A.length+i:=by rw [List.length_append,List.length_take]; omega
  have l2:(A++(V.take (i+1)++(U.drop (i+1)++(M++U.take i)))).length=A.length+U.length+M.length+i:=by
   simp only [List.length_append,List.length_take,List.length_drop]; omega
  have l3:(A++(V.take i++(U.drop i++(M++U.take i)))).length=A.length+U.length+M.length+i:=by
   simp only [List.length_append,List.length_take,List.length_drop]; omega
  have s3:=s2.drew
  have c2:=(own_cell (s2.row 0 rfl)).1
  have f0:=(own_cell (s2.row 0 rfl)).2
  have c3:=(own_cell (s3.row 0 rfl)).1
  have u2:=c2 (A.length+i) (ptV bu) (by rw [f1]; exact get_mid _ _ _ l1)
  have v2:=c2 (A.length+U.length+M.length+i) (ptV bv) (by rw [f4]; exact get_mid _ _ _ l3)
  have u3:=c3 (A.length+i) (ptV bu) (by rw [f1]; exact get_mid _ _ _ l1)
  have v3:=c3 (A.length+U.length+M.length+i) (ptV bv) (by rw [f4]; exact get_mid _ _ _ l3)
  have fa:=f0 (A.length+i)
  have fb:=f0 (A.length+U.length+M.length+i)
  have lg:g<w2.heap.size:=(own_lt (s2.row 0 rfl)).2
  have t1:((A.length:Int)+i).toNat=A.length+i:=by omega
  have t2:((A.length:Int)+U.length+M.length+i).toNat=A.length+U.length+M.length+i:=by omega
  have s4:=((s2.put 0 rfl (A.length+i) (ptV bv)).put 0 rfl (A.length+U.length+M.length+i) (ptV bu)).drew
  simp only [List.set_cons_zero] at s4
  have e1:=set_mid (A++V.take i) (U.drop (i+1)++(M++((U.take i++V.drop i)++D))) (ptV bu) (ptV bv)
  have e2:=set_mid (A++(V.take (i+1)++(U.drop (i+1)++(M++U.take i)))) (V.drop (i+1)++D) (ptV bv) (ptV bu)
  rw [l1] at e1
  rw [l2] at e2
  rw [f1,e1,f2,e2,f3] at s4
  unfold ptV at u2 v2 u3 v3
  simp (disch:=first|omega|exact zF rfl|exact zG rfl|exact fun h=>h|(simp only[zA,zB,zC,zD,bytesW];omega)) only[go_sem,c146L0,c146L0,hlt']
  refine c146draw0 (Chg (fun _=>False) _) (Chg.refl _ _) ?_
  simp (disch:=first|omega|exact zF rfl|exact zG rfl|exact fun h=>h|(simp only[zA,zB,zC,zD,bytesW];omega)) only[go_sem,c146L0,c146D0,t1,t2,u2,v2,u3,v3,fa,fb]
  exact ⟨⟨by omega,by omega⟩,⟨by omega,by omega⟩,⟨by omega,by omega⟩,⟨by omega,by omega⟩,⟨by omega,by omega⟩,⟨by omega,by omega⟩,⟨by omega,by omega⟩,⟨by omega,by omega⟩,⟨by omega,by omega⟩,i+1,rfl,⟨s4,by omega⟩,by omega⟩
 ·have hlt':¬ (i:Int)<U.length:=by omega
  obtain rfl:i=U.length:=by omega
  simp (disch:=first|omega|exact zF rfl|exact zG rfl|exact fun h=>h|(simp only[zA,zB,zC,zD,bytesW];omega)) only[go_sem,c146L0,c146L0,hlt']
  rw [← swapY_all A U M V D huv]
  exact s2
theorem rot_ok{A U V D:List Value}(h:St W0 w F (RowP g n c (A++(U++(V++D)))::L) I)(hX:PtrV (A++(U++(V++D))))(hn:(A++(U++(V++D))).length=n)(hn2:n≤100000)(hu:0<U.length)(hv:0<V.length){a m b:Nat}(ha:a=A.length)(hm:m=A.length+U.length)(hb:b=A.length+U.length+V.length) :
  Ret Tryz.prog 138 [.slice (some ⟨g,0,none⟩) n c,.int .i64 a,.int .i64 m,.int .i64 b,fv] w fun _ w'=>St W0 w' F (RowP g n c (A++(V++(U++D)))::L) I:=by
 subst ha hm hb
 have hnn:A.length+U.length+V.length+D.length=n:=by rw [← hn]; simp only [List.length_append]; omega
 refine ent138 _ _ _ _ _ _ _ ?_
 simp (disch:=first|omega|exact zF rfl|exact zG rfl|exact fun h=>h|(simp only[zA,zB,zC,zD,bytesW];omega)) only[go_sem]
 refine ⟨⟨by omega,by omega⟩,⟨by omega,by omega⟩,?_⟩
 have e1:((A.length:Int)+U.length - A.length)=U.length:=by omega
 have e2:((A.length:Int)+U.length+V.length - (A.length+U.length))=V.length:=by omega
 rw [e1,e2]
 refine W_loopU (fun z:List Value × List Value × List Value × List Value=>[(10,.int .i64 z.2.1.length),(11,.int .i64 z.2.2.1.length)]) (fun z w'=>St W0 w' F (RowP g n c (z.1++(z.2.1++(z.2.2.1++z.2.2.2)))::L) I∧(z.1++(z.2.1++(z.2.2.1++z.2.2.2))).Perm (A++(U++(V++D)))∧z.1.length+z.2.1.length=A.length+U.length∧0<z.2.1.length∧0<z.2.2.1.length∧z.1++(z.2.2.1++(z.2.1++z.2.2.2))=A++(V++(U++D))) (fun z=>z.2.1.length+z.2.2.1.length) (A,U,V,D) rfl ⟨h,List.Perm.refl _,rfl,hu,hv,rfl⟩ ?_
 rintro ⟨A',U',V',D'⟩ w2 ⟨s2,hp,hl,hu2,hv2,ht⟩
 simp only at s2 hp hl hu2 hv2 ht
 have hX2:PtrV (A'++(U'++(V'++D'))):=fun u hu=>hX u (hp.mem_iff.1 hu)
 have hn3:(A'++(U'++(V'++D'))).length=n:=by rw [hp.length_eq,hn]
 have hn4:A'.length+U'.length+V'.length+D'.length=n:=by rw [← hn3]; simp only [List.length_append]; omega
 have em:((A.length:Int)+U.length) - U'.length=A'.length:=by omega
 rcases Nat.lt_trichotomy U'.length V'.length with hlt | heq | hgt
 ·have h1:¬ (U'.length:Int)=V'.length:=by omega
  have h2:¬ (V'.length:Int)<U'.length:=by omega
  simp (disch:=first|omega|exact zF rfl|exact zG rfl|exact fun h=>h|(simp only[zA,zB,zC,zD,bytesW];omega)) only[go_sem,c138L0,c138L0,h1,h2,em]
  have ev:V'=V'.take (V'.length - U'.length)++V'.drop (V'.length - U'.length):=(List.take_append_drop _ _).symm
  have l1:(V'.take (V'.length - U'.length)).length=V'.length - U'.length:=by rw [List.length_take]; omega
  have l2:(V'.drop (V'.length - U'.length)).length=U'.length:=by rw [List.length_drop]; omega
  have eb:((A.length:Int)+U.length+V'.length - U'.length)=((A'.length+U'.length+(V'.length - U'.length):Nat):Int):=by omega
  rw [eb]
  generalize V'.take (V'.length - U'.length)=V1 at ev l1
  generalize V'.drop (V'.length - U'.length)=V2 at ev l2
  have eX:A'++(U'++(V'++D'))=A'++(U'++(V1++(V2++D'))):=by rw [ev]; simp
  refine ⟨⟨by omega,by omega⟩,⟨by omega,by omega⟩,⟨by omega,by omega⟩,Ret.mono (swapr_ok (A:=A') (U:=U') (M:=V1) (V:=V2) (D:=D') (by rw [← eX]; exact s2) (by rw [← eX]; exact hX2) (by rw [← eX]; exact hn3) hn2 l2.symm rfl (by omega) rfl) ?_⟩
  intro _ w3 s3
  have e5:(V'.length:Int) - U'.length=V1.length:=by omega
  simp (disch:=first|omega|exact zF rfl|exact zG rfl|exact fun h=>h|(simp only[zA,zB,zC,zD,bytesW];omega)) only[go_sem,c138L0]
  refine ⟨⟨by omega,by omega⟩,(A',V2,V1,U'++D'),?_,⟨s3,?_,by simp only; omega,by simp only; omega,by simp only; omega,?_⟩,by simp only; omega⟩
  ·simp only
   rw [e5,l2]
  ·simp only
   refine List.Perm.trans ?_ hp
   rw [eX]
   refine List.Perm.append_left A' ?_
   have q:((V2++V1)++U'++D').Perm (U'++(V1++V2)++D'):=(List.perm_append_comm.trans (List.Perm.append_left U' List.perm_append_comm)).append_right D'
   simpa using q
  ·simp only
   rw [← ht,ev]
   simp
 ·have h1:(U'.length:Int)=V'.length:=by omega
  simp (disch:=first|omega|exact zF rfl|exact zG rfl|exact fun h=>h|(simp only[zA,zB,zC,zD,bytesW];omega)) only[go_sem,c138L0,c138S3,c138L0,h1,em]
  have eb:((A.length:Int)+U.length - V'.length)=(A'.length:Nat):=by omega
  have ec:((A.length:Int)+U.length)=((A'.length+U'.length:Nat):Int):=by omega
  rw [eb,ec]
  refine ⟨⟨by omega,by omega⟩,Ret.mono (swapr_ok (A:=A') (U:=U') (M:=[]) (V:=V') (D:=D') s2 hX2 hn3 hn2 heq rfl (by simp) heq.symm) ?_⟩
  intro _ w3 s3
  simp (disch:=first|omega|exact zF rfl|exact zG rfl|exact fun h=>h|(simp only[zA,zB,zC,zD,bytesW];omega)) only[go_sem,c138L0,c138S3]
  rw [List.nil_append,ht] at s3
  exact s3
 ·have h1:¬ (U'.length:Int)=V'.length:=by omega
  have h2:(V'.length:Int)<U'.length:=by omega
  simp (disch:=first|omega|exact zF rfl|exact zG rfl|exact fun h=>h|(simp only[zA,zB,zC,zD,bytesW];omega)) only[go_sem,c138L0,c138L0,h1,h2,em]
  have eu:U'=U'.take V'.length++U'.drop V'.length:=(List.take_append_drop _ _).symm
  have l1:(U'.take V'.length).length=V'.length:=by rw [List.length_take]; omega
  have l2:(U'.drop V'.length).length=U'.length - V'.length:=List.length_drop
  generalize U'.take V'.length=U1 at eu l1
  generalize U'.drop V'.length=U2 at eu l2
  have ec:((A.length:Int)+U.length)=((A'.length+U1.length+U2.length:Nat):Int):=by omega
  have eX:A'++(U'++(V'++D'))=A'++(U1++(U2++(V'++D'))):=by rw [eu]; simp
  rw [ec]
  refine ⟨⟨by omega,by omega⟩,Ret.mono (swapr_ok (A:=A') (U:=U1) (M:=U2) (V:=V') (D:=D') (by rw [← eX]; exact s2) (by rw [← eX]; exact hX2) (by rw [← eX]; exact hn3) hn2 l1 rfl rfl l1.symm) ?_⟩
  intro _ w3 s3
  have e5:(U'.length:Int) - V'.length=U2.length:=by omega
  simp (disch:=first|omega|exact zF rfl|exact zG rfl|exact fun h=>h|(simp only[zA,zB,zC,zD,bytesW];omega)) only[go_sem,c138L0]
  refine ⟨⟨by omega,by omega⟩,(A'++V',U2,U1,D'),?_,⟨by simpa [RowP] using s3,?_,by simp only [List.length_append]; omega,by simp only; omega,by simp only; omega,?_⟩,by simp only; omega⟩
  ·simp only
   rw [e5,l1]
  ·simp only
   refine List.Perm.trans ?_ hp
   rw [eX,List.append_assoc]
   refine List.Perm.append_left A' ?_
   have q:(V'++(U2++U1)++D').Perm ((U1++U2)++V'++D'):=(List.perm_append_comm.trans (List.perm_append_comm.append_right V')).append_right D'
   simpa using q
  ·simp only
   rw [← ht,eu]
   simp
end
open Go Go.Ann Go.RowKit
theorem swap_mid2{α:Type}(A B:List α)(x y:α):((A++y::x::B).set A.length x).set (A.length+1) y=A++x::y::B:=by
 rw [List.set_append_right _ _ (by omega),List.set_append_right _ _ (by omega)]
 simp
theorem half_wrap{i j:Nat}(h:i+j<1000000000):IntKind.u64.wrap ((i:Int)+j) / 2 ^ min 1 64=((((i+j) / 2:Nat)):Int):=by
 rw [wrap_u64,show (2:Int) ^ min 1 64=2 by decide]
 have e:((i:Int)+j) % 18446744073709551616 / 2=(((i+j) / 2:Nat):Int):=by omega
 exact e
section
variable {W0 w:World} {F:Nat→Prop} {L:List Res} {I:List Inv} {g n c:Nat} {X:List Value} {fv:Value} {key:Value→Int}
def kx(key:Value→Int)(X:List Value)(i:Nat):Int:=key (X.getD i undef)
theorem row_at(h:St W0 w F (RowP g n c X::L) I)(hX:PtrV X){i:Nat}(hi:i<X.length):∃ b,X.getD i undef=ptV b∧w.cell? ⟨g,i,none⟩=some (.pointer (some ⟨b,0,none⟩))∧X.getD i undef∈X:=by
 have e:X.getD i undef=X[i]:=by rw [List.getD_eq_getElem?_getD,List.getElem?_eq_getElem hi]; rfl
 obtain ⟨b,hb⟩:=hX X[i] (List.getElem_mem hi)
 refine ⟨b,by rw [e,hb],?_,by rw [e]; exact List.getElem_mem hi⟩
 have:=(own_cell (h.row 0 rfl)).1 i X[i] (List.getElem?_eq_getElem hi)
 rw [this,hb]; rfl
theorem srchA{X0:List Value}(h:St W0 w F (RowP g n c X::L) I)(hc:CmpOk W0 F L I g n c fv key X0)(hm:∀ u∈X,u∈X0)(hX:PtrV X)(hy:noYV (some fv))(hn:X.length=n)(hn2:n≤100000){a i0 j0:Nat}(ha:a<n)(hij:i0≤j0)(hj:j0≤n)
  (hs:∀ i j,i0≤i→i≤j→j<j0→kx key X i≤kx key X j) {Q:Post}
  (hQ:∀ w' i,St W0 w' F (RowP g n c X::L) I→i0≤i→i≤j0→(∀ q,i0≤q→q<i→kx key X q<kx key X a)→(∀ q,i≤q→q<j0→kx key X a≤kx key X q)→Q .normal [(0,.slice (some ⟨g,0,none⟩) n c),(1,.int .i64 a),(10,.int .i64 i)] w') :
  W Tryz.prog (.loop (sg c114L0)) [(0,.slice (some ⟨g,0,none⟩) n c),(1,.int .i64 a),(4,fv),(10,.int .i64 i0),(11,.int .i64 j0)] w (blockQ 0 Q):=by
 refine W_loopU (fun z:Nat × Nat=>[(10,.int .i64 z.1),(11,.int .i64 z.2)]) (fun z w'=>St W0 w' F (RowP g n c X::L) I∧i0≤z.1∧z.1≤z.2∧z.2≤j0∧(∀ q,i0≤q→q<z.1→kx key X q<kx key X a)∧(∀ q,z.2≤q→q<j0→kx key X a≤kx key X q)) (fun z=>z.2 - z.1) (i0,j0) rfl ⟨h,Nat.le_refl _,hij,Nat.le_refl _,fun q h1 h2=>by simp only at h2; omega,fun q h1 h2=>by simp only at h1; omega⟩ ?_
 rintro ⟨i,j⟩ w2 ⟨s2,h1,h2,h3,h4,h5⟩
 simp only at s2 h1 h2 h3 h4 h5
 by_cases hlt:i<j
 ·have hlt':(i:Int)<j:=by omega
  have ew:=half_wrap (i:=i) (j:=j) (by omega)
  simp (disch:=first|omega|exact zF rfl|exact zG rfl|exact fun h=>h|(simp only[zA,zB,zC,zD,bytesW];omega)) only[go_sem,c114L0,c114L1,c114S5,c114S6,c114L2,c114L3,c114S11,c114S12,c114L4,c114S14,c114S15,c114S16,c114S17,c114S18,c114S19,c114L0,hlt']
  rw [ew]
  generalize hh:(i+j) / 2=q
  have s3:=s2.drew
  obtain ⟨bq,eq,cq,mq⟩:=row_at s2 hX (i:=q) (by omega)
  obtain ⟨ba,ea,ca,ma⟩:=row_at s2 hX (i:=a) (by omega)
  have cq3:=(World.cell?_drew w2 ⟨g,q,none⟩).trans cq
  have ca3:=(World.cell?_drew w2 ⟨g,a,none⟩).trans ca
  have lg:g<w2.heap.size:=(own_lt (s2.row 0 rfl)).2
  refine ⟨⟨by omega,by omega⟩,⟨by omega,by omega⟩,?_⟩
  refine c114draw0 (Chg (fun _=>False) _) (Chg.refl _ _) ?_
  simp (disch:=first|omega|exact zF rfl|exact zG rfl|exact fun h=>h|(simp only[zA,zB,zC,zD,bytesW];omega)) only[go_sem,c114L0,c114L1,c114S5,c114S6,c114L2,c114L3,c114S11,c114S12,c114L4,c114S14,c114S15,c114S16,c114S17,c114S18,c114S19,c114D0,cq,ca,cq3,ca3]
  rw [eq] at mq
  rw [ea] at ma
  have hqa:kx key X q=key (ptV bq)∧kx key X a=key (ptV ba):=by unfold kx; rw [eq,ea]; exact ⟨rfl,rfl⟩
  have hcc:=hc _ _ s3 _ (hm _ mq) _ (hm _ ma)
  unfold ptV at hcc
  refine ⟨⟨by omega,by omega⟩,⟨by omega,by omega⟩,hy,?_⟩
  refine callW_mono hcc ?_
  rintro _ w5 ⟨z,rfl,hz,b5⟩
  have s5:=s3.call b5
  simp (disch:=first|omega|exact zF rfl|exact zG rfl|exact fun h=>h|(simp only[zA,zB,zC,zD,bytesW];omega)) only[go_sem,c114S0,c114L0,c114L1,c114S5,c114S6,c114L2,c114L3,c114S11,c114S12,c114L4,c114S14,c114S15,c114S16,c114S17,c114S18,c114S19,c114D0]
  refine ⟨fun hz0=>?_,fun hz0=>?_⟩
  ·have hlt3:=hz.1 hz0
   refine ⟨⟨by omega,by omega⟩,(q+1,j),rfl,⟨s5,by simp only; omega,by simp only; omega,h3,fun r r1 r2=>?_,h5⟩,by simp only; omega⟩
   have:=hs r q r1 (by simp only at r2; omega) (by omega)
   rw [hqa.1] at this
   rw [hqa.2]
   exact Int.lt_of_le_of_lt this hlt3
  ·have hge:key (ptV ba)≤key (ptV bq):=Int.not_lt.1 fun h=>by have:=hz.2 h; omega
   refine ⟨(i,q),rfl,⟨s5,h1,by simp only; omega,by simp only; omega,h4,fun r r1 r2=>?_⟩,by simp only; omega⟩
   have:=hs q r (by omega) r1 r2
   rw [hqa.1] at this
   rw [hqa.2]
   exact Int.le_trans hge this
 ·have hlt':¬ (i:Int)<j:=by omega
  obtain rfl:i=j:=by omega
  simp (disch:=first|omega|exact zF rfl|exact zG rfl|exact fun h=>h|(simp only[zA,zB,zC,zD,bytesW];omega)) only[go_sem,c114S0,c114L0,c114L1,c114S5,c114S6,c114L2,c114L3,c114S11,c114S12,c114L4,c114S14,c114S15,c114S16,c114S17,c114S18,c114S19,c114L0,hlt']
  exact hQ _ _ s2 h1 h3 h4 h5
theorem srchB{X0:List Value}(h:St W0 w F (RowP g n c X::L) I)(hc:CmpOk W0 F L I g n c fv key X0)(hm:∀ u∈X,u∈X0)(hX:PtrV X)(hy:noYV (some fv))(hn:X.length=n)(hn2:n≤100000){a i0 j0:Nat}(ha:a<n)(hij:i0≤j0)(hj:j0≤n)
  (hs:∀ i j,i0≤i→i≤j→j<j0→kx key X i≤kx key X j) {Q:Post}
  (hQ:∀ w' i,St W0 w' F (RowP g n c X::L) I→i0≤i→i≤j0→(∀ q,i0≤q→q<i→kx key X q≤kx key X a)→(∀ q,i≤q→q<j0→kx key X a<kx key X q)→Q .normal [(0,.slice (some ⟨g,0,none⟩) n c),(2,.int .i64 a),(14,.int .i64 i)] w') :
  W Tryz.prog (.loop (sg c114L2)) [(0,.slice (some ⟨g,0,none⟩) n c),(2,.int .i64 a),(4,fv),(14,.int .i64 i0),(15,.int .i64 j0)] w (blockQ 4 Q):=by
 refine W_loopU (fun z:Nat × Nat=>[(14,.int .i64 z.1),(15,.int .i64 z.2)]) (fun z w'=>St W0 w' F (RowP g n c X::L) I∧i0≤z.1∧z.1≤z.2∧z.2≤j0∧(∀ q,i0≤q→q<z.1→kx key X q≤kx key X a)∧(∀ q,z.2≤q→q<j0→kx key X a<kx key X q)) (fun z=>z.2 - z.1) (i0,j0) rfl ⟨h,Nat.le_refl _,hij,Nat.le_refl _,fun q h1 h2=>by simp only at h2; omega,fun q h1 h2=>by simp only at h1; omega⟩ ?_
 rintro ⟨i,j⟩ w2 ⟨s2,h1,h2,h3,h4,h5⟩
 simp only at s2 h1 h2 h3 h4 h5
 by_cases hlt:i<j
 ·have hlt':(i:Int)<j:=by omega
  have ew:=half_wrap (i:=i) (j:=j) (by omega)
  simp (disch:=first|omega|exact zF rfl|exact zG rfl|exact fun h=>h|(simp only[zA,zB,zC,zD,bytesW];omega)) only[go_sem,c114S0,c114L0,c114L1,c114S5,c114L2,c114L3,c114S11,c114S12,c114L4,c114S14,c114S15,c114S16,c114S17,c114S18,c114S19,c114L2,hlt']
  rw [ew]
  generalize hh:(i+j) / 2=q
  have s3:=s2.drew
  obtain ⟨bq,eq,cq,mq⟩:=row_at s2 hX (i:=q) (by omega)
  obtain ⟨ba,ea,ca,ma⟩:=row_at s2 hX (i:=a) (by omega)
  have cq3:=(World.cell?_drew w2 ⟨g,q,none⟩).trans cq
  have ca3:=(World.cell?_drew w2 ⟨g,a,none⟩).trans ca
  have lg:g<w2.heap.size:=(own_lt (s2.row 0 rfl)).2
  refine ⟨⟨by omega,by omega⟩,⟨by omega,by omega⟩,?_⟩
  refine c114draw2 (Chg (fun _=>False) _) (Chg.refl _ _) ?_
  simp (disch:=first|omega|exact zF rfl|exact zG rfl|exact fun h=>h|(simp only[zA,zB,zC,zD,bytesW];omega)) only[go_sem,c114S0,c114L0,c114L1,c114S5,c114L2,c114L3,c114S11,c114S12,c114L4,c114S14,c114S15,c114S16,c114S17,c114S18,c114S19,c114D2,cq,ca,cq3,ca3]
  rw [eq] at mq
  rw [ea] at ma
  have hqa:kx key X q=key (ptV bq)∧kx key X a=key (ptV ba):=by unfold kx; rw [eq,ea]; exact ⟨rfl,rfl⟩
  have hcc:=hc _ _ s3 _ (hm _ ma) _ (hm _ mq)
  unfold ptV at hcc
  refine ⟨⟨by omega,by omega⟩,⟨by omega,by omega⟩,hy,?_⟩
  refine callW_mono hcc ?_
  rintro _ w5 ⟨z,rfl,hz,b5⟩
  have s5:=s3.call b5
  simp (disch:=first|omega|exact zF rfl|exact zG rfl|exact fun h=>h|(simp only[zA,zB,zC,zD,bytesW];omega)) only[go_sem,c114S0,c114L0,c114L1,c114S5,c114S6,c114L2,c114L3,c114S11,c114S12,c114L4,c114S14,c114S15,c114S16,c114S17,c114S18,c114S19,c114D2]
  refine ⟨fun hz0=>?_,fun hz0=>?_⟩
  ·have hge:key (ptV bq)≤key (ptV ba):=Int.not_lt.1 fun h=>by have:=hz.2 h; omega
   refine ⟨⟨by omega,by omega⟩,(q+1,j),rfl,⟨s5,by simp only; omega,by simp only; omega,h3,fun r r1 r2=>?_,h5⟩,by simp only; omega⟩
   have:=hs r q r1 (by simp only at r2; omega) (by omega)
   rw [hqa.1] at this
   rw [hqa.2]
   exact Int.le_trans this hge
  ·have hlt3:=hz.1 hz0
   refine ⟨(i,q),rfl,⟨s5,h1,by simp only; omega,by simp only; omega,h4,fun r r1 r2=>?_⟩,by simp only; omega⟩
   have:=hs q r (by omega) r1 r2
   rw [hqa.1] at this
   rw [hqa.2]
   exact Int.lt_of_lt_of_le hlt3 this
 ·have hlt':¬ (i:Int)<j:=by omega
  obtain rfl:i=j:=by omega
  simp (disch:=first|omega|exact zF rfl|exact zG rfl|exact fun h=>h|(simp only[zA,zB,zC,zD,bytesW];omega)) only[go_sem,c114S0,c114L0,c114L1,c114S5,c114S6,c114L2,c114L3,c114S11,c114S12,c114L4,c114S14,c114S15,c114S16,c114S17,c114S18,c114S19,c114L2,hlt']
  exact hQ _ _ s2 h1 h3 h4 h5
theorem srchC{X0:List Value}(h:St W0 w F (RowP g n c X::L) I)(hc:CmpOk W0 F L I g n c fv key X0)(hm:∀ u∈X,u∈X0)(hX:PtrV X)(hy:noYV (some fv))(hn:X.length=n)(hn2:n≤100000){a m b mid nn p i0 j0:Nat}(hij:i0≤j0)(hj:j0≤n)
  (hp:∀ q,i0≤q→q<j0→q≤p∧p - q<n) (hs1:∀ i j,i0≤i→i≤j→j<j0→kx key X i≤kx key X j) (hs2:∀ i j,i0≤i→i≤j→j<j0→kx key X (p - j)≤kx key X (p - i)) {Q:Post}
  (hQ:∀ w' i,St W0 w' F (RowP g n c X::L) I→i0≤i→i≤j0→(∀ q,i0≤q→q<i→kx key X q≤kx key X (p - q))→(∀ q,i≤q→q<j0→kx key X (p - q)<kx key X q)→Q .normal [(0,.slice (some ⟨g,0,none⟩) n c),(1,.int .i64 a),(2,.int .i64 m),(3,.int .i64 b),(4,fv),(18,.int .i64 mid),(19,.int .i64 nn),(20,.int .i64 i)] w') :
  W Tryz.prog (.loop (sg c114L4)) [(0,.slice (some ⟨g,0,none⟩) n c),(1,.int .i64 a),(2,.int .i64 m),(3,.int .i64 b),(4,fv),(18,.int .i64 mid),(19,.int .i64 nn),(20,.int .i64 i0),(21,.int .i64 j0),(22,.int .i64 p)] w (blockQ 8 Q):=by
 refine W_loopU (fun z:Nat × Nat=>[(20,.int .i64 z.1),(21,.int .i64 z.2)]) (fun z w'=>St W0 w' F (RowP g n c X::L) I∧i0≤z.1∧z.1≤z.2∧z.2≤j0∧(∀ q,i0≤q→q<z.1→kx key X q≤kx key X (p - q))∧(∀ q,z.2≤q→q<j0→kx key X (p - q)<kx key X q)) (fun z=>z.2 - z.1) (i0,j0) rfl ⟨h,Nat.le_refl _,hij,Nat.le_refl _,fun q h1 h2=>by simp only at h2; omega,fun q h1 h2=>by simp only at h1; omega⟩ ?_
 rintro ⟨i,j⟩ w2 ⟨s2,h1,h2,h3,h4,h5⟩
 simp only at s2 h1 h2 h3 h4 h5
 by_cases hlt:i<j
 ·have hlt':(i:Int)<j:=by omega
  have ew:=half_wrap (i:=i) (j:=j) (by omega)
  simp (disch:=first|omega|exact zF rfl|exact zG rfl|exact fun h=>h|(simp only[zA,zB,zC,zD,bytesW];omega)) only[go_sem,c114S0,c114L0,c114L1,c114S5,c114S6,c114L2,c114L3,c114S11,c114L4,c114S14,c114S15,c114S16,c114S17,c114S18,c114S19,c114L4,hlt']
  rw [ew]
  generalize hh:(i+j) / 2=q
  obtain ⟨hp1,hp2⟩:=hp q (by omega) (by omega)
  have s3:=s2.drew
  have tp:((p:Int) - q).toNat=p - q:=by omega
  obtain ⟨bq,eq,cq,mq⟩:=row_at s2 hX (i:=q) (by omega)
  obtain ⟨ba,ea,ca,ma⟩:=row_at s2 hX (i:=p - q) (by omega)
  have cq3:=(World.cell?_drew w2 ⟨g,q,none⟩).trans cq
  have ca3:=(World.cell?_drew w2 ⟨g,p - q,none⟩).trans ca
  have lg:g<w2.heap.size:=(own_lt (s2.row 0 rfl)).2
  refine ⟨⟨by omega,by omega⟩,⟨by omega,by omega⟩,?_⟩
  refine c114draw4 (Chg (fun _=>False) _) (Chg.refl _ _) ?_
  simp (disch:=first|omega|exact zF rfl|exact zG rfl|exact fun h=>h|(simp only[zA,zB,zC,zD,bytesW];omega)) only[go_sem,c114S0,c114L0,c114L1,c114S5,c114S6,c114L2,c114L3,c114S11,c114L4,c114S14,c114S15,c114S16,c114S17,c114S18,c114S19,c114D4,tp,cq,ca,cq3,ca3]
  rw [eq] at mq
  rw [ea] at ma
  have hqa:kx key X q=key (ptV bq)∧kx key X (p - q)=key (ptV ba):=by unfold kx; rw [eq,ea]; exact ⟨rfl,rfl⟩
  have hcc:=hc _ _ s3 _ (hm _ ma) _ (hm _ mq)
  unfold ptV at hcc
  refine ⟨⟨by omega,by omega⟩,⟨by omega,by omega⟩,⟨by omega,by omega⟩,hy,?_⟩
  refine callW_mono hcc ?_
  rintro _ w5 ⟨z,rfl,hz,b5⟩
  have s5:=s3.call b5
  simp (disch:=first|omega|exact zF rfl|exact zG rfl|exact fun h=>h|(simp only[zA,zB,zC,zD,bytesW];omega)) only[go_sem,c114S0,c114L0,c114L1,c114S5,c114S6,c114L2,c114L3,c114S11,c114S12,c114L4,c114S14,c114S15,c114S16,c114S17,c114S18,c114S19,c114D4]
  refine ⟨fun hz0=>?_,fun hz0=>?_⟩
  ·have hge:kx key X q≤kx key X (p - q):=by rw [hqa.1,hqa.2]; exact Int.not_lt.1 fun h=>by have:=hz.2 h; omega
   refine ⟨⟨by omega,by omega⟩,(q+1,j),rfl,⟨s5,by simp only; omega,by simp only; omega,h3,fun r r1 r2=>?_,h5⟩,by simp only; omega⟩
   have e1:=hs1 r q r1 (by simp only at r2; omega) (by omega)
   have e2:=hs2 r q r1 (by simp only at r2; omega) (by omega)
   exact Int.le_trans e1 (Int.le_trans hge e2)
  ·have hlt3:kx key X (p - q)<kx key X q:=by rw [hqa.1,hqa.2]; exact hz.1 hz0
   refine ⟨(i,q),rfl,⟨s5,h1,by simp only; omega,by simp only; omega,h4,fun r r1 r2=>?_⟩,by simp only; omega⟩
   have e1:=hs1 q r (by omega) r1 r2
   have e2:=hs2 q r (by omega) r1 r2
   exact Int.lt_of_le_of_lt e2 (Int.lt_of_lt_of_le hlt3 e1)
 ·have hlt':¬ (i:Int)<j:=by omega
  obtain rfl:i=j:=by omega
  simp (disch:=first|omega|exact zF rfl|exact zG rfl|exact fun h=>h|(simp only[zA,zB,zC,zD,bytesW];omega)) only[go_sem,c114S0,c114L0,c114L1,c114S5,c114S6,c114L2,c114L3,c114S11,c114S12,c114L4,c114S14,c114S15,c114S16,c114S17,c114S18,c114S19,c114L4,hlt']
  exact hQ _ _ s2 h1 h3 h4 h5
theorem shiftA{A V D:List Value}{bu:Nat}{a i T:Nat}(h:St W0 w F (RowP g n c (A++ptV bu::(V++D))::L) I)(hX:PtrV (A++ptV bu::(V++D)))(hn:(A++ptV bu::(V++D)).length=n)(hn2:n≤100000)(ha:a=A.length)(hT:T≤V.length)(hi:i=a+1+T){Q:Post}
  (hQ:∀ w',St W0 w' F (RowP g n c (A++(V.take T++ptV bu::(V.drop T++D)))::L) I→Q .normal [] w') :
  W Tryz.prog (.loop (sg c114L1)) [(0,.slice (some ⟨g,0,none⟩) n c),(10,.int .i64 i),(13,.int .i64 a)] w (blockQ 2 Q):=by
 have hnn:A.length+1+V.length+D.length=n:=by rw [← hn]; simp only [List.length_append,List.length_cons]; omega
 refine W_loopU (fun z:Nat × Nat=>[(13,.int .i64 z.2)]) (fun z w'=>St W0 w' F (RowP g n c (A++(V.take z.1++ptV bu::(V.drop z.1++D)))::L) I∧z.1≤T∧z.2=a+z.1) (fun z=>T - z.1) (0,a) rfl ⟨by simpa using h,Nat.zero_le _,rfl⟩ ?_
 rintro ⟨t,k⟩ w2 ⟨s2,h1,hk⟩
 simp only at s2 h1 hk
 subst hk
 by_cases hlt:t<T
 ·have hlt':((a:Int)+t)<i - 1:=by omega
  have hdr:V.drop t=V[t]'(by omega)::V.drop (t+1):=List.drop_eq_getElem_cons (by omega)
  have htk:V.take (t+1)=V.take t++[V[t]'(by omega)]:=List.take_succ_eq_append_getElem (by omega)
  obtain ⟨bv,hbv⟩:=hX (V[t]'(by omega)) (by simp [List.getElem_mem])
  have eY:A++(V.take t++ptV bu::(V.drop t++D))=(A++V.take t)++ptV bu::ptV bv::(V.drop (t+1)++D):=by rw [hdr,hbv]; simp
  have l1:(A++V.take t).length=a+t:=by rw [List.length_append,List.length_take]; omega
  rw [eY] at s2
  have c2:=(own_cell (s2.row 0 rfl)).1
  have f2:=(own_cell (s2.row 0 rfl)).2
  have u2:=c2 (a+t) (ptV bu) (get_mid _ _ _ l1)
  have v2:=c2 (a+t+1) (ptV bv) (by rw [List.getElem?_append_right (by omega),l1]; simp [show a+t+1 - (a+t)=1 by omega])
  have u3:=(World.cell?_drew w2 ⟨g,a+t,none⟩).trans u2
  have v3:=(World.cell?_drew w2 ⟨g,a+t+1,none⟩).trans v2
  have fa:=f2 (a+t)
  have fb:=f2 (a+t+1)
  have lg:g<w2.heap.size:=(own_lt (s2.row 0 rfl)).2
  have t1:((a:Int)+t).toNat=a+t:=by omega
  have t2:((a:Int)+t+1).toNat=a+t+1:=by omega
  have s4:=((s2.put 0 rfl (a+t) (ptV bv)).put 0 rfl (a+t+1) (ptV bu)).drew
  simp only [List.set_cons_zero] at s4
  have e1:=swap_mid2 (A++V.take t) (V.drop (t+1)++D) (ptV bv) (ptV bu)
  rw [l1] at e1
  rw [e1] at s4
  unfold ptV at u2 v2 u3 v3
  simp (disch:=first|omega|exact zF rfl|exact zG rfl|exact fun h=>h|(simp only[zA,zB,zC,zD,bytesW];omega)) only[go_sem,c114S0,c114L0,c114L1,c114S5,c114S6,c114L2,c114L3,c114S11,c114S12,c114L4,c114S14,c114S15,c114S16,c114S17,c114S18,c114S19,c114L1,hlt']
  refine ⟨⟨by omega,by omega⟩,?_⟩
  refine c114draw1 (Chg (fun _=>False) _) (Chg.refl _ _) ?_
  simp (disch:=first|omega|exact zF rfl|exact zG rfl|exact fun h=>h|(simp only[zA,zB,zC,zD,bytesW];omega)) only[go_sem,c114S0,c114L0,c114L1,c114S5,c114S6,c114L2,c114L3,c114S11,c114S12,c114L4,c114S14,c114S15,c114S16,c114S17,c114S18,c114S19,c114D1,t1,t2,u2,v2,u3,v3,fa,fb]
  refine ⟨⟨by omega,by omega⟩,⟨by omega,by omega⟩,⟨by omega,by omega⟩,⟨by omega,by omega⟩,⟨by omega,by omega⟩,⟨by omega,by omega⟩,⟨by omega,by omega⟩,(t+1,a+t+1),rfl,⟨?_,by simp only; omega,by simp only; omega⟩,by simp only; omega⟩
  simp only
  refine st_recast s4 ?_
  rw [htk,hbv]
  simp [RowP]
 ·have hlt':¬ ((a:Int)+t)<i - 1:=by omega
  obtain rfl:t=T:=by omega
  simp (disch:=first|omega|exact zF rfl|exact zG rfl|exact fun h=>h|(simp only[zA,zB,zC,zD,bytesW];omega)) only[go_sem,c114S0,c114L0,c114L1,c114S5,c114S6,c114L2,c114L3,c114S11,c114S12,c114L4,c114S14,c114S15,c114S16,c114S17,c114S18,c114S19,c114L1,hlt']
  exact ⟨⟨by omega,by omega⟩,hQ _ s2⟩
theorem shiftB{A U D:List Value}{bv:Nat}{a m i T:Nat}(h:St W0 w F (RowP g n c (A++(U++ptV bv::D))::L) I)(hX:PtrV (A++(U++ptV bv::D)))(hn:(A++(U++ptV bv::D)).length=n)(hn2:n≤100000)(ha:a=A.length)(hT:T≤U.length)(hm:m=a+U.length)(hi:i=a+T){Q:Post}
  (hQ:∀ w',St W0 w' F (RowP g n c (A++(U.take T++ptV bv::(U.drop T++D)))::L) I→Q .normal [] w') :
  W Tryz.prog (.loop (sg c114L3)) [(0,.slice (some ⟨g,0,none⟩) n c),(14,.int .i64 i),(17,.int .i64 m)] w (blockQ 6 Q):=by
 have hnn:A.length+U.length+1+D.length=n:=by rw [← hn]; simp only [List.length_append,List.length_cons]; omega
 refine W_loopU (fun z:Nat × Nat=>[(17,.int .i64 z.2)]) (fun z w'=>St W0 w' F (RowP g n c (A++(U.take z.1++ptV bv::(U.drop z.1++D)))::L) I∧T≤z.1∧z.1≤U.length∧z.2=a+z.1) (fun z=>z.1) (U.length,m) rfl ⟨by simpa using h,hT,Nat.le_refl _,hm⟩ ?_
 rintro ⟨t,k⟩ w2 ⟨s2,h1,h2,hk⟩
 simp only at s2 h1 h2 hk
 subst hk
 by_cases hlt:T<t
 ·obtain ⟨t,rfl⟩:∃ r,t=r+1:=⟨t - 1,by omega⟩
  have hlt':(i:Int)<(a:Int)+(t+1):=by omega
  have hdr:U.drop t=U[t]'(by omega)::U.drop (t+1):=List.drop_eq_getElem_cons (by omega)
  have htk:U.take (t+1)=U.take t++[U[t]'(by omega)]:=List.take_succ_eq_append_getElem (by omega)
  obtain ⟨bu,hbu⟩:=hX (U[t]'(by omega)) (by simp [List.getElem_mem])
  have eY:A++(U.take (t+1)++ptV bv::(U.drop (t+1)++D))=(A++U.take t)++ptV bu::ptV bv::(U.drop (t+1)++D):=by rw [htk,hbu]; simp
  have l1:(A++U.take t).length=a+t:=by rw [List.length_append,List.length_take]; omega
  rw [eY] at s2
  have c2:=(own_cell (s2.row 0 rfl)).1
  have f2:=(own_cell (s2.row 0 rfl)).2
  have u2:=c2 (a+t) (ptV bu) (get_mid _ _ _ l1)
  have v2:=c2 (a+(t+1)) (ptV bv) (by rw [List.getElem?_append_right (by omega),l1]; simp [show a+(t+1) - (a+t)=1 by omega])
  have u3:=(World.cell?_drew w2 ⟨g,a+t,none⟩).trans u2
  have v3:=(World.cell?_drew w2 ⟨g,a+(t+1),none⟩).trans v2
  have fa:=f2 (a+t)
  have fb:=f2 (a+(t+1))
  have lg:g<w2.heap.size:=(own_lt (s2.row 0 rfl)).2
  have t1:((a:Int)+(t+1) - 1).toNat=a+t:=by omega
  have t2:((a:Int)+(t+1)).toNat=a+(t+1):=by omega
  have s4:=((s2.put 0 rfl (a+(t+1)) (ptV bu)).put 0 rfl (a+t) (ptV bv)).drew
  simp only [List.set_cons_zero] at s4
  have e1:=swap_mid (A++U.take t) (U.drop (t+1)++D) (ptV bv) (ptV bu)
  rw [l1,Nat.add_assoc] at e1
  rw [e1] at s4
  unfold ptV at u2 v2 u3 v3
  simp (disch:=first|omega|exact zF rfl|exact zG rfl|exact fun h=>h|(simp only[zA,zB,zC,zD,bytesW];omega)) only[go_sem,c114S0,c114L0,c114L1,c114S5,c114S6,c114L2,c114L3,c114S11,c114S12,c114L4,c114S14,c114S15,c114S16,c114S17,c114S18,c114S19,c114L3,hlt']
  refine c114draw3 (Chg (fun _=>False) _) (Chg.refl _ _) ?_
  simp (disch:=first|omega|exact zF rfl|exact zG rfl|exact fun h=>h|(simp only[zA,zB,zC,zD,bytesW];omega)) only[go_sem,c114S0,c114L0,c114L1,c114S5,c114S6,c114L2,c114L3,c114S11,c114S12,c114L4,c114S14,c114S15,c114S16,c114S17,c114S18,c114S19,c114D3,t1,t2,u2,v2,u3,v3,fa,fb]
  refine ⟨⟨by omega,by omega⟩,⟨by omega,by omega⟩,⟨by omega,by omega⟩,⟨by omega,by omega⟩,⟨by omega,by omega⟩,⟨by omega,by omega⟩,⟨by omega,by omega⟩,(t,a+t),?_,⟨?_,by simp only; omega,by simp only; omega,by simp only⟩,by simp only; omega⟩
  ·simp only
   have:(a:Int)+(t+1) - 1=((a+t:Nat):Int):=by omega
   rw [this]
  ·simp only
   refine st_recast s4 ?_
   rw [hdr,hbu]
   simp [RowP]
 ·have hlt':¬ (i:Int)<(a:Int)+t:=by omega
  obtain rfl:t=T:=by omega
  simp (disch:=first|omega|exact zF rfl|exact zG rfl|exact fun h=>h|(simp only[zA,zB,zC,zD,bytesW];omega)) only[go_sem,c114S0,c114L0,c114L1,c114S5,c114S6,c114L2,c114L3,c114S11,c114S12,c114L4,c114S14,c114S15,c114S16,c114S17,c114S18,c114S19,c114L3,hlt']
  exact hQ _ s2
end
end Go.Proofs.YtoadmihnihfjkaaGreat

end
