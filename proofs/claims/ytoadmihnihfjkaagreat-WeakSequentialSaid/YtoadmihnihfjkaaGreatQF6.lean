/- Texts put together by program. -/
import Derived.Test.YtoadmihnihfjkaaGreatQF5
set_option linter.unusedSimpArgs false
set_option linter.unusedVariables false
set_option maxRecDepth 100000
noncomputable section

namespace Go.Proofs.YtoadmihnihfjkaaGreat
open Go Go.Ann Go.RowKit
section
variable {W0 w:World} {F:Nat→Prop} {L:List Res} {I:List Inv} {g n c:Nat} {fv:Value} {key:Value→Int}
theorem kxU{A U R:List Value}{i:Nat}(hi:i<U.length):kx key (A++(U++R)) (A.length+i)=key U[i]:=by
 unfold kx
 rw [List.getD_eq_getElem?_getD,List.getElem?_append_right (by omega),Nat.add_sub_cancel_left,List.getElem?_append_left hi,List.getElem?_eq_getElem hi]
 rfl
theorem kxV{A U V D:List Value}{i:Nat}(hi:i<V.length):kx key (A++(U++(V++D))) (A.length+U.length+i)=key V[i]:=by
 have:=kxU (key:=key) (A:=A++U) (U:=V) (R:=D) hi
 rw [List.length_append,List.append_assoc] at this
 exact this
theorem ordd_at{U:List Value}(h:Ordd key U){i j:Nat}(hij:i≤j)(hj:j<U.length):key (U[i]'(by omega))≤key U[j]:=by
 rcases Nat.lt_or_ge i j with h1 | h1
 ·exact List.pairwise_iff_getElem.1 h i j (by omega) hj h1
 ·obtain rfl:i=j:=by omega
  exact Int.le_refl _
theorem kxU_le{A U R:List Value}(h:Ordd key U){i j:Nat}(h1:A.length≤i)(h2:i≤j)(h3:j<A.length+U.length):kx key (A++(U++R)) i≤kx key (A++(U++R)) j:=by
 obtain ⟨i,rfl⟩:∃ r,i=A.length+r:=⟨i - A.length,by omega⟩
 obtain ⟨j,rfl⟩:∃ r,j=A.length+r:=⟨j - A.length,by omega⟩
 rw [kxU (by omega),kxU (by omega)]
 exact ordd_at h (by omega) (by omega)
theorem kxV_le{A U V D:List Value}(h:Ordd key V){i j:Nat}(h1:A.length+U.length≤i)(h2:i≤j)(h3:j<A.length+U.length+V.length):kx key (A++(U++(V++D))) i≤kx key (A++(U++(V++D))) j:=by
 have:=kxU_le (A:=A++U) (R:=D) h (i:=i) (j:=j) (by rw [List.length_append]; exact h1) h2 (by rw [List.length_append]; exact h3)
 rw [List.append_assoc] at this
 exact this
def SymmIH(W0:World)(F:Nat→Prop)(L:List Res)(I:List Inv)(g n c:Nat)(fv:Value)(key:Value→Int)(X0:List Value)(N:Nat):Prop :=
 ∀ {A U V D:List Value} {w:World},U.length+V.length≤N→St W0 w F (RowP g n c (A++(U++(V++D)))::L) I→(A++(U++(V++D))).Perm X0→0<U.length→0<V.length→Ordd key U→Ordd key V→∀ {a m b:Nat},a=A.length→m=A.length+U.length→b=A.length+U.length+V.length →
  Ret Tryz.prog 114 [.slice (some ⟨g,0,none⟩) n c,.int .i64 a,.int .i64 m,.int .i64 b,fv] w fun _ w'=>∃ W,St W0 w' F (RowP g n c (A++(W++D))::L) I∧W.Perm (U++V)∧Ordd key W
theorem symm_tail{X0:List Value}{N:Nat}(ih:SymmIH W0 F L I g n c fv key X0 N)(hc:CmpOk W0 F L I g n c fv key X0)(hX0:PtrV X0)(hy:noYV (some fv))(hn:X0.length=n)(hn2:n≤100000){A U V D:List Value}
  (hN:U.length+V.length≤N+1) (h:St W0 w F (RowP g n c (A++(U++(V++D)))::L) I) (hp:(A++(U++(V++D))).Perm X0) (hu:0<U.length) (hv:0<V.length) (hU:Ordd key U) (hV:Ordd key V) {a m b mid i0 j0:Nat} (ha:a=A.length) (hm:m=A.length+U.length) (hb:b=A.length+U.length+V.length)
  (hmid:mid=(a+b) / 2) (hij:(mid<m∧i0=mid+m - b∧j0=mid)∨(m≤mid∧i0=a∧j0=m)) :
  W Tryz.prog (c114S17 ()) [(0,.slice (some ⟨g,0,none⟩) n c),(1,.int .i64 a),(2,.int .i64 m),(3,.int .i64 b),(4,fv),(18,.int .i64 mid),(19,.int .i64 (mid+m:Nat)),(20,.int .i64 i0),(21,.int .i64 j0)] w (finQ Tryz.prog [] fun _ w'=>∃ W,St W0 w' F (RowP g n c (A++(W++D))::L) I∧W.Perm (U++V)∧Ordd key W):=by
 have hX:PtrV (A++(U++(V++D))):=fun u hu=>hX0 u (hp.mem_iff.1 hu)
 have hmem:∀ u∈A++(U++(V++D)),u∈X0:=fun u hu=>hp.mem_iff.1 hu
 have hXn:(A++(U++(V++D))).length=n:=by rw [hp.length_eq,hn]
 have hnn:A.length+U.length+V.length+D.length=n:=by rw [← hXn]; simp only [List.length_append]; omega
 simp (disch:=first|omega|exact zF rfl|exact zG rfl|exact fun h=>h|(simp only[zA,zB,zC,zD,bytesW];omega)) only[go_sem,c114S0,c114L0,c114L1,c114S5,c114S6,c114L2,c114L3,c114S11,c114S12,c114S14,c114S15,c114S17,c114S18,c114S19]
 refine ⟨⟨by omega,by omega⟩,?_⟩
 have e1:((mid:Int)+m - 1)=((mid+m - 1:Nat):Int):=by omega
 rw [e1]
 refine srchC (nn:=mid+m) h hc hmem hX hy hXn hn2 (by omega) (by omega) (fun q q1 q2=>by omega) (fun i j i1 i2 i3=>kxU_le hU (by omega) i2 (by omega)) (fun i j i1 i2 i3=>kxV_le hV (by omega) (by omega) (by omega)) ?_
 intro w2 s s2 i1 i2 le1 gt1
 have hsa:a≤s:=by omega
 obtain ⟨t,rfl⟩:∃ t,s=a+t:=⟨s - a,by omega⟩
 obtain ⟨e,he⟩:∃ e,e=mid+m - (a+t):=⟨_,rfl⟩
 have hem:m≤e:=by omega
 have heb:e≤b:=by omega
 obtain ⟨r,rfl⟩:∃ r,e=m+r:=⟨e - m,by omega⟩
 have eU:U=U.take t++U.drop t:=(List.take_append_drop _ _).symm
 have eV:V=V.take r++V.drop r:=(List.take_append_drop _ _).symm
 have l1:(U.take t).length=t:=by rw [List.length_take]; omega
 have l2:(U.drop t).length=U.length - t:=List.length_drop
 have l3:(V.take r).length=r:=by rw [List.length_take]; omega
 have l4:(V.drop r).length=V.length - r:=List.length_drop
 -- what the search has found
 have f1:∀ x∈U.take t,∀ y∈V.drop r,key x≤key y:=by
  refine ends_le (by rw [eU] at hU; exact hU.left) (by rw [eV] at hV; exact hV.right) fun q1 q2=>?_
  have q:=le1 (a+t - 1) (by omega) (by omega)
  have qa:mid+m - 1 - (a+t - 1)=A.length+U.length+r:=by omega
  have qb:a+t - 1=A.length+(t - 1):=by omega
  rw [qa,qb,kxU (by omega),kxV (by omega)] at q
  have e3:(U.take t)[(U.take t).length - 1]'(by omega)=U[t - 1]'(by omega):=by rw [List.getElem_take]; congr 1; omega
  have e4:(V.drop r)[0]'(by omega)=V[r]'(by omega):=by rw [List.getElem_drop]; congr 1
  rw [e3,e4]
  exact q
 have f2:∀ x∈V.take r,∀ y∈U.drop t,key x≤key y:=by
  refine ends_le (by rw [eV] at hV; exact hV.left) (by rw [eU] at hU; exact hU.right) fun q1 q2=>?_
  have q:=gt1 (a+t) (by omega) (by omega)
  have qa:mid+m - 1 - (a+t)=A.length+U.length+(r - 1):=by omega
  have qb:a+t=A.length+t:=by omega
  rw [qa,qb,kxU (by omega),kxV (by omega)] at q
  have e3:(V.take r)[(V.take r).length - 1]'(by omega)=V[r - 1]'(by omega):=by rw [List.getElem_take]; congr 1; omega
  have e4:(U.drop t)[0]'(by omega)=U[t]'(by omega):=by rw [List.getElem_drop]; congr 1
  rw [e3,e4]
  exact Int.le_of_lt q
 have hU2:Ordd key (U.take t++U.drop t):=by rw [← eU]; exact hU
 have hV2:Ordd key (V.take r++V.drop r):=by rw [← eV]; exact hV
 have eUV:U++V=U.take t++U.drop t++(V.take r++V.drop r):=by rw [← eU,← eV]
 rw [eUV]
 have eX:A++(U++(V++D))=A++(U.take t++(U.drop t++(V.take r++(V.drop r++D)))):=by
  rw [← List.append_assoc (U.take t),List.take_append_drop,← List.append_assoc (V.take r),List.take_append_drop]
 rw [eX] at s2 hp hX hXn
 have lUV:U.length+V.length≤N+1:=hN
 generalize U.take t=U1 at *
 generalize U.drop t=U2 at *
 generalize V.take r=V1 at *
 generalize V.drop r=V2 at *
 have ee:((mid:Int)+m - (a+t))=((m+r:Nat):Int):=by omega
 have fin:∀ (w':World) (W1 W2:List Value),St W0 w' F (RowP g n c (A++(W1++(W2++D)))::L) I→W1.Perm (U1++V1)→Ordd key W1→W2.Perm (U2++V2)→Ordd key W2→∃ W,St W0 w' F (RowP g n c (A++(W++D))::L) I∧W.Perm (U1++U2++(V1++V2))∧Ordd key W:=fun w' W1 W2 sw p1 o1 p2 o2=>by
  obtain ⟨k1,k2⟩:=sym_split hU2 hV2 f1 f2 p1 o1 p2 o2
  exact ⟨W1++W2,by rw [List.append_assoc]; exact sw,k1,k2⟩
 have one:∀ {Y Z:List Value},Ordd key Y→Ordd key Z→Y=[]∨Z=[]→Ordd key (Y++Z):=fun hy hz h=>by
  rcases h with rfl | rfl
  ·simpa using hz
  ·simpa using hy
 have pZ:(A++(U1++(V1++(U2++(V2++D))))).Perm X0:=by
  refine List.Perm.trans (List.Perm.append_left A (List.Perm.append_left U1 ?_)) hp
  have:=(List.perm_append_comm (l₁:=V1) (l₂:=U2)).append_right (V2++D)
  simpa using this
 have tail2:∀ (w':World) (W1:List Value),St W0 w' F (RowP g n c (A++(W1++(U2++(V2++D))))::L) I→W1.Perm (U1++V1)→Ordd key W1→W Tryz.prog (c114S14 ()) [(0,.slice (some ⟨g,0,none⟩) n c),(3,.int .i64 b),(4,fv),(18,.int .i64 mid),(24,.int .i64 (m+r:Nat))] w' (finQ Tryz.prog [] fun _ w'=>∃ W,St W0 w' F (RowP g n c (A++(W++D))::L) I∧W.Perm (U1++U2++(V1++V2))∧Ordd key W):=by
  intro w' W1 sw p1 o1
  have lW:W1.length=t+r:=by rw [p1.length_eq,List.length_append,l1,l3]
  by_cases c1:mid<m+r
  ·by_cases c2:m+r<b
   ·have c1':(mid:Int)<(m:Int)+r:=by omega
    have c2':(m:Int)+r<b:=by omega
    simp (disch:=first|omega|exact zF rfl|exact zG rfl|exact fun h=>h|(simp only[zA,zB,zC,zD,bytesW];omega)) only[go_sem,c114S0,c114L0,c114L1,c114S5,c114S6,c114L2,c114L3,c114S11,c114S12,c114L4,c114S14,c114S15,c114S16,c114S17,c114S18,c114S19,c1',c2']
    refine Ret.mono (ih (A:=A++W1) (U:=U2) (V:=V2) (D:=D) (by omega) (by rw [List.append_assoc]; exact sw) ?_ (by omega) (by omega) hU2.right hV2.right (by rw [List.length_append]; omega) (by rw [List.length_append]; omega) (by rw [List.length_append]; omega)) ?_
    ·rw [List.append_assoc]
     refine List.Perm.trans (List.Perm.append_left A ?_) pZ
     have:=p1.append_right (U2++(V2++D))
     simpa using this
    ·rintro _ w4 ⟨W2,s4,p2,o2⟩
     simp (disch:=first|omega|exact zF rfl|exact zG rfl|exact fun h=>h|(simp only[zA,zB,zC,zD,bytesW];omega)) only[go_sem,c114S0,c114L0,c114L1,c114S5,c114S6,c114L2,c114L3,c114S11,c114S12,c114L4,c114S14,c114S15,c114S16,c114S17,c114S18,c114S19]
     exact fin _ _ _ (by rw [List.append_assoc] at s4; exact s4) p1 o1 p2 o2
   ·have c1':(mid:Int)<(m:Int)+r:=by omega
    have c2':¬ (m:Int)+r<b:=by omega
    simp (disch:=first|omega|exact zF rfl|exact zG rfl|exact fun h=>h|(simp only[zA,zB,zC,zD,bytesW];omega)) only[go_sem,c114S0,c114L0,c114L1,c114S5,c114S6,c114L2,c114L3,c114S11,c114S12,c114L4,c114S14,c114S15,c114S16,c114S17,c114S18,c114S19,c1',c2']
    exact fin _ W1 (U2++V2) (by simpa [RowP] using sw) p1 o1 (List.Perm.refl _) (one hU2.right hV2.right (.inr (List.eq_nil_of_length_eq_zero (by omega))))
  ·have c1':¬ (mid:Int)<(m:Int)+r:=by omega
   simp (disch:=first|omega|exact zF rfl|exact zG rfl|exact fun h=>h|(simp only[zA,zB,zC,zD,bytesW];omega)) only[go_sem,c114S0,c114L0,c114L1,c114S5,c114S6,c114L2,c114L3,c114S11,c114S12,c114L4,c114S14,c114S15,c114S16,c114S17,c114S18,c114S19,c1']
   exact fin _ W1 (U2++V2) (by simpa [RowP] using sw) p1 o1 (List.Perm.refl _) (one hU2.right hV2.right (.inl (List.eq_nil_of_length_eq_zero (by omega))))
 have tail1:∀ (w':World),St W0 w' F (RowP g n c (A++(U1++(V1++(U2++(V2++D)))))::L) I→W Tryz.prog (c114S15 ()) [(0,.slice (some ⟨g,0,none⟩) n c),(1,.int .i64 a),(3,.int .i64 b),(4,fv),(18,.int .i64 mid),(20,.int .i64 (a+t:Nat)),(24,.int .i64 (m+r:Nat))] w' (finQ Tryz.prog [] fun _ w'=>∃ W,St W0 w' F (RowP g n c (A++(W++D))::L) I∧W.Perm (U1++U2++(V1++V2))∧Ordd key W):=by
  intro w' sw
  by_cases c1:a<a+t
  ·by_cases c2:a+t<mid
   ·have c1':(a:Int)<(a:Int)+t:=by omega
    have c2':(a:Int)+t<mid:=by omega
    simp (disch:=first|omega|exact zF rfl|exact zG rfl|exact fun h=>h|(simp only[zA,zB,zC,zD,bytesW];omega)) only[go_sem,c114S0,c114L0,c114L1,c114S5,c114S6,c114L2,c114L3,c114S11,c114S12,c114L4,c114S15,c114S16,c114S17,c114S18,c114S19,c1',c2']
    refine Ret.mono (ih (A:=A) (U:=U1) (V:=V1) (D:=U2++(V2++D)) (by omega) sw pZ (by omega) (by omega) hU2.left hV2.left ha (by omega) (by omega)) ?_
    rintro _ w4 ⟨W1,s4,p1,o1⟩
    simp (disch:=first|omega|exact zF rfl|exact zG rfl|exact fun h=>h|(simp only[zA,zB,zC,zD,bytesW];omega)) only[go_sem,c114S0,c114L0,c114L1,c114S5,c114S6,c114L2,c114L3,c114S11,c114S12,c114L4,c114S15,c114S16,c114S17,c114S18,c114S19]
    exact tail2 _ _ s4 p1 o1
   ·have c1':(a:Int)<(a:Int)+t:=by omega
    have c2':¬ (a:Int)+t<mid:=by omega
    simp (disch:=first|omega|exact zF rfl|exact zG rfl|exact fun h=>h|(simp only[zA,zB,zC,zD,bytesW];omega)) only[go_sem,c114S0,c114L0,c114L1,c114S5,c114S6,c114L2,c114L3,c114S11,c114S12,c114L4,c114S15,c114S16,c114S17,c114S18,c114S19,c1',c2']
    exact tail2 _ (U1++V1) (by simpa [RowP] using sw) (List.Perm.refl _) (one hU2.left hV2.left (.inr (List.eq_nil_of_length_eq_zero (by omega))))
  ·have c1':¬ (a:Int)<(a:Int)+t:=by omega
   simp (disch:=first|omega|exact zF rfl|exact zG rfl|exact fun h=>h|(simp only[zA,zB,zC,zD,bytesW];omega)) only[go_sem,c114S0,c114L0,c114L1,c114S5,c114S6,c114L2,c114L3,c114S11,c114S12,c114L4,c114S15,c114S16,c114S17,c114S18,c114S19,c1']
   exact tail2 _ (U1++V1) (by simpa [RowP] using sw) (List.Perm.refl _) (one hU2.left hV2.left (.inl (List.eq_nil_of_length_eq_zero (by omega))))
 by_cases c1:a+t<m
 ·by_cases c2:m<m+r
  ·have c1':(a:Int)+t<m:=by omega
   have c2':(m:Int)<(m:Int)+r:=by omega
   simp (disch:=first|omega|exact zF rfl|exact zG rfl|exact fun h=>h|(simp only[zA,zB,zC,zD,bytesW];omega)) only[go_sem,c114S0,c114L0,c114L1,c114S5,c114S6,c114L2,c114L3,c114S11,c114S12,c114L4,c114S14,c114S16,c114S17,c114S18,c114S19,ee,c1',c2']
   refine ⟨⟨by omega,by omega⟩,Ret.mono (rot_ok (fv:=fv) (A:=A++U1) (U:=U2) (V:=V1) (D:=V2++D) (by rw [List.append_assoc]; exact s2) (by rw [List.append_assoc]; exact hX) (by rw [List.append_assoc]; exact hXn) hn2 (by omega) (by omega) (by rw [List.length_append]; omega) (by rw [List.length_append]; omega) (by rw [List.length_append]; omega)) ?_⟩
   intro _ w4 s4
   simp (disch:=first|omega|exact zF rfl|exact zG rfl|exact fun h=>h|(simp only[zA,zB,zC,zD,bytesW];omega)) only[go_sem,c114S0,c114L0,c114L1,c114S5,c114S6,c114L2,c114L3,c114S11,c114S12,c114L4,c114S14,c114S16,c114S17,c114S18,c114S19]
   rw [List.append_assoc] at s4
   exact tail1 _ s4
  ·have c1':(a:Int)+t<m:=by omega
   have c2':¬ (m:Int)<(m:Int)+r:=by omega
   have:V1=[]:=List.eq_nil_of_length_eq_zero (by omega)
   subst this
   simp (disch:=first|omega|exact zF rfl|exact zG rfl|exact fun h=>h|(simp only[zA,zB,zC,zD,bytesW];omega)) only[go_sem,c114S0,c114L0,c114L1,c114S5,c114S6,c114L2,c114L3,c114S11,c114S12,c114L4,c114S14,c114S16,c114S17,c114S18,c114S19,ee,c1',c2']
   exact ⟨⟨by omega,by omega⟩,tail1 _ (by simpa [RowP] using s2)⟩
 ·have c1':¬ (a:Int)+t<m:=by omega
  have:U2=[]:=List.eq_nil_of_length_eq_zero (by omega)
  subst this
  simp (disch:=first|omega|exact zF rfl|exact zG rfl|exact fun h=>h|(simp only[zA,zB,zC,zD,bytesW];omega)) only[go_sem,c114S0,c114L0,c114L1,c114S5,c114S6,c114L2,c114L3,c114S11,c114S12,c114L4,c114S14,c114S16,c114S17,c114S18,c114S19,ee,c1']
  exact ⟨⟨by omega,by omega⟩,tail1 _ (by simpa [RowP] using s2)⟩
theorem symm_ok{X0:List Value}(hc:CmpOk W0 F L I g n c fv key X0)(hX0:PtrV X0)(hy:noYV (some fv))(hn:X0.length=n)(hn2:n≤100000) :
  ∀ (N:Nat) {A U V D:List Value} {w:World},U.length+V.length≤N→St W0 w F (RowP g n c (A++(U++(V++D)))::L) I→(A++(U++(V++D))).Perm X0→0<U.length→0<V.length→Ordd key U→Ordd key V→∀ {a m b:Nat},a=A.length→m=A.length+U.length→b=A.length+U.length+V.length →
  Ret Tryz.prog 114 [.slice (some ⟨g,0,none⟩) n c,.int .i64 a,.int .i64 m,.int .i64 b,fv] w fun _ w'=>∃ W,St W0 w' F (RowP g n c (A++(W++D))::L) I∧W.Perm (U++V)∧Ordd key W
 | 0,A,U,V,D,w,hN,_,_,hu,_,_,_,_,_,_,_,_,_=>by omega
 | N+1,A,U,V,D,w,hN,h,hp,hu,hv,hU,hV,a,m,b,ha,hm,hb=>by
  have ih:SymmIH W0 F L I g n c fv key X0 N:=fun h1 h2 h3 h4 h5 h6 h7 _ _ _ h8 h9 h10=>symm_ok hc hX0 hy hn hn2 N h1 h2 h3 h4 h5 h6 h7 h8 h9 h10
  have hX:PtrV (A++(U++(V++D))):=fun u hu=>hX0 u (hp.mem_iff.1 hu)
  have hmem:∀ u∈A++(U++(V++D)),u∈X0:=fun u hu=>hp.mem_iff.1 hu
  have hXn:(A++(U++(V++D))).length=n:=by rw [hp.length_eq,hn]
  have hnn:A.length+U.length+V.length+D.length=n:=by rw [← hXn]; simp only [List.length_append]; omega
  refine ent114 _ _ _ _ _ _ _ ?_
  by_cases h1:U.length=1
  ·have h1':(m:Int) - a=1:=by omega
   simp (disch:=first|omega|exact zF rfl|exact zG rfl|exact fun h=>h|(simp only[zA,zB,zC,zD,bytesW];omega)) only[go_sem,c114S0,c114L1,c114S6,c114L2,c114L3,c114S11,c114S12,c114L4,c114S14,c114S15,c114S16,c114S17,c114S18,h1']
   refine ⟨⟨by omega,by omega⟩,?_⟩
   obtain ⟨u,rfl⟩:=List.length_eq_one_iff.1 h1
   obtain ⟨bu,rfl⟩:=hX u (by simp)
   refine srchA h hc hmem hX hy hXn hn2 (by omega) (by omega) (by omega) (fun i j i1 i2 i3=>kxV_le hV (by omega) i2 (by omega)) ?_
   intro w2 i s2 i1 i2 lt1 ge1
   simp (disch:=first|omega|exact zF rfl|exact zG rfl|exact fun h=>h|(simp only[zA,zB,zC,zD,bytesW];omega)) only[go_sem,c114S0,c114L0,c114S5,c114S6,c114L2,c114L3,c114S11,c114S12,c114L4,c114S14,c114S15,c114S16,c114S17,c114S18,c114S19]
   obtain ⟨T,rfl⟩:∃ T,i=a+1+T:=⟨i - (a+1),by omega⟩
   have hT:T≤V.length:=by simp only [List.length_singleton] at *; omega
   refine shiftA (A:=A) (V:=V) (D:=D) (T:=T) s2 hX hXn hn2 ha hT rfl ?_
   intro w3 s3
   simp (disch:=first|omega|exact zF rfl|exact zG rfl|exact fun h=>h|(simp only[zA,zB,zC,zD,bytesW];omega)) only[go_sem,c114S0,c114L0,c114L1,c114S5,c114S6,c114L2,c114L3,c114S11,c114S12,c114L4,c114S14,c114S15,c114S16,c114S17,c114S18,c114S19]
   have hka:kx key (A++([ptV bu]++(V++D))) a=key (ptV bu):=by
    have:=kxU (key:=key) (A:=A) (U:=[ptV bu]) (R:=V++D) (i:=0) (by simp)
    rw [ha]; simpa using this
   have hkv:∀ q,(hq:q<V.length)→kx key (A++([ptV bu]++(V++D))) (a+1+q)=key V[q]:=fun q hq=>by
    have:=kxV (key:=key) (A:=A) (U:=[ptV bu]) (V:=V) (D:=D) hq
    rw [ha]; simpa using this
   have hp2:=put_in (key:=key) (V1:=V.take T) (V2:=V.drop T) (u:=ptV bu) (by rw [List.take_append_drop]; exact hV) (fun x hx=>by
     obtain ⟨q,hq,rfl⟩:=List.mem_iff_getElem.1 hx
     rw [List.length_take] at hq
     have:=lt1 (a+1+q) (by simp only [List.length_singleton] at *; omega) (by omega)
     rw [hka,hkv q (by omega)] at this
     rw [List.getElem_take]
     exact Int.le_of_lt this) (fun y hy=>by
     obtain ⟨q,hq,rfl⟩:=List.mem_iff_getElem.1 hy
     rw [List.length_drop] at hq
     have:=ge1 (a+1+(T+q)) (by omega) (by simp only [List.length_singleton] at *; omega)
     rw [hka,hkv (T+q) (by omega)] at this
     rw [List.getElem_drop]
     exact this)
   refine ⟨V.take T++ptV bu::V.drop T,by simpa [RowP] using s3,?_,hp2.2⟩
   have:=hp2.1
   rw [List.take_append_drop] at this
   exact this
  ·have h1':¬ (m:Int) - a=1:=by omega
   by_cases h2:V.length=1
   ·have h2':(b:Int) - m=1:=by omega
    simp (disch:=first|omega|exact zF rfl|exact zG rfl|exact fun h=>h|(simp only[zA,zB,zC,zD,bytesW];omega)) only[go_sem,c114S0,c114L0,c114L1,c114S5,c114S6,c114L3,c114S12,c114L4,c114S14,c114S15,c114S16,c114S17,c114S19,h1',h2']
    refine ⟨⟨by omega,by omega⟩,⟨by omega,by omega⟩,?_⟩
    obtain ⟨v,rfl⟩:=List.length_eq_one_iff.1 h2
    obtain ⟨bv,rfl⟩:=hX v (by simp)
    refine srchB (a:=m) h hc hmem hX hy hXn hn2 (by simp only [List.length_singleton] at *; omega) (by omega) (by simp only [List.length_singleton] at *; omega) (fun i j i1 i2 i3=>kxU_le hU (by omega) i2 (by omega)) ?_
    intro w2 i s2 i1 i2 le1 gt1
    simp (disch:=first|omega|exact zF rfl|exact zG rfl|exact fun h=>h|(simp only[zA,zB,zC,zD,bytesW];omega)) only[go_sem,c114S0,c114L0,c114L1,c114S5,c114S6,c114L2,c114S11,c114S12,c114L4,c114S14,c114S15,c114S16,c114S17,c114S18,c114S19]
    obtain ⟨T,rfl⟩:∃ T,i=a+T:=⟨i - a,by omega⟩
    have hT:T≤U.length:=by omega
    refine shiftB (A:=A) (U:=U) (D:=D) (T:=T) s2 hX hXn hn2 ha hT (by omega) rfl ?_
    intro w3 s3
    simp (disch:=first|omega|exact zF rfl|exact zG rfl|exact fun h=>h|(simp only[zA,zB,zC,zD,bytesW];omega)) only[go_sem,c114S0,c114L0,c114L1,c114S5,c114S6,c114L2,c114L3,c114S11,c114S12,c114L4,c114S14,c114S15,c114S16,c114S17,c114S18,c114S19]
    have hkm:kx key (A++(U++([ptV bv]++D))) m=key (ptV bv):=by
     have:=kxV (key:=key) (A:=A) (U:=U) (V:=[ptV bv]) (D:=D) (i:=0) (by simp)
     rw [hm]; simpa using this
    have hku:∀ q,(hq:q<U.length)→kx key (A++(U++([ptV bv]++D))) (a+q)=key U[q]:=fun q hq=>by
     rw [ha]; exact kxU hq
    have hp2:=put_in (key:=key) (V1:=U.take T) (V2:=U.drop T) (u:=ptV bv) (by rw [List.take_append_drop]; exact hU) (fun x hx=>by
      obtain ⟨q,hq,rfl⟩:=List.mem_iff_getElem.1 hx
      rw [List.length_take] at hq
      have:=le1 (a+q) (by omega) (by omega)
      rw [hkm,hku q (by omega)] at this
      rw [List.getElem_take]
      exact this) (fun y hy=>by
      obtain ⟨q,hq,rfl⟩:=List.mem_iff_getElem.1 hy
      rw [List.length_drop] at hq
      have:=gt1 (a+(T+q)) (by omega) (by omega)
      rw [hkm,hku (T+q) (by omega)] at this
      rw [List.getElem_drop]
      exact Int.le_of_lt this)
    refine ⟨U.take T++ptV bv::U.drop T,by simpa [RowP] using s3,?_,hp2.2⟩
    have:=hp2.1
    rw [List.take_append_drop] at this
    exact this.trans (List.perm_append_singleton _ _).symm
   ·have h2':¬ (b:Int) - m=1:=by omega
    simp (disch:=first|omega|exact zF rfl|exact zG rfl|exact fun h=>h|(simp only[zA,zB,zC,zD,bytesW];omega)) only[go_sem,c114S0,c114L0,c114L1,c114S5,c114S6,c114L2,c114L3,c114S11,c114S12,c114S14,c114S15,c114S16,c114S18,c114S19,h1',h2']
    rw [half_wrap (i:=a) (j:=b) (by omega)]
    generalize hq:(a+b) / 2=mid
    refine ⟨⟨by omega,by omega⟩,⟨by omega,by omega⟩,⟨by omega,by omega⟩,⟨by omega,by omega⟩,⟨by omega,by omega⟩,fun hlt=>⟨⟨by omega,by omega⟩,?_⟩,fun hge=>?_⟩
    ·have e1:((mid:Int)+m - b)=((mid+m - b:Nat):Int):=by omega
     rw [e1]
     exact symm_tail ih hc hX0 hy hn hn2 hN h hp hu hv hU hV ha hm hb hq.symm (.inl ⟨by omega,rfl,rfl⟩)
    ·exact symm_tail ih hc hX0 hy hn hn2 hN h hp hu hv hU hV ha hm hb hq.symm (.inr ⟨by omega,rfl,rfl⟩)
end
open Go Go.Ann Go.RowKit
inductive Runs(key:Value→Int)(s:Nat):List Value→Prop
 | nil:Runs key s []
 | last {U:List Value} (h:Ordd key U) (hl:U.length≤s):Runs key s U
 | cons {U R:List Value} (hl:U.length=s) (h:Ordd key U) (hr:Runs key s R):Runs key s (U++R)
inductive Full(key:Value→Int)(s:Nat):List Value→Prop
 | nil:Full key s []
 | snoc {D U:List Value} (hd:Full key s D) (hl:U.length=s) (h:Ordd key U):Full key s (D++U)
theorem Runs.split{key:Value→Int}{s:Nat}{R:List Value}(h:Runs key s R)(hs:0<s)(hl:s≤R.length):∃ U R',R=U++R'∧U.length=s∧Ordd key U∧Runs key s R':=by
 cases h with
 | nil=>simp at hl; omega
 | last h hl2=>exact ⟨R,[],by simp,by omega,h,.nil⟩
 | @cons U R' hl2 h hr=>exact ⟨U,R',rfl,hl2,h,hr⟩
theorem Runs.short{key:Value→Int}{s:Nat}{R:List Value}(h:Runs key s R)(hl:R.length≤s):Ordd key R:=by
 cases h with
 | nil=>exact List.Pairwise.nil
 | last h hl2=>exact h
 | @cons U R' hl2 h hr =>
  have:R'=[]:=List.eq_nil_of_length_eq_zero (by rw [List.length_append] at hl; omega)
  subst this
  simpa using h
theorem Full.runs{key:Value→Int}{s:Nat}{D R:List Value}(h:Full key s D)(hr:Runs key s R):Runs key s (D++R):=by
 induction h generalizing R with
 | nil=>exact hr
 | snoc hd hl h ih=>rw [List.append_assoc]; exact ih (.cons hl h hr)
section
variable {W0 w:World} {F:Nat→Prop} {L:List Res} {I:List Inv} {g n c:Nat} {X:List Value} {fv:Value} {key:Value→Int}
theorem CmpOk.perm{X':List Value}(h:CmpOk W0 F L I g n c fv key X)(hp:X'.Perm X):CmpOk W0 F L I g n c fv key X':=fun w' Y s u hu v hv=>h w' Y s u (hp.mem_iff.1 hu) v (hp.mem_iff.1 hv)
theorem PtrV.perm{X':List Value}(h:PtrV X)(hp:X'.Perm X):PtrV X':=fun u hu=>h u (hp.mem_iff.1 hu)
theorem stable_in(hc:CmpOk W0 F L I g n c fv key X)(hX:PtrV X)(hy:noYV (some fv))(hn:X.length=n)(hn2:n≤100000){s:Nat}(hs:0<s){Y:List Value}(h:St W0 w F (RowP g n c Y::L) I)(hp:Y.Perm X)(hr:Runs key s Y)(hsn:s<n){Q:Post}
  (hQ:∀ w' Y',St W0 w' F (RowP g n c Y'::L) I→Y'.Perm X→Runs key (s * 2) Y'→Q .normal [(0,.slice (some ⟨g,0,none⟩) n c),(1,.int .i64 n),(2,fv),(6,.int .i64 (s * 2:Nat))] w') :
  W Tryz.prog (c90S6 ()) [(0,.slice (some ⟨g,0,none⟩) n c),(1,.int .i64 n),(2,fv),(6,.int .i64 s)] w Q:=by
 simp (disch:=first|omega|exact zF rfl|exact zG rfl|exact fun h=>h|(simp only[zA,zB,zC,zD,bytesW];omega)) only[go_sem,c90L0,c90S2,c90S4,c90S6,c90L2,c90S7,c90S8]
 have hYl:Y.length=n:=by rw [hp.length_eq,hn]
 refine ⟨⟨by omega,by omega⟩,?_⟩
 refine W_loopU (fun z:List Value × List Value=>[(7,.int .i64 z.1.length),(8,.int .i64 ((z.1.length:Int)+2 * s))]) (fun z w'=>St W0 w' F (RowP g n c (z.1++z.2)::L) I∧(z.1++z.2).Perm X∧Full key (s * 2) z.1∧Runs key s z.2) (fun z=>z.2.length) ([],Y) (by simp [ovr,lk]) ⟨h,hp,.nil,hr⟩ ?_
 rintro ⟨D,R⟩ w2 ⟨s2,hp2,hf,hr2⟩
 simp only at s2 hp2 hf hr2
 have hl:D.length+R.length=n:=by rw [← List.length_append,hp2.length_eq,hn]
 by_cases hlt:D.length+2 * s≤n
 ·have hlt':(D.length:Int)+2 * s≤n:=by omega
  obtain ⟨U,R1,rfl,lu,ou,r1⟩:=hr2.split hs (by omega)
  rw [List.length_append] at hl
  obtain ⟨V,R2,rfl,lv,ov,r2⟩:=r1.split hs (by omega)
  rw [List.length_append] at hl
  simp (disch:=first|omega|exact zF rfl|exact zG rfl|exact fun h=>h|(simp only[zA,zB,zC,zD,bytesW];omega)) only[go_sem,c90L0,c90L1,c90S4,c90S6,c90L2,c90S7,c90S8,c90L1,hlt']
  have e1:((D.length:Int)+s)=((D.length+s:Nat):Int):=by omega
  have e2:((D.length:Int)+2 * s)=((D.length+2 * s:Nat):Int):=by omega
  rw [e1,e2]
  refine ⟨⟨by omega,by omega⟩,Ret.mono (symm_ok (hc.perm hp2) (hX.perm hp2) hy (by rw [hp2.length_eq,hn]) hn2 _ (A:=D) (U:=U) (V:=V) (D:=R2) (Nat.le_refl _) s2 (List.Perm.refl _) (by omega) (by omega) ou ov rfl (by omega) (by omega)) ?_⟩
  rintro _ w3 ⟨M,s3,pm,om⟩
  have hMl:M.length=2 * s:=by rw [pm.length_eq,List.length_append]; omega
  simp (disch:=first|omega|exact zF rfl|exact zG rfl|exact fun h=>h|(simp only[zA,zB,zC,zD,bytesW];omega)) only[go_sem,c90L0,c90S2,c90L1,c90S4,c90S6,c90L2,c90S7,c90S8]
  refine ⟨⟨by omega,by omega⟩,⟨by omega,by omega⟩,(D++M,R2),?_,⟨by simpa using s3,?_,.snoc hf (by omega) om,r2⟩,by simp only [List.length_append]; omega⟩
  ·simp only [List.length_append,hMl]
   have e3:((D.length+2 * s:Nat):Int)+2 * s=((D.length+2 * s:Nat):Int)+2 * (s:Int):=rfl
   simp [ovr,lk]
  ·have:=(List.Perm.append_left D (pm.append_right R2)).trans (by simpa using hp2)
   simpa using this
 ·have hlt':¬ (D.length:Int)+2 * s≤n:=by omega
  simp (disch:=first|omega|exact zF rfl|exact zG rfl|exact fun h=>h|(simp only[zA,zB,zC,zD,bytesW];omega)) only[go_sem,c90L0,c90S2,c90L1,c90S5,c90S6,c90L2,c90S7,c90S8,c90L1,hlt']
  have e1:((D.length:Int)+s)=((D.length+s:Nat):Int):=by omega
  refine ⟨⟨by omega,by omega⟩,?_⟩
  by_cases hm:D.length+s<n
  ·have hm':(D.length:Int)+s<n:=by omega
   obtain ⟨U,V,rfl,lu,ou,r1⟩:=hr2.split hs (by omega)
   rw [List.length_append] at hl
   have ov:=r1.short (by omega)
   simp (disch:=first|omega|exact zF rfl|exact zG rfl|exact fun h=>h|(simp only[zA,zB,zC,zD,bytesW];omega)) only[go_sem,c90L0,c90S2,c90L1,c90S5,c90S6,c90L2,c90S7,c90S8,hm']
   rw [e1]
   refine ⟨?_,fun h=>by omega⟩
   refine Ret.mono (symm_ok (hc.perm hp2) (hX.perm hp2) hy (by rw [hp2.length_eq,hn]) hn2 _ (A:=D) (U:=U) (V:=V) (D:=[]) (Nat.le_refl _) (by simpa using s2) (by simp) (by omega) (by omega) ou ov (a:=D.length) (m:=D.length+s) (b:=n) rfl (by omega) (by omega)) ?_
   rintro _ w3 ⟨M,s3,pm,om⟩
   have hMl:M.length=n - D.length:=by rw [pm.length_eq,List.length_append]; omega
   simp (disch:=first|omega|exact zF rfl|exact zG rfl|exact fun h=>h|(simp only[zA,zB,zC,zD,bytesW];omega)) only[go_sem,c90L0,c90S2,c90L1,c90S4,c90S5,c90S6,c90L2,c90S7,c90S8]
   rw [List.append_nil] at s3
   refine ⟨⟨by omega,by omega⟩,?_⟩
   have:=hQ _ _ s3 ((List.Perm.append_left D pm).trans hp2) (hf.runs (.last om (by omega)))
   exact this
  ·have hm':¬ (D.length:Int)+s<n:=by omega
   have ov:=hr2.short (by omega)
   simp (disch:=first|omega|exact zF rfl|exact zG rfl|exact fun h=>h|(simp only[zA,zB,zC,zD,bytesW];omega)) only[go_sem,c90L0,c90S2,c90L1,c90S4,c90S5,c90S6,c90L2,c90S7,c90S8,hm']
   refine fun _=>⟨⟨by omega,by omega⟩,?_⟩
   have:=hQ _ _ s2 hp2 (hf.runs (.last ov (by omega)))
   exact this
theorem stable_ok(h:St W0 w F (RowP g n c X::L) I)(hc:CmpOk W0 F L I g n c fv key X)(hX:PtrV X)(hy:noYV (some fv))(hn:X.length=n)(hn2:n≤100000) :
  Ret Tryz.prog 90 [.slice (some ⟨g,0,none⟩) n c,.int .i64 n,fv] w fun _ w'=>∃ Y,St W0 w' F (RowP g n c Y::L) I∧Y.Perm X∧Ordd key Y:=by
 refine ent90 _ _ _ _ _ ?_
 simp (disch:=first|omega|exact zF rfl|exact zG rfl|exact fun h=>h|(simp only[zA,zB,zC,zD,bytesW];omega)) only[go_sem,c90S2,c90L1,c90S4,c90S5,c90S6,c90L2,c90S7]
 refine W_loopU (fun z:List Value × List Value=>[(7,.int .i64 z.1.length),(8,.int .i64 (z.1.length+20:Nat))]) (fun z w'=>St W0 w' F (RowP g n c (z.1++z.2)::L) I∧(z.1++z.2).Perm X∧Full key 20 z.1) (fun z=>z.2.length) ([],X) rfl ⟨h,.refl _,.nil⟩ ?_
 rintro ⟨D,R⟩ w2 ⟨s2,hp,hf⟩
 simp only at s2 hp hf
 have hl:D.length+R.length=n:=by rw [← List.length_append,hp.length_eq,hn]
 by_cases hlt:D.length+20≤n
 ·have hlt':(D.length:Int)+20≤n:=by omega
  simp (disch:=first|omega|exact zF rfl|exact zG rfl|exact fun h=>h|(simp only[zA,zB,zC,zD,bytesW];omega)) only[go_sem,c90L0,c90S2,c90L1,c90S4,c90S5,c90S6,c90L2,c90S7,c90L0,hlt']
  have e2:((D.length:Int)+20)=((D.length+20:Nat):Int):=by omega
  rw [e2]
  refine Ret.mono (isort_ok (lo:=D.length) (hi:=D.length+20) s2 (hc.perm hp) (hX.perm hp) hy (by rw [List.length_append]; exact hl) hn2 (by omega) (by omega)) ?_
  rintro _ w3 ⟨M,s3,pm,om⟩
  simp (disch:=first|omega|exact zF rfl|exact zG rfl|exact fun h=>h|(simp only[zA,zB,zC,zD,bytesW];omega)) only[go_sem,c90L0,c90S2,c90L1,c90S4,c90S5,c90S6,c90L2,c90S7]
  have eA:(D++R).take D.length=D:=by rw [List.take_append_of_le_length (Nat.le_refl _),List.take_length]
  have eB:(D++R).drop (D.length+20)=R.drop 20:=by rw [List.drop_append]; simp
  have eC:((D++R).take (D.length+20)).drop D.length=R.take 20:=by rw [List.take_length_add_append,List.drop_append_of_le_length (Nat.le_refl _),List.drop_length,List.nil_append]
  rw [eA,eB] at s3
  rw [eC] at pm
  have hMl:M.length=20:=by rw [pm.length_eq,List.length_take]; omega
  refine ⟨⟨by omega,by omega⟩,(D++M,R.drop 20),?_,⟨by simpa using s3,?_,.snoc hf hMl om⟩,by simp only [List.length_drop]; omega⟩
  ·simp [hMl]
  ·have:=List.Perm.append_left D (pm.append_right (R.drop 20))
   rw [List.take_append_drop] at this
   simpa using this.trans hp
 ·have hlt':¬ (D.length:Int)+20≤n:=by omega
  simp (disch:=first|omega|exact zF rfl|exact zG rfl|exact fun h=>h|(simp only[zA,zB,zC,zD,bytesW];omega)) only[go_sem,c90L0,c90S2,c90L1,c90S4,c90S5,c90S6,c90L2,c90S8,c90L0,hlt']
  refine Ret.mono (isort_ok (lo:=D.length) (hi:=n) s2 (hc.perm hp) (hX.perm hp) hy (by rw [List.length_append]; exact hl) hn2 (by omega) (by omega)) ?_
  rintro _ w3 ⟨M,s3,pm,om⟩
  simp (disch:=first|omega|exact zF rfl|exact zG rfl|exact fun h=>h|(simp only[zA,zB,zC,zD,bytesW];omega)) only[go_sem,c90L0,c90S2,c90L1,c90S4,c90S5,c90S6,c90S7,c90S8]
  have eA:(D++R).take D.length=D:=by rw [List.take_append_of_le_length (Nat.le_refl _),List.take_length]
  have eB:(D++R).drop n=[]:=List.drop_of_length_le (by rw [List.length_append]; omega)
  have eC:((D++R).take n).drop D.length=R:=by rw [List.take_of_length_le (by rw [List.length_append]; omega),List.drop_append_of_le_length (Nat.le_refl _),List.drop_length,List.nil_append]
  rw [eA,eB,List.append_nil] at s3
  rw [eC] at pm
  have hMl:M.length=R.length:=pm.length_eq
  refine W_loopU (fun z:Nat × List Value=>[(6,.int .i64 z.1)]) (fun z w'=>St W0 w' F (RowP g n c z.2::L) I∧z.2.Perm X∧Runs key z.1 z.2∧0<z.1∧z.1≤400000) (fun z=>n - z.1) (20,D++M) rfl ⟨s3,(List.Perm.append_left D pm).trans hp,hf.runs (.last om (by omega)),by simp only; omega,by simp only; omega⟩ ?_
  rintro ⟨s,Y⟩ w4 ⟨s4,p4,r4,q1,q2⟩
  simp only at s4 p4 r4 q1 q2
  by_cases hlt2:s<n
  ·have hlt2':(s:Int)<n:=by omega
   simp (disch:=first|omega|exact zF rfl|exact zG rfl|exact fun h=>h|(simp only[zA,zB,zC,zD,bytesW];omega)) only[go_sem,c90L0,c90S2,c90L1,c90S4,c90S5,c90L2,c90S7,c90S8,c90L2,hlt2']
   refine stable_in hc hX hy hn hn2 q1 s4 p4 r4 hlt2 ?_
   intro w5 Y' s5 p5 r5
   simp (disch:=first|omega|exact zF rfl|exact zG rfl|exact fun h=>h|(simp only[zA,zB,zC,zD,bytesW];omega)) only[go_sem,c90L0,c90S2,c90L1,c90S4,c90S5,c90S6,c90L2,c90S7,c90S8]
   exact ⟨(s * 2,Y'),by simp,⟨s5,p5,r5,by simp only; omega,by simp only; omega⟩,by simp only; omega⟩
  ·have hlt2':¬ (s:Int)<n:=by omega
   simp (disch:=first|omega|exact zF rfl|exact zG rfl|exact fun h=>h|(simp only[zA,zB,zC,zD,bytesW];omega)) only[go_sem,c90L0,c90S2,c90L1,c90S4,c90S5,c90S6,c90L2,c90S7,c90S8,c90L2,hlt2']
   exact ⟨Y,s4,p4,r4.short (by rw [p4.length_eq,hn]; omega)⟩
end
open Go Go.Ann Go.RowKit
theorem mvE_len(m:Int × Nat):(mvE m).length=2:=rfl
def firstM(p:Int × Nat→Bool)(l:List (Int × Nat)):Int:=match l.findIdx? p with | some i=>i | none => -1
theorem firstM_at{p:Int × Nat→Bool}{l:List (Int × Nat)}{k:Nat}(h:k<l.length)(hp:p l[k]=true)(hb:∀ j,(h:j<l.length)→j<k→p l[j]=false):firstM p l=k:=by
 unfold firstM
 rw [List.findIdx?_eq_some_iff_getElem.2 ⟨h,hp,fun j hj=>by rw [hb j (by omega) hj]; decide⟩]
theorem firstM_none{p:Int × Nat→Bool}{l:List (Int × Nat)}(hb:∀ j,(h:j<l.length)→p l[j]=false):firstM p l = -1:=by
 unfold firstM
 rw [List.findIdx?_eq_none_iff.2 fun x hx=>by obtain ⟨j,hj,rfl⟩:=List.mem_iff_getElem.1 hx; exact hb j hj]
theorem firstM_any{p:Int × Nat→Bool}{l:List (Int × Nat)}:decide (0≤firstM p l)=l.any p:=by
 rcases h:l.any p with _ | _
 ·rw [firstM_none fun j hj=>by simpa using (List.any_eq_false.1 h) _ (List.getElem_mem hj)]; decide
 ·unfold firstM
  cases e:l.findIdx? p with
  | none=>rw [List.findIdx?_eq_none_iff] at e; obtain ⟨x,hx,hp⟩:=List.any_eq_true.1 h; rw [e x hx] at hp; cases hp
  | some i=>exact decide_eq_true (by show (0:Int)≤(i:Int); omega)
def TellsM(w:World)(fv:Value)(l:List (Int × Nat))(p:Int × Nat→Bool):Prop:=∀ x∈l,∀ w',Below w.heap.size w w'→callW Tryz.prog fv [.agg (mvE x).toArray] w' fun u w''=>u=.bool (p x)∧Below w'.heap.size w' w''
theorem indexM_ok(fv:Value)(p:Int × Nat→Bool)(v:Value)(l:List (Int × Nat))(w:World)(h:RdS w 2 mvE v l)(hf:TellsM w fv l p)(hl:l.length≤1000000) :
  Ret Tryz.prog 91 [v,fv] w fun u w'=>u=.int .i64 (firstM p l)∧Below w.heap.size w w':=by
 obtain ⟨a,c,rfl,_⟩:=h.form
 refine ent91 _ _ _ _ ?_
 simp (disch:=first|omega|exact zF rfl|exact zG rfl|exact fun h=>h|(simp only[zA,zB,zC,zD,bytesW];omega)) only[go_sem]
 refine W_loopU (fun k:Nat=>[(8,.int .i64 k)]) (fun k w'=>Below w.heap.size w w'∧k≤l.length∧∀ j,(h:j<l.length)→j<k→p l[j]=false) (fun k=>l.length - k) 0 rfl ⟨Below.refl _ _,Nat.zero_le _,fun j _ h=>by omega⟩ ?_
 rintro k w1 ⟨hw,hk,he⟩
 by_cases hlt:k<l.length
 ·obtain ⟨q,rfl⟩:=h.ptr (by omega)
  have ek:=h.eltB hw mvE_len (by decide) hlt
  have ck:=cellsO_below hw (h.at mvE_len hlt)
  have hlt':(k:Int)<l.length:=by omega
  simp (disch:=first|omega|exact zF rfl|exact zG rfl|exact fun h=>h|(simp only[zA,zB,zC,zD,bytesW];omega)) only[go_sem,hlt',ck,ek]
  refine ⟨by omega,callW_mono (hf _ (List.getElem_mem hlt) _ hw) ?_⟩
  rintro _ w2 ⟨rfl,hb⟩
  simp (disch:=first|omega|exact zF rfl|exact zG rfl|exact fun h=>h|(simp only[zA,zB,zC,zD,bytesW];omega)) only[go_sem,hlt']
  have hwt:=hw.trans (hb.mono hw.size)
  refine ⟨fun hp=>⟨(firstM_at hlt hp he).symm,hwt⟩,fun hp=>⟨⟨by omega,by omega⟩,k+1,rfl,⟨hwt,by omega,fun j h1 h2=>?_⟩,by omega⟩⟩
  rcases Nat.lt_or_ge j k with h' | h'
  ·exact he j h1 h'
  ·obtain rfl:j=k:=by omega
   exact hp
 ·have hlt':¬ (k:Int)<l.length:=by omega
  simp (disch:=first|omega|exact zF rfl|exact zG rfl|exact fun h=>h|(simp only[zA,zB,zC,zD,bytesW];omega)) only[go_sem,hlt']
  exact ⟨(firstM_none fun j h=>he j h (by omega)).symm,hw⟩
theorem containsM_ok(fv:Value)(p:Int × Nat→Bool)(v:Value)(l:List (Int × Nat))(w:World)(h:RdS w 2 mvE v l)(hf:TellsM w fv l p)(hl:l.length≤1000000) :
  Ret Tryz.prog 65 [v,fv] w fun u w'=>u=.bool (l.any p)∧Below w.heap.size w w':=by
 refine ent65 _ _ _ _ ?_
 simp (disch:=first|omega|exact zF rfl|exact zG rfl|exact fun h=>h|(simp only[zA,zB,zC,zD,bytesW];omega)) only[go_sem]
 refine Ret.mono (indexM_ok _ p _ _ _ h hf hl) ?_
 rintro _ w1 ⟨rfl,hb⟩
 simp (disch:=first|omega|exact zF rfl|exact zG rfl|exact fun h=>h|(simp only[zA,zB,zC,zD,bytesW];omega)) only[go_sem]
 exact ⟨firstM_any,hb⟩
theorem sum_take{d:List Nat}{k:Nat}(hk:k<d.length):(d.take (k+1)).sum=(d.take k).sum+d.getD k 0:=by
 rw [List.take_succ_eq_append_getElem hk,List.sum_append]
 simp [List.getD_eq_getElem?_getD,List.getElem?_eq_getElem hk]
theorem sum_le{m:Nat}:∀ {d:List Nat},(∀ n∈d,n≤m)→d.sum≤m * d.length
 | [],_=>by simp
 | n::d,h=>by
  have h1:=sum_le (d:=d) fun x hx=>h x (List.mem_cons_of_mem _ hx)
  have h2:=h n List.mem_cons_self
  rw [List.sum_cons,List.length_cons,Nat.mul_add]
  omega
theorem mark1_ok{w:World}{b:Nat}{dv c1 c2 c3 c4:Value}{d:List Nat}(hB:Blk w b #[dv,c1,c2,c3,c4] 64)(hd:RdS w 1 intE dv (zN d))(hl:d.length≤1000)(hv:∀ n∈d,n≤1000) :
  Ret Tryz.prog 61 [.pointer (some ⟨b,0,none⟩)] w fun u w'=>u=.int .i64 (d.sum:Nat)∧w'=w:=by
 obtain ⟨a,c,rfl,_⟩:=hd.form
 rw [zN_len] at hd hB
 have r:=hB.rules
 refine ent61 _ _ _ ?_
 simp (disch:=first|omega|exact zF rfl|exact zG rfl|exact fun h=>h|(simp only[zA,zB,zC,zD,bytesW];omega)) only[go_sem,r]
 refine W_loopU (fun k:Nat=>[(3,.int .i64 ((d.take k).sum:Nat)),(11,.int .i64 k)]) (fun k w'=>w'=w∧k≤d.length) (fun k=>d.length - k) 0 rfl ⟨rfl,Nat.zero_le _⟩ ?_
 rintro k _ ⟨rfl,hk⟩
 by_cases hlt:k<d.length
 ·have hlt':(k:Int)<d.length:=by omega
  obtain ⟨q,rfl⟩:=hd.ptr (by rw [zN_len]; omega)
  have e3:=zN_cell hd hlt
  have hs:=sum_le (d:=d.take k) (m:=1000) fun n hn=>hv n (List.mem_of_mem_take hn)
  rw [List.length_take] at hs
  have hkv:d.getD k 0≤1000:=by
   rw [List.getD_eq_getElem?_getD,List.getElem?_eq_getElem hlt]
   exact hv _ (List.getElem_mem hlt)
  have es:=sum_take hlt
  simp (disch:=first|omega|exact zF rfl|exact zG rfl|exact fun h=>h|(simp only[zA,zB,zC,zD,bytesW];omega)) only[go_sem,c61L0,c61L0,hlt',e3]
  refine ⟨by omega,⟨by omega,by omega⟩,⟨by omega,by omega⟩,k+1,?_,by omega,by omega⟩
  rw [es]; rfl
 ·have hlt':¬ (k:Int)<d.length:=by omega
  obtain rfl:k=d.length:=by omega
  simp (disch:=first|omega|exact zF rfl|exact zG rfl|exact fun h=>h|(simp only[zA,zB,zC,zD,bytesW];omega)) only[go_sem,c61L0,c61L0,hlt']
  rw [List.take_length]
theorem mark2_ok{w:World}{s a b:Nat}{dv c1 c2 c3 c4 ev e1 e2 e3 e4:Value}{d e:List Nat}(hs:Blk w s #[.func (.func 61) #[] #[]] 107)(hA:Blk w a #[dv,c1,c2,c3,c4] 64)(hB:Blk w b #[ev,e1,e2,e3,e4] 64)(hd:RdS w 1 intE dv (zN d))(he:RdS w 1 intE ev (zN e))(hl:d.length≤1000)(hv:∀ n∈d,n≤1000)(hl2:e.length≤1000)(hv2:∀ n∈e,n≤1000) :
  Ret Tryz.prog 64 [ptV a,ptV b,.pointer (some ⟨s,0,none⟩)] w fun u w'=>u=.int .i64 (Cut.cmpI (e.sum:Nat) (d.sum:Nat))∧Below w.heap.size w w':=by
 have r:=hs.rules
 have r':=hs.drew.rules
 have ls:=hs.lt
 refine ent64 _ _ _ _ _ ?_
 unfold ptV
 simp (disch:=first|omega|exact zF rfl|exact zG rfl|exact fun h=>h|(simp only[zA,zB,zC,zD,bytesW];omega)) only[go_sem]
 refine c64draw0 (Chg (fun _=>False) _) (Chg.refl _ _) ?_
 simp (disch:=first|omega|exact zF rfl|exact zG rfl|exact fun h=>h|(simp only[zA,zB,zC,zD,bytesW];omega)) only[go_sem,c64D0,r,r']
 refine Ret.mono (mark1_ok hB.drew (he.below ((Below.refl _ _).drew) (by decide)) hl2 hv2) ?_
 rintro _ _ ⟨rfl,rfl⟩
 simp (disch:=first|omega|exact zF rfl|exact zG rfl|exact fun h=>h|(simp only[zA,zB,zC,zD,bytesW];omega)) only[go_sem,c64D0,r,r']
 refine Ret.mono (mark1_ok hA.drew (hd.below ((Below.refl _ _).drew) (by decide)) hl hv) ?_
 rintro _ _ ⟨rfl,rfl⟩
 simp (disch:=first|omega|exact zF rfl|exact zG rfl|exact fun h=>h|(simp only[zA,zB,zC,zD,bytesW];omega)) only[go_sem,c64D0,r,r']
 refine Ret.mono (Cut.compare_ok _ _ _) ?_
 rintro _ _ ⟨rfl,rfl⟩
 simp (disch:=first|omega|exact zF rfl|exact zG rfl|exact fun h=>h|(simp only[zA,zB,zC,zD,bytesW];omega)) only[go_sem,c64D0,r,r']
 first | exact (Below.refl _ _).drew | trace_state
theorem mark3_ok{W0 w:World}{F:Nat→Prop}{L:List Res}{I:List Inv}{P:List (List OpT)}{x pl m bx:Nat}{mst:Int}{pv tv:Value}{N:List Nd}(h:St W0 w F (SX P x pl m mst pv tv N++L) I)(hb:Blk w bx #[.pointer (some ⟨x,0,none⟩)] 54){a:Int × Nat}(ha:a.2<N.length)(hN:N.length≤1000000) :
  Ret Tryz.prog 66 [.agg (mvE a).toArray,.pointer (some ⟨bx,0,none⟩)] w fun u w'=>u=.bool N[a.2].gd∧Below w.heap.size w w':=by
 obtain ⟨ai,ak⟩:=a
 simp only at ha ⊢
 obtain ⟨ta,tc,rfl,_⟩:=own_slice (h.row 1 rfl)
 obtain ⟨g,rfl⟩:=own_ptr (h.row 1 rfl) (by omega)
 refine ent66 _ _ _ _ ?_
 unfold mvE
 simp (disch:=first|omega|exact zF rfl|exact zG rfl|exact fun h=>h|(simp only[zA,zB,zC,zD,bytesW];omega)) only[go_sem]
 have s1:=(h.alloc' (.cells #[.int .i64 ai,.int .i64 (ak:Nat)] 113)).drew
 have r1:=s1.rules 0 rfl
 have q1:=(hb.alloc (.cells #[.int .i64 ai,.int .i64 (ak:Nat)] 113)).drew.rules
 have hlt':(ak:Int)<N.length:=by omega
 have ec:=(own_cell (s1.row 1 rfl)).1 ak (ptV N[ak].b) (by rw [List.getElem?_map,List.getElem?_eq_getElem ha]; rfl)
 have n1:=(sx_blk s1 ha).rules
 have lb:=hb.lt
 unfold ptV at ec
 refine c66draw0 ?_
 simp (disch:=first|omega|exact zF rfl|exact zG rfl|exact fun h=>h|(simp only[zA,zB,zC,zD,bytesW];omega)) only[go_sem,c66D0,r1,q1,n1,ec,hlt']
 exact ⟨by omega,by (repeat' (first | with_reducible exact Below.refl _ _ | with_reducible assumption | (with_reducible refine Below.drew ?_) | (with_reducible refine Below.alloc ?_ ?_ _) | (with_reducible refine Below.setCell ?_ ?_ _) | (with_reducible refine Below.fill ?_ ?_) | (with_reducible refine Below.via (by assumption) ?_ ?_) | omega | (simp only [World.size_alloc,World.size_drew,World.size_setCell,size_fill,bytesW]; omega)))⟩
open Go Go.Ann Go.RowKit
def markN(P:List (List OpT))(obs:List Int)(D:List Nat)(N:List Nd):List Nd:=N.map fun n=>if n.b∈D then { n with gd:=(bestS P obs n.sp).isSome } else n
theorem markN_nil(P:List (List OpT))(obs:List Int)(N:List Nd):markN P obs [] N=N:=by simp [markN]
theorem markN_len(P:List (List OpT))(obs:List Int)(D:List Nat)(N:List Nd):(markN P obs D N).length=N.length:=by simp [markN]
theorem markN_at{P:List (List OpT)}{obs:List Int}{D:List Nat}{N:List Nd}{i:Nat}(hi:i<(markN P obs D N).length):(markN P obs D N)[i]=if (N[i]'(by rw [markN_len] at hi; exact hi)).b∈D then { (N[i]'(by rw [markN_len] at hi; exact hi)) with gd:=(bestS P obs (N[i]'(by rw [markN_len] at hi; exact hi)).sp).isSome } else N[i]'(by rw [markN_len] at hi; exact hi):=by simp [markN]
theorem markN_sp(P:List (List OpT))(obs:List Int)(D:List Nat)(N:List Nd):(markN P obs D N).map Nd.sp=N.map Nd.sp:=by
 unfold markN
 rw [List.map_map]
 refine List.map_congr_left fun n _=>?_
 simp only [Function.comp]
 split <;> rfl
theorem markN_is{P:List (List OpT)}{obs:List Int}{D:List Nat}{N:List Nd}{i:Nat}(hi:i<N.length):∃ g,(markN P obs D N)[i]?=some { N[i] with gd:=g }:=by
 rw [List.getElem?_eq_getElem (by rw [markN_len]; exact hi),markN_at]
 split
 ·exact ⟨_,rfl⟩
 ·exact ⟨N[i].gd,rfl⟩
theorem markN_set{P:List (List OpT)}{obs:List Int}{D:List Nat}{N:List Nd}(hn:(N.map Nd.b).Nodup){i:Nat}(hi:i<N.length) :
  (markN P obs D N).set i { N[i] with gd:=(bestS P obs N[i].sp).isSome }=markN P obs (D++[N[i].b]) N:=by
 refine List.ext_getElem (by simp [markN_len]) fun j h1 h2=>?_
 have hj:j<N.length:=by simpa [markN_len] using h2
 rw [List.getElem_set,markN_at,markN_at]
 by_cases e:i=j
 ·subst e
  rw [if_pos rfl,if_pos (by simp)]
 ·rw [if_neg e]
  have hne:N[j].b≠N[i].b:=fun h=>by
   have:=(List.nodup_iff_pairwise_ne.1 hn)
   rcases Nat.lt_or_gt_of_ne e with h1 | h1
   ·exact (List.pairwise_iff_getElem.1 this) i j (by simpa using hi) (by simpa using hj) h1 (by simpa using h.symm)
   ·exact (List.pairwise_iff_getElem.1 this) j i (by simpa using hj) (by simpa using hi) h1 (by simpa using h)
  by_cases hm:N[j].b∈D
  ·rw [if_pos hm,if_pos (by simp [hm])]
  ·rw [if_neg hm,if_neg (by simp [hm,hne])]
def keyB(N:List Nd)(b:Nat):Int:=match N.find? fun n=>n.b == b with
 | some n => - (n.sp.done.sum:Int)
 | none=>0
def unptV(v:Value):Nat:=match v with
 | .pointer (some a)=>a.block
 | _=>0
def keyN(N:List Nd)(v:Value):Int:=keyB N (unptV v)
theorem nd_same{N:List Nd}(hn:(N.map Nd.b).Nodup){i j:Nat}(hi:i<N.length)(hj:j<N.length)(h:N[j].b=N[i].b):j=i:=by
 have hp:=List.pairwise_iff_getElem.1 (List.nodup_iff_pairwise_ne.1 hn)
 rcases Nat.lt_trichotomy j i with h1 | h1 | h1
 ·exact absurd h (by have:=hp j i (by simpa using hj) (by simpa using hi) h1; simpa using this)
 ·exact h1
 ·exact absurd h.symm (by have:=hp i j (by simpa using hi) (by simpa using hj) h1; simpa using this)
theorem keyN_at{N:List Nd}(hn:(N.map Nd.b).Nodup){i:Nat}(hi:i<N.length):keyN N (ptV N[i].b) = - (N[i].sp.done.sum:Int):=by
 show keyB N N[i].b=_
 unfold keyB
 cases e:N.find? fun n=>n.b == N[i].b with
 | none =>
  have:=List.find?_eq_none.1 e _ (List.getElem_mem hi)
  simp at this
 | some n =>
  have h1:=List.find?_some e
  have h2:=List.mem_of_find?_eq_some e
  obtain ⟨j,hj,rfl⟩:=List.mem_iff_getElem.1 h2
  have:j=i:=nd_same hn hi hj (by simpa using h1)
  subst this
  rfl
theorem sx_nodup{W0 w:World}{F:Nat→Prop}{L:List Res}{I:List Inv}{P:List (List OpT)}{x pl m:Nat}{mst:Int}{pv tv:Value}{N:List Nd}(h:St W0 w F (SX P x pl m mst pv tv N++L) I):(N.map Nd.b).Nodup:=by
 have hs:∀ N:List Nd,(N.map Nd.b).Sublist ((N.flatMap (ndR P)).filterMap Res.own):=fun N=>by
  induction N with
  | nil=>exact List.Sublist.refl _
  | cons n N ih =>
   rw [List.map_cons,List.flatMap_cons,List.filterMap_append]
   have:[n.b].Sublist ((ndR P n).filterMap Res.own):=by
    unfold ndR
    rw [List.filterMap_cons]
    simp only [Res.own]
    exact List.Sublist.cons_cons _ (List.nil_sublist _)
   exact this.append ih
 have h1:=h.nd
 unfold SX at h1
 refine List.Nodup.sublist ?_ h1
 rw [List.filterMap_append]
 refine List.Sublist.trans ?_ (List.sublist_append_left _ _)
 refine (hs N).trans ?_
 exact List.Sublist.filterMap _ ((List.sublist_cons_self _ _).trans ((List.sublist_cons_self _ _).trans (List.sublist_cons_self _ _)))
theorem mark_any{P:List (List OpT)}{obs:List Int}{N:List Nd}{D:List Nat}{i:Nat}(hi:i<N.length)(hd:N[i].sp.done.length=P.length)(hx:NxR (N.map Nd.sp) N[i].nx (mvsP P obs N[i].sp))(hb:(N.map Nd.b).Nodup)
  (hall:∀ j,(hj:j<N.length)→N[j].sp.done.sum=N[i].sp.done.sum+1→N[j].b∈D) :
  (endsP P N[i].sp.done || N[i].nx.any fun a=>match (markN P obs D N)[a.2]? with | some n=>n.gd | none=>false)=(bestS P obs N[i].sp).isSome:=by
 rw [good_step]
 congr 1
 have key:∀ a∈N[i].nx,∀ m∈mvsP P obs N[i].sp,(N.map Nd.sp)[a.2]?=some m.2→(match (markN P obs D N)[a.2]? with | some n=>n.gd | none=>false)=(bestS P obs m.2).isSome:=fun a ha m hm e=>by
  rw [List.getElem?_map] at e
  cases hN:N[a.2]? with
  | none=>rw [hN] at e; cases e
  | some n =>
   rw [hN] at e
   have e:n.sp=m.2:=Option.some.inj e
   obtain ⟨hl,rfl⟩:=List.getElem?_eq_some_iff.1 hN
   have hs:=mv_sum hd hm
   rw [← e] at hs
   have hD:=hall _ hl hs
   rw [List.getElem?_eq_getElem (by rw [markN_len]; exact hl),markN_at,if_pos hD]
   simp only
   rw [e]
 rw [Bool.eq_iff_iff,List.any_eq_true,List.any_eq_true]
 constructor
 ·rintro ⟨a,ha,h⟩
  obtain ⟨m,hm,e1,e2⟩:=hx.mem ha
  exact ⟨m,hm,by rw [← key a ha m hm e2]; exact h⟩
 ·rintro ⟨m,hm,h⟩
  obtain ⟨a,ha,e1,e2⟩:=hx.mem' hm
  exact ⟨a,ha,by rw [key a ha m hm e2]; exact h⟩
open Go Go.Ann Go.RowKit
def goodA(N:List Nd)(a:Int × Nat):Bool:=match N[a.2]? with | some n=>n.gd | none=>false
def pickF(N:List Nd)(b a:Int × Nat):Int × Nat:=if goodA N a=true∧(b.1<0∨a.1<b.1) then a else b
def pickM(N:List Nd)(l:List (Int × Nat)):Int × Nat:=l.foldl (pickF N) (-1,0)
theorem pickM_succ(N:List Nd){l:List (Int × Nat)}{k:Nat}(hk:k<l.length):pickM N (l.take (k+1))=pickF N (pickM N (l.take k)) l[k]:=by
 unfold pickM
 rw [List.take_succ_eq_append_getElem hk,List.foldl_append]
 rfl
theorem pickM_is(N:List Nd){l:List (Int × Nat)}(h0:∀ a∈l,0≤a.1):(pickM N l=(-1,0)∧∀ a∈l,goodA N a=false)∨(pickM N l∈l∧goodA N (pickM N l)=true∧∀ a∈l,goodA N a=true→(pickM N l).1≤a.1):=by
 have:∀ (l:List (Int × Nat)) (k:Nat),k≤l.length→(∀ a∈l,0≤a.1)→(pickM N (l.take k)=(-1,0)∧∀ a∈l.take k,goodA N a=false)∨(pickM N (l.take k)∈l.take k∧goodA N (pickM N (l.take k))=true∧∀ a∈l.take k,goodA N a=true→(pickM N (l.take k)).1≤a.1):=by
  intro l k
  induction k with
  | zero=>exact fun _ _=>.inl ⟨rfl,fun a ha=>by simp at ha⟩
  | succ k ih =>
   intro hk h0
   have hlt:k<l.length:=by omega
   have ih:=ih (by omega) h0
   have e:=pickM_succ N hlt
   have ht:∀ a,a∈l.take (k+1)↔a∈l.take k∨a=l[k]:=fun a=>by rw [List.take_succ_eq_append_getElem hlt,List.mem_append,List.mem_singleton]
   have h0k:=h0 _ (List.getElem_mem hlt)
   rw [e]
   unfold pickF
   rcases ih with ⟨i1,i2⟩ | ⟨i1,i2,i3⟩
   ·by_cases hg:goodA N l[k]=true
    ·rw [if_pos ⟨hg,.inl (by rw [i1]; decide)⟩]
     refine .inr ⟨(ht _).2 (.inr rfl),hg,fun a ha hga=>?_⟩
     rcases (ht a).1 ha with h | rfl
     ·rw [i2 a h] at hga; cases hga
     ·exact Int.le_refl _
    ·rw [if_neg fun h=>hg h.1]
     refine .inl ⟨i1,fun a ha=>?_⟩
     rcases (ht a).1 ha with h | rfl
     ·exact i2 a h
     ·simpa using hg
   ·have hb0:0≤(pickM N (l.take k)).1:=h0 _ (List.mem_of_mem_take i1)
    by_cases hg:goodA N l[k]=true∧l[k].1<(pickM N (l.take k)).1
    ·rw [if_pos ⟨hg.1,.inr hg.2⟩]
     refine .inr ⟨(ht _).2 (.inr rfl),hg.1,fun a ha hga=>?_⟩
     rcases (ht a).1 ha with h | rfl
     ·have:=i3 a h hga; omega
     ·exact Int.le_refl _
    ·rw [if_neg fun h=>hg ⟨h.1,h.2.elim (fun h=>absurd h (Int.not_lt.2 hb0)) id⟩]
     refine .inr ⟨(ht _).2 (.inl i1),i2,fun a ha hga=>?_⟩
     rcases (ht a).1 ha with h | rfl
     ·exact i3 a h hga
     ·exact Int.not_lt.1 fun h=>hg ⟨hga,h⟩
 have:=this l l.length (Nat.le_refl _) h0
 rw [List.take_length] at this
 exact this
theorem mvs_mem{P:List (List OpT)}{obs:List Int}{s:Sp}{m:Int × Sp}(h:m∈mvsP P obs s):∃ k,mvP P obs s k=some m:=by
 unfold mvsP at h
 obtain ⟨k,_,e⟩:=List.mem_filterMap.1 h
 exact ⟨k,e⟩
theorem least_step{P:List (List OpT)}{obs:List Int}{N:List Nd}{n:Nd}(hg:∀ n∈N,n.gd=(bestS P obs n.sp).isSome)(hx:NxR (N.map Nd.sp) n.nx (mvsP P obs n.sp))(hid:∀ k,∀ o∈P.getD k [],0≤o.ID)
  (hone:∀ d k k' o o',opAt P d k=some o→opAt P d k'=some o'→o.ID=o'.ID→k=k') {y:List Int} (he:¬ endsP P n.sp.done=true) (hb:bestS P obs n.sp=some y) :
  ∃ n' z,N[(pickM N n.nx).2]?=some n'∧y=(pickM N n.nx).1::z∧bestS P obs n'.sp=some z∧pickM N n.nx∈n.nx:=by
 obtain ⟨m,hm,z,rfl,hz,hmin⟩:=best_first he hb
 have h0:∀ a∈n.nx,0≤a.1:=fun a ha=>by
  obtain ⟨m',hm',e,_⟩:=hx.mem ha
  obtain ⟨k,hk⟩:=mvs_mem hm'
  obtain ⟨o,ho,e2⟩:=mvP_op hk
  rw [← e,e2]
  exact hid k o (mem_opAt ho).2
 have hgd:∀ a∈n.nx,∀ s,(N.map Nd.sp)[a.2]?=some s→∃ n',N[a.2]?=some n'∧n'.sp=s∧goodA N a=(bestS P obs s).isSome:=fun a ha s hs=>by
  rw [List.getElem?_map] at hs
  unfold goodA
  cases hN:N[a.2]? with
  | none=>rw [hN] at hs; cases hs
  | some n' =>
   rw [hN] at hs
   have hs:n'.sp=s:=Option.some.inj hs
   exact ⟨n',rfl,hs,by simp only; rw [hg n' (List.mem_of_getElem? hN),hs]⟩
 obtain ⟨a,ha,ea,ea2⟩:=hx.mem' hm
 obtain ⟨na,_,_,ga⟩:=hgd a ha _ ea2
 rw [hz] at ga
 rcases pickM_is N h0 with ⟨_,hno⟩ | ⟨p1,p2,p3⟩
 ·rw [hno a ha] at ga; cases ga
 ·have h1:=p3 a ha ga
  obtain ⟨mb,hmb,eb,eb2⟩:=hx.mem p1
  obtain ⟨nb,hnb,hnb2,gb⟩:=hgd _ p1 _ eb2
  rw [p2] at gb
  have h2:=hmin mb hmb gb.symm
  obtain ⟨k,hk⟩:=mvs_mem hm
  obtain ⟨k',hk'⟩:=mvs_mem hmb
  obtain ⟨o,ho,e1⟩:=mvP_op hk
  obtain ⟨o',ho',e2⟩:=mvP_op hk'
  have:k=k':=hone _ _ _ _ _ ho ho' (by rw [← e1,← e2]; omega)
  subst this
  have:m=mb:=Option.some.inj (hk.symm.trans hk')
  subst this
  exact ⟨nb,z,hnb,by rw [← eb],by rw [hnb2]; exact hz,p1⟩
theorem least_ok{W0 w:World}{F:Nat→Prop}{L:List Res}{I:List Inv}{P:List (List OpT)}{obs:List Int}{x pl m:Nat}{mst:Int}{pv tv:Value}{N:List Nd}{n0:Nd}{ids:List Int}
  (h:St W0 w F (SX P x pl m mst pv tv N++L) I) (hg:∀ n∈N,n.gd=(bestS P obs n.sp).isSome) (hx:∀ n∈N,NxR (N.map Nd.sp) n.nx (mvsP P obs n.sp)) (hid:∀ k,∀ o∈P.getD k [],0≤o.ID)
  (hone:∀ d k k' o o',opAt P d k=some o→opAt P d k'=some o'→o.ID=o'.ID→k=k') (h0:N[0]?=some n0) (hb:bestS P obs n0.sp=some ids) (hNl:N.length≤40000) (hil:ids.length≤1000) (hnl:∀ n∈N,n.nx.length≤1000) :
  Ret Tryz.prog 32 [.pointer (some ⟨x,0,none⟩)] w fun u w'=>St W0 w' F (.row u 3 1 ids.length (ids.flatMap intE)::(SX P x pl m mst pv tv N++L)) I:=by
 obtain ⟨ta,tc,rfl,_⟩:=own_slice (h.row 1 rfl)
 obtain ⟨hl0,e0⟩:=List.getElem?_eq_some_iff.1 h0
 obtain ⟨tg,rfl⟩:=own_ptr (h.row 1 rfl) (by omega)
 refine ent32 _ _ _ ?_
 have r:=h.rules 0 rfl
 have ec:=(own_cell (h.row 1 rfl)).1 0 (ptV n0.b) (by rw [List.getElem?_map,h0]; rfl)
 unfold ptV at ec
 simp (disch:=first|omega|exact zF rfl|exact zG rfl|exact fun h=>h|(simp only[zA,zB,zC,zD,bytesW];omega)) only[go_sem,c32S0,c32L0,c32S3,c32S4,r,ec]
 refine ⟨by omega,?_⟩
 refine W_loopU (fun z:Nd × List Int × Value=>[(3,z.2.2),(4,.pointer (some ⟨z.1.b,0,none⟩))]) (fun z w'=>St W0 w' F (.row z.2.2 3 1 z.2.1.length (z.2.1.flatMap intE)::(SX P x pl m mst pv (.slice (some ⟨tg,0,none⟩) N.length tc) N++L)) I∧(∃ i,N[i]?=some z.1)∧∃ y,bestS P obs z.1.sp=some y∧z.2.1++y=ids) (fun z=>ids.length - z.2.1.length) (n0,[],.slice none 0 0) rfl ⟨h.nilRow 3 1,⟨0,h0⟩,ids,hb,rfl⟩ ?_
 rintro ⟨n,acc,v⟩ w2 ⟨s2,⟨i,hi⟩,y,hy,hacc⟩
 simp only at s2 hi hy hacc
 obtain ⟨hil,hNi⟩:=List.getElem?_eq_some_iff.1 hi
 have rn:=(sx_blk (s2.sub (List.sublist_cons_self _ _)) hil).rules
 rw [hNi] at rn
 by_cases he:endsP P n.sp.done=true
 ·simp (disch:=first|omega|exact zF rfl|exact zG rfl|exact fun h=>h|(simp only[zA,zB,zC,zD,bytesW];omega)) only[go_sem,c32S0,c32L0,c32S3,c32S4,c32L1,c32S6,c32L1,rn,he]
  rw [bestS_ends he] at hy
  cases hy
  rw [List.append_nil] at hacc
  subst hacc
  exact s2
 ·simp (disch:=first|omega|exact zF rfl|exact zG rfl|exact fun h=>h|(simp only[zA,zB,zC,zD,bytesW];omega)) only[go_sem,c32S0,c32S3,c32L1,c32S6,c32L1,rn,he]
  refine bdW_built (cells:=#[.int .i64 (-1),.int .i64 0]) (by kernel_rfl) ?_
  simp (disch:=first|omega|exact zF rfl|exact zG rfl|exact fun h=>h|(simp only[zA,zB,zC,zD,bytesW];omega)) only[go_sem,c32S0,c32S3,c32L1,c32S6,rn]
  have s3:=s2.box #[.int .i64 (-1),.int .i64 0] 113
  generalize w2.alloc (.cells #[.int .i64 (-1),.int .i64 0] 113)=w3 at s3 ⊢
  generalize w2.heap.size=bb at s3 ⊢
  have dr2:∀ {r1 r2:Res} {X:List Res},X.Sublist (r1::r2::X):=(List.sublist_cons_self _ _).trans (List.sublist_cons_self _ _)
  obtain ⟨na,nc,hnv,_⟩:=own_slice (sx_row (s3.sub dr2) hil)
  have rn3:=(sx_blk (s3.sub dr2) hil).rules
  have hxn:=hx _ (List.getElem_mem hil)
  have hnl1:=hnl _ (List.getElem_mem hil)
  rw [hNi] at hxn hnl1
  rw [hNi] at hnv
  rw [hNi,hnv] at rn3
  simp (disch:=first|omega|exact zF rfl|exact zG rfl|exact fun h=>h|(simp only[zA,zB,zC,zD,bytesW];omega)) only[go_sem,c32S0,c32S3,c32L1,c32S6,rn3]
  refine W_loopU (fun k:Nat=>[(25,.int .i64 k)]) (fun k w'=>St W0 w' F (.blk bb #[.int .i64 (pickM N (n.nx.take k)).1,.int .i64 ((pickM N (n.nx.take k)).2:Nat)] 113::.row v 3 1 acc.length (acc.flatMap intE)::(SX P x pl m mst pv (.slice (some ⟨tg,0,none⟩) N.length tc) N++L)) I∧k≤n.nx.length) (fun k=>n.nx.length - k) 0 rfl ⟨s3,Nat.zero_le _⟩ ?_
  rintro k w4 ⟨s4,hk⟩
  by_cases hlt:k<n.nx.length
  ·have hlt':(k:Int)<n.nx.length:=by omega
   have hrow:=sx_row (s4.sub dr2) hil
   rw [hNi,hnv] at hrow
   have hrd:RdS w4 2 mvE (.slice na n.nx.length nc) n.nx:=RdS.of_own' hrow n.nx rfl rfl
   obtain ⟨q,rfl⟩:=hrd.ptr (by omega)
   have ec:=hrd.at mvE_len hlt
   have esucc:=pickM_succ N hlt
   have ha:=List.getElem_mem hlt
   generalize n.nx[k]=a at ec esucc ha
   generalize pickM N (n.nx.take k)=b at s4 esucc
   obtain ⟨mm,_,_,ea⟩:=hxn.mem ha
   have ha2:a.2<N.length:=by
    have:=(List.getElem?_eq_some_iff.1 ea).1
    simpa using this
   have eg:goodA N a=N[a.2].gd:=by unfold goodA; rw [List.getElem?_eq_getElem ha2]
   obtain ⟨ai,ak⟩:=a
   obtain ⟨bi,bk⟩:=b
   simp only at ha2 eg
   have ha2':(ak:Int)<N.length:=by omega
   have ec:cellsO w4 (q.add (k * 2)) 0 2=some [.int .i64 ai,.int .i64 (ak:Nat)]:=ec
   have s4:St W0 w4 F (.blk bb #[.int .i64 bi,.int .i64 (bk:Nat)] 113::.row v 3 1 acc.length (acc.flatMap intE)::(SX P x pl m mst pv (.slice (some ⟨tg,0,none⟩) N.length tc) N++L)) I:=s4
   simp (disch:=first|omega|exact zF rfl|exact zG rfl|exact fun h=>h|(simp only[zA,zB,zC,zD,bytesW];omega)) only[go_sem,c32L0,c32S3,c32S4,c32L1,c32S6,c32L0,hlt',ec]
   have s5:=(s4.box #[.int .i64 ai,.int .i64 (ak:Nat)] 113).drew
   have r5a:=s5.rules 0 rfl
   have r5b:=s5.rules 1 rfl
   have r5x:=s5.rules 3 rfl
   have c5:=(own_cell (s5.row 4 rfl)).1 ak (ptV N[ak].b) (by rw [List.getElem?_map,List.getElem?_eq_getElem ha2]; rfl)
   have r5n:=(sx_blk (s5.sub ((List.sublist_cons_self _ _).trans dr2)) ha2).rules
   unfold ptV at c5
   refine ⟨by omega,?_⟩
   refine c32draw0 ?_
   generalize hw5:(w4.alloc (.cells #[.int .i64 ai,.int .i64 (ak:Nat)] 113)).drew=w5 at s5 r5a r5b r5x c5 r5n ⊢
   generalize w4.heap.size=bm at s5 r5a ⊢
   have s6:=s5.sub (List.sublist_cons_self _ _)
   have take_it:pickF N (bi,bk) (ai,ak)=(ai,ak)→St W0 (w5.fill bb #[.int .i64 ai,.int .i64 (ak:Nat)]) F (.blk bb #[.int .i64 (pickM N (n.nx.take (k+1))).1,.int .i64 ((pickM N (n.nx.take (k+1))).2:Nat)] 113::.row v 3 1 acc.length (acc.flatMap intE)::(SX P x pl m mst pv (.slice (some ⟨tg,0,none⟩) N.length tc) N++L)) I:=fun e=>by
    rw [esucc,e]
    exact s6.fill 0 rfl rfl
   have keep_it:pickF N (bi,bk) (ai,ak)=(bi,bk)→St W0 w5 F (.blk bb #[.int .i64 (pickM N (n.nx.take (k+1))).1,.int .i64 ((pickM N (n.nx.take (k+1))).2:Nat)] 113::.row v 3 1 acc.length (acc.flatMap intE)::(SX P x pl m mst pv (.slice (some ⟨tg,0,none⟩) N.length tc) N++L)) I:=fun e=>by
    rw [esucc,e]
    exact s6
   by_cases hgd:N[ak].gd=true
   ·by_cases hb0:bi<0
    ·simp (disch:=first|omega|exact zF rfl|exact zG rfl|exact fun h=>h|(simp only[zA,zB,zC,zD,bytesW];omega)) only[go_sem,c32S0,c32L0,c32S3,c32S4,c32L1,c32S6,c32D0,r5a,r5b,r5x,c5,r5n,ha2',hgd,hb0]
     exact ⟨by omega,⟨by omega,by omega⟩,k+1,rfl,⟨take_it (by unfold pickF; rw [if_pos ⟨by rw [eg,hgd],.inl hb0⟩]),by omega⟩,by omega⟩
    ·by_cases hab:ai<bi
     ·simp (disch:=first|omega|exact zF rfl|exact zG rfl|exact fun h=>h|(simp only[zA,zB,zC,zD,bytesW];omega)) only[go_sem,c32S0,c32L0,c32S3,c32S4,c32L1,c32S6,c32D0,r5a,r5b,r5x,c5,r5n,ha2',hgd,hb0,hab]
      exact ⟨by omega,⟨by omega,by omega⟩,k+1,rfl,⟨take_it (by unfold pickF; rw [if_pos ⟨by rw [eg,hgd],.inr hab⟩]),by omega⟩,by omega⟩
     ·simp (disch:=first|omega|exact zF rfl|exact zG rfl|exact fun h=>h|(simp only[zA,zB,zC,zD,bytesW];omega)) only[go_sem,c32S0,c32L0,c32S3,c32S4,c32L1,c32S6,c32D0,r5a,r5b,r5x,c5,r5n,ha2',hgd,hb0,hab]
      exact ⟨by omega,⟨by omega,by omega⟩,k+1,rfl,⟨keep_it (by unfold pickF; rw [if_neg fun h=>h.2.elim hb0 hab]),by omega⟩,by omega⟩
   ·simp (disch:=first|omega|exact zF rfl|exact zG rfl|exact fun h=>h|(simp only[zA,zB,zC,zD,bytesW];omega)) only[go_sem,c32S0,c32L0,c32S3,c32S4,c32L1,c32S6,c32D0,r5a,r5b,r5x,c5,r5n,ha2',hgd]
    exact ⟨by omega,⟨by omega,by omega⟩,k+1,rfl,⟨keep_it (by unfold pickF; rw [if_neg fun h=>hgd (by rw [← eg]; exact h.1)]),by omega⟩,by omega⟩
  ·have hlt':¬ (k:Int)<n.nx.length:=by omega
   obtain rfl:k=n.nx.length:=by omega
   rw [List.take_length] at s4
   obtain ⟨n',z,hn',rfl,hz,hin⟩:=least_step hg hxn hid hone he hy
   generalize pickM N n.nx=b at s4 hn' hin hacc
   obtain ⟨bi,bk⟩:=b
   simp only at s4 hn' hacc
   have hal:acc.length<1000:=by
    have:=congrArg List.length hacc
    rw [List.length_append,List.length_cons] at this
    omega
   have r4:=s4.rules 0 rfl
   obtain ⟨va,vc,rfl,_⟩:=own_slice (s4.row 1 rfl)
   simp (disch:=first|omega|exact zF rfl|exact zG rfl|exact fun h=>h|(simp only[zA,zB,zC,zD,bytesW];omega)) only[go_sem,c32S0,c32L0,c32S4,c32L1,c32S6,c32L0,hlt',r4]
   refine bsW_ones ty25mkI rfl rfl (by decide) (by decide) (intE_one _) ?_
   simp (disch:=first|omega|exact zF rfl|exact zG rfl|exact fun h=>h|(simp only[zA,zB,zC,zD,bytesW];omega)) only[go_sem,c32S0,c32L0,c32S4,c32L1,c32S6,r4]
   have hx1:Rd (w4.alloc (.cells #[.int .i64 bi] 3)) 1 (.slice (some ⟨w4.heap.size,0,none⟩) 1 1) 1 [.int .i64 bi]:=rd_new (n:=1) (cs:=#[.int .i64 bi]) rfl
   refine (s4.alloc' (.cells #[.int .i64 bi] 3)).append 1 rfl ty25mkI rfl (by decide) hx1 (intE_one _) (by omega) (by omega) ?_
   intro v6 w6 s6 _
   simp only [List.set_cons_zero,List.set_cons_succ] at s6
   have r6:=s6.rules 0 rfl
   have r6x:=s6.rules 2 rfl
   obtain ⟨hk2,ek2⟩:=List.getElem?_eq_some_iff.1 hn'
   simp (disch:=first|omega|exact zF rfl|exact zG rfl|exact fun h=>h|(simp only[zA,zB,zC,zD,bytesW];omega)) only[go_sem,c32S0,c32L0,c32S4,c32L1,c32S6]
   refine c32draw1 ?_
   have s7:=s6.drew
   have r7:=s7.rules 0 rfl
   have r7x:=s7.rules 2 rfl
   have c7:=(own_cell (s7.row 3 rfl)).1 bk (ptV n'.b) (by rw [List.getElem?_map,hn']; rfl)
   unfold ptV at c7
   have hk2':(bk:Int)<N.length:=by omega
   simp (disch:=first|omega|exact zF rfl|exact zG rfl|exact fun h=>h|(simp only[zA,zB,zC,zD,bytesW];omega)) only[go_sem,c32S0,c32L0,c32S3,c32S4,c32L1,c32S6,c32D1,r7,r7x,c7,hk2']
   have eapp:(acc++[bi]).flatMap intE=acc.flatMap intE++[.int .i64 bi]:=by rw [List.flatMap_append]; rfl
   refine ⟨by omega,(n',acc++[bi],v6),rfl,⟨?_,⟨bk,hn'⟩,z,hz,by rw [← hacc]; simp⟩,?_⟩
   ·simp only
    rw [eapp,List.length_append,List.length_singleton]
    exact s7.sub (List.sublist_cons_self _ _)
   ·have:=congrArg List.length hacc
    simp only [List.length_append,List.length_cons,List.length_nil] at this ⊢
    omega
open Go Go.Ann Go.RowKit
theorem sortStable_ok{W0 w:World}{F:Nat→Prop}{L:List Res}{I:List Inv}{g n c:Nat}{X:List Value}{fv:Value}{key:Value→Int}(h:St W0 w F (RowP g n c X::L) I)(hc:CmpOk W0 F L I g n c fv key X)(hX:PtrV X)(hy:noYV (some fv))(hn:X.length=n)(hn2:n≤100000) :
  Ret Tryz.prog 63 [.slice (some ⟨g,0,none⟩) n c,fv] w fun _ w'=>∃ Y,St W0 w' F (RowP g n c Y::L) I∧Y.Perm X∧Ordd key Y:=by
 refine ent63 _ _ _ _ ?_
 simp (disch:=first|omega|exact zF rfl|exact zG rfl|exact fun h=>h|(simp only[zA,zB,zC,zD,bytesW];omega)) only[go_sem]
 refine Ret.mono (stable_ok h hc hX hy hn hn2) ?_
 intro _ w' hh
 simp (disch:=first|omega|exact zF rfl|exact zG rfl|exact fun h=>h|(simp only[zA,zB,zC,zD,bytesW];omega)) only[go_sem]
 exact hh
theorem sx_mark{W0 w:World}{F:Nat→Prop}{A L:List Res}{I:List Inv}{P:List (List OpT)}{x pl m:Nat}{mst:Int}{pv tv:Value}{N:List Nd}(h:St W0 w F (A++(SX P x pl m mst pv tv N++L)) I){i:Nat}(hi:i<N.length)(g:Bool) :
  St W0 (w.setCell ⟨N[i].b,4,none⟩ (.bool g)) F (A++(SX P x pl m mst pv tv (N.set i { N[i] with gd:=g })++L)) I:=by
 have h1:=(St.front h).perm (sx_out hi)
 have h2:=h1.set 0 rfl 4 (.bool g)
 exact St.front (h2.perm (sx_in (n:={ N[i] with gd:=g }) hi rfl rfl).symm)
theorem un_ptV{Y:List Value}(h:PtrV Y):Y=(Y.map unptV).map ptV:=by
 rw [List.map_map]
 conv=>lhs; rw [← List.map_id Y]
 refine List.map_congr_left fun u hu=>?_
 obtain ⟨b,rfl⟩:=h u hu
 rfl
theorem cmpI_lt(a b:Nat):Cut.cmpI (a:Int) (b:Int)<0↔a<b:=by
 unfold Cut.cmpI
 split
 ·omega
 ·split <;> omega
theorem mark_cmp{W0:World}{F:Nat→Prop}{L:List Res}{I:List Inv}{P:List (List OpT)}{accO:List Seg}{x pl m M g n c b1 b2:Nat}{mst:Int}{pv tv:Value}{N:List Nd}{C:List DS}
  (cx:Ctx P accO M) (hnd:∀ n∈N,NdOk P accO M C n) (hb:(N.map Nd.b).Nodup) :
  CmpOk W0 F (.blk b2 #[.func (.func 61) #[] #[]] 107::.blk b1 #[.pointer (some ⟨x,0,none⟩)] 54::(SX P x pl m mst pv tv N++L)) (Inv.ds C::I) g n c (.func (.func 64) #[] #[.pointer (some ⟨b2,0,none⟩)]) (keyN N) (N.map fun n=>ptV n.b):=by
 intro w' X' s u hu v hv
 obtain ⟨nu,hnu,rfl⟩:=List.mem_map.1 hu
 obtain ⟨nv,hnv,rfl⟩:=List.mem_map.1 hv
 obtain ⟨i,hi,rfl⟩:=List.mem_iff_getElem.1 hnu
 obtain ⟨j,hj,rfl⟩:=List.mem_iff_getElem.1 hnv
 have s1:St W0 w' F (SX P x pl m mst pv tv N++L) (Inv.ds C::I):=s.sub ((List.sublist_cons_self _ _).trans ((List.sublist_cons_self _ _).trans (List.sublist_cons_self _ _)))
 have ni:=hnd _ (List.getElem_mem hi)
 have nj:=hnd _ (List.getElem_mem hj)
 have di:=(s1.get 0 rfl _ ni.ds).1
 have dj:=(s1.get 0 rfl _ nj.ds).1
 have lim:∀ n:Nd,NdOk P accO M C n→n.sp.done.length≤1000∧∀ q∈n.sp.done,q≤1000:=fun n hn=>by
  have h1:=hn.ok.dl
  have h2:=cx.pl
  refine ⟨by omega,fun q hq=>?_⟩
  obtain ⟨k,hk,rfl⟩:=List.mem_iff_getElem.1 hq
  have h3:=hn.ok.le k
  have h4:=cx.pp k
  rw [List.getD_eq_getElem?_getD,List.getElem?_eq_getElem hk] at h3
  simp only [Option.getD_some] at h3
  omega
 refine callW_go ⟨by kernel_rfl,Ret.mono (mark2_ok (s.blk 1 rfl) (sx_blk s1 hi) (sx_blk s1 hj) di dj (lim _ ni).1 (lim _ ni).2 (lim _ nj).1 (lim _ nj).2) ?_⟩
 rintro _ w2 ⟨rfl,h2⟩
 refine ⟨_,rfl,?_,h2⟩
 rw [keyN_at hb hi,keyN_at hb hj,cmpI_lt]
 show N[j].sp.done.sum<N[i].sp.done.sum↔_
 omega
theorem mark_ok{W0 w:World}{F:Nat→Prop}{L:List Res}{I:List Inv}{P:List (List OpT)}{accO:List Seg}{vs:List Value}{x pl m M c0:Nat}{mst:Int}{pv tv:Value}{N:List Nd}{C:List DS}
  (cx:Ctx P accO M) (h:SrS W0 w F L I P accO vs x pl m M c0 mst pv tv N C) (hnx:∀ n∈N,n.gd=false∧NxR (N.map Nd.sp) n.nx (mvsP P (objsW accO) n.sp)) (hN:0<N.length) (hNl:N.length≤40000) :
  Ret Tryz.prog 31 [.pointer (some ⟨x,0,none⟩)] w fun _ w'=>SrS W0 w' F L I P accO vs x pl m M c0 mst pv tv (markN P (objsW accO) (N.map Nd.b) N) C:=by
 obtain ⟨ta,tc,rfl,_⟩:=own_slice (h.st.row 1 rfl)
 obtain ⟨tg,rfl⟩:=own_ptr (h.st.row 1 rfl) (by omega)
 have hnd:=h.nd
 have hb:=sx_nodup h.st
 have hpl:=cx.pl
 refine ent31 _ _ _ ?_
 simp (disch:=first|omega|exact zF rfl|exact zG rfl|exact fun h=>h|(simp only[zA,zB,zC,zD,bytesW];omega)) only[go_sem,c31S0,c31L0,c31S2]
 have s1:=h.st.box #[.pointer (some ⟨x,0,none⟩)] 54
 have s2:=s1.box #[.nilFunc] 107
 rw [World.size_alloc] at s2
 have s3:=s2.set 0 rfl 0 (.func (.func 61) #[] #[])
 simp only [List.set_cons_zero,List.setIfInBounds_toArray] at s3
 generalize ((w.alloc (.cells #[.pointer (some ⟨x,0,none⟩)] 54)).alloc (.cells #[.nilFunc] 107)).setCell ⟨w.heap.size+1,0,none⟩ (.func (.func 61) #[] #[])=w3 at s3 ⊢
 generalize w.heap.size+1=b2 at s3 ⊢
 generalize w.heap.size=b1 at s3 ⊢
 have r3:=s3.rules 2 rfl
 simp (disch:=first|omega|exact zF rfl|exact zG rfl|exact fun h=>h|(simp only[zA,zB,zC,zD,bytesW];omega)) only[go_sem,c31S0,c31L0,c31S2,r3]
 have hrd:Rd w3 1 (.slice (some ⟨tg,0,none⟩) N.length tc) (N.map fun n=>ptV n.b).length (N.map fun n=>ptV n.b):=by rw [List.length_map]; exact Rd.of_own (s3.row 3 rfl)
 refine Ret.mono (pclone_ok _ (N.map fun n=>ptV n.b) w3 hrd (fun u hu=>by obtain ⟨n,_,rfl⟩:=List.mem_map.1 hu; rfl) (by rw [List.length_map]; omega)) ?_
 rintro cv w4 ⟨o4,b4⟩
 rw [List.length_map] at o4
 have s4:=s3.add b4 (.row cv 65 1 N.length (N.map fun n=>ptV n.b)) (own_mono o4 s3.size) fun k hk=>(o4.lt k hk).1
 obtain ⟨ca,cc,rfl,_⟩:=own_slice o4
 obtain ⟨g,rfl⟩:=own_ptr o4 (by omega)
 simp (disch:=first|omega|exact zF rfl|exact zG rfl|exact fun h=>h|(simp only[zA,zB,zC,zD,bytesW];omega)) only[go_sem,c31S0,c31L0,c31S3]
 have hX:PtrV (N.map fun n=>ptV n.b):=fun u hu=>by obtain ⟨n,_,rfl⟩:=List.mem_map.1 hu; exact ⟨_,rfl⟩
 refine Ret.mono (sortStable_ok (key:=keyN N) s4 (mark_cmp cx hnd hb) hX (by trivial) (by rw [List.length_map]) (by omega)) ?_
 rintro _ w5 ⟨Y,s5,pY,oY⟩
 have hY:=hX.perm pY
 have eY:=un_ptV hY
 have pB:(Y.map unptV).Perm (N.map Nd.b):=by
  have:=pY.map unptV
  rw [List.map_map] at this
  exact this
 generalize Y.map unptV=B at eY pB
 subst eY
 have hBl:B.length=N.length:=by rw [pB.length_eq,List.length_map]
 simp (disch:=first|omega|exact zF rfl|exact zG rfl|exact fun h=>h|(simp only[zA,zB,zC,zD,bytesW];omega)) only[go_sem,c31S0,c31S2,c31S3]
 have hfin:∀ w',St W0 w' F ([RowP g N.length cc (B.map ptV),.blk b2 #[.func (.func 61) #[] #[]] 107,.blk b1 #[.pointer (some ⟨x,0,none⟩)] 54]++(SX P x pl m mst pv (.slice (some ⟨tg,0,none⟩) N.length tc) (markN P (objsW accO) B N)++L)) (Inv.ds C::Inv.pg pv P vs::Inv.ob pl (mapG Cut.intK natK (plM (objsW accO) 0) c0)::I)→SrS W0 w' F L I P accO vs x pl m M c0 mst pv (.slice (some ⟨tg,0,none⟩) N.length tc) (markN P (objsW accO) (N.map Nd.b) N) C:=fun w' s=>by
  have e:markN P (objsW accO) B N=markN P (objsW accO) (N.map Nd.b) N:=by
   unfold markN
   refine List.map_congr_left fun n hn=>?_
   have:n.b∈N.map Nd.b:=List.mem_map_of_mem hn
   rw [if_pos this,if_pos (pB.mem_iff.2 this)]
  rw [e] at s
  refine ⟨s.sub (List.sublist_append_right _ _),fun n hn=>?_⟩
  obtain ⟨j,hj,rfl⟩:=List.mem_iff_getElem.1 hn
  have hj2:j<N.length:=by rw [markN_len] at hj; exact hj
  obtain ⟨g0,hg0⟩:=markN_is (P:=P) (obs:=objsW accO) (D:=N.map Nd.b) hj2
  rw [List.getElem?_eq_getElem hj] at hg0
  rw [Option.some.inj hg0]
  have:=hnd _ (List.getElem_mem hj2)
  exact ⟨this.st,this.ds,this.ok⟩
 refine W_loopU (fun k:Nat=>[(16,.int .i64 k)]) (fun k w'=>St W0 w' F ([RowP g N.length cc (B.map ptV),.blk b2 #[.func (.func 61) #[] #[]] 107,.blk b1 #[.pointer (some ⟨x,0,none⟩)] 54]++(SX P x pl m mst pv (.slice (some ⟨tg,0,none⟩) N.length tc) (markN P (objsW accO) (B.take k) N)++L)) (Inv.ds C::Inv.pg pv P vs::Inv.ob pl (mapG Cut.intK natK (plM (objsW accO) 0) c0)::I)∧k≤N.length) (fun k=>N.length - k) 0 rfl ⟨by rw [List.take_zero,markN_nil]; exact s5,Nat.zero_le _⟩ ?_
 rintro k w6 ⟨s6,hk⟩
 by_cases hlt:k<N.length
 ·have hlt':(k:Int)<N.length:=by omega
  have hkB:k<B.length:=by omega
  obtain ⟨i,hi,ei⟩:∃ i,∃ hi:i<N.length,N[i].b=B[k]:=by
   have:=pB.mem_iff.1 (List.getElem_mem hkB)
   obtain ⟨n,hn,e⟩:=List.mem_map.1 this
   obtain ⟨i,hi,rfl⟩:=List.mem_iff_getElem.1 hn
   exact ⟨i,hi,e⟩
  have ec:=(own_cell (s6.row 0 rfl)).1 k (ptV N[i].b) (by rw [List.getElem?_map,List.getElem?_eq_getElem hkB,ei]; rfl)
  unfold ptV at ec
  have hmi:i<(markN P (objsW accO) (B.take k) N).length:=by rw [markN_len]; exact hi
  obtain ⟨g0,hg0⟩:=markN_is (P:=P) (obs:=objsW accO) (D:=B.take k) hi
  rw [List.getElem?_eq_getElem hmi] at hg0
  have hg0:=Option.some.inj hg0
  have sM:St W0 w6 F (SX P x pl m mst pv (.slice (some ⟨tg,0,none⟩) N.length tc) (markN P (objsW accO) (B.take k) N)++L) (Inv.ds C::Inv.pg pv P vs::Inv.ob pl (mapG Cut.intK natK (plM (objsW accO) 0) c0)::I):=s6.sub (List.sublist_append_right _ _)
  have hB6:=sx_blk sM hmi
  have hR6:=sx_row sM hmi
  rw [hg0] at hB6 hR6
  have rB:=hB6.rules
  obtain ⟨_,hx⟩:=hnx _ (List.getElem_mem hi)
  have hdl:=(hnd _ (List.getElem_mem hi)).ok.dl
  have hall:∀ j,(hj:j<N.length)→N[j].sp.done.sum=N[i].sp.done.sum+1→N[j].b∈B.take k:=fun j hj hs=>by
   have hm:N[j].b∈B:=pB.mem_iff.2 (List.mem_map_of_mem (List.getElem_mem hj))
   obtain ⟨q,hq,eq⟩:=List.mem_iff_getElem.1 hm
   rcases Nat.lt_trichotomy q k with h1 | h1 | h1
   ·rw [← eq]
    exact List.mem_iff_getElem.2 ⟨q,by rw [List.length_take]; omega,by rw [List.getElem_take]⟩
   ·subst h1
    have:=nd_same hb hi hj (by rw [← eq,← ei])
    subst this
    omega
   ·have:=List.pairwise_iff_getElem.1 oY k q (by rw [List.length_map]; exact hkB) (by rw [List.length_map]; exact hq) h1
    rw [List.getElem_map,List.getElem_map,← ei,eq,keyN_at hb hi,keyN_at hb hj] at this
    omega
  have hgood:=mark_any hi hdl hx hb hall
  have eset:=markN_set (P:=P) (obs:=objsW accO) (D:=B.take k) hb hi
  have etk:B.take (k+1)=B.take k++[N[i].b]:=by rw [List.take_succ_eq_append_getElem hkB,ei]
  have eg:∀ v,(markN P (objsW accO) (B.take k) N).set i { (markN P (objsW accO) (B.take k) N)[i] with gd:=v }=(markN P (objsW accO) (B.take k) N).set i { N[i] with gd:=v }:=fun v=>by rw [hg0]
  have hnext:∀ w7,St W0 w7 F ([RowP g N.length cc (B.map ptV),.blk b2 #[.func (.func 61) #[] #[]] 107,.blk b1 #[.pointer (some ⟨x,0,none⟩)] 54]++(SX P x pl m mst pv (.slice (some ⟨tg,0,none⟩) N.length tc) (markN P (objsW accO) (B.take k) N)++L)) (Inv.ds C::Inv.pg pv P vs::Inv.ob pl (mapG Cut.intK natK (plM (objsW accO) 0) c0)::I)→St W0 (w7.setCell ⟨N[i].b,4,none⟩ (.bool (bestS P (objsW accO) N[i].sp).isSome)) F ([RowP g N.length cc (B.map ptV),.blk b2 #[.func (.func 61) #[] #[]] 107,.blk b1 #[.pointer (some ⟨x,0,none⟩)] 54]++(SX P x pl m mst pv (.slice (some ⟨tg,0,none⟩) N.length tc) (markN P (objsW accO) (B.take (k+1)) N)++L)) (Inv.ds C::Inv.pg pv P vs::Inv.ob pl (mapG Cut.intK natK (plM (objsW accO) 0) c0)::I):=fun w7 s7=>by
   have s8:=sx_mark s7 hmi (bestS P (objsW accO) N[i].sp).isSome
   rw [eg,eset,← etk] at s8
   have e9:(markN P (objsW accO) (B.take k) N)[i].b=N[i].b:=by rw [hg0]
   rw [e9] at s8
   exact s8
  have hR6:w6.ownsRow W0.heap.size 113 2 N[i].nv N[i].nx.length (N[i].nx.flatMap mvE):=hR6
  have hB6:Blk w6 N[i].b #[N[i].dv,N[i].sv,N[i].nv,.bool (endsP P N[i].sp.done),.bool g0] 64:=hB6
  have hBx:∀ w7,St W0 w7 F (SX P x pl m mst pv (.slice (some ⟨tg,0,none⟩) N.length tc) (markN P (objsW accO) (B.take k) N)++L) (Inv.ds C::Inv.pg pv P vs::Inv.ob pl (mapG Cut.intK natK (plM (objsW accO) 0) c0)::I)→Blk w7 N[i].b #[N[i].dv,N[i].sv,N[i].nv,.bool (endsP P N[i].sp.done),.bool g0] 64:=fun w7 s7=>by
   have:=sx_blk s7 hmi
   rw [hg0] at this
   exact this
  clear sM rB eg eset hg0
  generalize N[i]=n at *
  have rB:=hB6.rules
  by_cases he:endsP P n.sp.done=true
  ·rw [he,Bool.true_or] at hgood
   simp (disch:=first|omega|exact zF rfl|exact zG rfl|exact fun h=>h|(simp only[zA,zB,zC,zD,bytesW];omega)) only[go_sem,c31S0,c31L0,c31S2,c31S3,c31L0,hlt',ec,rB,he]
   have:=hnext w6 s6
   rw [← hgood] at this
   exact ⟨by omega,⟨by omega,by omega⟩,k+1,rfl,⟨this,by omega⟩,by omega⟩
  ·have he':endsP P n.sp.done=false:=by simpa using he
   rw [he',Bool.false_or] at hgood
   obtain ⟨na,nc,hnv,_⟩:=own_slice hR6
   have hnl:n.nx.length≤200:=by
    rw [hx.len]
    have:=mvs_one (P:=P) (obs:=objsW accO) (s:=n.sp) P.length
    have e:mvsP P (objsW accO) n.sp=(List.range P.length).filterMap (mvP P (objsW accO) n.sp):=rfl
    rw [e]
    omega
   rw [hnv] at rB hR6
   simp (disch:=first|omega|exact zF rfl|exact zG rfl|exact fun h=>h|(simp only[zA,zB,zC,zD,bytesW];omega)) only[go_sem,c31L0,c31S2,c31S3,c31L0,hlt',ec,rB,he']
   refine ⟨by omega,Ret.mono (containsM_ok _ (fun a=>match (markN P (objsW accO) (B.take k) N)[a.2]? with | some n=>n.gd | none=>false) _ n.nx w6 (RdS.of_own' hR6 n.nx rfl rfl) ?_ (by omega)) ?_⟩
   ·intro a ha w' hbw
    obtain ⟨mm,_,_,e2⟩:=hx.mem ha
    have ha2:a.2<(markN P (objsW accO) (B.take k) N).length:=by
     rw [markN_len]
     have:=(List.getElem?_eq_some_iff.1 e2).1
     simpa using this
    have s8:=s6.call hbw
    refine callW_go ⟨by kernel_rfl,Ret.mono (mark3_ok (a:=a) (s8.sub (List.sublist_append_right _ _)) (s8.blk 2 rfl) ha2 (by rw [markN_len]; omega)) ?_⟩
    rintro _ w8 ⟨rfl,h8⟩
    exact ⟨by simp only [List.getElem?_eq_getElem ha2],h8⟩
   rintro _ w7 ⟨rfl,b7⟩
   have s7:=s6.call b7
   have r7:=(hBx _ (s7.sub (List.sublist_append_right _ _))).rules
   simp (disch:=first|omega|exact zF rfl|exact zG rfl|exact fun h=>h|(simp only[zA,zB,zC,zD,bytesW];omega)) only[go_sem,c31S0,c31L0,c31S2,c31S3,r7]
   have:=hnext w7 s7
   rw [← hgood] at this
   exact ⟨⟨by omega,by omega⟩,k+1,rfl,⟨this,by omega⟩,by omega⟩
 ·have hlt':¬ (k:Int)<N.length:=by omega
  obtain rfl:k=N.length:=by omega
  simp (disch:=first|omega|exact zF rfl|exact zG rfl|exact fun h=>h|(simp only[zA,zB,zC,zD,bytesW];omega)) only[go_sem,c31S0,c31L0,c31S2,c31S3,c31L0,hlt']
  rw [List.take_of_length_le (by omega)] at s6
  exact hfin _ s6
end Go.Proofs.YtoadmihnihfjkaaGreat

namespace Go.Proofs.YtoadmihnihfjkaaGreat.Cut
open Go Go.Ann Go.RowKit Go.WideShapes Go.Shelf
section
variable {W0 w:World} {F:Nat→Prop} {L:List Res} {I:List Inv} {d:List (Int × Value × Nat)} {c bx mb:Nat}
theorem keys1J_ok(fv:Value)(J:List Res→List Int→World→Prop)(w:World)(hJ:∀ R pre w',J R pre w'→w'.cell? ⟨bx,0,none⟩=some (.map (some mb))∧w'.heap[mb]?=some (mapG intK idK d c)∧∃ X,St W0 w' F (X++R) I)
  (hJ2:∀ R R' pre w' w'',J R pre w'→(∀ X,St W0 w' F (X++R) I→St W0 w'' F (X++R') I)→J R' pre w'')
  (hf:∀ R pre x w',J R pre w'→(x ∉ pre∧x∈d.map Prod.fst∧pre.length<d.length)→callW Tryz.prog fv [.int .i64 x] w' fun v w''=>v=.bool true∧J R (pre++[x]) w'')
  (hk:(d.map Prod.fst).Nodup) (hb:(d.map fun x=>x.2.2).Nodup) (hc:∀ x∈d,x.2.2<c) (h0:J [] [] w) :
  Ret Tryz.prog 85 [fv,.pointer (some ⟨bx,0,none⟩)] w fun _ w'=>∃ xs,xs.Perm (d.map Prod.fst)∧J [] xs w':=by
 refine ent85 _ _ _ _ ?_
 obtain ⟨k1,k2,_⟩:=hJ _ _ _ h0
 simp (disch:=first|omega|exact zF rfl|exact zG rfl|exact fun h=>h|(simp only[zA,zB,zC,zD,bytesW];omega)) only[go_sem,k1]
 refine rgG Tryz.underlying56 k2 ?_
 have j1:J [.obj w.heap.size (.mapIter (some mb) c #[] c)] [] (w.alloc (.mapIter (some mb) c #[] c)):=hJ2 _ _ _ _ _ h0 fun X hX=>by
  have:=hX.lay (.mapIter (some mb) c #[] c)
  rw [List.append_nil] at this
  exact this.perm (List.perm_append_singleton _ _)
 generalize w.heap.size=q at j1 ⊢
 generalize w.alloc (.mapIter (some mb) c #[] c)=w1 at j1 ⊢
 simp (disch:=first|omega|exact zF rfl|exact zG rfl|exact fun h=>h|(simp only[zA,zB,zC,zD,bytesW];omega)) only[go_sem]
 refine W_loopU (fun D:List (Int × Value × Nat)=>[]) (fun D w'=>(∀ x∈D,x∈d)∧(D.map fun x=>x.2.2).Nodup∧J [.obj q (.mapIter (some mb) c (D.map fun x=>x.2.2).toArray c)] (D.map Prod.fst) w') (fun D=>d.length - D.length) [] rfl ⟨fun _ h=>(by cases h),List.Pairwise.nil,j1⟩ ?_
 clear j1 k1 k2 h0
 rintro D w2 ⟨hD1,hD2,j2⟩
 have hle:=nodup_le hD2 hD1
 obtain ⟨k1,k2,X,sX⟩:=hJ _ _ _ j2
 simp (disch:=first|omega|exact zF rfl|exact zG rfl|exact fun h=>h|(simp only[zA,zB,zC,zD,bytesW];omega)) only[go_sem,c85L0,c85L0]
 refine nxG (sX.obj X.length (last_get X _)) k2 (fun e he=>?_) (Nat.le_refl _) (fun h0'=>?_) (fun e he w3 hw3=>?_)
 ·obtain ⟨x,hx,rfl⟩:=List.mem_map.1 he
  exact hc x hx
 ·simp (disch:=first|omega|exact zF rfl|exact zG rfl|exact fun h=>h|(simp only[zA,zB,zC,zD,bytesW];omega)) only[go_sem,c85L0]
  have hperm:=all_perm hb hD2 hD1 (left_none h0')
  refine ⟨D.map Prod.fst,hperm.map _,hJ2 _ _ _ _ _ j2 fun Y hY=>?_⟩
  rw [List.append_nil]
  exact hY.sub (List.sublist_append_left _ _)
 ·obtain ⟨x,hx,rfl,hxn⟩:=left_in he
  have j3:J [.obj q (.mapIter (some mb) c ((D.map fun x=>x.2.2).toArray.push x.2.2) c)] (D.map Prod.fst) (w3.putObj q (.mapIter (some mb) c ((D.map fun x=>x.2.2).toArray.push x.2.2) c)):=hJ2 _ _ _ _ _ j2 fun Y hY=>by
   have h3:St W0 w3 F (Y++[.obj q (.mapIter (some mb) c (D.map fun x=>x.2.2).toArray c)]) I:=by
    rcases hw3 with rfl | rfl
    ·exact hY
    ·exact hY.drew
   have:=h3.putObj Y.length (last_get Y _) (.mapIter (some mb) c ((D.map fun x=>x.2.2).toArray.push x.2.2) c)
   rwa [last_set] at this
  have hbn:((d.map (entG intK idK)).toArray.toList.map (·.born)).Nodup:=by
   rw [List.toList_toArray,List.map_map]
   exact hb
  simp (disch:=first|omega|exact zF rfl|exact zG rfl|exact fun h=>h|(simp only[zA,zB,zC,zD,bytesW];omega)) only[go_sem,c85L0]
  have e1:(entG intK idK x).born=x.2.2:=rfl
  rw [e1]
  obtain ⟨_,k4,Z,sZ⟩:=hJ _ _ _ j3
  refine enG (sZ.obj Z.length (last_get Z _)) k4 (by rw [List.toList_toArray]; exact List.mem_map_of_mem hx) hbn ?_
  simp (disch:=first|omega|exact zF rfl|exact zG rfl|exact fun h=>h|(simp only[zA,zB,zC,zD,bytesW];omega)) only[go_sem,c85L0,entG,intK,idK]
  have hnk:=not_in hk hD1 hx hxn
  have hn2:((x::D).map fun x=>x.2.2).Nodup:=by rw [List.map_cons,List.nodup_cons]; exact ⟨hxn,hD2⟩
  have hDl:=nodup_le hn2 fun y hy=>by
   rcases List.mem_cons.1 hy with rfl | hy
   ·exact hx
   ·exact hD1 y hy
  rw [List.length_cons] at hDl
  refine callW_mono (hf _ _ x.1 _ j3 ⟨hnk,List.mem_map_of_mem hx,by rw [List.length_map]; omega⟩) ?_
  rintro _ w5 ⟨rfl,j5⟩
  simp (disch:=first|omega|exact zF rfl|exact zG rfl|exact fun h=>h|(simp only[zA,zB,zC,zD,bytesW];omega)) only[go_sem,c85L0]
  refine ⟨D++[x],⟨fun y hy=>?_,?_,?_⟩,by rw [List.length_append,List.length_singleton]; omega⟩
  ·rcases List.mem_append.1 hy with hy | hy
   ·exact hD1 y hy
   ·rw [List.mem_singleton] at hy; subst hy; exact hx
  ·rw [List.map_append,List.nodup_append]
   refine ⟨hD2,List.pairwise_singleton _ _,fun a ha e he=>?_⟩
   rw [List.map_cons,List.map_nil,List.mem_singleton] at he
   subst he
   exact fun h=>hxn (h ▸ ha)
  ·have e2:((D++[x]).map fun x=>x.2.2).toArray=(D.map fun x=>x.2.2).toArray.push x.2.2:=by simp
   have e3:(D++[x]).map Prod.fst=D.map Prod.fst++[x.1]:=by simp
   rw [e2,e3]
   exact j5
theorem keysJ_ok(w:World):Ret Tryz.prog 58 [.map (some mb)] w fun v w'=>v=.func (.func 85) #[] #[.pointer (some ⟨w.heap.size,0,none⟩)]∧w'=w.alloc (.cells #[.map (some mb)] 56):=by
 refine ent58 _ _ _ ?_
 simp (disch:=first|omega|exact zF rfl|exact zG rfl|exact fun h=>h|(simp only[zA,zB,zC,zD,bytesW];omega)) only[go_sem]
theorem appendKeysJ_ok(h:St W0 w F (.blk bx #[.map (some mb)] 56::.obj mb (mapG intK idK d c)::L) I)(hk:(d.map Prod.fst).Nodup)(hb:(d.map fun x=>x.2.2).Nodup)(hc:∀ x∈d,x.2.2<c)(hd:d.length≤100000) :
  Ret Tryz.prog 100 [.slice none 0 0,.func (.func 85) #[] #[.pointer (some ⟨bx,0,none⟩)]] w fun u w'=>∃ ks:List Int,ks.Perm (d.map Prod.fst)∧St W0 w' F (.row u 3 1 ks.length (ks.flatMap intE)::.blk bx #[.map (some mb)] 56::.obj mb (mapG intK idK d c)::L) I:=by
 refine ent100 _ _ _ _ ?_
 simp (disch:=first|omega|exact zF rfl|exact zG rfl|exact fun h=>h|(simp only[zA,zB,zC,zD,bytesW];omega)) only[go_sem]
 have s1:=(h.nilRow 3 1).box #[.slice none 0 0] 25
 generalize w.heap.size=bs at s1 ⊢
 generalize w.alloc (.cells #[.slice none 0 0] 25)=w1 at s1 ⊢
 refine RangeW_any (β:=Value) (fun x:Int=>[.int .i64 x]) (fun pre x=>x ∉ pre∧x∈d.map Prod.fst∧pre.length<d.length) (fun xs=>xs.Perm (d.map Prod.fst)) (fun u pre=>.blk bs #[u] 25::.row u 3 1 pre.length (pre.flatMap intE)::.blk bx #[.map (some mb)] 56::.obj mb (mapG intK idK d c)::L) (.slice none 0 0) rfl (by kernel_rfl) s1 rfl (fun _=>rfl) ?_ ?_ ?_
 ·intro fv J w2 hJ1 hJ2 hf h0
  refine keys1J_ok (mb:=mb) fv J w2 (fun R pre w' j=>?_) hJ2 (fun R pre x w' j e=>hf R pre x w' j e) hk hb hc h0
  obtain ⟨l,D,o,u,hX⟩:=hJ1 R pre w' j
  exact ⟨(hX.blk 4 rfl).cell 0,hX.obj 5 rfl,.obj l o::.obj D (.deferred (some []))::(.blk bs #[u] 25::.row u 3 1 pre.length (pre.flatMap intE)::.blk bx #[.map (some mb)] 56::.obj mb (mapG intK idK d c)::L),hX⟩
 ·intro R u pre x w' l D o o2 hx h1
  obtain ⟨e1,e2,e3⟩:=hx
  simp (disch:=first|omega|exact zF rfl|exact zG rfl|exact fun h=>h|(simp only[zA,zB,zC,zD,bytesW];omega)) only[go_sem,c100A0,c100B0,c100A0,c100B0]
  refine ⟨_,h1,fun w2 h2=>?_⟩
  obtain ⟨ao,co,rfl,_⟩:=own_slice (h2.row 3 rfl)
  have r2:=h2.rules 2 rfl
  simp (disch:=first|omega|exact zF rfl|exact zG rfl|exact fun h=>h|(simp only[zA,zB,zC,zD,bytesW];omega)) only[go_sem,c100A0,c100B0,r2]
  refine bsW_ones ty25mkI rfl rfl (Nat.le_of_ble_eq_true rfl) (by simp [intE]) (int_one x) ?_
  have hx:Rd (w2.alloc (.cells (intE x).toArray 3)) 1 (.slice (some ⟨w2.heap.size,0,none⟩) 1 1) 1 (intE x):=rd_new (n:=1) (cs:=(intE x).toArray) rfl
  simp (disch:=first|omega|exact zF rfl|exact zG rfl|exact fun h=>h|(simp only[zA,zB,zC,zD,bytesW];omega)) only[go_sem,c100A0,c100B0]
  refine (h2.alloc' (.cells (intE x).toArray 3)).append 3 rfl ty25mkI rfl (by decide) hx (int_one x) (by omega) (by omega) ?_
  intro u' w4 s4 _
  obtain ⟨ao',co',rfl,_⟩:=own_slice (s4.row 3 rfl)
  have r4:=s4.rules 2 rfl
  have s5:=s4.set 2 rfl 0 (.slice ao' (pre.length+1) co')
  simp (disch:=first|omega|exact zF rfl|exact zG rfl|exact fun h=>h|(simp only[zA,zB,zC,zD,bytesW];omega)) only[go_sem,c100A0,c100B0,r4]
  refine ⟨.slice ao' (pre.length+1) co',st_recast s5 ?_⟩
  rw [List.length_append,List.flatMap_append,List.flatMap_singleton]
  rfl
 ·intro xs u D w' hG h1
  obtain ⟨ao,co,rfl,_⟩:=own_slice (h1.row 2 rfl)
  have r1:=h1.rules 1 rfl
  have hD:=h1.obj 0 rfl
  simp (disch:=first|omega|exact zF rfl|exact zG rfl|exact fun h=>h|(simp only[zA,zB,zC,zD,bytesW];omega)) only[go_sem,c100A0,c100B0,r1,hD]
  refine ⟨xs,hG,?_⟩
  exact ((h1.putObj 0 rfl (.deferred none)).sub (L':=.row (.slice ao xs.length co) 3 1 xs.length (xs.flatMap intE)::.blk bx #[.map (some mb)] 56::.obj mb (mapG intK idK d c)::L) (by simp))
theorem collectJ_ok{d:List (Int × Value × Nat)}{c bx:Nat}(h:St W0 w F (.blk bx #[.map (some mb)] 56::.obj mb (mapG intK idK d c)::L) I)(hk:(d.map Prod.fst).Nodup)(hb:(d.map fun x=>x.2.2).Nodup)(hc:∀ x∈d,x.2.2<c)(hd:d.length≤100000) :
  Ret Tryz.prog 77 [.func (.func 85) #[] #[.pointer (some ⟨bx,0,none⟩)]] w fun u w'=>∃ ks:List Int,ks.Perm (d.map Prod.fst)∧St W0 w' F (.row u 3 1 ks.length (ks.flatMap intE)::.blk bx #[.map (some mb)] 56::.obj mb (mapG intK idK d c)::L) I:=by
 refine ent77 _ _ _ ?_
 simp (disch:=first|omega|exact zF rfl|exact zG rfl|exact fun h=>h|(simp only[zA,zB,zC,zD,bytesW];omega)) only[go_sem]
 refine Ret.mono (appendKeysJ_ok h hk hb hc hd) ?_
 rintro u w2 ⟨ks,hp,s2⟩
 obtain ⟨ao,co,rfl,_⟩:=own_slice (s2.row 0 rfl)
 simp (disch:=first|omega|exact zF rfl|exact zG rfl|exact fun h=>h|(simp only[zA,zB,zC,zD,bytesW];omega)) only[go_sem]
 exact ⟨ks,hp,s2⟩
theorem sortedKJ_ok{d:List (Int × Value × Nat)}{c bx:Nat}(h:St W0 w F (.blk bx #[.map (some mb)] 56::.obj mb (mapG intK idK d c)::L) I)(hk:(d.map Prod.fst).Nodup)(hb:(d.map fun x=>x.2.2).Nodup)(hc:∀ x∈d,x.2.2<c)(hd:d.length≤100000) :
  Ret Tryz.prog 48 [.func (.func 85) #[] #[.pointer (some ⟨bx,0,none⟩)]] w fun u w'=>∃ ts:List Int,ts.Perm (d.map Prod.fst)∧ts.Pairwise (·≤·)∧St W0 w' F (.row u 3 1 ts.length (ts.flatMap intE)::.blk bx #[.map (some mb)] 56::.obj mb (mapG intK idK d c)::L) I:=by
 refine ent48 _ _ _ ?_
 simp (disch:=first|omega|exact zF rfl|exact zG rfl|exact fun h=>h|(simp only[zA,zB,zC,zD,bytesW];omega)) only[go_sem]
 refine Ret.mono (collectJ_ok h hk hb hc hd) ?_
 rintro u w2 ⟨ks,hp,s2⟩
 have hkl:ks.length=d.length:=by rw [hp.length_eq,List.length_map]
 obtain ⟨ao,co,rfl,_⟩:=own_slice (s2.row 0 rfl)
 have gS:goFunc Tryz.prog 78=true:=by kernel_rfl
 simp (disch:=first|omega|exact zF rfl|exact zG rfl|exact fun h=>h|(simp only[zA,zB,zC,zD,bytesW];omega)) only[go_sem,gS]
 refine Ret.mono (sortI_ok s2 (by omega)) ?_
 rintro _ w3 ⟨rfl,ts,⟨h1,h2⟩,s3⟩
 simp (disch:=first|omega|exact zF rfl|exact zG rfl|exact fun h=>h|(simp only[zA,zB,zC,zD,bytesW];omega)) only[go_sem]
 exact ⟨ts,h1.trans hp,h2,by rw [h1.length_eq]; exact s3⟩
end
end Go.Proofs.YtoadmihnihfjkaaGreat.Cut

namespace Go.Proofs.YtoadmihnihfjkaaGreat
open Go Go.Ann Go.RowKit Go.WideShapes Go.Shelf
set_option linter.unusedSectionVars false
section
variable {κ ν:Type} [DecidableEq κ]
theorem getM_set(p q:κ)(v:ν)(c:Nat):∀ d:List (κ × ν × Nat),getM q (setM p v c d)=if q=p then some v else getM q d
 | []=>by
  show (if q=p then some v else getM q [])=_
  rfl
 | y::d=>by
  by_cases e:p=y.1
  ·rw [show setM p v c (y::d)=(y.1,v,y.2.2)::d from if_pos e,getM,getM]
   by_cases e2:q=p
   ·rw [if_pos e2,if_pos (by rw [e2,e])]
   ·rw [if_neg e2,if_neg (by rw [← e]; exact e2),if_neg (by rw [← e]; exact e2)]
  ·rw [show setM p v c (y::d)=y::setM p v c d from if_neg e,getM,getM,getM_set p q v c d]
   by_cases e2:q=y.1
   ·rw [if_pos e2,if_neg (by rw [e2]; exact fun h=>e h.symm),if_pos e2]
   ·rw [if_neg e2,if_neg e2]
theorem getM_no{p:κ}:∀ {d:List (κ × ν × Nat)},getM p d=none↔p ∉ d.map Prod.fst
 | []=>by simp [getM]
 | y::d=>by
  rw [getM]
  by_cases e:p=y.1
  ·rw [if_pos e]; simp [e]
  ·rw [if_neg e,getM_no]; simp [e]
structure KMap(d:List (κ × ν × Nat))(c:Nat):Prop where
 nd:(d.map Prod.fst).Nodup
 bn:(d.map fun x=>x.2.2).Nodup
 lt:∀ x∈d,x.2.2<c
theorem KMap.nil:KMap ([]:List (κ × ν × Nat)) 0:=⟨List.Pairwise.nil,List.Pairwise.nil,fun x hx=>by cases hx⟩
theorem setM_keysG{p:κ}{v v0:ν}{c:Nat}:∀ {d:List (κ × ν × Nat)},getM p d=some v0→(setM p v c d).map Prod.fst=d.map Prod.fst∧(setM p v c d).map (fun x=>x.2.2)=d.map fun x=>x.2.2
 | [],h=>by cases h
 | y::d,h=>by
  simp only [getM] at h
  by_cases e:p=y.1
  ·rw [show setM p v c (y::d)=(y.1,v,y.2.2)::d from if_pos e]; exact ⟨rfl,rfl⟩
  ·rw [if_neg e] at h
   obtain ⟨h1,h2⟩:=setM_keysG (v:=v) (c:=c) h
   rw [show setM p v c (y::d)=y::setM p v c d from if_neg e]
   simp only [List.map_cons,h1,h2,and_self]
theorem KMap.step{d:List (κ × ν × Nat)}{c:Nat}(h:KMap d c)(p:κ)(v:ν):KMap (setM p v c d) (if (getM p d).isSome then c else c+1):=by
 cases hg:getM p d with
 | some v0 =>
  obtain ⟨h1,h2⟩:=setM_keysG (v:=v) (c:=c) hg
  simp only [Option.isSome_some,if_true]
  refine ⟨by rw [h1]; exact h.nd,by rw [h2]; exact h.bn,fun x hx=>?_⟩
  have:x.2.2∈(setM p v c d).map fun x=>x.2.2:=List.mem_map_of_mem (f:=fun x:κ × ν × Nat=>x.2.2) hx
  rw [h2] at this
  obtain ⟨z,hz,e⟩:=List.mem_map.1 this
  rw [← e]; exact h.lt z hz
 | none =>
  rw [setM_snoc hg]
  simp only [Option.isSome_none,Bool.false_eq_true,if_false]
  refine ⟨?_,?_,fun x hx=>?_⟩
  ·rw [List.map_append,List.nodup_append]
   refine ⟨h.nd,List.pairwise_singleton _ _,fun a ha b hb e=>?_⟩
   simp only [List.map_cons,List.map_nil,List.mem_singleton] at hb
   exact getM_no.1 hg (by rw [← hb,← e]; exact ha)
  ·rw [List.map_append,List.nodup_append]
   refine ⟨h.bn,List.pairwise_singleton _ _,fun a ha b hb e=>?_⟩
   simp only [List.map_cons,List.map_nil,List.mem_singleton] at hb
   obtain ⟨x,hx,rfl⟩:=List.mem_map.1 ha
   have:=h.lt x hx
   omega
  ·rcases List.mem_append.1 hx with hx | hx
   ·have:=h.lt x hx; omega
   ·rw [List.mem_singleton] at hx; subst hx; exact Nat.lt_succ_self _
theorem setM_len(p:κ)(v:ν)(c:Nat):∀ d:List (κ × ν × Nat),(setM p v c d).length≤d.length+1
 | []=>Nat.le_refl _
 | y::d=>by
  by_cases e:p=y.1
  ·rw [show setM p v c (y::d)=(y.1,v,y.2.2)::d from if_pos e]; simp
  ·rw [show setM p v c (y::d)=y::setM p v c d from if_neg e]
   have:=setM_len p v c d
   simp only [List.length_cons]; omega
end
def downsO(l:List OpT):Nat→List (Int × OpT)
 | 0=>[]
 | k+1=>downsO l k++(match l[l.length - 1 - k]? with | some o=>[((l.length:Int) - 1 - k,o)] | none=>[])
theorem downsO_pre(l:List OpT){k n:Nat}(h:k≤n):∃ r,downsO l n=downsO l k++r:=by
 induction h with
 | refl=>exact ⟨[],by simp⟩
 | step h ih =>
  obtain ⟨r,e⟩:=ih
  exact ⟨_,by rw [downsO,e,List.append_assoc]⟩
theorem downsO_succ(l:List OpT){k n:Nat}(hk:k<l.length)(hn:n=l.length - 1 - k)(hnl:n<l.length):downsO l (k+1)=downsO l k++[((n:Int),l[n])]:=by
 rw [downsO,← hn,List.getElem?_eq_getElem hnl]
 have:(l.length:Int) - 1 - k=n:=by omega
 rw [this]
theorem downsO_snd(l:List OpT):∀ k,k≤l.length→(downsO l k).map Prod.snd=l.reverse.take k
 | 0,_=>by simp [downsO]
 | k+1,h=>by
  rw [downsO_succ l (by omega) rfl (by omega),List.map_append,downsO_snd l k (by omega),List.take_succ_eq_append_getElem (by simp; omega)]
  congr 1
  simp only [List.map_cons,List.map_nil,List.getElem_reverse]
theorem back1O_ok(fv:Value)(bx:Nat)(v:Value)(l:List OpT)(J:List (Int × OpT)→World→Prop)(w:World)(hl:l.length≤1000)
  (hb:∀ pre w',J pre w'→w'.cell? ⟨bx,0,none⟩=some v∧RdS w' 11 OpT.enc v l)
  (hf:∀ pre x w',J pre w'→(∃ r,pre++x::r=downsO l l.length)→callW Tryz.prog fv [.int .i64 x.1,.agg x.2.enc.toArray] w' fun v w''=>v=.bool true∧J (pre++[x]) w'') (h0:J [] w) :
  Ret Tryz.prog 84 [fv,.pointer (some ⟨bx,0,none⟩)] w fun _ w'=>J (downsO l l.length) w':=by
 obtain ⟨hb0,hr0⟩:=hb _ _ h0
 obtain ⟨a,c,rfl,_⟩:=hr0.form
 refine ent84 _ _ _ _ ?_
 simp (disch:=first|omega|exact zF rfl|exact zG rfl|exact fun h=>h|(simp only[zA,zB,zC,zD,bytesW];omega)) only[go_sem,hb0]
 refine ⟨⟨by omega,by omega⟩,?_⟩
 refine W_loopU (fun x:Int × Nat=>[(3,.int .i64 x.1)]) (fun x w'=>J (downsO l x.2) w'∧x.2≤l.length∧x.1=(l.length:Int) - 1 - x.2) (fun x=>l.length - x.2) ((l.length:Int) - 1,0) rfl ⟨h0,Nat.zero_le _,by simp⟩ ?_
 rintro ⟨i,k⟩ w3 ⟨j3,hk,hi⟩
 simp only at j3 hk hi
 obtain ⟨hb3,hr3⟩:=hb _ _ j3
 by_cases hlt:k<l.length
 ·have h1:i ≥ 0:=by omega
  obtain ⟨n,rfl⟩:∃ n:Nat,i=n:=⟨i.toNat,by omega⟩
  have hn:n=l.length - 1 - k:=by omega
  have hnl:n<l.length:=by omega
  have hnl':(n:Int)<l.length:=by omega
  obtain ⟨q,rfl⟩:=hr3.ptr (by omega)
  have ek:=hr3.eltB (Below.refl _ _) OpT.len (by decide) hnl
  have ck:=hr3.at OpT.len hnl
  have esucc:=downsO_succ l hlt hn hnl
  simp (disch:=first|omega|exact zF rfl|exact zG rfl|exact fun h=>h|(simp only[zA,zB,zC,zD,bytesW];omega)) only[go_sem,h1,hb3,ek,ck,hnl']
  refine callW_mono (hf _ ((n:Int),l[n]) _ j3 ?_) ?_
  ·obtain ⟨r,e⟩:=downsO_pre l (k:=k+1) (n:=l.length) (by omega)
   exact ⟨r,by rw [e,esucc,List.append_assoc]; rfl⟩
  ·rintro _ w5 ⟨rfl,j5⟩
   simp (disch:=first|omega|exact zF rfl|exact zG rfl|exact fun h=>h|(simp only[zA,zB,zC,zD,bytesW];omega)) only[go_sem]
   exact ⟨⟨by omega,by omega⟩,((n:Int) - 1,k+1),rfl,⟨by simp only; rw [esucc]; exact j5,hlt,by simp only; omega⟩,by simp only; omega⟩
 ·have h1:¬ i ≥ 0:=by omega
  obtain rfl:k=l.length:=by omega
  simp (disch:=first|omega|exact zF rfl|exact zG rfl|exact fun h=>h|(simp only[zA,zB,zC,zD,bytesW];omega)) only[go_sem,h1]
  exact j3
theorem backwardO_ok(a:Option Addr)(n c:Nat)(w:World):Ret Tryz.prog 57 [.slice a n c] w fun u w'=>u=.func (.func 84) #[] #[.pointer (some ⟨w.heap.size,0,none⟩)]∧w'=w.alloc (.cells #[.slice a n c] 22):=by
 refine ent57 _ _ _ ?_
 simp (disch:=first|omega|exact zF rfl|exact zG rfl|exact fun h=>h|(simp only[zA,zB,zC,zD,bytesW];omega)) only[go_sem]
def kmF(z:List (Int × Value × Nat) × Nat)(x:Int × OpT):List (Int × Value × Nat) × Nat:=(setM x.2.Object (.int .i64 x.2.Kind) z.2 z.1,if (getM x.2.Object z.1).isSome then z.2 else z.2+1)
def kmP(pre:List (Int × OpT)):List (Int × Value × Nat) × Nat:=pre.foldl kmF ([],0)
theorem kmP_snoc(pre:List (Int × OpT))(x:Int × OpT):kmP (pre++[x])=kmF (kmP pre) x:=by
 unfold kmP
 rw [List.foldl_append]
 rfl
theorem kmP_is(t:List (Int × OpT)):KMap (kmP t).1 (kmP t).2∧(kmP t).1.length≤t.length∧(∀ q,getM q (kmP t).1=none↔∀ x∈t,x.2.Object≠q)∧∀ q v,getM q (kmP t).1=some v→∃ x∈t,x.2.Object=q∧v=.int .i64 x.2.Kind:=by
 have:∀ r:List (Int × OpT),KMap (kmP r.reverse).1 (kmP r.reverse).2∧(kmP r.reverse).1.length≤r.length∧(∀ q,getM q (kmP r.reverse).1=none↔∀ x∈r,x.2.Object≠q)∧∀ q v,getM q (kmP r.reverse).1=some v→∃ x∈r,x.2.Object=q∧v=.int .i64 x.2.Kind:=by
  intro r
  induction r with
  | nil=>exact ⟨KMap.nil,Nat.le_refl _,fun q=>by simp [kmP,getM],fun q v h=>by cases h⟩
  | cons x r ih =>
   obtain ⟨i1,i2,i3,i4⟩:=ih
   rw [List.reverse_cons,kmP_snoc]
   generalize kmP r.reverse=z at i1 i2 i3 i4
   unfold kmF
   simp only
   refine ⟨i1.step _ _,?_,fun q=>?_,fun q v h=>?_⟩
   ·have:=setM_len x.2.Object (.int .i64 x.2.Kind) z.2 z.1
    rw [List.length_cons]; omega
   ·rw [getM_set]
    by_cases e:q=x.2.Object
    ·rw [if_pos e]
     constructor
     ·intro h; cases h
     ·intro h; exact absurd e.symm (h x List.mem_cons_self)
    ·rw [if_neg e,i3]
     constructor
     ·intro h y hy
      rcases List.mem_cons.1 hy with rfl | hy
      ·exact fun h=>e h.symm
      ·exact h y hy
     ·exact fun h y hy=>h y (List.mem_cons_of_mem _ hy)
   ·rw [getM_set] at h
    by_cases e:q=x.2.Object
    ·rw [if_pos e] at h
     exact ⟨x,List.mem_cons_self,e.symm,(Option.some.inj h).symm⟩
    ·rw [if_neg e] at h
     obtain ⟨y,hy,h1⟩:=i4 q v h
     exact ⟨y,List.mem_cons_of_mem _ hy,h1⟩
 have h:=this t.reverse
 simp only [List.reverse_reverse,List.length_reverse,List.mem_reverse] at h
 exact h
theorem sorts_some{cf:OpT→OpT→Int}(hO:Go.Sort.SWO (ltOf cf))(l:List OpT):∃ r,Cut.Sorts cf l r:=by
 have e:∀ a b,ltOf cf a b=decide (cf a b<0):=fun a b=>rfl
 refine ⟨l.mergeSort fun a b=>!ltOf cf b a,List.mergeSort_perm _ _,?_⟩
 refine (List.pairwise_mergeSort (le:=fun a b=>!ltOf cf b a) (fun a b c h1 h2=>?_) (fun a b=>?_) l).imp fun {a b} h=>?_
 ·have h1:ltOf cf b a=false:=by simpa using h1
  have h2:ltOf cf c b=false:=by simpa using h2
  have:=hO.ntrans _ _ _ h2 h1
  simpa using this
 ·cases h1:ltOf cf b a
  ·simp
  ·cases h2:ltOf cf a b
   ·simp
   ·have:=hO.trans _ _ _ h1 h2
    rw [hO.irrefl] at this
    cases this
 ·have h:ltOf cf b a=false:=by simpa using h
  rw [e] at h
  exact of_decide_eq_false h
theorem byObj_some(l:List OpT):∃ acc,Cut.ByObj l acc:=by
 have hO:Go.Sort.SWO (ltOf Cut.objI):=by
  refine ⟨fun x=>?_,fun x y z h1 h2=>?_,fun x y z h1 h2=>?_⟩
  ·rw [Cut.lt_obj]; exact decide_eq_false (by omega)
  ·rw [Cut.lt_obj] at h1 h2 ⊢
   have h1:=of_decide_eq_true h1
   have h2:=of_decide_eq_true h2
   exact decide_eq_true (by omega)
  ·rw [Cut.lt_obj] at h1 h2 ⊢
   have h1:=of_decide_eq_false h1
   have h2:=of_decide_eq_false h2
   exact decide_eq_false (by omega)
 obtain ⟨r,hr⟩:=sorts_some hO l
 exact ⟨_,Cut.objects_by hr⟩
open Go Go.Ann Go.RowKit
theorem byProc_len{l:List OpT}{segs:List Seg}(h:Cut.ByProc l segs):segs.length≤l.length:=by
 have:=nodup_sub_len (a:=segs.map Seg.obj) (b:=l.map OpT.Proc) (by
  unfold List.Nodup
  rw [List.pairwise_map]
  exact h.up.imp fun h=>Int.ne_of_lt h) (fun x hx=>by
  obtain ⟨s,hs,rfl⟩:=List.mem_map.1 hx
  obtain ⟨o,r,e,_⟩:=h.kind s hs
  have ho:o∈s.ops:=by rw [e]; exact List.mem_cons_self
  obtain ⟨a,b⟩:=(byProc_mem h hs o).1 ho
  exact List.mem_map.2 ⟨o,a,b⟩)
 simpa using this
theorem ctx_of{l:List OpT}{accP accO:List Seg}(hp:Cut.ByProc l accP)(ho:Cut.ByObj l accO)(hw:∀ o∈l,o.wf)(hk:∀ a∈l,∀ b∈l,a.Object=b.Object→a.Kind=b.Kind)(hl:l.length≤200):Ctx (progsW accP) accO 65:=by
 refine ⟨prok_of hp ho hw hk,by decide,?_,fun k=>?_,?_⟩
 ·have:=byProc_len hp
  simp only [progsW,List.length_map]
  omega
 ·rcases Nat.lt_or_ge k accP.length with h | h
  ·rw [progs_getD h]
   have h1:=(hp.sorts _ (List.getElem_mem h)).1.length_eq
   have h2:=Cut.ofProc_len accP[k].obj l
   omega
  ·rw [List.getD_eq_getElem?_getD,List.getElem?_eq_none (by simpa [progsW] using h)]
   simp
 ·have:=byObj_len ho
  omega
theorem objs_eq{l:List OpT}{accO:List Seg}{ks:List Int}(ho:Cut.ByObj l accO)(hu:ks.Pairwise (· < ·))(hm:∀ q,q∈ks↔∃ o∈l,o.Object=q):ks=objsW accO:=by
 have h2:(objsW accO).Pairwise (· < ·):=by
  unfold objsW
  rw [List.pairwise_map]
  exact ho.up
 have e:∀ q,q∈ks↔q∈objsW accO:=fun q=>by
  rw [hm]
  unfold objsW
  constructor
  ·rintro ⟨o,ho2,rfl⟩
   obtain ⟨s,hs,e⟩:=ho.all o ho2
   exact List.mem_map.2 ⟨s,hs,e⟩
  ·intro h
   obtain ⟨s,hs,rfl⟩:=List.mem_map.1 h
   obtain ⟨o,r,e,_⟩:=ho.kind s hs
   have:o∈s.ops:=by rw [e]; exact List.mem_cons_self
   obtain ⟨a,b⟩:=(byObj_mem ho hs o).1 this
   exact ⟨o,a,b⟩
 refine List.Perm.eq_of_pairwise (fun a b _ _ h1 h2=>by omega) hu h2 ?_
 exact (List.perm_ext_iff_of_nodup (hu.imp fun h=>Int.ne_of_lt h) (h2.imp fun h=>Int.ne_of_lt h)).2 e
theorem ds_first{W0 w:World}{F:Nat→Prop}{L:List Res}{I:List Inv}{dv sv:Value}{d:List Nat}{U:List VS}
  (h:St W0 w F (.row dv 3 1 d.length ((zN d).flatMap intE)::.row sv 25 1 U.length (U.map Prod.fst)::L) (Inv.vs U::I)):St W0 w F L (Inv.ds [(dv,d,sv,U)]::I):=by
 have hd:RdS w 1 intE dv (zN d):=RdS.of_own' (h.row 0 rfl) (zN d) (by rw [zN_len]) rfl
 have h1:=h.seal (Inv.rd 1 intE dv (zN d)) hd fun k hk=>slFoot_own hk
 have hs:RdS w 1 oneV sv (U.map Prod.fst):=RdS.of_own' (h1.row 0 rfl) (U.map Prod.fst) (by simp) (flat_oneV _).symm
 have hU:=h1.get 1 rfl
 have hr:RowS w sv U:=⟨Rd.of_own (h1.row 0 rfl),hU⟩
 have h2:=h1.seal (Inv.rd 1 oneV sv (U.map Prod.fst)) hs fun k hk=>slFoot_own hk
 refine (St.keepU h2 (Inv.ds [(dv,d,sv,U)]) (fun c hc=>?_) fun k hk=>?_).inv_sub fun a ha=>?_
 ·rw [List.mem_singleton] at hc
  subst hc
  exact ⟨hd,hr⟩
 ·obtain ⟨c,hc,hk⟩:=hk
  rw [List.mem_singleton] at hc
  subst hc
  rcases hk with hk | hk | ⟨p,hp,hk⟩
  ·exact ⟨Inv.rd 1 intE dv (zN d),by simp,hk⟩
  ·exact ⟨Inv.rd 1 oneV sv (U.map Prod.fst),by simp,hk⟩
  ·exact ⟨Inv.vs U,by simp,p,hp,hk⟩
 ·rcases List.mem_cons.1 ha with rfl | ha
  ·exact List.mem_cons_self
  ·simp [ha]
theorem plM_snoc(x:Int):∀ (l:List Int) (i:Nat),plM (l++[x]) i=plM l i++[(x,i+l.length,i+l.length)]
 | [],i=>by simp [plM]
 | t::l,i=>by
  rw [List.cons_append,plM,plM,plM_snoc x l,List.length_cons,List.cons_append]
  have e:i+1+l.length=i+(l.length+1):=by omega
  rw [e]
def BeginV(l:List OpT)(accO:List Seg)(most:Int)(w:World)(u:Value)(w':World):Prop :=
 ∃ x pl m c0 accP vs pv tv N C,u=.pointer (some ⟨x,0,none⟩)∧Cut.ByProc l accP∧Ctx (progsW accP) accO 65∧SrS w w' (fun _=>False) [] [] (progsW accP) accO vs x pl m 65 c0 most pv tv N C∧GrI (progsW accP) (objsW accO) N 0 []∧N.map Nd.sp=[startW accP accO]
theorem begin_end{w w1:World}{l:List OpT}{accP accO:List Seg}{U:List VS}{x pl m D c0 pc:Nat}{most:Int}{pa:Option Addr}{sv:Value}{pvs:List Value}(hP:Cut.ByProc l accP)(hO:Cut.ByObj l accO)(cx:Ctx (progsW accP) accO 65)(hn:(l.map OpT.ID).Nodup)(hl:l.length≤64)
  (s:St w w1 (fun _=>False) (.row sv 25 1 U.length (U.map Prod.fst)::.blk x #[.slice pa (progsW accP).length pc,.map (some pl),.slice none 0 0,.map (some m),.int .i64 most] 60::.obj m (mapG strE natK [] 0)::.obj pl (mapG Cut.intK natK (plM (objsW accO) 0) c0)::[.obj D (.deferred (some []))]) [Inv.vs U,Inv.pg (.slice pa (progsW accP).length pc) (progsW accP) pvs])
  (hU:U.map Prod.snd=accO.map fun s=>firstP s.kind) :
  W Tryz.prog (c29S5 ()) [(5,.pointer (some ⟨x,0,none⟩)),(9,sv),(D+1000000,undef)] w1 (finQ Tryz.prog [.tmp 4] fun u w'=>BeginV l accO most w u w'):=by
 have e9:(9 == D+1000000)=false:=by rw [beq_eq_false_iff_ne]; omega
 have r6:=s.rules 1 rfl
 have hpl:=cx.pl
 obtain ⟨sa,sc,rfl,_⟩:=own_slice (s.row 0 rfl)
 simp (disch:=first|omega|exact zF rfl|exact zG rfl|exact fun h=>h|(simp only[zA,zB,zC,zD,bytesW];omega)) only[go_sem,c29A0,c29B0,c29L1,c29S3,c29S5,c29S6,c29S7,r6,e9]
 refine msW_one ty25mkI rfl (by omega) (by omega) (by omega) (by omega) ?_
 have hz:Blk (w1.alloc (.cells (zerosA (.int .i64 0) (progsW accP).length) 3)) w1.heap.size (zerosA (.int .i64 0) (progsW accP).length) 3:=Blk.new
 have ez:(zerosA (.int .i64 0) (progsW accP).length).toList=(zN (List.replicate (progsW accP).length 0)).flatMap intE:=by
  unfold zerosA zN
  rw [List.map_replicate]
  generalize (progsW accP).length=q
  induction q with
  | zero=>rfl
  | succ q ih=>simp only [List.replicate_succ,List.flatMap_cons,← ih]; rfl
 have ho:=hz.own (n:=(progsW accP).length) (cap:=(progsW accP).length) (size:=1) (xs:=(zN (List.replicate (progsW accP).length 0)).flatMap intE) (base:=w1.heap.size) (Nat.le_refl _) (Nat.le_refl _) (by have:maxLen=9223372036854775807:=(by decide); omega) (by simp [zerosA]) (by rw [ez,List.take_of_length_le]; rw [flat_all (sz:=1) (fun _=>rfl),zN_len,List.length_replicate]; exact Nat.le_refl _)
 have s2:=s.add ((Below.refl _ w1).alloc (Nat.le_refl _) (.cells (zerosA (.int .i64 0) (progsW accP).length) 3)) (.row (.slice (some ⟨w1.heap.size,0,none⟩) (progsW accP).length (progsW accP).length) 3 1 (progsW accP).length ((zN (List.replicate (progsW accP).length 0)).flatMap intE)) (own_mono ho s.size) fun k hk=>(ho.lt k hk).1
 rw [Int.toNat_natCast]
 generalize w1.alloc (.cells (zerosA (.int .i64 0) (progsW accP).length) 3)=w2 at s2 ⊢
 generalize w1.heap.size=dg at s2 ⊢
 simp (disch:=first|omega|exact zF rfl|exact zG rfl|exact fun h=>h|(simp only[zA,zB,zC,zD,bytesW];omega)) only[go_sem,c29A0,c29B0,c29L1,c29S3,c29S5,c29S6,c29S7,r6,e9]
 have hst:(startW accP accO).done=List.replicate (progsW accP).length 0:=by simp [startW,progsW]
 have hU2:U.map Prod.snd=(startW accP accO).st:=hU
 have hrem:remP (progsW accP) (startW accP accO).done+1≤65:=by
  have:=rem_start (accO:=accO) hP hn
  omega
 have hsok:=start_ok (accO:=accO) hrem
 have s3:=ds_first (d:=List.replicate (progsW accP).length 0) (st_recast s2 (by rw [List.length_replicate]))
 rw [← hst] at s3
 have s4:=(s3.nilRow 65 1).perm (L':=SX (progsW accP) x pl m most (.slice pa (progsW accP).length pc) (.slice none 0 0) []++[.obj pl (mapG Cut.intK natK (plM (objsW accO) 0) c0),.obj D (.deferred (some []))]) (List.Perm.swap _ _ _)
 refine Ret.mono (wadd_ok (q:=accO.length) (s:=startW accP accO) (U:=U) s4 List.mem_cons_self hU2 (hsok.text (by decide) cx.pp) (fun n hn=>by cases hn) (fun p hp=>?_) (by have:=cx.ob; omega) (by omega) (fun k=>Nat.le_trans (cx.pp k) (by decide)) hsok.le (by simp)) ?_
 ·have hpm:p.2∈U.map Prod.snd:=List.mem_map_of_mem hp
  rw [hU] at hpm
  obtain ⟨sg,_,e⟩:=List.mem_map.1 hpm
  rw [← e]
  have:=firstP_ok sg.kind
  exact ⟨this.1,by omega⟩
 intro u5 w5 h5
 generalize hG:(thenQ Tryz.prog (sg c29S4) _)=Gq
 obtain ⟨tv',N',s5,hsp,hu,hE⟩:=h5
 subst hu
 have hE':∃ b,N'=[⟨b,.slice (some ⟨dg,0,none⟩) (progsW accP).length (progsW accP).length,.slice sa U.length sc,.slice none 0 0,startW accP accO,U,[],false⟩]:=by
  rcases hE with h | ⟨b,h⟩
  ·rw [h] at hsp
   simp [addW] at hsp
  ·exact ⟨b,h⟩
 clear hE
 obtain ⟨b,rfl⟩:=hE'
 have s6:=s5.perm (L':=.obj pl (mapG Cut.intK natK (plM (objsW accO) 0) c0)::.obj D (.deferred (some []))::(SX (progsW accP) x pl m most (.slice pa (progsW accP).length pc) tv' ([⟨b,.slice (some ⟨dg,0,none⟩) (progsW accP).length (progsW accP).length,.slice sa U.length sc,.slice none 0 0,startW accP accO,U,[],false⟩])++[])) (by rw [List.append_nil]; exact List.perm_append_comm (l₁:=[_,_]))
 have s7:=s6.seal (Inv.ob pl (mapG Cut.intK natK (plM (objsW accO) 0) c0)) (s6.obj 0 rfl) (fun k hk=>by cases hk; rfl)
 have hD:=s7.obj 0 rfl
 have s8:=(s7.putObj 0 rfl (.deferred none)).sub (List.sublist_cons_self _ _)
 subst hG
 simp (disch:=first|omega|exact zF rfl|exact zG rfl|exact fun h=>h|(simp only[zA,zB,zC,zD,bytesW];omega)) only[go_sem,c29A0,c29B0,c29L1,c29S3,c29S5,c29S6,c29S7,e9,hD]
 refine ⟨x,pl,m,c0,accP,pvs,.slice pa (progsW accP).length pc,tv',[⟨b,.slice (some ⟨dg,0,none⟩) (progsW accP).length (progsW accP).length,.slice sa U.length sc,.slice none 0 0,startW accP accO,U,[],false⟩],[(.slice (some ⟨dg,0,none⟩) (progsW accP).length (progsW accP).length,(startW accP accO).done,.slice sa U.length sc,U)],rfl,hP,cx,⟨s8.inv_sub fun a ha=>?_,fun n hn=>?_⟩,fun j n hj=>?_,rfl⟩
 ·simp only [List.mem_cons,List.not_mem_nil,or_false] at ha ⊢
  rcases ha with rfl | rfl | rfl
  ·exact .inr (.inl rfl)
  ·exact .inr (.inr rfl)
  ·exact .inl rfl
 ·rw [List.mem_singleton] at hn
  subst hn
  exact ⟨hU2,List.mem_cons_self,hsok⟩
 ·cases j with
  | zero =>
   cases hj
   exact ⟨rfl,fun h=>absurd h (Nat.lt_irrefl _),fun _=>rfl,fun h=>absurd h (Nat.lt_irrefl _)⟩
  | succ j=>cases hj
theorem begin_ok(v:Value)(l:List OpT)(most:Int)(w:World)(h:RdS w 11 OpT.enc v l)(hl:l.length≤64)(hn:(l.map OpT.ID).Nodup)(hk:∀ a∈l,∀ b∈l,a.Object=b.Object→a.Kind=b.Kind)(hw:∀ o∈l,o.wf){accO:List Seg}(hO:Cut.ByObj l accO) :
  Ret Tryz.prog 29 [v,.int .i64 most] w fun u w'=>BeginV l accO most w u w':=by
 obtain ⟨a,c,rfl,_⟩:=h.form
 refine ent29 _ _ _ _ ?_
 simp (disch:=first|omega|exact zF rfl|exact zG rfl|exact fun h=>h|(simp only[zA,zB,zC,zD,bytesW];omega)) only[go_sem,c29A0,c29B0,c29L1,c29S3,c29S5,c29S6]
 refine Ret.mono (Cut.programs_ok _ l w h (by omega)) ?_
 rintro pv w1 ⟨⟨accP,vs,hP,hpr⟩,b1⟩
 have cx:=ctx_of hP hO hw hk (by omega)
 have hpg:=PgR.of hpr
 have s1:=(St.start (W0:=w)).made b1 (Inv.pg pv (progsW accP) vs) hpg fun k hk=>⟨by
  rcases hk with hk | ⟨v,hv,hk⟩
  ·exact hpr.newT k hk
  ·exact hpr.newE v hv k hk,hpg.footLt hk⟩
 obtain ⟨pa,pc,rfl⟩:=hpg.form
 simp (disch:=first|omega|exact zF rfl|exact zG rfl|exact fun h=>h|(simp only[zA,zB,zC,zD,bytesW];omega)) only[go_sem,c29A0,c29B0,c29L1,c29S3,c29S5,c29S6]
 refine mmG (ek:=Cut.intK) (ev:=natK) ?_
 have s2:=s1.lay (mapG Cut.intK natK [] 0)
 generalize w1.alloc (mapG Cut.intK natK [] 0)=w2 at s2 ⊢
 generalize w1.heap.size=pl at s2 ⊢
 simp (disch:=first|omega|exact zF rfl|exact zG rfl|exact fun h=>h|(simp only[zA,zB,zC,zD,bytesW];omega)) only[go_sem,c29A0,c29B0,c29L1,c29S3,c29S5,c29S6]
 refine mmG (ek:=strE) (ev:=natK) ?_
 have s3:=s2.lay (mapG strE natK [] 0)
 generalize w2.alloc (mapG strE natK [] 0)=w3 at s3 ⊢
 generalize w2.heap.size=m at s3 ⊢
 simp (disch:=first|omega|exact zF rfl|exact zG rfl|exact fun h=>h|(simp only[zA,zB,zC,zD,bytesW];omega)) only[go_sem,c29A0,c29B0,c29L1,c29S3,c29S5,c29S6]
 refine bdW_built (cells:=#[.slice pa (progsW accP).length pc,.map (some pl),.slice none 0 0,.map (some m),.int .i64 most]) (by kernel_rfl) ?_
 simp (disch:=first|omega|exact zF rfl|exact zG rfl|exact fun h=>h|(simp only[zA,zB,zC,zD,bytesW];omega)) only[go_sem,c29A0,c29B0,c29L1,c29S3,c29S5,c29S7]
 have s4:=s3.box #[.slice pa (progsW accP).length pc,.map (some pl),.slice none 0 0,.map (some m),.int .i64 most] 60
 generalize w3.alloc (.cells #[.slice pa (progsW accP).length pc,.map (some pl),.slice none 0 0,.map (some m),.int .i64 most] 60)=w4 at s4 ⊢
 generalize w3.heap.size=x at s4 ⊢
 refine mmG (ek:=Cut.intK) (ev:=Cut.idK) ?_
 have s5:=s4.lay (mapG Cut.intK Cut.idK [] 0)
 generalize w4.alloc (mapG Cut.intK Cut.idK [] 0)=w5 at s5 ⊢
 generalize w4.heap.size=kb at s5 ⊢
 simp (disch:=first|omega|exact zF rfl|exact zG rfl|exact fun h=>h|(simp only[zA,zB,zC,zD,bytesW];omega)) only[go_sem,c29L1,c29S3,c29S5,c29S7]
 have s6:=s5.box #[.map (some kb)] 56
 generalize w5.alloc (.cells #[.map (some kb)] 56)=w6 at s6 ⊢
 generalize w5.heap.size=kc at s6 ⊢
 refine Ret.mono (backwardO_ok _ _ _ w6) ?_
 rintro _ _ ⟨rfl,rfl⟩
 have s7:=s6.box #[.slice a l.length c] 22
 generalize w6.alloc (.cells #[.slice a l.length c] 22)=w7 at s7 ⊢
 generalize w6.heap.size=bw at s7 ⊢
 simp (disch:=first|omega|exact zF rfl|exact zG rfl|exact fun h=>h|(simp only[zA,zB,zC,zD,bytesW];omega)) only[go_sem,c29L1,c29S3,c29S5,c29S7]
 refine RangeW_all (fun x:Int × OpT=>[.int .i64 x.1,.agg x.2.enc.toArray]) (downsO l l.length) (fun pre=>[.blk bw #[.slice a l.length c] 22,.blk kc #[.map (some kb)] 56,.obj kb (mapG Cut.intK Cut.idK (kmP pre).1 (kmP pre).2),.blk x #[.slice pa (progsW accP).length pc,.map (some pl),.slice none 0 0,.map (some m),.int .i64 most] 60,.obj m (mapG strE natK [] 0),.obj pl (mapG Cut.intK natK [] 0)]) rfl (by kernel_rfl) s7 rfl (fun _=>rfl) ?_ ?_ ?_
 ·intro fv J w8 hJ1 hJ2 hf h0
  refine back1O_ok fv _ (.slice a l.length c) l J w8 (by omega) (fun pre w' j=>?_) hf h0
  obtain ⟨lo,D,o,hX⟩:=hJ1 pre w' j
  exact ⟨(hX.blk 2 rfl).cell 0,h.below hX.bel (by decide)⟩
 ·intro pre x w' lo D o o2 hx h8
  obtain ⟨xi,xo⟩:=x
  have hao:=xo.at
  simp (disch:=first|omega|exact zF rfl|exact zG rfl|exact fun h=>h|(simp only[zA,zB,zC,zD,bytesW];omega)) only[go_sem,c29A0,c29B0,c29L1,c29S3,c29S5,c29S6,c29S7,c29A0,c29B0]
  refine ⟨by simp [OpT.len],.blk w'.heap.size xo.enc.toArray 52::_,(h8.box xo.enc.toArray 52).perm (((List.Perm.swap _ _ _).cons _).trans (List.Perm.swap _ _ _)),fun w2 h2=>?_⟩
  have rk:=h2.rules 4 rfl
  have rb:=h2.rules 2 rfl
  simp (disch:=first|omega|exact zF rfl|exact zG rfl|exact fun h=>h|(simp only[zA,zB,zC,zD,bytesW];omega)) only[go_sem,c29A0,c29B0,c29L1,c29S3,c29S5,c29S6,c29S7,rk,rb,hao]
  refine muG_map (ek:=Cut.intK) (ev:=Cut.idK) Cut.keyT_i Tryz.underlying56 (fun a=>by simp [Instr.sameBits,Cut.intK]) (h2.obj 5 rfl) xo.Object (.int .i64 xo.Kind) ?_
  simp (disch:=first|omega|exact zF rfl|exact zG rfl|exact fun h=>h|(simp only[zA,zB,zC,zD,bytesW];omega)) only[go_sem,c29A0,c29B0,c29L1,c29S3,c29S5,c29S6,c29S7]
  have h3:=(h2.putObj 5 rfl (mapG Cut.intK Cut.idK (kmP (pre++[(xi,xo)])).1 (kmP (pre++[(xi,xo)])).2)).sub (L':=.obj lo o2::.obj D (.deferred (some []))::[.blk bw #[.slice a l.length c] 22,.blk kc #[.map (some kb)] 56,.obj kb (mapG Cut.intK Cut.idK (kmP (pre++[(xi,xo)])).1 (kmP (pre++[(xi,xo)])).2),.blk x #[.slice pa (progsW accP).length pc,.map (some pl),.slice none 0 0,.map (some m),.int .i64 most] 60,.obj m (mapG strE natK [] 0),.obj pl (mapG Cut.intK natK [] 0)]) (by simp)
  rw [kmP_snoc] at h3 ⊢
  exact h3
 ·intro D w' h8
  have s8:=h8.perm (List.perm_append_singleton _ _)
  have e9:(9 == D+1000000)=false:=by rw [beq_eq_false_iff_ne]; omega
  have e33:(33 == D+1000000)=false:=by rw [beq_eq_false_iff_ne]; omega
  clear h8 s7 s6 s5 s4 s3 s2
  obtain ⟨k1,k2,k3,k4⟩:=kmP_is (downsO l l.length)
  have hmem:∀ o,(∃ x∈downsO l l.length,x.2=o)↔o∈l:=fun o=>by
   have:=downsO_snd l l.length (Nat.le_refl _)
   rw [List.take_of_length_le (by simp)] at this
   rw [← List.mem_reverse,← this,List.mem_map]
  have hdl:(downsO l l.length).length=l.length:=by
   have:=congrArg List.length (downsO_snd l l.length (Nat.le_refl _))
   rw [List.length_map,List.length_take,List.length_reverse] at this
   omega
  generalize hkd:(kmP (downsO l l.length)).1=kd at s8 k1 k2 k3 k4
  generalize hkc:(kmP (downsO l l.length)).2=kcl at s8 k1
  have rk:=s8.rules 1 rfl
  simp (disch:=first|omega|exact zF rfl|exact zG rfl|exact fun h=>h|(simp only[zA,zB,zC,zD,bytesW];omega)) only[go_sem,c29A0,c29B0,c29L1,c29S6,c29S7,rk]
  refine Ret.mono (Cut.keysJ_ok w') ?_
  rintro _ _ ⟨rfl,rfl⟩
  have s9:=s8.box #[.map (some kb)] 56
  generalize w'.heap.size=bx at s9 ⊢
  generalize w'.alloc (.cells #[.map (some kb)] 56)=w9 at s9 ⊢
  simp (disch:=first|omega|exact zF rfl|exact zG rfl|exact fun h=>h|(simp only[zA,zB,zC,zD,bytesW];omega)) only[go_sem,c29A0,c29B0,c29L1,c29S6,c29S7]
  have s10:=s9.perm (L':=.blk bx #[.map (some kb)] 56::.obj kb (mapG Cut.intK Cut.idK kd kcl)::.blk kc #[.map (some kb)] 56::.blk bw #[.slice a l.length c] 22::.blk x #[.slice pa (progsW accP).length pc,.map (some pl),.slice none 0 0,.map (some m),.int .i64 most] 60::.obj m (mapG strE natK [] 0)::[.obj pl (mapG Cut.intK natK [] 0),.obj D (.deferred (some []))]) (by
   refine List.Perm.cons _ ?_
   exact (List.Perm.swap _ _ _).trans (((List.Perm.swap _ _ _).cons _).trans (List.Perm.swap _ _ _)))
  refine Ret.mono (Cut.sortedKJ_ok s10 k1.nd k1.bn k1.lt (by omega)) ?_
  rintro u w11 ⟨ks,hp,hord,s11⟩
  obtain ⟨au,cu,rfl,_⟩:=own_slice (s11.row 0 rfl)
  have hup:ks.Pairwise (· < ·):=by
   have:=hord.and (hp.nodup_iff.2 k1.nd)
   exact this.imp fun h=>by have:=h.1; have:=h.2; omega
  have hks:ks=objsW accO:=objs_eq hO hup fun q=>by
   rw [hp.mem_iff]
   constructor
   ·intro h
    cases e:getM q kd with
    | none=>exact absurd h (getM_no.1 e)
    | some v =>
     obtain ⟨x,hx,e1,_⟩:=k4 q v e
     exact ⟨x.2,(hmem _).1 ⟨x,hx,rfl⟩,e1⟩
   ·rintro ⟨o,ho,rfl⟩
    obtain ⟨x,hx,e⟩:=(hmem o).2 ho
    cases e2:getM o.Object kd with
    | none=>exact absurd (by rw [e]) ((k3 _).1 e2 x hx)
    | some v=>exact Classical.byContradiction fun h=>by rw [getM_no.2 h] at e2; cases e2
  simp (disch:=first|omega|exact zF rfl|exact zG rfl|exact fun h=>h|(simp only[zA,zB,zC,zD,bytesW];omega)) only[go_sem,c29A0,c29B0,c29S3,c29S6,c29S7]
  have hal:accO.length=ks.length:=by rw [hks]; simp [objsW]
  have hkl:ks.length≤64:=by
   have:=byObj_len hO
   omega
  have s12:=St.keepU (s11.nilRow 25 1) (Inv.vs ([]:List VS)) (fun p hp=>by cases hp) (fun k hk=>by obtain ⟨p,hp,_⟩:=hk; cases hp)
  clear s11 s10 s9 s8
  refine W_loopU (fun z:Nat × Value × List VS=>[(9,z.2.1),(33,.int .i64 z.1)]) (fun z w'=>St w w' (fun _=>False) (.row z.2.1 25 1 z.2.2.length (z.2.2.map Prod.fst)::.row (.slice au ks.length cu) 3 1 ks.length (ks.flatMap intE)::.blk bx #[.map (some kb)] 56::.obj kb (mapG Cut.intK Cut.idK kd kcl)::.blk kc #[.map (some kb)] 56::.blk bw #[.slice a l.length c] 22::.blk x #[.slice pa (progsW accP).length pc,.map (some pl),.slice none 0 0,.map (some m),.int .i64 most] 60::.obj m (mapG strE natK [] 0)::[.obj pl (mapG Cut.intK natK (plM (ks.take z.1) 0) z.1),.obj D (.deferred (some []))]) [Inv.vs z.2.2,Inv.pg (.slice pa (progsW accP).length pc) (progsW accP) vs]∧z.1≤ks.length∧z.2.2.map Prod.snd=(accO.take z.1).map fun s=>firstP s.kind) (fun z=>ks.length - z.1) (0,.slice none 0 0,[]) rfl ⟨s12,Nat.zero_le _,rfl⟩ ?_
  rintro ⟨i,sv,U⟩ w13 ⟨s13,hi,hU⟩
  simp only at s13 hi hU
  have hUl:U.length=i:=by
   have:=congrArg List.length hU
   simp only [List.length_map,List.length_take] at this
   omega
  by_cases hlt:i<ks.length
  ·have hlt':(i:Int)<ks.length:=by omega
   have hR:RdS w13 1 intE (.slice au ks.length cu) ks:=RdS.of_own (s13.row 1 rfl)
   obtain ⟨q,rfl⟩:=hR.ptr (by omega)
   have ek:=hR.at1 (e1:=fun n=>.int .i64 n) hlt
   have r6:=s13.rules 6 rfl
   have hiA:i<accO.length:=by omega
   have hobj:ks[i]=accO[i].obj:=by simp only [hks,objsW,List.getElem_map]
   have hkv:getM ks[i] kd=some (.int .i64 accO[i].kind):=by
    obtain ⟨o,r,e1,e2⟩:=hO.kind _ (List.getElem_mem hiA)
    have ho:o∈l∧o.Object=accO[i].obj:=(byObj_mem hO (List.getElem_mem hiA) o).1 (by rw [e1]; exact List.mem_cons_self)
    obtain ⟨x,hx,e3⟩:=(hmem o).2 ho.1
    cases e4:getM ks[i] kd with
    | none=>exact absurd (by rw [e3,ho.2,hobj]) ((k3 _).1 e4 x hx)
    | some v =>
     obtain ⟨y,hy,e5,rfl⟩:=k4 _ v e4
     have:=hk y.2 ((hmem _).1 ⟨y,hy,rfl⟩) o ho.1 (by rw [e5,ho.2,hobj])
     rw [this,e2]
   have hpn:getM ks[i] (plM (ks.take i) 0)=none:=by
    rw [plM_get,if_neg]
    intro hm
    obtain ⟨j,hj,e⟩:=List.mem_iff_getElem.1 hm
    rw [List.length_take] at hj
    rw [List.getElem_take] at e
    have:=List.pairwise_iff_getElem.1 hup j i (by omega) hlt (by omega)
    omega
   have hps:plM (ks.take (i+1)) 0=plM (ks.take i) 0++[(ks[i],i,i)]:=by
    rw [List.take_succ_eq_append_getElem hlt,plM_snoc,List.length_take,Nat.zero_add,Nat.min_eq_left hi]
   have hts:(accO.take (i+1)).map (fun s=>firstP s.kind)=(accO.take i).map (fun s=>firstP s.kind)++[firstP accO[i].kind]:=by
    rw [List.take_succ_eq_append_getElem hiA,List.map_append]; rfl
   generalize accO[i].kind=kdv at hkv hts
   generalize ks[i]=ob at ek hkv hpn hps
   simp (disch:=first|omega|exact zF rfl|exact zG rfl|exact fun h=>h|(simp only[zA,zB,zC,zD,bytesW];omega)) only[go_sem,c29A0,c29B0,c29L1,c29S3,c29S6,c29S7,c29L1,hlt',ek,r6,e9,e33]
   refine ⟨by omega,?_⟩
   refine muG_map (ek:=Cut.intK) (ev:=natK) Cut.keyT_i Tryz.underlying56 (fun a=>by simp [Instr.sameBits,Cut.intK]) (s13.obj 8 rfl) ob i ?_
   rw [hpn,setM_snoc hpn,← hps]
   have s14:=s13.putObj 8 rfl (mapG Cut.intK natK (plM (ks.take (i+1)) 0) (i+1))
   simp only [List.set_cons_succ,List.set_cons_zero,Option.isSome_none,Bool.false_eq_true,if_false] at s14 ⊢
   generalize w13.putObj pl (mapG Cut.intK natK (plM (ks.take (i+1)) 0) (i+1))=w14 at s14 ⊢
   have r4:=s14.rules 4 rfl
   obtain ⟨sa,sc,rfl,_⟩:=own_slice (s14.row 0 rfl)
   simp (disch:=first|omega|exact zF rfl|exact zG rfl|exact fun h=>h|(simp only[zA,zB,zC,zD,bytesW];omega)) only[go_sem,c29A0,c29B0,c29L1,c29S3,c29S6,c29S7,r4,e9,e33]
   refine luG_map (ek:=Cut.intK) (ev:=Cut.idK) Cut.keyT_i Tryz.underlying56 (s14.obj 3 rfl) ob (by rfl) ?_
   rw [hkv]
   simp (disch:=first|omega|exact zF rfl|exact zG rfl|exact fun h=>h|(simp only[zA,zB,zC,zD,bytesW];omega)) only[go_sem,c29A0,c29B0,c29L1,c29S3,c29S6,c29S7,luG,Cut.idK,e9,e33]
   refine Ret.mono (mfirst_ok kdv w14) ?_
   rintro t w15 ⟨⟨ht,hf⟩,b15⟩
   obtain ⟨ta,tc,rfl,_⟩:=ht.form
   have s15:=(s14.made b15 (Inv.rd 1 intE _ (firstP kdv)) ht fun k hk=>⟨hf k hk,ht.footLt (by decide) hk⟩)
   have s16:=(St.keepU s15 (Inv.vs (U++[(.slice ta (firstP kdv).length tc,firstP kdv)])) (fun p hp=>by
    rcases List.mem_append.1 hp with hp | hp
    ·exact (s15.get 1 rfl) p hp
    ·rw [List.mem_singleton] at hp; subst hp; exact ht) (fun k hk=>by
    obtain ⟨p,hp,hk⟩:=hk
    rcases List.mem_append.1 hp with hp | hp
    ·exact ⟨Inv.vs U,by simp,p,hp,hk⟩
    ·rw [List.mem_singleton] at hp; subst hp; exact ⟨Inv.rd 1 intE _ (firstP kdv),by simp,hk⟩)).inv_sub (I':=[Inv.vs (U++[(.slice ta (firstP kdv).length tc,firstP kdv)]),Inv.pg (.slice pa (progsW accP).length pc) (progsW accP) vs]) (fun a ha=>by
    rcases List.mem_cons.1 ha with rfl | ha
    ·exact List.mem_cons_self
    ·simp only [List.mem_singleton] at ha; subst ha; simp)
   clear s15 s14 s13
   simp (disch:=first|omega|exact zF rfl|exact zG rfl|exact fun h=>h|(simp only[zA,zB,zC,zD,bytesW];omega)) only[go_sem,c29A0,c29B0,c29L1,c29S3,c29S6,c29S7,e9,e33]
   refine bsW_ones ty61mkI rfl rfl (by decide) (by decide) (by intro u hu; rw [List.mem_singleton] at hu; subst hu; rfl) ?_
   simp (disch:=first|omega|exact zF rfl|exact zG rfl|exact fun h=>h|(simp only[zA,zB,zC,zD,bytesW];omega)) only[go_sem,c29A0,c29B0,c29L1,c29S3,c29S6,c29S7,e9,e33]
   have hx1:Rd (w15.alloc (.cells #[.slice ta (firstP kdv).length tc] 25)) 1 (.slice (some ⟨w15.heap.size,0,none⟩) 1 1) 1 [.slice ta (firstP kdv).length tc]:=rd_new (n:=1) (cs:=#[.slice ta (firstP kdv).length tc]) rfl
   refine (s16.alloc' (.cells #[.slice ta (firstP kdv).length tc] 25)).append 0 rfl ty61mkI rfl (by decide) hx1 (by intro u hu; rw [List.mem_singleton] at hu; subst hu; rfl) (by omega) (by omega) ?_
   intro v17 w17 s17 _
   simp only [List.set_cons_zero] at s17
   simp (disch:=first|omega|exact zF rfl|exact zG rfl|exact fun h=>h|(simp only[zA,zB,zC,zD,bytesW];omega)) only[go_sem,c29A0,c29B0,c29L1,c29S3,c29S6,c29S7,e9,e33]
   refine ⟨⟨by omega,by omega⟩,(i+1,v17,U++[(.slice ta (firstP kdv).length tc,firstP kdv)]),rfl,⟨?_,by simp only; omega,?_⟩,by simp only; omega⟩
   ·simp only [List.length_append,List.length_singleton,List.map_append,List.map_cons,List.map_nil]
    exact s17
   ·simp only [List.map_append,List.map_cons,List.map_nil]
    rw [hts,hU]
  ·have hlt':¬ (i:Int)<ks.length:=by omega
   obtain rfl:i=ks.length:=by omega
   simp (disch:=first|omega|exact zF rfl|exact zG rfl|exact fun h=>h|(simp only[zA,zB,zC,zD,bytesW];omega)) only[go_sem,c29A0,c29B0,c29L1,c29S3,c29S6,c29S7,c29L1,hlt',e9,e33]
   rw [List.take_length] at s13
   rw [List.take_of_length_le (by omega)] at hU
   have s14:=s13.sub (L':=.row sv 25 1 U.length (U.map Prod.fst)::.blk x #[.slice pa (progsW accP).length pc,.map (some pl),.slice none 0 0,.map (some m),.int .i64 most] 60::.obj m (mapG strE natK [] 0)::.obj pl (mapG Cut.intK natK (plM ks 0) ks.length)::[.obj D (.deferred (some []))]) ((((((List.Sublist.refl _).cons _).cons _).cons _).cons _).cons _ |>.cons_cons _)
   generalize ks.length=c0 at s14 ⊢
   rw [hks] at s14
   exact begin_end hP hO cx hn hl s14 hU
open Go Go.Ann Go.RowKit
theorem path_len{P:List (List OpT)}{obs:List Int}{s:Sp}{y:List Int}(h:PathR P obs s y):y.length≤remP P s.done:=by
 induction h with
 | nil=>exact Nat.zero_le _
 | cons hm _ ih =>
  have:=mvs_rem hm
  rw [List.length_cons]
  omega
def firstChk:List OpT→Int
 | []=>0
 | o::l=>if chkP o=0 then firstChk l else chkP o
theorem firstChk_take:∀ {l:List OpT} {k:Nat} (hk:k<l.length),(∀ o∈l.take k,chkP o=0)→chkP l[k]≠0→firstChk l=chkP l[k]
 | a::l,0,hk,_,h=>by
  have h:chkP a≠0:=h
  rw [firstChk,if_neg h]; rfl
 | a::l,k+1,hk,h0,h=>by
  rw [firstChk,if_pos (h0 a (by simp))]
  exact firstChk_take (by simpa using hk) (fun o ho=>h0 o (by simp [ho])) (by simpa using h)
theorem firstChk_all:∀ {l:List OpT},(∀ o∈l,chkP o=0)→firstChk l=0
 | [],_=>rfl
 | a::l,h=>by rw [firstChk,if_pos (h a List.mem_cons_self),firstChk_all fun o ho=>h o (List.mem_cons_of_mem _ ho)]
structure SeqV(l:List OpT)(budget:Int)(accO:List Seg)(w':World)(iv:Value)(ok:Bool)(n e:Int):Prop where
 many:64<l.length→iv=.slice none 0 0∧ok=false∧n=0∧e=34
 bad:l.length≤64→firstChk l≠0→iv=.slice none 0 0∧ok=false∧n=0∧e=firstChk l
 good:l.length≤64→firstChk l=0→∃ x accP,Cut.ByProc l accP∧SeqR (progsW accP) (objsW accO) (startW accP accO) (min budget 32768) e n x∧ok=x.isSome∧RdS w' 1 intE iv (x.getD [])
theorem seq_ok(v:Value)(l:List OpT)(budget:Int)(w:World)(h:RdS w 11 OpT.enc v l)(hw:∀ o∈l,o.wf)(hn:(l.map OpT.ID).Nodup)(hk:∀ a∈l,∀ b∈l,a.Object=b.Object→a.Kind=b.Kind){accO:List Seg}(hO:Cut.ByObj l accO) :
  Ret Tryz.prog 11 [v,.int .i64 budget] w fun u w'=>∃ iv ok n e,u=.tuple #[iv,.bool ok,.int .i64 n,.int .i64 e]∧Below w.heap.size w w'∧SeqV l budget accO w' iv ok n e:=by
 obtain ⟨a,c,rfl,_⟩:=h.form
 refine ent11 _ _ _ _ ?_
 by_cases hl:l.length≤64
 ·have hl':¬ (l.length:Int) > 64:=by omega
  simp (disch:=first|omega|exact zF rfl|exact zG rfl|exact fun h=>h|(simp only[zA,zB,zC,zD,bytesW];omega)) only[go_sem,c11S0,c11S3,c11S4,c11S6,c11S7,c11S8,hl']
  have nilS:∀ w',RdS w' 1 intE (.slice none 0 0) ([]:List Int):=fun w'=>RdS.nil
  refine W_loopU (fun k:Nat=>[(18,.int .i64 k)]) (fun k w'=>Below w.heap.size w w'∧k≤l.length∧∀ o∈l.take k,chkP o=0) (fun k=>l.length - k) 0 rfl ⟨Below.refl _ _,Nat.zero_le _,fun o ho=>by simp at ho⟩ ?_
  rintro k w1 ⟨b1,hkl,hc⟩
  by_cases hlt:k<l.length
  ·have hlt':(k:Int)<l.length:=by omega
   obtain ⟨q,rfl⟩:=h.ptr (by omega)
   have ek:=h.eltB b1 OpT.len (by decide) hlt
   have ck:=cellsO_below b1 (h.at OpT.len hlt)
   simp (disch:=first|omega|exact zF rfl|exact zG rfl|exact fun h=>h|(simp only[zA,zB,zC,zD,bytesW];omega)) only[go_sem,c11L0,c11S3,c11S4,c11S6,c11S7,c11S8,c11L0,hlt',ek,ck]
   have hok:=hw _ (List.getElem_mem hlt)
   refine ⟨by omega,by simp [OpT.len],Ret.mono (opCheck_ok l[k] hok _) ?_⟩
   rintro _ w2 ⟨rfl,b2⟩
   have b3:Below w.heap.size w w2:=by
    refine Below.trans ?_ (b2.mono (?_:w.heap.size≤_))
    ·exact b1.alloc b1.size _
    ·rw [World.size_alloc]; have:=b1.size; omega
   by_cases hz:chkP l[k]=0
   ·simp (disch:=first|omega|exact zF rfl|exact zG rfl|exact fun h=>h|(simp only[zA,zB,zC,zD,bytesW];omega)) only[go_sem,c11S0,c11L0,c11S3,c11S4,c11S6,c11S7,c11S8,hz]
    refine ⟨⟨by omega,by omega⟩,k+1,rfl,⟨b3,by omega,fun o ho=>?_⟩,by omega⟩
    rw [List.take_succ_eq_append_getElem hlt,List.mem_append,List.mem_singleton] at ho
    rcases ho with ho | rfl
    ·exact hc o ho
    ·exact hz
   ·simp (disch:=first|omega|exact zF rfl|exact zG rfl|exact fun h=>h|(simp only[zA,zB,zC,zD,bytesW];omega)) only[go_sem,c11S0,c11L0,c11S3,c11S4,c11S6,c11S7,c11S8,c11S9,hz]
    have e:=firstChk_take hlt hc hz
    exact ⟨_,false,0,_,rfl,b3,fun h=>by omega,fun _ _=>⟨rfl,rfl,rfl,e.symm⟩,fun _ h=>absurd (e.symm.trans h) hz⟩
  ·have hlt':¬ (k:Int)<l.length:=by omega
   obtain rfl:k=l.length:=by omega
   rw [List.take_length] at hc
   have hfc:=firstChk_all hc
   simp (disch:=first|omega|exact zF rfl|exact zG rfl|exact fun h=>h|(simp only[zA,zB,zC,zD,bytesW];omega)) only[go_sem,c11S0,c11L0,c11S3,c11S4,c11S6,c11S7,c11S9,c11L0,hlt']
   refine Ret.mono (begin_ok _ l (min budget 32768) w1 (h.below b1 (by decide)) hl hn hk hw hO) ?_
   rintro _ w2 ⟨x,pl,m,c0,accP,vs,pv,tv,N,C,rfl,hP,cx,s2,g2,e2⟩
   have done:∀ {w':World} {iv:Value} {n e:Int} {y:Option (List Int)},Below w1.heap.size w1 w'→SeqR (progsW accP) (objsW accO) (startW accP accO) (min budget 32768) e n y→RdS w' 1 intE iv (y.getD [])→∀ ok,ok=y.isSome→∃ iv' ok' n' e',Value.tuple #[iv,.bool ok,.int .i64 n,.int .i64 e]=.tuple #[iv',.bool ok',.int .i64 n',.int .i64 e']∧Below w.heap.size w w'∧SeqV l budget accO w' iv' ok' n' e':=fun hb hs hr ok hk=>⟨_,_,_,_,rfl,Below.next b1 hb,fun h=>by omega,fun _ h=>absurd hfc h,fun _ _=>⟨_,accP,hP,hs,hk,hr⟩⟩
   simp (disch:=first|omega|exact zF rfl|exact zG rfl|exact fun h=>h|(simp only[zA,zB,zC,zD,bytesW];omega)) only[go_sem,c11S0,c11L0,c11S4,c11S6,c11S8,c11S9]
   refine Ret.mono (all_ok cx s2 g2 e2 (by omega)) ?_
   rintro _ w3 ⟨tv3,N3,C3,r,s3,hr,e3,hrl,rfl,hall⟩
   by_cases hov:(r.length:Int)≤min budget 32768
   ·have hall:=hall hov
    have hN3:N3.length=r.length:=by rw [← e3,List.length_map]
    obtain ⟨t,ht⟩:=hr.pre
    have hpos:0<N3.length:=by rw [hN3,← ht]; simp
    simp (disch:=first|omega|exact zF rfl|exact zG rfl|exact fun h=>h|(simp only[zA,zB,zC,zD,bytesW];omega)) only[go_sem,c11S0,c11L0,c11S3,c11S4,c11S7,c11S8,c11S9,hov]
    refine Ret.mono (mark_ok cx s3 hall hpos (by omega)) ?_
    intro _ w4 s4
    have hgN:∀ n∈markN (progsW accP) (objsW accO) (N3.map Nd.b) N3,n.gd=(bestS (progsW accP) (objsW accO) n.sp).isSome∧NxR ((markN (progsW accP) (objsW accO) (N3.map Nd.b) N3).map Nd.sp) n.nx (mvsP (progsW accP) (objsW accO) n.sp):=fun n hn=>by
     obtain ⟨j,hj,rfl⟩:=List.mem_iff_getElem.1 hn
     have hj2:j<N3.length:=by rw [markN_len] at hj; exact hj
     rw [markN_at,if_pos (List.mem_map_of_mem (List.getElem_mem hj2)),markN_sp]
     exact ⟨rfl,(hall _ (List.getElem_mem hj2)).2⟩
    have hN4:(markN (progsW accP) (objsW accO) (N3.map Nd.b) N3).length=r.length:=by rw [markN_len,hN3]
    have hsp4:(markN (progsW accP) (objsW accO) (N3.map Nd.b) N3).map Nd.sp=r:=by rw [markN_sp,e3]
    generalize markN (progsW accP) (objsW accO) (N3.map Nd.b) N3=N4 at s4 hgN hN4 hsp4
    obtain ⟨n0,h0,hs0⟩:∃ n0,N4[0]?=some n0∧n0.sp=startW accP accO:=by
     have hl4:0<N4.length:=by omega
     refine ⟨N4[0],List.getElem?_eq_getElem hl4,?_⟩
     have:r[0]?=some (startW accP accO):=by rw [← ht]; rfl
     rw [← hsp4,List.getElem?_map,List.getElem?_eq_getElem hl4] at this
     exact Option.some.inj this
    obtain ⟨h04,e04⟩:=List.getElem?_eq_some_iff.1 h0
    obtain ⟨ta,tc,rfl,_⟩:=own_slice (s4.st.row 1 rfl)
    obtain ⟨tg,rfl⟩:=own_ptr (s4.st.row 1 rfl) (by omega)
    have r4:=s4.st.rules 0 rfl
    have c4:=(own_cell (s4.st.row 1 rfl)).1 0 (ptV n0.b) (by rw [List.getElem?_map,h0]; rfl)
    have q4:=(sx_blk s4.st h04).rules
    rw [e04] at q4
    unfold ptV at c4
    have hg0:=(hgN n0 (List.mem_of_getElem? h0)).1
    rw [hs0] at hg0
    have hpos4:(0:Int)<N4.length:=by omega
    cases hb:bestS (progsW accP) (objsW accO) (startW accP accO) with
    | none =>
     rw [hb] at hg0
     have hg0:n0.gd=false:=hg0
     rw [hg0] at q4
     simp (disch:=first|omega|exact zF rfl|exact zG rfl|exact fun h=>h|(simp only[zA,zB,zC,zD,bytesW];omega)) only[go_sem,c11S0,c11L0,c11S3,c11S4,c11S6,c11S7,c11S8,c11S9,r4,c4,q4,hpos4]
     rw [hN4]
     have:=SeqR.all hr hov
     rw [hb] at this
     exact done s4.st.bel this RdS.nil _ rfl
    | some ids =>
     rw [hb] at hg0
     have hg0:n0.gd=true:=hg0
     rw [hg0] at q4
     have hpl:ids.length≤1000:=by
      have h1:=((best_path (obs:=objsW accO) (Nat.le_refl _)).1 ids hb).1
      have h2:=path_len h1
      have h3:=rem_start (accO:=accO) hP hn
      omega
     simp (disch:=first|omega|exact zF rfl|exact zG rfl|exact fun h=>h|(simp only[zA,zB,zC,zD,bytesW];omega)) only[go_sem,c11S0,c11L0,c11S3,c11S6,c11S7,c11S8,c11S9,r4,c4,q4,hpos4]
     refine Ret.mono (least_ok (n0:=n0) (ids:=ids) s4.st (fun n hn=>(hgN n hn).1) (fun n hn=>(hgN n hn).2) (fun k o ho=>?_) (progs_one hP (pure_nodup hn)) h0 (by rw [hs0]; exact hb) (by omega) hpl (fun n hn=>?_)) ?_
     ·have:=hc o ?_
      ·unfold chkP at this
       split at this
       ·cases this
       ·omega
      ·rcases Nat.lt_or_ge k accP.length with hkP | hkP
       ·rw [progs_getD hkP] at ho
        exact ((byProc_mem hP (List.getElem_mem hkP) o).1 ho).1
       ·rw [List.getD_eq_getElem?_getD,List.getElem?_eq_none (by simpa [progsW] using hkP)] at ho
        cases ho
     ·rw [(hgN n hn).2.len]
      have:=mvs_one (P:=progsW accP) (obs:=objsW accO) (s:=n.sp) (progsW accP).length
      have e:mvsP (progsW accP) (objsW accO) n.sp=(List.range (progsW accP).length).filterMap (mvP (progsW accP) (objsW accO) n.sp):=rfl
      have:=cx.pl
      rw [e]
      omega
     intro iv w5 s5
     simp (disch:=first|omega|exact zF rfl|exact zG rfl|exact fun h=>h|(simp only[zA,zB,zC,zD,bytesW];omega)) only[go_sem,c11S0,c11L0,c11S3,c11S4,c11S6,c11S7,c11S8,c11S9]
     rw [hN4]
     have:=SeqR.all hr hov
     rw [hb] at this
     exact done s5.bel this (RdS.of_own' (s5.row 0 rfl) ids rfl rfl) _ rfl
   ·simp (disch:=first|omega|exact zF rfl|exact zG rfl|exact fun h=>h|(simp only[zA,zB,zC,zD,bytesW];omega)) only[go_sem,c11S0,c11L0,c11S3,c11S4,c11S6,c11S7,c11S8,c11S9,hov]
    exact done s3.st.bel (.over hr (by omega)) RdS.nil _ rfl
 ·have hl':(l.length:Int) > 64:=by omega
  simp (disch:=first|omega|exact zF rfl|exact zG rfl|exact fun h=>h|(simp only[zA,zB,zC,zD,bytesW];omega)) only[go_sem,c11S0,c11L0,c11S3,c11S4,c11S6,c11S7,c11S8,c11S9,hl']
  exact ⟨_,_,_,_,rfl,Below.refl _ _,fun _=>⟨rfl,rfl,rfl,rfl⟩,fun h=>absurd h hl,fun h=>absurd h hl⟩
open Go Go.Ann Go.RowKit
theorem opAt_eq{accP:List Seg}{d:List Nat}{k:Nat}(hd:d.length=accP.length)(hk:k<accP.length):opAt (progsW accP) d k=accP[k].ops[d.getD k 0]?:=by
 unfold opAt progsW
 rw [List.getElem?_map,List.getElem?_eq_getElem hk,List.getElem?_eq_getElem (by omega)]
 simp [List.getD_eq_getElem?_getD,List.getElem?_eq_getElem (show k<d.length by omega)]
theorem seg_same{acc:List Seg}(hu:acc.Pairwise fun a b=>a.obj<b.obj){i j:Nat}(hi:i<acc.length)(hj:j<acc.length)(h:acc[i].obj=acc[j].obj):i=j:=by
 rcases Nat.lt_trichotomy i j with h1 | h1 | h1
 ·have:=List.pairwise_iff_getElem.1 hu i j hi hj h1; omega
 ·exact h1
 ·have:=List.pairwise_iff_getElem.1 hu j i hj hi h1; omega
theorem kOf_none{P:List (List OpT)}{d:List Nat}{id:Int}(h:∀ k o,opAt P d k=some o→o.ID≠id):kOf P d id=none:=by
 unfold kOf
 refine List.find?_eq_none.2 fun k _=>?_
 unfold isOp
 cases e:opAt P d k with
 | none=>simp
 | some o=>simpa using h k o e
theorem kOf_l{l:List OpT}{accP:List Seg}(hP:Cut.ByProc l accP){d:List Nat}{id:Int}(h:∀ o∈l,o.ID≠id):kOf (progsW accP) d id=none :=
 kOf_none fun k o ho=>by
  obtain ⟨hk,hm⟩:=mem_opAt ho
  have hk2:k<accP.length:=by simpa [progsW] using hk
  rw [progs_getD hk2] at hm
  exact h o ((byProc_mem hP (List.getElem_mem hk2) o).1 hm).1
theorem kOf_not{l:List OpT}{accP:List Seg}(hP:Cut.ByProc l accP)(hl:Cut.Pure l){d:List Nat}(hd:d.length=accP.length){o:OpT}(ho:o∈l){i:Nat}(hi:i<accP.length)(hio:accP[i].obj=o.Proc)(h:accP[i].ops[d.getD i 0]?≠some o):kOf (progsW accP) d o.ID=none :=
 kOf_none fun k o' ho' e=>by
  obtain ⟨hk,hm⟩:=mem_opAt ho'
  have hk2:k<accP.length:=by simpa [progsW] using hk
  rw [progs_getD hk2] at hm
  obtain ⟨m1,m2⟩:=(byProc_mem hP (List.getElem_mem hk2) o').1 hm
  have:o'=o:=hl o' m1 o ho e
  subst this
  have:k=i:=seg_same hP.up hk2 hi (by rw [hio,m2])
  subst this
  rw [opAt_eq hd hi] at ho'
  exact h ho'
theorem kOf_yes{l:List OpT}{accP:List Seg}(hP:Cut.ByProc l accP)(hl:Cut.Pure l){d:List Nat}(hd:d.length=accP.length){o:OpT}{i:Nat}(hi:i<accP.length)(h:accP[i].ops[d.getD i 0]?=some o):kOf (progsW accP) d o.ID=some i :=
 kOf_of (fun k k' o o' h1 h2 e=>progs_one hP hl d k k' o o' h1 h2 e) (by rw [opAt_eq hd hi]; exact h)
structure VaS(accP accO:List Seg)(s:Sp)(SL:List (Int × VS × Nat))(dm:List (Int × Nat × Nat)):Prop where
 st:∀ x,(h:x<accO.length)→s.st.getD x []=match getM accO[x].obj SL with | some p=>p.2 | none=>firstP accO[x].kind
 dn:∀ k,(h:k<accP.length)→s.done.getD k 0=(getM accP[k].obj dm).getD 0
theorem VaS.start{accP accO:List Seg}:VaS accP accO (startW accP accO) [] []:=by
 refine ⟨fun x h=>?_,fun k h=>?_⟩
 ·unfold startW
  simp only [getM]
  rw [List.getD_eq_getElem?_getD,List.getElem?_map,List.getElem?_eq_getElem h]
  rfl
 ·unfold startW
  simp only [getM]
  rw [List.getD_eq_getElem?_getD,List.getElem?_replicate]
  split <;> rfl
theorem VaS.move{accP accO:List Seg}{s:Sp}{SL:List (Int × VS × Nat)}{dm:List (Int × Nat × Nat)}(h:VaS accP accO s SL dm)(huP:accP.Pairwise fun a b=>a.obj<b.obj)(huO:accO.Pairwise fun a b=>a.obj<b.obj)(hdl:s.done.length=accP.length)(hsl:s.st.length=accO.length){i x:Nat}(hi:i<accP.length)(hx:x<accO.length)(p:VS)(c c':Nat) :
  VaS accP accO ⟨s.done.set i (s.done.getD i 0+1),s.st.set x p.2⟩ (setM accO[x].obj p c SL) (setM accP[i].obj (s.done.getD i 0+1) c' dm):=by
 refine ⟨fun y hy=>?_,fun k hk=>?_⟩
 ·simp only
  rw [getM_set]
  by_cases e:x=y
  ·subst e
   rw [if_pos rfl,getD_set_eq (by omega)]
  ·rw [if_neg fun h=>e (seg_same huO hx hy h.symm),getD_set_ne e]
   exact h.st y hy
 ·simp only
  rw [getM_set]
  by_cases e:i=k
  ·subst e
   rw [if_pos rfl,getD_set_eq (by omega)]
   rfl
  ·rw [if_neg fun h=>e (seg_same huP hi hk h.symm),getD_set_ne e]
   exact h.dn k hk
theorem setM_mem{κ ν:Type}[DecidableEq κ]{p:κ}{v:ν}{c:Nat}:∀ {d:List (κ × ν × Nat)} {x:κ × ν × Nat},x∈setM p v c d→x.2.1=v∨∃ y∈d,y.2.1=x.2.1
 | [],x,h=>by
  have h:x∈[(p,v,c)]:=h
  rw [List.mem_singleton] at h
  exact .inl (by rw [h])
 | y::d,x,h=>by
  by_cases e:p=y.1
  ·rw [show setM p v c (y::d)=(y.1,v,y.2.2)::d from if_pos e] at h
   rcases List.mem_cons.1 h with rfl | h
   ·exact .inl rfl
   ·exact .inr ⟨x,List.mem_cons_of_mem _ h,rfl⟩
  ·rw [show setM p v c (y::d)=y::setM p v c d from if_neg e] at h
   rcases List.mem_cons.1 h with rfl | h
   ·exact .inr ⟨x,List.mem_cons_self,rfl⟩
   ·rcases setM_mem h with h | ⟨z,hz,e⟩
    ·exact .inl h
    ·exact .inr ⟨z,List.mem_cons_of_mem _ hz,e⟩
theorem getM_in{κ ν:Type}[DecidableEq κ]{p:κ}{v:ν}:∀ {d:List (κ × ν × Nat)},getM p d=some v→v∈d.map fun x=>x.2.1
 | [],h=>by cases h
 | y::d,h=>by
  rw [getM] at h
  by_cases e:p=y.1
  ·rw [if_pos e] at h
   cases h
   exact List.mem_cons_self
  ·rw [if_neg e] at h
   exact List.mem_cons_of_mem _ (getM_in h)
theorem vs_set{W0 w:World}{F:Nat→Prop}{L:List Res}{I:List Inv}{SL:List (Int × VS × Nat)}{ob:Int}{p:VS}{c:Nat}(h:St W0 w F L (Inv.rd 1 intE p.1 p.2::Inv.vs (SL.map fun x=>x.2.1)::I)):St W0 w F L (Inv.vs ((setM ob p c SL).map fun x=>x.2.1)::I):=by
 have h1:=h.get 0 rfl
 have h2:=h.get 1 rfl
 have hm:∀ q∈(setM ob p c SL).map (fun x=>x.2.1),q=p∨q∈SL.map fun x=>x.2.1:=fun q hq=>by
  obtain ⟨x,hx,rfl⟩:=List.mem_map.1 hq
  rcases setM_mem hx with h | ⟨y,hy,e⟩
  ·exact .inl h
  ·exact .inr (by rw [← e]; exact List.mem_map_of_mem hy)
 refine (St.keepU h (Inv.vs ((setM ob p c SL).map fun x=>x.2.1)) (fun q hq=>?_) fun k hk=>?_).inv_sub fun a ha=>?_
 ·rcases hm q hq with rfl | hq
  ·exact h1
  ·exact h2 q hq
 ·obtain ⟨q,hq,hk⟩:=hk
  rcases hm q hq with rfl | hq
  ·exact ⟨_,List.mem_cons_self,hk⟩
  ·exact ⟨_,List.mem_cons_of_mem _ List.mem_cons_self,q,hq,hk⟩
 ·rcases List.mem_cons.1 ha with rfl | ha
  ·exact List.mem_cons_self
  ·simp [ha]
open Go Go.Ann Go.RowKit
theorem valid1_ok(o:OpT)(b:Nat)(id:Int)(w:World)(h:Blk w b #[.int .i64 id] 3) :
  Ret Tryz.prog 39 [.agg o.enc.toArray,.pointer (some ⟨b,0,none⟩)] w fun u w'=>u=.bool (decide (o.ID=id))∧Below w.heap.size w w':=by
 refine ent39 _ _ _ _ ?_
 have r:=(h.alloc (.cells o.enc.toArray 52)).rules
 have ao:=o.at
 have lb:=h.lt
 simp (disch:=first|omega|exact zF rfl|exact zG rfl|exact fun h=>h|(simp only[zA,zB,zC,zD,bytesW];omega)) only[go_sem,r,ao]
 (repeat' (first | with_reducible exact Below.refl _ _ | with_reducible assumption | (with_reducible refine Below.drew ?_) | (with_reducible refine Below.alloc ?_ ?_ _) | (with_reducible refine Below.setCell ?_ ?_ _) | (with_reducible refine Below.fill ?_ ?_) | (with_reducible refine Below.via (by assumption) ?_ ?_) | omega | (simp only [World.size_alloc,World.size_drew,World.size_setCell,size_fill,bytesW]; omega)))
theorem valid2_ok(o:OpT)(w:World):Ret Tryz.prog 43 [.agg o.enc.toArray] w fun u w'=>u=.bool o.Done∧Below w.heap.size w w':=by
 refine ent43 _ _ _ ?_
 have ao:=o.at
 simp (disch:=first|omega|exact zF rfl|exact zG rfl|exact fun h=>h|(simp only[zA,zB,zC,zD,bytesW];omega)) only[go_sem,ao]
 (repeat' (first | with_reducible exact Below.refl _ _ | with_reducible assumption | (with_reducible refine Below.drew ?_) | (with_reducible refine Below.alloc ?_ ?_ _) | (with_reducible refine Below.setCell ?_ ?_ _) | (with_reducible refine Below.fill ?_ ?_) | (with_reducible refine Below.via (by assumption) ?_ ?_) | omega | (simp only [World.size_alloc,World.size_drew,World.size_setCell,size_fill,bytesW]; omega)))
abbrev atM(accP:List Seg):List (Int × Nat × Nat):=plM (accP.map Seg.obj) 0
def ValidV(l:List OpT)(accO:List Seg)(ids:List Int)(w:World)(u:Value)(w':World):Prop :=
 ∃ accP,Cut.ByProc l accP∧u=.bool (validP (progsW accP) (objsW accO) (startW accP accO) ids)∧Below w.heap.size w w'
theorem valid_last{w w1:World}{F:Nat→Prop}{L:List Res}{I:List Inv}{accP accO:List Seg}{vs:List Value}{s:Sp}{SL:List (Int × VS × Nat)}{dm:List (Int × Nat × Nat)}{c6 dc pc M:Nat}{pa:Option Addr}{K:Value→World→Prop}
  (hk:∀ q∈accP,∃ o r,q.ops=o::r∧o.Proc=q.obj) (hs:St w w1 F (.obj c6 (mapG Cut.intK natK dm dc)::L) (Inv.pg (.slice pa (progsW accP).length pc) (progsW accP) vs::I)) (hv:VaS accP accO s SL dm) (hok:SpOk (progsW accP) accO M s) (hP:accP.length≤200) (hp:∀ k,((progsW accP).getD k []).length≤200)
  (hK:∀ w',St w w' F (.obj c6 (mapG Cut.intK natK dm dc)::L) (Inv.pg (.slice pa (progsW accP).length pc) (progsW accP) vs::I)→K (.bool (endsP (progsW accP) s.done)) w') :
  W Tryz.prog (c17S14 ()) [(6,.map (some c6)),(7,.slice pa (progsW accP).length pc)] w1 (finQ Tryz.prog [.tmp 4] K):=by
 have hPl:(progsW accP).length=accP.length:=by simp [progsW]
 have hdl:s.done.length=accP.length:=by rw [hok.dl,hPl]
 simp (disch:=first|omega|exact zF rfl|exact zG rfl|exact fun h=>h|(simp only[zA,zB,zC,zD,bytesW];omega)) only[go_sem,c17L0,c17S1,c17S2,c17S3,c17S4,c17S5,c17S7,c17L1,c17S10,c17S14,c17S15,c17S16]
 refine W_loopU (fun k:Nat=>[(111,.int .i64 k)]) (fun k w'=>St w w' F (.obj c6 (mapG Cut.intK natK dm dc)::L) (Inv.pg (.slice pa (progsW accP).length pc) (progsW accP) vs::I)∧k≤accP.length∧∀ j,j<k→endK (progsW accP) s.done j=true) (fun k=>accP.length - k) 0 rfl ⟨hs,Nat.zero_le _,fun j hj=>by omega⟩ ?_
 rintro k w2 ⟨s2,hkl,he⟩
 have hPr:PgR w2 (.slice pa (progsW accP).length pc) (progsW accP) vs:=s2.get 0 rfl
 by_cases hlt:k<accP.length
 ·have hlt':(k:Int)<(progsW accP).length:=by omega
  obtain ⟨pp,rfl⟩:=hPr.ptr (by omega)
  obtain ⟨ra,rc,e1,r1⟩:=hPr.at (k:=k) (by omega)
  have hPk:(progsW accP)[k]'(by omega)=accP[k].ops:=by simp [progsW]
  rw [hPk] at e1 r1
  obtain ⟨o,r,ho,hop⟩:=hk _ (List.getElem_mem hlt)
  have hpos:0<accP[k].ops.length:=by rw [ho]; simp
  obtain ⟨rp,rfl⟩:=r1.ptr hpos
  have e2:=(r1.elt OpT.len (by decide) hpos)
  have e0:accP[k].ops[0]'hpos=o:=by simp [ho]
  rw [e0] at e2
  have ao:=o.at
  have hpos':(0:Int)<accP[k].ops.length:=by omega
  have e3:w2.cell? ⟨rp.block,rp.off+1,none⟩=some (.int .i64 o.Proc):=by
   have:=e2.2 1 (by decide) (by decide)
   rw [ao.2.1] at this
   simpa using this
  simp (disch:=first|omega|exact zF rfl|exact zG rfl|exact fun h=>h|(simp only[zA,zB,zC,zD,bytesW];omega)) only[go_sem,c17L0,c17S1,c17S2,c17S3,c17S4,c17S5,c17S7,c17L1,c17L2,c17S14,c17S15,c17S16,c17L2,hlt',e1,e3,hpos']
  refine ⟨by omega,luG_map (ek:=Cut.intK) (ev:=natK) Cut.keyT_i Tryz.underlying56 (s2.obj 0 rfl) o.Proc (by rfl) ?_⟩
  have hlu:luG natK (.int .i64 0) (getM o.Proc dm) false=.int .i64 (s.done.getD k 0:Nat):=by
   rw [hv.dn k hlt,hop]
   cases getM accP[k].obj dm <;> rfl
  rw [hlu]
  have hle:=hok.le k
  rw [progs_getD hlt] at hle
  have hpk:=hp k
  rw [progs_getD hlt] at hpk
  have e4:=RdS.dropO r1 OpT.len hle
  have hkk:endK (progsW accP) s.done k=!((accP[k].ops.drop (s.done.getD k 0)).any fun o=>o.Done):=by
   unfold endK
   rw [progs_getD hlt,List.not_any_eq_all_not]
  simp (disch:=first|omega|exact zF rfl|exact zG rfl|exact fun h=>h|(simp only[zA,zB,zC,zD,bytesW];omega)) only[go_sem,c17L0,c17S1,c17S2,c17S3,c17S4,c17S5,c17S7,c17L1,c17L2,c17S14,c17S15,c17S16]
  generalize hQ:accP[k].ops.drop (s.done.getD k 0)=Q at e4 hkk
  have hQl:accP[k].ops.length - s.done.getD k 0=Q.length:=by rw [← hQ,List.length_drop]
  refine ⟨⟨by omega,by omega⟩,Ret.mono (Cut.containsFunc_ok _ (fun o=>o.Done) _ Q w2 e4 (fun x w' hb=>callW_go ⟨by kernel_rfl,valid2_ok x w'⟩) (by omega)) ?_⟩
  rintro _ w3 ⟨rfl,b3⟩
  have s3:=s2.call b3
  cases hA:Q.any (fun o=>o.Done) with
  | true =>
   simp (disch:=first|omega|exact zF rfl|exact zG rfl|exact fun h=>h|(simp only[zA,zB,zC,zD,bytesW];omega)) only[go_sem,c17L0,c17S1,c17S2,c17S3,c17S4,c17S5,c17S7,c17L1,c17S10,c17L2,c17S14,c17S15,c17S16]
   have:endsP (progsW accP) s.done=false:=endsP_no (k:=k) (by omega) (by rw [hkk,hA]; rfl)
   rw [this] at hK
   exact hK _ s3
  | false =>
   simp (disch:=first|omega|exact zF rfl|exact zG rfl|exact fun h=>h|(simp only[zA,zB,zC,zD,bytesW];omega)) only[go_sem,c17L0,c17S1,c17S2,c17S3,c17S4,c17S5,c17S7,c17L1,c17S10,c17L2,c17S14,c17S15,c17S16]
   refine ⟨⟨by omega,by omega⟩,k+1,rfl,⟨s3,by omega,fun j hj=>?_⟩,by omega⟩
   rcases Nat.lt_or_ge j k with h | h
   ·exact he j h
   ·obtain rfl:j=k:=by omega
    rw [hkk,hA]; rfl
 ·have hlt':¬ (k:Int)<(progsW accP).length:=by omega
  simp (disch:=first|omega|exact zF rfl|exact zG rfl|exact fun h=>h|(simp only[zA,zB,zC,zD,bytesW];omega)) only[go_sem,c17L0,c17S1,c17S2,c17S3,c17S4,c17S5,c17S7,c17L1,c17S10,c17L2,c17S14,c17S15,c17S16,c17L2,hlt']
  have:endsP (progsW accP) s.done=true:=by
   unfold endsP
   exact List.all_eq_true.2 fun j hj=>he j (by have:=List.mem_range.1 hj; omega)
  rw [this] at hK
  exact hK _ s2
theorem valid_s4{w w1:World}{F:Nat→Prop}{I:List Inv}{o:OpT}{b14 b12 c5 c6 c8 dc sc n:Nat}{m8:Obj}{x12 sv v0 v7 v8 v39 v40 v41:Value}{st:List Int}{SL:List (Int × VS × Nat)}{dm:List (Int × Nat × Nat)}{Q:Post}
  (hs:St w w1 F [.blk b14 o.enc.toArray 52,.blk b12 #[x12] 3,.obj c8 m8,.obj c6 (mapG Cut.intK natK dm dc),.obj c5 (mapG Cut.intK (fun p:VS=>p.1) SL sc)] (Inv.vs (SL.map fun x=>x.2.1)::I)) (hst:RdS w1 1 intE sv st) (hsl:st.length≤1000) (hk5:o.Kind=5→st.Pairwise (· < ·)) (hn:(getM o.Proc dm).getD 0=n) (hn2:n≤1000)
  (hQn:stepP st o=none→∀ w',Below w.heap.size w w'→Q .ret [(4,.bool false)] w')
  (hQy:∀ w' tv s',stepP st o=some s'→St w w' F [.obj c8 m8,.obj c6 (mapG Cut.intK natK (setM o.Proc (n+1) dc dm) (if (getM o.Proc dm).isSome then dc else dc+1)),.obj c5 (mapG Cut.intK (fun p:VS=>p.1) (setM o.Object (tv,s') sc SL) (if (getM o.Object SL).isSome then sc else sc+1))] (Inv.vs ((setM o.Object (tv,s') sc SL).map fun x=>x.2.1)::I)→Q .normal [(0,v0),(5,.map (some c5)),(6,.map (some c6)),(7,v7),(8,v8),(39,v39),(40,v40),(41,v41)] w') :
  W Tryz.prog (c17S4 ()) [(0,v0),(5,.map (some c5)),(6,.map (some c6)),(7,v7),(8,v8),(14,.pointer (some ⟨b14,0,none⟩)),(16,sv),(39,v39),(40,v40),(41,v41)] w1 Q:=by
 have ao:=o.at
 have s2:=hs.drew
 have r1:=hs.rules 0 rfl
 have r2:=s2.rules 0 rfl
 have l1:=hs.low 0 rfl
 simp (disch:=first|omega|exact zF rfl|exact zG rfl|exact fun h=>h|(simp only[zA,zB,zC,zD,bytesW];omega)) only[go_sem,c17L0,c17S1,c17S4,c17S5,c17S7,c17L1,c17S10,c17L2,c17S14,c17S15,c17S16]
 refine c17draw1 (Chg (fun _=>False) _) (Chg.refl _ _) ?_
 simp (disch:=first|omega|exact zF rfl|exact zG rfl|exact fun h=>h|(simp only[zA,zB,zC,zD,bytesW];omega)) only[go_sem,c17L0,c17S1,c17S4,c17S5,c17S7,c17L1,c17S10,c17L2,c17S14,c17S15,c17S16,c17D1,r1,r2,ao]
 refine Ret.mono (step_ok sv st o _ (hst.below ((Below.refl _ _).drew) (by decide)) (by omega) hk5) ?_
 rintro _ w3 ⟨⟨t,ok,rfl,hm⟩,b3⟩
 have chg:∀ {wa wb:World},Below wa.heap.size wa wb→Chg (fun _=>False) wa wb:=fun hb=>Chg.of_below hb
 cases hst2:stepP st o with
 | none =>
  rw [hst2] at hm
  have hm:ok=false:=hm
  subst hm
  have s3:=s2.call b3
  simp (disch:=first|omega|exact zF rfl|exact zG rfl|exact fun h=>h|(simp only[zA,zB,zC,zD,bytesW];omega)) only[go_sem,c17L0,c17S1,c17S4,c17S5,c17S7,c17L1,c17S10,c17L2,c17S14,c17S15,c17S16,c17D1]
  refine ⟨chg b3,muG_map (ek:=Cut.intK) (ev:=fun p:VS=>p.1) Cut.keyT_i Tryz.underlying78 (fun a=>by simp [Instr.sameBits,Cut.intK]) (s3.obj 4 rfl) o.Object (t,[]) ?_⟩
  have s4:=s3.putObj 4 rfl (mapG Cut.intK (fun p:VS=>p.1) (setM o.Object (t,[]) sc SL) (if (getM o.Object SL).isSome then sc else sc+1))
  generalize w3.putObj c5 (mapG Cut.intK (fun p:VS=>p.1) (setM o.Object (t,[]) sc SL) (if (getM o.Object SL).isSome then sc else sc+1))=w4 at s4 ⊢
  simp (disch:=first|omega|exact zF rfl|exact zG rfl|exact fun h=>h|(simp only[zA,zB,zC,zD,bytesW];omega)) only[go_sem,c17L0,c17S1,c17S2,c17S3,c17S4,c17S5,c17S7,c17L1,c17S10,c17L2,c17S14,c17S15,c17S16]
  exact hQn hst2 _ s4.bel
 | some s' =>
  rw [hst2] at hm
  obtain ⟨rfl,h4,f4⟩:=hm
  have s3:=s2.made b3 (Inv.rd 1 intE t s') h4 fun k hk=>⟨f4 k hk,h4.footLt (by decide) hk⟩
  simp (disch:=first|omega|exact zF rfl|exact zG rfl|exact fun h=>h|(simp only[zA,zB,zC,zD,bytesW];omega)) only[go_sem,c17L0,c17S1,c17S4,c17S5,c17S7,c17L1,c17S10,c17L2,c17S14,c17S15,c17S16,c17D1]
  refine ⟨chg b3,muG_map (ek:=Cut.intK) (ev:=fun p:VS=>p.1) Cut.keyT_i Tryz.underlying78 (fun a=>by simp [Instr.sameBits,Cut.intK]) (s3.obj 4 rfl) o.Object (t,s') ?_⟩
  have s4:=vs_set (ob:=o.Object) (p:=(t,s')) (c:=sc) (s3.putObj 4 rfl (mapG Cut.intK (fun p:VS=>p.1) (setM o.Object (t,s') sc SL) (if (getM o.Object SL).isSome then sc else sc+1)))
  generalize w3.putObj c5 (mapG Cut.intK (fun p:VS=>p.1) (setM o.Object (t,s') sc SL) (if (getM o.Object SL).isSome then sc else sc+1))=w4 at s4 ⊢
  have r4:=s4.rules 0 rfl
  simp (disch:=first|omega|exact zF rfl|exact zG rfl|exact fun h=>h|(simp only[zA,zB,zC,zD,bytesW];omega)) only[go_sem,c17L0,c17S1,c17S2,c17S3,c17S4,c17S5,c17S7,c17L1,c17S10,c17L2,c17S14,c17S15,c17S16,r4,ao]
  have hlu:luG natK (.int .i64 0) (getM o.Proc dm) false=.int .i64 (n:Nat):=by
   rw [← hn]
   cases getM o.Proc dm <;> rfl
  refine luG_map (ek:=Cut.intK) (ev:=natK) Cut.keyT_i Tryz.underlying56 (s4.obj 3 rfl) o.Proc (by rfl) ?_
  rw [hlu]
  simp (disch:=first|omega|exact zF rfl|exact zG rfl|exact fun h=>h|(simp only[zA,zB,zC,zD,bytesW];omega)) only[go_sem,c17L0,c17S1,c17S2,c17S3,c17S4,c17S5,c17S7,c17L1,c17S10,c17L2,c17S14,c17S15,c17S16,r4,ao]
  refine ⟨⟨by omega,by omega⟩,muG_map (ek:=Cut.intK) (ev:=natK) Cut.keyT_i Tryz.underlying56 (fun a=>by simp [Instr.sameBits,Cut.intK]) (s4.obj 3 rfl) o.Proc (n+1) ?_⟩
  have s5:=s4.putObj 3 rfl (mapG Cut.intK natK (setM o.Proc (n+1) dc dm) (if (getM o.Proc dm).isSome then dc else dc+1))
  generalize w4.putObj c6 (mapG Cut.intK natK (setM o.Proc (n+1) dc dm) (if (getM o.Proc dm).isSome then dc else dc+1))=w5 at s5 ⊢
  simp (disch:=first|omega|exact zF rfl|exact zG rfl|exact fun h=>h|(simp only[zA,zB,zC,zD,bytesW];omega)) only[go_sem,c17L0,c17S1,c17S2,c17S3,c17S4,c17S5,c17S7,c17L1,c17S10,c17L2,c17S14,c17S15,c17S16]
  exact hQy _ t s' hst2 (s5.sub ((List.sublist_cons_self _ _).trans (List.sublist_cons_self _ _)))
theorem valid_s5{w w1:World}{F:Nat→Prop}{I:List Inv}{o:OpT}{b14 b12 c5 c6 c8 dc sc n:Nat}{m8:Obj}{x12 v0 v7 v8 v39 v40 v41:Value}{st:List Int}{SL:List (Int × VS × Nat)}{dm:List (Int × Nat × Nat)}{Q:Post}
  (hs:St w w1 F [.blk b14 o.enc.toArray 52,.blk b12 #[x12] 3,.obj c8 m8,.obj c6 (mapG Cut.intK natK dm dc),.obj c5 (mapG Cut.intK (fun p:VS=>p.1) SL sc)] (Inv.vs (SL.map fun x=>x.2.1)::I)) (hst:st=match getM o.Object SL with | some p=>p.2 | none=>firstP o.Kind) (hsl:st.length≤1000) (hk5:o.Kind=5→st.Pairwise (· < ·)) (hn:(getM o.Proc dm).getD 0=n) (hn2:n≤1000)
  (hQn:stepP st o=none→∀ w',Below w.heap.size w w'→Q .ret [(4,.bool false)] w')
  (hQy:∀ w' tv s',stepP st o=some s'→St w w' F [.obj c8 m8,.obj c6 (mapG Cut.intK natK (setM o.Proc (n+1) dc dm) (if (getM o.Proc dm).isSome then dc else dc+1)),.obj c5 (mapG Cut.intK (fun p:VS=>p.1) (setM o.Object (tv,s') sc SL) (if (getM o.Object SL).isSome then sc else sc+1))] (Inv.vs ((setM o.Object (tv,s') sc SL).map fun x=>x.2.1)::I)→Q .normal [(0,v0),(5,.map (some c5)),(6,.map (some c6)),(7,v7),(8,v8),(39,v39),(40,v40),(41,v41)] w') :
  W Tryz.prog (c17S5 ()) [(0,v0),(5,.map (some c5)),(6,.map (some c6)),(7,v7),(8,v8),(14,.pointer (some ⟨b14,0,none⟩)),(39,v39),(40,v40),(41,v41)] w1 Q:=by
 have ao:=o.at
 have r1:=hs.rules 0 rfl
 simp (disch:=first|omega|exact zF rfl|exact zG rfl|exact fun h=>h|(simp only[zA,zB,zC,zD,bytesW];omega)) only[go_sem,c17L0,c17S1,c17S2,c17S3,c17S5,c17S7,c17L1,c17S10,c17L2,c17S14,c17S15,c17S16,r1,ao]
 refine luG_map (ek:=Cut.intK) (ev:=fun p:VS=>p.1) Cut.keyT_i Tryz.underlying78 (hs.obj 4 rfl) o.Object (by rfl) ?_
 cases e:getM o.Object SL with
 | some p =>
  rw [e] at hst
  have hst:st=p.2:=hst
  simp (disch:=first|omega|exact zF rfl|exact zG rfl|exact fun h=>h|(simp only[zA,zB,zC,zD,bytesW];omega)) only[go_sem,c17L0,c17S1,c17S2,c17S3,c17S5,c17S7,c17L1,c17S10,c17L2,c17S14,c17S15,c17S16,luG]
  have hp:=(hs.get 0 rfl) p (getM_in e)
  rw [← hst] at hp
  exact valid_s4 hs hp hsl hk5 hn hn2 hQn hQy
 | none =>
  rw [e] at hst
  have hst:st=firstP o.Kind:=hst
  simp (disch:=first|omega|exact zF rfl|exact zG rfl|exact fun h=>h|(simp only[zA,zB,zC,zD,bytesW];omega)) only[go_sem,c17L0,c17S1,c17S2,c17S3,c17S5,c17S7,c17L1,c17S10,c17L2,c17S14,c17S15,c17S16,luG,r1,ao]
  refine Ret.mono (mfirst_ok o.Kind w1) ?_
  rintro t w2 ⟨⟨ht,hf⟩,b2⟩
  rw [← hst] at ht
  simp (disch:=first|omega|exact zF rfl|exact zG rfl|exact fun h=>h|(simp only[zA,zB,zC,zD,bytesW];omega)) only[go_sem,c17L0,c17S1,c17S2,c17S3,c17S5,c17S7,c17L1,c17S10,c17L2,c17S14,c17S15,c17S16]
  exact valid_s4 (hs.call b2) ht hsl hk5 hn hn2 hQn hQy
theorem valid_mid{w w1:World}{a ia pa:Option Addr}{c ic pc c5 c6 c8:Nat}{l:List OpT}{ids:List Int}{accP accO:List Seg}{vs:List Value}{sp:Sp}{SL:List (Int × VS × Nat)}{dm:List (Int × Nat × Nat)}{ans:Bool}
  (h:RdS w 11 OpT.enc (.slice a l.length c) l) (hi:RdS w 1 intE (.slice ia ids.length ic) ids) (hl:l.length≤100) (hil:ids.length≤1000) (hn:(l.map OpT.ID).Nodup) (hw:∀ o∈l,o.wf) (hP:Cut.ByProc l accP) (hO:Cut.ByObj l accO) (cx:Ctx (progsW accP) accO 65) (hkP:∀ q∈accP,∃ o r,q.ops=o::r∧o.Proc=q.obj)
  (hs:St w w1 (fun _=>False) [.obj c8 (mapG Cut.intK natK (atM accP) accP.length),.obj c6 (mapG Cut.intK natK dm 0),.obj c5 (mapG Cut.intK (fun p:VS=>p.1) SL 0)] [Inv.pg (.slice pa (progsW accP).length pc) (progsW accP) vs]) (hv:VaS accP accO sp SL dm) (hSL:SL=[]) (hok:SpOk (progsW accP) accO 102 sp) (hans:ans=validP (progsW accP) (objsW accO) sp ids) {K:Value→World→Prop} (hK:∀ w',Below w.heap.size w w'→K (.bool ans) w') :
  W Tryz.prog (c17S15 ()) [(0,.slice a l.length c),(1,.slice ia ids.length ic),(5,.map (some c5)),(6,.map (some c6)),(7,.slice pa (progsW accP).length pc),(8,.map (some c8))] w1 (finQ Tryz.prog [.tmp 4] K):=by
 have hs0:=St.keepU hs (Inv.vs ([]:List VS)) (fun p hp=>by cases hp) (fun k hk=>by obtain ⟨p,hp,_⟩:=hk; cases hp)
 subst hSL
 simp (disch:=first|omega|exact zF rfl|exact zG rfl|exact fun h=>h|(simp only[zA,zB,zC,zD,bytesW];omega)) only[go_sem,c17L0,c17S1,c17S2,c17S3,c17S4,c17S5,c17S7,c17S10,c17L2,c17S15,c17S16]
 refine W_loopU (fun z:Nat × Sp × List (Int × VS × Nat) × List (Int × Nat × Nat) × Nat × Nat=>[(41,.int .i64 z.1)]) (fun z w'=>St w w' (fun _=>False) [.obj c8 (mapG Cut.intK natK (atM accP) accP.length),.obj c6 (mapG Cut.intK natK z.2.2.2.1 z.2.2.2.2.1),.obj c5 (mapG Cut.intK (fun p:VS=>p.1) z.2.2.1 z.2.2.2.2.2)] [Inv.vs (z.2.2.1.map fun x=>x.2.1),Inv.pg (.slice pa (progsW accP).length pc) (progsW accP) vs]∧z.1≤ids.length∧VaS accP accO z.2.1 z.2.2.1 z.2.2.2.1∧SpOk (progsW accP) accO 102 z.2.1∧ans=validP (progsW accP) (objsW accO) z.2.1 (ids.drop z.1)) (fun z=>ids.length - z.1) (0,sp,[],dm,0,0) rfl ⟨hs0,Nat.zero_le _,hv,hok,hans⟩ ?_
 rintro ⟨k,s,SL,dm,dc,sc⟩ w2 ⟨s2,hkl,hv2,hok2,hans2⟩
 simp only at s2 hkl hv2 hok2 hans2
 have hpl2:=cx.pl
 have hPl:(progsW accP).length=accP.length:=by simp [progsW]
 by_cases hlt:k<ids.length
 ·have hlt':(k:Int)<ids.length:=by omega
  obtain ⟨q,rfl⟩:=hi.ptr (by omega)
  have ek:=RdS.int (hi.below s2.bel (by decide)) hlt
  have hdr:ids.drop k=ids[k]::ids.drop (k+1):=List.drop_eq_getElem_cons hlt
  rw [hdr] at hans2
  generalize ids[k]=id at ek hans2
  simp (disch:=first|omega|exact zF rfl|exact zG rfl|exact fun h=>h|(simp only[zA,zB,zC,zD,bytesW];omega)) only[go_sem,c17L0,c17S1,c17S2,c17S3,c17S4,c17S5,c17L1,c17S10,c17L2,c17S15,c17S16,c17L1,hlt',ek]
  have s3:=s2.box #[.int .i64 id] 3
  generalize w2.alloc (.cells #[.int .i64 id] 3)=w3 at s3 ⊢
  generalize w2.heap.size=b12 at s3 ⊢
  refine ⟨by omega,Ret.mono (Cut.indexFunc_ok _ (fun o=>decide (o.ID=id)) _ l w3 (h.below s3.bel (by decide)) (fun x w' hb=>callW_go ⟨by kernel_rfl,valid1_ok x b12 id w' ((s3.call hb).blk 0 rfl)⟩) (by omega)) ?_⟩
  rintro _ w4 ⟨rfl,b4⟩
  have s4:=s3.call b4
  clear s3 s2
  cases e:l.findIdx? (fun o=>decide (o.ID=id)) with
  | none =>
   have ef:Cut.firstI (fun o=>decide (o.ID=id)) l = -1:=by unfold Cut.firstI; rw [e]
   have hno:∀ o∈l,o.ID≠id:=fun o ho=>by
    have:=List.findIdx?_eq_none_iff.1 e o ho
    simpa using this
   rw [validP,kOf_l hP hno] at hans2
   rw [ef]
   have hans2:ans=false:=hans2
   simp (disch:=first|omega|exact zF rfl|exact zG rfl|exact fun h=>h|(simp only[zA,zB,zC,zD,bytesW];omega)) only[go_sem,c17L0,c17S1,c17S2,c17S3,c17S4,c17S5,c17S7,c17L1,c17S10,c17L2,c17S14,c17S15,c17S16]
   rw [← hans2]
   exact hK _ s4.bel
  | some j =>
   have ef:Cut.firstI (fun o=>decide (o.ID=id)) l=j:=by unfold Cut.firstI; rw [e]
   obtain ⟨hj,hpj,_⟩:=List.findIdx?_eq_some_iff_getElem.1 e
   have hpj:l[j].ID=id:=by simpa using hpj
   have hom:l[j]∈l:=List.getElem_mem hj
   have hj':(j:Int)<l.length:=by omega
   have hj0:¬ (j:Int)<0:=by omega
   obtain ⟨lp,rfl⟩:=h.ptr (by omega)
   have ej:=(h.below s4.bel (by decide)).eltB (Below.refl _ _) OpT.len (by decide) hj
   have cj:=(h.below s4.bel (by decide)).at OpT.len hj
   rw [ef]
   clear ef e
   obtain ⟨i,hi2,hio⟩:∃ i,∃ hi:i<accP.length,accP[i].obj=l[j].Proc:=by
    obtain ⟨sg,hsg,e⟩:=hP.all _ hom
    obtain ⟨i,hi,rfl⟩:=List.mem_iff_getElem.1 hsg
    exact ⟨i,hi,e⟩
   generalize l[j]=o at *
   subst hpj
   have ao:=o.at
   have hat:getM o.Proc (atM accP)=some i:=by
    rw [plM_get,if_pos (by rw [← hio]; exact List.mem_map_of_mem (f:=Seg.obj) (List.getElem_mem hi2))]
    have hlt2:(accP.map Seg.obj).idxOf o.Proc<(accP.map Seg.obj).length:=List.idxOf_lt_length_iff.2 (by rw [← hio]; exact List.mem_map_of_mem (List.getElem_mem hi2))
    have e1:=List.getElem_idxOf hlt2
    rw [List.getElem_map] at e1
    have:=seg_same hP.up (by simpa using hlt2) hi2 (by rw [e1,hio])
    simp [this]
   simp (disch:=first|omega|exact zF rfl|exact zG rfl|exact fun h=>h|(simp only[zA,zB,zC,zD,bytesW];omega)) only[go_sem,c17L0,c17S2,c17S3,c17S4,c17S7,c17L1,c17S10,c17L2,c17S15,c17S16,hj',hj0,ej,cj]
   have s5:=s4.box o.enc.toArray 52
   generalize w4.alloc (.cells o.enc.toArray 52)=w5 at s5 ⊢
   generalize w4.heap.size=b14 at s5 ⊢
   have r5:=s5.rules 0 rfl
   simp (disch:=first|omega|exact zF rfl|exact zG rfl|exact fun h=>h|(simp only[zA,zB,zC,zD,bytesW];omega)) only[go_sem,c17L0,c17S2,c17S3,c17S4,c17S7,c17L1,c17S10,c17L2,c17S15,c17S16,r5,ao]
   refine ⟨by omega,by simp [OpT.len],luG_map (ek:=Cut.intK) (ev:=natK) Cut.keyT_i Tryz.underlying56 (s5.obj 2 rfl) o.Proc (by rfl) ?_⟩
   rw [hat]
   have hPr:PgR w5 (.slice pa (progsW accP).length pc) (progsW accP) vs:=s5.get 1 rfl
   obtain ⟨pp,rfl⟩:=hPr.ptr (by omega)
   obtain ⟨ra,rc,e1,r1⟩:=hPr.at (k:=i) (by omega)
   have hPi:(progsW accP)[i]'(by omega)=accP[i].ops:=by simp [progsW]
   rw [hPi] at e1 r1
   have hi2':(i:Int)<(progsW accP).length:=by omega
   simp (disch:=first|omega|exact zF rfl|exact zG rfl|exact fun h=>h|(simp only[zA,zB,zC,zD,bytesW];omega)) only[go_sem,c17L0,c17S2,c17S3,c17S4,c17S7,c17L1,c17S10,c17L2,c17S15,c17S16,luG,natK,e1,hi2']
   have s6:=s5.drew
   have r6:=s6.rules 0 rfl
   have q6:=s6.rules 1 rfl
   have l5:=s5.low 0 rfl
   have l5b:=s5.low 1 rfl
   have r5b:=s5.rules 1 rfl
   have hdl:s.done.length=accP.length:=by rw [hok2.dl,hPl]
   have hlu:luG natK (.int .i64 0) (getM o.Proc dm) false=.int .i64 (s.done.getD i 0:Nat):=by
    rw [hv2.dn i hi2,hio]
    cases getM o.Proc dm <;> rfl
   have hle:=hok2.le i
   rw [progs_getD hi2] at hle
   refine ⟨by omega,?_⟩
   refine c17draw0 (Chg (fun _=>False) _) (Chg.refl _ _) ?_
   simp (disch:=first|omega|exact zF rfl|exact zG rfl|exact fun h=>h|(simp only[zA,zB,zC,zD,bytesW];omega)) only[go_sem,c17L0,c17S2,c17S3,c17S4,c17S7,c17L1,c17S10,c17L2,c17S15,c17S16,c17D0,r5,r5b,r6,q6,ao]
   refine luG_map (ek:=Cut.intK) (ev:=natK) Cut.keyT_i Tryz.underlying56 (s6.obj 3 rfl) o.Proc (by rfl) ?_
   rw [hlu]
   have hfalse:accP[i].ops[s.done.getD i 0]?≠some o→ans=false:=fun hne=>by
    rw [validP,kOf_not hP (pure_nodup hn) hdl hom hi2 hio hne] at hans2
    exact hans2
   by_cases hd:s.done.getD i 0<accP[i].ops.length
   ·have hd':¬ ((s.done.getD i 0:Nat):Int) ≥ accP[i].ops.length:=by omega
    have hd2:((s.done.getD i 0:Nat):Int)<accP[i].ops.length:=by omega
    obtain ⟨rp,rfl⟩:=r1.ptr (by omega)
    have r16:RdS w5.drew 11 OpT.enc (.slice (some rp) accP[i].ops.length rc) accP[i].ops:=r1.below ((Below.refl _ _).drew) (by decide)
    have e6:=(r16.elt OpT.len (by decide) hd).1
    have hget:accP[i].ops[s.done.getD i 0]?=some accP[i].ops[s.done.getD i 0]:=List.getElem?_eq_getElem hd
    have hom2:accP[i].ops[s.done.getD i 0]∈l:=((byProc_mem hP (List.getElem_mem hi2) _).1 (List.getElem_mem hd)).1
    generalize accP[i].ops[s.done.getD i 0]=o2 at e6 hget hom2
    have e6':w5.drew.cell? (rp.add (s.done.getD i 0 * 11))=some (.int .i64 o2.ID):=by rw [e6]; exact o2.at.1
    simp (disch:=first|omega|exact zF rfl|exact zG rfl|exact fun h=>h|(simp only[zA,zB,zC,zD,bytesW];omega)) only[go_sem,c17L0,c17S2,c17S3,c17S4,c17S7,c17L1,c17S10,c17L2,c17S15,c17S16,c17D0,hd',hd2,r5,r5b,r6,q6,ao]
    refine luG_map (ek:=Cut.intK) (ev:=natK) Cut.keyT_i Tryz.underlying56 (s6.obj 3 rfl) o.Proc (by rfl) ?_
    rw [hlu]
    simp (disch:=first|omega|exact zF rfl|exact zG rfl|exact fun h=>h|(simp only[zA,zB,zC,zD,bytesW];omega)) only[go_sem,c17L0,c17S2,c17S3,c17S4,c17S7,c17L1,c17S10,c17L2,c17S15,c17S16,c17D0,hd',hd2,r5,r5b,r6,q6,ao,e6']
    refine ⟨by omega,?_⟩
    by_cases hid:o2.ID=o.ID
    ·have:=pure_nodup hn o2 hom2 o hom hid
     subst this
     clear hid hfalse e6 e6' hd' hd2 r16 hom2
     have hkOf:=kOf_yes hP (pure_nodup hn) hdl hi2 hget
     have hop:opAt (progsW accP) s.done i=some o2:=by rw [opAt_eq hdl hi2]; exact hget
     obtain ⟨hx,hxk⟩:=cx.pr.ob i o2 (by rw [progs_getD hi2]; exact List.mem_of_getElem? hget)
     have hxo:accO[(objsW accO).idxOf o2.Object].obj=o2.Object:=by
      have h1:(objsW accO).idxOf o2.Object<(objsW accO).length:=by simpa [objsW] using hx
      have e1:=List.getElem_idxOf h1
      have e2:(objsW accO)[(objsW accO).idxOf o2.Object]'h1=(accO[(objsW accO).idxOf o2.Object]'hx).obj:=by simp only [objsW,List.getElem_map]
      exact e2.symm.trans e1
     rw [validP,hkOf] at hans2
     simp only [mvP,hop] at hans2
     generalize hxd:(objsW accO).idxOf o2.Object=x at hx hxk hxo hans2
     have hst:=hv2.st x hx
     rw [hxo] at hst
     obtain ⟨q1,q2,q3⟩:=hok2.ok x hx
     simp (disch:=first|omega|exact zF rfl|exact zG rfl|exact fun h=>h|(simp only[zA,zB,zC,zD,bytesW];omega)) only[go_sem,c17L0,c17S1,c17S2,c17S3,c17S4,c17S7,c17L1,c17S10,c17L2,c17S15,c17S16]
     refine valid_s5 s6 (by (rw [hst,hxk]) <;> (cases getM o2.Object SL <;> rfl)) (by omega) (fun e=>q3 (hxk.trans e)) (n:=s.done.getD i 0) (by rw [hv2.dn i hi2,hio]) (by have:=cx.pp i; rw [progs_getD hi2] at this; omega) (fun hno w' hb=>?_) (fun w' tv s' hs' s7=>?_)
     ·rw [hno] at hans2
      have hans2:ans=false:=hans2
      simp (disch:=first|omega|exact zF rfl|exact zG rfl|exact fun h=>h|(simp only[zA,zB,zC,zD,bytesW];omega)) only[go_sem,c17L0,c17S1,c17S2,c17S3,c17S4,c17S5,c17S7,c17L1,c17S10,c17L2,c17S14,c17S15,c17S16]
      rw [← hans2]
      exact hK _ hb
     ·rw [hs'] at hans2
      simp (disch:=first|omega|exact zF rfl|exact zG rfl|exact fun h=>h|(simp only[zA,zB,zC,zD,bytesW];omega)) only[go_sem,c17L0,c17S1,c17S2,c17S3,c17S4,c17S5,c17S7,c17L1,c17S10,c17L2,c17S15,c17S16]
      have hmv:mvP (progsW accP) (objsW accO) s i=some (o2.ID,⟨s.done.set i (s.done.getD i 0+1),s.st.set x s'⟩):=by
       unfold mvP
       simp only [hop,hxd,hs']
      have hv3:=hv2.move hP.up hO.up hdl hok2.sl hi2 hx (tv,s') sc dc
      rw [hxo,hio] at hv3
      exact ⟨⟨by omega,by omega⟩,(k+1,⟨s.done.set i (s.done.getD i 0+1),s.st.set x s'⟩,setM o2.Object (tv,s') sc SL,setM o2.Proc (s.done.getD i 0+1) dc dm,_,_),rfl,⟨s7,by simp only; omega,hv3,mv_ok cx.pr hok2 hmv,hans2⟩,by simp only; omega⟩
    ·have hid':o2.ID≠o.ID:=hid
     simp (disch:=first|omega|exact zF rfl|exact zG rfl|exact fun h=>h|(simp only[zA,zB,zC,zD,bytesW];omega)) only[go_sem,c17L0,c17S1,c17S2,c17S3,c17S4,c17S5,c17S7,c17L1,c17S10,c17L2,c17S14,c17S15,c17S16,hid]
     rw [← hfalse (by rw [hget]; intro h; exact hid (by rw [Option.some.inj h]))]
     exact hK _ s6.bel
   ·have hd':((s.done.getD i 0:Nat):Int) ≥ accP[i].ops.length:=by omega
    simp (disch:=first|omega|exact zF rfl|exact zG rfl|exact fun h=>h|(simp only[zA,zB,zC,zD,bytesW];omega)) only[go_sem,c17L0,c17S1,c17S2,c17S3,c17S4,c17S5,c17S7,c17L1,c17S10,c17L2,c17S14,c17S15,c17S16,c17D0,hd']
    rw [← hfalse (by rw [List.getElem?_eq_none (by omega)]; exact fun h=>by cases h)]
    exact hK _ s6.bel
 ·have hlt':¬ (k:Int)<ids.length:=by omega
  rw [List.drop_of_length_le (by omega)] at hans2
  have hans2:ans=endsP (progsW accP) s.done:=hans2
  simp (disch:=first|omega|exact zF rfl|exact zG rfl|exact fun h=>h|(simp only[zA,zB,zC,zD,bytesW];omega)) only[go_sem,c17L0,c17S1,c17S2,c17S3,c17S4,c17S5,c17S7,c17L1,c17S10,c17L2,c17S15,c17S16,c17L1,hlt']
  have s3:=(s2.sub (List.sublist_cons_self _ _)).inv_sub (I':=Inv.pg (.slice pa (progsW accP).length pc) (progsW accP) vs::[]) (fun a ha=>List.mem_cons_of_mem _ ha)
  refine valid_last hkP s3 hv2 hok2 (by omega) cx.pp fun w' s'=>?_
  rw [← hans2]
  exact hK _ s'.bel
theorem valid_ok(v iv:Value)(l:List OpT)(ids:List Int)(w:World)(h:RdS w 11 OpT.enc v l)(hi:RdS w 1 intE iv ids)(hl:l.length≤100)(hil:ids.length≤1000)(hn:(l.map OpT.ID).Nodup)(hk:∀ a∈l,∀ b∈l,a.Object=b.Object→a.Kind=b.Kind)(hw:∀ o∈l,o.wf){accO:List Seg}(hO:Cut.ByObj l accO) :
  Ret Tryz.prog 17 [v,iv] w fun u w'=>ValidV l accO ids w u w':=by
 obtain ⟨a,c,rfl,_⟩:=h.form
 obtain ⟨ia,ic,rfl,_⟩:=hi.form
 refine ent17 _ _ _ _ ?_
 simp (disch:=first|omega|exact zF rfl|exact zG rfl|exact fun h=>h|(simp only[zA,zB,zC,zD,bytesW];omega)) only[go_sem,c17L0,c17S1,c17S2,c17S3,c17S4,c17S5,c17S7,c17L1,c17S10,c17L2,c17S14,c17S15]
 refine mmG (ek:=Cut.intK) (ev:=fun p:VS=>p.1) ?_
 have s1:=(St.start (W0:=w)).lay (mapG Cut.intK (fun p:VS=>p.1) [] 0)
 generalize w.alloc (mapG Cut.intK (fun p:VS=>p.1) [] 0)=w1 at s1 ⊢
 generalize w.heap.size=c5 at s1 ⊢
 simp (disch:=first|omega|exact zF rfl|exact zG rfl|exact fun h=>h|(simp only[zA,zB,zC,zD,bytesW];omega)) only[go_sem,c17L0,c17S1,c17S2,c17S3,c17S4,c17S5,c17S7,c17L1,c17S10,c17L2,c17S14,c17S15]
 refine mmG (ek:=Cut.intK) (ev:=natK) ?_
 have s2:=s1.lay (mapG Cut.intK natK [] 0)
 generalize w1.alloc (mapG Cut.intK natK [] 0)=w2 at s2 ⊢
 generalize w1.heap.size=c6 at s2 ⊢
 simp (disch:=first|omega|exact zF rfl|exact zG rfl|exact fun h=>h|(simp only[zA,zB,zC,zD,bytesW];omega)) only[go_sem,c17L0,c17S1,c17S2,c17S3,c17S4,c17S5,c17S7,c17L1,c17S10,c17L2,c17S14,c17S15]
 refine Ret.mono (Cut.programs_ok _ l w2 (h.below s2.bel (by decide)) hl) ?_
 rintro pv w3 ⟨⟨accP,vs,hP,hpr⟩,b3⟩
 have cx:=ctx_of hP hO hw hk (by omega)
 have hpg:=PgR.of hpr
 have s3:=s2.made b3 (Inv.pg pv (progsW accP) vs) hpg fun k hk=>⟨by
  rcases hk with hk | ⟨v,hv,hk⟩
  ·exact hpr.newT k hk
  ·exact hpr.newE v hv k hk,hpg.footLt hk⟩
 obtain ⟨pa,pc,rfl⟩:=hpg.form
 simp (disch:=first|omega|exact zF rfl|exact zG rfl|exact fun h=>h|(simp only[zA,zB,zC,zD,bytesW];omega)) only[go_sem,c17L0,c17S1,c17S2,c17S3,c17S4,c17S5,c17S7,c17L1,c17S10,c17L2,c17S14,c17S15]
 refine mmG (ek:=Cut.intK) (ev:=natK) ?_
 have s4:=s3.lay (mapG Cut.intK natK [] 0)
 generalize w3.alloc (mapG Cut.intK natK [] 0)=w4 at s4 ⊢
 generalize w3.heap.size=c8 at s4 ⊢
 have hPl:(progsW accP).length=accP.length:=by simp [progsW]
 have hpl2:=cx.pl
 have hkP:∀ q∈accP,∃ o r,q.ops=o::r∧o.Proc=q.obj:=fun q hq=>by
  obtain ⟨o,r,e,_⟩:=hP.kind q hq
  exact ⟨o,r,e,((byProc_mem hP hq o).1 (by rw [e]; exact List.mem_cons_self)).2⟩
 clear s1 s2 s3
 simp (disch:=first|omega|exact zF rfl|exact zG rfl|exact fun h=>h|(simp only[zA,zB,zC,zD,bytesW];omega)) only[go_sem,c17S1,c17S2,c17S3,c17S4,c17S5,c17S7,c17L1,c17S10,c17L2,c17S14,c17S16]
 refine W_loopU (fun k:Nat=>[(27,.int .i64 k)]) (fun k w'=>St w w' (fun _=>False) [.obj c8 (mapG Cut.intK natK (plM ((accP.map Seg.obj).take k) 0) k),.obj c6 (mapG Cut.intK natK [] 0),.obj c5 (mapG Cut.intK (fun p:VS=>p.1) [] 0)] [Inv.pg (.slice pa (progsW accP).length pc) (progsW accP) vs]∧k≤accP.length) (fun k=>accP.length - k) 0 rfl ⟨s4,Nat.zero_le _⟩ ?_
 rintro k w5 ⟨s5,hkl⟩
 by_cases hlt:k<accP.length
 ·have hPr:PgR w5 (.slice pa (progsW accP).length pc) (progsW accP) vs:=s5.get 0 rfl
  have hlt':(k:Int)<(progsW accP).length:=by omega
  obtain ⟨pp,rfl⟩:=hPr.ptr (by omega)
  obtain ⟨ra,rc,e1,r1⟩:=hPr.at (k:=k) (by omega)
  have hPk:(progsW accP)[k]'(by omega)=accP[k].ops:=by simp [progsW]
  rw [hPk] at e1 r1
  obtain ⟨o,r,ho,hop⟩:=hkP _ (List.getElem_mem hlt)
  have hpos:0<accP[k].ops.length:=by rw [ho]; simp
  obtain ⟨rp,rfl⟩:=r1.ptr hpos
  have e2:=(r1.elt OpT.len (by decide) hpos)
  have e0:accP[k].ops[0]'hpos=o:=by simp [ho]
  rw [e0] at e2
  have ao:=o.at
  have hpos':(0:Int)<accP[k].ops.length:=by omega
  have e3:w5.cell? ⟨rp.block,rp.off+1,none⟩=some (.int .i64 o.Proc):=by
   have:=e2.2 1 (by decide) (by decide)
   rw [ao.2.1] at this
   simpa using this
  have hkm:k<(accP.map Seg.obj).length:=by simpa using hlt
  have hpn:getM o.Proc (plM ((accP.map Seg.obj).take k) 0)=none:=by
   rw [plM_get,if_neg]
   intro hm
   obtain ⟨j,hj,e⟩:=List.mem_iff_getElem.1 hm
   rw [List.length_take] at hj
   rw [List.getElem_take,List.getElem_map,hop] at e
   have:=seg_same hP.up (by omega) hlt e
   omega
  have hps:plM ((accP.map Seg.obj).take (k+1)) 0=plM ((accP.map Seg.obj).take k) 0++[(o.Proc,k,k)]:=by
   rw [List.take_succ_eq_append_getElem hkm,plM_snoc,List.length_take,Nat.zero_add,Nat.min_eq_left (by omega),List.getElem_map,hop]
  simp (disch:=first|omega|exact zF rfl|exact zG rfl|exact fun h=>h|(simp only[zA,zB,zC,zD,bytesW];omega)) only[go_sem,c17L0,c17S1,c17S2,c17S3,c17S4,c17S5,c17S7,c17L1,c17S10,c17L2,c17S14,c17S16,c17L0,hlt',e1,e3,hpos']
  refine ⟨by omega,?_⟩
  refine muG_map (ek:=Cut.intK) (ev:=natK) Cut.keyT_i Tryz.underlying56 (fun a=>by simp [Instr.sameBits,Cut.intK]) (s5.obj 0 rfl) o.Proc k ?_
  rw [hpn,setM_snoc hpn,← hps]
  have s6:=s5.putObj 0 rfl (mapG Cut.intK natK (plM ((accP.map Seg.obj).take (k+1)) 0) (k+1))
  simp (disch:=first|omega|exact zF rfl|exact zG rfl|exact fun h=>h|(simp only[zA,zB,zC,zD,bytesW];omega)) only[go_sem,c17L0,c17S1,c17S2,c17S3,c17S4,c17S5,c17S7,c17L1,c17S10,c17L2,c17S14,c17S16]
  exact ⟨⟨by omega,by omega⟩,k+1,rfl,⟨s6,by omega⟩,by omega⟩
 ·have hlt':¬ (k:Int)<(progsW accP).length:=by omega
  obtain rfl:k=accP.length:=by omega
  rw [List.take_of_length_le (by simp)] at s5
  simp (disch:=first|omega|exact zF rfl|exact zG rfl|exact fun h=>h|(simp only[zA,zB,zC,zD,bytesW];omega)) only[go_sem,c17L0,c17S1,c17S2,c17S3,c17S4,c17S5,c17S7,c17L1,c17S10,c17L2,c17S14,c17S16,c17L0,hlt']
  have hsok:=start_ok (accP:=accP) (accO:=accO) (M:=102) (by have:=rem_start (accO:=accO) hP hn; omega)
  refine valid_mid (SL:=[]) (dm:=[]) (sp:=startW accP accO) h hi hl hil hn hw hP hO cx hkP s5 VaS.start rfl hsok rfl fun w' hb=>⟨accP,hP,rfl,hb⟩
open Go Go.Ann Go.RowKit
noncomputable def validD (l:List OpT) (ids:List Int):Bool:=@decide (∃ accP accO,Cut.ByProc l accP∧Cut.ByObj l accO∧validP (progsW accP) (objsW accO) (startW accP accO) ids=true) (Classical.propDecidable _)
theorem validD_eq{l:List OpT}{ids:List Int}{accP accO:List Seg}(hl:Cut.Pure l)(hP:Cut.ByProc l accP)(hO:Cut.ByObj l accO):validD l ids=validP (progsW accP) (objsW accO) (startW accP accO) ids:=by
 cases e:validP (progsW accP) (objsW accO) (startW accP accO) ids with
 | true=>exact @decide_eq_true _ (Classical.propDecidable _) ⟨accP,accO,hP,hO,e⟩
 | false =>
  refine @decide_eq_false _ (Classical.propDecidable _) ?_
  rintro ⟨aP,aO,h1,h2,h3⟩
  rw [Cut.byProc_unique hl h1 hP,Cut.byObj_unique hl h2 hO] at h3
  rw [e] at h3
  cases h3
theorem validD_ok(v iv:Value)(l:List OpT)(ids:List Int)(w:World)(h:RdS w 11 OpT.enc v l)(hi:RdS w 1 intE iv ids)(hl:l.length≤100)(hil:ids.length≤1000)(hn:(l.map OpT.ID).Nodup)(hk:∀ a∈l,∀ b∈l,a.Object=b.Object→a.Kind=b.Kind)(hw:∀ o∈l,o.wf) :
  Ret Tryz.prog 17 [v,iv] w fun u w'=>u=.bool (validD l ids)∧Below w.heap.size w w':=by
 obtain ⟨accO,hO⟩:=byObj_some l
 refine Ret.mono (valid_ok v iv l ids w h hi hl hil hn hk hw hO) ?_
 rintro _ w' ⟨accP,hP,rfl,hb⟩
 exact ⟨by rw [validD_eq (pure_nodup hn) hP hO],hb⟩
open Go Go.Ann Go.RowKit
abbrev OVS:=Int × VS
def osE(p:OVS):List Value:=[.int .i64 p.1,p.2.1]
theorem osE_len(p:OVS):(osE p).length=2:=rfl
structure StL(w:World)(v:Value)(S:List OVS):Prop where
 top:RdS w 2 osE v S
 el:∀ p∈S,RdS w 1 intE p.2.1 p.2.2
theorem StL.below{w w':World}{v:Value}{S:List OVS}(h:StL w v S)(hb:Below w.heap.size w w'):StL w' v S:=⟨h.top.below hb (by decide),fun p hp=>(h.el p hp).below hb (by decide)⟩
def StL.foot(v:Value)(S:List OVS)(k:Nat):Prop:=slFoot v k∨∃ p∈S,slFoot p.2.1 k
theorem StL.nil{w:World}:StL w (.slice none 0 0) []:=⟨RdS.nil,fun p hp=>by cases hp⟩
def osP(S:List OVS):List ObS:=S.map fun p=>(p.1,p.2.2)
theorem osP_len(S:List OVS):(osP S).length=S.length:=by simp [osP]
theorem osE_one{S:List OVS}{w:World}(h:∀ p∈S,RdS w 1 intE p.2.1 p.2.2):∀ u∈S.flatMap osE,u.oneCell'=true:=by
 intro u hu
 obtain ⟨p,hp,hu⟩:=List.mem_flatMap.1 hu
 obtain ⟨a,c,e,_⟩:=(h p hp).form
 unfold osE at hu
 rw [e] at hu
 simp only [List.mem_cons,List.not_mem_nil,or_false] at hu
 rcases hu with rfl | rfl <;> rfl
theorem rstepN_ok(v:Value)(s:List Int)(o:OpT)(w:World)(h:RdS w 1 intE v s)(hl:s.length≤1000000)(hs:o.Kind=5→s.Pairwise (· < ·)) :
  Ret Tryz.prog 72 [v,.agg o.enc.toArray] w fun u w'=>(∃ t ok,u=.tuple #[t,.bool ok]∧match stepP s o with
   | none=>ok=false∧t=.slice none 0 0
   | some s'=>ok=true∧RdS w' 1 intE t s'∧∀ k,slFoot t k→slFoot v k∨w.heap.size≤k)∧Below w.heap.size w w':=by
 refine ent72 _ _ _ _ ?_
 have ho:=o.at
 have hw1:Below w.heap.size w (w.alloc (.cells o.enc.toArray 52)):=(Below.refl _ w).alloc (Nat.le_refl _) _
 simp (disch:=first|omega|exact zF rfl|exact zG rfl|exact fun h=>h|(simp only[zA,zB,zC,zD,bytesW];omega)) only[go_sem]
 refine Ret.mono (rdo_ok v s o _ (h.below hw1 (by decide)) hl hs) ?_
 rintro _ w2 ⟨⟨t,a,ok,rfl,⟨ta,tn,tc,rfl⟩,hm⟩,b2⟩
 have hB2:Blk w2 w.heap.size o.enc.toArray 52:=Blk.new.below b2 Blk.new.lt
 have s2:=((((St.start (W0:=w)).box o.enc.toArray 52).call b2)).box #[.slice ta tn tc,.int .i64 a,.bool ok] 150
 have r2:=s2.rules 1 rfl
 have q2:=s2.rules 0 rfl
 have lt2:w.heap.size<w2.heap.size:=hB2.lt
 simp (disch:=first|omega|exact zF rfl|exact zG rfl|exact fun h=>h|(simp only[zA,zB,zC,zD,bytesW];omega)) only[go_sem,q2]
 cases hd:doP s o with
 | none =>
  rw [hd] at hm
  have hm:ok=false:=hm
  subst hm
  have e:stepP s o=none:=by unfold stepP; rw [hd]
  simp (disch:=first|omega|exact zF rfl|exact zG rfl|exact fun h=>h|(simp only[zA,zB,zC,zD,bytesW];omega)) only[go_sem,c72S1,r2,q2,ho]
  exact ⟨⟨_,_,rfl,by rw [e]; exact ⟨rfl,rfl⟩⟩,s2.bel⟩
 | some p =>
  obtain ⟨s',n⟩:=p
  rw [hd] at hm
  obtain ⟨rfl,rfl,h3,f3⟩:=hm
  have f3':∀ k,slFoot (.slice ta tn tc) k→slFoot v k∨w.heap.size≤k:=fun k hk=>(f3 k hk).imp id fun h=>Nat.le_trans (by simp) h
  have h4:=h3.below ((Below.refl _ w2).alloc (Nat.le_refl _) (.cells #[.slice ta tn tc,.int .i64 a,.bool true] 150)) (by decide)
  cases hdn:o.Done with
  | false =>
   have e:stepP s o=some s':=by unfold stepP; rw [hd]; simp [hdn]
   simp (disch:=first|omega|exact zF rfl|exact zG rfl|exact fun h=>h|(simp only[zA,zB,zC,zD,bytesW];omega)) only[go_sem,c72S1,r2,q2,ho,hdn]
   exact ⟨⟨_,_,rfl,by rw [e]; exact ⟨rfl,h4,f3'⟩⟩,s2.bel⟩
  | true =>
   simp (disch:=first|omega|exact zF rfl|exact zG rfl|exact fun h=>h|(simp only[zA,zB,zC,zD,bytesW];omega)) only[go_sem,c72S1,r2,q2,ho,hdn]
   refine ⟨fun hne=>⟨⟨_,_,rfl,?_⟩,s2.bel⟩,fun heq=>⟨⟨_,_,rfl,?_⟩,s2.bel⟩⟩
   ·rw [show stepP s o=none by unfold stepP; rw [hd]; simp [hdn,hne]]
    exact ⟨rfl,rfl⟩
   ·rw [show stepP s o=some s' by unfold stepP; rw [hd]; simp [hdn,heq]]
    exact ⟨rfl,h4,f3'⟩
def posI(S:List OVS)(x:Int):Int:=match posD (osP S) x with
 | some i=>i
 | none => -1
theorem posD_at{S:List OVS}{x:Int}{k:Nat}(hk:k<S.length)(h:S[k].1=x)(hb:∀ j,(hj:j<S.length)→j<k→S[j].1≠x):posD (osP S) x=some k:=by
 unfold posD
 rw [List.findIdx?_eq_some_iff_getElem]
 refine ⟨by rw [osP_len]; exact hk,by simpa [osP] using h,fun j hj=>?_⟩
 have:=hb j (by omega) hj
 simpa [osP] using this
theorem posD_not{S:List OVS}{x:Int}(hb:∀ j,(hj:j<S.length)→S[j].1≠x):posD (osP S) x=none:=by
 unfold posD
 rw [List.findIdx?_eq_none_iff]
 intro p hp
 obtain ⟨j,hj,rfl⟩:=List.mem_iff_getElem.1 hp
 have:=hb j (by rw [osP_len] at hj; exact hj)
 simpa [osP] using this
def DFindV(W:World)(S:List OVS)(o:OpT)(w':World)(u:Value):Prop:=∃ sv,u=.tuple #[sv,.int .i64 (posI S o.Object)]∧RdS w' 1 intE sv (findD (osP S) o.Object o.Kind)∧∀ k,slFoot sv k→(∃ p∈S,slFoot p.2.1 k)∨W.heap.size≤k
theorem dfind_ok(v:Value)(S:List OVS)(o:OpT)(w:World)(h:StL w v S)(hl:S.length≤1000) :
  Ret Tryz.prog 70 [v,.agg o.enc.toArray] w fun u w'=>DFindV w S o w' u∧Below w.heap.size w w':=by
 obtain ⟨a,c,rfl,_⟩:=h.top.form
 refine ent70 _ _ _ _ ?_
 have ao:=o.at
 simp (disch:=first|omega|exact zF rfl|exact zG rfl|exact fun h=>h|(simp only[zA,zB,zC,zD,bytesW];omega)) only[go_sem]
 have s1:=(St.start (W0:=w)).box o.enc.toArray 52
 generalize w.alloc (.cells o.enc.toArray 52)=w1 at s1 ⊢
 refine W_loopU (fun k:Nat=>[(6,.int .i64 k)]) (fun k w'=>St w w' (fun _=>False) [.blk w.heap.size o.enc.toArray 52] []∧k≤S.length∧∀ j,(hj:j<S.length)→j<k→S[j].1≠o.Object) (fun k=>S.length - k) 0 rfl ⟨s1,Nat.zero_le _,fun j _ h=>by omega⟩ ?_
 rintro k w2 ⟨s2,hk,hb⟩
 by_cases hlt:k<S.length
 ·have hlt':(k:Int)<S.length:=by omega
  obtain ⟨p,rfl⟩:=h.top.ptr (by omega)
  have s3:=s2.drew
  have hS:=h.below s3.bel
  have e3:=hS.top.elt osE_len (by decide) hlt
  have e30:w2.drew.cell? (p.add (k * 2))=some (.int .i64 S[k].1):=e3.1
  have e31:w2.drew.cell? ⟨p.block,p.off+k * 2+1,none⟩=some S[k].2.1:=e3.2 1 (by decide) (by decide)
  have hel:=hS.el _ (List.getElem_mem hlt)
  obtain ⟨ta,tc,et,_⟩:=hel.form
  have r3:=s3.rules 0 rfl
  by_cases hx:S[k].1=o.Object
  ·have hpos:=posD_at hlt hx fun j hj h=>hb j hj h
   rw [et] at e31 hel
   simp (disch:=first|omega|exact zF rfl|exact zG rfl|exact fun h=>h|(simp only[zA,zB,zC,zD,bytesW];omega)) only[go_sem,c70L0,c70L0,hlt']
   refine c70draw0 ?_
   simp (disch:=first|omega|exact zF rfl|exact zG rfl|exact fun h=>h|(simp only[zA,zB,zC,zD,bytesW];omega)) only[go_sem,c70L0,c70S4,c70D0,hlt',e30,e31,r3,ao,hx]
   refine ⟨by omega,by omega,⟨.slice ta S[k].2.2.length tc,?_,?_,fun j hj=>.inl ⟨_,List.getElem_mem hlt,by rw [et]; exact hj⟩⟩,s3.bel⟩
   ·unfold posI
    rw [hpos]
   ·have:findD (osP S) o.Object o.Kind=S[k].2.2:=by
     unfold findD
     rw [hpos]
     simp [osP,List.getD_eq_getElem?_getD,List.getElem?_eq_getElem hlt]
    rw [this]
    exact hel
  ·simp (disch:=first|omega|exact zF rfl|exact zG rfl|exact fun h=>h|(simp only[zA,zB,zC,zD,bytesW];omega)) only[go_sem,c70L0,c70L0,hlt']
   refine c70draw0 ?_
   simp (disch:=first|omega|exact zF rfl|exact zG rfl|exact fun h=>h|(simp only[zA,zB,zC,zD,bytesW];omega)) only[go_sem,c70L0,c70D0,hlt',e30,r3,ao,hx]
   refine ⟨by omega,⟨by omega,by omega⟩,k+1,rfl,⟨s3,by omega,fun j hj h=>?_⟩,by omega⟩
   rcases Nat.lt_or_ge j k with h1 | h1
   ·exact hb j hj h1
   ·obtain rfl:j=k:=by omega
    exact hx
 ·have hlt':¬ (k:Int)<S.length:=by omega
  have r2:=s2.rules 0 rfl
  have hpos:=posD_not (S:=S) (x:=o.Object) fun j hj=>hb j hj (by omega)
  simp (disch:=first|omega|exact zF rfl|exact zG rfl|exact fun h=>h|(simp only[zA,zB,zC,zD,bytesW];omega)) only[go_sem,c70L0,c70S4,c70L0,hlt',r2,ao]
  refine Ret.mono (rfirst_ok o.Kind w2) ?_
  rintro t w3 ⟨⟨ht,hft⟩,b3⟩
  simp (disch:=first|omega|exact zF rfl|exact zG rfl|exact fun h=>h|(simp only[zA,zB,zC,zD,bytesW];omega)) only[go_sem,c70L0,c70S4]
  refine ⟨⟨t,?_,?_,fun j hj=>.inr (Nat.le_trans s2.size (hft j hj))⟩,(s2.call b3).bel⟩
  ·unfold posI
   rw [hpos]
  ·unfold findD
   rw [hpos]
   exact ht
theorem posD_lt{S:List OVS}{x:Int}{i:Nat}(h:posD (osP S) x=some i):i<S.length:=by
 obtain ⟨hi,_⟩:=posD_some h
 rw [osP_len] at hi
 exact hi
theorem osP_set{S:List OVS}{i:Nat}(hi:i<S.length)(x:Int)(t:VS)(hx:posD (osP S) x=some i):osP (S.set i (S[i].1,t))=putD (osP S) x t.2:=by
 unfold putD
 rw [hx]
 simp [osP,List.map_set,List.getD_eq_getElem?_getD,List.getElem?_eq_getElem hi]
theorem osP_snoc{S:List OVS}(x:Int)(t:VS)(hx:posD (osP S) x=none):osP (S++[(x,t)])=putD (osP S) x t.2:=by
 unfold putD
 rw [hx]
 simp [osP]
theorem flat_set2{S:List OVS}{i:Nat}(hi:i<S.length)(t:VS):(S.flatMap osE).set (i * 2+1) t.1=(S.set i (S[i].1,t)).flatMap osE:=by
 induction S generalizing i with
 | nil=>simp at hi
 | cons p S ih =>
  cases i with
  | zero=>simp [osE]
  | succ i =>
   have:=ih (i:=i) (by simpa using hi)
   rw [List.flatMap_cons,List.set_append_right _ _ (by rw [osE_len]; omega),osE_len,List.set_cons_succ,List.flatMap_cons]
   have e:(i+1) * 2+1 - 2=i * 2+1:=by omega
   rw [e]
   congr 1
def DStepV(W:World)(v:Value)(S:List OVS)(o:OpT)(w':World)(u:Value):Prop:=∃ lv ok,u=.tuple #[lv,.bool ok]∧match stepP (findD (osP S) o.Object o.Kind) o with
 | none=>ok=false
 | some t=>ok=true∧∃ S',StL w' lv S'∧osP S'=putD (osP S) o.Object t∧S'.length≤S.length+1∧∀ k,StL.foot lv S' k→StL.foot v S k∨W.heap.size≤k
theorem dstep_ok(v:Value)(S:List OVS)(o:OpT)(w:World)(h:StL w v S)(hl:S.length≤1000)(hsl:(findD (osP S) o.Object o.Kind).length≤1000)(hk5:o.Kind=5→(findD (osP S) o.Object o.Kind).Pairwise (· < ·)) :
  Ret Tryz.prog 35 [v,.agg o.enc.toArray] w fun u w'=>DStepV w v S o w' u∧Below w.heap.size w w':=by
 obtain ⟨a,c,rfl,_⟩:=h.top.form
 refine ent35 _ _ _ _ ?_
 have ao:=o.at
 simp (disch:=first|omega|exact zF rfl|exact zG rfl|exact fun h=>h|(simp only[zA,zB,zC,zD,bytesW];omega)) only[go_sem,c35S2,c35S3]
 have s1:=(St.start (W0:=w)).box o.enc.toArray 52
 generalize w.alloc (.cells o.enc.toArray 52)=w1 at s1 ⊢
 refine Ret.mono (dfind_ok _ S o w1 (h.below s1.bel) hl) ?_
 rintro _ w2 ⟨⟨sv,rfl,hsv,fsv⟩,b2⟩
 have s2:=s1.call b2
 have r2:=s2.rules 0 rfl
 simp (disch:=first|omega|exact zF rfl|exact zG rfl|exact fun h=>h|(simp only[zA,zB,zC,zD,bytesW];omega)) only[go_sem,c35S2,c35S4,r2]
 refine Ret.mono (rstepN_ok sv _ o w2 hsv (by omega) hk5) ?_
 rintro _ w3 ⟨⟨t,ok,rfl,hm⟩,b3⟩
 have s3:=s2.call b3
 have ft1:∀ {t'},stepP (findD (osP S) o.Object o.Kind) o=some t'→∀ k,slFoot t k→StL.foot (.slice a S.length c) S k∨w.heap.size≤k:=fun {t'} e k hk=>by
  rw [e] at hm
  rcases hm.2.2 k hk with h | h
  ·rcases fsv k h with h | h
   ·exact .inl (.inr h)
   ·exact .inr (Nat.le_trans s1.size h)
  ·exact .inr (Nat.le_trans s2.size h)
 have ht:∃ t',RdS w3 1 intE t t'∧(match stepP (findD (osP S) o.Object o.Kind) o with | none=>ok=false | some s'=>ok=true∧t'=s'):=by
  cases e:stepP (findD (osP S) o.Object o.Kind) o with
  | none=>rw [e] at hm; exact ⟨[],by rw [hm.2]; exact RdS.nil,hm.1⟩
  | some s'=>rw [e] at hm; exact ⟨s',hm.2.1,hm.1,rfl⟩
 clear hm
 obtain ⟨t',ht,hm⟩:=ht
 obtain ⟨ta,tc,rfl,_⟩:=ht.form
 simp (disch:=first|omega|exact zF rfl|exact zG rfl|exact fun h=>h|(simp only[zA,zB,zC,zD,bytesW];omega)) only[go_sem,c35S3,c35S4]
 refine bsW_none ty68mkI ?_
 simp (disch:=first|omega|exact zF rfl|exact zG rfl|exact fun h=>h|(simp only[zA,zB,zC,zD,bytesW];omega)) only[go_sem,c35S3,c35S4]
 have s4:=(St.start (W0:=w3)).emptyRow 125 2
 have h4:=h.below (s3.bel.trans (s4.bel.mono s3.size))
 refine s4.append 0 rfl ty68mkI rfl (by decide) h4.top (osE_one h4.el) (by omega) (by omega) ?_
 intro v5 w5 s5 _
 simp only [List.set_cons_zero,List.nil_append,Nat.zero_add] at s5
 have bw5:Below w.heap.size w w5:=s3.bel.trans (s5.bel.mono s3.size)
 have h5:=h.below bw5
 have ht5:RdS w5 1 intE (.slice ta t'.length tc) t':=ht.below s5.bel (by decide)
 have r5:=((s3.blk 0 rfl).below s5.bel (s3.low 0 rfl).2).rules
 have l3:=s3.low 0 rfl
 obtain ⟨va,vc,rfl,_⟩:=own_slice (s5.row 0 rfl)
 cases hp:posD (osP S) o.Object with
 | none =>
  have hi:posI S o.Object = -1:=by unfold posI; rw [hp]
  simp (disch:=first|omega|exact zF rfl|exact zG rfl|exact fun h=>h|(simp only[zA,zB,zC,zD,bytesW];omega)) only[go_sem,c35S2,c35S3,c35S4,hi,r5,ao]
  refine bdW_built (cells:=#[.int .i64 o.Object,.slice ta t'.length tc]) (by kernel_rfl) ?_
  simp (disch:=first|omega|exact zF rfl|exact zG rfl|exact fun h=>h|(simp only[zA,zB,zC,zD,bytesW];omega)) only[go_sem,c35S2,c35S3,c35S4]
  refine bsW_agg ty68mkI rfl (by decide) (by decide) ?_
  simp (disch:=first|omega|exact zF rfl|exact zG rfl|exact fun h=>h|(simp only[zA,zB,zC,zD,bytesW];omega)) only[go_sem,c35S2,c35S3,c35S4]
  have hx1:Rd (w5.alloc (.cells #[.int .i64 o.Object,.slice ta t'.length tc] 125)) 2 (.slice (some ⟨w5.heap.size,0,none⟩) 1 1) 1 [.int .i64 o.Object,.slice ta t'.length tc]:=rd_new (n:=1) (cs:=#[.int .i64 o.Object,.slice ta t'.length tc]) rfl
  refine (s5.alloc' (.cells #[.int .i64 o.Object,.slice ta t'.length tc] 125)).append 0 rfl ty68mkI rfl (by decide) hx1 (by intro u hu; simp only [List.mem_cons,List.not_mem_nil,or_false] at hu; rcases hu with rfl | rfl <;> rfl) (by omega) (by omega) ?_
  intro v7 w7 s7 _
  simp only [List.set_cons_zero] at s7
  simp (disch:=first|omega|exact zF rfl|exact zG rfl|exact fun h=>h|(simp only[zA,zB,zC,zD,bytesW];omega)) only[go_sem,c35S2,c35S3,c35S4]
  refine ⟨⟨v7,ok,rfl,?_⟩,s3.bel.trans (s7.bel.mono s3.size)⟩
  have hS7:StL w7 v7 (S++[(o.Object,(.slice ta t'.length tc,t'))]):=by
   refine ⟨RdS.of_own' (s7.row 0 rfl) _ (by simp) (by rw [List.flatMap_append]; rfl),fun p hp=>?_⟩
   rcases List.mem_append.1 hp with hp | hp
   ·exact (h.below (s3.bel.trans (s7.bel.mono s3.size))).el p hp
   ·rw [List.mem_singleton] at hp
    subst hp
    exact ht.below s7.bel (by decide)
  cases e:stepP (findD (osP S) o.Object o.Kind) o with
  | none=>rw [e] at hm; exact hm
  | some s' =>
   rw [e] at hm
   obtain ⟨rfl,rfl⟩:=hm
   refine ⟨rfl,_,hS7,osP_snoc _ _ hp,by simp,fun k hk=>?_⟩
   rcases hk with hk | ⟨p,hpm,hk⟩
   ·have:=(World.ownsRow.lt (s7.row 0 rfl) k (slFoot_own hk)).1
    exact .inr (Nat.le_trans s3.size this)
   ·rcases List.mem_append.1 hpm with hpm | hpm
    ·exact .inl (.inr ⟨p,hpm,hk⟩)
    ·rw [List.mem_singleton] at hpm
     subst hpm
     exact ft1 e k hk
 | some i =>
  have hi:posI S o.Object=i:=by unfold posI; rw [hp]
  have hil:=posD_lt hp
  have hi0:¬ (i:Int)<0:=by omega
  have hil':(i:Int)<S.length:=by omega
  obtain ⟨g,rfl⟩:=own_ptr (s5.row 0 rfl) (by omega)
  simp (disch:=first|omega|exact zF rfl|exact zG rfl|exact fun h=>h|(simp only[zA,zB,zC,zD,bytesW];omega)) only[go_sem,c35S2,c35S3,c35S4,hi,hi0,hil']
  have hfl:=flat_all osE_len S
  have s6:=s5.put 0 rfl (i * 2+1) (.slice ta t'.length tc)
  simp only [List.set_cons_zero] at s6
  rw [flat_set2 hil (.slice ta t'.length tc,t')] at s6
  generalize hw6:w5.setCell ⟨g,i * 2+1,none⟩ (.slice ta t'.length tc)=w6 at s6 ⊢
  refine ⟨by omega,⟨_,(own_cell (s5.row 0 rfl)).1 (i * 2+1) _ (List.getElem?_eq_getElem (by omega))⟩,(own_cell (s5.row 0 rfl)).2 _,⟨_,ok,rfl,?_⟩,s3.bel.trans (s6.bel.mono s3.size)⟩
  have hS6:StL w6 (.slice (some ⟨g,0,none⟩) S.length vc) (S.set i (S[i].1,(.slice ta t'.length tc,t'))):=by
   refine ⟨RdS.of_own' (s6.row 0 rfl) _ (by simp) rfl,fun p hp=>?_⟩
   rcases List.mem_or_eq_of_mem_set hp with hp | rfl
   ·exact (h.below (s3.bel.trans (s6.bel.mono s3.size))).el p hp
   ·exact ht.below s6.bel (by decide)
  cases e:stepP (findD (osP S) o.Object o.Kind) o with
  | none=>rw [e] at hm; exact hm
  | some s' =>
   rw [e] at hm
   obtain ⟨rfl,rfl⟩:=hm
   refine ⟨rfl,_,hS6,osP_set hil _ _ hp,by simp,fun k hk=>?_⟩
   rcases hk with hk | ⟨p,hpm,hk⟩
   ·have:=(World.ownsRow.lt (s6.row 0 rfl) k (slFoot_own hk)).1
    exact .inr (Nat.le_trans s3.size this)
   ·rcases List.mem_or_eq_of_mem_set hpm with hpm | rfl
    ·exact .inl (.inr ⟨p,hpm,hk⟩)
    ·exact ft1 e k hk
open Go Go.Ann Go.RowKit
theorem dover_ok{w:World}{dv pv:Value}{P:List (List OpT)}{vs:List Value}{d:List Nat}(hP:PgR w pv P vs)(hd:RdS w 1 intE dv (zN d))(hl:d.length=P.length)(hn:P.length≤1000)(hp:∀ k,(P.getD k []).length≤1000)(hle:∀ k,d.getD k 0≤(P.getD k []).length) :
  Ret Tryz.prog 37 [pv,dv] w fun u w'=>u=.bool (endsP P d)∧Below w.heap.size w w':=by
 obtain ⟨a,c,rfl,_⟩:=hd.form
 obtain ⟨pa,pc,rfl⟩:=hP.form
 rw [zN_len] at hd ⊢
 refine ent37 _ _ _ _ ?_
 simp (disch:=first|omega|exact zF rfl|exact zG rfl|exact fun h=>h|(simp only[zA,zB,zC,zD,bytesW];omega)) only[go_sem]
 refine W_loopU (fun k:Nat=>[(5,.int .i64 k)]) (fun k w'=>w'=w∧k≤P.length∧∀ j,j<k→endK P d j=true) (fun k=>P.length - k) 0 rfl ⟨rfl,Nat.zero_le _,fun j h=>by omega⟩ ?_
 rintro k w1 ⟨rfl,hk,hall⟩
 by_cases hlt:k<P.length
 ·have hlt':(k:Int)<P.length:=by omega
  obtain ⟨p,rfl⟩:=hP.ptr (by omega)
  obtain ⟨q,rfl⟩:=hd.ptr (by rw [zN_len]; omega)
  obtain ⟨ra,rc,e1,e2⟩:=hP.at hlt
  have e3:=zN_cell hd (k:=k) (by omega)
  have hk2:(k:Int)<d.length:=by omega
  have hpk:P.getD k []=P[k]:=by simp [List.getD_eq_getElem?_getD,List.getElem?_eq_getElem hlt]
  have hle2:=hle k
  have hp2:=hp k
  rw [hpk] at hle2 hp2
  simp (disch:=first|omega|exact zF rfl|exact zG rfl|exact fun h=>h|(simp only[zA,zB,zC,zD,bytesW];omega)) only[go_sem,c37L1,c37L1,hlt',e3,hk2]
  refine ⟨by omega,?_⟩
  refine W_loopU (fun j:Nat=>[(6,.int .i64 j)]) (fun j w'=>w'=w1∧d.getD k 0≤j∧j≤P[k].length∧∀ i,(h:i<P[k].length)→d.getD k 0≤i→i<j→P[k][i].Done=false) (fun j=>P[k].length - j) (d.getD k 0) rfl ⟨rfl,Nat.le_refl _,hle2,fun i _ h1 h2=>by omega⟩ ?_
  rintro j w2 ⟨rfl,hj0,hj,ha⟩
  by_cases hjl:j<P[k].length
  ·have hjl':(j:Int)<P[k].length:=by omega
   obtain ⟨s,rfl⟩:=e2.ptr (by omega)
   have ej:=e2.elt OpT.len (by decide) hjl
   have aj:=P[k][j].at
   have e7:w2.cell? ⟨s.block,s.off+j * 11+7,none⟩=some (.bool P[k][j].Done):=by
    rw [ej.2 7 (by decide) (by decide)]; exact aj.2.2.2.2.2.2.2.1
   simp (disch:=first|omega|exact zF rfl|exact zG rfl|exact fun h=>h|(simp only[zA,zB,zC,zD,bytesW];omega)) only[go_sem,c37L0,c37L1,c37L0,hlt',e1,hjl',e7]
   refine ⟨by omega,by omega,by omega,fun hdn=>⟨(endsP_no hlt ?_).symm,Below.refl _ _⟩,fun hdn=>⟨⟨by omega,by omega⟩,j+1,rfl,⟨by omega,by omega,fun i h h1 h2=>?_⟩,by omega⟩⟩
   ·unfold endK
    rw [hpk]
    cases e:(P[k].drop (d.getD k 0)).all fun o=>!o.Done with
    | false=>rfl
    | true =>
     have hm:P[k][j]∈P[k].drop (d.getD k 0):=List.mem_iff_getElem.2 ⟨j - d.getD k 0,by rw [List.length_drop]; omega,by rw [List.getElem_drop]; congr 1; omega⟩
     have:=List.all_eq_true.1 e _ hm
     rw [hdn] at this
     cases this
   ·rcases Nat.lt_or_ge i j with h3 | h3
    ·exact ha i h h1 h3
    ·obtain rfl:i=j:=by omega
     exact hdn
  ·have hjl':¬ (j:Int)<P[k].length:=by omega
   simp (disch:=first|omega|exact zF rfl|exact zG rfl|exact fun h=>h|(simp only[zA,zB,zC,zD,bytesW];omega)) only[go_sem,c37L0,c37L1,c37L0,hlt',e1,hjl']
   refine ⟨by omega,⟨by omega,by omega⟩,k+1,rfl,⟨by omega,fun i hi=>?_⟩,by omega⟩
   rcases Nat.lt_or_ge i k with h3 | h3
   ·exact hall i h3
   ·obtain rfl:i=k:=by omega
    unfold endK
    rw [hpk]
    refine List.all_eq_true.2 fun o ho=>?_
    obtain ⟨q1,q2,rfl⟩:=List.mem_iff_getElem.1 ho
    rw [List.length_drop] at q2
    rw [List.getElem_drop,ha _ (by omega) (by omega) (by omega)]
    rfl
 ·have hlt':¬ (k:Int)<P.length:=by omega
  simp (disch:=first|omega|exact zF rfl|exact zG rfl|exact fun h=>h|(simp only[zA,zB,zC,zD,bytesW];omega)) only[go_sem,c37L0,c37L1,c37L1,hlt']
  refine ⟨?_,Below.refl _ _⟩
  unfold endsP
  exact (List.all_eq_true.2 fun j hj=>hall j (by have:=List.mem_range.1 hj; omega)).symm
theorem less_at{a b:List Int}{k:Nat}(h1:k<a.length)(h2:k<b.length)(he:∀ j,(h1:j<a.length)→(h2:j<b.length)→j<k→a[j]=b[j]):lessP a b=lessP (a[k]::a.drop (k+1)) (b[k]::b.drop (k+1)):=by
 have e1:a=a.take k++a[k]::a.drop (k+1):=by rw [← List.drop_eq_getElem_cons h1,List.take_append_drop]
 have e2:b=a.take k++b[k]::b.drop (k+1):=by
  have:a.take k=b.take k:=List.ext_getElem (by simp; omega) fun j q1 q2=>by
   rw [List.getElem_take,List.getElem_take]
   simp only [List.length_take] at q1 q2
   exact he j (by omega) (by omega) (by omega)
  rw [this,← List.drop_eq_getElem_cons h2,List.take_append_drop]
 conv=>lhs; rw [e1,e2]
 exact lessP_app _
theorem rless_ok(va vb:Value)(a b:List Int)(w:World)(ha:RdS w 1 intE va a)(hb:RdS w 1 intE vb b)(hl:(a.length:Int)≤9223372036854775806) :
  Ret Tryz.prog 23 [va,vb] w fun u w'=>u=.bool (lessP a b)∧Below w.heap.size w w':=by
 obtain ⟨aa,ac,rfl,_⟩:=ha.form
 obtain ⟨ba,bc,rfl,_⟩:=hb.form
 refine ent23 _ _ _ _ ?_
 simp (disch:=first|omega|exact zF rfl|exact zG rfl|exact fun h=>h|(simp only[zA,zB,zC,zD,bytesW];omega)) only[go_sem]
 refine W_loopU (fun k:Nat=>[(5,.int .i64 k)]) (fun k w'=>Below w.heap.size w w'∧k≤a.length∧k≤b.length∧∀ j,(h1:j<a.length)→(h2:j<b.length)→j<k→a[j]=b[j]) (fun k=>a.length - k) 0 rfl ⟨Below.refl _ _,Nat.zero_le _,Nat.zero_le _,fun j _ _ h=>by omega⟩ ?_
 rintro k w2 ⟨b2,hk1,hk2,he⟩
 by_cases h1:k<a.length
 ·by_cases h2:k<b.length
  ·have h1':(k:Int)<a.length:=by omega
   have h2':(k:Int)<b.length:=by omega
   obtain ⟨p,rfl⟩:=ha.ptr (by omega)
   obtain ⟨q,rfl⟩:=hb.ptr (by omega)
   have ea:=RdS.int (ha.below b2 (by decide)) h1
   have eb:=RdS.int (hb.below b2 (by decide)) h2
   have hat:=less_at h1 h2 he
   simp (disch:=first|omega|exact zF rfl|exact zG rfl|exact fun h=>h|(simp only[zA,zB,zC,zD,bytesW];omega)) only[go_sem,c23L0,c23L0,h1',h2']
   refine c23draw0 ?_
   simp (disch:=first|omega|exact zF rfl|exact zG rfl|exact fun h=>h|(simp only[zA,zB,zC,zD,bytesW];omega)) only[go_sem,c23L0,c23D0,h1',h2',ea,eb]
   have ea':w2.drew.cell? (p.add k)=some (.int .i64 a[k]):=ea
   have eb':w2.drew.cell? (q.add k)=some (.int .i64 b[k]):=eb
   refine ⟨by omega,by omega,fun hne=>?_,fun heq=>?_⟩
   ·refine c23draw1 ?_
    simp (disch:=first|omega|exact zF rfl|exact zG rfl|exact fun h=>h|(simp only[zA,zB,zC,zD,bytesW];omega)) only[go_sem,c23L0,c23D1,h1',h2',ea',eb',ea,eb]
    refine ⟨by omega,by omega,?_,b2.drew.drew⟩
    rw [hat,lessP,if_neg hne]
   ·refine ⟨⟨by omega,by omega⟩,k+1,rfl,⟨b2.drew,by omega,by omega,fun j q1 q2 h=>?_⟩,by omega⟩
    rcases Nat.lt_or_ge j k with h3 | h3
    ·exact he j q1 q2 h3
    ·obtain rfl:j=k:=by omega
     exact heq
  ·have h1':(k:Int)<a.length:=by omega
   have h2':¬ (k:Int)<b.length:=by omega
   simp (disch:=first|omega|exact zF rfl|exact zG rfl|exact fun h=>h|(simp only[zA,zB,zC,zD,bytesW];omega)) only[go_sem,c23L0,c23L0,h1',h2']
   refine ⟨?_,b2⟩
   have eb:b=a.take b.length:=List.ext_getElem (by simp; omega) fun j q1 q2=>by
    rw [List.getElem_take]
    exact (he j (by omega) q1 (by omega)).symm
   have:lessP a b=false:=by
    have e2:a=b++a.drop b.length:=by
     conv=>lhs; rw [← List.take_append_drop b.length a,← eb]
    have e3:lessP (b++a.drop b.length) (b++[])=false:=by rw [lessP_app,lessP_nil]
    rw [List.append_nil,← e2] at e3
    exact e3
   rw [this]
   exact decide_eq_false (by omega)
 ·have h1':¬ (k:Int)<a.length:=by omega
  simp (disch:=first|omega|exact zF rfl|exact zG rfl|exact fun h=>h|(simp only[zA,zB,zC,zD,bytesW];omega)) only[go_sem,c23L0,c23L0,h1']
  refine ⟨?_,b2⟩
  obtain rfl:k=a.length:=by omega
  have ea:a=b.take a.length:=List.ext_getElem (by simp; omega) fun j q1 q2=>by
   rw [List.getElem_take]
   exact he j q1 (by omega) q1
  have e2:b=a++b.drop a.length:=by
   conv=>lhs; rw [← List.take_append_drop a.length b,← ea]
  have e3:lessP (a++[]) (a++b.drop a.length)=!(b.drop a.length).isEmpty:=by rw [lessP_app]; rfl
  rw [List.append_nil,← e2] at e3
  rw [e3,Bool.eq_iff_iff,decide_eq_true_eq]
  cases hdr:b.drop a.length with
  | nil =>
   have:=congrArg List.length hdr
   rw [List.length_drop,List.length_nil] at this
   simp
   omega
  | cons x r =>
   have:=congrArg List.length hdr
   rw [List.length_drop,List.length_cons] at this
   simp
   omega
def alikeP(l:List OpT):Prop:=∀ i,(h:i<l.length)→∀ k,(hk:k<i)→l[i].ID≠l[k].ID∧(l[i].Object=l[k].Object→l[i].Kind=l[k].Kind)
theorem alikeP_nodup{l:List OpT}(h:alikeP l):(l.map OpT.ID).Nodup:=by
 rw [List.nodup_iff_pairwise_ne,List.pairwise_iff_getElem]
 intro i j hi hj hij e
 rw [List.length_map] at hi hj
 rw [List.getElem_map,List.getElem_map] at e
 exact (h j hj i hij).1 e.symm
theorem alikeP_kind{l:List OpT}(h:alikeP l):∀ a∈l,∀ b∈l,a.Object=b.Object→a.Kind=b.Kind:=by
 intro a ha b hb e
 obtain ⟨i,hi,rfl⟩:=List.mem_iff_getElem.1 ha
 obtain ⟨j,hj,rfl⟩:=List.mem_iff_getElem.1 hb
 rcases Nat.lt_trichotomy i j with h1 | h1 | h1
 ·exact ((h j hj i h1).2 e.symm).symm
 ·subst h1; rfl
 ·exact (h i hi j h1).2 e
theorem alike_ok(v:Value)(l:List OpT)(w:World)(h:RdS w 11 OpT.enc v l)(hl:(l.length:Int)≤9223372036854775807) :
  Ret Tryz.prog 9 [v] w fun u w'=>(∃ b,u=.bool b∧(b=true→alikeP l))∧Below w.heap.size w w':=by
 obtain ⟨a,c,rfl,_⟩:=h.form
 refine ent9 _ _ _ ?_
 simp (disch:=first|omega|exact zF rfl|exact zG rfl|exact fun h=>h|(simp only[zA,zB,zC,zD,bytesW];omega)) only[go_sem]
 refine W_loopU (fun i:Nat=>[(3,.int .i64 i)]) (fun i w'=>Below w.heap.size w w'∧i≤l.length∧∀ j,(h:j<l.length)→j<i→∀ k,(hk:k<j)→l[j].ID≠l[k].ID∧(l[j].Object=l[k].Object→l[j].Kind=l[k].Kind)) (fun i=>l.length - i) 0 rfl ⟨Below.refl _ _,Nat.zero_le _,fun j _ h=>by omega⟩ ?_
 rintro i w2 ⟨b2,hi,hall⟩
 by_cases hlt:i<l.length
 ·have hlt':(i:Int)<l.length:=by omega
  obtain ⟨q,rfl⟩:=h.ptr (by omega)
  simp (disch:=first|omega|exact zF rfl|exact zG rfl|exact fun h=>h|(simp only[zA,zB,zC,zD,bytesW];omega)) only[go_sem,c9L1,c9L1,hlt']
  refine W_loopU (fun k:Nat=>[(4,.int .i64 k)]) (fun k w'=>Below w.heap.size w w'∧k≤i∧∀ j,(hj:j<i)→j<k→l[i].ID≠l[j].ID∧(l[i].Object=l[j].Object→l[i].Kind=l[j].Kind)) (fun k=>i - k) 0 rfl ⟨b2,Nat.zero_le _,fun j _ h=>by omega⟩ ?_
  rintro k w3 ⟨b3,hk,hin⟩
  by_cases hki:k<i
  ·have hki':(k:Int)<i:=by omega
   have hkl:(k:Int)<l.length:=by omega
   have ei:=h.eltB (b3.drew) OpT.len (by decide) hlt
   have ek:=h.eltB (b3.drew) OpT.len (by decide) (show k<l.length by omega)
   have ai:=l[i].at
   have ak:=l[k].at
   simp (disch:=first|omega|exact zF rfl|exact zG rfl|exact fun h=>h|(simp only[zA,zB,zC,zD,bytesW];omega)) only[go_sem,c9L0,c9L1,c9L0,hki']
   refine c9draw0 ?_
   simp (disch:=first|omega|exact zF rfl|exact zG rfl|exact fun h=>h|(simp only[zA,zB,zC,zD,bytesW];omega)) only[go_sem,c9L0,c9L1,c9D0,hlt',hkl,ei,ek,ai,ak]
   have nx:(¬l[i].ID=l[k].ID∧(l[i].Object=l[k].Object→l[i].Kind=l[k].Kind))→∀ j,(hj:j<i)→j<k+1→¬l[i].ID=l[j].ID∧(l[i].Object=l[j].Object→l[i].Kind=l[j].Kind):=fun hh j hj h=>by
    rcases Nat.lt_or_ge j k with h3 | h3
    ·exact hin j hj h3
    ·obtain rfl:j=k:=by omega
     exact hh
   exact ⟨by omega,by omega,fun hne=>⟨by omega,by omega,fun hob=>⟨by omega,by omega,fun _=>b3.drew,fun hkd=>⟨⟨by omega,by omega⟩,k+1,rfl,⟨b3.drew,by omega,nx ⟨hne,fun _=>hkd⟩⟩,by omega⟩⟩,fun hob=>⟨⟨by omega,by omega⟩,k+1,rfl,⟨b3.drew,by omega,nx ⟨hne,fun h=>absurd h hob⟩⟩,by omega⟩⟩,fun _=>b3.drew⟩
  ·have hki':¬ (k:Int)<i:=by omega
   simp (disch:=first|omega|exact zF rfl|exact zG rfl|exact fun h=>h|(simp only[zA,zB,zC,zD,bytesW];omega)) only[go_sem,c9L0,c9L1,c9L0,hki']
   refine ⟨⟨by omega,by omega⟩,i+1,rfl,⟨b3,by omega,fun j hj h k' hk'=>?_⟩,by omega⟩
   rcases Nat.lt_or_ge j i with h3 | h3
   ·exact hall j hj h3 k' hk'
   ·obtain rfl:j=i:=by omega
    exact hin k' hk' (by omega)
 ·have hlt':¬ (i:Int)<l.length:=by omega
  simp (disch:=first|omega|exact zF rfl|exact zG rfl|exact fun h=>h|(simp only[zA,zB,zC,zD,bytesW];omega)) only[go_sem,c9L0,c9L1,c9L1,hlt']
  exact ⟨fun j hj k hk=>hall j hj (by omega) k hk,b2⟩
end Go.Proofs.YtoadmihnihfjkaaGreat

namespace Go.Proofs.YtoadmihnihfjkaaGreat.Cut
open Go Go.Ann Go.RowKit
theorem rprogramsN_ok(v:Value)(l:List OpT)(w:World)(h:RdS w 11 OpT.enc v l)(hl:l.length≤100) :
  Ret Tryz.prog 14 [v] w fun u w'=>(∃ acc vs,ByProc l acc∧Progs w' w.heap.size u acc vs)∧Below w.heap.size w w':=by
 obtain ⟨a,c,rfl,_⟩:=h.form
 refine ent14 _ _ _ ?_
 simp (disch:=first|omega|exact zF rfl|exact zG rfl|exact fun h=>h|(simp only[zA,zB,zC,zD,bytesW];omega)) only[go_sem,c14S5,c14S6,c14S7]
 refine W_loopU (fun x:Value × Int × Bool=>[(3,x.1),(4,.int .i64 x.2.1),(5,.bool x.2.2)]) (fun x w'=>∃ acc vs,vs.length=acc.length∧acc.length+(leftP l x.2.2 x.2.1).length≤l.length∧St w w' (fun _=>False) [.row x.1 22 1 acc.length vs] (segInvs acc vs)∧PartP l acc x.2.2 x.2.1∧∀ v∈vs,∀ k,slFoot v k→w.heap.size≤k) (fun x=>(leftP l x.2.2 x.2.1).length) (.slice none 0 0,0,false) rfl ⟨[],[],rfl,by rw [List.length_nil,Nat.zero_add]; exact List.length_filter_le _ _,(St.start (W0:=w)).nilRow 22 1,PartP.nil l 0,fun v hv=>(by cases hv)⟩ ?_
 rintro ⟨vo,last,any⟩ w1 ⟨acc,vs,hvs,hlen,s1,hp,hnew⟩
 simp only at hlen s1 hp
 simp (disch:=first|omega|exact zF rfl|exact zG rfl|exact fun h=>h|(simp only[zA,zB,zC,zD,bytesW];omega)) only[go_sem,c14S5,c14S6]
 refine W_loopU (fun x:Int × Bool × Nat=>[(6,.int .i64 x.1),(7,.bool x.2.1),(8,.int .i64 x.2.2)]) (fun x w'=>w'=w1∧x.2.2≤l.length∧NextP l any last x.2.2 x.2.1 x.1) (fun x=>l.length - x.2.2) (0,false,0) rfl ⟨rfl,Nat.zero_le _,.inl ⟨rfl,fun o h=>by simp at h⟩⟩ ?_
 rintro ⟨next,found,k⟩ _ ⟨rfl,hk,hn⟩
 simp only at hk hn
 by_cases hkl:k<l.length
 ·have hkl':(k:Int)<l.length:=by omega
  obtain ⟨q,rfl⟩:=h.ptr (by omega)
  have ek:=h.eltB s1.bel OpT.len (by decide) hkl
  have ak:=l[k].at
  simp (disch:=first|omega|exact zF rfl|exact zG rfl|exact fun h=>h|(simp only[zA,zB,zC,zD,bytesW];omega)) only[go_sem,c14S5,c14S6,hkl',ek,ak]
  have tk:(any=true→last<l[k].Proc)→(found=true→l[k].Proc<next)→k+1≤l.length∧NextP l any last (k+1) true l[k].Proc:=fun a b=>⟨hkl,hn.take hkl a b⟩
  have sk:((any=true∧l[k].Proc≤last)∨(found=true∧next≤l[k].Proc))→k+1≤l.length∧NextP l any last (k+1) found next:=fun a=>⟨hkl,hn.skip hkl a⟩
  refine ⟨fun ha=>⟨by omega,fun h1=>⟨fun hf=>⟨by omega,fun h2=>⟨by omega,⟨by omega,by omega⟩,(_,_,k+1),rfl,tk (fun _=>h1) (fun _=>h2),by simp only; omega⟩,fun h2=>⟨⟨by omega,by omega⟩,(_,_,k+1),rfl,sk (.inr ⟨hf,h2⟩),by simp only; omega⟩⟩,fun hf=>⟨by omega,⟨by omega,by omega⟩,(_,_,k+1),rfl,tk (fun _=>h1) (fun h=>by rw [hf] at h; cases h),by simp only; omega⟩⟩,fun h1=>⟨⟨by omega,by omega⟩,(_,_,k+1),rfl,sk (.inl ⟨ha,h1⟩),by simp only; omega⟩⟩,fun ha=>⟨fun hf=>⟨by omega,fun h2=>⟨by omega,⟨by omega,by omega⟩,(_,_,k+1),rfl,tk (fun h=>by rw [ha] at h; cases h) (fun _=>h2),by simp only; omega⟩,fun h2=>⟨⟨by omega,by omega⟩,(_,_,k+1),rfl,sk (.inr ⟨hf,h2⟩),by simp only; omega⟩⟩,fun hf=>⟨by omega,⟨by omega,by omega⟩,(_,_,k+1),rfl,tk (fun h=>by rw [ha] at h; cases h) (fun h=>by rw [hf] at h; cases h),by simp only; omega⟩⟩⟩
 ·have hkl':¬ (k:Int)<l.length:=by omega
  simp (disch:=first|omega|exact zF rfl|exact zG rfl|exact fun h=>h|(simp only[zA,zB,zC,zD,bytesW];omega)) only[go_sem,c14S5,c14S7,hkl']
  have hkk:k=l.length:=by omega
  subst hkk
  unfold NextP at hn
  rw [List.take_length] at hn
  refine ⟨fun hf=>⟨⟨acc,vs,⟨hp.up,hp.sorts,hp.kind,fun o ho=>?_⟩,⟨hvs,RdS.of_own' (s1.row 0 rfl) vs hvs.symm (flatMap_one vs).symm,(fun j s v hs hv=>⟨?_,?_⟩),fun k hk=>(World.ownsRow.lt (s1.row 0 rfl) k (slFoot_own hk)).1,hnew⟩⟩,s1.bel⟩,fun hf=>?_⟩
  ·rcases hn with ⟨_,hn⟩ | ⟨hn,_⟩
   ·rcases hp.all o ho with h' | h'
    ·unfold leftP at h'
     rw [List.mem_filter] at h'
     obtain ⟨a1,a2⟩:=hn o ho
     rw [a1] at h'
     have:=h'.2
     simp at this
     omega
    ·exact h'
   ·rw [hf] at hn; cases hn
  ·exact (s1.inv _ (segInvs_mem acc vs j s v hs hv)).1
  ·have e1:=(hp.sorts s (List.mem_of_getElem? hs)).1.length_eq
   have e2:=ofProc_len s.obj l
   omega
  ·rcases hn with ⟨hn,_⟩ | ⟨_,⟨x,hx,hxe⟩,hlo,hmin⟩
   ·rw [hf] at hn; cases hn
   simp (disch:=first|omega|exact zF rfl|exact zG rfl|exact fun h=>h|(simp only[zA,zB,zC,zD,bytesW];omega)) only[go_sem,c14S6,c14S7]
   refine W_loopU (fun y:Value × Nat=>[(9,y.1),(10,.int .i64 y.2)]) (fun y w'=>y.2≤l.length∧St w w' (fun _=>False) [.row y.1 52 11 (ofProc next (l.take y.2)).length ((ofProc next (l.take y.2)).flatMap OpT.enc),.row vo 22 1 acc.length vs] (segInvs acc vs)) (fun y=>l.length - y.2) (.slice none 0 0,0) rfl ⟨Nat.zero_le _,s1.nilRow 52 11⟩ ?_
   rintro ⟨v2,k⟩ w2 ⟨hk2,s2⟩
   simp only at hk2 s2
   by_cases hkl2:k<l.length
   ·have hkl2':(k:Int)<l.length:=by omega
    obtain ⟨q,rfl⟩:=h.ptr (by omega)
    have ek:=h.eltB s2.bel OpT.len (by decide) hkl2
    have ck:=cellsO_below s2.bel (h.at OpT.len hkl2)
    have ak:=l[k].at
    have hf1:=ofProc_len next (l.take k)
    rw [List.length_take] at hf1
    have hsn:=ofProc_snoc next hkl2
    simp (disch:=first|omega|exact zF rfl|exact zG rfl|exact fun h=>h|(simp only[zA,zB,zC,zD,bytesW];omega)) only[go_sem,c14S6,c14S7,hkl2',ek,ak,ck]
    refine ⟨by omega,fun he=>⟨by omega,bsW_agg ty22mkI rfl (by decide) (by decide) ?_⟩,fun he=>⟨⟨by omega,by omega⟩,(v2,k+1),rfl,⟨hkl2,?_⟩,by simp only; omega⟩⟩
    ·have hrd:Rd (w2.alloc (.cells l[k].enc.toArray 52)) 11 (.slice (some ⟨w2.heap.size,0,none⟩) 1 1) 1 l[k].enc:=rd_new (t:=52) (sz:=11) (n:=1) (cs:=l[k].enc.toArray) rfl
     have s3:=s2.alloc' (.cells l[k].enc.toArray 52)
     generalize w2.alloc (.cells l[k].enc.toArray 52)=w3 at s3 hrd ⊢
     simp (disch:=first|omega|exact zF rfl|exact zG rfl|exact fun h=>h|(simp only[zA,zB,zC,zD,bytesW];omega)) only[go_sem,c14S6,c14S7]
     refine s3.append 0 rfl ty22mkI rfl (by decide) hrd l[k].one (by omega) (by omega) ?_
     intro v4 w4 s4 _
     simp only [List.set_cons_zero] at s4
     simp (disch:=first|omega|exact zF rfl|exact zG rfl|exact fun h=>h|(simp only[zA,zB,zC,zD,bytesW];omega)) only[go_sem,c14S6,c14S7]
     refine ⟨⟨by omega,by omega⟩,(v4,k+1),rfl,⟨hkl2,?_⟩,by simp only; omega⟩
     simp only
     have e2:(ofProc next (l.take k)++[l[k]]).length=(ofProc next (l.take k)).length+1:=by simp
     have e3:(ofProc next (l.take k)++[l[k]]).flatMap OpT.enc=(ofProc next (l.take k)).flatMap OpT.enc++l[k].enc:=by rw [List.flatMap_append]; simp
     rw [hsn,if_pos he,e2,e3]
     exact s4
    ·simp only
     rw [hsn,if_neg he,List.append_nil]
     exact s2
   ·have hkl2':¬ (k:Int)<l.length:=by omega
    simp (disch:=first|omega|exact zF rfl|exact zG rfl|exact fun h=>h|(simp only[zA,zB,zC,zD,bytesW];omega)) only[go_sem,c14S6,c14S7,hkl2']
    have hkk:k=l.length:=by omega
    subst hkk
    rw [List.take_length] at s2
    simp (disch:=first|omega|exact zF rfl|exact zG rfl|exact fun h=>h|(simp only[zA,zB,zC,zD,bytesW];omega)) only[go_sem,c14S5,c14S6,c14S7]
    refine Ret.mono (sorted_ok _ _ _ (RdS.of_own (s2.row 0 rfl)) (by have:=ofProc_len next l; omega)) ?_
    rintro v3 w3 ⟨⟨r,hs,o3⟩,b3⟩
    have s3:=(s2.sub (List.sublist_cons_self _ _)).add b3 (.row v3 52 11 r.length (r.flatMap OpT.enc)) (own_mono o3 s2.size) fun k hk=>(o3.lt k hk).1
    have hrx:r≠[]:=fun e=>by
     have hm:x∈ofProc next l:=by unfold ofProc; rw [List.mem_filter]; exact ⟨hx,by simpa using hxe⟩
     have:=hs.1.length_eq
     rw [e] at this
     rw [List.eq_nil_of_length_eq_zero this.symm] at hm
     cases hm
    obtain ⟨o,r',rfl⟩:=List.exists_cons_of_ne_nil hrx
    have hro:RdS w3 11 OpT.enc v3 (o::r'):=RdS.of_own o3
    obtain ⟨p,cp,rfl,_⟩:=hro.form
    obtain ⟨p,rfl⟩:=hro.ptr (by simp)
    simp (disch:=first|omega|exact zF rfl|exact zG rfl|exact fun h=>h|(simp only[zA,zB,zC,zD,bytesW];omega)) only[go_sem,c14S5,c14S6,c14S7]
    have s4:=s3.seal (.rd 11 OpT.enc (.slice (some p) (r'.length+1) cp) (o::r')) hro fun k hk=>slFoot_own hk
    refine bsW_ones ty31mkI rfl rfl (by decide) (by decide) (by intro u hu; rw [List.mem_singleton] at hu; subst hu; rfl) ?_
    have s5:=s4.alloc' (.cells #[.slice (some p) (r'.length+1) cp] 22)
    have hrd:Rd (w3.alloc (.cells #[.slice (some p) (r'.length+1) cp] 22)) 1 (.slice (some ⟨w3.heap.size,0,none⟩) 1 1) 1 [.slice (some p) (r'.length+1) cp]:=rd_new (t:=22) (sz:=1) (n:=1) (cs:=#[.slice (some p) (r'.length+1) cp]) rfl
    simp (disch:=first|omega|exact zF rfl|exact zG rfl|exact fun h=>h|(simp only[zA,zB,zC,zD,bytesW];omega)) only[go_sem,c14S5,c14S6,c14S7]
    generalize w3.alloc (.cells #[.slice (some p) (r'.length+1) cp] 22)=w4 at s5 hrd ⊢
    refine s5.append 0 rfl ty31mkI rfl (by decide) hrd (by intro u hu; rw [List.mem_singleton] at hu; subst hu; rfl) (by omega) (by omega) ?_
    intro v5 w5 s6 _
    simp only [List.set_cons_zero] at s6
    simp (disch:=first|omega|exact zF rfl|exact zG rfl|exact fun h=>h|(simp only[zA,zB,zC,zD,bytesW];omega)) only[go_sem,c14S5,c14S6,c14S7]
    obtain ⟨p1,p2⟩:=hp.step hx hxe hlo hmin hs
    refine ⟨(v5,next,true),rfl,⟨acc++[⟨next,o.Kind,o::r'⟩],vs++[.slice (some p) (r'.length+1) cp],by simp [hvs],by simp only; rw [List.length_append,List.length_singleton]; omega,?_,p1,fun v hv k hk=>?_⟩,p2⟩
    rotate_left
    ·rcases List.mem_append.1 hv with hv | hv
     ·exact hnew v hv k hk
     ·rw [List.mem_singleton] at hv
      subst hv
      exact Nat.le_trans s2.size (o3.lt k (slFoot_own hk)).1
    rw [List.length_append,List.length_singleton]
    refine St.inv_sub s6 fun a ha=>?_
    rcases (segInvs_snoc acc vs _ _ hvs a).1 ha with rfl | ha
    ·exact List.mem_cons_self
    ·exact List.mem_cons_of_mem _ ha
end Go.Proofs.YtoadmihnihfjkaaGreat.Cut

namespace Go.Proofs.YtoadmihnihfjkaaGreat
open Go Go.Ann Go.RowKit
theorem StL.loc{w w':World}{v:Value}{S:List OVS}(h:StL w v S)(hk:∀ k,StL.foot v S k→w'.heap[k]?=w.heap[k]?):StL w' v S :=
 ⟨h.top.loc fun k hf=>hk k (.inl hf),fun p hp=>(h.el p hp).loc fun k hf=>hk k (.inr ⟨p,hp,hf⟩)⟩
theorem StL.footLt{w:World}{v:Value}{S:List OVS}(h:StL w v S){k:Nat}(hk:StL.foot v S k):k<w.heap.size:=by
 rcases hk with hk | ⟨p,hp,hk⟩
 ·exact h.top.footLt (by decide) hk
 ·exact (h.el p hp).footLt (by decide) hk
def Inv.os(v:Value)(S:List OVS):Inv:=⟨fun w=>StL w v S,StL.foot v S,fun _ _ h hk=>h.loc hk⟩
theorem St.addI{W0 w w':World}{F:Nat→Prop}{L:List Res}{I:List Inv}(h:St W0 w F L I)(hb:Below w.heap.size w w')(a:Inv)(ha:a.holds w')(hlt:∀ k,a.foot k→k<w'.heap.size)(hf:∀ k,a.foot k→(∃ b∈I,b.foot k)∨w.heap.size≤k):St W0 w' F L (a::I):=by
 have h':=h.call hb
 refine h'.keep a ha fun k hk=>⟨hlt k hk,?_⟩
 rcases hf k hk with ⟨b,hb,hbk⟩ | hn
 ·exact ((h'.inv b hb).2 k hbk).2
 ·refine ⟨fun hF=>?_,fun r hr e=>?_⟩
  ·have:=(h.foot k hF).2
   omega
  ·have:=((h.res r hr).1.lt k e).2
   omega
theorem std_find{accO:List Seg}{SL:List ObS}{st:List (List Int)}(h:StD accO SL st){o:OpT}(ho:(objsW accO).idxOf o.Object<accO.length)(hk:accO[(objsW accO).idxOf o.Object].kind=o.Kind):findD SL o.Object o.Kind=st.getD ((objsW accO).idxOf o.Object) []:=by
 have h1:(objsW accO).idxOf o.Object<(objsW accO).length:=by simpa [objsW] using ho
 have e1:=List.getElem_idxOf h1
 have e2:(objsW accO)[(objsW accO).idxOf o.Object]'h1=(accO[(objsW accO).idxOf o.Object]'ho).obj:=by simp only [objsW,List.getElem_map]
 have:=h _ ho
 rw [hk,← e2,e1] at this
 exact this
theorem zN_flat{d:List Nat}{k:Nat}(hk:k<d.length):((zN d).flatMap intE)[k]?=some (.int .i64 (d.getD k 0:Nat)):=by
 have:(zN d).flatMap intE=(zN d).map fun n=>.int .i64 n:=by
  induction zN d with
  | nil=>rfl
  | cons a l ih=>rw [List.flatMap_cons,ih]; rfl
 rw [this,List.getElem?_map,List.getElem?_eq_getElem (by rw [zN_len]; omega),zN_get]; rfl
theorem zN_flat_set(d:List Nat)(k n:Nat):((zN d).flatMap intE).set k (.int .i64 ((n:Nat)+1))=(zN (d.set k (n+1))).flatMap intE:=by
 have:∀ l:List Int,l.flatMap intE=l.map fun n=>.int .i64 n:=fun l=>by
  induction l with
  | nil=>rfl
  | cons a l ih=>rw [List.flatMap_cons,ih]; rfl
 rw [this,this,zN_set,List.map_set]
 simp
open Go Go.Ann Go.RowKit
theorem PgR.atV{w:World}{p:Addr}{n c:Nat}{P:List (List OpT)}{vs:List Value}(h:PgR w (.slice (some p) n c) P vs){k:Nat}(hk:k<P.length):∃ a cc,∀ w',PgR w' (.slice (some p) n c) P vs→w'.cell? (p.add k)=some (.slice a P[k].length cc)∧RdS w' 11 OpT.enc (.slice a P[k].length cc) P[k]:=by
 have hv:k<vs.length:=by have:=h.len; omega
 have r:=h.elt k P[k] vs[k] (List.getElem?_eq_getElem hk) (List.getElem?_eq_getElem hv)
 obtain ⟨a,cc,e,_⟩:=r.form
 refine ⟨a,cc,fun w' h'=>?_⟩
 have hc:=RdS.at1 (e1:=fun v=>v) (show RdS w' 1 (fun v=>[v]) (.slice (some p) n c) vs from h'.top) hv
 rw [e] at hc
 refine ⟨hc,?_⟩
 rw [← e]
 exact h'.elt k P[k] vs[k] (List.getElem?_eq_getElem hk) (List.getElem?_eq_getElem hv)
open Go Go.Ann Go.RowKit
def f1:OpT:=⟨1,1,0,1,2,1,0,true,0,1,2⟩
def f2:OpT:=⟨2,2,0,1,1,0,0,true,0,3,4⟩
def awL:List OpT:=[f1,f2]
def awP:List Seg:=[⟨1,1,[f1]⟩,⟨2,1,[f2]⟩]
def awO:List Seg:=[⟨0,1,[f1,f2]⟩]
def bfsX(P:List (List OpT))(obs:List Int)(most:Int):Nat→List Sp→Nat→Option (List Sp)
 | 0,_,_=>none
 | f+1,L,i=>if most<L.length then some L else if h:i<L.length then bfsX P obs most f (roundW P obs L L[i]) (i+1) else some L
theorem bfsX_ok{P:List (List OpT)}{obs:List Int}{most:Int}:∀ {f:Nat} {L:List Sp} {i:Nat} {r:List Sp},bfsX P obs most f L i=some r→BfsR P obs most L i r
 | 0,_,_,_,h=>by cases h
 | f+1,L,i,r,h=>by
  rw [bfsX] at h
  by_cases h1:most<L.length
  ·rw [if_pos h1] at h
   cases h
   exact .full h1
  ·rw [if_neg h1] at h
   by_cases h2:i<L.length
   ·rw [dif_pos h2] at h
    exact .go h2 h1 (bfsX_ok h)
   ·rw [dif_neg h2] at h
    cases h
    exact .last (by omega)
theorem aw_ids:(awL.map OpT.ID).Nodup:=by decide
theorem aw_kind:∀ a∈awL,∀ b∈awL,a.Object=b.Object→a.Kind=b.Kind:=by
 intro a ha b hb _
 simp only [awL,List.mem_cons,List.not_mem_nil,or_false] at ha hb
 rcases ha with rfl | rfl <;> rcases hb with rfl | rfl <;> rfl
theorem aw_wf:∀ o∈awL,o.wf:=by
 intro o ho
 simp only [awL,List.mem_cons,List.not_mem_nil,or_false] at ho
 rcases ho with rfl | rfl <;> exact ⟨rfl,rfl,rfl,rfl,rfl,rfl,rfl,rfl,rfl,rfl⟩
theorem aw_P:Cut.ByProc awL awP:=by
 refine ⟨by simp [awP],fun s hs=>?_,fun s hs=>?_,fun o ho=>?_⟩
 ·simp only [awP,List.mem_cons,List.not_mem_nil,or_false] at hs
  rcases hs with rfl | rfl
  ·exact ⟨by rw [show Cut.ofProc 1 awL=[f1] from by kernel_rfl],by simp⟩
  ·exact ⟨by rw [show Cut.ofProc 2 awL=[f2] from by kernel_rfl],by simp⟩
 ·simp only [awP,List.mem_cons,List.not_mem_nil,or_false] at hs
  rcases hs with rfl | rfl
  ·exact ⟨f1,[],rfl,rfl⟩
  ·exact ⟨f2,[],rfl,rfl⟩
 ·simp only [awL,List.mem_cons,List.not_mem_nil,or_false] at ho
  rcases ho with rfl | rfl
  ·exact ⟨_,List.mem_cons_self,rfl⟩
  ·exact ⟨_,List.mem_cons_of_mem _ List.mem_cons_self,rfl⟩
theorem aw_O:Cut.ByObj awL awO:=by
 refine ⟨by simp [awO],fun s hs=>?_,fun s hs=>?_,fun o ho=>?_⟩
 ·simp only [awO,List.mem_cons,List.not_mem_nil,or_false] at hs
  subst hs
  exact ⟨by rw [show Cut.ofObj 0 awL=[f1,f2] from by kernel_rfl],by decide⟩
 ·simp only [awO,List.mem_cons,List.not_mem_nil,or_false] at hs
  subst hs
  exact ⟨f1,[f2],rfl,rfl⟩
 ·simp only [awL,List.mem_cons,List.not_mem_nil,or_false] at ho
  rcases ho with rfl | rfl
  ·exact ⟨_,List.mem_cons_self,rfl⟩
  ·exact ⟨_,List.mem_cons_self,rfl⟩
theorem aw_bfs:∃ r,BfsR (progsW awP) (objsW awO) 99 [startW awP awO] 0 r∧r.length=4 :=
 ⟨[⟨[0,0],[[0]]⟩,⟨[1,0],[[1]]⟩,⟨[0,1],[[0]]⟩,⟨[1,1],[[1]]⟩],bfsX_ok (f:=10) (by kernel_rfl),rfl⟩
theorem aw_best:bestS (progsW awP) (objsW awO) (startW awP awO)=some [2,1]:=by kernel_rfl
theorem aw_valid:validD awL [2,1]=true:=by
 rw [validD_eq (pure_nodup aw_ids) aw_P aw_O]
 kernel_rfl
theorem aw_chk:firstChk awL=0:=by kernel_rfl
theorem awake_ok(w:World):Ret Tryz.prog 10 [] w fun u w'=>u=.bool true∧Below w.heap.size w w':=by
 refine ent10 _ _ ?_
 simp (disch:=first|omega|exact zF rfl|exact zG rfl|exact fun h=>h|(simp only[zA,zB,zC,zD,bytesW];omega)) only[go_sem]
 refine bdW_built (cells:=f1.enc.toArray) (by kernel_rfl) ?_
 simp (disch:=first|omega|exact zF rfl|exact zG rfl|exact fun h=>h|(simp only[zA,zB,zC,zD,bytesW];omega)) only[go_sem]
 refine bdW_built (cells:=f2.enc.toArray) (by kernel_rfl) ?_
 simp (disch:=first|omega|exact zF rfl|exact zG rfl|exact fun h=>h|(simp only[zA,zB,zC,zD,bytesW];omega)) only[go_sem]
 refine bsW_cells (cells:=(awL.flatMap OpT.enc).toArray) ty22mkI (by decide) (by decide) (by kernel_rfl) ?_
 have hA:RdS (w.alloc (.cells (awL.flatMap OpT.enc).toArray 52)) 11 OpT.enc (.slice (some ⟨w.heap.size,0,none⟩) 2 2) awL:=rd_new (n:=2) (cs:=(awL.flatMap OpT.enc).toArray) rfl
 have s1:=(St.start (W0:=w)).alloc' (.cells (awL.flatMap OpT.enc).toArray 52)
 generalize w.alloc (.cells (awL.flatMap OpT.enc).toArray 52)=w1 at hA s1 ⊢
 simp (disch:=first|omega|exact zF rfl|exact zG rfl|exact fun h=>h|(simp only[zA,zB,zC,zD,bytesW];omega)) only[go_sem]
 refine Ret.mono (seq_ok _ awL 99 w1 hA aw_wf aw_ids aw_kind aw_O) ?_
 rintro _ w2 ⟨iv,ok,n,e,rfl,b2,hV⟩
 obtain ⟨x,accP,hP,hS,rfl,hr⟩:=hV.good (by decide) aw_chk
 obtain rfl:=Cut.byProc_unique (pure_nodup aw_ids) hP aw_P
 obtain ⟨r,hb,hbl⟩:=aw_bfs
 have hS2:=SeqR.all (most:=min 99 32768) hb (by rw [hbl]; decide)
 rw [hbl,aw_best] at hS2
 obtain ⟨rfl,rfl,rfl⟩:=hS.one hS2
 have hr:RdS w2 1 intE iv [2,1]:=hr
 rw [show (some [2,1]:Option (List Int)).isSome=true from rfl]
 obtain ⟨ia,ic,rfl,_⟩:=hr.form
 simp (disch:=first|omega|exact zF rfl|exact zG rfl|exact fun h=>h|(simp only[zA,zB,zC,zD,bytesW];omega)) only[go_sem,c10S1]
 refine bsW_ones ty25mkI rfl rfl (by decide) (by decide) (by intro u hu; simp only [List.mem_cons,List.not_mem_nil,or_false] at hu; rcases hu with rfl | rfl <;> rfl) ?_
 have s2:=s1.call b2
 have s3:=s2.alloc' (.cells #[.int .i64 2,.int .i64 1] 3)
 have hB:RdS (w2.alloc (.cells #[.int .i64 2,.int .i64 1] 3)) 1 intE (.slice (some ⟨w2.heap.size,0,none⟩) 2 2) [2,1]:=rd_new (n:=2) (cs:=#[.int .i64 2,.int .i64 1]) rfl
 have b3:Below w2.heap.size w2 (w2.alloc (.cells #[.int .i64 2,.int .i64 1] 3)):=(Below.refl _ _).alloc (Nat.le_refl _) _
 simp (disch:=first|omega|exact zF rfl|exact zG rfl|exact fun h=>h|(simp only[zA,zB,zC,zD,bytesW];omega)) only[go_sem,c10S1]
 generalize w2.alloc (.cells #[.int .i64 2,.int .i64 1] 3)=w3 at s3 hB b3 ⊢
 refine Ret.mono (ints_ok _ _ [2,1] [2,1] w3 (hr.below b3 (by decide)) hB (by decide)) ?_
 rintro _ w4 ⟨rfl,b4⟩
 have s4:=s3.call b4
 rw [decide_eq_true rfl]
 simp (disch:=first|omega|exact zF rfl|exact zG rfl|exact fun h=>h|(simp only[zA,zB,zC,zD,bytesW];omega)) only[go_sem,c10S1]
 refine Ret.mono (validD_ok _ _ awL [2,1] w4 (((hA.below b2 (by decide)).below b3 (by decide)).below b4 (by decide)) ((hr.below b3 (by decide)).below b4 (by decide)) (by decide) (by decide) aw_ids aw_kind aw_wf) ?_
 rintro _ w5 ⟨rfl,b5⟩
 rw [aw_valid]
 simp (disch:=first|omega|exact zF rfl|exact zG rfl|exact fun h=>h|(simp only[zA,zB,zC,zD,bytesW];omega)) only[go_sem,c10S1]
 exact (s4.call b5).bel
open Go Go.Ann Go.RowKit Go.WideShapes
theorem ofProc_snoc(x:Int){l:List OpT}{k:Nat}(h:k<l.length):Cut.ofProc x (l.take (k+1))=Cut.ofProc x (l.take k)++(if l[k].Proc=x then [l[k]] else []):=by
 rw [List.take_succ_eq_append_getElem h]
 unfold Cut.ofProc
 rw [List.filter_append]
 congr 1
 by_cases e:l[k].Proc=x <;> simp [e]
open Go Go.Ann Go.RowKit Go.WideShapes
theorem keys_len{acc:List Seg}{f:Seg→List Int}(h:∀ q∈acc,Ok64 (f q)∧(f q).length≤1000):(acc.flatMap fun q=>txt (f q)).length≤10010 * acc.length:=by
 have:=txts_len (U:=acc.map fun q=>(Value.int .i64 0,f q)) fun p hp=>by
  obtain ⟨q,hq,rfl⟩:=List.mem_map.1 hp
  exact h q hq
 rw [List.flatMap_map,List.length_map] at this
 exact this
theorem skey_ok(pv dv lv ov:Value)(d:List Nat)(S:List OVS)(acc:List Seg)(w:World)(hd:RdS w 1 intE dv (zN d))(hS:StL w lv S)(hr:RdR w 3 Cut.segR ov acc)
  (hacc:∀ q∈acc,∃ o r,q.ops=o::r∧o.Kind=q.kind∧o.Object=q.obj) (hl:d.length≤1000) (hSl:S.length≤1000) (hal:acc.length≤1000) (hok:∀ q∈acc,Ok64 (findD (osP S) q.obj q.kind)∧(findD (osP S) q.obj q.kind).length≤1000) :
  Ret Tryz.prog 34 [pv,.agg #[dv,lv],ov] w fun u w'=>u=.string (ofL (keyD acc d (osP S)))∧Below w.heap.size w w':=by
 obtain ⟨a,c,rfl,_⟩:=hd.form
 obtain ⟨la,lc,rfl,_⟩:=hS.top.form
 obtain ⟨oa,oc,rfl,_⟩:=hr.form
 rw [zN_len] at hd ⊢
 refine ent34 _ _ _ _ _ ?_
 simp (disch:=first|omega|exact zF rfl|exact zG rfl|exact fun h=>h|(simp only[zA,zB,zC,zD,bytesW];omega)) only[go_sem,c34L1,c34S4]
 have s1:=(St.start (W0:=w)).box #[.slice a d.length c,.slice la S.length lc] 70
 generalize hz:w.heap.size=z at s1 ⊢
 generalize w.alloc (.cells #[.slice a d.length c,.slice la S.length lc] 70)=w1 at s1 ⊢
 refine W_loopU (fun k:Nat=>[(7,.string (ofL ((d.take k).map u8))),(8,.int .i64 k)]) (fun k w'=>St w w' (fun _=>False) [.blk z #[.slice a d.length c,.slice la S.length lc] 70] []∧k≤d.length) (fun k=>d.length - k) 0 (by simp [ovr,lk]) ⟨s1,Nat.zero_le _⟩ ?_
 rintro k w2 ⟨s2,hk⟩
 have r2:=s2.rules 0 rfl
 by_cases hlt:k<d.length
 ·have hlt':(k:Int)<d.length:=by omega
  obtain ⟨p,rfl⟩:=hd.ptr (by rw [zN_len]; omega)
  have ek:=zN_cell (hd.below s2.bel (by decide)) hlt
  simp (disch:=first|omega|exact zF rfl|exact zG rfl|exact fun h=>h|(simp only[zA,zB,zC,zD,bytesW];omega)) only[go_sem,c34L0,c34L1,c34S4,c34L0,hlt',r2,ek]
  rw [wrap_u8]
  refine ⟨by omega,bsW_ones ty120mkI rfl rfl (by decide) (by decide) (byte_one _) ?_⟩
  have s3:=s2.alloc' (.cells #[byteC (u8 (d.getD k 0))] 5)
  have hx:Rd (w2.alloc (.cells #[byteC (u8 (d.getD k 0))] 5)) 1 (.slice (some ⟨w2.heap.size,0,none⟩) 1 1) 1 [byteC (u8 (d.getD k 0))]:=rd_new (n:=1) (cs:=#[byteC (u8 (d.getD k 0))]) rfl
  simp (disch:=first|omega|exact zF rfl|exact zG rfl|exact fun h=>h|(simp only[zA,zB,zC,zD,bytesW];omega)) only[go_sem,c34L0,c34L1,c34S4]
  refine ⟨[u8 (d.getD k 0)],rfl,fun j b hb=>?_,?_⟩
  ·obtain ⟨_,a',c',e,_,hp⟩:=hx
   cases e
   obtain ⟨q,hq,hc⟩:=hp (by decide)
   cases hq
   match j,hb with
   | 0,hb =>
    cases hb
    exact hc 0 _ rfl
  simp (disch:=first|omega|exact zF rfl|exact zG rfl|exact fun h=>h|(simp only[zA,zB,zC,zD,bytesW];omega)) only[go_sem,c34L0,c34L1,c34S4]
  refine ⟨by simp only [List.length_map,List.length_take]; omega,⟨by omega,by omega⟩,k+1,?_,⟨s3,by omega⟩,by omega⟩
  rw [List.take_succ_eq_append_getElem hlt,List.map_append]
  simp only [List.map_cons,List.map_nil,List.getD_eq_getElem?_getD,List.getElem?_eq_getElem hlt,Option.getD_some]
  rfl
 ·have hlt':¬ (k:Int)<d.length:=by omega
  obtain rfl:k=d.length:=by omega
  rw [List.take_length]
  simp (disch:=first|omega|exact zF rfl|exact zG rfl|exact fun h=>h|(simp only[zA,zB,zC,zD,bytesW];omega)) only[go_sem,c34L0,c34S5,c34L0,hlt',r2]
  refine W_loopU (fun k:Nat=>[(7,.string (ofL (d.map u8++(acc.take k).flatMap fun q=>txt (findD (osP S) q.obj q.kind)))),(9,.int .i64 k)]) (fun k w'=>St w w' (fun _=>False) [.blk z #[.slice a d.length c,.slice la S.length lc] 70] []∧k≤acc.length) (fun k=>acc.length - k) 0 (by simp [ovr,lk]) ⟨s2,Nat.zero_le _⟩ ?_
  rintro i w3 ⟨s3,hi⟩
  by_cases hit:i<acc.length
  ·have hit':(i:Int)<acc.length:=by omega
   obtain ⟨p,rfl⟩:=hr.ptr (by omega)
   have s4:=s3.drew
   have hr8:=hr.below s4.bel (by decide) fun x c=>Cut.segR.below s4.bel x c
   obtain ⟨cc8,hcl8,⟨va8,rfl,hva8,hla8⟩,hld8,ea8⟩:=hr8.elt (by decide) hit
   have hXm:acc[i]∈acc:=List.getElem_mem hit
   have htk:acc.take (i+1)=acc.take i++[acc[i]]:=List.take_succ_eq_append_getElem hit
   generalize acc[i]=X at hva8 hla8 hld8 ea8 hXm htk
   obtain ⟨o,r,ho,hok1,hok2⟩:=hacc X hXm
   obtain ⟨oa8,oc8,rfl,_⟩:=hva8.form
   have hpos:0<X.ops.length:=by rw [ho]; simp
   obtain ⟨op8,rfl⟩:=hva8.ptr hpos
   have co:=hva8.at OpT.len hpos
   have e0:X.ops[0]=o:=by simp [ho]
   rw [e0] at co
   have co1:cellsO w3 op8 0 11=some o.enc:=co
   have r4:=s4.rules 0 rfl
   have lp:p.block<w3.heap.size:=by
    have:=World.block_lt_of_cell? w3.drew _ ea8.1
    rwa [add_block] at this
   have lz:=(s3.low 0 rfl).2
   obtain ⟨q1,q2⟩:=hok X hXm
   simp (disch:=first|omega|exact zF rfl|exact zG rfl|exact fun h=>h|(simp only[zA,zB,zC,zD,bytesW];omega)) only[go_sem,c34L0,c34L1,c34S5,c34L1,hit']
   refine c34draw0 (Chg (fun _=>False) _) (Chg.refl _ _) ?_
   simp (disch:=first|omega|exact zF rfl|exact zG rfl|exact fun h=>h|(simp only[zA,zB,zC,zD,bytesW];omega)) only[go_sem,c34L0,c34L1,c34S5,c34D0,r4,ea8,co1]
   refine ⟨⟨by omega,by omega⟩,by omega,Ret.mono (dfind_ok _ S o _ (hS.below s4.bel) hSl) ?_⟩
   rintro _ w5 ⟨⟨sv,rfl,hsv,_⟩,b5⟩
   rw [hok1,hok2] at hsv
   obtain ⟨sa,sc,rfl,_⟩:=hsv.form
   have s5:=s4.call b5
   simp (disch:=first|omega|exact zF rfl|exact zG rfl|exact fun h=>h|(simp only[zA,zB,zC,zD,bytesW];omega)) only[go_sem,c34L0,c34L1,c34S5,c34D0]
   refine Ret.mono (rtext_ok _ _ w5 hsv q1 (by omega)) ?_
   rintro _ w6 ⟨rfl,b6⟩
   have hb:=keys_len (acc:=acc.take i) (f:=fun q=>findD (osP S) q.obj q.kind) fun q hq=>hok q (List.mem_of_mem_take hq)
   rw [List.length_take] at hb
   have hv:=keys_len (acc:=[X]) (f:=fun q=>findD (osP S) q.obj q.kind) fun q hq=>by rw [List.mem_singleton] at hq; subst hq; exact ⟨q1,q2⟩
   simp only [List.flatMap_cons,List.flatMap_nil,List.append_nil,List.length_singleton] at hv
   simp (disch:=first|omega|exact zF rfl|exact zG rfl|exact fun h=>h|(simp only[zA,zB,zC,zD,bytesW];omega)) only[go_sem,c34L0,c34L1,c34S5]
   refine ⟨?_,⟨by omega,by omega⟩,i+1,?_,⟨s5.call b6,by omega⟩,by omega⟩
   ·simp only [List.length_append,List.length_map]; omega
   ·rw [htk,List.flatMap_append,List.append_assoc]; simp
  ·have hit':¬ (i:Int)<acc.length:=by omega
   obtain rfl:i=acc.length:=by omega
   rw [List.take_length]
   simp (disch:=first|omega|exact zF rfl|exact zG rfl|exact fun h=>h|(simp only[zA,zB,zC,zD,bytesW];omega)) only[go_sem,c34L0,c34L1,c34S4,c34S5,c34L1,hit']
   exact ⟨rfl,hz ▸ s3.bel⟩
open Go Go.Ann Go.RowKit Go.WideShapes
structure Dq where
 dv:Value
 lv:Value
 S:List OVS
 sp:Sp
def dqE(q:Dq):List Value:=[q.dv,q.lv]
def Inv.qs(C:List Dq):Inv:=⟨fun w=>∀ c∈C,RdS w 1 intE c.dv (zN c.sp.done)∧StL w c.lv c.S,fun k=>∃ c∈C,slFoot c.dv k∨StL.foot c.lv c.S k,fun w w' h hk c hc=>⟨RdS.loc (h c hc).1 fun k hf=>hk k ⟨c,hc,.inl hf⟩,(h c hc).2.loc fun k hf=>hk k ⟨c,hc,.inr hf⟩⟩⟩
theorem dq_get{C:List Dq}{i:Nat}(hi:i<C.length):(C.flatMap dqE)[i * 2]?=some C[i].dv∧(C.flatMap dqE)[i * 2+1]?=some C[i].lv:=by
 induction C generalizing i with
 | nil=>simp at hi
 | cons c C ih =>
  cases i with
  | zero=>exact ⟨rfl,rfl⟩
  | succ i =>
   obtain ⟨h1,h2⟩:=ih (i:=i) (by simpa using hi)
   have e1:(i+1) * 2=i * 2+1+1:=by omega
   refine ⟨?_,?_⟩
   ·rw [List.flatMap_cons,e1]
    simpa [dqE] using h1
   ·rw [List.flatMap_cons,e1]
    simpa [dqE] using h2
theorem qs_more{W0 w:World}{F:Nat→Prop}{L:List Res}{I:List Inv}{C:List Dq}{dv lv:Value}{S:List OVS}{sp:Sp}{nn:Nat}(hl:sp.done.length=nn)
  (h:St W0 w F (.row dv 3 1 nn ((zN sp.done).flatMap intE)::L) (Inv.os lv S::Inv.qs C::I)):St W0 w F L (Inv.qs (C++[⟨dv,lv,S,sp⟩])::I):=by
 have hd:RdS w 1 intE dv (zN sp.done):=RdS.of_own' (h.row 0 rfl) (zN sp.done) (by rw [zN_len,hl]) rfl
 have h1:=h.seal (Inv.rd 1 intE dv (zN sp.done)) hd fun k hk=>slFoot_own hk
 have hS:StL w lv S:=h1.get 1 rfl
 have hC:=h1.get 2 rfl
 refine (St.keepU h1 (Inv.qs (C++[⟨dv,lv,S,sp⟩])) (fun c hc=>?_) fun k hk=>?_).inv_sub fun a ha=>?_
 ·rcases List.mem_append.1 hc with hc | hc
  ·exact hC c hc
  ·rw [List.mem_singleton] at hc
   subst hc
   exact ⟨hd,hS⟩
 ·obtain ⟨c,hc,hk⟩:=hk
  rcases List.mem_append.1 hc with hc | hc
  ·exact ⟨Inv.qs C,by simp,c,hc,hk⟩
  ·rw [List.mem_singleton] at hc
   subst hc
   rcases hk with hk | hk
   ·exact ⟨Inv.rd 1 intE dv (zN sp.done),by simp,hk⟩
   ·exact ⟨Inv.os lv S,by simp,hk⟩
 ·rcases List.mem_cons.1 ha with rfl | ha
  ·exact List.mem_cons_self
  ·simp [ha]
def trueK(_:Nat):Value:=.bool true
structure QOk(P:List (List OpT))(accO:List Seg)(m:Nat)(q:Dq):Prop where
 st:StD accO (osP q.S) q.sp.st
 ok:SpOk P accO 102 q.sp
 le:q.S.length+remP P q.sp.done≤m
theorem dspots_ok(v:Value)(l:List OpT)(most:Int)(w:World)(h:RdS w 11 OpT.enc v l)(hl:l.length≤60)(h0:0≤most)(hm:most≤32768)(hn:(l.map OpT.ID).Nodup)(hk:∀ a∈l,∀ b∈l,a.Object=b.Object→a.Kind=b.Kind)(hw:∀ o∈l,o.wf){accO:List Seg}(hO:Cut.ByObj l accO) :
  Ret Tryz.prog 13 [v,.int .i64 most] w fun u w'=>(∃ accP r,Cut.ByProc l accP∧BfsR (progsW accP) (objsW accO) most [startW accP accO] 0 r∧u=.int .i64 r.length)∧Below w.heap.size w w':=by
 obtain ⟨a,c,rfl,_⟩:=h.form
 refine ent13 _ _ _ _ ?_
 simp (disch:=first|omega|exact zF rfl|exact zG rfl|exact fun h=>h|(simp only[zA,zB,zC,zD,bytesW];omega)) only[go_sem,c13S1,c13S2,c13S3,c13S5,c13S6,c13S7,c13L0,c13S9,c13L1,c13S11,c13S12,c13S13]
 refine Ret.mono (Cut.rprogramsN_ok _ l w h (by omega)) ?_
 rintro pv w1 ⟨⟨accP,vs,hP,hpr⟩,b1⟩
 have cx:=ctx_of hP hO hw hk (by omega)
 have hpg1:=PgR.of hpr
 obtain ⟨pa,pc,rfl⟩:=hpg1.form
 have h1:=h.below b1 (by decide)
 simp (disch:=first|omega|exact zF rfl|exact zG rfl|exact fun h=>h|(simp only[zA,zB,zC,zD,bytesW];omega)) only[go_sem,c13S1,c13S2,c13S3,c13S5,c13S6,c13S7,c13L0,c13S9,c13L1,c13S11,c13S12,c13S14]
 refine Ret.mono (Cut.robjects_ok _ l w1 h1 (by omega)) ?_
 rintro ov w2 ⟨⟨accO2,hO2,hr2⟩,b2⟩
 obtain rfl:=Cut.byObj_unique (pure_nodup hn) hO2 hO
 have b12:=Below.next b1 b2
 have hpg:=hpg1.below b2
 obtain ⟨oa,oc,rfl,_⟩:=hr2.form
 have hPl:(progsW accP).length=accP.length:=by simp [progsW]
 have hpl2:=cx.pl
 have hal:=byObj_len hO
 have hbl:=byProc_len hP
 have hrem:=rem_start (accO:=accO2) hP hn
 have hacc:∀ q∈accO2,∃ o r,q.ops=o::r∧o.Kind=q.kind∧o.Object=q.obj:=fun q hq=>by
  obtain ⟨o,r,e,e2⟩:=hO.kind q hq
  exact ⟨o,r,e,e2.symm,((byObj_mem hO hq o).1 (by rw [e]; exact List.mem_cons_self)).2⟩
 have hfin:∀ {s:Sp} {S:List OVS},SpOk (progsW accP) accO2 102 s→StD accO2 (osP S) s.st→∀ q∈accO2,Ok64 (findD (osP S) q.obj q.kind)∧(findD (osP S) q.obj q.kind).length≤1000:=fun {s S} hs hd q hq=>by
  obtain ⟨x,hx,rfl⟩:=List.mem_iff_getElem.1 hq
  rw [hd x hx]
  obtain ⟨a1,a2,_⟩:=hs.ok x hx
  exact ⟨a1,by omega⟩
 simp (disch:=first|omega|exact zF rfl|exact zG rfl|exact fun h=>h|(simp only[zA,zB,zC,zD,bytesW];omega)) only[go_sem,c13S1,c13S2,c13S3,c13S5,c13S6,c13S7,c13L0,c13S9,c13L1,c13S11,c13S13,c13S14]
 refine msW_one ty25mkI rfl (by omega) (by omega) (by omega) (by omega) ?_
 rw [Int.toNat_natCast]
 have hz:Blk (w2.alloc (.cells (zerosA (.int .i64 0) (progsW accP).length) 3)) w2.heap.size (zerosA (.int .i64 0) (progsW accP).length) 3:=Blk.new
 have ez:(zerosA (.int .i64 0) (progsW accP).length).toList=(zN (List.replicate (progsW accP).length 0)).flatMap intE:=by
  unfold zerosA zN
  rw [List.map_replicate]
  generalize (progsW accP).length=q
  induction q with
  | zero=>rfl
  | succ q ih=>simp only [List.replicate_succ,List.flatMap_cons,← ih]; rfl
 have ho:=hz.own (n:=(progsW accP).length) (cap:=(progsW accP).length) (size:=1) (xs:=(zN (List.replicate (progsW accP).length 0)).flatMap intE) (base:=w2.heap.size) (Nat.le_refl _) (Nat.le_refl _) (by have:maxLen=9223372036854775807:=(by decide); omega) (by simp [zerosA]) (by rw [ez,List.take_of_length_le]; rw [flat_all (sz:=1) (fun _=>rfl),zN_len,List.length_replicate]; exact Nat.le_refl _)
 have s2:=St.keepU ((St.start (W0:=w2)).add ((Below.refl _ w2).alloc (Nat.le_refl _) (.cells (zerosA (.int .i64 0) (progsW accP).length) 3)) (.row (.slice (some ⟨w2.heap.size,0,none⟩) (progsW accP).length (progsW accP).length) 3 1 (progsW accP).length ((zN (List.replicate (progsW accP).length 0)).flatMap intE)) ho fun k hk=>(ho.lt k hk).1) (Inv.os (.slice none 0 0) []) StL.nil (fun k hk=>by
  rcases hk with hk | ⟨p,hp,_⟩
  ·exact absurd hk slFoot_none
  ·cases hp)
 have hst:(startW accP accO2).done=List.replicate (progsW accP).length 0:=by simp [startW,progsW]
 have hsl:(startW accP accO2).done.length=(progsW accP).length:=by rw [hst,List.length_replicate]
 rw [← hst] at s2
 generalize w2.alloc (.cells (zerosA (.int .i64 0) (progsW accP).length) 3)=w3 at s2 ⊢
 generalize w2.heap.size=g at s2 ⊢
 clear ho ez hz
 have hsok:=start_ok (accP:=accP) (accO:=accO2) (M:=102) (by omega)
 have hstd:StD accO2 (osP []) (startW accP accO2).st:=StD.start
 have s3:=St.keepU s2 (Inv.qs []) (fun c hc=>by cases hc) (fun k hk=>by obtain ⟨c,hc,_⟩:=hk; cases hc)
 simp (disch:=first|omega|exact zF rfl|exact zG rfl|exact fun h=>h|(simp only[zA,zB,zC,zD,bytesW];omega)) only[go_sem,c13S1,c13S2,c13S3,c13S5,c13S6,c13S7,c13L0,c13S9,c13L1,c13S11,c13S13,c13S14]
 generalize hn0:(progsW accP).length=n at *
 generalize hs0:startW accP accO2=s0 at *
 refine bdW_built (cells:=#[.slice (some ⟨g,0,none⟩) n n,.slice none 0 0]) (by kernel_rfl) ?_
 simp (disch:=first|omega|exact zF rfl|exact zG rfl|exact fun h=>h|(simp only[zA,zB,zC,zD,bytesW];omega)) only[go_sem,c13S1,c13S2,c13S3,c13S5,c13S6,c13S7,c13L0,c13S9,c13L1,c13S11,c13S13,c13S14]
 refine bsW_agg ty71mkI rfl (by decide) (by decide) ?_
 have s4:St w2 (w3.alloc (.cells #[.slice (some ⟨g,0,none⟩) n n,.slice none 0 0] 70)) (fun _=>False) (.row (.slice (some ⟨w3.heap.size,0,none⟩) 1 1) 70 2 1 [.slice (some ⟨g,0,none⟩) n n,.slice none 0 0]::[.row (.slice (some ⟨g,0,none⟩) n n) 3 1 n ((zN s0.done).flatMap intE)]) [Inv.qs [],Inv.os (.slice none 0 0) []]:=by
  have hB:Blk (w3.alloc (.cells #[.slice (some ⟨g,0,none⟩) n n,.slice none 0 0] 70)) w3.heap.size #[.slice (some ⟨g,0,none⟩) n n,.slice none 0 0] 70:=Blk.new
  have hB':=hB.own (n:=1) (cap:=1) (size:=2) (xs:=[.slice (some ⟨g,0,none⟩) n n,.slice none 0 0]) (base:=w3.heap.size) (Nat.le_refl _) (Nat.le_refl _) (by decide) (by simp) (by simp)
  exact s3.add ((Below.refl _ w3).alloc (Nat.le_refl _) _) (.row (.slice (some ⟨w3.heap.size,0,none⟩) 1 1) 70 2 1 [.slice (some ⟨g,0,none⟩) n n,.slice none 0 0]) (own_mono hB' s3.size) fun k hk=>(hB'.lt k hk).1
 generalize w3.alloc (.cells #[.slice (some ⟨g,0,none⟩) n n,.slice none 0 0] 70)=w4 at s4 ⊢
 generalize w3.heap.size=gq at s4 ⊢
 simp (disch:=first|omega|exact zF rfl|exact zG rfl|exact fun h=>h|(simp only[zA,zB,zC,zD,bytesW];omega)) only[go_sem,c13S1,c13S2,c13S3,c13S5,c13S6,c13S7,c13L0,c13S9,c13L1,c13S11,c13S13,c13S14]
 refine mmG (ek:=strE) (ev:=trueK) ?_
 have s5:=s4.lay (mapG strE trueK [] 0)
 generalize w4.alloc (mapG strE trueK [] 0)=w5 at s5 ⊢
 generalize w4.heap.size=m at s5 ⊢
 have c50:=(own_cell (s5.row 1 rfl)).1 0 _ rfl
 have c51:=(own_cell (s5.row 1 rfl)).1 1 _ rfl
 simp (disch:=first|omega|exact zF rfl|exact zG rfl|exact fun h=>h|(simp only[zA,zB,zC,zD,bytesW];omega)) only[go_sem,c13S1,c13S2,c13S3,c13S5,c13S6,c13S7,c13L0,c13S9,c13L1,c13S11,c13S13,c13S14,c50,c51]
 have hd5:RdS w5 1 intE (.slice (some ⟨g,0,none⟩) n n) (zN s0.done):=RdS.of_own' (s5.row 2 rfl) _ (by rw [zN_len,hsl]) rfl
 refine Ret.mono (skey_ok _ _ _ _ s0.done [] accO2 w5 hd5 StL.nil (hr2.below s5.bel (by decide) fun x c=>Cut.segR.below s5.bel x c) hacc (by omega) (by simp) (by omega) (hfin hsok hstd)) ?_
 rintro _ w6 ⟨rfl,b6⟩
 rw [key_eq hstd hsok.sl]
 have s6:=s5.call b6
 have e0:spT ⟨s0.done,s0.st⟩=spT s0:=rfl
 rw [e0]
 simp (disch:=first|omega|exact zF rfl|exact zG rfl|exact fun h=>h|(simp only[zA,zB,zC,zD,bytesW];omega)) only[go_sem,c13S1,c13S2,c13S3,c13S5,c13S6,c13S7,c13L0,c13S9,c13L1,c13S11,c13S13,c13S14]
 refine muG_map (ev:=trueK) keyT_s Tryz.underlying73 same_str (s6.obj 0 rfl) (spT s0) 0 ?_
 have s7:=s6.putObj 0 rfl (mapG strE trueK (metL [s0] 0) 1)
 simp only [List.set_cons_zero] at s7
 have eset:mapG strE trueK (setM (spT s0) 0 0 []) (if (getM (spT s0) ([]:List (List UInt8 × Nat × Nat))).isSome=true then 0 else 0+1)=mapG strE trueK (metL [s0] 0) 1:=rfl
 rw [eset]
 generalize w6.putObj m (mapG strE trueK (metL [s0] 0) 1)=w7 at s7 ⊢
 have s8:=qs_more hsl ((s7.perm (L':=[.row (.slice (some ⟨g,0,none⟩) n n) 3 1 n ((zN s0.done).flatMap intE),.obj m (mapG strE trueK (metL [s0] 0) 1),.row (.slice (some ⟨gq,0,none⟩) 1 1) 70 2 1 [.slice (some ⟨g,0,none⟩) n n,.slice none 0 0]]) (by
  exact List.perm_append_comm (l₁:=[_]) (l₂:=[_,_])) |>.inv_sub (I':=[Inv.os (.slice none 0 0) [],Inv.qs []]) fun a ha=>by
   simp only [List.mem_cons,List.not_mem_nil,or_false] at ha ⊢
   rcases ha with rfl | rfl
   ·exact .inr rfl
   ·exact .inl rfl))
 clear s2 s3 s4 s5 s6 s7 hd5 b6 c50 c51 eset
 have q0:QOk (progsW accP) accO2 100 ⟨.slice (some ⟨g,0,none⟩) n n,.slice none 0 0,[],s0⟩:=⟨hstd,hsok,by simp only [List.length_nil]; omega⟩
 have hPn:∀ w',Below w2.heap.size w2 w'→PgR w' (.slice pa n pc) (progsW accP) vs:=fun w' hb=>hpg.below hb
 simp (disch:=first|omega|exact zF rfl|exact zG rfl|exact fun h=>h|(simp only[zA,zB,zC,zD,bytesW];omega)) only[go_sem,c13S1,c13S2,c13S3,c13S5,c13S6,c13S7,c13L0,c13S9,c13S12,c13S13,c13S14]
 refine W_loopU (fun z:Nat × Value × List Dq=>[(7,z.2.1),(9,.int .i64 z.1)]) (fun z w'=>St w2 w' (fun _=>False) [.obj m (mapG strE trueK (metL (z.2.2.map Dq.sp) 0) z.2.2.length),.row z.2.1 70 2 z.2.2.length (z.2.2.flatMap dqE)] [Inv.qs z.2.2]∧z.1≤z.2.2.length∧(∀ q∈z.2.2,QOk (progsW accP) accO2 100 q)∧z.1≤32769∧z.2.2.length≤40000∧∀ r,BfsR (progsW accP) (objsW accO2) most (z.2.2.map Dq.sp) z.1 r→BfsR (progsW accP) (objsW accO2) most [s0] 0 r) (fun z=>50000 - z.1) (0,.slice (some ⟨gq,0,none⟩) 1 1,[⟨.slice (some ⟨g,0,none⟩) n n,.slice none 0 0,[],s0⟩]) rfl ⟨s8,Nat.zero_le _,fun q hq=>by rw [List.mem_singleton] at hq; subst hq; exact q0,Nat.zero_le _,by simp,fun r h=>h⟩ ?_
 clear s8 q0
 rintro ⟨i,uv,C⟩ w8 ⟨s8,hiC,hq,hi32,hCl,hbf⟩
 simp only at s8 hiC hq hi32 hCl hbf
 obtain ⟨ua,uc,rfl,_⟩:=own_slice (s8.row 1 rfl)
 by_cases hit:i<C.length
 ·have hit':(i:Int)<C.length:=by omega
  by_cases hful:(C.length:Int)≤most
  ·simp (disch:=first|omega|exact zF rfl|exact zG rfl|exact fun h=>h|(simp only[zA,zB,zC,zD,bytesW];omega)) only[go_sem,c13S1,c13S2,c13S3,c13S5,c13S6,c13S7,c13L1,c13S11,c13S12,c13S13,c13S14,c13L1,hit',hful]
   have hsi:(C.map Dq.sp)[i]'(by simpa using hit)=C[i].sp:=by simp
   generalize hci:C[i]=ci at hsi
   have hcm:ci∈C:=by rw [← hci]; exact List.getElem_mem hit
   obtain ⟨hstdi,hoki,hlei⟩:=hq ci hcm
   refine W_loopU (fun y:Nat × Value × List Dq=>[(7,y.2.1),(10,.int .i64 y.1)]) (fun y w'=>St w2 w' (fun _=>False) [.obj m (mapG strE trueK (metL (y.2.2.map Dq.sp) 0) y.2.2.length),.row y.2.1 70 2 y.2.2.length (y.2.2.flatMap dqE)] [Inv.qs y.2.2]∧y.1≤n∧(∀ q∈y.2.2,QOk (progsW accP) accO2 100 q)∧y.2.2.length≤C.length+y.1∧(∃ t,y.2.2=C++t)∧y.2.2.map Dq.sp=((List.range y.1).filterMap (mvP (progsW accP) (objsW accO2) ci.sp)).foldl (fun L m=>addW L m.2) (C.map Dq.sp)) (fun y=>n - y.1) (0,.slice ua C.length uc,C) rfl ⟨s8,Nat.zero_le _,hq,by simp,⟨[],by simp⟩,rfl⟩ ?_
   rintro ⟨k,uv,E⟩ w9 ⟨s9,hkn,hqE,hEl,⟨tE,hE⟩,hfold⟩
   simp only at s9 hkn hqE hEl hE hfold
   have hiE:i<E.length:=by rw [hE,List.length_append]; omega
   have hEi:E[i]=ci:=by simp only [hE,List.getElem_append_left hit,hci]
   have hiE':(i:Int)<E.length:=by omega
   obtain ⟨ea,ec,rfl,_⟩:=own_slice (s9.row 1 rfl)
   obtain ⟨eg,rfl⟩:=own_ptr (s9.row 1 rfl) (by omega)
   by_cases hkt:k<n
   ·have hkt':(k:Int)<n:=by omega
    have hkP:k<(progsW accP).length:=by omega
    have hdl:ci.sp.done.length=n:=by rw [hoki.dl,hn0]
    have hmk:=mvsK_succ (progsW accP) (objsW accO2) ci.sp k
    have hle:=hoki.le k
    have hpi:=cx.pp k
    have hPi:(progsW accP).getD k []=(progsW accP)[k]:=by simp [List.getD_eq_getElem?_getD,List.getElem?_eq_getElem hkP]
    rw [hPi] at hle hpi
    have hop:opAt (progsW accP) ci.sp.done k=(progsW accP)[k][ci.sp.done.getD k 0]?:=by
     unfold opAt
     rw [List.getElem?_eq_getElem hkP,List.getElem?_eq_getElem (by omega)]
     simp [List.getD_eq_getElem?_getD,List.getElem?_eq_getElem (show k<ci.sp.done.length by omega)]
    obtain ⟨pp,rfl⟩:=hpg.ptr (by omega)
    subst hn0
    obtain ⟨ra,rc,rr⟩:=PgR.atV hpg hkP
    have hc9:RdS w9 1 intE ci.dv (zN ci.sp.done)∧StL w9 ci.lv ci.S:=by
     have:=s9.get 0 rfl E[i] (List.getElem_mem hiE)
     rwa [hEi] at this
    obtain ⟨d1,d2⟩:=dq_get hiE
    rw [hEi] at d1 d2
    have s10:=s9.drew
    obtain ⟨hd10,hS10⟩:RdS w9.drew 1 intE ci.dv (zN ci.sp.done)∧StL w9.drew ci.lv ci.S:=by
     have:=s10.get 0 rfl E[i] (List.getElem_mem hiE)
     rwa [hEi] at this
    have x0:=(own_cell (s10.row 1 rfl)).1 (i * 2) _ d1
    obtain ⟨da,dc,hdv,_⟩:=hd10.form
    rw [hdv] at d1 x0 hd10
    obtain ⟨dp,rfl⟩:=hd10.ptr (by rw [zN_len]; omega)
    rw [zN_len] at hdv x0 hd10 d1
    have ed:=zN_cell hd10 (k:=k) (by omega)
    obtain ⟨e1,r1⟩:=rr _ (hPn _ s10.bel)
    have hidl:(k:Int)<ci.sp.done.length:=by omega
    simp (disch:=first|omega|exact zF rfl|exact zG rfl|exact fun h=>h|(simp only[zA,zB,zC,zD,bytesW];omega)) only[go_sem,c13S1,c13S2,c13S3,c13S5,c13L0,c13S9,c13L1,c13S11,c13S12,c13S13,c13S14,c13L0,hkt']
    refine c13draw0 ?_
    by_cases heq:ci.sp.done.getD k 0=(progsW accP)[k].length
    ·have heq':((ci.sp.done.getD k 0:Nat):Int)=(progsW accP)[k].length:=by omega
     have hno:mvP (progsW accP) (objsW accO2) ci.sp k=none:=by unfold mvP; rw [hop,List.getElem?_eq_none (by omega)]
     simp (disch:=first|omega|exact zF rfl|exact zG rfl|exact fun h=>h|(simp only[zA,zB,zC,zD,bytesW];omega)) only[go_sem,c13S1,c13S2,c13S3,c13S5,c13S7,c13L0,c13S9,c13L1,c13S11,c13S12,c13S13,c13S14,c13D0,hkt',x0,ed,e1,heq',hidl,hiE']
     exact ⟨by omega,by omega,by omega,⟨by omega,by omega⟩,(k+1,.slice (some ⟨eg,0,none⟩) E.length ec,E),rfl,⟨s10,by simp only; omega,hqE,by simp only; omega,⟨tE,hE⟩,by simp only; rw [hmk,hno]; simpa using hfold⟩,by simp only; omega⟩
    ·have hlt2:ci.sp.done.getD k 0<(progsW accP)[k].length:=by omega
     have heq':¬ ((ci.sp.done.getD k 0:Nat):Int)=(progsW accP)[k].length:=by omega
     have hlt2':((ci.sp.done.getD k 0:Nat):Int)<(progsW accP)[k].length:=by omega
     simp (disch:=first|omega|exact zF rfl|exact zG rfl|exact fun h=>h|(simp only[zA,zB,zC,zD,bytesW];omega)) only[go_sem,c13S1,c13S2,c13S3,c13S6,c13S7,c13L0,c13S9,c13L1,c13S11,c13S12,c13S13,c13S14,c13D0,hkt',x0,ed,e1,heq',hidl,hiE']
     obtain ⟨rp,rfl⟩:=r1.ptr (by omega)
     have eo:=fun (w':World) (hb:Below w2.heap.size w2 w')=>(rr _ (hPn _ hb)).2.at OpT.len hlt2
     rw [List.getElem?_eq_getElem hlt2] at hop
     have hmem:(progsW accP)[k][ci.sp.done.getD k 0]∈(progsW accP).getD k []:=by rw [hPi]; exact List.getElem_mem hlt2
     generalize (progsW accP)[k][ci.sp.done.getD k 0]=o at eo hop hmem
     refine ⟨by omega,by omega,by omega,?_⟩
     refine c13draw1 (Chg (fun _=>False) _) (Chg.refl _ _) ?_
     have s11:=s10.drew
     have y0:=(own_cell (s11.row 1 rfl)).1 (i * 2) _ d1
     have y1:=(own_cell (s11.row 1 rfl)).1 (i * 2+1) _ d2
     obtain ⟨hd11,hS11⟩:RdS w9.drew.drew 1 intE ci.dv (zN ci.sp.done)∧StL w9.drew.drew ci.lv ci.S:=by
      have:=s11.get 0 rfl E[i] (List.getElem_mem hiE)
      rwa [hEi] at this
     rw [hdv] at hd11
     have ed1:=zN_cell hd11 (k:=k) (by omega)
     have e11:=(rr _ (hPn _ s11.bel)).1
     have eo1:=eo _ s11.bel
     have lpp:pp.block<w9.heap.size:=(hPn _ s9.bel).top.footLt (by decide) ⟨_,_,_,rfl,by omega,rfl⟩
     have leg:eg<w9.heap.size:=(own_lt (s9.row 1 rfl)).2
     obtain ⟨la,lc,hlv,_⟩:=hS11.top.form
     rw [hlv] at y1 hS11
     simp (disch:=first|omega|exact zF rfl|exact zG rfl|exact fun h=>h|(simp only[zA,zB,zC,zD,bytesW];omega)) only[go_sem,c13S1,c13S2,c13S3,c13S6,c13S7,c13L0,c13S9,c13L1,c13S11,c13S12,c13S13,c13S14,c13D1,hkt',y0,y1,ed1,e11,eo1,hidl,hiE',hlt2']
     obtain ⟨hx,hxk⟩:=cx.pr.ob k o hmem
     have hfd:=std_find hstdi hx hxk
     obtain ⟨q1,q2,q3⟩:=hoki.ok _ hx
     refine ⟨by omega,by omega,by omega,by omega,by omega,Ret.mono (dstep_ok _ ci.S o _ hS11 (by omega) (by rw [hfd]; omega) (fun e=>by rw [hfd]; exact q3 (hxk.trans e))) ?_⟩
     rintro _ w12 ⟨⟨lv',okk,rfl,hm⟩,b12'⟩
     rw [hfd] at hm
     have s12:=s11.call b12'
     have hmv:mvP (progsW accP) (objsW accO2) ci.sp k=match stepP (ci.sp.st.getD ((objsW accO2).idxOf o.Object) []) o with
       | none=>none
       | some t=>some (o.ID,⟨ci.sp.done.set k (ci.sp.done.getD k 0+1),ci.sp.st.set ((objsW accO2).idxOf o.Object) t⟩):=by
      unfold mvP
      rw [hop]
      rfl
     cases hst2:stepP (ci.sp.st.getD ((objsW accO2).idxOf o.Object) []) o with
     | none =>
      rw [hst2] at hm hmv
      have hm:okk=false:=hm
      subst hm
      have hmv:mvP (progsW accP) (objsW accO2) ci.sp k=none:=hmv
      simp (disch:=first|omega|exact zF rfl|exact zG rfl|exact fun h=>h|(simp only[zA,zB,zC,zD,bytesW];omega)) only[go_sem,c13S1,c13S2,c13S3,c13S5,c13S7,c13L0,c13S9,c13L1,c13S11,c13S12,c13S13,c13S14]
      exact ⟨Chg.of_below b12',⟨by omega,by omega⟩,(k+1,.slice (some ⟨eg,0,none⟩) E.length ec,E),rfl,⟨s12,by simp only; omega,hqE,by simp only; omega,⟨tE,hE⟩,by simp only; rw [hmk,hmv]; simpa using hfold⟩,by simp only; omega⟩
     | some t =>
      rw [hst2] at hm hmv
      obtain ⟨rfl,S',hS',eS',lS',fS'⟩:=hm
      obtain ⟨la',lc',rfl,_⟩:=hS'.top.form
      have hok':=mv_ok cx.pr hoki hmv
      have hstd':=hstdi.put hoki.sl hO.up hx t
      rw [← eS'] at hstd'
      have hrm:=mvP_rem hmv
      have hmv:mvP (progsW accP) (objsW accO2) ci.sp k=some (o.ID,⟨ci.sp.done.set k (ci.sp.done.getD k 0+1),ci.sp.st.set ((objsW accO2).idxOf o.Object) t⟩):=hmv
      generalize hsp:(⟨ci.sp.done.set k (ci.sp.done.getD k 0+1),ci.sp.st.set ((objsW accO2).idxOf o.Object) t⟩:Sp)=s' at hmv
      have hsd:s'.done=ci.sp.done.set k (ci.sp.done.getD k 0+1):=by rw [← hsp]
      have hss:s'.st=ci.sp.st.set ((objsW accO2).idxOf o.Object) t:=by rw [← hsp]
      rw [← hss] at hstd'
      simp only at hrm hok'
      rw [← hsd] at hrm
      have hok2:SpOk (progsW accP) accO2 102 s':=by rw [← hsp]; exact hok'
      have hfold2:addW (E.map Dq.sp) s'=((List.range (k+1)).filterMap (mvP (progsW accP) (objsW accO2) ci.sp)).foldl (fun L m=>addW L m.2) (C.map Dq.sp):=by
       rw [hmk,hmv,List.foldl_append,← hfold]; rfl
      have s13:=St.addI s11 b12' (Inv.os (.slice la' S'.length lc') S') hS' (fun x hx=>hS'.footLt hx) fun x hx=>(fS' x hx).imp (fun h=>⟨Inv.qs E,by simp,E[i],List.getElem_mem hiE,.inr (by rw [hEi,hlv]; exact h)⟩) id
      clear s12 s11 s10 hS' fS' hS11 hS10
      simp (disch:=first|omega|exact zF rfl|exact zG rfl|exact fun h=>h|(simp only[zA,zB,zC,zD,bytesW];omega)) only[go_sem,c13S1,c13S2,c13S5,c13S6,c13S7,c13L0,c13S9,c13L1,c13S11,c13S12,c13S13,c13S14]
      refine ⟨Chg.of_below b12',bsW_none ty25mkI ?_⟩
      have s14:=s13.emptyRow 3 1
      have z0:=(own_cell (s14.row 2 rfl)).1 (i * 2) _ d1
      have hd14:RdS (w12.alloc (.cells #[] 3)) 1 intE ci.dv (zN ci.sp.done):=by
       have:=(s14.get 1 rfl E[i] (List.getElem_mem hiE)).1
       rwa [hEi] at this
      rw [hdv] at hd14
      have hdl2:ci.sp.done.length=(progsW accP).length:=hoki.dl
      simp (disch:=first|omega|exact zF rfl|exact zG rfl|exact fun h=>h|(simp only[zA,zB,zC,zD,bytesW];omega)) only[go_sem,c13S1,c13S2,c13S5,c13S6,c13S7,c13L0,c13S9,c13L1,c13S11,c13S12,c13S13,c13S14,z0,hiE']
      refine ⟨by omega,?_⟩
      refine s14.append 0 rfl ty25mkI rfl (by decide) (show Rd (w12.alloc (.cells #[] 3)) 1 (.slice (some dp) ci.sp.done.length dc) ci.sp.done.length ((zN ci.sp.done).flatMap intE) by have h5:=hd14; unfold RdS at h5; rwa [zN_len] at h5) (by intro u hu; obtain ⟨x,_,hx⟩:=List.mem_flatMap.1 hu; simp only [intE,List.mem_singleton] at hx; subst hx; rfl) (by omega) (by omega) ?_
      intro v15 w15 s15 _
      simp only [List.set_cons_zero,List.nil_append,Nat.zero_add] at s15
      obtain ⟨ma,mc,rfl,_⟩:=own_slice (s15.row 0 rfl)
      obtain ⟨mg,rfl⟩:=own_ptr (s15.row 0 rfl) (by omega)
      simp (disch:=first|omega|exact zF rfl|exact zG rfl|exact fun h=>h|(simp only[zA,zB,zC,zD,bytesW];omega)) only[go_sem,c13S1,c13S2,c13S5,c13S6,c13S7,c13L0,c13S9,c13L1,c13S11,c13S12,c13S13,c13S14]
      refine bdW_built (cells:=#[.slice (some ⟨mg,0,none⟩) ci.sp.done.length mc,.slice la' S'.length lc']) (by kernel_rfl) ?_
      simp (disch:=first|omega|exact zF rfl|exact zG rfl|exact fun h=>h|(simp only[zA,zB,zC,zD,bytesW];omega)) only[go_sem,c13S1,c13S2,c13S5,c13S6,c13S7,c13L0,c13S9,c13L1,c13S11,c13S12,c13S13,c13S14]
      have s16:=s15.box #[.slice (some ⟨mg,0,none⟩) ci.sp.done.length mc,.slice la' S'.length lc'] 70
      generalize w15.alloc (.cells #[.slice (some ⟨mg,0,none⟩) ci.sp.done.length mc,.slice la' S'.length lc'] 70)=w16 at s16 ⊢
      generalize w15.heap.size=zb at s16 ⊢
      have r16:=s16.rules 0 rfl
      have cd:=(own_cell (s16.row 1 rfl)).1 k _ (zN_flat (d:=ci.sp.done) (k:=k) (by omega))
      have fd:=(own_cell (s16.row 1 rfl)).2 k
      have s17:=s16.put 1 rfl k (.int .i64 ((ci.sp.done.getD k 0:Nat)+1))
      simp only [List.set_cons_zero,List.set_cons_succ] at s17
      rw [zN_flat_set,← hsd] at s17
      have r17:=s17.rules 0 rfl
      have hdk:ci.sp.done.getD k 0≤200:=by omega
      simp (disch:=first|omega|exact zF rfl|exact zG rfl|exact fun h=>h|(simp only[zA,zB,zC,zD,bytesW];omega)) only[go_sem,c13S1,c13S3,c13S5,c13S6,c13S7,c13L0,c13S9,c13L1,c13S11,c13S12,c13S13,c13S14,r16,cd,fd,hidl,r17]
      have hsdl:s'.done.length=ci.sp.done.length:=by rw [hsd,List.length_set]
      generalize w16.setCell ⟨mg,k,none⟩ (.int .i64 ((ci.sp.done.getD k 0:Nat)+1))=w17 at s17 r17 ⊢
      have hd17:RdS w17 1 intE (.slice (some ⟨mg,0,none⟩) ci.sp.done.length mc) (zN s'.done):=RdS.of_own' (s17.row 1 rfl) _ (by rw [zN_len,hsdl]) rfl
      have hkey:∀ {w':World},Below w17.heap.size w17 w'→Ret Tryz.prog 34 [.slice (some pp) (progsW accP).length pc,.agg #[.slice (some ⟨mg,0,none⟩) ci.sp.done.length mc,.slice la' S'.length lc'],.slice oa accO2.length oc] w' fun u w''=>u=.string (ofL (spT s'))∧Below w'.heap.size w' w'':=fun {w'} hb=>by
       have hb2:=Below.next s17.bel hb
       refine Ret.mono (skey_ok _ _ _ _ s'.done S' accO2 w' (hd17.below hb (by decide)) ((show StL w17 (.slice la' S'.length lc') S' from s17.get 0 rfl).below hb) (hr2.below hb2 (by decide) fun x c=>Cut.segR.below hb2 x c) hacc (by omega) (by omega) (by omega) (hfin hok2 hstd')) ?_
       rintro _ w'' ⟨rfl,b''⟩
       rw [key_eq hstd' hok2.sl]
       exact ⟨rfl,b''⟩
      clear cd fd r16 z0 hd14 s16 s15 s14 s13
      refine ⟨by omega,⟨by omega,by omega⟩,by omega,Ret.mono (hkey (Below.refl _ _)) ?_⟩
      rintro _ w18 ⟨rfl,b18⟩
      have s18:=s17.call b18
      have hPk:∀ k,((progsW accP).getD k []).length≤200:=cx.pp
      have hinj:∀ t∈E.map Dq.sp,spT t=spT s'→t=s':=fun t ht e=>by
       obtain ⟨q,hqq,rfl⟩:=List.mem_map.1 ht
       exact spT_inj ((hqE q hqq).ok.text (by decide) hPk) (hok2.text (by decide) hPk) e
      have hget:=metL_get (s:=s') (Ls:=E.map Dq.sp) (i:=0) hinj
      simp (disch:=first|omega|exact zF rfl|exact zG rfl|exact fun h=>h|(simp only[zA,zB,zC,zD,bytesW];omega)) only[go_sem,c13S1,c13S3,c13S5,c13S6,c13S7,c13L0,c13S9,c13L1,c13S11,c13S12,c13S13,c13S14]
      refine luG_map keyT_s Tryz.underlying73 (s18.obj 2 rfl) (spT s') (by rfl) ?_
      rw [hget]
      by_cases hm:s'∈E.map Dq.sp
      ·rw [if_pos hm]
       simp (disch:=first|omega|exact zF rfl|exact zG rfl|exact fun h=>h|(simp only[zA,zB,zC,zD,bytesW];omega)) only[go_sem,c13S1,c13S2,c13S3,c13S5,c13S7,c13L0,c13S9,c13L1,c13S11,c13S12,c13S13,c13S14,luG,trueK]
       exact ⟨⟨by omega,by omega⟩,(k+1,.slice (some ⟨eg,0,none⟩) E.length ec,E),rfl,⟨(s18.sub ((List.sublist_cons_self _ _).trans (List.sublist_cons_self _ _))).inv_sub fun a ha=>by rw [List.mem_singleton] at ha; subst ha; simp,by simp only; omega,hqE,by simp only; omega,⟨tE,hE⟩,by simp only; rw [← hfold2]; unfold addW; rw [if_pos hm]⟩,by simp only; omega⟩
      ·rw [if_neg hm] at hget
       rw [if_neg hm]
       have r18:=s18.rules 0 rfl
       simp (disch:=first|omega|exact zF rfl|exact zG rfl|exact fun h=>h|(simp only[zA,zB,zC,zD,bytesW];omega)) only[go_sem,c13S2,c13S3,c13S5,c13S6,c13S7,c13L0,c13S9,c13L1,c13S11,c13S12,c13S13,c13S14,luG,trueK,r18]
       refine Ret.mono (hkey b18) ?_
       rintro _ w19 ⟨rfl,b19⟩
       have s19:=s18.call b19
       simp (disch:=first|omega|exact zF rfl|exact zG rfl|exact fun h=>h|(simp only[zA,zB,zC,zD,bytesW];omega)) only[go_sem,c13S2,c13S3,c13S5,c13S6,c13S7,c13L0,c13S9,c13L1,c13S11,c13S12,c13S13,c13S14]
       refine muG_map (ev:=trueK) keyT_s Tryz.underlying73 same_str (s19.obj 2 rfl) (spT s') E.length ?_
       have eset:setM (spT s') E.length E.length (metL (E.map Dq.sp) 0)=metL (E.map Dq.sp++[s']) 0:=by rw [setM_snoc hget,metL_snoc,List.length_map,Nat.zero_add]
       have e3:(if (none:Option Nat).isSome=true then E.length else E.length+1)=E.length+1:=rfl
       rw [eset,hget,e3]
       have s20:=s19.putObj 2 rfl (mapG strE trueK (metL (E.map Dq.sp++[s']) 0) (E.length+1))
       simp only [List.set_cons_zero,List.set_cons_succ] at s20
       generalize w19.putObj m (mapG strE trueK (metL (E.map Dq.sp++[s']) 0) (E.length+1))=w20 at s20 ⊢
       have r20:=s20.rules 0 rfl
       simp (disch:=first|omega|exact zF rfl|exact zG rfl|exact fun h=>h|(simp only[zA,zB,zC,zD,bytesW];omega)) only[go_sem,c13S1,c13S2,c13S3,c13S5,c13S7,c13L0,c13S9,c13L1,c13S11,c13S12,c13S13,c13S14,r20]
       refine bsW_agg ty71mkI rfl (by decide) (by decide) ?_
       have s21:=s20.alloc' (.cells #[.slice (some ⟨mg,0,none⟩) ci.sp.done.length mc,.slice la' S'.length lc'] 70)
       have hx:Rd (w20.alloc (.cells #[.slice (some ⟨mg,0,none⟩) ci.sp.done.length mc,.slice la' S'.length lc'] 70)) 2 (.slice (some ⟨w20.heap.size,0,none⟩) 1 1) 1 [.slice (some ⟨mg,0,none⟩) ci.sp.done.length mc,.slice la' S'.length lc']:=rd_new (t:=70) (sz:=2) (n:=1) (cs:=#[.slice (some ⟨mg,0,none⟩) ci.sp.done.length mc,.slice la' S'.length lc']) rfl
       generalize w20.alloc (.cells #[.slice (some ⟨mg,0,none⟩) ci.sp.done.length mc,.slice la' S'.length lc'] 70)=w21 at s21 hx ⊢
       simp (disch:=first|omega|exact zF rfl|exact zG rfl|exact fun h=>h|(simp only[zA,zB,zC,zD,bytesW];omega)) only[go_sem,c13S1,c13S2,c13S3,c13S5,c13S7,c13L0,c13S9,c13L1,c13S11,c13S12,c13S13,c13S14]
       refine s21.append 3 rfl ty71mkI rfl (by decide) hx (by intro u hu; simp only [List.mem_cons,List.not_mem_nil,or_false] at hu; rcases hu with rfl | rfl <;> rfl) (by omega) (by omega) ?_
       intro v22 w22 s22 _
       simp only [List.set_cons_zero,List.set_cons_succ] at s22
       have s23:=qs_more hsdl (s22.sub (List.sublist_cons_self _ _))
       simp (disch:=first|omega|exact zF rfl|exact zG rfl|exact fun h=>h|(simp only[zA,zB,zC,zD,bytesW];omega)) only[go_sem,c13S1,c13S2,c13S3,c13S5,c13S7,c13L0,c13S9,c13L1,c13S11,c13S12,c13S13,c13S14]
       refine ⟨⟨by omega,by omega⟩,(k+1,v22,E++[⟨.slice (some ⟨mg,0,none⟩) ci.sp.done.length mc,.slice la' S'.length lc',S',s'⟩]),rfl,⟨?_,by simp only; omega,?_,by simp only [List.length_append,List.length_singleton]; omega,⟨tE++[⟨.slice (some ⟨mg,0,none⟩) ci.sp.done.length mc,.slice la' S'.length lc',S',s'⟩],by simp only; rw [hE,List.append_assoc]⟩,?_⟩,by simp only; omega⟩
       ·simp only
        have x1:(E++[(⟨.slice (some ⟨mg,0,none⟩) ci.sp.done.length mc,.slice la' S'.length lc',S',s'⟩:Dq)]).map Dq.sp=E.map Dq.sp++[s']:=by simp
        have x2:(E++[(⟨.slice (some ⟨mg,0,none⟩) ci.sp.done.length mc,.slice la' S'.length lc',S',s'⟩:Dq)]).length=E.length+1:=by simp
        have x3:(E++[(⟨.slice (some ⟨mg,0,none⟩) ci.sp.done.length mc,.slice la' S'.length lc',S',s'⟩:Dq)]).flatMap dqE=E.flatMap dqE++[.slice (some ⟨mg,0,none⟩) ci.sp.done.length mc,.slice la' S'.length lc']:=by rw [List.flatMap_append]; simp [dqE]
        rw [x1,x2,x3]
        exact s23
       ·intro q hqq
        rcases List.mem_append.1 hqq with hqq | hqq
        ·exact hqE q hqq
        ·rw [List.mem_singleton] at hqq
         subst hqq
         exact ⟨hstd',hok2,by simp only; omega⟩
       ·simp only
        rw [← hfold2]
        unfold addW
        rw [if_neg hm]
        simp
   ·have hkt':¬ (k:Int)<n:=by omega
    obtain rfl:k=n:=by omega
    simp (disch:=first|omega|exact zF rfl|exact zG rfl|exact fun h=>h|(simp only[zA,zB,zC,zD,bytesW];omega)) only[go_sem,c13S1,c13S2,c13S3,c13S5,c13S6,c13L0,c13S9,c13L1,c13S11,c13S12,c13S13,c13S14,c13L0,hkt']
    have hrnd:roundW (progsW accP) (objsW accO2) (C.map Dq.sp) ((C.map Dq.sp)[i]'(by simpa using hit))=E.map Dq.sp:=by
     rw [hsi]
     unfold roundW mvsP
     rw [hn0]
     exact hfold.symm
    refine ⟨⟨by omega,by omega⟩,(i+1,.slice (some ⟨eg,0,none⟩) E.length ec,E),rfl,⟨s9,by simp only; omega,hqE,by simp only; omega,by simp only; omega,fun r hr=>hbf r (.go (by rw [List.length_map]; exact hit) (by rw [List.length_map]; omega) ?_)⟩,by simp only; omega⟩
    rw [hrnd]
    exact hr
  ·simp (disch:=first|omega|exact zF rfl|exact zG rfl|exact fun h=>h|(simp only[zA,zB,zC,zD,bytesW];omega)) only[go_sem,c13S1,c13S2,c13S3,c13S5,c13S6,c13S7,c13L0,c13S9,c13L1,c13S11,c13S12,c13S13,c13S14,c13L1,hit',hful]
   exact ⟨⟨accP,C.map Dq.sp,hP,by rw [hs0]; exact hbf _ (.full (by rw [List.length_map]; omega)),by rw [List.length_map]⟩,Below.next b12 s8.bel⟩
 ·have hit':¬ (i:Int)<C.length:=by omega
  simp (disch:=first|omega|exact zF rfl|exact zG rfl|exact fun h=>h|(simp only[zA,zB,zC,zD,bytesW];omega)) only[go_sem,c13S1,c13S2,c13S3,c13S5,c13S6,c13S7,c13L0,c13S9,c13L1,c13S11,c13S12,c13S13,c13S14,c13L1,hit']
  exact ⟨⟨accP,C.map Dq.sp,hP,by rw [hs0]; exact hbf _ (.last (by rw [List.length_map]; omega)),by rw [List.length_map]⟩,Below.next b12 s8.bel⟩
end Go.Proofs.YtoadmihnihfjkaaGreat

namespace Go.Ann
open Go Go.RowKit
def schedU(ops:Array Oper)(hb:List Nat):ST→Nat→Bool→Array Bool→Bool
 | .nil,n,top,listed=>top && n == 0 && (Region.ready .any ops listed).isEmpty
 | .one 0 i r,n,top,listed=>top && n != 0 && (Region.ready .any ops listed).contains i && Region.free .any ops listed i && schedU ops hb r (n - 1) true (listed.setIfInBounds i true)
 | .one 1 i r,n,top,listed=>top && n != 0 && hb.contains i && (Region.ready .any ops listed).contains i && Region.free .any ops listed i && schedU ops hb r (n - 1) true (listed.setIfInBounds i true)
 | .one 2 i r,n,top,listed=>top && n != 0 && (Region.ready .any ops listed == [i]) && schedU ops hb r (n - 1) true (listed.setIfInBounds i true)
 | .one 3 i .nil,n,top,listed=>top && n == 1 && (Region.ready .any ops listed == [i]) && !(needB .any ops hb i) && (Region.ready .any ops (listed.setIfInBounds i true)).isEmpty
 | .one (_+3) _ _,_,_,_=>false
 | .alt i r q,n,top,listed=>(!top || Region.ready .any ops listed == i::q.heads) && n != 0 && schedU ops hb r (n - 1) true (listed.setIfInBounds i true) && schedU ops hb q n false listed
 | .stop,_,top,_=>!top
theorem DU_sound{P:Program}{S:World→Prop}{N:Nat}{l:List Oper}(hall:l.all (fun o=>okDst N o.dst)=true)(hns:Region.noSelect l.toArray=true)(hb:List Nat)(L:List Nat)(Q:Post):∀ st:ST,
  (∀ (n:Nat) (gt:GT) (ρ:Env) (w:World) (a:Act) (listed:Array Bool),insT l st=some gt→schedU l.toArray hb st n true listed=true→Sim N a ρ→S w→DT P S gt L ρ w Q→wpAnyG P .any l.toArray (drawQ N L Q) S hb n listed a w) ∧
  (∀ (n:Nat) (gt:GT) (ρ:Env) (w:World) (a:Act) (listed:Array Bool),insT l st=some gt→schedU l.toArray hb st (n+1) false listed=true→Sim N a ρ→S w→DT P S gt L ρ w Q →
   ∀ j∈st.heads,wpOp P l.toArray (drawQ N L Q) j (fun a' w'=>(needB .any l.toArray hb j=true→S w→S w')∧wpAnyG P .any l.toArray (drawQ N L Q) S hb n (listed.setIfInBounds j true) a' w') a w):=by
 have hpan:∀ (d:Option Nat) (v:Value) c (a:Act) (w:World),drawQ N L Q (.panic c) (a.put d v) w→drawQ N L Q (.panic c) a w:=by
  rintro d v c a w ⟨_,_,hn,_⟩; cases hn
 intro st
 induction st with
 | nil =>
  refine ⟨fun n gt ρ w a listed hi hok hs hSw h=>?_,fun n gt ρ w a listed hi hok hs hSw h j hj=>by cases hj⟩
  simp only [insT,Option.some.injEq] at hi; subst hi
  simp only [schedU,Bool.and_eq_true,beq_iff_eq,List.isEmpty_iff,true_and] at hok
  obtain ⟨rfl,hr⟩:=hok
  exact ⟨hr,ρ,hs,rfl,h⟩
 | stop =>
  refine ⟨fun n gt ρ w a listed hi hok hs hSw h=>?_,fun n gt ρ w a listed hi hok hs hSw h j hj=>by cases hj⟩
  simp [schedU] at hok
 | one k i r ih =>
  refine ⟨fun n gt ρ w a listed hi hok hs hSw h=>?_,fun n gt ρ w a listed hi hok hs hSw h j hj=>by cases hj⟩
  simp only [insT] at hi
  split at hi
  case h_2=>cases hi
  rename_i x t hx ht
  simp only [Option.some.injEq] at hi; subst hi
  obtain ⟨o,ho⟩:∃ o,l[i]?=some o:=by
   unfold insOf at hx
   split at hx
   ·cases hx
   ·exact ⟨_,by assumption⟩
  have ho':l.toArray[i]?=some o:=by simpa using ho
  have hd:okDst N o.dst=true:=List.all_eq_true.1 hall o (List.mem_of_getElem? ho)
  simp only [DT] at h
  match k,hok,h with
  | 0,hok,h =>
   simp only [schedU,Bool.and_eq_true,bne_iff_ne,ne_eq,true_and] at hok
   obtain ⟨m,rfl⟩:∃ m,n=m+1:=⟨n - 1,by omega⟩
   rw [Nat.add_sub_cancel] at hok
   obtain ⟨_,_,_,⟨ρ',hs',hw,h⟩ | ⟨ρ',hs',hw,h⟩⟩:=stepX_cases ho hx hs h
   ·obtain ⟨v,hv,hk⟩:=pureW_runs (show pureW P o.op o.type ρ' w _ from h)
    refine wpAnyG_take (T:=fun _=>True) ho' hns hok.1.2 hok.1.1.2 (.inl fun _=>trivial) (hpan _ _) (.inl ⟨hw,fun w' _=>?_⟩) trivial (ih.1 m t _ w _ _ ht hok.2 (hs'.put hd v) hSw hk)
    rw [execOp_raw]; exact hv a.eval hs'.eval w'
   ·exact wpAnyG_take (T:=fun _=>True) ho' hns hok.1.2 hok.1.1.2 (.inl fun _=>trivial) (hpan _ _) (.inr ⟨hw,rfl⟩) trivial (ih.1 m t _ w _ _ ht hok.2 (hs'.put hd undef) hSw h)
  | 1,hok,h =>
   simp only [schedU,Bool.and_eq_true,bne_iff_ne,ne_eq,true_and,List.contains_iff_mem] at hok
   obtain ⟨m,rfl⟩:∃ m,n=m+1:=⟨n - 1,by omega⟩
   rw [Nat.add_sub_cancel] at hok
   obtain ⟨_,_,_,⟨ρ',hs',hw,h⟩ | ⟨ρ',hs',hw,h⟩⟩:=stepX_cases ho hx hs h
   ·obtain ⟨v,hv,hk⟩:=opH_runs (show opH P S o.op o.type ρ' w _ from h)
    refine wpAnyG_take (T:=S) ho' hns hok.1.2 (by simpa using hok.1.1.2) (.inr ⟨hok.1.1.1.2,rfl⟩) (hpan _ _) (.inl ⟨hw,fun w' hw'=>?_⟩) hSw (ih.1 m t _ w _ _ ht hok.2 (hs'.put hd v) hSw hk)
    rw [execOp_raw]; exact hv a.eval hs'.eval w' hw'
   ·exact wpAnyG_take (T:=fun _=>True) ho' hns hok.1.2 (by simpa using hok.1.1.2) (.inl fun _=>trivial) (hpan _ _) (.inr ⟨hw,rfl⟩) trivial (ih.1 m t _ w _ _ ht hok.2 (hs'.put hd undef) hSw h)
  | 2,hok,h =>
   simp only [schedU,Bool.and_eq_true,bne_iff_ne,ne_eq,true_and,beq_iff_eq] at hok
   obtain ⟨m,rfl⟩:∃ m,n=m+1:=⟨n - 1,by omega⟩
   rw [Nat.add_sub_cancel] at hok
   refine wpAnyG_all hok.1.2 (by simp) fun j hj=>?_
   simp only [List.mem_singleton] at hj; subst hj
   exact stepX_op hall hx hs hSw h fun ρ' a' w' hs' hSw' hC=>ih.1 m t ρ' w' a' _ ht hok.2 hs' hSw' hC
  | 3,hok,h =>
   cases r with
   | nil =>
    simp only [schedU,Bool.and_eq_true,beq_iff_eq,Bool.not_eq_true',List.isEmpty_iff,true_and] at hok
    obtain ⟨⟨⟨rfl,h1⟩,h2⟩,h3⟩:=hok
    simp only [insT,Option.some.injEq] at ht; subst ht
    refine wpAnyG_all h1 (by simp) fun j hj=>?_
    simp only [List.mem_singleton] at hj; subst hj
    obtain ⟨_,_,_,⟨ρ',hs',hw,h⟩ | ⟨ρ',hs',hw,h⟩⟩:=stepX_cases ho hx hs h
    ·refine wpOp_doneG ho' hw (opW_done (show opW P o.op o.type ρ' w _ from h.2) h.1 a.eval hs'.eval) fun v w' hk=>⟨fun hn=>?_,h3,_,hs'.put hd v,rfl,hk⟩
     rw [h2] at hn; cases hn
    ·exact wpOp_skip ho' hw ⟨fun _ h=>h,h3,_,hs'.put hd undef,rfl,h⟩
   | one k' i' r'=>simp [schedU] at hok
   | alt i' r' q'=>simp [schedU] at hok
   | stop=>simp [schedU] at hok
  | k+4,hok,h=>simp [schedU] at hok
 | alt i r q ihr ihq =>
  have step:∀ (n:Nat) (top:Bool) (gt:GT) (ρ:Env) (w:World) (a:Act) (listed:Array Bool),insT l (.alt i r q)=some gt→schedU l.toArray hb (.alt i r q) (n+1) top listed=true→Sim N a ρ→S w→DT P S gt L ρ w Q →
    ∀ j∈(ST.alt i r q).heads,wpOp P l.toArray (drawQ N L Q) j (fun a' w'=>(needB .any l.toArray hb j=true→S w→S w')∧wpAnyG P .any l.toArray (drawQ N L Q) S hb n (listed.setIfInBounds j true) a' w') a w:=by
   intro n top gt ρ w a listed hi hok hs hSw h j hj
   simp only [insT] at hi
   split at hi
   case h_2=>cases hi
   rename_i x t u hx ht hu
   simp only [Option.some.injEq] at hi; subst hi
   simp only [schedU,Bool.and_eq_true,Nat.add_sub_cancel] at hok
   obtain ⟨h1,h2⟩:=h
   rcases List.mem_cons.1 hj with rfl | hj
   ·exact stepX_op hall hx hs hSw h1 fun ρ' a' w' hs' hSw' hC=>ihr.1 n t ρ' w' a' _ ht hok.1.2 hs' hSw' hC
   ·exact ihq.2 n u ρ w a listed hu hok.2 hs hSw h2 j hj
  refine ⟨fun n gt ρ w a listed hi hok hs hSw h=>?_,fun n gt ρ w a listed hi hok hs hSw h j hj=>step n false gt ρ w a listed hi hok hs hSw h j hj⟩
  have hok2:=hok
  simp only [schedU,Bool.and_eq_true,bne_iff_ne,ne_eq,Bool.not_true,Bool.false_or,beq_iff_eq] at hok2
  obtain ⟨m,rfl⟩:∃ m,n=m+1:=⟨n - 1,by omega⟩
  exact wpAnyG_all hok2.1.1.1 (by simp) fun j hj=>step m true gt ρ w a listed hi hok hs hSw h j hj
theorem drawW_treeU{P:Program}{l:List Oper}{L:List Nat}{ρ:Env}{w:World}{Q:Post}(hb:List Nat)(st:ST)(gt:GT)(hm:P.follows .mixedOrders=true)
  (hi:insT l st=some gt) (hok:(Region.noSelect l.toArray && schedU l.toArray hb st l.length true (Array.replicate l.length false))=true)
  (S:World→Prop) (hS:S w.drew) (h:DT P S gt L ρ w.drew Q):drawW P l L ρ w Q:=by
 intro N a hall hs
 simp only [Bool.and_eq_true] at hok
 refine ops_of_any hm (wpAny_of_G (S:=S) (hb:=hb) _ _ _ _ ?_)
 have:=(DU_sound (S:=S) hall hok.1 hb L Q st).1 l.length gt ρ w.drew a (Array.replicate l.length false) hi hok.2 hs hS h
 have e:l.toArray.size=l.length:=by simp
 rw [e]
 exact this
section
variable {P:Program} {S:World→Prop} {w:World} {K:Value→World→Prop} {ρ:Env} {Q:Post} {r:GT} {L:List Nat} {d:Option Nat} {ty:TypeId} {op:Op}
theorem opT_3:opT P S 3 op ty r L ρ d w Q=(noY ρ op∧opW P op ty ρ w (DTn P S r L ρ d Q)):=(rfl)
end
attribute [go_sem] opT_3
end Go.Ann

end
