/- Texts put together by program. -/
import Derived.Test.YtkmjkmjpejmlnaaGreatQD4
set_option linter.unusedSimpArgs false
set_option linter.unusedVariables false
set_option maxRecDepth 100000
noncomputable section

namespace Go.Proofs.YtkmjkmjpejmlnaaGreat.Slt
open Go Go.Ann Go.RowKit
def strE(r:List UInt8):List Value:=[.string (ofL r)]
theorem strE_one(r:List UInt8):∀ u∈strE r,u.oneCell'=true:=by intro u hu; simp only [strE,List.mem_singleton] at hu; subst hu; rfl
structure Pg(s:List UInt8)(L:List (List UInt8)):Prop where
 lo:8≤s.length
 hi:s.length≤256
 n:bN s 0=L.length
 room:1+2 * L.length≤s.length
 free:∀ i:Nat,i<L.length→bN s (2+2 * i)=0→bN s (1+2 * i)=0∧i+1≠L.length
 taken:∀ i:Nat,i<L.length→0<bN s (2+2 * i)→1+2 * L.length≤bN s (1+2 * i)∧bN s (1+2 * i)+bN s (2+2 * i)≤s.length
 apart:∀ i k:Nat,i<L.length→k<i→0<bN s (2+2 * i)→0<bN s (2+2 * k)→bN s (1+2 * i)<bN s (1+2 * k)+bN s (2+2 * k)→bN s (1+2 * k)<bN s (1+2 * i)+bN s (2+2 * i)→False
 recs:∀ i:Nat,(h:i<L.length)→L[i]=cutL s (bN s (1+2 * i)) (bN s (1+2 * i)+bN s (2+2 * i))
theorem Pg.inside{s:List UInt8}{L:List (List UInt8)}(h:Pg s L){i:Nat}(hi:i<L.length):0≤bN s (1+2 * i)∧0≤bN s (2+2 * i)∧bN s (1+2 * i)+bN s (2+2 * i)≤s.length:=by
 have h1:=(bN_bd s (1+2 * i)).1
 have h2:=(bN_bd s (2+2 * i)).1
 refine ⟨h1,h2,?_⟩
 rcases Int.lt_or_eq_of_le h2 with h3 | h3
 ·exact (h.taken i hi h3).2
 ·have:=(h.free i hi h3.symm).1
  have:=h.lo
  omega
theorem cutL_length{s:List UInt8}{a b:Int}(h0:0≤a)(h1:a≤b)(h2:b≤s.length):((cutL s a b).length:Int)=b - a:=by
 unfold cutL
 rw [List.length_drop,List.length_take]; omega
theorem Pg.len{s:List UInt8}{L:List (List UInt8)}(h:Pg s L){i:Nat}(hi:i<L.length):(L[i].length:Int)=bN s (2+2 * i):=by
 have:=h.inside hi
 rw [h.recs i hi,cutL_length this.1 (by omega) this.2.2]; omega
theorem Pg.few{s:List UInt8}{L:List (List UInt8)}(h:Pg s L):L.length≤127:=by have:=h.room; have:=h.hi; omega
theorem places_ok(s:List UInt8)(w:World):Ret Tryz.prog 147 [.string (ofL s)] w fun v w'=>v=.int .i64 (if s=[] then 0 else bN s 0)∧Below w.heap.size w w':=by
 refine ent147 _ _ _ ?_
 have hb:=bN_bd s 0
 simp (disch:=first|omega|exact zF rfl|exact zG rfl|exact fun h=>h|(simp only[zA,zB,zC,zD,bytesW];omega)) only[go_sem]
 refine ⟨fun h=>⟨by rw [if_pos (of_decide_eq_true h)],by (repeat' (first | with_reducible exact Below.refl _ _ | with_reducible assumption | (with_reducible refine Below.drew ?_) | (with_reducible refine Below.alloc ?_ ?_ _) | (with_reducible refine Below.setCell ?_ ?_ _) | (with_reducible refine Below.fill ?_ ?_) | (with_reducible refine Below.via (by assumption) ?_ ?_) | omega | (simp only [World.size_alloc,World.size_drew,World.size_setCell,size_fill,bytesW]; omega)))⟩,fun h=>?_⟩
 have h':s≠[]:=of_decide_eq_false h
 have:=List.length_pos_iff.2 h'
 refine ⟨by omega,⟨by omega,by omega⟩,by rw [if_neg h'],by (repeat' (first | with_reducible exact Below.refl _ _ | with_reducible assumption | (with_reducible refine Below.drew ?_) | (with_reducible refine Below.alloc ?_ ?_ _) | (with_reducible refine Below.setCell ?_ ?_ _) | (with_reducible refine Below.fill ?_ ?_) | (with_reducible refine Below.via (by assumption) ?_ ?_) | omega | (simp only [World.size_alloc,World.size_drew,World.size_setCell,size_fill,bytesW]; omega)))⟩
theorem at_ok(s:List UInt8)(i:Nat)(w:World)(h:2+2 * i<s.length)(hs:s.length≤1000000):Ret Tryz.prog 148 [.string (ofL s),.int .i64 i] w fun v w'=>v=.tuple #[.int .i64 (bN s (1+2 * i)),.int .i64 (bN s (2+2 * i))]∧Below w.heap.size w w':=by
 refine ent148 _ _ _ _ ?_
 have hb:=bN_bd s (1+2 * i)
 have hc:=bN_bd s (2+2 * i)
 have e:(1:Int)+2 * (i:Int)+1=2+2 * i:=by omega
 simp (disch:=first|omega|exact zF rfl|exact zG rfl|exact fun h=>h|(simp only[zA,zB,zC,zD,bytesW];omega)) only[go_sem]
 refine c148draw0 ?_
 simp (disch:=first|omega|exact zF rfl|exact zG rfl|exact fun h=>h|(simp only[zA,zB,zC,zD,bytesW];omega)) only[go_sem,c148D0,e]
 exact ⟨⟨by omega,by omega⟩,⟨by omega,by omega⟩,⟨by omega,by omega⟩,⟨by omega,by omega⟩,⟨by omega,by omega⟩,⟨by omega,by omega⟩,⟨by omega,by omega⟩,⟨by omega,by omega⟩,⟨by omega,by omega⟩,by (repeat' (first | with_reducible exact Below.refl _ _ | with_reducible assumption | (with_reducible refine Below.drew ?_) | (with_reducible refine Below.alloc ?_ ?_ _) | (with_reducible refine Below.setCell ?_ ?_ _) | (with_reducible refine Below.fill ?_ ?_) | (with_reducible refine Below.via (by assumption) ?_ ?_) | omega | (simp only [World.size_alloc,World.size_drew,World.size_setCell,size_fill,bytesW]; omega)))⟩
def getP(L:List (List UInt8))(i:Int):List UInt8 × Bool:=if 0≤i then match L[i.toNat]? with | some r=>(r,decide (r≠[])) | none=>([],false) else ([],false)
theorem get_ok(s:List UInt8)(L:List (List UInt8))(i:Int)(w:World)(h:Pg s L):Ret Tryz.prog 144 [.string (ofL s),.int .i64 i] w fun v w'=>v=.tuple #[.string (ofL (getP L i).1),.bool (getP L i).2]∧Below w.heap.size w w':=by
 refine ent144 _ _ _ _ ?_
 simp (disch:=first|omega|exact zF rfl|exact zG rfl|exact fun h=>h|(simp only[zA,zB,zC,zD,bytesW];omega)) only[go_sem]
 have hne:s≠[]:=by rintro rfl; have:=h.lo; simp at this
 refine ⟨fun h0=>Ret.mono (places_ok _ _) ?_,fun h0=>⟨by unfold getP; rw [if_neg (by omega)],Below.refl _ _⟩⟩
 rintro _ w2 ⟨rfl,b2⟩
 rw [if_neg hne,h.n]
 have hr:=h.room
 have hhi:=h.hi
 simp (disch:=first|omega|exact zF rfl|exact zG rfl|exact fun h=>h|(simp only[zA,zB,zC,zD,bytesW];omega)) only[go_sem]
 refine ⟨fun h1=>?_,fun h1=>?_⟩
 ·refine ⟨?_,b2⟩
  unfold getP
  rw [if_pos h0,List.getElem?_eq_none (by omega)]
 ·obtain ⟨k,rfl⟩:=Int.eq_ofNat_of_zero_le h0
  have hk:k<L.length:=by omega
  refine Ret.mono (at_ok s k w2 (by omega) (by omega)) ?_
  rintro _ w3 ⟨rfl,b3⟩
  have hin:=h.inside hk
  have hlen:=h.len hk
  have hrec:=h.recs k hk
  have hb1:=bN_bd s (1+2 * k)
  have hb2:=bN_bd s (2+2 * k)
  simp (disch:=first|omega|exact zF rfl|exact zG rfl|exact fun h=>h|(simp only[zA,zB,zC,zD,bytesW];omega)) only[go_sem]
  have hg:getP L k=(L[k],decide (L[k]≠[])):=by
   unfold getP
   rw [if_pos h0,Int.toNat_natCast,List.getElem?_eq_getElem hk]
  have hd:decide (L[k]≠[])=decide (0<bN s (2+2 * k)):=by
   rw [decide_eq_decide,← hlen]
   constructor
   ·intro h; have:=List.length_pos_iff.2 h; omega
   ·intro h e; rw [e] at h; simp at h
  rw [hg,hd,hrec]
  exact ⟨⟨by omega,by omega⟩,⟨by omega,by omega,by omega⟩,rfl,b2.trans (b3.mono b2.size)⟩
def itemsTo(L:List (List UInt8)):Nat→List (Nat × List UInt8)
 | 0=>[]
 | k+1=>itemsTo L k++match L[k]? with | some r=>if r=[] then [] else [(k,r)] | none=>[]
theorem itemsTo_some{L:List (List UInt8)}{k:Nat}(h:k<L.length)(hr:L[k]≠[]):itemsTo L (k+1)=itemsTo L k++[(k,L[k])]:=by
 simp only [itemsTo,List.getElem?_eq_getElem h,if_neg hr]
theorem itemsTo_none{L:List (List UInt8)}{k:Nat}(h:k<L.length)(hr:L[k]=[]):itemsTo L (k+1)=itemsTo L k:=by
 simp only [itemsTo,List.getElem?_eq_getElem h,if_pos hr,List.append_nil]
theorem itemsTo_pre{L:List (List UInt8)}:∀ {k n:Nat},k≤n→∃ r,itemsTo L n=itemsTo L k++r:=by
 intro k n h
 induction n with
 | zero=>exact ⟨[],by rw [show k=0 by omega]; simp⟩
 | succ n ih =>
  rcases Nat.lt_or_ge k (n+1) with h' | h'
  ·obtain ⟨r,e⟩:=ih (by omega)
   exact ⟨_,by rw [itemsTo,e,List.append_assoc]⟩
  ·exact ⟨[],by rw [show k=n+1 by omega]; simp⟩
theorem all1_ok(fv:Value)(b:Nat)(s:List UInt8)(L:List (List UInt8))(J:List (Nat × List UInt8)→World→Prop)(w:World)(hp:Pg s L)(hb:∀ pre w',J pre w'→w'.cell? ⟨b,0,none⟩=some (.string (ofL s)))
  (hJ:∀ pre w' w'',J pre w'→Below w'.heap.size w' w''→J pre w'') (hf:∀ pre x w',J pre w'→(∃ r,pre++x::r=itemsTo L L.length)→callW Tryz.prog fv [.int .i64 x.1,.string (ofL x.2)] w' fun v w''=>v=.bool true∧J (pre++[x]) w'') (h0:J [] w) :
  Ret Tryz.prog 149 [fv,.pointer (some ⟨b,0,none⟩)] w fun _ w'=>J (itemsTo L L.length) w':=by
 refine ent149 _ _ _ _ ?_
 have hb0:=hb _ _ h0
 have hne:s≠[]:=by rintro rfl; have:=hp.lo; simp at this
 simp (disch:=first|omega|exact zF rfl|exact zG rfl|exact fun h=>h|(simp only[zA,zB,zC,zD,bytesW];omega)) only[go_sem,hb0]
 refine Ret.mono (places_ok _ _) ?_
 rintro _ w2 ⟨rfl,b2⟩
 rw [if_neg hne,hp.n]
 simp (disch:=first|omega|exact zF rfl|exact zG rfl|exact fun h=>h|(simp only[zA,zB,zC,zD,bytesW];omega)) only[go_sem]
 refine W_loopU (fun k:Nat=>[(8,.int .i64 k)]) (fun k w'=>J (itemsTo L k) w'∧k≤L.length) (fun k=>L.length - k) 0 rfl ⟨hJ _ _ _ h0 b2,Nat.zero_le _⟩ ?_
 rintro k w3 ⟨j3,hk⟩
 have hfew:=hp.few
 by_cases hlt:k<L.length
 ·have hlt':(k:Int)<L.length:=by omega
  have hb3:=hb _ _ j3
  simp (disch:=first|omega|exact zF rfl|exact zG rfl|exact fun h=>h|(simp only[zA,zB,zC,zD,bytesW];omega)) only[go_sem,hlt',hb3]
  refine Ret.mono (get_ok s L k w3 hp) ?_
  rintro _ w4 ⟨rfl,b4⟩
  have j4:=hJ _ _ _ j3 b4
  have hg:getP L k=(L[k],decide (L[k]≠[])):=by
   unfold getP
   rw [if_pos (by omega),Int.toNat_natCast,List.getElem?_eq_getElem hlt]
  rw [hg]
  by_cases hr:L[k]=[]
  ·have hd:decide (L[k]≠[])=false:=decide_eq_false (by simpa using hr)
   simp (disch:=first|omega|exact zF rfl|exact zG rfl|exact fun h=>h|(simp only[zA,zB,zC,zD,bytesW];omega)) only[go_sem,hlt',hd]
   exact ⟨⟨by omega,by omega⟩,k+1,rfl,⟨by rw [itemsTo_none hlt hr]; exact j4,by omega⟩,by omega⟩
  ·have hd:decide (L[k]≠[])=true:=decide_eq_true hr
   simp (disch:=first|omega|exact zF rfl|exact zG rfl|exact fun h=>h|(simp only[zA,zB,zC,zD,bytesW];omega)) only[go_sem,hlt',hd]
   refine callW_mono (hf _ (k,L[k]) _ j4 ?_) ?_
   ·obtain ⟨r,e⟩:=itemsTo_pre (L:=L) (show k+1≤L.length by omega)
    exact ⟨r,by rw [e,itemsTo_some hlt hr]; simp⟩
   ·rintro _ w5 ⟨rfl,j5⟩
    simp (disch:=first|omega|exact zF rfl|exact zG rfl|exact fun h=>h|(simp only[zA,zB,zC,zD,bytesW];omega)) only[go_sem,hlt',hd]
    exact ⟨⟨by omega,by omega⟩,k+1,rfl,⟨by rw [itemsTo_some hlt hr]; exact j5,by omega⟩,by omega⟩
 ·have hlt':¬ (k:Int)<L.length:=by omega
  obtain rfl:k=L.length:=by omega
  simp (disch:=first|omega|exact zF rfl|exact zG rfl|exact fun h=>h|(simp only[zA,zB,zC,zD,bytesW];omega)) only[go_sem,hlt']
  exact j3
theorem all_ok(s:List UInt8)(w:World):Ret Tryz.prog 101 [.string (ofL s)] w fun v w'=>v=.func (.func 149) #[] #[.pointer (some ⟨w.heap.size,0,none⟩)]∧w'=w.alloc (.cells #[.string (ofL s)] 9):=by
 refine ent101 _ _ _ ?_
 simp (disch:=first|omega|exact zF rfl|exact zG rfl|exact fun h=>h|(simp only[zA,zB,zC,zD,bytesW];omega)) only[go_sem]
def fillP(n:Nat)(l:List (Nat × List UInt8)):List (List UInt8):=l.foldl (fun l x=>l.set x.1 x.2) (List.replicate n [])
theorem fillP_len(n:Nat):∀ l:List (Nat × List UInt8),(fillP n l).length=n:=by
 intro l
 unfold fillP
 have:∀ (l:List (Nat × List UInt8)) (a:List (List UInt8)),(l.foldl (fun l x=>l.set x.1 x.2) a).length=a.length:=by
  intro l
  induction l with
  | nil=>intro a; rfl
  | cons x l ih=>intro a; rw [List.foldl_cons,ih,List.length_set]
 rw [this,List.length_replicate]
theorem fillP_snoc(n:Nat)(l:List (Nat × List UInt8))(x:Nat × List UInt8):fillP n (l++[x])=(fillP n l).set x.1 x.2:=by unfold fillP; rw [List.foldl_append]; rfl
theorem strs_set:∀ (l:List (List UInt8)) (i:Nat) (r:List UInt8),(l.set i r).flatMap strE=(l.flatMap strE).set i (.string (ofL r))
 | [],_,_=>rfl
 | a::l,0,r=>rfl
 | a::l,i+1,r=>by
  rw [List.set_cons_succ,List.flatMap_cons,List.flatMap_cons,strs_set l i r]; rfl
theorem strs_len(l:List (List UInt8)):(l.flatMap strE).length=l.length:=by
 induction l with
 | nil=>rfl
 | cons a l ih=>rw [List.flatMap_cons,List.length_append,ih,List.length_cons]; simp only [strE,List.length_singleton]; omega
theorem itemsTo_mem{L:List (List UInt8)}:∀ {k:Nat} {x:Nat × List UInt8},x∈itemsTo L k→x.1<L.length
 | 0,x,h=>by cases h
 | k+1,x,h=>by
  rw [itemsTo] at h
  rcases List.mem_append.1 h with h | h
  ·exact itemsTo_mem h
  ·split at h
   ·rename_i r hr
    split at h
    ·cases h
    ·rw [List.mem_singleton] at h; subst h; exact (List.getElem?_eq_some_iff.1 hr).1
   ·cases h
theorem fillP_items{L:List (List UInt8)}:∀ {k:Nat},k≤L.length→fillP L.length (itemsTo L k)=L.take k++List.replicate (L.length - k) []
 | 0,_=>by simp [itemsTo,fillP]
 | k+1,h=>by
  have ih:=fillP_items (L:=L) (k:=k) (by omega)
  rw [List.take_succ_eq_append_getElem (by omega)]
  have e:List.replicate (L.length - k) ([]:List UInt8)=[]::List.replicate (L.length - (k+1)) []:=by
   rw [show L.length - k=(L.length - (k+1))+1 by omega,List.replicate_succ]
  by_cases hr:L[k]=[]
  ·rw [itemsTo_none (by omega) hr,ih,e,hr,List.append_assoc]; rfl
  ·rw [itemsTo_some (by omega) hr,fillP_snoc,ih,e,List.set_append_right _ _ (by simp; omega)]
   have hk:k - (L.take k).length=0:=by rw [List.length_take]; omega
   rw [hk,List.set_cons_zero,List.append_assoc]; rfl
theorem zeros_strs(n:Nat):zerosA (.string (ofL [])) n=((fillP n []).flatMap strE).toArray:=by
 have:∀ n:Nat,(List.replicate n ([]:List UInt8)).flatMap strE=List.replicate n (.string (ofL [])):=by
  intro n
  induction n with
  | zero=>rfl
  | succ n ih=>rw [List.replicate_succ,List.flatMap_cons,ih,List.replicate_succ]; rfl
 unfold fillP zerosA
 rw [List.foldl_nil,this]
 simp
theorem list_ok(s:List UInt8)(L:List (List UInt8))(w:World)(hp:Pg s L):Ret Tryz.prog 120 [.string (ofL s)] w fun u w'=>w'.ownsRow w.heap.size 9 1 u L.length (L.flatMap strE)∧Below w.heap.size w w':=by
 refine ent120 _ _ _ ?_
 have hne:s≠[]:=by rintro rfl; have:=hp.lo; simp at this
 have hfew:=hp.few
 simp (disch:=first|omega|exact zF rfl|exact zG rfl|exact fun h=>h|(simp only[zA,zB,zC,zD,bytesW];omega)) only[go_sem]
 refine Ret.mono (places_ok _ _) ?_
 rintro _ w2 ⟨rfl,b2⟩
 rw [if_neg hne,hp.n]
 simp (disch:=first|omega|exact zF rfl|exact zG rfl|exact fun h=>h|(simp only[zA,zB,zC,zD,bytesW];omega)) only[go_sem]
 refine msW_one ty22mkI rfl (by omega) (by omega) (by omega) (by omega) ?_
 have s2:=(St.start (W0:=w)).call b2
 rw [Int.toNat_natCast]
 have s3:=s2.box (zerosA (.string (ofL [])) L.length) 9
 generalize w2.heap.size=g at s3 ⊢
 generalize w2.alloc (.cells (zerosA (.string (ofL [])) L.length) 9)=w3 at s3 ⊢
 simp (disch:=first|omega|exact zF rfl|exact zG rfl|exact fun h=>h|(simp only[zA,zB,zC,zD,bytesW];omega)) only[go_sem]
 have s4:=s3.box #[.slice (some ⟨g,0,none⟩) L.length L.length] 22
 generalize w3.alloc (.cells #[.slice (some ⟨g,0,none⟩) L.length L.length] 22)=w4 at s4 ⊢
 refine Ret.mono (all_ok s w4) ?_
 rintro _ w5 ⟨rfl,rfl⟩
 simp (disch:=first|omega|exact zF rfl|exact zG rfl|exact fun h=>h|(simp only[zA,zB,zC,zD,bytesW];omega)) only[go_sem]
 have s5:=s4.box #[.string (ofL s)] 9
 generalize w4.alloc (.cells #[.string (ofL s)] 9)=w5 at s5 ⊢
 rw [zeros_strs] at s5
 refine RangeW_all (fun x:Nat × List UInt8=>[.int .i64 x.1,.string (ofL x.2)]) (itemsTo L L.length) (fun pre=>[.blk w4.heap.size #[.string (ofL s)] 9,.blk w3.heap.size #[.slice (some ⟨g,0,none⟩) L.length L.length] 22,.blk g ((fillP L.length pre).flatMap strE).toArray 9]) rfl (by kernel_rfl) s5 rfl (fun _=>rfl) ?_ ?_ ?_
 ·intro fv J w1 hJ1 hJ2 hf h0
  refine all1_ok fv _ s L J w1 hp (fun pre w' h=>?_) hJ2 hf h0
  obtain ⟨l,D,o,h⟩:=hJ1 pre w' h
  exact (h.rules 2 rfl).1 0
 ·intro pre x w' l D o o2 hx h
  simp (disch:=first|omega|exact zF rfl|exact zG rfl|exact fun h=>h|(simp only[zA,zB,zC,zD,bytesW];omega)) only[go_sem]
  have hx1:x.1<L.length:=by obtain ⟨r,e⟩:=hx; exact itemsTo_mem (k:=L.length) (by rw [← e]; simp)
  refine ⟨_,h,fun w2 h2=>?_⟩
  have r3:=h2.rules 3 rfl
  have r4:=h2.rules 4 rfl
  have hl:=strs_len (fillP L.length pre)
  rw [fillP_len] at hl
  have hx1':(x.1:Int)<L.length:=by omega
  simp (disch:=first|omega|exact zF rfl|exact zG rfl|exact fun h=>h|(simp only[zA,zB,zC,zD,bytesW];omega)) only[go_sem,r3,r4,hx1']
  refine ⟨by omega,⟨_,List.getElem?_eq_getElem (by rw [hl]; exact hx1)⟩,?_⟩
  have h3:=h2.set 4 rfl x.1 (.string (ofL x.2))
  simp only [List.set_cons_succ,List.set_cons_zero,List.setIfInBounds_toArray] at h3
  rw [fillP_snoc,strs_set]
  exact h3
 ·intro D w' h
  have r2:=h.rules 2 rfl
  have hD:=h.obj 0 rfl
  simp (disch:=first|omega|exact zF rfl|exact zG rfl|exact fun h=>h|(simp only[zA,zB,zC,zD,bytesW];omega)) only[go_sem,r2,hD]
  have h2:=h.putObj 0 rfl (.deferred none)
  simp only [List.set_cons_zero] at h2
  have e:fillP L.length (itemsTo L L.length)=L:=by rw [fillP_items (Nat.le_refl _)]; simp
  rw [e] at h2
  refine ⟨(h2.blk 3 rfl).own (h2.low 3 rfl).1 (Nat.le_refl _) (by have:maxLen=9223372036854775807:=(by decide); omega) (by rw [List.size_toArray,strs_len,Nat.mul_one]) ?_,h2.bel⟩
  rw [Nat.mul_one]
  exact List.take_of_length_le (by rw [strs_len]; exact Nat.le_refl _)
end Go.Proofs.YtkmjkmjpejmlnaaGreat.Slt

namespace Go.Proofs.YtkmjkmjpejmlnaaGreat.Slt
open Go Go.Ann Go.RowKit
def sumP(L:List (List UInt8)):Nat:=(L.map List.length).sum
def takesP(L:List (List UInt8)):Nat:=1+2 * L.length+sumP L
def vacantP(L:List (List UInt8)):Nat:=L.findIdx fun r=>decide (r=[])
theorem sumP_append(a b:List (List UInt8)):sumP (a++b)=sumP a+sumP b:=by unfold sumP; rw [List.map_append,List.sum_append]
theorem sumP_one(r:List UInt8):sumP [r]=r.length:=by simp [sumP]
theorem sumP_take{L:List (List UInt8)}{k:Nat}(h:k<L.length):sumP (L.take (k+1))=sumP (L.take k)+L[k].length:=by
 rw [List.take_succ_eq_append_getElem h,sumP_append,sumP_one]
theorem sumP_le{L:List (List UInt8)}(k:Nat):sumP (L.take k)≤sumP L:=by
 have:=sumP_append (L.take k) (L.drop k)
 rw [List.take_append_drop] at this
 omega
theorem RdS.str{w:World}{ad:Addr}{n cap:Nat}{l:List (List UInt8)}(h:RdS w 1 strE (.slice (some ad) n cap) l){k:Nat}(hk:k<l.length):w.cell? (ad.add k)=some (.string (ofL l[k])) :=
 RdS.at1 (e1:=fun r=>.string (ofL r)) h hk
theorem findIdx_at{α:Type}{p:α→Bool}{l:List α}{k:Nat}(h:k<l.length)(hp:p l[k]=true)(hn:∀ j,(h:j<l.length)→j<k→p l[j]=false):l.findIdx p=k:=by
 rw [List.findIdx_eq h]
 exact ⟨hp,fun j hj=>hn j (by omega) hj⟩
theorem findIdx_none{α:Type}{p:α→Bool}{l:List α}(hn:∀ j,(h:j<l.length)→p l[j]=false):l.findIdx p=l.length:=by
 rw [List.findIdx_eq_length]
 intro x hx
 obtain ⟨j,hj,rfl⟩:=List.mem_iff_getElem.1 hx
 exact hn j hj
theorem index_ok(v:Value)(l:List (List UInt8))(r:List UInt8)(w:World)(h:RdS w 1 strE v l)(hl:(l.length:Int)≤9223372036854775806) :
  Ret Tryz.prog 123 [v,.string (ofL r)] w fun u w'=>u=.int .i64 (if l.findIdx (fun x=>decide (x=r))<l.length then (l.findIdx fun x=>decide (x=r):Nat) else -1)∧Below w.heap.size w w':=by
 obtain ⟨a,c,rfl,_⟩:=h.form
 refine ent123 _ _ _ _ ?_
 simp (disch:=first|omega|exact zF rfl|exact zG rfl|exact fun h=>h|(simp only[zA,zB,zC,zD,bytesW];omega)) only[go_sem]
 refine W_loopU (fun k:Nat=>[(8,.int .i64 k)]) (fun k w'=>Below w.heap.size w w'∧k≤l.length∧∀ j,(h:j<l.length)→j<k→decide (l[j]=r)=false) (fun k=>l.length - k) 0 rfl ⟨Below.refl _ _,Nat.zero_le _,fun j _ h=>by omega⟩ ?_
 rintro k w1 ⟨b1,hk,he⟩
 by_cases hlt:k<l.length
 ·have hlt':(k:Int)<l.length:=by omega
  obtain ⟨p,rfl⟩:=h.ptr (by omega)
  have ek:=RdS.str (h.below b1 (by decide)) hlt
  simp (disch:=first|omega|exact zF rfl|exact zG rfl|exact fun h=>h|(simp only[zA,zB,zC,zD,bytesW];omega)) only[go_sem,hlt',ek]
  refine ⟨by omega,fun e1=>⟨?_,b1⟩,fun e1=>⟨⟨by omega,by omega⟩,k+1,rfl,⟨b1,by omega,fun j h1 h3=>?_⟩,by omega⟩⟩
  ·have e1':r=l[k]:=of_decide_eq_true e1
   rw [findIdx_at hlt (decide_eq_true e1'.symm) he,if_pos hlt]
  ·rcases Nat.lt_or_ge j k with h' | h'
   ·exact of_decide_eq_false (he j h1 h')
   ·obtain rfl:j=k:=by omega
    exact fun e=>of_decide_eq_false e1 (Eq.symm e)
 ·have hlt':¬ (k:Int)<l.length:=by omega
  simp (disch:=first|omega|exact zF rfl|exact zG rfl|exact fun h=>h|(simp only[zA,zB,zC,zD,bytesW];omega)) only[go_sem,hlt']
  rw [findIdx_none fun j hj=>he j hj (by omega),if_neg (by omega)]
  exact ⟨rfl,b1⟩
theorem contains_ok(v:Value)(l:List (List UInt8))(r:List UInt8)(w:World)(h:RdS w 1 strE v l)(hl:(l.length:Int)≤9223372036854775806) :
  Ret Tryz.prog 122 [v,.string (ofL r)] w fun u w'=>u=.bool (decide (l.findIdx (fun x=>decide (x=r))<l.length))∧Below w.heap.size w w':=by
 refine ent122 _ _ _ _ ?_
 simp (disch:=first|omega|exact zF rfl|exact zG rfl|exact fun h=>h|(simp only[zA,zB,zC,zD,bytesW];omega)) only[go_sem]
 refine Ret.mono (index_ok v l r w h hl) ?_
 rintro _ w2 ⟨rfl,b2⟩
 simp (disch:=first|omega|exact zF rfl|exact zG rfl|exact fun h=>h|(simp only[zA,zB,zC,zD,bytesW];omega)) only[go_sem]
 refine ⟨?_,b2⟩
 by_cases hh:l.findIdx (fun x=>decide (x=r))<l.length
 ·rw [if_pos hh,decide_eq_true hh]; simp
 ·rw [if_neg hh,decide_eq_false hh]; simp
theorem used_ok(v:Value)(l:List (List UInt8))(w:World)(h:RdS w 1 strE v l)(hl:l.length≤1000)(hs:sumP l≤1000000) :
  Ret Tryz.prog 121 [v] w fun u w'=>u=.int .i64 (takesP l)∧Below w.heap.size w w':=by
 obtain ⟨a,c,rfl,_⟩:=h.form
 refine ent121 _ _ _ ?_
 simp (disch:=first|omega|exact zF rfl|exact zG rfl|exact fun h=>h|(simp only[zA,zB,zC,zD,bytesW];omega)) only[go_sem]
 refine ⟨⟨by omega,by omega⟩,⟨by omega,by omega⟩,?_⟩
 refine W_loopU (fun k:Nat=>[(3,.int .i64 (1+2 * (l.length:Int)+sumP (l.take k))),(12,.int .i64 k)]) (fun k w'=>Below w.heap.size w w'∧k≤l.length) (fun k=>l.length - k) 0 rfl ⟨Below.refl _ _,Nat.zero_le _⟩ ?_
 rintro k w1 ⟨b1,hk⟩
 by_cases hlt:k<l.length
 ·have hlt':(k:Int)<l.length:=by omega
  obtain ⟨p,rfl⟩:=h.ptr (by omega)
  have ek:=RdS.str (h.below b1 (by decide)) hlt
  have h1:=sumP_take hlt
  have h2:=sumP_le (L:=l) (k+1)
  simp (disch:=first|omega|exact zF rfl|exact zG rfl|exact fun h=>h|(simp only[zA,zB,zC,zD,bytesW];omega)) only[go_sem,hlt',ek]
  refine ⟨by omega,⟨by omega,by omega⟩,⟨by omega,by omega⟩,k+1,?_,⟨b1,by omega⟩,by omega⟩
  rw [h1,Int.natCast_add,← Int.add_assoc]; rfl
 ·have hlt':¬ (k:Int)<l.length:=by omega
  obtain rfl:k=l.length:=by omega
  simp (disch:=first|omega|exact zF rfl|exact zG rfl|exact fun h=>h|(simp only[zA,zB,zC,zD,bytesW];omega)) only[go_sem,hlt']
  refine ⟨?_,b1⟩
  rw [List.take_length]; unfold takesP; omega
def PgV(w:World)(u:Value)(n:Int)(L:List (List UInt8)):Prop:=∃ vL,u=.agg #[.int .i64 n,vL]∧RdS w 1 strE vL L
theorem PgV.below{w w':World}{u:Value}{n:Int}{L:List (List UInt8)}(h:PgV w u n L)(hb:Below w.heap.size w w'):PgV w' u n L:=by
 obtain ⟨v,rfl,h⟩:=h
 exact ⟨v,rfl,h.below hb (by decide)⟩
theorem strs_take:∀ (l:List (List UInt8)) (k:Nat),(l.flatMap strE).take k=(l.take k).flatMap strE
 | [],k=>by simp
 | a::l,0=>rfl
 | a::l,k+1=>by rw [List.take_succ_cons,List.flatMap_cons,List.flatMap_cons,← strs_take l k]; rfl
theorem offA_zero{a:Option Addr}{c sz:Nat}:offA a c 0 sz=a:=by
 unfold offA
 rw [Nat.zero_mul]
 split
 ·rfl
 ·cases a with
  | none=>rfl
  | some a=>exact congrArg some (by unfold Addr.add; rfl)
theorem rd_take{w:World}{sz n k cap:Nat}{a:Option Addr}{xs:List Value}(h:Rd w sz (.slice a n cap) n xs)(hk:k≤n):Rd w sz (.slice (offA a cap 0 sz) k cap) k (xs.take (k * sz)):=by
 rw [offA_zero]; exact h.take hk
def trimN(L:List (List UInt8)):Nat→Nat
 | 0=>0
 | n+1=>if L[n]?=some [] then trimN L n else n+1
def trimP(L:List (List UInt8)):List (List UInt8):=L.take (trimN L L.length)
theorem trimN_le(L:List (List UInt8)):∀ n,trimN L n≤n
 | 0=>Nat.le_refl _
 | n+1=>by
  simp only [trimN]
  split
  ·exact Nat.le_succ_of_le (trimN_le L n)
  ·exact Nat.le_refl _
end Go.Proofs.YtkmjkmjpejmlnaaGreat.Slt

namespace Go.Proofs.YtkmjkmjpejmlnaaGreat.Slt
open Go Go.Ann Go.RowKit
def u8(n:Nat):UInt8:=UInt8.ofNat n
theorem wrap_u8(n:Nat):IntKind.u8.wrap (n:Int)=((u8 n).toNat:Int):=by
 rw [wrap_u8_mod]
 unfold u8
 simp
def bytesC(b:List UInt8):Array Value:=(b.map fun x=>Value.int .u8 x.toNat).toArray
theorem bytesC_set(b:List UInt8)(j:Nat)(x:UInt8):(bytesC b).setIfInBounds j (.int .u8 x.toNat)=bytesC (b.set j x):=by
 simp [bytesC,List.map_set]
theorem bytesC_get{b:List UInt8}{j:Nat}(h:j<b.length):∃ v,(bytesC b)[j]?=some v:=⟨.int .u8 b[j].toNat,by simp [bytesC,h]⟩
def putTo(b:List UInt8)(e:Nat)(r:List UInt8)(k:Nat):List UInt8:=b.take e++r.take k++b.drop (e+k)
theorem putTo_len{b r:List UInt8}{e k:Nat}(h:e+k≤b.length)(hk:k≤r.length):(putTo b e r k).length=b.length:=by
 unfold putTo; simp; omega
theorem putTo_zero(b r:List UInt8)(e:Nat):putTo b e r 0=b:=by unfold putTo; simp
theorem putTo_succ{b r:List UInt8}{e k:Nat}(h:e+k<b.length)(hk:k<r.length):(putTo b e r k).set (e+k) r[k]=putTo b e r (k+1):=by
 unfold putTo
 have h1:(b.take e++r.take k).length=e+k:=by simp; omega
 rw [List.set_append_right _ _ (by omega),h1,Nat.sub_self,List.drop_eq_getElem_cons h,List.set_cons_zero,List.take_succ_eq_append_getElem hk,Nat.add_assoc]
 simp only [List.append_assoc,List.singleton_append]
def putAt(b:List UInt8)(e:Nat)(r:List UInt8):List UInt8:=putTo b e r r.length
def layS(i:Nat)(st:List UInt8 × Nat)(r:List UInt8):List UInt8 × Nat :=
 if r=[] then st else (putAt ((st.1.set (1+2 * i) (u8 (st.2 - r.length))).set (2+2 * i) (u8 r.length)) (st.2 - r.length) r,st.2 - r.length)
def layTo(size:Nat)(L:List (List UInt8)):Nat→List UInt8 × Nat
 | 0=>((List.replicate size 0).set 0 (u8 L.length),size)
 | k+1=>match L[k]? with | some r=>layS k (layTo size L k) r | none=>layTo size L k
def textP(size:Nat)(L:List (List UInt8)):List UInt8:=(layTo size L L.length).1
theorem layTo_succ{size:Nat}{L:List (List UInt8)}{k:Nat}(h:k<L.length):layTo size L (k+1)=layS k (layTo size L k) L[k]:=by
 simp only [layTo,List.getElem?_eq_getElem h]
structure Fits(size:Nat)(L:List (List UInt8)):Prop where
 lo:8≤size
 hi:size≤256
 room:takesP L≤size
theorem layTo_end{size:Nat}{L:List (List UInt8)}(h:Fits size L):∀ {k:Nat},k≤L.length→(layTo size L k).2+sumP (L.take k)=size
 | 0,_=>by simp [layTo,sumP]
 | k+1,hk=>by
  have ih:=layTo_end h (k:=k) (by omega)
  have h1:=sumP_take (L:=L) (k:=k) (by omega)
  have h2:=sumP_le (L:=L) (k+1)
  have h3:=h.room
  unfold takesP at h3
  rw [layTo_succ (by omega)]
  unfold layS
  split
  ·rename_i e; rw [e] at h1; simp at h1; omega
  ·simp only; omega
theorem layTo_len{size:Nat}{L:List (List UInt8)}(h:Fits size L):∀ {k:Nat},k≤L.length→(layTo size L k).1.length=size
 | 0,_=>by simp [layTo]
 | k+1,hk=>by
  have ih:=layTo_len h (k:=k) (by omega)
  have he:=layTo_end h (k:=k) (by omega)
  have h1:=sumP_take (L:=L) (k:=k) (by omega)
  have h2:=sumP_le (L:=L) (k+1)
  have h3:=h.room
  unfold takesP at h3
  rw [layTo_succ (by omega)]
  unfold layS
  split
  ·exact ih
  ·unfold putAt
   rw [putTo_len (by rw [List.length_set,List.length_set,ih]; omega) (Nat.le_refl _),List.length_set,List.length_set,ih]
theorem zeros_bytes(n:Nat):zerosA (.int .u8 0) n=bytesC (List.replicate n 0):=by simp [zerosA,bytesC]
theorem setCellsW_append{p:Addr}:∀ (l1 l2:List Value) (i:Nat) (w:World),setCellsW w p i (l1++l2)=setCellsW (setCellsW w p i l1) p (i+l1.length) l2
 | [],l2,i,w=>by simp [setCellsW]
 | v::r,l2,i,w=>by
  rw [List.cons_append,setCellsW,setCellsW,setCellsW_append r l2,List.length_cons]
  congr 1; omega
theorem St.copyS{W0 w:World}{F:Nat→Prop}{L:List Res}{I:List Inv}{K:Value→World→Prop}(h:St W0 w F L I)(i:Nat){g n c e:Nat}{b r:List UInt8}{ty:TypeId}{cs:Array Bool}(hi:L[i]?=some (.blk g (bytesC b) 5))
  (hr:r.length≤n) (hb:e+r.length≤b.length) (hK:∀ w',St W0 w' F (L.set i (.blk g (bytesC (putAt b e r)) 5)) I→K (.int .i64 r.length) w') :
  rawB Tryz.prog .copy #[181,9] ty cs [.slice (some ⟨g,e,none⟩) n c,.string (ofL r)] w K:=by
 have hb0:=h.blk i hi
 have rr:=hb0.rules
 have hu:Tryz.prog.underlying 181=some (.slice 5):=by kernel_rfl
 have hsz:(sizeOf 5).run Tryz.prog w=.ok 1 w:=by kernel_rfl
 have hex:((ofL r).extract 0 r.length).data.map (fun b=>Value.int .u8 b.toNat)=(r.map fun b=>Value.int .u8 b.toNat).toArray:=by
  have:(ofL r).extract 0 r.length=ofL r:=by
   have h1:(ofL r).size=r.length:=by simp [ofL,ByteArray.size]
   rw [← h1]; exact ByteArray.extract_zero_size
  rw [this]; simp [ofL]
 have hst:=run_storeCells_W (P:=Tryz.prog) (r.map fun b=>Value.int .u8 b.toNat) 0 w ⟨g,e,none⟩ (by intro u hu; obtain ⟨x,_,rfl⟩:=List.mem_map.1 hu; rfl) (fun j hj=>by
  rw [List.length_map] at hj
  rw [Nat.zero_add,Addr.add_lit,rr.1,rr.2.1]
  exact ⟨bytesC_get (by omega),rfl⟩)
 refine ⟨.int .i64 r.length,setCellsW w ⟨g,e,none⟩ 0 (r.map fun b=>Value.int .u8 b.toNat),?_,hK _ ?_⟩
 ·have h1:(ofL r).size=r.length:=by simp [ofL,ByteArray.size]
  have hmin:Nat.min r.length n=r.length:=Nat.min_eq_left hr
  simp only [builtin,Builtin.copy_,Sem.run_bind,run_underlying hu,Result.andThen,Sem.run_pure,Builtin.lenOf,Builtin.firstCells,hsz,h1,hmin,hex,hst]
  have e3:(ofL r).size.min n=r.length:=by rw [h1]; exact hmin
  have e4:List.take r.length (List.map (fun b=>Value.int .u8 b.toNat) (ofL r).data.toList)=r.map fun b=>Value.int .u8 b.toNat:=by
   rw [List.take_of_length_le (by simp [ofL])]; rfl
  simp [Result.andThen,goInt,Sem.run_bind,e3,e4,hst]
 ·have key:∀ (k:Nat),k≤r.length→St W0 (setCellsW w ⟨g,e,none⟩ 0 ((r.take k).map fun b=>Value.int .u8 b.toNat)) F (L.set i (.blk g (bytesC (putTo b e r k)) 5)) I:=by
   intro k
   induction k with
   | zero =>
    intro _
    rw [putTo_zero]
    have e0:L.set i (.blk g (bytesC b) 5)=L:=by
     apply List.ext_getElem?
     intro j
     rw [List.getElem?_set]
     split
     ·rename_i e; subst e; rw [hi]; simp [(List.getElem?_eq_some_iff.1 hi).1]
     ·rfl
    rw [e0]; exact h
   | succ k ih =>
    intro hk
    have ih':=ih (by omega)
    have hlt:i<L.length:=(List.getElem?_eq_some_iff.1 hi).1
    have s':=ih'.set i (by rw [List.getElem?_set_self hlt]) (e+k) (.int .u8 (r[k].toNat:Int))
    rw [List.set_set,bytesC_set,putTo_succ (by omega) (by omega)] at s'
    rw [List.take_succ_eq_append_getElem (by omega),List.map_append,setCellsW_append]
    simp only [List.map_cons,List.map_nil,setCellsW,List.length_map,List.length_take,Nat.zero_add,Addr.add_lit,Nat.min_eq_left (show k≤r.length by omega)]
    exact s'
  have:=key r.length (Nat.le_refl _)
  rw [List.take_length] at this
  exact this
theorem layC{b r:List UInt8}{e j:Nat}{x:UInt8}(hj:j<e)(hb:e+r.length≤b.length):(putAt b e r).set j x=putAt (b.set j x) e r:=by
 unfold putAt putTo
 rw [List.append_assoc,List.set_append_left _ _ (by simp; omega),List.take_set,List.drop_set_of_lt (by omega),List.append_assoc]
theorem lay6{a:Option Addr}{c:Nat}{size:Nat}{L:List (List UInt8)}{w:World}{K:Value→World→Prop}(h:RdS w 1 strE (.slice a L.length c) L)(hf:Fits size L)(hK:∀ w',Below w.heap.size w w'→K (.string (ofL (textP size L))) w') :
  W Tryz.prog (c124S6 ()) [(0,.int .i64 size),(1,.slice a L.length c)] w (finQ Tryz.prog [.tmp 4] K):=by
 have hhi:=hf.hi
 have hlo:=hf.lo
 have hroom:=hf.room
 unfold takesP at hroom
 simp (disch:=first|omega|exact zF rfl|exact zG rfl|exact fun h=>h|(simp only[zA,zB,zC,zD,bytesW];omega)) only[go_sem,c124S6]
 refine msW_one ty181mkI rfl (by omega) (by omega) (by omega) (by omega) ?_
 rw [Int.toNat_natCast,zeros_bytes]
 have s2:=(St.start (W0:=w)).box (bytesC (List.replicate size 0)) 5
 obtain ⟨g,hg⟩:∃ g,g=w.heap.size:=⟨_,rfl⟩
 rw [← hg] at s2 ⊢
 generalize w.alloc (.cells (bytesC (List.replicate size 0)) 5)=w2 at s2 ⊢
 have r2:=s2.rules 0 rfl
 simp (disch:=first|omega|exact zF rfl|exact zG rfl|exact fun h=>h|(simp only[zA,zB,zC,zD,bytesW];omega)) only[go_sem,c124S6,r2]
 refine ⟨by omega,bytesC_get (by simp; omega),?_⟩
 have s3:=s2.set 0 rfl 0 (.int .u8 (IntKind.u8.wrap (L.length:Int)))
 simp only [List.set_cons_zero] at s3
 rw [wrap_u8,bytesC_set] at s3
 rw [wrap_u8]
 generalize w2.setCell ⟨g,0,none⟩ (.int .u8 ((u8 L.length).toNat:Int))=w3 at s3 ⊢
 refine W_loopU (fun i:Nat=>[(6,.int .i64 ((layTo size L i).2:Nat)),(36,.int .i64 i)]) (fun i w'=>St w w' (fun _=>False) [.blk g (bytesC (layTo size L i).1) 5] []∧i≤L.length) (fun i=>L.length - i) 0 rfl ⟨s3,Nat.zero_le _⟩ ?_
 rintro i w4 ⟨s4,hi⟩
 have h4:=h.below s4.bel (by decide)
 by_cases hlt:i<L.length
 ·have hlt':(i:Int)<L.length:=by omega
  obtain ⟨p,rfl⟩:=h.ptr (by omega)
  have ei:=RdS.str h4 hlt
  have hend:=layTo_end hf (k:=i) hi
  have hlen:=layTo_len hf (k:=i) hi
  have hs1:=sumP_take hlt
  have hs2:=sumP_le (L:=L) (i+1)
  have hsucc:=layTo_succ (size:=size) hlt
  have ht1:((1:Int)+2 * (i:Int)).toNat=1+2 * i:=by omega
  have ht2:((1:Int)+2 * (i:Int)+1).toNat=2+2 * i:=by omega
  obtain ⟨e,he⟩:∃ e,e=(layTo size L i).2 - L[i].length:=⟨_,rfl⟩
  have hee:((layTo size L i).2:Int) - (L[i].length:Int)=(e:Int):=by omega
  simp (disch:=first|omega|exact zF rfl|exact zG rfl|exact fun h=>h|(simp only[zA,zB,zC,zD,bytesW];omega)) only[go_sem,c124S6,hlt',ei]
  refine ⟨by omega,fun hr=>?_,fun hr=>?_⟩
  ·have hr':=of_decide_eq_true hr
   have e1:layTo size L (i+1)=layTo size L i:=by rw [hsucc,layS,if_pos hr']
   exact ⟨⟨by omega,by omega⟩,i+1,by rw [e1]; rfl,⟨by rw [e1]; exact s4,by omega⟩,by omega⟩
  ·have hr':=of_decide_eq_false hr
   have e1:layTo size L (i+1)=(putAt (((layTo size L i).1.set (1+2 * i) (u8 e)).set (2+2 * i) (u8 L[i].length)) e L[i],e):=by rw [hsucc,layS,if_neg hr',he]
   have hpos:=List.length_pos_iff.2 hr'
   rw [hee]
   have hoff2:offA (some ⟨g,0,none⟩) size ((e:Int)).toNat 1=some ⟨g,e,none⟩:=by
    rw [Int.toNat_natCast]
    unfold offA
    rw [if_neg (by omega)]
    simp [Addr.add_lit]
   have h1e:(0:Int)≤e:=by omega
   refine ⟨⟨by omega,by omega⟩,⟨by omega,by omega⟩,?_⟩
   rw [hoff2]
   refine St.copyS s4 0 rfl (by rw [Int.toNat_natCast]; omega) (by omega) ?_
   intro w5 s5
   simp only [List.set_cons_zero] at s5
   have r5:=s5.rules 0 rfl
   have hpl:(putAt (layTo size L i).1 e L[i]).length=size:=by unfold putAt; rw [putTo_len (by omega) (Nat.le_refl _),hlen]
   simp (disch:=first|omega|exact zF rfl|exact zG rfl|exact fun h=>h|(simp only[zA,zB,zC,zD,bytesW];omega)) only[go_sem,c124S6,hlt',ei]
   rw [ht1,ht2,r5.1,r5.1,r5.2.1,r5.2.1]
   have s6:=(s5.set 0 rfl (1+2 * i) (.int .u8 (IntKind.u8.wrap (e:Int)))).set 0 rfl (2+2 * i) (.int .u8 (IntKind.u8.wrap (L[i].length:Int)))
   simp only [List.set_cons_zero] at s6
   rw [wrap_u8,wrap_u8,bytesC_set,bytesC_set,layC (by omega) (by omega),layC (by omega) (by rw [List.length_set]; omega)] at s6
   rw [wrap_u8,wrap_u8]
   exact ⟨⟨by omega,by omega⟩,⟨by omega,by omega⟩,⟨by omega,by omega⟩,⟨by omega,by omega⟩,⟨by omega,by omega⟩,⟨by omega,by omega⟩,bytesC_get (by omega),rfl,⟨by omega,by omega⟩,bytesC_get (by omega),rfl,⟨by omega,by omega⟩,i+1,by rw [e1]; rfl,⟨by rw [e1]; exact s6,by omega⟩,by omega⟩
 ·have hlt':¬ (i:Int)<L.length:=by omega
  obtain rfl:i=L.length:=by omega
  have r4:=s4.rules 0 rfl
  simp (disch:=first|omega|exact zF rfl|exact zG rfl|exact fun h=>h|(simp only[zA,zB,zC,zD,bytesW];omega)) only[go_sem,c124S6,hlt',r4]
  refine ⟨_,layTo_len hf (Nat.le_refl _),fun j b hb=>?_,hK _ s4.bel⟩
  rw [Addr.add_lit,Nat.zero_add,r4.1]
  simp [bytesC,hb]
theorem lay_ok(v:Value)(size:Nat)(l:List (List UInt8))(w:World)(h:RdS w 1 strE v l)(hl:l.length≤1000)(hf:Fits size (trimP l)) :
  Ret Tryz.prog 124 [.int .i64 size,v] w fun u w'=>u=.string (ofL (textP size (trimP l)))∧Below w.heap.size w w':=by
 obtain ⟨a,c,rfl,_⟩:=h.form
 have hhi:=hf.hi
 have hlo:=hf.lo
 have hroom:=hf.room
 unfold takesP at hroom
 refine ent124 _ _ _ _ ?_
 simp (disch:=first|omega|exact zF rfl|exact zG rfl|exact fun h=>h|(simp only[zA,zB,zC,zD,bytesW];omega)) only[go_sem,c124S6]
 refine W_loopU (fun k:Nat=>[(1,.slice a k c)]) (fun k w'=>Below w.heap.size w w'∧k≤l.length∧trimN l l.length=trimN l k) (fun k=>k) l.length rfl ⟨Below.refl _ _,Nat.le_refl _,rfl⟩ ?_
 rintro k w1 ⟨b1,hk,he⟩
 have h1:=h.below b1 (by decide)
 have hoff:offA a c 0 1=a:=offA_zero
 have fin:∀ k,k≤l.length→trimN l l.length=k→W Tryz.prog (c124S6 ()) [(0,.int .i64 size),(1,.slice a k c)] w1 (finQ Tryz.prog [.tmp 4] fun u w'=>u=.string (ofL (textP size (trimP l)))∧Below w.heap.size w w'):=by
  intro k hk e
  have h2:=rd_take (show Rd w1 1 (.slice a l.length c) l.length (l.flatMap strE) from h1) hk
  rw [Nat.mul_one,hoff,strs_take] at h2
  have e4:(l.take k).length=k:=by rw [List.length_take]; omega
  have e5:trimP l=l.take k:=by unfold trimP; rw [e]
  rw [e5] at hf ⊢
  have h3:RdS w1 1 strE (.slice a (l.take k).length c) (l.take k):=by show Rd w1 1 _ _ _; rw [e4]; exact h2
  have:=lay6 h3 hf (K:=fun u w'=>u=.string (ofL (textP size (l.take k)))∧Below w.heap.size w w') fun w' b=>⟨rfl,b1.trans (b.mono b1.size)⟩
  rw [e4] at this
  exact this
 cases k with
 | zero =>
  simp (disch:=first|omega|exact zF rfl|exact zG rfl|exact fun h=>h|(simp only[zA,zB,zC,zD,bytesW];omega)) only[go_sem]
  exact fin 0 (Nat.zero_le _) he
 | succ k =>
  have hlt:k<l.length:=by omega
  have hk1:((k+1:Nat):Int) - 1=k:=by omega
  have hpos:(0:Int)<((k+1:Nat):Int):=by omega
  obtain ⟨p,rfl⟩:=h.ptr (by omega)
  have ek:=RdS.str h1 hlt
  generalize hm:k+1=m at *
  have hem1:l[k]=[]→trimN l m=trimN l k:=fun e=>by rw [← hm]; simp [trimN,List.getElem?_eq_getElem hlt,e]
  have hem2:l[k]≠[]→trimN l m=m:=fun e=>by rw [← hm]; simp [trimN,List.getElem?_eq_getElem hlt,e]
  have hkm:(k:Int)<m:=by omega
  simp (disch:=first|omega|exact zF rfl|exact zG rfl|exact fun h=>h|(simp only[zA,zB,zC,zD,bytesW];omega)) only[go_sem,hpos,hk1,ek,hkm,hoff]
  refine ⟨⟨by omega,by omega⟩,by omega,fun e=>⟨⟨by omega,by omega⟩,⟨by omega,by omega⟩,k,rfl,⟨b1,by omega,?_⟩,by omega⟩,fun e=>fin m hk ?_⟩
  ·rw [he,hem1 (of_decide_eq_true e)]
  ·rw [he,hem2 (of_decide_eq_false e)]
end Go.Proofs.YtkmjkmjpejmlnaaGreat.Slt

namespace Go.Proofs.YtkmjkmjpejmlnaaGreat.Slt
open Go Go.Ann Go.RowKit
theorem own_mono{w:World}{B B' e sz n:Nat}{v:Value}{xs:List Value}(h:w.ownsRow B e sz v n xs)(hb:B'≤B):w.ownsRow B' e sz v n xs:=by
 refine ⟨h.1,h.2.imp id fun ⟨g,cap,cur,h1,h2,h3⟩=>⟨g,cap,cur,h1,Nat.le_trans hb h2,h3⟩⟩
def freeP(size:Nat)(L:List (List UInt8)):Int:=max 0 (min (if vacantP L=L.length then (size:Int) - takesP L - 2 else (size:Int) - takesP L) 255)
theorem Pg.sum{s:List UInt8}{L:List (List UInt8)}(h:Pg s L):sumP L≤255 * L.length:=by
 have:∀ k,k≤L.length→sumP (L.take k)≤255 * k:=by
  intro k
  induction k with
  | zero=>intro _; simp [sumP]
  | succ k ih =>
   intro hk
   have h1:=sumP_take (L:=L) (k:=k) (by omega)
   have h2:=h.len (show k<L.length by omega)
   have h3:=bN_bd s (2+2 * k)
   have:=ih (by omega)
   omega
 have h1:=this L.length (Nat.le_refl _)
 rwa [List.take_length] at h1
theorem Pg.ne{s:List UInt8}{L:List (List UInt8)}(h:Pg s L):s≠[]:=by rintro rfl; have:=h.lo; simp at this
theorem free_ok(s:List UInt8)(L:List (List UInt8))(w:World)(h:Pg s L):Ret Tryz.prog 57 [.string (ofL s)] w fun u w'=>u=.int .i64 (freeP s.length L)∧Below w.heap.size w w':=by
 have hfew:=h.few
 have hsum:=h.sum
 have hhi:=h.hi
 refine ent57 _ _ _ ?_
 simp (disch:=first|omega|exact zF rfl|exact zG rfl|exact fun h=>h|(simp only[zA,zB,zC,zD,bytesW];omega)) only[go_sem]
 refine ⟨fun e=>absurd (of_decide_eq_true e) h.ne,fun _=>Ret.mono (list_ok s L w h) ?_⟩
 rintro v w2 ⟨o2,b2⟩
 have h2:=RdS.of_own' o2 L rfl rfl
 obtain ⟨a,c,rfl,_⟩:=h2.form
 simp (disch:=first|omega|exact zF rfl|exact zG rfl|exact fun h=>h|(simp only[zA,zB,zC,zD,bytesW];omega)) only[go_sem]
 refine Ret.mono (used_ok _ L w2 h2 (by omega) (by omega)) ?_
 rintro _ w3 ⟨rfl,b3⟩
 have h3:=h2.below b3 (by decide)
 have b03:=b2.trans (b3.mono b2.size)
 have ht:takesP L=1+2 * L.length+sumP L:=rfl
 simp (disch:=first|omega|exact zF rfl|exact zG rfl|exact fun h=>h|(simp only[zA,zB,zC,zD,bytesW];omega)) only[go_sem]
 refine ⟨⟨by omega,by omega⟩,Ret.mono (contains_ok _ L [] w3 h3 (by omega)) ?_⟩
 rintro _ w4 ⟨rfl,b4⟩
 have b04:=b03.trans (b4.mono b03.size)
 have hv:=List.findIdx_le_length (xs:=L) (p:=fun r=>decide (r=[]))
 simp (disch:=first|omega|exact zF rfl|exact zG rfl|exact fun h=>h|(simp only[zA,zB,zC,zD,bytesW];omega)) only[go_sem]
 have hv2:vacantP L=List.findIdx (fun x=>decide (x=[])) L:=rfl
 refine ⟨fun e=>⟨⟨by omega,by omega⟩,?_,b04⟩,fun e=>⟨?_,b04⟩⟩
 ·unfold freeP; rw [if_pos (by omega)]
 ·unfold freeP; rw [if_neg (by omega)]
def withP(i:Nat)(r:List UInt8)(L:List (List UInt8)):List (List UInt8):=trimP (if i=L.length then L++[r] else L.set i r)
theorem takes_trim(L:List (List UInt8)):takesP (trimP L)≤takesP L:=by
 have h1:=trimN_le L L.length
 have h2:=sumP_le (L:=L) (trimN L L.length)
 unfold takesP trimP
 rw [List.length_take]; omega
theorem sumP_set:∀ {L:List (List UInt8)} {k:Nat} (h:k<L.length) (r:List UInt8),sumP (L.set k r)+L[k].length=sumP L+r.length
 | a::L,0,h,r=>by simp [sumP]; omega
 | a::L,k+1,h,r=>by
  have:=sumP_set (L:=L) (k:=k) (by simpa using h) r
  have e1:sumP (a::L.set k r)=a.length+sumP (L.set k r):=by simp [sumP]
  have e2:sumP (a::L)=a.length+sumP L:=by simp [sumP]
  rw [List.set_cons_succ,e1,e2,List.getElem_cons_succ]; omega
theorem vacant_nil{L:List (List UInt8)}(h:vacantP L<L.length):L[vacantP L]=[]:=by
 unfold vacantP at h ⊢
 have:=List.findIdx_getElem (w:=h)
 exact of_decide_eq_true this
theorem put9{s r:List UInt8}{l:List (List UInt8)}{i:Nat}{v:Value}{W0 w:World}{K:Value→World→Prop}(h:St W0 w (fun _=>False) [.row v 9 1 l.length (l.flatMap strE)] [])(hi:i<l.length)(hl:l.length≤1000)(hf:Fits s.length (trimP (l.set i r)))
  (hK:∀ w',Below W0.heap.size W0 w'→K (.tuple #[.string (ofL (textP s.length (trimP (l.set i r)))),.int .i64 i,.bool true]) w') :
  W Tryz.prog (c58S2 ()) [(0,.string (ofL s)),(1,.string (ofL r)),(7,v),(8,.int .i64 i)] w (finQ Tryz.prog [.tmp 4,.tmp 5,.tmp 6] K):=by
 have hrow:=h.row 0 rfl
 have hlen:=strs_len l
 obtain ⟨g,cap,rfl,hcap⟩:∃ g cap,v=.slice (some ⟨g,0,none⟩) l.length cap∧l.length≤cap:=by
  obtain ⟨_,⟨_,h0⟩ | ⟨g,cap,cur,e,_,_,hc,_⟩⟩:=hrow
  ·omega
  ·exact ⟨g,cap,e,hc⟩
 have hc0:∃ old,w.cell? ⟨g,i,none⟩=some old:=by
  have:=hrow.cells rfl i _ (List.getElem?_eq_getElem (show i<(l.flatMap strE).length by omega))
  rw [Addr.add_lit,Nat.zero_add] at this
  exact ⟨_,this⟩
 have hf0:w.frozen? ⟨g,i,none⟩=false:=by
  obtain ⟨_,⟨h0,_⟩ | ⟨g',cap',cur,e,_,hb,_⟩⟩:=hrow
  ·cases h0
  ·cases e; exact Blk.frozen (show Blk w g cur _ from hb) _
 have hi':(i:Int)<l.length:=by omega
 simp (disch:=first|omega|exact zF rfl|exact zG rfl|exact fun h=>h|(simp only[zA,zB,zC,zD,bytesW];omega)) only[go_sem,c58S2,hi',hf0]
 refine ⟨by omega,hc0,?_⟩
 have s2:=h.put 0 rfl i (.string (ofL r))
 simp only [List.set_cons_zero] at s2
 rw [← strs_set] at s2
 generalize w.setCell ⟨g,i,none⟩ (.string (ofL r))=w2 at s2 ⊢
 have hs:=RdS.of_own' (s2.row 0 rfl) (l.set i r) (by simp) rfl
 have hll:(l.set i r).length=l.length:=List.length_set
 refine Ret.mono (lay_ok _ s.length (l.set i r) w2 hs (by omega) hf) ?_
 rintro _ w3 ⟨rfl,b3⟩
 simp (disch:=first|omega|exact zF rfl|exact zG rfl|exact fun h=>h|(simp only[zA,zB,zC,zD,bytesW];omega)) only[go_sem,c58S2]
 exact hK _ (s2.bel.trans (b3.mono s2.size))
theorem slot_put_ok(s r:List UInt8)(L:List (List UInt8))(w:World)(h:Pg s L):Ret Tryz.prog 58 [.string (ofL s),.string (ofL r)] w fun u w' =>
  u=(if r=[]∨freeP s.length L<r.length then .tuple #[.string (ofL s),.int .i64 0,.bool false] else .tuple #[.string (ofL (textP s.length (withP (vacantP L) r L))),.int .i64 (vacantP L:Nat),.bool true])∧Below w.heap.size w w':=by
 have hfew:=h.few
 have hsum:=h.sum
 have hhi:=h.hi
 refine ent58 _ _ _ _ ?_
 simp (disch:=first|omega|exact zF rfl|exact zG rfl|exact fun h=>h|(simp only[zA,zB,zC,zD,bytesW];omega)) only[go_sem,c58S2]
 refine ⟨fun e=>Ret.mono (free_ok s L w h) ?_,fun e=>⟨by rw [if_pos (.inl (of_decide_eq_true e))],Below.refl _ _⟩⟩
 have hr:r≠[]:=of_decide_eq_false e
 rintro _ w2 ⟨rfl,b2⟩
 simp (disch:=first|omega|exact zF rfl|exact zG rfl|exact fun h=>h|(simp only[zA,zB,zC,zD,bytesW];omega)) only[go_sem,c58S2]
 refine ⟨fun hfr=>⟨by rw [if_pos (.inr hfr)],b2⟩,fun hfr=>?_⟩
 have hno:¬ (r=[]∨freeP s.length L<r.length):=by rintro (h | h); exact hr h; omega
 rw [if_neg hno]
 have hrpos:=List.length_pos_iff.2 hr
 refine Ret.mono (list_ok s L w2 h) ?_
 rintro v w3 ⟨o3,b3⟩
 have s3:=((St.start (W0:=w)).call b2).add b3 (.row v 9 1 L.length (L.flatMap strE)) (own_mono o3 b2.size) fun k hk=>(o3.lt k hk).1
 have h3:=RdS.of_own' (s3.row 0 rfl) L rfl rfl
 simp (disch:=first|omega|exact zF rfl|exact zG rfl|exact fun h=>h|(simp only[zA,zB,zC,zD,bytesW];omega)) only[go_sem,c58S2]
 refine Ret.mono (index_ok v L [] w3 h3 (by omega)) ?_
 rintro _ w4 ⟨rfl,b4⟩
 have s4:=s3.call b4
 have hv2:List.findIdx (fun x=>decide (x=[])) L=vacantP L:=rfl
 have hv:=List.findIdx_le_length (xs:=L) (p:=fun r=>decide (r=[]))
 have ht:takesP L=1+2 * L.length+sumP L:=rfl
 rw [hv2] at hv ⊢
 by_cases hfd:vacantP L<L.length
 ·rw [if_pos hfd]
  have hlt':¬ ((vacantP L:Nat):Int)<0:=by omega
  simp (disch:=first|omega|exact zF rfl|exact zG rfl|exact fun h=>h|(simp only[zA,zB,zC,zD,bytesW];omega)) only[go_sem,hlt']
  have e1:withP (vacantP L) r L=trimP (L.set (vacantP L) r):=by unfold withP; rw [if_neg (by omega)]
  rw [e1]
  refine put9 s4 hfd (by omega) ⟨h.lo,h.hi,?_⟩ fun w' b=>⟨rfl,b⟩
  have h5:=takes_trim (L.set (vacantP L) r)
  have h6:=sumP_set hfd r
  rw [vacant_nil hfd] at h6
  have ht2:takesP (L.set (vacantP L) r)=1+2 * (L.set (vacantP L) r).length+sumP (L.set (vacantP L) r):=rfl
  rw [List.length_set] at ht2
  simp only [List.length_nil] at h6
  unfold freeP at hfr
  rw [if_neg (by omega)] at hfr
  omega
 ·rw [if_neg hfd]
  have hvl:vacantP L=L.length:=by omega
  obtain ⟨a4,c4,rfl,_⟩:=own_slice o3
  simp (disch:=first|omega|exact zF rfl|exact zG rfl|exact fun h=>h|(simp only[zA,zB,zC,zD,bytesW];omega)) only[go_sem]
  refine bsW_ones ty22mkI rfl rfl (by decide) (by decide) (by intro v hv; rw [List.mem_singleton] at hv; subst hv; rfl) ?_
  simp (disch:=first|omega|exact zF rfl|exact zG rfl|exact fun h=>h|(simp only[zA,zB,zC,zD,bytesW];omega)) only[go_sem]
  have hx:Rd (w4.alloc (.cells #[.string (ofL [])] 9)) 1 (.slice (some ⟨w4.heap.size,0,none⟩) 1 1) 1 (strE []):=rd_new (n:=1) (cs:=#[.string (ofL [])]) rfl
  refine (s4.alloc' (.cells #[.string (ofL [])] 9)).append 0 rfl ty22mkI rfl (by decide) hx (strE_one []) (by omega) (by omega) ?_
  intro v6 w6 s6 c6
  simp only [List.set_cons_zero] at s6
  have e6:L.flatMap strE++strE []=(L++[[]]).flatMap strE:=by rw [List.flatMap_append]; simp
  have e7:L.length+1=(L++[[]]).length:=by simp
  rw [e6,e7] at s6
  simp (disch:=first|omega|exact zF rfl|exact zG rfl|exact fun h=>h|(simp only[zA,zB,zC,zD,bytesW];omega)) only[go_sem]
  have e8:(L++[[]]).set L.length r=L++[r]:=by rw [List.set_append_right _ _ (Nat.le_refl _),Nat.sub_self]; rfl
  have e1:withP (vacantP L) r L=trimP ((L++[[]]).set L.length r):=by unfold withP; rw [if_pos hvl,e8]
  rw [e1,hvl]
  refine put9 s6 (by simp) (by simp; omega) ⟨h.lo,h.hi,?_⟩ fun w' b=>⟨rfl,b⟩
  rw [e8]
  have h5:=takes_trim (L++[r])
  have h6:=sumP_append L [r]
  rw [sumP_one] at h6
  have ht2:takesP (L++[r])=1+2 * (L++[r]).length+sumP (L++[r]):=rfl
  rw [List.length_append,List.length_singleton] at ht2
  unfold freeP at hfr
  rw [if_pos hvl] at hfr
  omega
end Go.Proofs.YtkmjkmjpejmlnaaGreat.Slt

namespace Go.Proofs.YtkmjkmjpejmlnaaGreat.Slt
open Go Go.Ann Go.RowKit
theorem countP_or{p q:Nat→Bool}:∀ {l:List Nat},(∀ x∈l,p x=true→q x=true→False)→l.countP (fun x=>p x || q x)=l.countP p+l.countP q
 | [],_=>rfl
 | a::l,h=>by
  have ih:=countP_or (l:=l) fun x hx=>h x (List.mem_cons_of_mem _ hx)
  have h0:=h a List.mem_cons_self
  rw [List.countP_cons,List.countP_cons,List.countP_cons,ih]
  cases hp:p a <;> cases hq:q a
  ·simp
  ·simp; omega
  ·simp; omega
  ·exact (h0 hp hq).elim
theorem count_iv:∀ (N a b:Nat),b≤N→a≤b→(List.range N).countP (fun p=>decide (a≤p∧p<b))=b - a
 | 0,a,b,h1,h2=>by simp; omega
 | N+1,a,b,h1,h2=>by
  rw [List.range_succ,List.countP_append]
  by_cases hb:b≤N
  ·rw [count_iv N a b hb h2]
   simp; omega
  ·have hbN:b=N+1:=by omega
   subst hbN
   have e:(List.range N).countP (fun p=>decide (a≤p∧p<N+1))=(List.range N).countP (fun p=>decide (a≤p∧p<N)):=by
    refine List.countP_congr fun x hx=>?_
    have:=List.mem_range.1 hx
    simp; omega
   rw [e]
   by_cases ha:a≤N
   ·rw [count_iv N a N (Nat.le_refl _) ha]; simp [ha]; omega
   ·have:(List.range N).countP (fun p=>decide (a≤p∧p<N))=0:=by
     rw [List.countP_eq_zero]; intro x hx; have:=List.mem_range.1 hx; simp; omega
    rw [this]; simp [ha]; omega
def sumZ(z:Nat→Nat):Nat→Nat
 | 0=>0
 | n+1=>sumZ z n+z n
def covB(A:Nat)(f z:Nat→Nat):Nat→Nat→Bool
 | 0,p=>decide (0≤p∧p<A)
 | n+1,p=>covB A f z n p || decide (f n≤p∧p<f n+z n)
theorem covB_out{A:Nat}{f z:Nat→Nat}:∀ {n p:Nat},covB A f z n p=true→p<A∨∃ i,i<n∧f i≤p∧p<f i+z i
 | 0,p,h=>.inl (of_decide_eq_true h).2
 | n+1,p,h=>by
  simp only [covB,Bool.or_eq_true] at h
  rcases h with h | h
  ·rcases covB_out h with h | ⟨i,hi,h⟩
   ·exact .inl h
   ·exact .inr ⟨i,by omega,h⟩
  ·exact .inr ⟨n,by omega,of_decide_eq_true h⟩
theorem apart_sum{A B:Nat}{f z:Nat→Nat}(hAB:A≤B):∀ n,(∀ i,i<n→0<z i→A≤f i∧f i+z i≤B)→(∀ i k,i<n→k<i→0<z i→0<z k→f i<f k+z k→f k<f i+z i→False)→(List.range B).countP (covB A f z n)=A+sumZ z n
 | 0,_,_=>by
  have:=count_iv B 0 A hAB (Nat.zero_le _)
  simp only [covB,sumZ]
  exact this
 | n+1,h1,h2=>by
  have ih:=apart_sum hAB n (fun i hi=>h1 i (by omega)) (fun i k hi=>h2 i k (by omega))
  have e:covB A f z (n+1)=fun p=>covB A f z n p || decide (f n≤p∧p<f n+z n):=rfl
  rw [e,countP_or,ih,sumZ]
  ·rcases Nat.eq_zero_or_pos (z n) with hz | hz
   ·have:(List.range B).countP (fun p=>decide (f n≤p∧p<f n+z n))=0:=by
     rw [List.countP_eq_zero]; intro x hx; simp; omega
    rw [this,hz]; omega
   ·have:=h1 n (by omega) hz
    rw [count_iv B _ _ this.2 (by omega)]; omega
  ·intro p hp hc hq
   have hq':=of_decide_eq_true hq
   have hz:0<z n:=by omega
   have hn:=h1 n (by omega) hz
   rcases covB_out hc with h | ⟨i,hi,h3,h4⟩
   ·omega
   ·exact h2 n i (by omega) hi hz (by omega) (by omega) (by omega)
theorem Pg.takes{s:List UInt8}{L:List (List UInt8)}(h:Pg s L):takesP L≤s.length:=by
 have hroom:=h.room
 have key:=apart_sum (A:=1+2 * L.length) (B:=s.length) (f:=fun i=>(bN s (1+2 * i)).toNat) (z:=fun i=>(bN s (2+2 * i)).toNat) hroom L.length (fun i hi hz=>?_) (fun i k hi hk h1 h2 h3 h4=>?_)
 ·have hle:=List.countP_le_length (p:=covB (1+2 * L.length) (fun i=>(bN s (1+2 * i)).toNat) (fun i=>(bN s (2+2 * i)).toNat) L.length) (l:=List.range s.length)
  rw [key,List.length_range] at hle
  have hs:∀ k,k≤L.length→sumZ (fun i=>(bN s (2+2 * i)).toNat) k=sumP (L.take k):=by
   intro k
   induction k with
   | zero=>intro _; simp [sumZ,sumP]
   | succ k ih =>
    intro hk
    have h1:=sumP_take (L:=L) (k:=k) (by omega)
    have h2:=h.len (show k<L.length by omega)
    rw [sumZ,ih (by omega),h1]; omega
  have:=hs L.length (Nat.le_refl _)
  rw [List.take_length] at this
  unfold takesP; omega
 ·show 1+2 * L.length≤(bN s (1+2 * i)).toNat∧(bN s (1+2 * i)).toNat+(bN s (2+2 * i)).toNat≤s.length
  have hz:0<(bN s (2+2 * i)).toNat:=hz
  have b1:=bN_bd s (1+2 * i)
  have:=h.taken i hi (by omega)
  omega
 ·have h1:0<(bN s (2+2 * i)).toNat:=h1
  have h2:0<(bN s (2+2 * k)).toNat:=h2
  have h3:(bN s (1+2 * i)).toNat<(bN s (1+2 * k)).toNat+(bN s (2+2 * k)).toNat:=h3
  have h4:(bN s (1+2 * k)).toNat<(bN s (1+2 * i)).toNat+(bN s (2+2 * i)).toNat:=h4
  have b1:=bN_bd s (1+2 * i)
  have b2:=bN_bd s (1+2 * k)
  exact h.apart i k hi hk (by omega) (by omega) (by omega) (by omega)
theorem getP_some{L:List (List UInt8)}{i:Int}(h:(getP L i).2=true):∃ k:Nat,i=k∧∃ hk:k<L.length,L[k]≠[]∧getP L i=(L[k],true):=by
 unfold getP at h ⊢
 split at h
 ·rename_i h0
  obtain ⟨k,rfl⟩:=Int.eq_ofNat_of_zero_le h0
  rw [if_pos h0]
  rw [Int.toNat_natCast] at h ⊢
  split at h
  ·rename_i r hr
   obtain ⟨hk,hrk⟩:=List.getElem?_eq_some_iff.1 hr
   have hr':r≠[]:=of_decide_eq_true h
   refine ⟨k,rfl,hk,by rw [hrk]; exact hr',?_⟩
   rw [hrk]; simp [hr']
  ·cases h
 ·cases h
def badSet(size:Nat)(L:List (List UInt8))(i:Int)(r:List UInt8):Prop:=(getP L i).2=false∨r=[]∨255<r.length∨(size:Int)<(takesP L:Int) - (getP L i).1.length+r.length
instance (size:Nat) (L:List (List UInt8)) (i:Int) (r:List UInt8):Decidable (badSet size L i r):=by unfold badSet; exact inferInstance
theorem del14{s:List UInt8}{l:List (List UInt8)}{i:Nat}{v:Value}{W0 w:World}{K:Value→World→Prop}(h:St W0 w (fun _=>False) [.row v 9 1 l.length (l.flatMap strE)] [])(hi:i<l.length)(hl:l.length≤1000)(hf:Fits s.length (trimP (l.set i [])))
  (hK:∀ w',Below W0.heap.size W0 w'→K (.tuple #[.string (ofL (textP s.length (trimP (l.set i [])))),.bool true]) w') :
  W Tryz.prog (c93S2 ()) [(0,.string (ofL s)),(1,.int .i64 i),(8,v)] w (finQ Tryz.prog [.tmp 4,.tmp 5] K):=by
 have hrow:=h.row 0 rfl
 have hlen:=strs_len l
 obtain ⟨g,cap,rfl,hcap⟩:∃ g cap,v=.slice (some ⟨g,0,none⟩) l.length cap∧l.length≤cap:=by
  obtain ⟨_,⟨_,h0⟩ | ⟨g,cap,cur,e,_,_,hc,_⟩⟩:=hrow
  ·omega
  ·exact ⟨g,cap,e,hc⟩
 have hc0:∃ old,w.cell? ⟨g,i,none⟩=some old:=by
  have:=hrow.cells rfl i _ (List.getElem?_eq_getElem (show i<(l.flatMap strE).length by omega))
  rw [Addr.add_lit,Nat.zero_add] at this
  exact ⟨_,this⟩
 have hf0:w.frozen? ⟨g,i,none⟩=false:=by
  obtain ⟨_,⟨h0,_⟩ | ⟨g',cap',cur,e,_,hb,_⟩⟩:=hrow
  ·cases h0
  ·cases e; exact Blk.frozen (show Blk w g cur _ from hb) _
 have hi':(i:Int)<l.length:=by omega
 simp (disch:=first|omega|exact zF rfl|exact zG rfl|exact fun h=>h|(simp only[zA,zB,zC,zD,bytesW];omega)) only[go_sem,c93S2,hi',hf0]
 refine ⟨by omega,hc0,?_⟩
 have s2:=h.put 0 rfl i (.string (ofL []))
 simp only [List.set_cons_zero] at s2
 rw [← strs_set] at s2
 generalize w.setCell ⟨g,i,none⟩ (.string (ofL []))=w2 at s2 ⊢
 have hs:=RdS.of_own' (s2.row 0 rfl) (l.set i []) (by simp) rfl
 have hll:(l.set i []).length=l.length:=List.length_set
 refine Ret.mono (lay_ok _ s.length (l.set i []) w2 hs (by omega) hf) ?_
 rintro _ w3 ⟨rfl,b3⟩
 simp (disch:=first|omega|exact zF rfl|exact zG rfl|exact fun h=>h|(simp only[zA,zB,zC,zD,bytesW];omega)) only[go_sem,c93S2]
 exact hK _ (s2.bel.trans (b3.mono s2.size))
theorem slot_del_ok(s:List UInt8)(i:Int)(L:List (List UInt8))(w:World)(h:Pg s L):Ret Tryz.prog 93 [.string (ofL s),.int .i64 i] w fun u w' =>
  u=(if (getP L i).2=true then .tuple #[.string (ofL (textP s.length (trimP (L.set i.toNat [])))),.bool true] else .tuple #[.string (ofL s),.bool false])∧Below w.heap.size w w':=by
 have hfew:=h.few
 refine ent93 _ _ _ _ ?_
 simp (disch:=first|omega|exact zF rfl|exact zG rfl|exact fun h=>h|(simp only[zA,zB,zC,zD,bytesW];omega)) only[go_sem,c93S2]
 refine Ret.mono (get_ok s L i w h) ?_
 rintro _ w2 ⟨rfl,b2⟩
 cases hg:(getP L i).2 with
 | false =>
  simp (disch:=first|omega|exact zF rfl|exact zG rfl|exact fun h=>h|(simp only[zA,zB,zC,zD,bytesW];omega)) only[go_sem,c93S2]
  exact b2
 | true =>
  obtain ⟨k,rfl,hk,hne,hgk⟩:=getP_some hg
  simp (disch:=first|omega|exact zF rfl|exact zG rfl|exact fun h=>h|(simp only[zA,zB,zC,zD,bytesW];omega)) only[go_sem,c93S2]
  refine Ret.mono (list_ok s L w2 h) ?_
  rintro v w3 ⟨o3,b3⟩
  have s3:=((St.start (W0:=w)).call b2).add b3 (.row v 9 1 L.length (L.flatMap strE)) (own_mono o3 b2.size) fun k hk=>(o3.lt k hk).1
  simp (disch:=first|omega|exact zF rfl|exact zG rfl|exact fun h=>h|(simp only[zA,zB,zC,zD,bytesW];omega)) only[go_sem]
  refine del14 s3 hk (by omega) ⟨h.lo,h.hi,?_⟩ fun w' b=>⟨rfl,b⟩
  have h5:=takes_trim (L.set k [])
  have h6:=sumP_set hk []
  have h7:=h.takes
  have ht:takesP L=1+2 * L.length+sumP L:=rfl
  have ht2:takesP (L.set k [])=1+2 * (L.set k []).length+sumP (L.set k []):=rfl
  rw [List.length_set] at ht2
  simp only [List.length_nil] at h6
  omega
end Go.Proofs.YtkmjkmjpejmlnaaGreat.Slt

namespace Go.Proofs.YtkmjkmjpejmlnaaGreat.Slt
open Go Go.Ann Go.RowKit
def endP(size:Nat)(L:List (List UInt8))(j:Nat):Nat:=size - sumP (L.take j)
theorem putAt_get{b r:List UInt8}{e p:Nat}(h:e+r.length≤b.length):(putAt b e r)[p]?=if p<e then b[p]? else if p<e+r.length then r[p - e]? else b[p]?:=by
 unfold putAt putTo
 rw [List.take_length,List.append_assoc]
 by_cases h1:p<e
 ·rw [if_pos h1,List.getElem?_append_left (by simp; omega),List.getElem?_take,if_pos h1]
 ·rw [if_neg h1,List.getElem?_append_right (by simp; omega)]
  have hl:(b.take e).length=e:=by simp; omega
  rw [hl]
  by_cases h2:p<e+r.length
  ·rw [if_pos h2,List.getElem?_append_left (by omega)]
  ·rw [if_neg h2,List.getElem?_append_right (by omega),List.getElem?_drop]
   congr 1; omega
structure Laid(size:Nat)(L:List (List UInt8))(k:Nat)(b:List UInt8):Prop where
 len:b.length=size
 zero:b[0]?=some (u8 L.length)
 siz:∀ j,(h:j<L.length)→j<k→b[2+2 * j]?=some (u8 L[j].length)
 frm:∀ j,(h:j<L.length)→j<k→b[1+2 * j]?=some (if L[j]=[] then 0 else u8 (endP size L (j+1)))
 rest:∀ j,k≤j→j<L.length→b[1+2 * j]?=some 0∧b[2+2 * j]?=some 0
 recd:∀ j t,(h:j<L.length)→j<k→(ht:t<L[j].length)→b[endP size L (j+1)+t]?=some L[j][t]
theorem endP_succ{size:Nat}{L:List (List UInt8)}{j:Nat}(hf:Fits size L)(hj:j<L.length):endP size L (j+1)+L[j].length=endP size L j∧1+2 * L.length≤endP size L (j+1):=by
 have h1:=sumP_take hj
 have h2:=sumP_le (L:=L) (j+1)
 have h3:=hf.room
 unfold takesP at h3
 unfold endP
 omega
theorem endP_anti{size:Nat}{L:List (List UInt8)}{i j:Nat}(h:i≤j):endP size L j≤endP size L i:=by
 have:sumP (L.take i)≤sumP (L.take j):=by
  have e:L.take i=(L.take j).take i:=by rw [List.take_take,Nat.min_eq_left h]
  rw [e]; exact sumP_le i
 unfold endP; omega
theorem laid{size:Nat}{L:List (List UInt8)}(hf:Fits size L):∀ {k:Nat},k≤L.length→Laid size L k (layTo size L k).1
 | 0,_=>by
  have hroom:=hf.room
  unfold takesP at hroom
  refine ⟨by simp [layTo],by rw [layTo]; exact List.getElem?_set_self (by rw [List.length_replicate]; omega),fun j _ h=>by omega,fun j _ h=>by omega,fun j _ hj=>?_,fun j t _ h=>by omega⟩
  simp only [layTo]
  constructor
  ·rw [List.getElem?_set_ne (by omega),List.getElem?_replicate,if_pos (by omega)]
  ·rw [List.getElem?_set_ne (by omega),List.getElem?_replicate,if_pos (by omega)]
 | k+1,hk=>by
  have ih:=laid hf (k:=k) (by omega)
  have hkl:k<L.length:=by omega
  have he:=layTo_end hf (k:=k) (by omega)
  have hend:(layTo size L k).2=endP size L k:=by unfold endP; omega
  obtain ⟨hs1,hs2⟩:=endP_succ hf hkl
  have hsub:(layTo size L k).2 - L[k].length=endP size L (k+1):=by omega
  rw [layTo_succ hkl]
  unfold layS
  by_cases hr:L[k]=[]
  ·rw [if_pos hr]
   have h0:=ih.rest k (Nat.le_refl _) hkl
   refine ⟨ih.len,ih.zero,fun j h hj=>?_,fun j h hj=>?_,fun j h hj=>ih.rest j (by omega) hj,fun j t h hj ht=>?_⟩
   ·rcases Nat.lt_or_ge j k with h' | h'
    ·exact ih.siz j h h'
    ·obtain rfl:j=k:=by omega
     rw [hr,h0.2]; rfl
   ·rcases Nat.lt_or_ge j k with h' | h'
    ·exact ih.frm j h h'
    ·obtain rfl:j=k:=by omega
     rw [if_pos hr,h0.1]
   ·rcases Nat.lt_or_ge j k with h' | h'
    ·exact ih.recd j t h h' ht
    ·obtain rfl:j=k:=by omega
     rw [hr] at ht; simp at ht
  ·rw [if_neg hr,hsub]
   simp only
   have hlen:endP size L (k+1)+L[k].length≤(((layTo size L k).1.set (1+2 * k) (u8 (endP size L (k+1)))).set (2+2 * k) (u8 L[k].length)).length:=by
    rw [List.length_set,List.length_set,ih.len,hs1]; unfold endP; omega
   have hin:endP size L k≤size:=by unfold endP; omega
   have hl1:=ih.len
   have low:∀ p,p<endP size L (k+1)→p≠2+2 * k→p≠1+2 * k→(putAt (((layTo size L k).1.set (1+2 * k) (u8 (endP size L (k+1)))).set (2+2 * k) (u8 L[k].length)) (endP size L (k+1)) L[k])[p]?=(layTo size L k).1[p]?:=fun p h1 h2 h3=>by
    rw [putAt_get hlen,if_pos h1,List.getElem?_set_ne (by omega),List.getElem?_set_ne (by omega)]
   refine ⟨?_,?_,fun j h hj=>?_,fun j h hj=>?_,fun j h hj=>?_,fun j t h hj ht=>?_⟩
   ·unfold putAt; rw [putTo_len hlen (Nat.le_refl _),List.length_set,List.length_set,ih.len]
   ·rw [low 0 (by omega) (by omega) (by omega)]; exact ih.zero
   ·rcases Nat.lt_or_ge j k with h' | h'
    ·rw [low _ (by omega) (by omega) (by omega)]; exact ih.siz j h h'
    ·obtain rfl:j=k:=by omega
     rw [putAt_get hlen,if_pos (by omega),List.getElem?_set_self (by rw [List.length_set]; omega)]
   ·rcases Nat.lt_or_ge j k with h' | h'
    ·rw [low _ (by omega) (by omega) (by omega)]; exact ih.frm j h h'
    ·obtain rfl:j=k:=by omega
     rw [putAt_get hlen,if_pos (by omega),List.getElem?_set_ne (by omega),List.getElem?_set_self (by omega),if_neg hr]
   ·rw [low _ (by omega) (by omega) (by omega),low _ (by omega) (by omega) (by omega)]; exact ih.rest j (by omega) hj
   ·rcases Nat.lt_or_ge j k with h' | h'
    ·have hanti:=endP_anti (size:=size) (L:=L) (show j+1≤k by omega)
     rw [putAt_get hlen,if_neg (by omega),if_neg (by omega),List.getElem?_set_ne (by omega),List.getElem?_set_ne (by omega)]
     exact ih.recd j t h h' ht
    ·obtain rfl:j=k:=by omega
     rw [putAt_get hlen,if_neg (by omega),if_pos (by omega),Nat.add_sub_cancel_left]
     exact List.getElem?_eq_getElem ht
def Trim(L:List (List UInt8)):Prop:=∀ i,(h:i<L.length)→i+1=L.length→L[i]≠[]
theorem u8_nat{n:Nat}(h:n≤255):((u8 n).toNat:Int)=n:=by unfold u8; simp; omega
theorem text_pg{size:Nat}{L:List (List UInt8)}(hf:Fits size L)(ht:Trim L):Pg (textP size L) L:=by
 have hl:=laid hf (k:=L.length) (Nat.le_refl _)
 have hroom:=hf.room
 have hhi:=hf.hi
 have hlo:=hf.lo
 unfold takesP at hroom
 have e:textP size L=(layTo size L L.length).1:=rfl
 rw [← e] at hl
 have hsz:∀ i,(h:i<L.length)→L[i].length≤253:=fun i h=>by
  have h1:=sumP_take h
  have h2:=sumP_le (L:=L) (i+1)
  omega
 have hz:∀ i,(h:i<L.length)→bN (textP size L) (2+2 * (i:Int))=L[i].length:=fun i h=>by
  have:=bN_get _ _ _ (hl.siz i h h)
  rw [u8_nat (by have:=hsz i h; omega)] at this
  rw [← this]; rfl
 have hfr:∀ i,(h:i<L.length)→L[i]≠[]→bN (textP size L) (1+2 * (i:Int))=endP size L (i+1):=fun i h hr=>by
  have:=bN_get _ _ _ (hl.frm i h h)
  rw [if_neg hr] at this
  have hp:=List.length_pos_iff.2 hr
  have h1:=(endP_succ hf h).1
  have h2:endP size L i≤size:=by unfold endP; omega
  rw [u8_nat (by omega)] at this
  rw [← this]; rfl
 have hf0:∀ i,(h:i<L.length)→L[i]=[]→bN (textP size L) (1+2 * (i:Int))=0:=fun i h hr=>by
  have:=bN_get _ _ _ (hl.frm i h h)
  rw [if_pos hr] at this
  exact this
 have hnz:∀ i,(h:i<L.length)→0<bN (textP size L) (2+2 * (i:Int))→L[i]≠[]:=fun i h hp e=>by
  rw [hz i h,e] at hp; simp at hp
 refine ⟨by rw [hl.len]; exact hlo,by rw [hl.len]; exact hhi,?_,by rw [hl.len]; omega,fun i h h0=>?_,fun i h hp=>?_,fun i k h hk hp1 hp2 h3 h4=>?_,fun i h=>?_⟩
 ·have:=bN_get _ 0 _ hl.zero
  rw [u8_nat (by omega)] at this
  exact this
 ·have hr:L[i]=[]:=by rw [hz i h] at h0; exact List.length_eq_zero_iff.1 (by omega)
  exact ⟨hf0 i h hr,fun e=>ht i h e hr⟩
 ·have hr:=hnz i h hp
  rw [hfr i h hr,hz i h,hl.len]
  have h1:=endP_succ hf h
  have h2:endP size L i≤size:=by unfold endP; omega
  omega
 ·have hr1:=hnz i h hp1
  have hr2:=hnz k (by omega) hp2
  rw [hfr i h hr1,hfr k (by omega) hr2] at h4
  rw [hz i h] at h4
  have h1:=endP_succ hf h
  have h2:=endP_anti (size:=size) (L:=L) (show k+1≤i by omega)
  omega
 ·by_cases hr:L[i]=[]
  ·rw [hz i h,hr]
   unfold cutL
   simp
  ·rw [hfr i h hr,hz i h]
   obtain ⟨h1,h2⟩:=endP_succ hf h
   have h3:endP size L i≤size:=by unfold endP; omega
   refine List.ext_getElem? fun t=>?_
   unfold cutL
   rw [Int.toNat_natCast,List.getElem?_drop,List.getElem?_take]
   by_cases htl:t<L[i].length
   ·rw [if_pos (by omega),hl.recd i t h h htl]
    exact List.getElem?_eq_getElem htl
   ·rw [if_neg (by omega),List.getElem?_eq_none (by omega)]
theorem trim_trim(L:List (List UInt8)):Trim (trimP L):=by
 have key:∀ n,n≤L.length→∀ i,i+1=trimN L n→∀ h:i<L.length,L[i]≠[]:=by
  intro n
  induction n with
  | zero=>intro _ i hi; simp [trimN] at hi
  | succ n ih =>
   intro hn i hi h
   rw [trimN] at hi
   split at hi
   ·exact ih (by omega) i hi h
   ·rename_i hne
    obtain rfl:i=n:=by omega
    intro e
    exact hne (by rw [List.getElem?_eq_getElem h,e])
 intro i h hi
 unfold trimP at h hi ⊢
 rw [List.getElem_take]
 have hle:=trimN_le L L.length
 rw [List.length_take] at h hi
 exact key L.length (Nat.le_refl _) i (by omega) (by omega)
end Go.Proofs.YtkmjkmjpejmlnaaGreat.Slt

namespace Go.Proofs.YtkmjkmjpejmlnaaGreat.Slt
open Go Go.Ann Go.RowKit
theorem textP_len{size:Nat}{L:List (List UInt8)}(hf:Fits size L):(textP size L).length=size:=layTo_len hf (Nat.le_refl _)
theorem textP_nil(size:Nat)(h:0<size):textP size []=List.replicate size 0:=by
 unfold textP
 simp only [List.length_nil,layTo]
 refine List.ext_getElem? fun i=>?_
 rw [List.getElem?_set]
 split
 ·rename_i e; subst e; rw [List.getElem?_replicate]; simp [h,u8]
 ·rfl
theorem new_ok(n:Int)(w:World)(h1:8≤n)(h2:n≤256):Ret Tryz.prog 125 [.int .i64 n] w fun u w'=>u=.string (ofL (textP n.toNat []))∧Below w.heap.size w w':=by
 refine ent125 _ _ _ ?_
 obtain ⟨m,rfl⟩:=Int.eq_ofNat_of_zero_le (show 0≤n by omega)
 simp (disch:=first|omega|exact zF rfl|exact zG rfl|exact fun h=>h|(simp only[zA,zB,zC,zD,bytesW];omega)) only[go_sem]
 refine ⟨fun h=>⟨fun h=>by omega,fun h=>?_⟩,fun h=>by omega⟩
 refine msW_one ty181mkI rfl (by omega) (by omega) (by omega) (by omega) ?_
 rw [Int.toNat_natCast,zeros_bytes]
 have s2:=(St.start (W0:=w)).box (bytesC (List.replicate m 0)) 5
 have r2:=s2.rules 0 rfl
 simp (disch:=first|omega|exact zF rfl|exact zG rfl|exact fun h=>h|(simp only[zA,zB,zC,zD,bytesW];omega)) only[go_sem]
 refine ⟨List.replicate m 0,by simp,fun j b hb=>?_,by rw [textP_nil _ (by omega)],s2.bel⟩
 rw [Addr.add_lit,Nat.zero_add,r2.1]
 simp only [bytesC,List.getElem?_toArray,List.getElem?_map,hb,Option.map_some]
theorem count_ok(s:List UInt8)(L:List (List UInt8))(w:World)(hp:Pg s L):Ret Tryz.prog 94 [.string (ofL s)] w fun u w'=>u=.int .i64 (itemsTo L L.length).length∧Below w.heap.size w w':=by
 have hfew:=hp.few
 refine ent94 _ _ _ ?_
 simp (disch:=first|omega|exact zF rfl|exact zG rfl|exact fun h=>h|(simp only[zA,zB,zC,zD,bytesW];omega)) only[go_sem]
 have s4:=(St.start (W0:=w)).box #[.int .i64 0] 3
 obtain ⟨g,hg⟩:∃ g,g=w.heap.size:=⟨_,rfl⟩
 have hbb:∀ w',Below w.heap.size w w'→Below g w w':=fun _ h=>by rw [hg]; exact h
 rw [← hg] at s4 ⊢
 generalize w.alloc (.cells #[.int .i64 0] 3)=w4 at s4 ⊢
 refine Ret.mono (all_ok s w4) ?_
 rintro _ w5 ⟨rfl,rfl⟩
 simp (disch:=first|omega|exact zF rfl|exact zG rfl|exact fun h=>h|(simp only[zA,zB,zC,zD,bytesW];omega)) only[go_sem]
 have s5:=s4.box #[.string (ofL s)] 9
 have hitems:(itemsTo L L.length).length≤127:=by
  have:∀ k,(itemsTo L k).length≤k:=by
   intro k
   induction k with
   | zero=>simp [itemsTo]
   | succ k ih =>
    rw [itemsTo,List.length_append]
    split
    ·split <;> simp <;> omega
    ·simp; omega
  have:=this L.length
  omega
 refine RangeW_all (fun x:Nat × List UInt8=>[.int .i64 x.1,.string (ofL x.2)]) (itemsTo L L.length) (fun pre=>[.blk w4.heap.size #[.string (ofL s)] 9,.blk g #[.int .i64 pre.length] 3]) rfl (by kernel_rfl) s5 rfl (fun _=>rfl) ?_ ?_ ?_
 ·intro fv J w1 hJ1 hJ2 hf h0
  refine all1_ok fv _ s L J w1 hp (fun pre w' h=>?_) hJ2 hf h0
  obtain ⟨l,D,o,h⟩:=hJ1 pre w' h
  exact (h.rules 2 rfl).1 0
 ·intro pre x w' l D o o2 hx h
  simp (disch:=first|omega|exact zF rfl|exact zG rfl|exact fun h=>h|(simp only[zA,zB,zC,zD,bytesW];omega)) only[go_sem]
  refine ⟨_,h,fun w2 h2=>?_⟩
  have r3:=h2.rules 3 rfl
  have hpl:pre.length≤127:=by obtain ⟨r,e⟩:=hx; rw [← e,List.length_append] at hitems; omega
  simp (disch:=first|omega|exact zF rfl|exact zG rfl|exact fun h=>h|(simp only[zA,zB,zC,zD,bytesW];omega)) only[go_sem,r3]
  have h3:=h2.set 3 rfl 0 (.int .i64 (pre.length+1))
  simp only [List.set_cons_succ,List.set_cons_zero,List.setIfInBounds_toArray] at h3
  refine ⟨⟨by omega,by omega⟩,?_⟩
  rw [List.length_append]
  exact h3
 ·intro D w' h
  have r2:=h.rules 2 rfl
  have hD:=h.obj 0 rfl
  simp (disch:=first|omega|exact zF rfl|exact zG rfl|exact fun h=>h|(simp only[zA,zB,zC,zD,bytesW];omega)) only[go_sem,r2,hD]
  exact hbb _ (h.putObj 0 rfl (.deferred none)).bel
end Go.Proofs.YtkmjkmjpejmlnaaGreat.Slt

namespace Go.Proofs.YtkmjkmjpejmlnaaGreat
open Go Go.Ann Go.RowKit Go.WideShapes
section
variable {W0 w:World} {F:Nat→Prop} {L:List Res} {I:List Inv} {e:En} {P:List (List UInt8)}
def hpB(hb:Nat)(e:En)(i:Int):Res:=.blk hb #[.pointer (some ⟨e.p,0,none⟩),.int .i64 i] 104
theorem Pgr.hp{hb:Nat}{i:Int}(h:Pgr e P W0 w F (hpB hb e i::L) I):Blk w hb #[.pointer (some ⟨e.p,0,none⟩),.int .i64 i] 104:=by
 obtain ⟨A,h1,_⟩:=h.lift
 exact h1.blk 0 rfl
theorem hmade_ok{hb:Nat}{i:Int}(h:Pgr e P W0 w F (hpB hb e i::L) I) :
  Ret Tryz.prog 50 [.pointer (some ⟨hb,0,none⟩)] w fun u w'=>u=.bool true∧w'=w:=by
 refine ent50 _ _ _ ?_
 have r:=h.hp.rules
 simp (disch:=first|omega|exact zF rfl|exact zG rfl|exact fun h=>h|(simp only[zA,zB,zC,zD,bytesW];omega)) only[go_sem,r]
theorem place_ok'(a i:Int)(w:World)(h0:0≤a)(h1:a≤100000)(h2:0≤i)(h3:i≤100000) :
  Ret Tryz.prog 59 [.int .i64 a,.int .i64 i] w fun u w'=>u=.int .i64 (256 * a+i)∧w'=w:=by
 refine ent59 _ _ _ _ ?_
 simp (disch:=first|omega|exact zF rfl|exact zG rfl|exact fun h=>h|(simp only[zA,zB,zC,zD,bytesW];omega)) only[go_sem]
 exact ⟨by constructor <;> omega,by constructor <;> omega⟩
theorem hread_ok{hb:Nat}{i:Int}(a:Int)(h:Pgr e P W0 w F (hpB hb e i::L) I)(h3:3≤P.length)(ha:I64 a)(hok:chkN P a=0) :
  Ret Tryz.prog 56 [.pointer (some ⟨hb,0,none⟩),.int .i64 a] w fun u w'=>u=.tuple #[.int .i64 (unfixL ((P.getD a.toNat []).take 4)),.string (ofL ((P.getD a.toNat []).drop 4)),.int .i64 0]∧Pgr e P W0 w' F (hpB hb e i::L) I:=by
 refine ent56 _ _ _ _ ?_
 have r:=h.hp.rules
 simp (disch:=first|omega|exact zF rfl|exact zG rfl|exact fun h=>h|(simp only[zA,zB,zC,zD,bytesW];omega)) only[go_sem,r]
 refine Ret.mono (pget_ok a h h3 ha) ?_
 rintro _ w2 ⟨rfl,h2⟩
 unfold getN
 rw [if_neg (by omega)]
 have h256:(P.getD a.toNat []).length=256:=by
  obtain ⟨c1,c2⟩:=chk_in hok
  have hlt:a.toNat<P.length:=by omega
  rw [List.getD_eq_getElem?_getD,List.getElem?_eq_getElem hlt]
  exact h2.full _ (List.getElem_mem hlt)
 generalize P.getD a.toNat []=B at h256 ⊢
 simp (disch:=first|omega|exact zF rfl|exact zG rfl|exact fun h=>h|(simp only[zA,zB,zC,zD,bytesW];omega)) only[go_sem]
 refine c56draw0 ?_
 simp (disch:=first|omega|exact zF rfl|exact zG rfl|exact fun h=>h|(simp only[zA,zB,zC,zD,bytesW];omega)) only[go_sem,c56D0]
 refine ⟨by omega,by omega,Ret.mono (unfixed_ok _ _ (by rw [List.length_take]; omega)) ?_⟩
 rintro _ w4 ⟨rfl,rfl⟩
 simp (disch:=first|omega|exact zF rfl|exact zG rfl|exact fun h=>h|(simp only[zA,zB,zC,zD,bytesW];omega)) only[go_sem,c56D0]
 have hlt:=unfixL_lt (B.take 4)
 rw [List.length_take,h256] at hlt
 have e4:256 ^ min 4 256=4294967296:=by decide
 rw [e4] at hlt
 exact ⟨by constructor <;> omega,h2.drew⟩
end
open Go Go.Ann Go.RowKit Go.WideShapes
def nxtN(P:List (List UInt8))(a:Nat):Nat:=unfixL ((P.getD a []).take 4)
def resN(P:List (List UInt8))(a:Nat):List UInt8:=(P.getD a []).drop 4
def pgN(n:Nat)(s:List UInt8):List UInt8:=fixL n 4++s
inductive Ent
 | no
 | sh (r:List UInt8)
 | lo (r:List UInt8) (g:List Nat)
 | gh (s:List UInt8)
namespace Ent
def stub:Ent→List UInt8
 | .no=>[]
 | .sh r=>115::r
 | .lo r g=>108::(fixL r.length 4++fixL (g.headD 0) 4)
 | .gh s=>s
def pgs:Ent→List Nat
 | .lo _ g=>g
 | _=>[]
def rec?:Ent→Option (List UInt8)
 | .sh r=>some r
 | .lo r _=>some r
 | _=>none
end Ent
def SpellN(P:List (List UInt8)):List UInt8→List Nat→Prop
 | r,[]=>r=[]
 | r,a::g=>r≠[]∧nxtN P a=g.headD 0∧(resN P a).take r.length=r.take 252∧SpellN P (r.drop 252) g
def EntOk(P:List (List UInt8)):Ent→Prop
 | .no=>True
 | .sh r=>r≠[]∧r.length≤62
 | .lo r g=>62<r.length∧r.length≤2000∧SpellN P r g
 | .gh s=>s≠[]∧s.length≤63
def PageOk(P:List (List UInt8))(x:Nat × List Ent):Prop:=Slt.Pg (resN P x.1) (x.2.map Ent.stub)∧∀ e∈x.2,EntOk P e
def LinkN(P:List (List UInt8)):Nat→List Nat→Nat→Prop
 | a,[],b=>a=b
 | a,c::C,b=>a=c∧LinkN P (nxtN P c) C b
def entsG(es:List Ent):List Nat:=es.flatMap Ent.pgs
def pagesX(X:List (Nat × List Ent)):List Nat:=X.flatMap fun x=>x.1::entsG x.2
def rootM(P:List (List UInt8))(i:Int):Nat:=unfixL (cutL (rootB P) (4 * i) (4 * i+4))
structure HpN(mx n:Nat)(i:Int)(P:List (List UInt8))(X:List (Nat × List Ent))(E:List Nat):Prop where
 given:Given n P fun j=>decide (j<2∨j∈E++pagesX X)
 low:∀ a∈E++pagesX X,2≤a∧a<mx
 nd:(E++pagesX X).Nodup
 full:∀ p∈P,p.length=256
 idx:0≤i∧i<16
 big:3≤n∧n≤500∧3≤mx∧mx≤n
 root:LinkN P (rootM P i) (X.map Prod.fst) 0
 pg:∀ x∈X,PageOk P x
 some:∀ x∈X,∃ e∈x.2,e.stub≠[]
theorem getD_set{P:List (List UInt8)}{a b:Nat}{s:List UInt8}(h:a<P.length):(P.set a s).getD b []=if b=a then s else P.getD b []:=by
 rw [List.getD_eq_getElem?_getD,List.getD_eq_getElem?_getD,List.getElem?_set]
 by_cases e:b=a
 ·subst e; simp [h]
 ·rw [if_neg e,if_neg (fun h=>e h.symm)]
theorem nxtN_set{P:List (List UInt8)}{a b:Nat}{n:Nat}{s:List UInt8}(h:a<P.length)(hn:n<4294967296):nxtN (P.set a (pgN n s)) b=if b=a then n else nxtN P b:=by
 unfold nxtN
 rw [getD_set h]
 split
 ·have e:(pgN n s).take 4=fixL n 4:=by unfold pgN; exact List.take_left' (fixL_len n 4)
  rw [e,unfixL_fixL]
  exact Nat.mod_eq_of_lt hn
 ·rfl
theorem resN_set{P:List (List UInt8)}{a b:Nat}{n:Nat}{s:List UInt8}(h:a<P.length):resN (P.set a (pgN n s)) b=if b=a then s else resN P b:=by
 unfold resN
 rw [getD_set h]
 split
 ·unfold pgN; exact List.drop_left' (fixL_len n 4)
 ·rfl
def SameOn(P P':List (List UInt8))(C:List Nat):Prop:=∀ c∈C,P'.getD c []=P.getD c []
theorem SameOn.sub{P P':List (List UInt8)}{C D:List Nat}(h:SameOn P P' C)(hs:∀ d∈D,d∈C):SameOn P P' D:=fun c hc=>h c (hs c hc)
theorem SameOn.nxt{P P':List (List UInt8)}{C:List Nat}(h:SameOn P P' C){c:Nat}(hc:c∈C):nxtN P' c=nxtN P c:=by unfold nxtN; rw [h c hc]
theorem SameOn.res{P P':List (List UInt8)}{C:List Nat}(h:SameOn P P' C){c:Nat}(hc:c∈C):resN P' c=resN P c:=by unfold resN; rw [h c hc]
theorem SameOn.set{P:List (List UInt8)}{C:List Nat}{a:Nat}(s:List UInt8)(h:a ∉ C):SameOn P (P.set a s) C:=fun c hc=>by
 have:a≠c:=fun e=>h (e ▸ hc)
 rw [List.getD_eq_getElem?_getD,List.getD_eq_getElem?_getD,List.getElem?_set_ne this]
theorem SameOn.trans{P P' P2:List (List UInt8)}{C:List Nat}(h:SameOn P P' C)(h2:SameOn P' P2 C):SameOn P P2 C:=fun c hc=>(h2 c hc).trans (h c hc)
theorem SpellN.same{P P':List (List UInt8)}:∀ {g:List Nat} {r:List UInt8},SameOn P P' g→SpellN P r g→SpellN P' r g
 | [],_,_,h=>h
 | a::g,r,hs,h=>by
  obtain ⟨h1,h2,h3,h4⟩:=h
  refine ⟨h1,?_,?_,SpellN.same (hs.sub fun d hd=>List.mem_cons_of_mem _ hd) h4⟩
  ·rw [hs.nxt List.mem_cons_self]; exact h2
  ·rw [hs.res List.mem_cons_self]; exact h3
theorem EntOk.same{P P':List (List UInt8)}{e:Ent}(hs:SameOn P P' e.pgs)(h:EntOk P e):EntOk P' e:=by
 cases e with
 | lo r g=>exact ⟨h.1,h.2.1,h.2.2.same hs⟩
 | no=>exact h
 | sh r=>exact h
 | gh s=>exact h
theorem ents_sub{es:List Ent}{e:Ent}(he:e∈es):∀ d∈e.pgs,d∈entsG es:=fun d hd=>List.mem_flatMap.2 ⟨e,he,hd⟩
theorem page_sub{X:List (Nat × List Ent)}{x:Nat × List Ent}(hx:x∈X):∀ d∈x.1::entsG x.2,d∈pagesX X:=fun d hd=>List.mem_flatMap.2 ⟨x,hx,hd⟩
theorem PageOk.same{P P':List (List UInt8)}{x:Nat × List Ent}(hs:SameOn P P' (x.1::entsG x.2))(h:PageOk P x):PageOk P' x:=by
 refine ⟨?_,fun e he=>(h.2 e he).same (hs.sub fun d hd=>List.mem_cons_of_mem _ (ents_sub he d hd))⟩
 rw [hs.res List.mem_cons_self]; exact h.1
theorem LinkN.same{P P':List (List UInt8)}:∀ {C:List Nat} {a b:Nat},SameOn P P' C→LinkN P a C b→LinkN P' a C b
 | [],_,_,_,h=>h
 | c::C,a,b,hs,h=>by
  refine ⟨h.1,?_⟩
  rw [hs.nxt List.mem_cons_self]
  exact LinkN.same (hs.sub fun d hd=>List.mem_cons_of_mem _ hd) h.2
theorem LinkN.app{P:List (List UInt8)}:∀ {C D:List Nat} {a b:Nat},LinkN P a (C++D) b↔∃ c,LinkN P a C c∧LinkN P c D b
 | [],D,a,b=>⟨fun h=>⟨a,rfl,h⟩,fun ⟨c,h1,h2⟩=>by cases h1; exact h2⟩
 | c::C,D,a,b=>by
  refine ⟨fun h=>?_,fun ⟨d,h1,h2⟩=>⟨h1.1,LinkN.app.2 ⟨d,h1.2,h2⟩⟩⟩
  obtain ⟨d,h1,h2⟩:=LinkN.app.1 h.2
  exact ⟨d,⟨h.1,h1⟩,h2⟩
theorem rootN_eq{P:List (List UInt8)}{i:Int}(h:0≤i∧i<16):rootN P i=(((rootM P i:Nat):Int),0):=by unfold rootN rootM; rw [if_pos h]
section
variable {mx n:Nat} {i:Int} {P:List (List UInt8)} {X:List (Nat × List Ent)} {E:List Nat}
theorem HpN.rng(h:HpN mx n i P X E):∀ a∈E++pagesX X,2≤a∧a<n:=fun a ha=>by
 have h1:=h.low a ha
 have h2:=h.big
 exact ⟨h1.1,by omega⟩
theorem HpN.chk(h:HpN mx n i P X E){a:Nat}(ha:a∈E++pagesX X):chkN P a=0:=by
 obtain ⟨h1,h2⟩:=h.rng a ha
 rw [h.given.chk h1 h2,if_pos (by simpa using Or.inr (by simpa using ha))]
theorem HpN.memX(h:HpN mx n i P X E){a:Nat}(ha:a∈pagesX X):a∈E++pagesX X:=List.mem_append_right _ ha
theorem HpN.memE(h:HpN mx n i P X E){a:Nat}(ha:a∈E):a∈E++pagesX X:=List.mem_append_left _ ha
theorem count_given{n:Nat}{l:List Nat}(h2:2≤n)(hr:∀ a∈l,2≤a∧a<n)(hn:l.Nodup):((List.range n).filter fun j=>decide (j<2∨j∈l)).length=2+l.length:=by
 have hp:((List.range n).filter fun j=>decide (j<2∨j∈l)).Perm ([0,1]++l):=by
  rw [List.perm_ext_iff_of_nodup (List.nodup_range.filter _)]
  ·intro a
   simp only [List.mem_filter,List.mem_range,decide_eq_true_eq,List.cons_append,List.nil_append,List.mem_cons]
   constructor
   ·rintro ⟨h1,h3 | h3⟩
    ·have:a=0∨a=1:=by omega
     rcases this with rfl | rfl
     ·exact .inl rfl
     ·exact .inr (.inl rfl)
    ·exact .inr (.inr h3)
   ·rintro (rfl | rfl | h3)
    ·exact ⟨by omega,.inl (by omega)⟩
    ·exact ⟨by omega,.inl (by omega)⟩
    ·exact ⟨(hr a h3).2,.inr h3⟩
  ·simp only [List.cons_append,List.nil_append,List.nodup_cons,List.mem_cons]
   refine ⟨?_,?_,hn⟩
   ·rintro (h | h)
    ·cases h
    ·have:=(hr 0 h).1; omega
   ·intro h; have:=(hr 1 h).1; omega
 rw [hp.length_eq,List.length_append]; rfl
theorem HpN.room(h:HpN mx n i P X E):roomN P=n - (2+(E++pagesX X).length):=by
 rw [h.given.room,count_given (by have:=h.big; omega) h.rng h.nd]
theorem HpN.few(h:HpN mx n i P X E):2+(E++pagesX X).length≤n:=by
 have:=count_given (by have:=h.big; omega) h.rng h.nd
 have h2:=List.length_filter_le (fun j=>decide (j<2∨j∈E++pagesX X)) (List.range n)
 rw [List.length_range] at h2
 omega
theorem not_all{n:Nat}{l:List Nat}(hr:∀ a∈l,2≤a∧a<n)(hn:l.Nodup)(h:2+l.length<n):∃ k,2≤k∧k<n∧k ∉ l∧∀ j,2≤j→j<k→j∈l:=by
 have hex:∃ k,2≤k∧k<n∧k ∉ l:=by
  refine Classical.byContradiction fun hc=>?_
  have hall:∀ k,2≤k→k<n→k∈l:=fun k h2 h3=>Classical.byContradiction fun h4=>hc ⟨k,h2,h3,h4⟩
  have hc:=count_given (by omega) hr hn
  have e:((List.range n).filter fun j=>decide (j<2∨j∈l))=List.range n:=List.filter_eq_self.2 fun j hj=>by
   rw [List.mem_range] at hj
   rw [decide_eq_true_eq]
   by_cases h2:j<2
   ·exact .inl h2
   ·exact .inr (hall j (by omega) hj)
  rw [e,List.length_range] at hc
  omega
 have:∀ m,∀ k,k≤m→2≤k→k<n→k ∉ l→∃ k,2≤k∧k<n∧k ∉ l∧∀ j,2≤j→j<k→j∈l:=by
  intro m
  induction m with
  | zero=>intro k h1 h2; omega
  | succ m ih =>
   intro k h1 h2 h3 h4
   by_cases hall:∀ j,2≤j→j<k→j∈l
   ·exact ⟨k,h2,h3,h4,hall⟩
   ·obtain ⟨j,hj⟩:=Classical.not_forall.1 hall
    have hj1:2≤j:=Classical.byContradiction fun hc=>hj fun h=>absurd h hc
    have hj2:j<k:=Classical.byContradiction fun hc=>hj fun _ h=>absurd h hc
    have hj3:j ∉ l:=fun hc=>hj fun _ _=>hc
    exact ih j (by omega) hj1 (by omega) hj3
 obtain ⟨k,h2,h3,h4⟩:=hex
 exact this k k (Nat.le_refl _) h2 h3 h4
end
open Go Go.Ann Go.RowKit Go.WideShapes
def setR(R:List UInt8)(i v:Nat):List UInt8:=R.take (4 * i)++fixL v 4++R.drop (4 * i+4)
theorem setR_len{R:List UInt8}{i v:Nat}(h:R.length=256)(hi:i<16):(setR R i v).length=256:=by
 unfold setR; rw [List.length_append,List.length_append,fixL_len,List.length_take,List.length_drop,h]; omega
theorem setR_get{R:List UInt8}{i v m:Nat}(h:R.length=256)(hi:i<16):(setR R i v)[m]?=if 4 * i≤m∧m<4 * i+4 then (fixL v 4)[m - 4 * i]? else R[m]?:=by
 have l1:(R.take (4 * i)).length=4 * i:=by rw [List.length_take,h]; omega
 have l2:(R.take (4 * i)++fixL v 4).length=4 * i+4:=by rw [List.length_append,l1,fixL_len]
 unfold setR
 rw [List.getElem?_append,l2]
 by_cases h1:m<4 * i+4
 ·rw [if_pos h1,List.getElem?_append,l1]
  by_cases h2:m<4 * i
  ·rw [if_pos h2,if_neg (by omega),List.getElem?_take,if_pos h2]
  ·rw [if_neg h2,if_pos ⟨by omega,h1⟩]
 ·rw [if_neg h1,if_neg (by omega),List.getElem?_drop]
  congr 1; omega
theorem cut_get{R:List UInt8}{k m:Nat}:(cutL R (4 * (k:Int)) (4 * (k:Int)+4))[m]?=if m<4 then R[4 * k+m]? else none:=by
 unfold cutL
 rw [List.getElem?_drop,show (4 * (k:Int)).toNat=4 * k by omega,show (4 * (k:Int)+4).toNat=4 * k+4 by omega,List.getElem?_take]
 by_cases h:m<4
 ·rw [if_pos (by omega),if_pos h]
 ·rw [if_neg (by omega),if_neg h]
theorem root_same{R:List UInt8}{i v:Nat}(h:R.length=256)(hi:i<16):cutL (setR R i v) (4 * (i:Int)) (4 * (i:Int)+4)=fixL v 4:=by
 refine List.ext_getElem? fun m=>?_
 rw [cut_get,setR_get h hi]
 by_cases hm:m<4
 ·rw [if_pos hm,if_pos (by omega)]
  congr 1; omega
 ·rw [if_neg hm,List.getElem?_eq_none (by rw [fixL_len]; omega)]
theorem root_other{R:List UInt8}{i v k:Nat}(h:R.length=256)(hi:i<16)(hk:k≠i):cutL (setR R i v) (4 * (k:Int)) (4 * (k:Int)+4)=cutL R (4 * (k:Int)) (4 * (k:Int)+4):=by
 refine List.ext_getElem? fun m=>?_
 rw [cut_get,cut_get,setR_get h hi]
 by_cases hm:m<4
 ·rw [if_pos hm,if_pos hm,if_neg (by omega)]
 ·rw [if_neg hm,if_neg hm]
def rootAt(R:List UInt8)(k:Nat):Nat:=unfixL (cutL R (4 * (k:Int)) (4 * (k:Int)+4))
theorem rootAt_set{R:List UInt8}{i v k:Nat}(h:R.length=256)(hi:i<16)(hv:v<4294967296):rootAt (setR R i v) k=if k=i then v else rootAt R k:=by
 unfold rootAt
 by_cases hk:k=i
 ·subst hk
  rw [root_same h hi,if_pos rfl,unfixL_fixL]
  exact Nat.mod_eq_of_lt hv
 ·rw [root_other h hi hk,if_neg hk]
theorem rootAt_zero(k:Nat):rootAt (filledL []) k=0:=by
 have h:∀ l:List UInt8,(∀ u∈l,u=0)→unfixL l=0:=by
  intro l
  induction l with
  | nil=>intro _; rfl
  | cons a l ih =>
   intro hl
   rw [unfixL,ih fun u hu=>hl u (List.mem_cons_of_mem _ hu),hl a (List.mem_cons_self ..)]; rfl
 refine h _ fun u hu=>?_
 unfold cutL at hu
 have:=List.mem_of_mem_take (List.mem_of_mem_drop hu)
 unfold filledL at this
 rw [List.nil_append] at this
 exact List.eq_of_mem_replicate this
theorem setRootN_in{P:List (List UInt8)}{i j:Int}(hi:0≤i∧i<16)(hr:(rootB P).length=256)(hj:j=0∨chkN P j=0)(h0:0≤j):setRootN P i j=(P.set 1 (setR (rootB P) i.toNat j.toNat),0):=by
 unfold setRootN
 have e0:(rootN P i).2=0:=by unfold rootN; rw [if_pos hi]
 rw [if_neg (by rw [e0]; decide),if_neg (by rintro ⟨h1,h2⟩; rcases hj with h | h; exact h1 h; exact h2 h)]
 rw [show (4 * i).toNat=4 * i.toNat by omega,show (4 * i+4).toNat=4 * i.toNat+4 by omega]
 have:=setR_len (R:=rootB P) (i:=i.toNat) (v:=j.toNat) hr (by omega)
 unfold setR at this
 rw [filled256 this]
 rfl
theorem rootB_set{P:List (List UInt8)}{l:List UInt8}(h:1<P.length):rootB (P.set 1 l)=l:=by
 unfold rootB
 rw [List.getD_eq_getElem?_getD,List.getElem?_set_self h]; rfl
theorem rootB_other{P:List (List UInt8)}{l:List UInt8}{i:Nat}(h:i≠1):rootB (P.set i l)=rootB P:=by
 unfold rootB
 rw [List.getD_eq_getElem?_getD,List.getD_eq_getElem?_getD,List.getElem?_set_ne h]
theorem rootM_at{P:List (List UInt8)}{i:Int}(h:0≤i):rootM P i=rootAt (rootB P) i.toNat:=by
 unfold rootM rootAt
 rw [Int.toNat_of_nonneg h]
theorem full_set{P:List (List UInt8)}{a:Nat}{s:List UInt8}(h:∀ p∈P,p.length=256)(hs:s.length=256):∀ p∈P.set a s,p.length=256:=by
 intro p hp
 rcases List.mem_or_eq_of_mem_set hp with hp | rfl
 ·exact h p hp
 ·exact hs
theorem pgN_len{n:Nat}{s:List UInt8}(h:s.length=252):(pgN n s).length=256:=by unfold pgN; rw [List.length_append,fixL_len]; omega
section
variable {mx n:Nat} {i:Int} {P P':List (List UInt8)} {X:List (Nat × List Ent)} {E E':List Nat}
theorem HpN.upd(h:HpN mx n i P X E)(hg:Given n P' fun j=>decide (j<2∨j∈E'++pagesX X))(hr:∀ a∈E',2≤a∧a<mx)(hn:(E'++pagesX X).Nodup)(hf:∀ p∈P',p.length=256)(hs:SameOn P P' (1::pagesX X)):HpN mx n i P' X E':=by
 have hb:rootM P' i=rootM P i:=by
  unfold rootM rootB
  rw [hs 1 List.mem_cons_self]
 refine ⟨hg,fun a ha=>?_,hn,hf,h.idx,h.big,?_,fun x hx=>(h.pg x hx).same (hs.sub fun d hd=>List.mem_cons_of_mem _ (page_sub hx d hd)),h.some⟩
 ·rcases List.mem_append.1 ha with ha | ha
  ·exact hr a ha
  ·exact h.low a (h.memX ha)
 ·rw [hb]
  refine h.root.same (hs.sub fun d hd=>?_)
  obtain ⟨x,hx,rfl⟩:=List.mem_map.1 hd
  exact List.mem_cons_of_mem _ (page_sub hx _ List.mem_cons_self)
theorem HpN.alloc(h:HpN mx n i P X E)(hroom:2+(E++pagesX X).length<mx):∃ P':List (List UInt8),∃ a:Nat,allocN P=(P',(a:Int),0)∧(∀ k:Nat,lowP P=Option.some k→k<mx)∧HpN mx n i P' X (a::E)∧a ∉ E++pagesX X∧SameOn P P' (E++pagesX X):=by
 have hb:=h.big
 obtain ⟨k,h2,h3m,h4,h5⟩:=not_all h.low h.nd hroom
 have h3:k<n:=by omega
 obtain ⟨e,elow,g⟩:=h.given.alloc (by omega) h2 h3 (by simp only [decide_eq_false_iff_not,not_or]; exact ⟨by omega,h4⟩) (fun j hj1 hj2=>by simp only [decide_eq_true_eq]; exact .inr (h5 j hj1 hj2))
 have hsame:∀ C:List Nat,k ∉ C→0 ∉ C→SameOn P (emptyP (markP P k true) k) C:=fun C hC h0=>by
  unfold emptyP markP
  rw [Int.toNat_natCast]
  exact (SameOn.set _ h0).trans (SameOn.set _ hC)
 have h0:∀ C:List Nat,(∀ a∈C,1≤a)→0 ∉ C:=fun C hC hc=>by have:=hC 0 hc; omega
 refine ⟨_,k,e,fun k' hk'=>by rw [elow] at hk'; cases hk'; exact h3m,h.upd (g.ext fun j hj=>?_) ?_ ?_ ?_ (hsame _ ?_ (h0 _ ?_)),h4,hsame _ h4 (h0 _ fun a ha=>by have:=h.rng a ha; omega)⟩
 ·by_cases hjk:j=k
  ·subst hjk; simp
  ·rw [if_neg hjk]
   congr 1
   simp only [List.cons_append,List.mem_cons,eq_iff_iff]
   constructor
   ·rintro (h | h)
    ·exact .inl h
    ·exact .inr (.inr h)
   ·rintro (h | h | h)
    ·exact .inl h
    ·exact absurd h hjk
    ·exact .inr h
 ·intro a ha
  rcases List.mem_cons.1 ha with rfl | ha
  ·exact ⟨h2,h3m⟩
  ·exact h.low a (h.memE ha)
 ·rw [List.cons_append,List.nodup_cons]; exact ⟨h4,h.nd⟩
 ·unfold emptyP markP
  refine full_set (full_set h.full (filledL_length ?_)) (filledL_length (by decide))
  rw [withL_length,h.given.u]; exact Nat.le_refl _
 ·intro hc
  rcases List.mem_cons.1 hc with hc | hc
  ·omega
  ·exact h4 (h.memX hc)
 ·intro a ha
  rcases List.mem_cons.1 ha with rfl | ha
  ·exact Nat.le_refl _
  ·have:=h.rng a (h.memX ha); omega
theorem HpN.free{a:Nat}(h:HpN mx n i P X (a::E)):∃ P',freeN P a=(P',0)∧HpN mx n i P' X E∧SameOn P P' (E++pagesX X):=by
 have hb:=h.big
 have hc:=h.chk (a:=a) (h.memE List.mem_cons_self)
 have hr:=h.rng a (h.memE List.mem_cons_self)
 have hnd:=h.nd
 rw [List.cons_append,List.nodup_cons] at hnd
 have g:=h.given.mark (by omega) (i:=a) hr.2 false
 refine ⟨_,by unfold freeN; rw [if_neg (fun hh=>hh hc)],h.upd (g.ext fun j hj=>?_) ?_ ?_ ?_ (SameOn.set _ ?_),SameOn.set _ fun hh=>by have:=h.rng 0 (List.mem_cons_of_mem _ hh); omega⟩
 ·by_cases hja:j=a
  ·subst hja
   rw [if_pos rfl]
   symm
   simp only [decide_eq_false_iff_not,not_or]
   exact ⟨by omega,hnd.1⟩
  ·rw [if_neg hja]
   congr 1
   simp only [List.cons_append,List.mem_cons,eq_iff_iff]
   constructor
   ·rintro (h | h | h)
    ·exact .inl h
    ·exact absurd h hja
    ·exact .inr h
   ·rintro (h | h)
    ·exact .inl h
    ·exact .inr (.inr h)
 ·intro b hb; exact h.low b (h.memE (List.mem_cons_of_mem _ hb))
 ·exact hnd.2
 ·unfold markP
  refine full_set h.full (filledL_length ?_)
  rw [withL_length,h.given.u]; exact Nat.le_refl _
 ·intro hh
  rcases List.mem_cons.1 hh with hh | hh
  ·cases hh
  ·have:=h.rng 0 (h.memX hh); omega
theorem HpN.setE{a:Nat}{s:List UInt8}(h:HpN mx n i P X E)(ha:a∈E)(hs:s.length=256):HpN mx n i (P.set a s) X E:=by
 have hr:=h.rng a (h.memE ha)
 refine h.upd (h.given.set (by omega) s) (fun b hb=>h.low b (h.memE hb)) h.nd (full_set h.full hs) (SameOn.set _ ?_)
 intro hc
 rcases List.mem_cons.1 hc with hc | hc
 ·omega
 ·exact (List.nodup_append.1 h.nd).2.2 a ha a hc rfl
theorem HpN.perm(h:HpN mx n i P X E)(hp:E.Perm E'):HpN mx n i P X E':=by
 have hm:∀ a,a∈E'++pagesX X↔a∈E++pagesX X:=fun a=>(hp.append_right (pagesX X)).mem_iff.symm
 exact h.upd (h.given.ext fun j hj=>by simp only [hm]) (fun a ha=>h.low a (h.memE (hp.mem_iff.2 ha))) ((hp.append_right _).nodup_iff.1 h.nd) h.full fun c _=>rfl
theorem pagesX_mid{A B:List (Nat × List Ent)}{x:Nat × List Ent}:pagesX (A++x::B)=pagesX A++(x.1::entsG x.2)++pagesX B:=by
 unfold pagesX
 rw [List.flatMap_append,List.flatMap_cons,List.append_assoc]
theorem perm_mid{α:Type}{E E' A B G G':List α}(h:(E++G).Perm (E'++G')):(E++(A++G++B)).Perm (E'++(A++G'++B)):=by
 have h1:∀ (E G:List α),(E++(A++G++B)).Perm (E++G++(A++B)):=fun E G=>by
  have:=(List.perm_append_comm (l₁:=A) (l₂:=G)).append_right B
  have:=this.append_left E
  simpa only [List.append_assoc] using this
 exact (h1 E G).trans ((h.append_right _).trans (h1 E' G').symm)
theorem HpN.setX{A B:List (Nat × List Ent)}{a:Nat}{es es':List Ent}{s:List UInt8}(h:HpN mx n i P (A++(a,es)::B) E)(hp:(E++entsG es).Perm (E'++entsG es'))(hs:Slt.Pg s (es'.map Ent.stub))(hl:s.length=252)
  (hok:∀ e∈es',EntOk P e) (hsome:∃ e∈es',e.stub≠[]):HpN mx n i (P.set a (pgN (nxtN P a) s)) (A++(a,es')::B) E':=by
 have hb:=h.big
 have hpp:(E++pagesX (A++(a,es)::B)).Perm (E'++pagesX (A++(a,es')::B)):=by
  rw [pagesX_mid,pagesX_mid]
  refine perm_mid ?_
  have e1:∀ (E G:List Nat),(E++a::G).Perm (a::(E++G)):=fun E G=>List.perm_middle
  exact (e1 E _).trans ((hp.cons a).trans (e1 E' _).symm)
 have hm:∀ b,b∈E'++pagesX (A++(a,es')::B)↔b∈E++pagesX (A++(a,es)::B):=fun b=>hpp.mem_iff.symm
 have hnd:=hpp.nodup_iff.1 h.nd
 have hax:a∈pagesX (A++(a,es)::B):=page_sub (x:=(a,es)) (by simp) _ List.mem_cons_self
 have hr:=h.rng a (h.memX hax)
 have hlt:a<P.length:=by rw [h.given.len]; exact hr.2
 have hnx:nxtN P a<4294967296:=by
  have:=unfixL_lt ((P.getD a []).take 4)
  have hle:((P.getD a []).take 4).length≤4:=List.length_take_le _ _
  exact Nat.lt_of_lt_of_le this (Nat.pow_le_pow_right (by decide) hle)
 have hnxt:∀ b,nxtN (P.set a (pgN (nxtN P a) s)) b=nxtN P b:=fun b=>by
  rw [nxtN_set hlt hnx]
  split
  ·rename_i e; rw [e]
  ·rfl
 have hlink:∀ (C:List Nat) (c d:Nat),LinkN P c C d→LinkN (P.set a (pgN (nxtN P a) s)) c C d:=by
  intro C
  induction C with
  | nil=>intro c d h; exact h
  | cons x C ih=>intro c d h; refine ⟨h.1,?_⟩; rw [hnxt]; exact ih _ _ h.2
 have hnd1:(pagesX A++(a::entsG es')++pagesX B).Nodup:=by
  rw [pagesX_mid] at hnd
  exact (List.nodup_append.1 hnd).2.1
 have hother:∀ x∈A++B,a ∉ x.1::entsG x.2:=by
  intro x hx hc
  have h1:=List.nodup_append.1 hnd1
  have h2:=List.nodup_append.1 h1.1
  rcases List.mem_append.1 hx with hx | hx
  ·exact h2.2.2 a (page_sub hx a hc) a List.mem_cons_self rfl
  ·exact h1.2.2 a (List.mem_append_right _ List.mem_cons_self) a (page_sub hx a hc) rfl
 refine ⟨(h.given.set (by omega) _).ext fun j hj=>by simp only [hm],fun b hb=>h.low b ((hm b).1 hb),hnd,full_set h.full (pgN_len hl),h.idx,h.big,?_,fun x hx=>?_,fun x hx=>?_⟩
 ·have e:rootM (P.set a (pgN (nxtN P a) s)) i=rootM P i:=by unfold rootM; rw [rootB_other (by omega)]
  rw [e]
  have h2:=h.root
  rw [List.map_append,List.map_cons] at h2 ⊢
  exact hlink _ _ _ h2
 ·have hcase:x=(a,es')∨x∈A++B:=by
   rcases List.mem_append.1 hx with hx | hx
   ·exact .inr (List.mem_append_left _ hx)
   ·rcases List.mem_cons.1 hx with hx | hx
    ·exact .inl hx
    ·exact .inr (List.mem_append_right _ hx)
  rcases hcase with rfl | hx'
  ·refine ⟨?_,fun e he=>(hok e he).same (SameOn.set _ fun hc=>?_)⟩
   ·show Slt.Pg (resN _ a) _
    rw [resN_set hlt,if_pos rfl]; exact hs
   ·have h1:=(List.nodup_append.1 (List.nodup_append.1 hnd1).1).2.1
    exact (List.nodup_cons.1 h1).1 (ents_sub he a hc)
  ·refine (h.pg x ?_).same (SameOn.set _ (hother x hx'))
   rcases List.mem_append.1 hx' with h' | h'
   ·exact List.mem_append_left _ h'
   ·exact List.mem_append_right _ (List.mem_cons_of_mem _ h')
 ·rcases List.mem_append.1 hx with hx | hx
  ·exact h.some x (List.mem_append_left _ hx)
  ·rcases List.mem_cons.1 hx with rfl | hx
   ·exact hsome
   ·exact h.some x (List.mem_append_right _ (List.mem_cons_of_mem _ hx))
end
open Go Go.Ann Go.RowKit Go.WideShapes
section
variable {mx n:Nat} {i:Int} {P P':List (List UInt8)} {X:List (Nat × List Ent)} {E E':List Nat}
theorem HpN.rootL(h:HpN mx n i P X E):(rootB P).length=256:=by
 refine h.full _ ?_
 unfold rootB
 have:=h.big
 have:=h.given.len
 rw [List.getD_eq_getElem?_getD,List.getElem?_eq_getElem (by omega)]
 exact List.getElem_mem _
theorem LinkN.head{a b:Nat}:∀ {C:List Nat},LinkN P a C b→C.headD b=a
 | [],h=>h.symm
 | _::_,h=>h.1.symm
theorem HpN.rootH(h:HpN mx n i P X E):rootM P i=(X.map Prod.fst).headD 0:=h.root.head.symm
theorem HpN.rootLt(h:HpN mx n i P X E):rootM P i<n:=by
 rw [h.rootH]
 cases X with
 | nil=>have:=h.big; simp; omega
 | cons x X=>exact (h.rng x.1 (h.memX (page_sub List.mem_cons_self _ List.mem_cons_self))).2
theorem rootM_set{P:List (List UInt8)}{i:Int}{v:Nat}(hi:0≤i∧i<16)(hr:(rootB P).length=256)(h1:1<P.length)(hv:v<4294967296):rootM (P.set 1 (setR (rootB P) i.toNat v)) i=v:=by
 rw [rootM_at hi.1,rootB_set h1,rootAt_set hr (by omega) hv,if_pos rfl]
theorem HpN.push{a:Nat}{es:List Ent}{s:List UInt8}(h:HpN mx n i P X E)(hp:E.Perm (a::(E'++entsG es)))(hs:Slt.Pg s (es.map Ent.stub))(hl:s.length=252)(hok:∀ e∈es,EntOk P e)(hsome:∃ e∈es,e.stub≠[]) :
  HpN mx n i ((P.set a (pgN (rootM P i) s)).set 1 (setR (rootB P) i.toNat a)) ((a,es)::X) E':=by
 have hb:=h.big
 have hpp:(E++pagesX X).Perm (E'++pagesX ((a,es)::X)):=by
  refine (hp.append_right _).trans ?_
  show (a::(E'++entsG es)++pagesX X).Perm (E'++(a::entsG es++pagesX X))
  simp only [List.cons_append,List.append_assoc]
  exact List.perm_middle.symm
 have hm:∀ b,b∈E'++pagesX ((a,es)::X)↔b∈E++pagesX X:=fun b=>hpp.mem_iff.symm
 have hnd:=hpp.nodup_iff.1 h.nd
 have haE:a∈E:=hp.mem_iff.2 List.mem_cons_self
 have hr:=h.rng a (h.memE haE)
 have hlt:a<P.length:=by rw [h.given.len]; exact hr.2
 have haX:a ∉ pagesX X:=fun hc=>(List.nodup_append.1 h.nd).2.2 a haE a hc rfl
 have h1X:∀ C:List Nat,(∀ c∈C,c∈E++pagesX X)→1 ∉ C:=fun C hC hc=>by have:=(h.rng 1 (hC 1 hc)).1; omega
 have hrl:=h.rootLt
 have e0:rootB (P.set a (pgN (rootM P i) s))=rootB P:=rootB_other (by omega)
 have hlen:(P.set a (pgN (rootM P i) s)).length=n:=by rw [List.length_set,h.given.len]
 have sameX:SameOn P ((P.set a (pgN (rootM P i) s)).set 1 (setR (rootB P) i.toNat a)) (pagesX X):=(SameOn.set _ haX).trans (SameOn.set _ (h1X _ fun c hc=>h.memX hc))
 refine ⟨((h.given.set (by omega) _).set (by omega) _).ext fun j hj=>by simp only [hm],fun b hb=>h.low b ((hm b).1 hb),hnd,full_set (full_set h.full (pgN_len hl)) (setR_len h.rootL (by have:=h.idx; omega)),h.idx,h.big,?_,fun x hx=>?_,fun x hx=>?_⟩
 ·have e:rootM ((P.set a (pgN (rootM P i) s)).set 1 (setR (rootB P) i.toNat a)) i=a:=by
   have:=rootM_set (P:=P.set a (pgN (rootM P i) s)) (v:=a) h.idx (by rw [e0]; exact h.rootL) (by omega) (by omega)
   rw [e0] at this; exact this
  rw [e]
  refine ⟨rfl,?_⟩
  have e2:nxtN ((P.set a (pgN (rootM P i) s)).set 1 (setR (rootB P) i.toNat a)) a=rootM P i:=by
   rw [(SameOn.set (P:=P.set a (pgN (rootM P i) s)) (C:=[a]) _ (by simp; omega)).nxt List.mem_cons_self,nxtN_set hlt (by omega),if_pos rfl]
  show LinkN _ (nxtN _ a) (X.map Prod.fst) 0
  rw [e2]
  refine h.root.same (sameX.sub fun d hd=>?_)
  obtain ⟨x,hx,rfl⟩:=List.mem_map.1 hd
  exact page_sub hx _ List.mem_cons_self
 ·rcases List.mem_cons.1 hx with rfl | hx
  ·have hnd1:(a::entsG es++pagesX X).Nodup:=(List.nodup_append.1 hnd).2.1
   refine ⟨?_,fun e he=>(hok e he).same ?_⟩
   ·show Slt.Pg (resN _ a) _
    rw [(SameOn.set (P:=P.set a (pgN (rootM P i) s)) (C:=[a]) _ (by simp; omega)).res List.mem_cons_self,resN_set hlt,if_pos rfl]; exact hs
   ·refine (SameOn.set _ fun hc=>?_).trans (SameOn.set _ fun hc=>?_)
    ·rw [List.cons_append,List.nodup_cons] at hnd1
     exact hnd1.1 (List.mem_append_left _ (ents_sub he a hc))
    ·have:(1:Nat)∈E++pagesX X:=(hm 1).1 (List.mem_append_right _ (page_sub (x:=(a,es)) List.mem_cons_self 1 (List.mem_cons_of_mem _ (ents_sub he 1 hc))))
     have:=(h.rng 1 this).1; omega
  ·exact (h.pg x hx).same (sameX.sub (page_sub hx))
 ·rcases List.mem_cons.1 hx with rfl | hx
  ·exact hsome
  ·exact h.some x hx
theorem HpN.pop{a:Nat}{es:List Ent}(h:HpN mx n i P ((a,es)::X) E)(he:entsG es=[]):HpN mx n i (P.set 1 (setR (rootB P) i.toNat (nxtN P a))) X (a::E)∧(nxtN P a=0∨nxtN P a∈pagesX X)∧rootM P i=a:=by
 have hb:=h.big
 have hpp:(E++pagesX ((a,es)::X)).Perm (a::E++pagesX X):=by
  show (E++(a::entsG es++pagesX X)).Perm _
  rw [he]
  exact List.perm_middle
 have hm:∀ b,b∈a::E++pagesX X↔b∈E++pagesX ((a,es)::X):=fun b=>hpp.mem_iff.symm
 have hroot:=h.root
 have hl2:LinkN P (nxtN P a) (X.map Prod.fst) 0:=hroot.2
 have hnx:nxtN P a=0∨nxtN P a∈pagesX X:=by
  have:=hl2.head
  cases X with
  | nil=>exact .inl this.symm
  | cons x X=>exact .inr (this ▸ page_sub List.mem_cons_self _ List.mem_cons_self)
 have hv:nxtN P a<n:=by
  rcases hnx with h0 | h0
  ·omega
  ·exact (h.rng _ ((hm _).1 (List.mem_append_right _ h0))).2
 have h1X:∀ C:List Nat,(∀ c∈C,c∈pagesX X)→1 ∉ C:=fun C hC hc=>by
  have:=(h.rng 1 ((hm 1).1 (List.mem_append_right _ (hC 1 hc)))).1; omega
 have same:SameOn P (P.set 1 (setR (rootB P) i.toNat (nxtN P a))) (pagesX X):=SameOn.set _ (h1X _ fun c hc=>hc)
 refine ⟨⟨(h.given.set (by omega) _).ext fun j hj=>by simp only [hm],fun b hb=>h.low b ((hm b).1 hb),hpp.nodup_iff.1 h.nd,full_set h.full (setR_len h.rootL (by have:=h.idx; omega)),h.idx,h.big,?_,fun x hx=>(h.pg x (List.mem_cons_of_mem _ hx)).same (same.sub (page_sub hx)),fun x hx=>h.some x (List.mem_cons_of_mem _ hx)⟩,hnx,hroot.1⟩
 rw [rootM_set h.idx h.rootL (by have:=h.given.len; omega) (by omega)]
 refine hl2.same (same.sub fun d hd=>?_)
 obtain ⟨x,hx,rfl⟩:=List.mem_map.1 hd
 exact page_sub hx _ List.mem_cons_self
theorem HpN.drop{A B:List (Nat × List Ent)}{y:Nat × List Ent}{a:Nat}{es:List Ent}(h:HpN mx n i P (A++y::(a,es)::B) E)(he:entsG es=[]):HpN mx n i (P.set y.1 (pgN (nxtN P a) (resN P y.1))) (A++y::B) (a::E):=by
 have hb:=h.big
 have e1:pagesX (A++y::(a,es)::B)=pagesX (A++[y])++(a::pagesX B):=by
  have:A++y::(a,es)::B=(A++[y])++(a,es)::B:=by simp
  rw [this,pagesX_mid,he,List.append_assoc]; rfl
 have e2:pagesX (A++y::B)=pagesX (A++[y])++pagesX B:=by
  unfold pagesX
  have:A++y::B=(A++[y])++B:=by simp
  rw [this,List.flatMap_append]
 have hpp:(E++pagesX (A++y::(a,es)::B)).Perm (a::E++pagesX (A++y::B)):=by
  rw [e1,e2,← List.append_assoc]
  refine List.perm_middle.trans ?_
  rw [List.append_assoc]; exact List.Perm.refl _
 have hm:∀ b,b∈a::E++pagesX (A++y::B)↔b∈E++pagesX (A++y::(a,es)::B):=fun b=>hpp.mem_iff.symm
 have hyX:y.1∈pagesX (A++y::(a,es)::B):=page_sub (x:=y) (by simp) _ List.mem_cons_self
 have hr:=h.rng _ (h.memX hyX)
 have hlt:y.1<P.length:=by rw [h.given.len]; exact hr.2
 have hl:(resN P y.1).length=252:=by
  unfold resN
  rw [List.length_drop,List.getD_eq_getElem?_getD,List.getElem?_eq_getElem hlt,Option.getD_some,h.full _ (List.getElem_mem _)]
 have hnx:nxtN P a<4294967296:=by
  have:=unfixL_lt ((P.getD a []).take 4)
  have hle:((P.getD a []).take 4).length≤4:=List.length_take_le _ _
  exact Nat.lt_of_lt_of_le this (Nat.pow_le_pow_right (by decide) hle)
 have hnd:=h.nd
 have hX:=(List.nodup_append.1 hnd).2.1
 -- what the other pages are
 have hres:∀ b,resN (P.set y.1 (pgN (nxtN P a) (resN P y.1))) b=resN P b:=fun b=>by
  rw [resN_set hlt]
  split
  ·rename_i e; rw [e]
  ·rfl
 have hyo:∀ x∈A++B,y.1 ∉ x.1::entsG x.2:=by
  intro x hx hc
  have e3:pagesX (A++y::(a,es)::B)=pagesX A++(y.1::entsG y.2)++pagesX ((a,es)::B):=pagesX_mid
  rw [e3] at hX
  have h1:=List.nodup_append.1 hX
  have h2:=List.nodup_append.1 h1.1
  rcases List.mem_append.1 hx with hx | hx
  ·exact h2.2.2 y.1 (page_sub hx _ hc) y.1 List.mem_cons_self rfl
  ·exact h1.2.2 y.1 (List.mem_append_right _ List.mem_cons_self) y.1 (page_sub (List.mem_cons_of_mem _ hx) _ hc) rfl
 have hyg:y.1 ∉ entsG y.2:=by
  have e3:pagesX (A++y::(a,es)::B)=pagesX A++(y.1::entsG y.2)++pagesX ((a,es)::B):=pagesX_mid
  rw [e3] at hX
  exact (List.nodup_cons.1 (List.nodup_append.1 (List.nodup_append.1 hX).1).2.1).1
 have hroot:=h.root
 rw [List.map_append,List.map_cons,List.map_cons,LinkN.app] at hroot
 obtain ⟨c,l1,l2,l3,l4⟩:=hroot
 subst l2
 refine ⟨(h.given.set (by omega) _).ext fun j hj=>by simp only [hm],fun b hb=>h.low b ((hm b).1 hb),hpp.nodup_iff.1 h.nd,full_set h.full (pgN_len hl),h.idx,h.big,?_,fun x hx=>?_,fun x hx=>?_⟩
 ·have e:rootM (P.set y.1 (pgN (nxtN P a) (resN P y.1))) i=rootM P i:=by unfold rootM; rw [rootB_other (by omega)]
  rw [e,List.map_append,List.map_cons,LinkN.app]
  refine ⟨y.1,l1.same (SameOn.set _ fun hc=>?_),rfl,?_⟩
  ·obtain ⟨x,hx,hxe⟩:=List.mem_map.1 hc
   exact hyo x (List.mem_append_left _ hx) (by rw [← hxe]; exact List.mem_cons_self)
  ·show LinkN _ (nxtN _ y.1) (B.map Prod.fst) 0
   rw [nxtN_set hlt hnx,if_pos rfl]
   refine LinkN.same (SameOn.set _ fun hc=>?_) l4
   obtain ⟨x,hx,hxe⟩:=List.mem_map.1 hc
   exact hyo x (List.mem_append_right _ hx) (by rw [← hxe]; exact List.mem_cons_self)
 ·have hxo:x∈A++y::(a,es)::B:=by
   rcases List.mem_append.1 hx with hx | hx
   ·exact List.mem_append_left _ hx
   ·rcases List.mem_cons.1 hx with rfl | hx
    ·simp
    ·exact List.mem_append_right _ (List.mem_cons_of_mem _ (List.mem_cons_of_mem _ hx))
  refine ⟨?_,fun e he'=>((h.pg x hxo).2 e he').same (SameOn.set _ fun hc=>?_)⟩
  ·rw [hres]; exact (h.pg x hxo).1
  ·rcases List.mem_append.1 hx with hx | hx
   ·exact hyo x (List.mem_append_left _ hx) (List.mem_cons_of_mem _ (ents_sub he' _ hc))
   ·rcases List.mem_cons.1 hx with rfl | hx
    ·exact hyg (ents_sub he' _ hc)
    ·exact hyo x (List.mem_append_right _ hx) (List.mem_cons_of_mem _ (ents_sub he' _ hc))
 ·refine h.some x ?_
  rcases List.mem_append.1 hx with hx | hx
  ·exact List.mem_append_left _ hx
  ·rcases List.mem_cons.1 hx with rfl | hx
   ·simp
   ·exact List.mem_append_right _ (List.mem_cons_of_mem _ (List.mem_cons_of_mem _ hx))
end
end Go.Proofs.YtkmjkmjpejmlnaaGreat

namespace Go.Proofs.YtkmjkmjpejmlnaaGreat.Slt
open Go Go.Ann Go.RowKit
theorem put_fits{s r:List UInt8}{L:List (List UInt8)}(h:Pg s L)(hok:¬ (r=[]∨freeP s.length L<r.length)):Fits s.length (withP (vacantP L) r L):=by
 refine ⟨h.lo,h.hi,?_⟩
 have hr:r≠[]:=fun e=>hok (.inl e)
 have hfr:¬ freeP s.length L<r.length:=fun e=>hok (.inr e)
 have hrpos:=List.length_pos_iff.2 hr
 have hv:=List.findIdx_le_length (xs:=L) (p:=fun r=>decide (r=[]))
 have hv2:List.findIdx (fun x=>decide (x=[])) L=vacantP L:=rfl
 rw [hv2] at hv
 have ht:takesP L=1+2 * L.length+sumP L:=rfl
 by_cases hfd:vacantP L<L.length
 ·have e1:withP (vacantP L) r L=trimP (L.set (vacantP L) r):=by unfold withP; rw [if_neg (by omega)]
  rw [e1]
  have h5:=takes_trim (L.set (vacantP L) r)
  have h6:=sumP_set hfd r
  rw [vacant_nil hfd] at h6
  have ht2:takesP (L.set (vacantP L) r)=1+2 * (L.set (vacantP L) r).length+sumP (L.set (vacantP L) r):=rfl
  rw [List.length_set] at ht2
  simp only [List.length_nil] at h6
  unfold freeP at hfr
  rw [if_neg (by omega)] at hfr
  omega
 ·have hvl:vacantP L=L.length:=by omega
  have e1:withP (vacantP L) r L=trimP (L++[r]):=by unfold withP; rw [if_pos hvl]
  rw [e1]
  have h5:=takes_trim (L++[r])
  have h6:=sumP_append L [r]
  rw [sumP_one] at h6
  have ht2:takesP (L++[r])=1+2 * (L++[r]).length+sumP (L++[r]):=rfl
  rw [List.length_append,List.length_singleton] at ht2
  unfold freeP at hfr
  rw [if_pos hvl] at hfr
  omega
theorem set_fits{s r:List UInt8}{L:List (List UInt8)}{k:Nat}(h:Pg s L)(hk:k<L.length)(hroom:takesP L+r.length≤s.length+L[k].length):Fits s.length (trimP (L.set k r)):=by
 refine ⟨h.lo,h.hi,?_⟩
 have h5:=takes_trim (L.set k r)
 have h6:=sumP_set hk r
 have ht:takesP L=1+2 * L.length+sumP L:=rfl
 have ht2:takesP (L.set k r)=1+2 * (L.set k r).length+sumP (L.set k r):=rfl
 rw [List.length_set] at ht2
 omega
theorem trimN_id{L:List (List UInt8)}(h:Trim L):trimN L L.length=L.length:=by
 cases hL:L.length with
 | zero=>rfl
 | succ n =>
  rw [trimN]
  have hn:n<L.length:=by omega
  have:=h n hn hL.symm
  rw [List.getElem?_eq_getElem hn]
  split
  ·rename_i e; exact absurd (Option.some.inj e) this
  ·rfl
theorem trimP_id{L:List (List UInt8)}(h:Trim L):trimP L=L:=by unfold trimP; rw [trimN_id h,List.take_length]
theorem Pg.trim{s:List UInt8}{L:List (List UInt8)}(h:Pg s L):Trim L:=by
 intro i hi e hr
 have h1:=h.len hi
 rw [hr] at h1
 exact (h.free i hi (by simpa using h1.symm)).2 e
theorem trim_snoc{L:List (List UInt8)}{r:List UInt8}(hr:r≠[]):Trim (L++[r]):=by
 intro i hi e
 rw [List.length_append,List.length_singleton] at e
 obtain rfl:i=L.length:=by omega
 simpa using hr
theorem trim_set{L:List (List UInt8)}{r:List UInt8}{k:Nat}(h:Trim L)(hr:r≠[]):Trim (L.set k r):=by
 intro i hi e
 rw [List.getElem_set]
 split
 ·exact hr
 ·rw [List.length_set] at hi e
  exact h i hi e
theorem vacant_le(L:List (List UInt8)):vacantP L≤L.length:=List.findIdx_le_length
theorem with_put{L:List (List UInt8)}{r:List UInt8}(h:Trim L)(hr:r≠[]):withP (vacantP L) r L=if vacantP L=L.length then L++[r] else L.set (vacantP L) r:=by
 unfold withP
 split
 ·exact trimP_id (trim_snoc hr)
 ·exact trimP_id (trim_set h hr)
theorem getP_at(L:List (List UInt8))(k:Nat):getP L k=match L[k]? with | some r=>(r,decide (r≠[])) | none=>([],false):=by
 unfold getP
 rw [if_pos (by omega),Int.toNat_natCast] <;> cases L[k]? <;> rfl
end Go.Proofs.YtkmjkmjpejmlnaaGreat.Slt

namespace Go.Proofs.YtkmjkmjpejmlnaaGreat
open Go Go.Ann Go.RowKit Go.WideShapes
def stubs(es:List Ent):List (List UInt8):=es.map Ent.stub
def vacE(es:List Ent):Nat:=Slt.vacantP (stubs es)
def putE(e:Ent)(es:List Ent):List Ent:=if vacE es=es.length then es++[e] else es.set (vacE es) e
def delE(k:Nat)(es:List Ent):List Ent:=(es.set k .no).take (Slt.trimN (stubs (es.set k .no)) (stubs (es.set k .no)).length)
theorem stubs_len(es:List Ent):(stubs es).length=es.length:=List.length_map ..
theorem putE_stub{es:List Ent}{e:Ent}(ht:Slt.Trim (stubs es))(he:e.stub≠[]):stubs (putE e es)=Slt.withP (vacE es) e.stub (stubs es):=by
 show _=Slt.withP (Slt.vacantP (stubs es)) e.stub (stubs es)
 rw [Slt.with_put ht he,stubs_len]
 unfold putE vacE stubs
 split
 ·rw [List.map_append]; rfl
 ·rw [List.map_set]
theorem delE_stub{es:List Ent}{k:Nat}:stubs (delE k es)=Slt.trimP ((stubs es).set k []):=by
 have e1:stubs (es.set k .no)=(stubs es).set k []:=by unfold stubs; rw [List.map_set]; rfl
 unfold delE Slt.trimP
 rw [← e1]
 show ((es.set k .no).take _).map Ent.stub=_
 rw [List.map_take]; rfl
theorem nil_no{e:Ent}(h:e.stub=[]):e.rec?=none∧e.pgs=[]:=by
 cases e with
 | no=>exact ⟨rfl,rfl⟩
 | sh r=>cases h
 | lo r g=>cases h
 | gh s=>exact ⟨rfl,rfl⟩
def recE(a k:Nat)(e:Ent):List (Nat × List UInt8):=match e.rec? with | some r=>[(256 * a+k,r)] | none=>[]
def recsE(a:Nat):Nat→List Ent→List (Nat × List UInt8)
 | _,[]=>[]
 | k,e::es=>recE a k e++recsE a (k+1) es
def recsX(X:List (Nat × List Ent)):List (Nat × List UInt8):=X.flatMap fun x=>recsE x.1 0 x.2
theorem recsE_append(a:Nat):∀ (es fs:List Ent) (k:Nat),recsE a k (es++fs)=recsE a k es++recsE a (k+es.length) fs
 | [],fs,k=>by simp [recsE]
 | e::es,fs,k=>by
  rw [List.cons_append,recsE,recsE,recsE_append a es fs (k+1),List.append_assoc,List.length_cons]
  congr 3; omega
theorem recsE_mid(a:Nat){es fs:List Ent}{e:Ent}:recsE a 0 (es++e::fs)=recsE a 0 es++(recE a es.length e++recsE a (es.length+1) fs):=by
 rw [recsE_append,recsE,Nat.zero_add]
theorem ents_split{es:List Ent}{k:Nat}(h:k<es.length):es=es.take k++es[k]::es.drop (k+1):=by
 rw [List.getElem_cons_drop,List.take_append_drop]
theorem ents_set{es:List Ent}{k:Nat}(h:k<es.length)(e:Ent):es.set k e=es.take k++e::es.drop (k+1):=by
 rw [List.set_eq_take_append_cons_drop,if_pos h]
theorem recsE_set{a k:Nat}{es:List Ent}(h:k<es.length)(e:Ent):(recE a k es[k]++recsE a 0 (es.set k e)).Perm (recE a k e++recsE a 0 es):=by
 have e1:(es.take k).length=k:=by rw [List.length_take]; omega
 rw [ents_set h e]
 conv=>rhs; rw [ents_split h]
 rw [recsE_mid,recsE_mid,e1]
 have hp:∀ (A B C D:List (Nat × List UInt8)),(A++(C++(B++D))).Perm (B++(C++(A++D))):=fun A B C D=>by
  have h1:(A++(C++(B++D))).Perm ((B++(C++A))++D):=by
   have h2:(A++(C++B)).Perm (B++(C++A)):=by
    refine List.perm_append_comm.trans ?_
    have:=(List.perm_append_comm (l₁:=C) (l₂:=B)).append_right A
    rwa [List.append_assoc B C A] at this
   have:=h2.append_right D
   simpa only [List.append_assoc] using this
  simpa only [List.append_assoc] using h1
 exact hp _ _ _ _
theorem entsG_set{k:Nat}{es:List Ent}(h:k<es.length)(e:Ent):(es[k].pgs++entsG (es.set k e)).Perm (e.pgs++entsG es):=by
 rw [ents_set h e]
 conv=>rhs; rw [ents_split h]
 unfold entsG
 rw [List.flatMap_append,List.flatMap_append,List.flatMap_cons,List.flatMap_cons]
 have hp:∀ (A B C D:List Nat),(A++(C++(B++D))).Perm (B++(C++(A++D))):=fun A B C D=>by
  have h1:(A++(C++(B++D))).Perm ((B++(C++A))++D):=by
   have h2:(A++(C++B)).Perm (B++(C++A)):=by
    refine List.perm_append_comm.trans ?_
    have:=(List.perm_append_comm (l₁:=C) (l₂:=B)).append_right A
    rwa [List.append_assoc B C A] at this
   have:=h2.append_right D
   simpa only [List.append_assoc] using this
  simpa only [List.append_assoc] using h1
 exact hp _ _ _ _
theorem vac_at{es:List Ent}(h:vacE es≠es.length):∃ hk:vacE es<es.length,es[vacE es].stub=[]:=by
 have hle:vacE es≤es.length:=by
  have:=Slt.vacant_le (stubs es)
  rwa [stubs_len] at this
 have hlt:vacE es<es.length:=by omega
 refine ⟨hlt,?_⟩
 have:=Slt.vacant_nil (L:=stubs es) (by rw [stubs_len]; exact hlt)
 simp only [stubs,List.getElem_map] at this
 exact this
theorem recsE_put{a:Nat}{es:List Ent}(e:Ent):(recsE a 0 (putE e es)).Perm (recE a (vacE es) e++recsE a 0 es):=by
 unfold putE
 split
 ·rename_i h
  rw [recsE_mid (fs:=[]),recsE,List.append_nil,h]
  exact List.perm_append_comm
 ·rename_i h
  obtain ⟨hk,h0⟩:=vac_at h
  have:=recsE_set (a:=a) hk e
  have e0:recE a (vacE es) es[vacE es]=[]:=by unfold recE; rw [(nil_no h0).1]
  rwa [e0,List.nil_append] at this
theorem entsG_put{es:List Ent}(e:Ent):(entsG (putE e es)).Perm (e.pgs++entsG es):=by
 unfold putE
 split
 ·unfold entsG
  rw [List.flatMap_append,List.flatMap_cons,List.flatMap_nil,List.append_nil]
  exact List.perm_append_comm
 ·rename_i h
  obtain ⟨hk,h0⟩:=vac_at h
  have:=entsG_set hk e
  rwa [(nil_no h0).2,List.nil_append] at this
theorem put_mem{es:List Ent}{e x:Ent}(h:x∈putE e es):x=e∨x∈es:=by
 unfold putE at h
 split at h
 ·rcases List.mem_append.1 h with h | h
  ·exact .inr h
  ·exact .inl (List.mem_singleton.1 h)
 ·exact (List.mem_or_eq_of_mem_set h).symm
theorem put_has{es:List Ent}{e:Ent}:e∈putE e es:=by
 unfold putE
 split
 ·simp
 ·rename_i h
  exact List.mem_set (vac_at h).1 e
theorem trimN_rest(L:List (List UInt8)):∀ n j,Slt.trimN L n≤j→j<n→L[j]?=some []
 | 0,j,_,h=>by omega
 | n+1,j,h1,h2=>by
  simp only [Slt.trimN] at h1
  split at h1
  ·rename_i h
   by_cases hj:j=n
   ·subst hj; exact h
   ·exact trimN_rest L n j h1 (by omega)
  ·omega
theorem del_rest{k:Nat}{es:List Ent}:∃ fs,es.set k .no=delE k es++fs∧∀ e∈fs,e.stub=[]:=by
 refine ⟨(es.set k .no).drop (Slt.trimN (stubs (es.set k .no)) (stubs (es.set k .no)).length),(List.take_append_drop _ _).symm,fun e he=>?_⟩
 obtain ⟨j,hj,rfl⟩:=List.mem_iff_getElem.1 he
 rw [List.getElem_drop]
 have hj2:Slt.trimN (stubs (es.set k .no)) (stubs (es.set k .no)).length+j<(es.set k .no).length:=by
  rw [List.length_drop] at hj; omega
 have:=trimN_rest (stubs (es.set k .no)) (stubs (es.set k .no)).length (Slt.trimN (stubs (es.set k .no)) (stubs (es.set k .no)).length+j) (by omega) (Nat.lt_of_lt_of_eq hj2 (stubs_len _).symm)
 rw [List.getElem?_eq_getElem (Nat.lt_of_lt_of_eq hj2 (stubs_len _).symm),Option.some.injEq] at this
 simp only [stubs,List.getElem_map] at this
 exact this
theorem recsE_nil{a:Nat}:∀ {fs:List Ent} (k:Nat),(∀ e∈fs,e.stub=[])→recsE a k fs=[]
 | [],_,_=>rfl
 | e::fs,k,h=>by
  rw [recsE,recsE_nil (k+1) fun x hx=>h x (List.mem_cons_of_mem _ hx)]
  unfold recE
  rw [(nil_no (h e List.mem_cons_self)).1]; rfl
theorem entsG_nil{fs:List Ent}(h:∀ e∈fs,e.stub=[]):entsG fs=[]:=by
 unfold entsG
 rw [List.flatMap_eq_nil_iff]
 exact fun e he=>(nil_no (h e he)).2
theorem recsE_del{a k:Nat}{es:List Ent}(h:k<es.length):(recE a k es[k]++recsE a 0 (delE k es)).Perm (recsE a 0 es):=by
 obtain ⟨fs,e1,e2⟩:=del_rest (k:=k) (es:=es)
 have:=recsE_set (a:=a) h .no
 rw [e1,recsE_append,recsE_nil _ e2,List.append_nil] at this
 exact this
theorem entsG_del{k:Nat}{es:List Ent}(h:k<es.length):(es[k].pgs++entsG (delE k es)).Perm (entsG es):=by
 obtain ⟨fs,e1,e2⟩:=del_rest (k:=k) (es:=es)
 have:=entsG_set h .no
 rw [e1] at this
 have e3:entsG (delE k es++fs)=entsG (delE k es):=by
  have:=entsG_nil e2
  unfold entsG at this ⊢
  rw [List.flatMap_append,this,List.append_nil]
 rwa [e3] at this
theorem del_mem{es:List Ent}{k:Nat}{x:Ent}(h:x∈delE k es):x=.no∨x∈es:=(List.mem_or_eq_of_mem_set (List.mem_of_mem_take h)).symm
theorem items_none{L:List (List UInt8)}(ht:Slt.Trim L)(h:(Slt.itemsTo L L.length).length=0):L=[]:=by
 cases hl:L.length with
 | zero=>exact List.eq_nil_of_length_eq_zero hl
 | succ m =>
  have hm:m<L.length:=by omega
  have:=Slt.itemsTo_some hm (ht m hm (by omega))
  rw [hl,this,List.length_append] at h
  simp at h
theorem items_some{L:List (List UInt8)}(ht:Slt.Trim L)(h:(Slt.itemsTo L L.length).length≠0):∃ x∈L,x≠[]:=by
 cases hl:L.length with
 | zero=>rw [List.eq_nil_of_length_eq_zero hl] at h; exact absurd rfl h
 | succ m =>
  have hm:m<L.length:=by omega
  exact ⟨L[m],List.getElem_mem hm,ht m hm (by omega)⟩
theorem del_empty{k:Nat}{es:List Ent}(h:(Slt.itemsTo (stubs (delE k es)) (stubs (delE k es)).length).length=0):delE k es=[]:=by
 have ht:Slt.Trim (stubs (delE k es)):=by rw [delE_stub]; exact Slt.trim_trim _
 have:=items_none ht h
 exact List.map_eq_nil_iff.1 this
theorem del_some{k:Nat}{es:List Ent}(h:(Slt.itemsTo (stubs (delE k es)) (stubs (delE k es)).length).length≠0):∃ e∈delE k es,e.stub≠[]:=by
 have ht:Slt.Trim (stubs (delE k es)):=by rw [delE_stub]; exact Slt.trim_trim _
 obtain ⟨x,hx,h2⟩:=items_some ht h
 obtain ⟨e,he,rfl⟩:=List.mem_map.1 hx
 exact ⟨e,he,h2⟩
open Go Go.Ann Go.RowKit Go.WideShapes
def chainN(n:Nat):Nat:=(n+251) / 252
theorem hchain_ok(n:Nat)(w:World)(h:n≤100000):Ret Tryz.prog 117 [.int .i64 n] w fun u w'=>u=.int .i64 (chainN n:Nat)∧w'=w:=by
 refine ent117 _ _ _ ?_
 simp (disch:=first|omega|exact zF rfl|exact zG rfl|exact fun h=>h|(simp only[zA,zB,zC,zD,bytesW];omega)) only[go_sem]
 have e:((n:Int)+252 - 1).tdiv 252=((chainN n:Nat):Int):=by
  rw [Int.tdiv_eq_ediv_of_nonneg (by omega)]
  unfold chainN; omega
 rw [e]
 have hc:chainN n≤n+251:=by unfold chainN; omega
 refine ⟨⟨by omega,by omega⟩,⟨by omega,by omega⟩,?_⟩
 exact ⟨⟨by omega,by omega⟩,rfl⟩
theorem hcheck_ok(r:List UInt8)(w:World)(h:(r.length:Int)≤9223372036854775807):Ret Tryz.prog 51 [.string (ofL r)] w fun u w'=>u=.int .i64 (if r=[]∨2000<r.length then 21 else 0)∧w'=w:=by
 refine ent51 _ _ _ ?_
 simp (disch:=first|omega|exact zF rfl|exact zG rfl|exact fun h=>h|(simp only[zA,zB,zC,zD,bytesW];omega)) only[go_sem]
 by_cases h1:r=[]
 ·subst h1
  simp (disch:=first|omega|exact zF rfl|exact zG rfl|exact fun h=>h|(simp only[zA,zB,zC,zD,bytesW];omega)) only[go_sem]
 ·have e:(if r=[]∨2000<r.length then (21:Int) else 0)=if 2000<r.length then 21 else 0:=by simp [h1]
  rw [e]
  by_cases h2:2000<r.length
  ·have h2':(2000:Int)<r.length:=by omega
   simp (disch:=first|omega|exact zF rfl|exact zG rfl|exact fun h=>h|(simp only[zA,zB,zC,zD,bytesW];omega)) only[go_sem,h1,h2,h2']
   omega
  ·have h2':¬ (2000:Int)<r.length:=by omega
   simp (disch:=first|omega|exact zF rfl|exact zG rfl|exact fun h=>h|(simp only[zA,zB,zC,zD,bytesW];omega)) only[go_sem,h1,h2,h2']
theorem need_ok(r:List UInt8)(w:World)(h:r.length≤2000):Ret Tryz.prog 52 [.string (ofL r)] w fun u w'=>u=(if r.length≤62 then .tuple #[.int .i64 (1+r.length:Int),.int .i64 0] else .tuple #[.int .i64 9,.int .i64 (chainN r.length:Nat)])∧w'=w:=by
 refine ent52 _ _ _ ?_
 simp (disch:=first|omega|exact zF rfl|exact zG rfl|exact fun h=>h|(simp only[zA,zB,zC,zD,bytesW];omega)) only[go_sem]
 by_cases h1:r.length≤62
 ·have h1':1+(r.length:Int)≤63:=by omega
  rw [if_pos h1]
  simp (disch:=first|omega|exact zF rfl|exact zG rfl|exact fun h=>h|(simp only[zA,zB,zC,zD,bytesW];omega)) only[go_sem,h1,h1']
  exact ⟨⟨by omega,by omega⟩,⟨by omega,by omega⟩,fun h=>by omega⟩
 ·have h1':¬ 1+(r.length:Int)≤63:=by omega
  rw [if_neg h1]
  simp (disch:=first|omega|exact zF rfl|exact zG rfl|exact fun h=>h|(simp only[zA,zB,zC,zD,bytesW];omega)) only[go_sem,h1,h1']
  refine ⟨by constructor <;> omega,fun _=>Ret.mono (hchain_ok r.length w (by omega)) ?_⟩
  rintro _ w2 ⟨rfl,rfl⟩
  simp (disch:=first|omega|exact zF rfl|exact zG rfl|exact fun h=>h|(simp only[zA,zB,zC,zD,bytesW];omega)) only[go_sem]
theorem stub_ok(r:List UInt8)(a:Nat)(w:World)(h:r.length≤2000)(ha:a≤100000):Ret Tryz.prog 54 [.string (ofL r),.int .i64 a] w fun u w'=>u=.string (ofL (if a=0 then 115::r else 108::(fixL r.length 4++fixL a 4)))∧Below w.heap.size w w':=by
 refine ent54 _ _ _ _ ?_
 simp (disch:=first|omega|exact zF rfl|exact zG rfl|exact fun h=>h|(simp only[zA,zB,zC,zD,bytesW];omega)) only[go_sem]
 by_cases h1:a=0
 ·subst h1
  simp (disch:=first|omega|exact zF rfl|exact zG rfl|exact fun h=>h|(simp only[zA,zB,zC,zD,bytesW];omega)) only[go_sem]
  exact ⟨by omega,Below.refl _ _⟩
 ·have h1':¬ (a:Int)=0:=by omega
  rw [if_neg h1]
  have ew:IntKind.u64.wrap (r.length:Int)=(r.length:Int):=wrap_u64_id _ (by omega) (by omega)
  have ew2:IntKind.u64.wrap (a:Int)=(a:Int):=wrap_u64_id _ (by omega) (by omega)
  simp (disch:=first|omega|exact zF rfl|exact zG rfl|exact fun h=>h|(simp only[zA,zB,zC,zD,bytesW];omega)) only[go_sem,h1',ew]
  refine Ret.mono (fixed_ok r.length 4 w (by omega) (by decide)) ?_
  rintro _ w2 ⟨rfl,b2⟩
  simp (disch:=first|omega|exact zF rfl|exact zG rfl|exact fun h=>h|(simp only[zA,zB,zC,zD,bytesW];omega)) only[go_sem,h1',ew2]
  have l4:∀ n,(fixL n 4).length=4:=fun n=>fixL_len n 4
  refine ⟨by rw [l4]; omega,Ret.mono (fixed_ok a 4 w2 (by omega) (by decide)) ?_⟩
  rintro _ w3 ⟨rfl,b3⟩
  simp (disch:=first|omega|exact zF rfl|exact zG rfl|exact fun h=>h|(simp only[zA,zB,zC,zD,bytesW];omega)) only[go_sem,l4]
  exact b2.trans (b3.mono b2.size)
theorem Pgr.perm{e:En}{P:List (List UInt8)}{W0 w:World}{F:Nat→Prop}{L L':List Res}{I:List Inv}(h:Pgr e P W0 w F L I)(hp:L.Perm L'):Pgr e P W0 w F L' I:=by
 obtain ⟨A,s,k⟩:=h.lift
 exact k _ _ _ (s.perm (hp.symm.append_right A))
def fillR(s:List UInt8):List UInt8:=s++List.replicate (252 - s.length) 0
theorem fillR_len{s:List UInt8}(h:s.length≤252):(fillR s).length=252:=by unfold fillR; rw [List.length_append,List.length_replicate]; omega
theorem fillR_id{s:List UInt8}(h:s.length=252):fillR s=s:=by unfold fillR; rw [h]; simp
theorem filled_pg{n:Nat}{s:List UInt8}:filledL (fixL n 4++s)=pgN n (fillR s):=by
 unfold filledL pgN fillR
 rw [List.length_append,fixL_len,List.append_assoc,show 256 - (4+s.length)=252 - s.length by omega]
section
variable {W0 w:World} {F:Nat→Prop} {L:List Res} {I:List Inv} {e:En} {P:List (List UInt8)}
theorem hwriteS_ok{hb:Nat}{i:Int}(a:Int)(n:Nat)(s:List UInt8)(h:Pgr e P W0 w F (hpB hb e i::L) I)(h3:3≤P.length)(ha:I64 a)(hok:chkN P a=0)(h1:n≤100000)(hs:s.length≤252)(hm:a<e.mx) :
  Ret Tryz.prog 60 [.pointer (some ⟨hb,0,none⟩),.int .i64 a,.int .i64 n,.string (ofL s)] w fun u w'=>u=.int .i64 0∧Pgr e (P.set a.toNat (pgN n (fillR s))) W0 w' F (hpB hb e i::L) I:=by
 refine ent60 _ _ _ _ _ _ ?_
 have r:=h.hp.rules
 simp (disch:=first|omega|exact zF rfl|exact zG rfl|exact fun h=>h|(simp only[zA,zB,zC,zD,bytesW];omega)) only[go_sem,r]
 refine c60draw0 (Chg (fun _=>False) _) (Chg.refl _ _) ?_
 have hd:=h.drew
 have rd:=hd.hp.rules
 have lt:=hd.hp.lt
 generalize w.drew=w1 at hd rd lt ⊢
 simp (disch:=first|omega|exact zF rfl|exact zG rfl|exact fun h=>h|(simp only[zA,zB,zC,zD,bytesW];omega)) only[go_sem,c60D0,rd]
 have ew:IntKind.u64.wrap (n:Int)=(n:Int):=wrap_u64_id _ (by omega) (by omega)
 rw [ew]
 refine Ret.mono (fixed_ok n 4 w1 (by omega) (by decide)) ?_
 rintro _ w2 ⟨rfl,b2⟩
 have h2:=hd.below b2
 have hl4:(fixL n 4).length=4:=rfl
 simp (disch:=first|omega|exact zF rfl|exact zG rfl|exact fun h=>h|(simp only[zA,zB,zC,zD,bytesW];omega)) only[go_sem,c60D0]
 refine ⟨Chg.of_below b2,by omega,Ret.mono (pset_ok a _ h2 h3 ha fun _=>hm) ?_⟩
 have es:setPN P a (fixL n 4++s)=(P.set a.toNat (pgN n (fillR s)),0):=by
  unfold setPN
  rw [if_neg (by omega),if_neg (by rw [List.length_append]; omega),filled_pg]
 rw [es]
 rintro _ w4 ⟨rfl,h4⟩
 simp (disch:=first|omega|exact zF rfl|exact zG rfl|exact fun h=>h|(simp only[zA,zB,zC,zD,bytesW];omega)) only[go_sem,c60D0]
 exact h4
end
open Go Go.Ann Go.RowKit Go.WideShapes
section
variable {W0 w:World} {F:Nat→Prop} {L:List Res} {I:List Inv} {e:En} {P:List (List UInt8)}
theorem hpages_ok{hb:Nat}(w:World) :
  Ret Tryz.prog 55 [.pointer (some ⟨hb,0,none⟩)] w fun u w'=>u=.func (.func 119) #[] #[.pointer (some ⟨w.heap.size,0,none⟩)]∧w'=w.alloc (.cells #[.pointer (some ⟨hb,0,none⟩)] 27):=by
 refine ent55 _ _ _ ?_
 simp (disch:=first|omega|exact zF rfl|exact zG rfl|exact fun h=>h|(simp only[zA,zB,zC,zD,bytesW];omega)) only[go_sem]
def prevN(C:List Nat)(k:Nat):Nat:=if k=0 then 0 else C.getD (k - 1) 0
def curN(C:List Nat)(k:Nat):Nat:=C.getD k 0
theorem LinkN.at{P:List (List UInt8)}:∀ {C:List Nat} {a:Nat},LinkN P a C 0→(curN C 0=a)∧∀ k,k<C.length→nxtN P (curN C k)=curN C (k+1)
 | [],a,h=>⟨by have:a=0:=h; subst this; rfl,fun k hk=>by simp at hk⟩
 | c::C,a,h=>by
  obtain ⟨h1,h2⟩:=LinkN.at h.2
  refine ⟨h.1.symm,fun k hk=>?_⟩
  cases k with
  | zero=>exact h1.symm
  | succ k=>exact h2 k (by simpa using hk)
theorem hroot_ok{hb:Nat}{i:Int}(h:Pgr e P W0 w F (hpB hb e i::L) I)(h3:3≤P.length)(hi:0≤i∧i<16) :
  Ret Tryz.prog 36 [.pointer (some ⟨e.p,0,none⟩),.int .i64 i] w fun u w'=>u=.tuple #[.int .i64 (rootM P i),.int .i64 0]∧Pgr e P W0 w' F (hpB hb e i::L) I:=by
 have:=proot_ok i h h3 ⟨by omega,by omega⟩
 rw [rootN_eq hi] at this
 exact this
def hpS{τ:Type}(e:En)(W0:World)(F:Nat→Prop)(I:List Inv)(pf:τ→List (List UInt8))(R:τ→List Res):Nat × τ→List Res→World→Prop:=fun s O w=>Pgr e (pf s.2) W0 w F (O++R s.2) I
theorem hpS_ok{τ:Type}{pf:τ→List (List UInt8)}{R:τ→List Res}:RgS (hpS e W0 F I pf R) where
 obj:=fun {s l o Rr w} h=>by
  obtain ⟨A,s1,_⟩:=Pgr.lift h
  exact s1.obj 0 rfl
 put:=fun {s l o Rr w} o2 h=>by
  obtain ⟨A,s1,k⟩:=Pgr.lift h
  exact k _ _ _ (s1.putObj 0 rfl o2)
 drop:=fun {s r Rr w} h=>by
  obtain ⟨A,s1,k⟩:=Pgr.lift h
  exact k _ _ _ (s1.sub (List.sublist_cons_self ..))
 lay:=fun {s Rr w} o h=>by
  obtain ⟨A,s1,k⟩:=Pgr.lift h
  exact k _ _ _ (s1.lay o)
theorem pages1_ok{τ:Type}{hb pb l D:Nat}{i:Int}{o o':Obj}{C:List Nat}{pf:τ→List (List UInt8)}{R:τ→List Res}{J:Nat→τ→Prop}{H:τ→Prop}{t0:τ}(fv:Value)(w:World)(h3:3≤P.length)(hi:0≤i∧i<16)
  (hC:LinkN P (rootM P i) C 0) (hc:∀ c∈C,c≠0∧chkN P c=0) (hl:C.length≤500) (hlt':∀ c∈C,c<100000) (hJ:∀ k t,J k t→pf t=P)
  (hy:∀ k t w',k<C.length→J k t→Pgr e P W0 w' F ([.obj l o,.obj D defO]++hpB hb e i::.blk pb #[.pointer (some ⟨hb,0,none⟩)] 27::R t) I→callW Tryz.prog fv [.int .i64 (prevN C k),.int .i64 (curN C k)] w' fun v w'' =>
   (v=.bool true∧∃ t',J (k+1) t'∧Pgr e P W0 w'' F ([.obj l o,.obj D defO]++hpB hb e i::.blk pb #[.pointer (some ⟨hb,0,none⟩)] 27::R t') I) ∨
   (v=.bool false∧∃ t',H t'∧Pgr e (pf t') W0 w'' F ([.obj l o',.obj D defO]++hpB hb e i::.blk pb #[.pointer (some ⟨hb,0,none⟩)] 27::R t') I))
  (j0:J 0 t0) (s0:Pgr e P W0 w F ([.obj l o,.obj D defO]++hpB hb e i::.blk pb #[.pointer (some ⟨hb,0,none⟩)] 27::R t0) I) :
  Ret Tryz.prog 119 [fv,.pointer (some ⟨pb,0,none⟩)] w fun _ w' =>
   (∃ t,J C.length t∧Pgr e P W0 w' F ([.obj l o,.obj D defO]++hpB hb e i::.blk pb #[.pointer (some ⟨hb,0,none⟩)] 27::R t) I) ∨
   (∃ t,H t∧Pgr e (pf t) W0 w' F ([.obj l o',.obj D defO]++hpB hb e i::.blk pb #[.pointer (some ⟨hb,0,none⟩)] 27::R t) I):=by
 obtain ⟨hC0,hCn⟩:=hC.at
 refine ent119 _ _ _ _ ?_
 simp (disch:=first|omega|exact zF rfl|exact zG rfl|exact fun h=>h|(simp only[zA,zB,zC,zD,bytesW];omega)) only[go_sem,c119L0]
 refine c119draw0 (Same (fun k=>k=hb∨k=pb) _) (Same.refl _ _) ?_
 have s1:=s0.drew
 generalize w.drew=w1 at s1 ⊢
 have q1:=s1.perm List.perm_middle
 have hr:=q1.hp.rules
 have hlt1:=q1.hp.lt
 have hpr:Blk w1 pb #[.pointer (some ⟨hb,0,none⟩)] 27:=by
  obtain ⟨A,u1,_⟩:=s1.lift
  exact u1.blk 3 rfl
 have rp:=hpr.rules
 have hlp:=hpr.lt
 simp (disch:=first|omega|exact zF rfl|exact zG rfl|exact fun h=>h|(simp only[zA,zB,zC,zD,bytesW];omega)) only[go_sem,c119L0,c119D0,hr,rp]
 refine ⟨Same.refl _ _,Same.refl _ _,Ret.mono (hroot_ok q1 h3 hi) ?_⟩
 rintro _ w2 ⟨rfl,q2⟩
 rw [← hC0]
 simp (disch:=first|omega|exact zF rfl|exact zG rfl|exact fun h=>h|(simp only[zA,zB,zC,zD,bytesW];omega)) only[go_sem,c119D0]
 have sm:Same (fun k=>k=hb∨k=pb) w1 w2:=fun k hk=>by
  have hpr2:Blk w2 pb #[.pointer (some ⟨hb,0,none⟩)] 27:=by
   obtain ⟨A,u1,_⟩:=q2.lift
   exact u1.blk 3 rfl
  rcases hk with rfl | rfl
  ·exact q2.hp.trans q1.hp.symm
  ·exact hpr2.trans hpr.symm
 refine ⟨sm,?_⟩
 refine W_loopU (fun k:Nat=>[(3,.int .i64 (curN C k)),(5,.int .i64 (prevN C k)),(6,.int .i64 k)]) (fun k w'=>k≤C.length∧∃ t,J k t∧Pgr e P W0 w' F ([.obj l o,.obj D defO]++hpB hb e i::.blk pb #[.pointer (some ⟨hb,0,none⟩)] 27::R t) I) (fun k=>C.length - k) 0 rfl ⟨Nat.zero_le _,t0,j0,q2.perm List.perm_middle.symm⟩ ?_
 rintro k w3 ⟨hk,t,jk,s3⟩
 by_cases hlt:k<C.length
 ·have hmem:curN C k∈C:=by
   unfold curN
   rw [List.getD_eq_getElem?_getD,List.getElem?_eq_getElem hlt]
   exact List.getElem_mem _
  obtain ⟨hc0,hc1⟩:=hc _ hmem
  have hcl:=hlt' _ hmem
  have hc0':¬ ((curN C k:Nat):Int)=0:=by omega
  have hk':(k:Int)<1024:=by omega
  have hnx:=hCn k hlt
  simp (disch:=first|omega|exact zF rfl|exact zG rfl|exact fun h=>h|(simp only[zA,zB,zC,zD,bytesW];omega)) only[go_sem,c119L0,c119L0,hc0',hk']
  refine callW_mono (hy k t w3 hlt jk s3) ?_
  rintro v w4 (⟨rfl,t4,j4,s4⟩ | ⟨rfl,t4,h4,s4⟩)
  ·have q4:=s4.perm List.perm_middle
   have hpr:Blk w4 pb #[.pointer (some ⟨hb,0,none⟩)] 27:=by
    obtain ⟨A,u1,_⟩:=s4.lift
    exact u1.blk 3 rfl
   have rp:=hpr.rules
   simp (disch:=first|omega|exact zF rfl|exact zG rfl|exact fun h=>h|(simp only[zA,zB,zC,zD,bytesW];omega)) only[go_sem,c119L0,rp]
   refine Ret.mono (hread_ok _ q4 h3 ⟨by omega,by omega⟩ hc1) ?_
   rintro _ w5 ⟨rfl,q5⟩
   have e1:unfixL ((P.getD ((curN C k:Nat):Int).toNat []).take 4)=curN C (k+1):=hnx
   rw [e1]
   simp (disch:=first|omega|exact zF rfl|exact zG rfl|exact fun h=>h|(simp only[zA,zB,zC,zD,bytesW];omega)) only[go_sem,c119L0]
   have hcl2:curN C (k+1)<100000:=by
    by_cases h:k+1<C.length
    ·refine hlt' _ ?_
     unfold curN
     rw [List.getD_eq_getElem?_getD,List.getElem?_eq_getElem h]
     exact List.getElem_mem _
    ·unfold curN
     rw [List.getD_eq_getElem?_getD,List.getElem?_eq_none (by omega)]; decide
   refine ⟨by constructor <;> omega,k+1,rfl,⟨by omega,t4,j4,q5.perm List.perm_middle.symm⟩,by omega⟩
  ·simp (disch:=first|omega|exact zF rfl|exact zG rfl|exact fun h=>h|(simp only[zA,zB,zC,zD,bytesW];omega)) only[go_sem,c119L0]
   exact .inr ⟨t4,h4,s4⟩
 ·obtain rfl:k=C.length:=by omega
  have e0:curN C C.length=0:=by unfold curN; rw [List.getD_eq_getElem?_getD,List.getElem?_eq_none (Nat.le_refl _)]; rfl
  rw [e0]
  simp (disch:=first|omega|exact zF rfl|exact zG rfl|exact fun h=>h|(simp only[zA,zB,zC,zD,bytesW];omega)) only[go_sem,c119L0,c119L0]
  exact .inl ⟨t,jk,s3⟩
theorem PagesW{τ:Type}{hb pb:Nat}{i:Int}{C:List Nat}{pf:τ→List (List UInt8)}{R:τ→List Res}{J:Nat→τ→Prop}{H:τ→Prop}{t0:τ}{g:Operand}{ps:List Nat}{A B:Cmd}{ρ:Env}{Q:Post}
  (hg:ev ρ g=some (.func (.func 119) #[] #[.pointer (some ⟨pb,0,none⟩)])) (hps:ps.length=2) (h3:3≤P.length) (hi:0≤i∧i<16)
  (hC:LinkN P (rootM P i) C 0) (hc:∀ c∈C,c≠0∧chkN P c=0) (hl:C.length≤500) (hlt:∀ c∈C,c<100000) (hJ:∀ k t,J k t→pf t=P) (j0:J 0 t0)
  (s0:Pgr e P W0 w F (hpB hb e i::.blk pb #[.pointer (some ⟨hb,0,none⟩)] 27::R t0) I)
  (hbody:∀ k t w' l D o o2,k<C.length→J k t→Pgr e (pf t) W0 w' F ([.obj l o,.obj D defO]++hpB hb e i::.blk pb #[.pointer (some ⟨hb,0,none⟩)] 27::R t) I →
   W Tryz.prog A (zipE ps [.int .i64 (prevN C k),.int .i64 (curN C k)] (lowE ρ)) w' fun x ρ1 w1=>match x with
    | .normal=>∃ s1:Nat × τ,Pgr e (pf s1.2) W0 w1 F ([.obj l o,.obj D defO]++hpB hb e i::.blk pb #[.pointer (some ⟨hb,0,none⟩)] 27::R s1.2) I ∧
     ∀ w2,Pgr e (pf s1.2) W0 w2 F ([.obj l o2,.obj D defO]++hpB hb e i::.blk pb #[.pointer (some ⟨hb,0,none⟩)] 27::R s1.2) I→W Tryz.prog B ρ1 w2 fun x2 _ w3=>match x2 with
      | .normal=>∃ s2:Nat × τ,(s2.1=k+1∧J s2.1 s2.2)∧Pgr e (pf s2.2) W0 w3 F ([.obj l o2,.obj D defO]++hpB hb e i::.blk pb #[.pointer (some ⟨hb,0,none⟩)] 27::R s2.2) I
      | .ret=>∃ s2:Nat × τ,H s2.2∧Pgr e (pf s2.2) W0 w3 F ([.obj l o2,.obj D defO]++hpB hb e i::.blk pb #[.pointer (some ⟨hb,0,none⟩)] 27::R s2.2) I
      | _=>False
    | _=>False)
  (hdone:∀ t D w',J C.length t→Pgr e P W0 w' F (.obj D defO::hpB hb e i::.blk pb #[.pointer (some ⟨hb,0,none⟩)] 27::R t) I→Q .normal ((D+1000000,undef)::ρ) w')
  (hret:∀ t D w',H t→Pgr e (pf t) W0 w' F (.obj D defO::hpB hb e i::.blk pb #[.pointer (some ⟨hb,0,none⟩)] 27::R t) I→Q .ret ((D+1000000,undef)::ρ) w') :
  RangeW Tryz.prog g ps A B ρ w Q:=by
 obtain ⟨R',hR'⟩:∃ R':τ→List Res,R'=fun t=>hpB hb e i::.blk pb #[.pointer (some ⟨hb,0,none⟩)] 27::R t:=⟨_,rfl⟩
 have er:∀ t,R' t=hpB hb e i::.blk pb #[.pointer (some ⟨hb,0,none⟩)] 27::R t:=fun t=>by rw [hR']
 refine RangeW_free (S:=hpS e W0 F I pf R') hpS_ok (fun x:Nat × Nat=>[.int .i64 x.1,.int .i64 x.2]) (0,t0)
  (fun s x=>s.1<C.length∧J s.1 s.2∧x=(prevN C s.1,curN C s.1)) (fun s _ s'=>s'.1=s.1+1∧J s'.1 s'.2) (fun _ _ s'=>H s'.2) (fun s=>s.1=C.length∧J s.1 s.2) (fun s=>H s.2) hg (by kernel_rfl) ?_ (fun _=>hps.symm) ?_ ?_ ?_ ?_
 ·show Pgr e (pf t0) W0 w F ([]++R' t0) I
  rw [hJ _ _ j0,er]; exact s0
 ·intro fv l D o o' w1 hf s1
  have s1:Pgr e (pf t0) W0 w1 F ([.obj l o,.obj D defO]++R' t0) I:=s1
  rw [hJ _ _ j0,er] at s1
  refine Ret.mono (pages1_ok (o':=o') (H:=H) (pf:=pf) fv w1 h3 hi hC hc hl hlt hJ ?_ j0 s1) ?_
  ·intro k t w' hk jk h
   refine callW_mono (hf (prevN C k,curN C k) (k,t) w' ⟨hk,jk,rfl⟩ ?_) ?_
   ·show Pgr e (pf t) W0 w' F ([.obj l o,.obj D defO]++R' t) I
    rw [hJ _ _ jk,er]; exact h
   ·rintro v w'' (⟨rfl,s',⟨e1,j1⟩,h1⟩ | ⟨rfl,s',e1,h1⟩)
    ·have h1:Pgr e (pf s'.2) W0 w'' F ([.obj l o,.obj D defO]++R' s'.2) I:=h1
     rw [hJ _ _ j1,er] at h1
     exact .inl ⟨rfl,s'.2,e1 ▸ j1,h1⟩
    ·have h1:Pgr e (pf s'.2) W0 w'' F ([.obj l o',.obj D defO]++R' s'.2) I:=h1
     rw [er] at h1
     exact .inr ⟨rfl,s'.2,e1,h1⟩
  ·rintro _ w' (⟨t,jt,h1⟩ | ⟨t,jt,h1⟩)
   ·refine .inl ⟨(C.length,t),⟨rfl,jt⟩,?_⟩
    show Pgr e (pf t) W0 w' F ([.obj l o,.obj D defO]++R' t) I
    rw [hJ _ _ jt,er]; exact h1
   ·refine .inr ⟨(0,t),jt,?_⟩
    show Pgr e (pf t) W0 w' F ([.obj l o',.obj D defO]++R' t) I
    rw [er]; exact h1
 ·rintro x ⟨k,t⟩ w' l D o o2 ⟨hk,jk,rfl⟩ h
  subst hR'
  exact hbody k t w' l D o o2 hk jk h
 ·rintro ⟨k,t⟩ D w' ⟨e1,jk⟩ h
  have e1:k=C.length:=e1
  subst e1
  have jk:J C.length t:=jk
  have h:Pgr e (pf t) W0 w' F ([.obj D defO]++R' t) I:=h
  rw [hJ _ _ jk,er] at h
  exact hdone t D w' jk h
 ·rintro ⟨k,t⟩ D w' jk h
  have h:Pgr e (pf t) W0 w' F ([.obj D defO]++R' t) I:=h
  rw [er] at h
  exact hret t D w' jk h
end
open Go Go.Ann Go.RowKit Go.WideShapes
theorem spell_cons{P:List (List UInt8)}{r:List UInt8}{g:List Nat}{a:Nat}(hr:r≠[])(ha:a<P.length)(hg:a ∉ g)(hs:SpellN P (r.drop 252) g)(hn:g.headD 0<4294967296):SpellN (P.set a (pgN (g.headD 0) (fillR (r.take 252)))) r (a::g):=by
 refine ⟨hr,by rw [nxtN_set ha hn,if_pos rfl],?_,hs.same (SameOn.set _ hg)⟩
 rw [resN_set ha,if_pos rfl]
 unfold fillR
 by_cases hl:r.length≤252
 ·rw [List.take_of_length_le hl,List.take_left' rfl]
 ·have:(r.take 252).length=252:=by rw [List.length_take]; omega
  rw [this,Nat.sub_self,List.replicate_zero,List.append_nil,List.take_of_length_le (by omega)]
theorem spell_len{P:List (List UInt8)}:∀ {g:List Nat} {r:List UInt8},SpellN P r g→g.length=chainN r.length
 | [],r,h=>by have:r=[]:=h; subst this; rfl
 | a::g,r,h=>by
  have h1:=spell_len h.2.2.2
  have:=List.length_pos_iff.2 h.1
  rw [List.length_cons,h1,List.length_drop]
  unfold chainN; omega
theorem cut_chunk{r:List UInt8}{m:Nat}:cutL r (((m:Int)+1 - 1) * 252) (min (r.length:Int) (((m:Int)+1 - 1) * 252+252))=(r.drop (252 * m)).take 252:=by
 have e1:(((m:Int)+1 - 1) * 252).toNat=252 * m:=by omega
 have e2:(min (r.length:Int) (((m:Int)+1 - 1) * 252+252)).toNat=min r.length (252 * m+252):=by omega
 unfold cutL
 rw [e1,e2,List.drop_take]
 refine List.ext_getElem? fun j=>?_
 rw [List.getElem?_take,List.getElem?_take,List.getElem?_drop]
 by_cases h:252 * m+j<r.length
 ·by_cases hj:j<252
  ·rw [if_pos hj,if_pos (by omega)]
  ·rw [if_neg hj,if_neg (by omega)]
 ·rw [List.getElem?_eq_none (by omega)]
  split <;> split <;> rfl
section
variable {W0 w:World} {F:Nat→Prop} {L:List Res} {I:List Inv} {e:En} {P:List (List UInt8)} {X:List (Nat × List Ent)} {E:List Nat} {n hb:Nat} {i:Int}
theorem spill_ok(r:List UInt8)(h:Pgr e P W0 w F (hpB hb e i::L) I)(hp:HpN e.mx n i P X [])(hroom:2+(pagesX X).length+chainN r.length≤e.mx)(hr:r.length≤2000) :
  Ret Tryz.prog 53 [.pointer (some ⟨hb,0,none⟩),.string (ofL r)] w fun u w'=>∃ P' g,u=.tuple #[.int .i64 (g.headD 0:Nat),.int .i64 0]∧Pgr e P' W0 w' F (hpB hb e i::L) I∧HpN e.mx n i P' X g∧SpellN P' r g:=by
 refine ent53 _ _ _ _ ?_
 simp (disch:=first|omega|exact zF rfl|exact zG rfl|exact fun h=>h|(simp only[zA,zB,zC,zD,bytesW];omega)) only[go_sem]
 refine Ret.mono (hchain_ok r.length w (by omega)) ?_
 rintro _ w2 ⟨rfl,rfl⟩
 simp (disch:=first|omega|exact zF rfl|exact zG rfl|exact fun h=>h|(simp only[zA,zB,zC,zD,bytesW];omega)) only[go_sem]
 refine W_loopU (fun s:Nat × List Nat=>[(6,.int .i64 (s.2.headD 0:Nat)),(7,.int .i64 s.1)]) (fun s w'=>∃ P',Pgr e P' W0 w' F (hpB hb e i::L) I∧HpN e.mx n i P' X s.2∧SpellN P' (r.drop (252 * s.1)) s.2∧s.1+s.2.length=chainN r.length) (fun s=>s.1) (chainN r.length,[]) rfl ⟨P,h,hp,?_,rfl⟩ ?_
 ·show r.drop (252 * chainN r.length)=[]
  refine List.drop_eq_nil_of_le ?_
  unfold chainN; omega
 rintro ⟨k,g⟩ w3 ⟨P',h3,p3,sp,hkg⟩
 simp only at p3 sp hkg
 have hbig:=p3.big
 have hlen:=p3.given.len
 have hg:g.headD 0<n:=by
  cases g with
  | nil=>simp; omega
  | cons a g=>exact (p3.rng a (p3.memE List.mem_cons_self)).2
 by_cases hk:k=0
 ·subst hk
  simp (disch:=first|omega|exact zF rfl|exact zG rfl|exact fun h=>h|(simp only[zA,zB,zC,zD,bytesW];omega)) only[go_sem]
  exact ⟨P',g,rfl,h3,p3,by simpa using sp⟩
 ·obtain ⟨m,rfl⟩:∃ m,k=m+1:=⟨k - 1,by omega⟩
  have hk':(0:Int)<(m:Int)+1:=by omega
  have hrm:2+(g++pagesX X).length<e.mx:=by
   rw [List.length_append]
   omega
  have hm:252 * m<r.length:=by
   have:m+1≤chainN r.length:=by omega
   unfold chainN at this; omega
  obtain ⟨P2,a,ea,hlow,p4,hfr,same⟩:=p3.alloc hrm
  have r3:=h3.hp.rules
  simp (disch:=first|omega|exact zF rfl|exact zG rfl|exact fun h=>h|(simp only[zA,zB,zC,zD,bytesW];omega)) only[go_sem,hk',r3]
  refine Ret.mono (palloc_ok h3 (by omega) hlow) ?_
  rw [ea]
  rintro _ w4 ⟨rfl,h4⟩
  have ha:=p4.rng a (p4.memE List.mem_cons_self)
  have ham:=(p4.low a (p4.memE List.mem_cons_self)).2
  have hlen4:=p4.given.len
  simp (disch:=first|omega|exact zF rfl|exact zG rfl|exact fun h=>h|(simp only[zA,zB,zC,zD,bytesW];omega)) only[go_sem,hk']
  rw [cut_chunk]
  have hcl:((r.drop (252 * m)).take 252).length≤252:=List.length_take_le _ _
  have hok:chkN P2 (a:Nat)=0:=p4.chk (p4.memE List.mem_cons_self)
  refine ⟨⟨by omega,by omega⟩,⟨by omega,by omega⟩,⟨by omega,by omega⟩,⟨by omega,by omega,by omega⟩,Ret.mono (hwriteS_ok (a:Int) (g.headD 0) _ h4 (by rw [hlen4]; omega) ⟨by omega,by omega⟩ hok (by omega) hcl (by omega)) ?_⟩
  rintro _ w5 ⟨rfl,h5⟩
  simp (disch:=first|omega|exact zF rfl|exact zG rfl|exact fun h=>h|(simp only[zA,zB,zC,zD,bytesW];omega)) only[go_sem,hk']
  rw [Int.toNat_natCast] at h5
  have e1:(m:Int)+1 - 1=m:=by omega
  rw [e1]
  have hdd:(r.drop (252 * m)).drop 252=r.drop (252 * (m+1)):=by rw [List.drop_drop]; congr 1
  refine ⟨⟨by omega,by omega⟩,(m,a::g),rfl,⟨_,h5,p4.setE List.mem_cons_self (pgN_len (fillR_len hcl)),?_,?_⟩,Nat.lt_succ_self m⟩
  ·refine spell_cons ?_ (by rw [hlen4]; exact ha.2) ?_ ?_ (by omega)
   ·intro hc
    have:=congrArg List.length hc
    rw [List.length_drop,List.length_nil] at this
    omega
   ·exact fun hc=>hfr (List.mem_append_left _ hc)
   ·rw [hdd]
    exact sp.same (same.sub fun d hd=>List.mem_append_left _ hd)
  ·simp only [List.length_cons]; omega
theorem gather_ok(r:List UInt8)(g:List Nat)(h:Pgr e P W0 w F (hpB hb e i::L) I)(h3:3≤P.length)(hg:∀ a∈g,chkN P a=0∧a<100000)(hs:SpellN P r g)(hr:r.length≤2000) :
  Ret Tryz.prog 90 [.pointer (some ⟨hb,0,none⟩),.string (ofL (Ent.stub (.lo r g)))] w fun u w'=>u=.tuple #[.string (ofL r),.int .i64 0]∧Pgr e P W0 w' F (hpB hb e i::L) I:=by
 refine ent90 _ _ _ _ ?_
 simp (disch:=first|omega|exact zF rfl|exact zG rfl|exact fun h=>h|(simp only[zA,zB,zC,zD,bytesW];omega)) only[go_sem]
 refine c90draw0 ?_
 have h1:=h.drew
 generalize w.drew=w1 at h1 ⊢
 simp (disch:=first|omega|exact zF rfl|exact zG rfl|exact fun h=>h|(simp only[zA,zB,zC,zD,bytesW];omega)) only[go_sem,c90D0]
 have el:(Ent.lo r g).stub.length=9:=by
  simp only [Ent.stub,List.length_cons,List.length_append,fixL_len]
 have e1:cutL (Ent.lo r g).stub 1 5=fixL r.length 4:=rfl
 have e2:cutL (Ent.lo r g).stub 5 9=fixL (g.headD 0) 4:=rfl
 rw [el,e1,e2]
 have hh:g.headD 0<100000:=by
  cases g with
  | nil=>decide
  | cons a g=>exact (hg a List.mem_cons_self).2
 refine ⟨by decide,by decide,Ret.mono (unfixed_ok (fixL r.length 4) w1 (by rw [fixL_len]; decide)) ?_⟩
 rintro _ w2 ⟨rfl,rfl⟩
 rw [unfixL_fixL,Nat.mod_eq_of_lt (by omega)]
 simp (disch:=first|omega|exact zF rfl|exact zG rfl|exact fun h=>h|(simp only[zA,zB,zC,zD,bytesW];omega)) only[go_sem,c90D0]
 refine ⟨⟨by omega,by omega⟩,Ret.mono (unfixed_ok (fixL (g.headD 0) 4) w2 (by rw [fixL_len]; decide)) ?_⟩
 rintro _ w3 ⟨rfl,rfl⟩
 rw [unfixL_fixL,Nat.mod_eq_of_lt (by omega)]
 simp (disch:=first|omega|exact zF rfl|exact zG rfl|exact fun h=>h|(simp only[zA,zB,zC,zD,bytesW];omega)) only[go_sem,c90D0]
 refine ⟨⟨by omega,by omega⟩,?_⟩
 refine W_loopU (fun k:Nat=>[(7,.int .i64 ((g.drop k).headD 0:Nat)),(8,.string (ofL (r.take (252 * k))))]) (fun k w'=>Pgr e P W0 w' F (hpB hb e i::L) I∧SpellN P (r.drop (252 * k)) (g.drop k)∧252 * k≤r.length+252) (fun k=>r.length+252 - 252 * k) 0 rfl ⟨h1,hs,by omega⟩ ?_
 rintro k w4 ⟨h4,sp,hkl⟩
 by_cases hk:r.length≤252 * k
 ·have e5:r.take (252 * k)=r:=List.take_of_length_le hk
  rw [e5]
  have hk':¬ (r.length:Int)<r.length:=by omega
  simp (disch:=first|omega|exact zF rfl|exact zG rfl|exact fun h=>h|(simp only[zA,zB,zC,zD,bytesW];omega)) only[go_sem,hk']
  exact h4
 ·obtain ⟨a,g',eg⟩:∃ a g',g.drop k=a::g':=by
   cases hd:g.drop k with
   | nil =>
    rw [hd] at sp
    have:=congrArg List.length (show r.drop (252 * k)=[] from sp)
    rw [List.length_drop,List.length_nil] at this
    omega
   | cons a g'=>exact ⟨a,g',rfl⟩
  have eg2:g.drop (k+1)=g':=by rw [← List.drop_drop,eg]; rfl
  rw [eg] at sp ⊢
  obtain ⟨q1,q2,q3,q4⟩:=sp
  have ham:a∈g:=List.mem_of_mem_drop (by rw [eg]; exact List.mem_cons_self)
  obtain ⟨ha1,ha2⟩:=hg a ham
  have etl:(r.take (252 * k)).length=252 * k:=by rw [List.length_take]; omega
  have hk':((r.take (252 * k)).length:Int)<r.length:=by rw [etl]; omega
  simp (disch:=first|omega|exact zF rfl|exact zG rfl|exact fun h=>h|(simp only[zA,zB,zC,zD,bytesW];omega)) only[go_sem,hk',List.headD_cons]
  refine Ret.mono (hread_ok _ h4 h3 ⟨by omega,by omega⟩ ha1) ?_
  rintro _ w5 ⟨rfl,h5⟩
  have e6:unfixL ((P.getD ((a:Nat):Int).toNat []).take 4)=g'.headD 0:=q2
  have e7:(P.getD ((a:Nat):Int).toNat []).drop 4=resN P a:=rfl
  rw [e6,e7]
  have hrl:(resN P a).length=252:=by
   obtain ⟨c1,c2⟩:=chk_in ha1
   have hlt:a<P.length:=by omega
   unfold resN
   rw [List.length_drop,List.getD_eq_getElem?_getD,List.getElem?_eq_getElem hlt,Option.getD_some,h5.full _ (List.getElem_mem hlt)]
  simp (disch:=first|omega|exact zF rfl|exact zG rfl|exact fun h=>h|(simp only[zA,zB,zC,zD,bytesW];omega)) only[go_sem]
  have et:(resN P a).take (min ((resN P a).length:Int) ((r.length:Int) - (r.take (252 * k)).length)).toNat=(r.drop (252 * k)).take 252:=by
   rw [← q3,etl,hrl,List.length_drop]
   have e8:(min ((252:Nat):Int) ((r.length:Int) - ((252 * k:Nat):Int))).toNat=min 252 (r.length - 252 * k):=by omega
   rw [e8]
   by_cases hc:r.length - 252 * k≤252
   ·rw [Nat.min_eq_right hc]
   ·rw [Nat.min_eq_left (by omega),List.take_of_length_le (by omega),List.take_of_length_le (by omega)]
  have ea:r.take (252 * k)++(r.drop (252 * k)).take 252=r.take (252 * (k+1)):=by
   rw [← List.take_add]; rfl
  rw [et,ea,hrl,etl]
  refine ⟨⟨by omega,by omega⟩,⟨by omega,by omega⟩,?_,k+1,?_,⟨h5,?_,by omega⟩,by omega⟩
  ·rw [List.length_take,List.length_drop]; omega
  ·rw [eg2]
  ·rw [eg2]
   have:(r.drop (252 * k)).drop 252=r.drop (252 * (k+1)):=by rw [List.drop_drop]; congr 1
   rw [this] at q4
   exact q4
theorem release_ok(r:List UInt8)(g:List Nat)(h:Pgr e P W0 w F (hpB hb e i::L) I)(hp:HpN e.mx n i P X g)(hs:SpellN P r g)(hr:r.length≤2000) :
  Ret Tryz.prog 92 [.pointer (some ⟨hb,0,none⟩),.string (ofL (Ent.stub (.lo r g)))] w fun u w'=>∃ P',u=.int .i64 0∧Pgr e P' W0 w' F (hpB hb e i::L) I∧HpN e.mx n i P' X []∧SameOn P P' (pagesX X):=by
 have el:(Ent.lo r g).stub.length=9:=by
  simp only [Ent.stub,List.length_cons,List.length_append,fixL_len]
 have e2:cutL (Ent.lo r g).stub 5 9=fixL (g.headD 0) 4:=rfl
 have e3:bN (Ent.lo r g).stub 0=108:=rfl
 have hh:g.headD 0<100000:=by
  have:=hp.big
  cases g with
  | nil=>decide
  | cons a g=>have:=(hp.rng a (hp.memE List.mem_cons_self)).2; simp only [List.headD_cons]; omega
 refine ent92 _ _ _ _ ?_
 simp (disch:=first|omega|exact zF rfl|exact zG rfl|exact fun h=>h|(simp only[zA,zB,zC,zD,bytesW];omega)) only[go_sem]
 rw [el,e2,e3]
 refine ⟨by omega,fun hc=>absurd rfl hc,fun _=>⟨by omega,Ret.mono (unfixed_ok (fixL (g.headD 0) 4) w (by rw [fixL_len]; decide)) ?_⟩⟩
 rintro _ w2 ⟨rfl,rfl⟩
 rw [unfixL_fixL,Nat.mod_eq_of_lt (by omega)]
 simp (disch:=first|omega|exact zF rfl|exact zG rfl|exact fun h=>h|(simp only[zA,zB,zC,zD,bytesW];omega)) only[go_sem]
 refine ⟨⟨by omega,by omega⟩,?_⟩
 refine W_loopU (fun k:Nat=>[(5,.int .i64 ((g.drop k).headD 0:Nat))]) (fun k w'=>∃ P',Pgr e P' W0 w' F (hpB hb e i::L) I∧HpN e.mx n i P' X (g.drop k)∧SpellN P' (r.drop (252 * k)) (g.drop k)∧SameOn P P' (pagesX X)) (fun k=>g.length - k) 0 rfl ⟨P,h,hp,hs,fun _ _=>rfl⟩ ?_
 rintro k w4 ⟨P',h4,p4,sp,sm⟩
 have hbig:=p4.big
 have hlen:=p4.given.len
 cases eg:g.drop k with
 | nil =>
  rw [eg] at p4
  simp (disch:=first|omega|exact zF rfl|exact zG rfl|exact fun h=>h|(simp only[zA,zB,zC,zD,bytesW];omega)) only[go_sem,List.headD_nil]
  exact ⟨P',h4,p4,sm⟩
 | cons a g' =>
  have eg2:g.drop (k+1)=g':=by rw [← List.drop_drop,eg]; rfl
  have hkl:k<g.length:=by
   refine Classical.byContradiction fun hc=>?_
   rw [List.drop_eq_nil_of_le (by omega)] at eg; cases eg
  rw [eg] at sp p4
  obtain ⟨q1,q2,q3,q4⟩:=sp
  have ha:=p4.rng a (p4.memE List.mem_cons_self)
  have hok:chkN P' (a:Nat)=0:=p4.chk (p4.memE List.mem_cons_self)
  have ha0:¬ (a:Int)=0:=by omega
  have r4:=h4.hp.rules
  simp (disch:=first|omega|exact zF rfl|exact zG rfl|exact fun h=>h|(simp only[zA,zB,zC,zD,bytesW];omega)) only[go_sem,ha0,List.headD_cons]
  refine Ret.mono (hread_ok _ h4 (by omega) ⟨by omega,by omega⟩ hok) ?_
  rintro _ w5 ⟨rfl,h5⟩
  have e6:unfixL ((P'.getD ((a:Nat):Int).toNat []).take 4)=g'.headD 0:=q2
  rw [e6]
  have r5:=h5.hp.rules
  simp (disch:=first|omega|exact zF rfl|exact zG rfl|exact fun h=>h|(simp only[zA,zB,zC,zD,bytesW];omega)) only[go_sem,r5]
  obtain ⟨P5,ef,p5,sm5⟩:=p4.free
  refine Ret.mono (pfree_ok _ h5 (by omega) ⟨by omega,by omega⟩) ?_
  rw [ef]
  rintro _ w6 ⟨rfl,h6⟩
  simp (disch:=first|omega|exact zF rfl|exact zG rfl|exact fun h=>h|(simp only[zA,zB,zC,zD,bytesW];omega)) only[go_sem]
  refine ⟨k+1,by rw [eg2],⟨P5,h6,by rw [eg2]; exact p5,?_,sm.trans (sm5.sub fun d hd=>List.mem_append_right _ hd)⟩,by omega⟩
  rw [eg2]
  have:(r.drop (252 * k)).drop 252=r.drop (252 * (k+1)):=by rw [List.drop_drop]; congr 1
  rw [this] at q4
  exact q4.same (sm5.sub fun d hd=>List.mem_append_left _ hd)
theorem release_short(r:List UInt8)(h:Pgr e P W0 w F (hpB hb e i::L) I)(hr:r.length≤2000) :
  Ret Tryz.prog 92 [.pointer (some ⟨hb,0,none⟩),.string (ofL (115::r))] w fun u w'=>u=.int .i64 0∧Pgr e P W0 w' F (hpB hb e i::L) I:=by
 have e3:bN (115::r) 0=115:=rfl
 refine ent92 _ _ _ _ ?_
 simp (disch:=first|omega|exact zF rfl|exact zG rfl|exact fun h=>h|(simp only[zA,zB,zC,zD,bytesW];omega)) only[go_sem]
 rw [e3]
 refine ⟨by omega,fun _=>h,fun hc=>?_⟩
 exact absurd hc (by decide)
end
open Go Go.Ann Go.RowKit Go.WideShapes
theorem fits252{L:List (List UInt8)}(h:Slt.takesP L≤252):Slt.Fits 252 L:=⟨by decide,by decide,h⟩
theorem pg_nil:Slt.Pg (Slt.textP 252 []) []:=Slt.text_pg (fits252 (by decide)) (fun i h _=>by simp at h)
section
variable {W0 w:World} {F:Nat→Prop} {L:List Res} {I:List Inv} {e:En} {P:List (List UInt8)} {X:List (Nat × List Ent)} {E:List Nat} {n hb:Nat} {i:Int}
theorem fresh_ok(t:Ent)(h:Pgr e P W0 w F (hpB hb e i::L) I)(hp:HpN e.mx n i P X t.pgs)(ht:EntOk P t)(h0:t.stub≠[])(hl:t.stub.length≤63)(hroom:2+(t.pgs++pagesX X).length<e.mx) :
  Ret Tryz.prog 61 [.pointer (some ⟨hb,0,none⟩),.string (ofL t.stub)] w fun u w'=>∃ (P':List (List UInt8)) (a:Nat),u=.tuple #[.int .i64 (256 * a:Nat),.int .i64 0]∧2≤a∧Pgr e P' W0 w' F (hpB hb e i::L) I∧HpN e.mx n i P' ((a,[t])::X) []:=by
 have hbig:=hp.big
 have hlen:=hp.given.len
 have hidx:=hp.idx
 refine ent61 _ _ _ _ ?_
 simp (disch:=first|omega|exact zF rfl|exact zG rfl|exact fun h=>h|(simp only[zA,zB,zC,zD,bytesW];omega)) only[go_sem]
 refine c61draw0 (Same (fun k=>k=hb) _) (Same.refl _ _) ?_
 have h1:=h.drew
 generalize w.drew=w1 at h1 ⊢
 have r1:=h1.hp.rules
 have l1:=h1.hp.lt
 simp (disch:=first|omega|exact zF rfl|exact zG rfl|exact fun h=>h|(simp only[zA,zB,zC,zD,bytesW];omega)) only[go_sem,c61D0,r1]
 refine ⟨Same.refl _ _,Ret.mono (hroot_ok h1 (by omega) hp.idx) ?_⟩
 rintro _ w2 ⟨rfl,h2⟩
 have r2:=h2.hp.rules
 simp (disch:=first|omega|exact zF rfl|exact zG rfl|exact fun h=>h|(simp only[zA,zB,zC,zD,bytesW];omega)) only[go_sem,c61D0,r2]
 obtain ⟨P2,a,ea,hlow,p2,hfr,same⟩:=hp.alloc hroom
 refine Ret.mono (palloc_ok h2 (by omega) hlow) ?_
 rw [ea]
 rintro _ w3 ⟨rfl,h3⟩
 have h3:Pgr e P2 W0 w3 F (hpB hb e i::L) I:=h3
 simp (disch:=first|omega|exact zF rfl|exact zG rfl|exact fun h=>h|(simp only[zA,zB,zC,zD,bytesW];omega)) only[go_sem]
 refine Ret.mono (Slt.new_ok 252 w3 (by decide) (by decide)) ?_
 rintro _ w4 ⟨rfl,b4⟩
 have h4:=h3.below b4
 simp (disch:=first|omega|exact zF rfl|exact zG rfl|exact fun h=>h|(simp only[zA,zB,zC,zD,bytesW];omega)) only[go_sem]
 refine Ret.mono (Slt.slot_put_ok _ t.stub [] w4 pg_nil) ?_
 rintro _ w5 ⟨rfl,b5⟩
 have h5:=h4.below b5
 have hl252:(Slt.textP 252 []).length=252:=Slt.textP_len (fits252 (by decide))
 have hfp:Slt.freeP 252 []=249:=by decide
 rw [hl252,if_neg (by rw [hfp]; rintro (hc | hc); exact h0 hc; omega)]
 have ew:Slt.withP (Slt.vacantP []) t.stub []=stubs [t]:=(putE_stub (es:=[]) (e:=t) (fun i h _=>by simp [stubs] at h) h0).symm
 have ev:Slt.vacantP []=0:=rfl
 rw [ew,ev]
 have hf:Slt.Fits 252 (stubs [t]):=fits252 (by simp [stubs,Slt.takesP,Slt.sumP]; omega)
 have hs:(Slt.textP 252 (stubs [t])).length=252:=Slt.textP_len hf
 have htr:Slt.Trim (stubs [t]):=fun i hi _=>by
  have:i=0:=by simp [stubs] at hi; omega
  subst this; exact h0
 have hpg:Slt.Pg (Slt.textP 252 (stubs [t])) (stubs [t]):=Slt.text_pg hf htr
 generalize Slt.textP 252 (stubs [t])=s at hs hpg ⊢
 simp (disch:=first|omega|exact zF rfl|exact zG rfl|exact fun h=>h|(simp only[zA,zB,zC,zD,bytesW];omega)) only[go_sem]
 have hok:chkN P2 (a:Nat)=0:=p2.chk (p2.memE List.mem_cons_self)
 have ha:=p2.rng a (p2.memE List.mem_cons_self)
 have ham:=(p2.low a (p2.memE List.mem_cons_self)).2
 have hlen2:=p2.given.len
 have erm:rootM P2 i=rootM P i:=by rw [p2.rootH,hp.rootH]
 have hrl:=hp.rootLt
 refine Ret.mono (hwriteS_ok (a:Int) (rootM P i) s h5 (by omega) ⟨by omega,by omega⟩ hok (by omega) (by omega) (by omega)) ?_
 rintro _ w6 ⟨rfl,h6⟩
 rw [fillR_id hs,Int.toNat_natCast] at h6
 simp (disch:=first|omega|exact zF rfl|exact zG rfl|exact fun h=>h|(simp only[zA,zB,zC,zD,bytesW];omega)) only[go_sem]
 refine c61draw1 (Same (fun k=>k=hb) _) (Same.refl _ _) ?_
 have h7:=h6.drew
 generalize w6.drew=w7 at h7 ⊢
 have r7:=h7.hp.rules
 have l7:=h7.hp.lt
 simp (disch:=first|omega|exact zF rfl|exact zG rfl|exact fun h=>h|(simp only[zA,zB,zC,zD,bytesW];omega)) only[go_sem,c61D1,r7]
 refine Ret.mono (place_ok' (a:Int) 0 w7 (by omega) (by omega) (by decide) (by decide)) ?_
 rintro _ w8 ⟨rfl,rfl⟩
 have e0:(256:Int) * (a:Int)+0=((256 * a:Nat):Int):=by omega
 rw [e0]
 simp (disch:=first|omega|exact zF rfl|exact zG rfl|exact fun h=>h|(simp only[zA,zB,zC,zD,bytesW];omega)) only[go_sem,c61D1]
 refine ⟨Same.refl _ _,Ret.mono (psetRoot_ok i (a:Int) h7 (by rw [List.length_set]; omega) ⟨by omega,by omega⟩ ⟨by omega,by omega⟩) ?_⟩
 have p3:=p2.setE (s:=pgN (rootM P i) s) (a:=a) List.mem_cons_self (pgN_len hs)
 have hset:=setRootN_in (P:=P2.set a (pgN (rootM P i) s)) (i:=i) (j:=(a:Int)) hp.idx p3.rootL (.inr (p3.chk (p3.memE List.mem_cons_self))) (by omega)
 rw [hset]
 rintro _ w9 ⟨rfl,h9⟩
 have eb:rootB (P2.set a (pgN (rootM P i) s))=rootB P2:=rootB_other (by omega)
 have hge:entsG [t]=t.pgs:=by unfold entsG; simp
 have key:=p2.push (a:=a) (es:=[t]) (E':=[]) (s:=s) (by rw [List.nil_append,hge]) hpg hs (fun x hx=>by
  rw [List.mem_singleton] at hx; subst hx
  exact ht.same (same.sub fun d hd=>List.mem_append_left _ hd)) ⟨t,List.mem_singleton.2 rfl,h0⟩
 rw [erm,← eb] at key
 simp (disch:=first|omega|exact zF rfl|exact zG rfl|exact fun h=>h|(simp only[zA,zB,zC,zD,bytesW];omega)) only[go_sem,c61D1]
 exact ⟨_,a,rfl,ha.1,h9,key⟩
end
open Go Go.Ann Go.RowKit Go.WideShapes
section
variable {W0 w:World} {F:Nat→Prop} {L:List Res} {I:List Inv} {e:En} {P:List (List UInt8)}
theorem Pgr.box(h:Pgr e P W0 w F L I)(cs:Array Value)(t:TypeId):Pgr e P W0 (w.alloc (.cells cs t)) F (.blk w.heap.size cs t::L) I:=by
 obtain ⟨A,s,k⟩:=h.lift
 exact k _ _ _ (s.box cs t)
theorem Pgr.rules(h:Pgr e P W0 w F L I)(i:Nat){b:Nat}{cs:Array Value}{t:TypeId}(hi:L[i]?=some (.blk b cs t)):(∀ i,w.cell? ⟨b,i,none⟩=cs[i]?)∧(∀ i,w.frozen? ⟨b,i,none⟩=false)∧(∀ n,okSize cs n=true→cellsO w ⟨b,0,none⟩ 0 n=some cs.toList):=by
 obtain ⟨A,s,k⟩:=h.lift
 have hl:=(List.getElem?_eq_some_iff.1 hi).1
 exact s.rules i (by rw [List.getElem?_append_left hl]; exact hi)
theorem Pgr.bk(h:Pgr e P W0 w F L I)(i:Nat){b:Nat}{cs:Array Value}{t:TypeId}(hi:L[i]?=some (.blk b cs t)):Blk w b cs t:=by
 obtain ⟨A,s,k⟩:=h.lift
 have hl:=(List.getElem?_eq_some_iff.1 hi).1
 exact s.blk i (by rw [List.getElem?_append_left hl]; exact hi)
theorem Pgr.set(h:Pgr e P W0 w F L I)(i:Nat){b:Nat}{cs:Array Value}{t:TypeId}(hi:L[i]?=some (.blk b cs t))(j:Nat)(v:Value):Pgr e P W0 (w.setCell ⟨b,j,none⟩ v) F (L.set i (.blk b (cs.setIfInBounds j v) t)) I:=by
 obtain ⟨A,s,k⟩:=h.lift
 have hl:=(List.getElem?_eq_some_iff.1 hi).1
 have:=s.set i (by rw [List.getElem?_append_left hl]; exact hi) j v
 rw [List.set_append_left _ _ hl] at this
 exact k _ _ _ this
theorem Pgr.ob(h:Pgr e P W0 w F L I)(i:Nat){b:Nat}{o:Obj}(hi:L[i]?=some (.obj b o)):w.heap[b]?=some o:=by
 obtain ⟨A,s,k⟩:=h.lift
 have hl:=(List.getElem?_eq_some_iff.1 hi).1
 exact s.obj i (by rw [List.getElem?_append_left hl]; exact hi)
theorem Pgr.putOb(h:Pgr e P W0 w F L I)(i:Nat){b:Nat}{o:Obj}(hi:L[i]?=some (.obj b o))(o':Obj):Pgr e P W0 (w.putObj b o') F (L.set i (.obj b o')) I:=by
 obtain ⟨A,s,k⟩:=h.lift
 have hl:=(List.getElem?_eq_some_iff.1 hi).1
 have:=s.putObj i (by rw [List.getElem?_append_left hl]; exact hi) o'
 rw [List.set_append_left _ _ hl] at this
 exact k _ _ _ this
theorem Pgr.sub{L':List Res}(h:Pgr e P W0 w F L I)(hs:L'.Sublist L):Pgr e P W0 w F L' I:=by
 obtain ⟨A,s,k⟩:=h.lift
 exact k _ _ _ (s.sub (hs.append_right A))
end
def moreN(r:List UInt8):Nat:=if r.length≤62 then 0 else chainN r.length
def PutX(X:List (Nat × List Ent))(r:List UInt8)(id:Nat)(X':List (Nat × List Ent)):Prop :=
 ∃ t:Ent,t.rec?=some r∧t.pgs.length=moreN r ∧
  ((∃ A B a es,X=A++(a,es)::B∧X'=A++(a,putE t es)::B∧id=256 * a+vacE es)∨∃ a,X'=(a,[t])::X∧id=256 * a)
section
variable {W0 w:World} {F:Nat→Prop} {L:List Res} {I:List Inv} {e:En} {P:List (List UInt8)} {X:List (Nat × List Ent)} {E:List Nat} {n hb:Nat} {i:Int}
abbrev PutK(e:En)(W0:World)(F:Nat→Prop)(L:List Res)(I:List Inv)(P:List (List UInt8))(X:List (Nat × List Ent))(n hb:Nat)(i:Int)(r:List UInt8)(u:Value)(w':World):Prop:=∃ P' X',Pgr e P' W0 w' F (hpB hb e i::L) I∧HpN e.mx n i P' X' [] ∧
   (((r=[]∨2000<r.length)∧u=.tuple #[.int .i64 0,.int .i64 21]∧X'=X) ∨
   (¬ (r=[]∨2000<r.length)∧roomN P<moreN r+1∧u=.tuple #[.int .i64 0,.int .i64 13]∧X'=X) ∨
   (¬ (r=[]∨2000<r.length)∧moreN r+1≤roomN P∧∃ id:Nat,u=.tuple #[.int .i64 id,.int .i64 0]∧PutX X r id X'))
theorem pagesX_le:∀ X:List (Nat × List Ent),X.length≤(pagesX X).length
 | []=>Nat.zero_le _
 | x::X=>by
  have:=pagesX_le X
  show X.length+1≤(x.1::entsG x.2++pagesX X).length
  rw [List.length_append,List.length_cons]
  omega
theorem X_split{X:List (Nat × List Ent)}{k:Nat}(h:k<X.length):X=X.take k++X[k]::X.drop (k+1):=by
 rw [List.getElem_cons_drop,List.take_append_drop]
theorem moreN_le{r:List UInt8}(h:r.length≤2000):moreN r≤8:=by
 unfold moreN chainN; split <;> omega
theorem put_round{P1:List (List UInt8)}{t:Ent}{sz k l D b2 b7 b11 pb a:Nat}{es:List Ent}{o2:Obj}{w13:World}{Q:Post}
  (q13:Pgr e P1 W0 w13 F ([.obj l o2,.obj D defO]++hpB hb e i::.blk pb #[.pointer (some ⟨hb,0,none⟩)] 27::.blk b11 #[.string (ofL t.stub)] 9::.blk b7 #[.int .i64 (sz:Nat)] 3::.blk (b2+1+1) #[.int .i64 0] 30::.blk (b2+1) #[.int .i64 0] 3::.blk b2 #[.pointer (some ⟨hb,0,none⟩)] 27::L) I)
  (p1:HpN e.mx n i P1 X t.pgs) (te:EntOk P1 t) (hk:k<X.length) (hxk:X[k]=(a,es)) (t3:t.stub.length=sz) (t4:sz≤63) (t5:t.stub≠[])
  (hcont:∀ ρ w',Pgr e P1 W0 w' F ([.obj l o2,.obj D defO]++hpB hb e i::.blk pb #[.pointer (some ⟨hb,0,none⟩)] 27::.blk b11 #[.string (ofL t.stub)] 9::.blk b7 #[.int .i64 (sz:Nat)] 3::.blk (b2+1+1) #[.int .i64 0] 30::.blk (b2+1) #[.int .i64 0] 3::.blk b2 #[.pointer (some ⟨hb,0,none⟩)] 27::L) I→Q .normal ρ w')
  (hret:∀ ρ P' w',HpN e.mx n i P' (X.take k++(a,putE t es)::X.drop (k+1)) []→Pgr e P' W0 w' F ([.obj l o2,.obj D defO]++hpB hb e i::.blk pb #[.pointer (some ⟨hb,0,none⟩)] 27::.blk b11 #[.string (ofL t.stub)] 9::.blk b7 #[.int .i64 (sz:Nat)] 3::.blk (b2+1+1) #[.int .i64 0] 30::.blk (b2+1) #[.int .i64 (256 * a+vacE es:Nat)] 3::.blk b2 #[.pointer (some ⟨hb,0,none⟩)] 27::L) I→Q .ret ρ w') :
  W Tryz.prog (c13B0 ()) [(2,.pointer (some ⟨b2,0,none⟩)),(4,.pointer (some ⟨b2+1,0,none⟩)),(5,.pointer (some ⟨b2+1+1,0,none⟩)),(7,.pointer (some ⟨b7,0,none⟩)),(11,.pointer (some ⟨b11,0,none⟩)),(13,.int .i64 a)] w13 Q:=by
 have hidx:=p1.idx
 have hbig1:=p1.big
 have hlen1:=p1.given.len
 have ecur:curN (X.map Prod.fst) k=a:=by
  unfold curN
  rw [List.getD_eq_getElem?_getD,List.getElem?_map,List.getElem?_eq_getElem hk,hxk]; rfl
 have hX:=X_split hk
 rw [hxk] at hX
 have hxm:X[k]∈X:=List.getElem_mem hk
 rw [hxk] at hxm
 obtain ⟨pgk,okk⟩:=p1.pg _ hxm
 have hmk:=p1.memX (page_sub hxm _ List.mem_cons_self)
 have hrk:=p1.rng _ hmk
 have hck:=p1.chk hmk
 simp only at pgk okk hmk hrk hck
 have r2:=q13.rules 8 rfl
 simp (disch:=first|omega|exact zF rfl|exact zG rfl|exact fun h=>h|(simp only[zA,zB,zC,zD,bytesW];omega)) only[go_sem,c13B0,c13S14,c13B0,r2]
 refine Ret.mono (hread_ok _ (q13.perm List.perm_middle) (by omega) ⟨by omega,by omega⟩ hck) ?_
 rintro _ w14 ⟨rfl,q14⟩
 have q14:=q14.perm List.perm_middle.symm
 have e1:unfixL ((P1.getD ((a:Nat):Int).toNat []).take 4)=nxtN P1 a:=rfl
 have e2:(P1.getD ((a:Nat):Int).toNat []).drop 4=resN P1 a:=rfl
 rw [e1,e2]
 simp (disch:=first|omega|exact zF rfl|exact zG rfl|exact fun h=>h|(simp only[zA,zB,zC,zD,bytesW];omega)) only[go_sem,c13B0,c13S14]
 have hl252:(resN P1 a).length=252:=by
  unfold resN
  rw [List.length_drop,List.getD_eq_getElem?_getD,List.getElem?_eq_getElem (by omega),Option.getD_some,p1.full _ (List.getElem_mem _)]
 refine c13draw0 (Same (fun k=>k=b7) _) (Same.refl _ _) ?_
 have q15:=q14.drew
 generalize w14.drew=w15 at q15 ⊢
 have r7:=q15.rules 5 rfl
 simp (disch:=first|omega|exact zF rfl|exact zG rfl|exact fun h=>h|(simp only[zA,zB,zC,zD,bytesW];omega)) only[go_sem,c13B0,c13S14,c13D0,r7]
 refine Ret.mono (Slt.free_ok _ _ w15 pgk) ?_
 rintro _ w16 ⟨rfl,b16⟩
 have q16:=q15.below b16
 rw [hl252]
 simp (disch:=first|omega|exact zF rfl|exact zG rfl|exact fun h=>h|(simp only[zA,zB,zC,zD,bytesW];omega)) only[go_sem,c13B0,c13S14,c13D0]
 refine ⟨fun j hj=>by subst hj; exact (q16.bk 5 rfl).trans (q15.bk 5 rfl).symm,fun _=>hcont _ _ q16,fun hfr=>?_⟩
 have r11:=q16.rules 4 rfl
 simp (disch:=first|omega|exact zF rfl|exact zG rfl|exact fun h=>h|(simp only[zA,zB,zC,zD,bytesW];omega)) only[go_sem,c13B0,c13S14,r11]
 refine Ret.mono (Slt.slot_put_ok _ t.stub _ w16 pgk) ?_
 rintro _ w17 ⟨rfl,b17⟩
 have q17:=q16.below b17
 have hts:¬ (t.stub=[]∨Slt.freeP (resN P1 a).length (es.map Ent.stub)<t.stub.length):=by
  rw [hl252,t3]
  rintro (hc | hc)
  ·exact t5 hc
  ·omega
 rw [if_neg hts]
 have htrim:Slt.Trim (stubs es):=pgk.trim
 have ew:Slt.withP (Slt.vacantP (es.map Ent.stub)) t.stub (es.map Ent.stub)=stubs (putE t es):=(putE_stub htrim t5).symm
 have ev:Slt.vacantP (es.map Ent.stub)=vacE es:=rfl
 have hf:=Slt.put_fits pgk hts
 rw [ew] at hf ⊢
 rw [ev,hl252]
 rw [hl252] at hf
 have hs:(Slt.textP 252 (stubs (putE t es))).length=252:=Slt.textP_len hf
 have htr2:Slt.Trim (stubs (putE t es)):=by rw [← ew]; unfold Slt.withP; exact Slt.trim_trim _
 have hpg:Slt.Pg (Slt.textP 252 (stubs (putE t es))) (stubs (putE t es)):=Slt.text_pg hf htr2
 have hvl:vacE es≤127:=by
  have h1:=Slt.vacant_le (stubs es)
  have h2:=pgk.few
  exact Nat.le_trans h1 h2
 generalize Slt.textP 252 (stubs (putE t es))=s at hs hpg ⊢
 simp (disch:=first|omega|exact zF rfl|exact zG rfl|exact fun h=>h|(simp only[zA,zB,zC,zD,bytesW];omega)) only[go_sem,c13B0,c13S14]
 refine c13draw1 (Same (fun k=>k=b2) _) (Same.refl _ _) ?_
 have q18:=q17.drew
 generalize w17.drew=w18 at q18 ⊢
 have r2:=q18.rules 8 rfl
 simp (disch:=first|omega|exact zF rfl|exact zG rfl|exact fun h=>h|(simp only[zA,zB,zC,zD,bytesW];omega)) only[go_sem,c13B0,c13S14,c13D1,r2]
 refine Ret.mono (place_ok' (a:Int) (vacE es:Nat) w18 (by omega) (by omega) (by omega) (by omega)) ?_
 rintro _ w19 ⟨rfl,rfl⟩
 have eid:256 * (a:Int)+((vacE es:Nat):Int)=((256 * a+vacE es:Nat):Int):=by omega
 rw [eid]
 obtain ⟨id,hid⟩:∃ id,id=256 * a+vacE es:=⟨_,rfl⟩
 rw [← hid]
 have hnx:nxtN P1 a<n:=by
  have h1:=p1.root.at.2 k (by rw [List.length_map]; exact hk)
  rw [ecur] at h1
  rw [h1]
  unfold curN
  by_cases h2:k+1<X.length
  ·rw [List.getD_eq_getElem?_getD,List.getElem?_map,List.getElem?_eq_getElem h2]
   exact (p1.rng _ (p1.memX (page_sub (List.getElem_mem h2) _ List.mem_cons_self))).2
  ·rw [List.getD_eq_getElem?_getD,List.getElem?_eq_none (by rw [List.length_map]; omega)]
   show 0<n
   omega
 simp (disch:=first|omega|exact zF rfl|exact zG rfl|exact fun h=>h|(simp only[zA,zB,zC,zD,bytesW];omega)) only[go_sem,c13B0,c13S14,c13D1]
 refine ⟨Same.refl _ _,Ret.mono (hwriteS_ok (a:Int) (nxtN P1 a) s (q18.perm List.perm_middle) (by omega) ⟨by omega,by omega⟩ hck (by omega) (by omega) (by have:=(p1.low _ hmk).2; omega)) ?_⟩
 rintro _ w20 ⟨rfl,q20⟩
 have q20:=q20.perm List.perm_middle.symm
 rw [fillR_id hs,Int.toNat_natCast] at q20
 have r4:=q20.rules 7 rfl
 have r5:=q20.rules 6 rfl
 have l4:b2+1<w20.heap.size:=(q20.bk 7 rfl).lt
 simp (disch:=first|omega|exact zF rfl|exact zG rfl|exact fun h=>h|(simp only[zA,zB,zC,zD,bytesW];omega)) only[go_sem,c13B0,c13S14,c13D1,r4,r5]
 have q21:=q20.set 7 rfl 0 (.int .i64 (id:Nat))
 refine ⟨fun j hj=>by subst hj; exact (q21.bk 8 rfl).trans (q18.bk 8 rfl).symm,?_⟩
 have q22:=q21.set 6 rfl 0 (.int .i64 0)
 have p1':HpN e.mx n i P1 (X.take k++(a,es)::X.drop (k+1)) t.pgs:=by rw [← hX]; exact p1
 rw [hid] at q22 ⊢
 refine hret _ _ _ (p1'.setX (E':=[]) (es':=putE t es) (entsG_put t).symm hpg hs (fun x hx=>?_) ⟨t,put_has,t5⟩) q22
 rcases put_mem hx with rfl | hx
 ·exact te
 ·exact okk x hx
theorem hput_ok(r:List UInt8)(h:Pgr e P W0 w F (hpB hb e i::L) I)(hp:HpN e.mx n i P X [])(hr:(r.length:Int)≤9223372036854775807)(hm:e.mx=n∨2+(pagesX X).length+9≤e.mx) :
  Ret Tryz.prog 13 [.pointer (some ⟨hb,0,none⟩),.string (ofL r)] w (PutK e W0 F L I P X n hb i r):=by
 have hbig:=hp.big
 have hlen:=hp.given.len
 have hidx:=hp.idx
 refine ent13 _ _ _ _ ?_
 simp (disch:=first|omega|exact zF rfl|exact zG rfl|exact fun h=>h|(simp only[zA,zB,zC,zD,bytesW];omega)) only[go_sem,c13B0,c13S14]
 have s3:=((h.box #[.pointer (some ⟨hb,0,none⟩)] 27).box #[.int .i64 0] 3).box #[.int .i64 0] 30
 simp only [World.size_alloc] at s3
 generalize w.heap.size=b2 at s3 ⊢
 generalize ((w.alloc (.cells #[.pointer (some ⟨hb,0,none⟩)] 27)).alloc (.cells #[.int .i64 0] 3)).alloc (.cells #[.int .i64 0] 30)=w3 at s3 ⊢
 have q3:Pgr e P W0 w3 F (hpB hb e i::.blk (b2+1+1) #[.int .i64 0] 30::.blk (b2+1) #[.int .i64 0] 3::.blk b2 #[.pointer (some ⟨hb,0,none⟩)] 27::L) I:=s3.perm (List.perm_middle (l₁:=[_,_,_]))
 have fin:∀ {P':List (List UInt8)} {w':World} {a1 a2:Array Value},Pgr e P' W0 w' F (hpB hb e i::.blk (b2+1+1) a1 30::.blk (b2+1) a2 3::.blk b2 #[.pointer (some ⟨hb,0,none⟩)] 27::L) I→Pgr e P' W0 w' F (hpB hb e i::L) I:=fun h=>h.sub (.cons_cons _ (.cons _ (.cons _ (.cons _ (List.Sublist.refl _)))))
 clear s3 h
 have r3:=q3.rules 3 rfl
 refine Ret.mono (hmade_ok q3) ?_
 rintro _ w4 ⟨rfl,rfl⟩
 simp (disch:=first|omega|exact zF rfl|exact zG rfl|exact fun h=>h|(simp only[zA,zB,zC,zD,bytesW];omega)) only[go_sem,c13B0,c13S14]
 refine Ret.mono (hcheck_ok r w4 hr) ?_
 rintro _ w5 ⟨rfl,rfl⟩
 by_cases hbad:r=[]∨2000<r.length
 ·rw [if_pos hbad]
  have r4:=q3.rules 1 rfl
  have r5:=q3.rules 2 rfl
  simp (disch:=first|omega|exact zF rfl|exact zG rfl|exact fun h=>h|(simp only[zA,zB,zC,zD,bytesW];omega)) only[go_sem,c13B0,c13S14,r4,r5]
  exact ⟨P,X,fin ((q3.set 2 rfl 0 (.int .i64 0)).set 1 rfl 0 (.int .i64 21)),hp,.inl ⟨hbad,rfl,rfl⟩⟩
 rw [if_neg hbad]
 have hr1:r≠[]:=fun hc=>hbad (.inl hc)
 have hr2:r.length≤2000:=Nat.le_of_not_lt fun hc=>hbad (.inr hc)
 simp (disch:=first|omega|exact zF rfl|exact zG rfl|exact fun h=>h|(simp only[zA,zB,zC,zD,bytesW];omega)) only[go_sem,c13B0,c13S14]
 refine Ret.mono (need_ok r w5 hr2) ?_
 rintro _ w6 ⟨rfl,rfl⟩
 have en:(if r.length≤62 then Value.tuple #[.int .i64 (1+r.length:Int),.int .i64 0] else .tuple #[.int .i64 9,.int .i64 (chainN r.length:Nat)])=.tuple #[.int .i64 (if r.length≤62 then 1+r.length else 9:Nat),.int .i64 (moreN r:Nat)]:=by
  unfold moreN
  split <;> simp
 rw [en]
 obtain ⟨sz,hsz⟩:∃ sz:Nat,sz=if r.length≤62 then 1+r.length else 9:=⟨_,rfl⟩
 rw [← hsz]
 clear en
 have s7:=q3.box #[.int .i64 (sz:Nat)] 3
 have hb7:b2+1+1<w6.heap.size:=(q3.bk 1 rfl).lt
 have hbb7:hb<w6.heap.size:=q3.hp.lt
 obtain ⟨b7,hb7e⟩:∃ b,b=w6.heap.size:=⟨_,rfl⟩
 rw [← hb7e] at s7
 have q7:Pgr e P W0 (w6.alloc (.cells #[.int .i64 (sz:Nat)] 3)) F (hpB hb e i::.blk b7 #[.int .i64 (sz:Nat)] 3::.blk (b2+1+1) #[.int .i64 0] 30::.blk (b2+1) #[.int .i64 0] 3::.blk b2 #[.pointer (some ⟨hb,0,none⟩)] 27::L) I:=s7.perm (List.perm_middle (l₁:=[_]))
 have fin7:∀ {P':List (List UInt8)} {w':World} {a0 a1 a2:Array Value},Pgr e P' W0 w' F (hpB hb e i::.blk b7 a0 3::.blk (b2+1+1) a1 30::.blk (b2+1) a2 3::.blk b2 #[.pointer (some ⟨hb,0,none⟩)] 27::L) I→Pgr e P' W0 w' F (hpB hb e i::L) I:=fun h=>h.sub (.cons_cons _ (.cons _ (.cons _ (.cons _ (.cons _ (List.Sublist.refl _))))))
 have rh:=q3.hp.rules
 clear s7 q3 fin
 simp (disch:=first|omega|exact zF rfl|exact zG rfl|exact fun h=>h|(simp only[zA,zB,zC,zD,bytesW];omega)) only[go_sem,c13B0,c13S14,r3,rh]
 simp only [← hb7e]
 generalize w6.alloc (.cells #[.int .i64 (sz:Nat)] 3)=w7 at q7 ⊢
 clear r3 rh
 refine Ret.mono (proom_ok q7 (by omega)) ?_
 rintro _ w8 ⟨rfl,q8⟩
 simp (disch:=first|omega|exact zF rfl|exact zG rfl|exact fun h=>h|(simp only[zA,zB,zC,zD,bytesW];omega)) only[go_sem,c13B0]
 have hml:=moreN_le hr2
 by_cases hroom:roomN P<moreN r+1
 ·have hroom':(roomN P:Int)<(moreN r:Int)+1:=by omega
  have r4:=q8.rules 2 rfl
  have r5:=q8.rules 3 rfl
  simp (disch:=first|omega|exact zF rfl|exact zG rfl|exact fun h=>h|(simp only[zA,zB,zC,zD,bytesW];omega)) only[go_sem,c13B0,c13S14,hroom',r4,r5]
  refine ⟨⟨by omega,by omega⟩,⟨P,X,fin7 ((q8.set 3 rfl 0 (.int .i64 0)).set 2 rfl 0 (.int .i64 13)),hp,.inr (.inl ⟨hbad,hroom,rfl,rfl⟩)⟩,fun h=>by omega⟩
 have hroom':¬ (roomN P:Int)<(moreN r:Int)+1:=by omega
 have hcap:2+(pagesX X).length+moreN r+1≤e.mx:=by
  have e1:=hp.room
  rw [List.length_append,List.length_nil] at e1
  omega
 have tail:∀ (t:Ent) (P1:List (List UInt8)) (a1:Nat) (w':World),a1<n→Pgr e P1 W0 w' F (hpB hb e i::.blk b7 #[.int .i64 (sz:Nat)] 3::.blk (b2+1+1) #[.int .i64 0] 30::.blk (b2+1) #[.int .i64 0] 3::.blk b2 #[.pointer (some ⟨hb,0,none⟩)] 27::L) I →
   HpN e.mx n i P1 X t.pgs→EntOk P1 t→t.rec?=some r→t.stub=(if a1=0 then 115::r else 108::(fixL r.length 4++fixL a1 4))→t.stub.length=sz→sz≤63→t.stub≠[]→t.pgs.length=moreN r→2+(t.pgs++pagesX X).length<e.mx →
   W Tryz.prog (c13S14 ()) [(1,.string (ofL r)),(2,.pointer (some ⟨b2,0,none⟩)),(4,.pointer (some ⟨b2+1,0,none⟩)),(5,.pointer (some ⟨b2+1+1,0,none⟩)),(7,.pointer (some ⟨b7,0,none⟩)),(9,.int .i64 a1)] w' (finQ Tryz.prog [.cell 4 3,.cell 5 30] (PutK e W0 F L I P X n hb i r)):=by
  intro t P1 a1 w' ha1 q1 p1 te t1 t2 t3 t4 t5 t6 t7
  simp (disch:=first|omega|exact zF rfl|exact zG rfl|exact fun h=>h|(simp only[zA,zB,zC,zD,bytesW];omega)) only[go_sem,c13B0,c13S14]
  refine Ret.mono (stub_ok r a1 w' hr2 (by omega)) ?_
  rintro _ w9 ⟨rfl,b9⟩
  rw [← t2]
  have q9:=q1.below b9
  simp (disch:=first|omega|exact zF rfl|exact zG rfl|exact fun h=>h|(simp only[zA,zB,zC,zD,bytesW];omega)) only[go_sem,c13B0,c13S14]
  have hll:b2<w9.heap.size:=(q9.bk 4 rfl).lt
  have r2:=q9.rules 4 rfl
  have s10:=(q9.box #[.string (ofL t.stub)] 9).perm (List.perm_middle (l₁:=[_]))
  obtain ⟨b11,hb11⟩:∃ b,b=w9.heap.size:=⟨_,rfl⟩
  simp (disch:=first|omega|exact zF rfl|exact zG rfl|exact fun h=>h|(simp only[zA,zB,zC,zD,bytesW];omega)) only[go_sem,c13B0,c13S14,r2]
  simp only [← hb11] at s10 ⊢
  have hsz2:b11<(w9.alloc (.cells #[.string (ofL t.stub)] 9)).heap.size:=by rw [World.size_alloc]; omega
  generalize w9.alloc (.cells #[.string (ofL t.stub)] 9)=w10 at s10 hsz2 ⊢
  refine Ret.mono (hpages_ok (hb:=hb) w10) ?_
  rintro _ w11 ⟨rfl,rfl⟩
  have s11:=(s10.box #[.pointer (some ⟨hb,0,none⟩)] 27).perm (List.Perm.swap _ _ _)
  obtain ⟨pb,hpb⟩:∃ b,b=w10.heap.size:=⟨_,rfl⟩
  simp only [← hpb] at s11 ⊢
  generalize w10.alloc (.cells #[.pointer (some ⟨hb,0,none⟩)] 27)=w11 at s11 ⊢
  simp (disch:=first|omega|exact zF rfl|exact zG rfl|exact fun h=>h|(simp only[zA,zB,zC,zD,bytesW];omega)) only[go_sem,c13B0,c13S14]
  have hbig1:=p1.big
  have hlen1:=p1.given.len
  refine PagesW (C:=X.map Prod.fst) (τ:=Option (List (List UInt8) × Nat)) (pf:=fun t=>match t with | none=>P1 | some x=>x.1)
   (R:=fun t'=>.blk b11 #[.string (ofL t.stub)] 9::.blk b7 #[.int .i64 (sz:Nat)] 3::.blk (b2+1+1) #[.int .i64 0] 30::.blk (b2+1) #[.int .i64 ((match t' with | none=>0 | some x=>x.2:Nat):Int)] 3::.blk b2 #[.pointer (some ⟨hb,0,none⟩)] 27::L)
   (J:=fun _ t'=>t'=none) (H:=fun t'=>∃ P' id,t'=some (P',id)∧∃ A B a es,X=A++(a,es)::B∧HpN e.mx n i P' (A++(a,putE t es)::B) []∧id=256 * a+vacE es)
   (t0:=none) rfl rfl (by omega) hidx p1.root ?_ ?_ ?_ (fun _ _ h=>by rw [h]) rfl s11 ?_ ?_ ?_
  ·intro c hc
   obtain ⟨x,hx,rfl⟩:=List.mem_map.1 hc
   have hm:=p1.memX (page_sub hx _ List.mem_cons_self)
   exact ⟨by have:=p1.rng _ hm; omega,p1.chk hm⟩
  ·rw [List.length_map]
   have h1:=p1.few
   have h2:=pagesX_le X
   rw [List.length_append] at h1
   omega
  ·intro c hc
   obtain ⟨x,hx,rfl⟩:=List.mem_map.1 hc
   have:=p1.rng _ (p1.memX (page_sub hx _ List.mem_cons_self)); omega
  ·rintro k t' w' l D o o2 hk rfl q12
   rw [List.length_map] at hk
   have ecur:curN (X.map Prod.fst) k=X[k].1:=by
    unfold curN
    rw [List.getD_eq_getElem?_getD,List.getElem?_map,List.getElem?_eq_getElem hk]; rfl
   rw [ecur]
   have hX:=X_split hk
   generalize hxk:X[k]=xk at *
   obtain ⟨a,es⟩:=xk
   simp (disch:=first|omega|exact zF rfl|exact zG rfl|exact fun h=>h|(simp only[zA,zB,zC,zD,bytesW];omega)) only[go_sem,c13S14]
   refine ⟨(k,none),q12,fun w13 q13=>?_⟩
   have q13:Pgr e P1 W0 w13 F ([.obj l o2,.obj D defO]++hpB hb e i::.blk pb #[.pointer (some ⟨hb,0,none⟩)] 27::.blk b11 #[.string (ofL t.stub)] 9::.blk b7 #[.int .i64 (sz:Nat)] 3::.blk (b2+1+1) #[.int .i64 0] 30::.blk (b2+1) #[.int .i64 0] 3::.blk b2 #[.pointer (some ⟨hb,0,none⟩)] 27::L) I:=q13
   refine put_round q13 p1 te hk hxk t3 t4 t5 ?_ ?_
   ·intro ρ w' q
    exact ⟨(k+1,none),⟨rfl,rfl⟩,q⟩
   ·intro ρ P' w' hpg q
    exact ⟨(0,some (P',256 * a+vacE es)),⟨_,_,rfl,_,_,_,_,hX,hpg,rfl⟩,q⟩
  ·rintro t' D w' rfl q12
   have q12:Pgr e P1 W0 w' F (.obj D defO::hpB hb e i::.blk pb #[.pointer (some ⟨hb,0,none⟩)] 27::.blk b11 #[.string (ofL t.stub)] 9::.blk b7 #[.int .i64 (sz:Nat)] 3::.blk (b2+1+1) #[.int .i64 0] 30::.blk (b2+1) #[.int .i64 0] 3::.blk b2 #[.pointer (some ⟨hb,0,none⟩)] 27::L) I:=q12
   have r2:=q12.rules 7 rfl
   have r11:=q12.rules 3 rfl
   simp (disch:=first|omega|exact zF rfl|exact zG rfl|exact fun h=>h|(simp only[zA,zB,zC,zD,bytesW];omega)) only[go_sem,c13B0,c13S14,r2,r11]
   refine Ret.mono (fresh_ok t (q12.perm (List.Perm.swap _ _ _)) p1 te t5 (by omega) t7) ?_
   rintro _ w13 ⟨P',a,rfl,ha2,q13,p13⟩
   have q13:=q13.perm (List.Perm.swap _ _ _)
   have r4:=q13.rules 6 rfl
   have r5:=q13.rules 5 rfl
   have l4:b2+1<w13.heap.size:=(q13.bk 6 rfl).lt
   have q14:=(q13.set 6 rfl 0 (.int .i64 (256 * a:Nat))).set 5 rfl 0 (.int .i64 0)
   have hD:=q13.ob 0 rfl
   have hD2:=q14.ob 0 rfl
   simp (disch:=first|omega|exact zF rfl|exact zG rfl|exact fun h=>h|(simp only[zA,zB,zC,zD,bytesW];omega)) only[go_sem,c13B0,c13S14,r4,r5,hD,hD2]
   have q15:=q14.putOb 0 rfl (.deferred none)
   have r4:=q15.rules 6 rfl
   have r5:=q15.rules 5 rfl
   generalize ((w13.setCell ⟨b2+1,0,none⟩ (.int .i64 (256 * a:Nat))).setCell ⟨b2+1+1,0,none⟩ (.int .i64 0)).putObj D (.deferred none)=w15 at q15 r4 r5 ⊢
   simp (disch:=first|omega|exact zF rfl|exact zG rfl|exact fun h=>h|(simp only[zA,zB,zC,zD,bytesW];omega)) only[go_sem,c13B0,c13S14,r4,r5]
   exact ⟨P',_,q15.sub (.cons _ (.cons_cons _ (.cons _ (.cons _ (.cons _ (.cons _ (.cons _ (.cons _ (List.Sublist.refl _))))))))),p13,.inr (.inr ⟨hbad,by omega,256 * a,rfl,t,t1,t6,.inr ⟨a,rfl,rfl⟩⟩)⟩
  ·rintro t' D w' ⟨P',id,ht',A,B,a,es,hX,hp',hid⟩ q12
   subst ht'
   have q12:Pgr e P' W0 w' F (.obj D defO::hpB hb e i::.blk pb #[.pointer (some ⟨hb,0,none⟩)] 27::.blk b11 #[.string (ofL t.stub)] 9::.blk b7 #[.int .i64 (sz:Nat)] 3::.blk (b2+1+1) #[.int .i64 0] 30::.blk (b2+1) #[.int .i64 (id:Nat)] 3::.blk b2 #[.pointer (some ⟨hb,0,none⟩)] 27::L) I:=q12
   have q13:=q12.putOb 0 rfl (.deferred none)
   have r4:=q13.rules 6 rfl
   have r5:=q13.rules 5 rfl
   have hD:=q12.ob 0 rfl
   simp (disch:=first|omega|exact zF rfl|exact zG rfl|exact fun h=>h|(simp only[zA,zB,zC,zD,bytesW];omega)) only[go_sem,c13B0,c13S14,hD,r4,r5]
   exact ⟨P',_,q13.sub (.cons _ (.cons_cons _ (.cons _ (.cons _ (.cons _ (.cons _ (.cons _ (.cons _ (List.Sublist.refl _))))))))),hp',.inr (.inr ⟨hbad,by omega,id,rfl,t,t1,t6,.inl ⟨A,B,a,es,hX,rfl,hid⟩⟩)⟩
 simp (disch:=first|omega|exact zF rfl|exact zG rfl|exact fun h=>h|(simp only[zA,zB,zC,zD,bytesW];omega)) only[go_sem,c13B0,hroom']
 refine ⟨⟨by omega,by omega⟩,fun _=>⟨fun hm=>?_,fun hm=>?_⟩⟩
 ·have hlong:¬ r.length≤62:=fun hc=>by unfold moreN at hm; rw [if_pos hc] at hm; omega
  have hmore:moreN r=chainN r.length:=by unfold moreN; rw [if_neg hlong]
  have r2:=q8.rules 4 rfl
  simp (disch:=first|omega|exact zF rfl|exact zG rfl|exact fun h=>h|(simp only[zA,zB,zC,zD,bytesW];omega)) only[go_sem,c13B0,r2]
  refine Ret.mono (spill_ok r q8 hp (by omega) hr2) ?_
  rintro _ w9 ⟨P1,g,rfl,q9,p9,sp⟩
  simp (disch:=first|omega|exact zF rfl|exact zG rfl|exact fun h=>h|(simp only[zA,zB,zC,zD,bytesW];omega)) only[go_sem,c13B0]
  have hgl:=spell_len sp
  obtain ⟨a1,g',rfl⟩:∃ a g',g=a::g':=by
   cases g with
   | nil=>rw [List.length_nil] at hgl; omega
   | cons a g'=>exact ⟨a,g',rfl⟩
  have har:=p9.rng a1 (p9.memE List.mem_cons_self)
  refine tail (.lo r (a1::g')) P1 a1 w9 har.2 q9 p9 ⟨by omega,hr2,sp⟩ rfl ?_ ?_ ?_ ?_ ?_ ?_
  ·rw [if_neg (by omega)]; rfl
  ·rw [hsz,if_neg hlong]; simp [Ent.stub,fixL_len]
  ·rw [hsz,if_neg hlong]; decide
  ·simp [Ent.stub]
  ·rw [hmore]; exact hgl
  ·rw [List.length_append]
   show 2+((a1::g').length+_)<_
   omega
 ·have hshort:r.length≤62:=Nat.le_of_not_lt fun hc=>by
   unfold moreN chainN at hm; rw [if_neg (by omega)] at hm; omega
  have hmore:moreN r=0:=by unfold moreN; rw [if_pos hshort]
  exact tail (.sh r) P 0 w8 (by omega) q8 hp ⟨hr1,hshort⟩ rfl rfl (by rw [hsz,if_pos hshort]; simp [Ent.stub]; omega) (by rw [hsz,if_pos hshort]; omega) (by simp [Ent.stub]) (by rw [hmore]; rfl) (by rw [List.length_append]; show 2+(0+_)<_; omega)
end
open Go Go.Ann Go.RowKit Go.WideShapes
def NotAt(X:List (Nat × List Ent))(id:Int):Prop:=∀ x∈X,∀ j,(hj:j<x.2.length)→id=((256 * x.1+j:Nat):Int)→x.2[j].stub=[]
def FoundAt(P:List (List UInt8))(X:List (Nat × List Ent))(id:Int)(v:Nat × Nat × List UInt8 × List UInt8):Prop :=
 ∃ A B a es j,X=A++(a,es)::B∧id=((256 * a+j:Nat):Int)∧∃ hj:j<es.length,es[j].stub≠[]∧v=(a,nxtN P a,resN P a,es[j].stub)
section
variable {W0 w:World} {F:Nat→Prop} {L:List Res} {I:List Inv} {e:En} {P:List (List UInt8)} {X:List (Nat × List Ent)} {E:List Nat} {n hb:Nat} {i:Int}
def find4(v:Option (Nat × Nat × List UInt8 × List UInt8)):Nat:=match v with | some v=>v.1 | none=>0
def find5(v:Option (Nat × Nat × List UInt8 × List UInt8)):Nat:=match v with | some v=>v.2.1 | none=>0
def find6(v:Option (Nat × Nat × List UInt8 × List UInt8)):List UInt8:=match v with | some v=>v.2.2.1 | none=>[]
def find7(v:Option (Nat × Nat × List UInt8 × List UInt8)):List UInt8:=match v with | some v=>v.2.2.2 | none=>[]
def findR(hb b:Nat)(id:Int)(v:Option (Nat × Nat × List UInt8 × List UInt8))(er:Int)(L:List Res):List Res :=
 .blk b #[.pointer (some ⟨hb,0,none⟩)] 27::.blk (b+1) #[.int .i64 id] 3::.blk (b+1+1) #[.int .i64 (find4 v)] 3::.blk (b+1+1+1) #[.int .i64 (find5 v)] 3 ::
  .blk (b+1+1+1+1) #[.string (ofL (find6 v))] 9::.blk (b+1+1+1+1+1) #[.string (ofL (find7 v))] 9::.blk (b+1+1+1+1+1+1) #[.int .i64 er] 30::L
theorem find_round{k l D b pb a:Nat}{es:List Ent}{id:Int}{o2:Obj}{w13:World}{Q:Post}
  (q13:Pgr e P W0 w13 F ([.obj l o2,.obj D defO]++hpB hb e i::.blk pb #[.pointer (some ⟨hb,0,none⟩)] 27::findR hb b id none 0 L) I)
  (p1:HpN e.mx n i P X E) (hid:I64 id) (hk:k<X.length) (hxk:X[k]=(a,es))
  (hcont:∀ ρ w',(∀ j,(hj:j<es.length)→id=((256 * a+j:Nat):Int)→es[j].stub=[])→Pgr e P W0 w' F ([.obj l o2,.obj D defO]++hpB hb e i::.blk pb #[.pointer (some ⟨hb,0,none⟩)] 27::findR hb b id none 0 L) I→Q .normal ρ w')
  (hret:∀ ρ w' v,FoundAt P X id v→Pgr e P W0 w' F ([.obj l o2,.obj D defO]++hpB hb e i::.blk pb #[.pointer (some ⟨hb,0,none⟩)] 27::findR hb b id (some v) 0 L) I→Q .ret ρ w') :
  W Tryz.prog (c89B0 ()) [(2,.pointer (some ⟨b,0,none⟩)),(3,.pointer (some ⟨b+1,0,none⟩)),(4,.pointer (some ⟨b+1+1,0,none⟩)),(5,.pointer (some ⟨b+1+1+1,0,none⟩)),(6,.pointer (some ⟨b+1+1+1+1,0,none⟩)),(7,.pointer (some ⟨b+1+1+1+1+1,0,none⟩)),(8,.pointer (some ⟨b+1+1+1+1+1+1,0,none⟩)),(10,.int .i64 a)] w13 Q:=by
 have hidx:=p1.idx
 have hbig1:=p1.big
 have hlen1:=p1.given.len
 have hX:=X_split hk
 rw [hxk] at hX
 have hxm:X[k]∈X:=List.getElem_mem hk
 rw [hxk] at hxm
 obtain ⟨pgk,okk⟩:=p1.pg _ hxm
 have hmk:=p1.memX (page_sub hxm _ List.mem_cons_self)
 have hrk:=p1.rng _ hmk
 have hck:=p1.chk hmk
 simp only at pgk okk hmk hrk hck
 have hfew:=pgk.few
 rw [List.length_map] at hfew
 have r2:=q13.rules 4 rfl
 have r3:=q13.rules 5 rfl
 simp (disch:=first|omega|exact zF rfl|exact zG rfl|exact fun h=>h|(simp only[zA,zB,zC,zD,bytesW];omega)) only[go_sem,c89B0,c89B0,r2,r3]
 refine ⟨hid,fun h1=>⟨fun h2=>hcont _ _ (fun j hj hc=>by omega) q13,fun h2=>?_⟩,fun h1=>hcont _ _ (fun j hj hc=>absurd ?_ h1) q13⟩
 case refine_2 =>
  rw [hc,Int.tdiv_eq_ediv_of_nonneg (by omega)]
  omega
 obtain ⟨m,hm,eid⟩:∃ m:Nat,m<256∧id=((256 * a+m:Nat):Int):=by
  rw [Int.tdiv_eq_ediv_of_nonneg h2] at h1
  exact ⟨(id - 256 * a).toNat,by omega,by omega⟩
 refine Ret.mono (hread_ok _ (q13.perm List.perm_middle) (by omega) ⟨by omega,by omega⟩ hck) ?_
 rintro _ w14 ⟨rfl,q14⟩
 have q14:=q14.perm List.perm_middle.symm
 have e1:unfixL ((P.getD ((a:Nat):Int).toNat []).take 4)=nxtN P a:=rfl
 have e2:(P.getD ((a:Nat):Int).toNat []).drop 4=resN P a:=rfl
 rw [e1,e2]
 have r3:=q14.rules 5 rfl
 have em:id.tmod 256=((m:Nat):Int):=by
  rw [eid,Int.tmod_eq_emod_of_nonneg (by omega)]
  omega
 simp (disch:=first|omega|exact zF rfl|exact zG rfl|exact fun h=>h|(simp only[zA,zB,zC,zD,bytesW];omega)) only[go_sem,c89B0,r3]
 rw [em]
 refine Ret.mono (Slt.get_ok _ _ (m:Int) w14 pgk) ?_
 rintro _ w15 ⟨rfl,b15⟩
 have q15:=q14.below b15
 rw [Slt.getP_at,List.getElem?_map]
 by_cases hml:m<es.length
 ·rw [List.getElem?_eq_getElem hml]
  simp only [Option.map_some]
  by_cases h0:es[m].stub=[]
  ·have hd:decide (es[m].stub≠[])=false:=decide_eq_false (by simpa using h0)
   rw [hd]
   simp (disch:=first|omega|exact zF rfl|exact zG rfl|exact fun h=>h|(simp only[zA,zB,zC,zD,bytesW];omega)) only[go_sem,c89B0]
   refine hcont _ _ (fun j hj hc=>?_) q15
   obtain rfl:j=m:=by omega
   exact h0
  ·have hd:decide (es[m].stub≠[])=true:=decide_eq_true h0
   rw [hd]
   have hfd:FoundAt P X id (a,nxtN P a,resN P a,es[m].stub):=⟨_,_,a,es,m,hX,eid,hml,h0,rfl⟩
   obtain ⟨st,hst⟩:∃ s,s=es[m].stub:=⟨_,rfl⟩
   rw [← hst] at hfd ⊢
   have r4:=q15.rules 6 rfl
   have r5:=q15.rules 7 rfl
   have r6:=q15.rules 8 rfl
   have r7:=q15.rules 9 rfl
   have r8:=q15.rules 10 rfl
   have l8:b+1+1+1+1+1+1<w15.heap.size:=(q15.bk 10 rfl).lt
   simp (disch:=first|omega|exact zF rfl|exact zG rfl|exact fun h=>h|(simp only[zA,zB,zC,zD,bytesW];omega)) only[go_sem,c89B0,r4,r5,r6,r7,r8]
   have q16:=((((q15.set 6 rfl 0 (.int .i64 (a:Nat))).set 7 rfl 0 (.int .i64 (nxtN P a:Nat))).set 8 rfl 0 (.string (ofL (resN P a)))).set 9 rfl 0 (.string (ofL st))).set 10 rfl 0 (.int .i64 0)
   exact hret _ _ _ hfd q16
 ·rw [List.getElem?_eq_none (Nat.le_of_not_lt hml)]
  simp only [Option.map_none]
  simp (disch:=first|omega|exact zF rfl|exact zG rfl|exact fun h=>h|(simp only[zA,zB,zC,zD,bytesW];omega)) only[go_sem,c89B0]
  exact hcont _ _ (fun j hj hc=>by omega) q15
abbrev FindK(e:En)(W0:World)(F:Nat→Prop)(L:List Res)(I:List Inv)(P:List (List UInt8))(X:List (Nat × List Ent))(hb:Nat)(i:Int)(id:Int)(u:Value)(w':World):Prop:=Pgr e P W0 w' F (hpB hb e i::L) I ∧
   ((∃ v,FoundAt P X id v∧u=.tuple #[.int .i64 (v.1:Nat),.int .i64 (v.2.1:Nat),.string (ofL v.2.2.1),.string (ofL v.2.2.2),.int .i64 0]) ∨
   (NotAt X id∧u=.tuple #[.int .i64 0,.int .i64 0,.string (ofL []),.string (ofL []),.int .i64 6]))
theorem find_ok(id:Int)(h:Pgr e P W0 w F (hpB hb e i::L) I)(hp:HpN e.mx n i P X E)(hid:I64 id) :
  Ret Tryz.prog 89 [.pointer (some ⟨hb,0,none⟩),.int .i64 id] w (FindK e W0 F L I P X hb i id):=by
 have hidx:=hp.idx
 have hbig1:=hp.big
 have hlen1:=hp.given.len
 refine ent89 _ _ _ _ ?_
 simp (disch:=first|omega|exact zF rfl|exact zG rfl|exact fun h=>h|(simp only[zA,zB,zC,zD,bytesW];omega)) only[go_sem,c89B0]
 have s3:=((((((h.box #[.pointer (some ⟨hb,0,none⟩)] 27).box #[.int .i64 id] 3).box #[.int .i64 0] 3).box #[.int .i64 0] 3).box #[.string (ofL [])] 9).box #[.string (ofL [])] 9).box #[.int .i64 0] 30
 simp only [World.size_alloc] at s3
 generalize w.heap.size=b at s3 ⊢
 generalize ((((((w.alloc (.cells #[.pointer (some ⟨hb,0,none⟩)] 27)).alloc (.cells #[.int .i64 id] 3)).alloc (.cells #[.int .i64 0] 3)).alloc (.cells #[.int .i64 0] 3)).alloc (.cells #[.string (ofL [])] 9)).alloc (.cells #[.string (ofL [])] 9)).alloc (.cells #[.int .i64 0] 30)=w3 at s3 ⊢
 have q3:Pgr e P W0 w3 F (hpB hb e i::findR hb b id none 0 L) I:=by
  have h1:=s3.perm (List.perm_middle (l₁:=[_,_,_,_,_,_,_]))
  refine h1.perm (List.Perm.cons _ ?_)
  show List.Perm ([Res.blk (b+1+1+1+1+1+1) #[.int .i64 0] 30,.blk (b+1+1+1+1+1) #[.string (ofL [])] 9,.blk (b+1+1+1+1) #[.string (ofL [])] 9,.blk (b+1+1+1) #[.int .i64 0] 3,.blk (b+1+1) #[.int .i64 0] 3,.blk (b+1) #[.int .i64 id] 3,.blk b #[.pointer (some ⟨hb,0,none⟩)] 27]++L) ([Res.blk b #[.pointer (some ⟨hb,0,none⟩)] 27,.blk (b+1) #[.int .i64 id] 3,.blk (b+1+1) #[.int .i64 0] 3,.blk (b+1+1+1) #[.int .i64 0] 3,.blk (b+1+1+1+1) #[.string (ofL [])] 9,.blk (b+1+1+1+1+1) #[.string (ofL [])] 9,.blk (b+1+1+1+1+1+1) #[.int .i64 0] 30]++L)
  exact (List.reverse_perm [Res.blk (b+1+1+1+1+1+1) #[.int .i64 0] 30,.blk (b+1+1+1+1+1) #[.string (ofL [])] 9,.blk (b+1+1+1+1) #[.string (ofL [])] 9,.blk (b+1+1+1) #[.int .i64 0] 3,.blk (b+1+1) #[.int .i64 0] 3,.blk (b+1) #[.int .i64 id] 3,.blk b #[.pointer (some ⟨hb,0,none⟩)] 27]).symm.append_right L
 clear s3 h
 have r2:=q3.rules 1 rfl
 refine Ret.mono (hmade_ok q3) ?_
 rintro _ w4 ⟨rfl,rfl⟩
 simp (disch:=first|omega|exact zF rfl|exact zG rfl|exact fun h=>h|(simp only[zA,zB,zC,zD,bytesW];omega)) only[go_sem,c89B0,r2]
 refine Ret.mono (hpages_ok (hb:=hb) w4) ?_
 rintro _ w11 ⟨rfl,rfl⟩
 have s11:=(q3.box #[.pointer (some ⟨hb,0,none⟩)] 27).perm (List.Perm.swap _ _ _)
 generalize w4.heap.size=pb at s11 ⊢
 generalize w4.alloc (.cells #[.pointer (some ⟨hb,0,none⟩)] 27)=w11 at s11 ⊢
 simp (disch:=first|omega|exact zF rfl|exact zG rfl|exact fun h=>h|(simp only[zA,zB,zC,zD,bytesW];omega)) only[go_sem,c89B0]
 refine PagesW (C:=X.map Prod.fst) (τ:=Option (Nat × Nat × List UInt8 × List UInt8)) (pf:=fun _=>P) (R:=fun t=>findR hb b id t 0 L)
  (J:=fun k t=>t=none∧NotAt (X.take k) id) (H:=fun t=>∃ v,t=some v∧FoundAt P X id v)
  (t0:=none) rfl rfl (by omega) hidx hp.root ?_ ?_ ?_ (fun _ _ _=>rfl) ⟨rfl,fun x hx=>by simp at hx⟩ s11 ?_ ?_ ?_
 ·intro c hc
  obtain ⟨x,hx,rfl⟩:=List.mem_map.1 hc
  have hm:=hp.memX (page_sub hx _ List.mem_cons_self)
  exact ⟨by have:=hp.rng _ hm; omega,hp.chk hm⟩
 ·rw [List.length_map]
  have h1:=hp.few
  have h2:=pagesX_le X
  rw [List.length_append] at h1
  omega
 ·intro c hc
  obtain ⟨x,hx,rfl⟩:=List.mem_map.1 hc
  have:=hp.rng _ (hp.memX (page_sub hx _ List.mem_cons_self)); omega
 ·rintro k t' w' l D o o2 hk ⟨rfl,hno⟩ q12
  rw [List.length_map] at hk
  have ecur:curN (X.map Prod.fst) k=X[k].1:=by
   unfold curN
   rw [List.getD_eq_getElem?_getD,List.getElem?_map,List.getElem?_eq_getElem hk]; rfl
  rw [ecur]
  generalize hxk:X[k]=xk at *
  obtain ⟨a,es⟩:=xk
  simp (disch:=first|omega|exact zF rfl|exact zG rfl|exact fun h=>h|(simp only[zA,zB,zC,zD,bytesW];omega)) only[go_sem]
  refine ⟨(k,none),q12,fun w13 q13=>?_⟩
  refine find_round q13 hp hid hk hxk ?_ ?_
  ·intro ρ w' hn q
   refine ⟨(k+1,none),⟨rfl,rfl,?_⟩,q⟩
   rw [List.take_succ_eq_append_getElem hk,hxk]
   intro x hx j hj he
   rcases List.mem_append.1 hx with hx | hx
   ·exact hno x hx j hj he
   ·rw [List.mem_singleton] at hx; subst hx
    exact hn j hj he
  ·intro ρ w' v hv q
   exact ⟨(0,some v),⟨v,rfl,hv⟩,q⟩
 ·rintro t' D w' ⟨rfl,hno⟩ q12
  have hno:NotAt X id:=by
   rw [List.length_map,List.take_length] at hno; exact hno
  have q12:Pgr e P W0 w' F (.obj D defO::hpB hb e i::.blk pb #[.pointer (some ⟨hb,0,none⟩)] 27::findR hb b id none 0 L) I:=q12
  have r4:=q12.rules 5 rfl
  have r5:=q12.rules 6 rfl
  have r6:=q12.rules 7 rfl
  have r7:=q12.rules 8 rfl
  have r8:=q12.rules 9 rfl
  have l8:b+1+1+1+1+1+1<w'.heap.size:=(q12.bk 9 rfl).lt
  have q16:=((((q12.set 5 rfl 0 (.int .i64 0)).set 6 rfl 0 (.int .i64 0)).set 7 rfl 0 (.string (ofL []))).set 8 rfl 0 (.string (ofL []))).set 9 rfl 0 (.int .i64 6)
  have hD:=q12.ob 0 rfl
  have hD2:=q16.ob 0 rfl
  simp (disch:=first|omega|exact zF rfl|exact zG rfl|exact fun h=>h|(simp only[zA,zB,zC,zD,bytesW];omega)) only[go_sem,c89B0,r4,r5,r6,r7,r8,hD,hD2]
  have q15:=q16.putOb 0 rfl (.deferred none)
  have r4:=q15.rules 5 rfl
  have r5:=q15.rules 6 rfl
  have r6:=q15.rules 7 rfl
  have r7:=q15.rules 8 rfl
  have r8:=q15.rules 9 rfl
  generalize (((((w'.setCell ⟨b+1+1,0,none⟩ (.int .i64 0)).setCell ⟨b+1+1+1,0,none⟩ (.int .i64 0)).setCell ⟨b+1+1+1+1,0,none⟩ (.string (ofL []))).setCell ⟨b+1+1+1+1+1,0,none⟩ (.string (ofL []))).setCell ⟨b+1+1+1+1+1+1,0,none⟩ (.int .i64 6)).putObj D (.deferred none)=w15 at q15 r4 r5 r6 r7 r8 ⊢
  simp (disch:=first|omega|exact zF rfl|exact zG rfl|exact fun h=>h|(simp only[zA,zB,zC,zD,bytesW];omega)) only[go_sem,c89B0,r4,r5,r6,r7,r8]
  exact ⟨q15.sub (.cons _ (.cons_cons _ (.cons _ (.cons _ (.cons _ (.cons _ (.cons _ (.cons _ (.cons _ (.cons _ (List.Sublist.refl _))))))))))),.inr ⟨hno,rfl⟩⟩
 ·rintro t' D w' ⟨v,ht',hv⟩ q12
  subst ht'
  have q12:Pgr e P W0 w' F (.obj D defO::hpB hb e i::.blk pb #[.pointer (some ⟨hb,0,none⟩)] 27::findR hb b id (some v) 0 L) I:=q12
  have q13:=q12.putOb 0 rfl (.deferred none)
  have r4:=q13.rules 5 rfl
  have r5:=q13.rules 6 rfl
  have r6:=q13.rules 7 rfl
  have r7:=q13.rules 8 rfl
  have r8:=q13.rules 9 rfl
  have hD:=q12.ob 0 rfl
  simp (disch:=first|omega|exact zF rfl|exact zG rfl|exact fun h=>h|(simp only[zA,zB,zC,zD,bytesW];omega)) only[go_sem,c89B0,hD,r4,r5,r6,r7,r8]
  exact ⟨q13.sub (.cons _ (.cons_cons _ (.cons _ (.cons _ (.cons _ (.cons _ (.cons _ (.cons _ (.cons _ (.cons _ (List.Sublist.refl _))))))))))),.inl ⟨v,hv,rfl⟩⟩
end
open Go Go.Ann Go.RowKit Go.WideShapes
def Real(X:List (Nat × List Ent)):Prop:=∀ x∈X,∀ e∈x.2,e.stub≠[]→∃ r,e.rec?=some r
theorem recsE_mem{a:Nat}{id:Nat}{r:List UInt8}:∀ {es:List Ent} {k:Nat},(id,r)∈recsE a k es↔∃ j,∃ hj:j<es.length,es[j].rec?=some r∧id=256 * a+(k+j)
 | [],k=>by simp [recsE]
 | e::es,k=>by
  rw [recsE,List.mem_append,recsE_mem]
  constructor
  ·rintro (h | ⟨j,hj,h1,h2⟩)
   ·unfold recE at h
    split at h
    ·rename_i r' hr
     rw [List.mem_singleton] at h
     cases h
     exact ⟨0,by simp,hr,rfl⟩
    ·cases h
   ·exact ⟨j+1,by simpa using hj,h1,by omega⟩
  ·rintro ⟨j,hj,h1,h2⟩
   cases j with
   | zero =>
    left
    have h1:e.rec?=some r:=h1
    unfold recE
    rw [h1,h2]; simp
   | succ j=>exact .inr ⟨j,by simpa using hj,h1,by omega⟩
theorem recsX_mem{X:List (Nat × List Ent)}{id:Nat}{r:List UInt8}:(id,r)∈recsX X↔∃ x∈X,∃ j,∃ hj:j<x.2.length,x.2[j].rec?=some r∧id=256 * x.1+j:=by
 unfold recsX
 rw [List.mem_flatMap]
 constructor
 ·rintro ⟨x,hx,h⟩
  obtain ⟨j,hj,h1,h2⟩:=recsE_mem.1 h
  exact ⟨x,hx,j,hj,h1,by omega⟩
 ·rintro ⟨x,hx,j,hj,h1,h2⟩
  exact ⟨x,hx,recsE_mem.2 ⟨j,hj,h1,by omega⟩⟩
theorem rec_stub{e:Ent}{r:List UInt8}(h:e.rec?=some r):e.stub≠[]:=by
 intro hc
 rw [(nil_no hc).1] at h; cases h
theorem notAt_rec{X:List (Nat × List Ent)}{id:Int}(h:NotAt X id){k:Nat}{r:List UInt8}(hm:(k,r)∈recsX X):id≠k:=by
 intro hk
 obtain ⟨x,hx,j,hj,h1,h2⟩:=recsX_mem.1 hm
 exact rec_stub h1 (h x hx j hj (by rw [hk,h2]))
theorem recsX_mid{A B:List (Nat × List Ent)}{a:Nat}{es:List Ent}:recsX (A++(a,es)::B)=recsX A++(recsE a 0 es++recsX B):=by
 unfold recsX
 rw [List.flatMap_append,List.flatMap_cons]
theorem perm_in{α:Type}{A B G G' H:List α}(h:G'.Perm (H++G)):(A++(G'++B)).Perm (H++(A++(G++B))):=by
 have h1:(A++(G'++B)).Perm (A++(H++(G++B))):=by
  have:=(h.append_right B).append_left A
  simpa only [List.append_assoc] using this
 refine h1.trans ?_
 have:=(List.perm_append_comm (l₁:=A) (l₂:=H)).append_right (G++B)
 simpa only [List.append_assoc] using this
theorem PutX.recs{X X':List (Nat × List Ent)}{r:List UInt8}{id:Nat}(h:PutX X r id X'):(recsX X').Perm ((id,r)::recsX X):=by
 obtain ⟨t,h1,h2,⟨A,B,a,es,rfl,rfl,rfl⟩ | ⟨a,rfl,rfl⟩⟩:=h
 ·rw [recsX_mid,recsX_mid]
  have:=recsE_put (a:=a) (es:=es) t
  have e:recE a (vacE es) t=[(256 * a+vacE es,r)]:=by unfold recE; rw [h1]
  rw [e] at this
  exact perm_in this
 ·have e:recE a 0 t=[(256 * a,r)]:=by unfold recE; rw [h1]; rfl
  show (recsE a 0 [t]++recsX X).Perm _
  rw [recsE,recsE,e]; exact List.Perm.refl _
theorem PutX.real{X X':List (Nat × List Ent)}{r:List UInt8}{id:Nat}(h:PutX X r id X')(hr:Real X):Real X':=by
 obtain ⟨t,h1,h2,⟨A,B,a,es,rfl,rfl,rfl⟩ | ⟨a,rfl,rfl⟩⟩:=h
 ·intro x hx e he h0
  rcases List.mem_append.1 hx with hx | hx
  ·exact hr x (List.mem_append_left _ hx) e he h0
  ·rcases List.mem_cons.1 hx with rfl | hx
   ·rcases put_mem he with rfl | he
    ·exact ⟨r,h1⟩
    ·exact hr (a,es) (by simp) e he h0
   ·exact hr x (List.mem_append_right _ (List.mem_cons_of_mem _ hx)) e he h0
 ·intro x hx e he h0
  rcases List.mem_cons.1 hx with rfl | hx
  ·rw [List.mem_singleton] at he; subst he; exact ⟨r,h1⟩
  ·exact hr x hx e he h0
theorem PutX.pages{X X':List (Nat × List Ent)}{r:List UInt8}{id:Nat}(h:PutX X r id X'):(pagesX X').length≤(pagesX X).length+(moreN r+1):=by
 obtain ⟨t,h1,h2,⟨A,B,a,es,rfl,rfl,rfl⟩ | ⟨a,rfl,rfl⟩⟩:=h
 ·rw [pagesX_mid,pagesX_mid]
  have:=(entsG_put (es:=es) t).length_eq
  rw [List.length_append,h2] at this
  simp only [List.length_append,List.length_cons]
  omega
 ·show (a::entsG [t]++pagesX X).length≤_
  have:entsG [t]=t.pgs:=by unfold entsG; simp
  rw [this]
  simp only [List.length_append,List.length_cons,h2]
  omega
section
variable {mx n:Nat} {i:Int} {P P':List (List UInt8)} {X:List (Nat × List Ent)} {E E':List Nat}
theorem HpN.keys(h:HpN mx n i P X E):((recsX X).map Prod.fst).Nodup:=by
 have hfew:∀ x∈X,x.2.length≤127:=fun x hx=>by
  have:=(h.pg x hx).1.few
  rwa [List.length_map] at this
 have hnd:(X.map Prod.fst).Nodup:=by
  have:∀ X:List (Nat × List Ent),(X.map Prod.fst).Sublist (pagesX X):=by
   intro X
   induction X with
   | nil=>exact List.Sublist.refl _
   | cons x X ih =>
    show (x.1::X.map Prod.fst).Sublist (x.1::(entsG x.2++pagesX X))
    exact .cons_cons _ (ih.trans (List.sublist_append_right _ _))
  exact (List.nodup_append.1 h.nd).2.1.sublist (this X)
 clear h
 have inner:∀ (a:Nat) (es:List Ent) (k:Nat),((recsE a k es).map Prod.fst).Nodup∧∀ id∈(recsE a k es).map Prod.fst,256 * a+k≤id∧id<256 * a+k+es.length:=by
  intro a es
  induction es with
  | nil=>intro k; exact ⟨List.Pairwise.nil,fun id hid=>by cases hid⟩
  | cons e es ih =>
   intro k
   obtain ⟨h1,h2⟩:=ih (k+1)
   rw [recsE,List.map_append]
   unfold recE
   split
   ·refine ⟨?_,fun id hid=>?_⟩
    ·simp only [List.map_cons,List.map_nil,List.cons_append,List.nil_append]
     refine List.nodup_cons.2 ⟨fun hc=>?_,h1⟩
     have:=h2 _ hc; omega
    ·simp only [List.map_cons,List.map_nil,List.cons_append,List.nil_append,List.mem_cons] at hid
     rw [List.length_cons]
     rcases hid with rfl | hid
     ·omega
     ·have:=h2 _ hid; omega
   ·simp only [List.map_nil,List.nil_append,List.length_cons]
    exact ⟨h1,fun id hid=>by have:=h2 id hid; omega⟩
 induction X with
 | nil=>exact List.Pairwise.nil
 | cons x X ih =>
  rw [List.map_cons,List.nodup_cons] at hnd
  show ((recsE x.1 0 x.2++recsX X).map Prod.fst).Nodup
  rw [List.map_append,List.nodup_append]
  refine ⟨(inner _ _ _).1,ih (fun y hy=>hfew y (List.mem_cons_of_mem _ hy)) hnd.2,fun id hid id2 hid2 e=>?_⟩
  subst e
  have h1:=(inner _ _ _).2 id hid
  obtain ⟨⟨id',r⟩,hm,rfl⟩:=List.mem_map.1 hid2
  obtain ⟨y,hy,j,hj,_,h4⟩:=recsX_mem.1 hm
  have h5:=hfew x List.mem_cons_self
  have h6:=hfew y (List.mem_cons_of_mem _ hy)
  refine hnd.1 (List.mem_map.2 ⟨y,hy,?_⟩)
  simp only at h4 h1
  omega
theorem HpN.ids(h:HpN mx n i P X E){id:Nat}{r:List UInt8}(hm:(id,r)∈recsX X):512≤id∧id<256 * n:=by
 obtain ⟨x,hx,j,hj,h1,h2⟩:=recsX_mem.1 hm
 have h3:=h.rng _ (h.memX (page_sub hx _ List.mem_cons_self))
 have h4:=(h.pg x hx).1.few
 rw [List.length_map] at h4
 omega
theorem HpN.ghost{A B:List (Nat × List Ent)}{a j:Nat}{es:List Ent}(h:HpN mx n i P (A++(a,es)::B) [])(hj:j<es.length)(h0:es[j].stub≠[])(hl:es[j].stub.length≤63):HpN mx n i P (A++(a,es.set j (.gh es[j].stub))::B) es[j].pgs:=by
 have hst:(es.set j (.gh es[j].stub)).map Ent.stub=es.map Ent.stub:=by
  rw [List.map_set]
  refine List.ext_getElem? fun k=>?_
  rw [List.getElem?_set]
  split
  ·rename_i e; subst e
   rw [List.length_map,if_pos hj,List.getElem?_map,List.getElem?_eq_getElem hj]; rfl
  ·rfl
 have hpp:([]++pagesX (A++(a,es)::B)).Perm (es[j].pgs++pagesX (A++(a,es.set j (.gh es[j].stub))::B)):=by
  rw [pagesX_mid,pagesX_mid,List.nil_append]
  have h1:=entsG_set hj (.gh es[j].stub)
  have h2:(a::entsG es).Perm (es[j].pgs++(a::entsG (es.set j (.gh es[j].stub)))):=by
   refine (h1.symm.cons a).trans ?_
   exact List.perm_middle.symm
  have:=perm_in (A:=pagesX A) (B:=pagesX B) h2
  simpa only [List.append_assoc] using this
 have hm:∀ b,b∈es[j].pgs++pagesX (A++(a,es.set j (.gh es[j].stub))::B)↔b∈[]++pagesX (A++(a,es)::B):=fun b=>hpp.mem_iff.symm
 have hcase:∀ x∈A++(a,es.set j (.gh es[j].stub))::B,x=(a,es.set j (.gh es[j].stub))∨x∈A++(a,es)::B:=by
  intro x hx
  rcases List.mem_append.1 hx with hx | hx
  ·exact .inr (List.mem_append_left _ hx)
  ·rcases List.mem_cons.1 hx with hx | hx
   ·exact .inl hx
   ·exact .inr (List.mem_append_right _ (List.mem_cons_of_mem _ hx))
 have hme:(a,es)∈A++(a,es)::B:=by simp
 refine ⟨h.given.ext fun k hk=>by simp only [hm],fun b hb=>h.low b ((hm b).1 hb),hpp.nodup_iff.1 h.nd,h.full,h.idx,h.big,?_,fun x hx=>?_,fun x hx=>?_⟩
 ·have:=h.root
  rw [List.map_append,List.map_cons] at this ⊢
  exact this
 ·rcases hcase x hx with rfl | hx
  ·obtain ⟨p1,p2⟩:=h.pg _ hme
   refine ⟨by show Slt.Pg _ ((es.set j (.gh es[j].stub)).map Ent.stub); rw [hst]; exact p1,fun e he=>?_⟩
   rcases List.mem_or_eq_of_mem_set he with he | rfl
   ·exact p2 e he
   ·exact ⟨h0,hl⟩
  ·exact h.pg x hx
 ·rcases hcase x hx with rfl | hx
  ·exact ⟨.gh es[j].stub,List.mem_set hj _,h0⟩
  ·exact h.some x hx
theorem stub_le{e:Ent}(h:EntOk P e):e.stub.length≤63:=by
 cases e with
 | no=>decide
 | sh r=>have:=h.2; simp only [Ent.stub,List.length_cons]; omega
 | lo r g=>simp [Ent.stub,fixL_len]
 | gh s=>exact h.2
theorem del_ghost{es:List Ent}{j:Nat}(t:Ent):delE j (es.set j t)=delE j es:=by
 unfold delE
 rw [List.set_set]
theorem recs_del{A B:List (Nat × List Ent)}{a j:Nat}{es:List Ent}{r:List UInt8}(hj:j<es.length)(hr:es[j].rec?=some r):(recsX (A++(a,es)::B)).Perm ((256 * a+j,r)::recsX (A++(a,delE j es)::B)):=by
 rw [recsX_mid,recsX_mid]
 have:=recsE_del (a:=a) hj
 have e:recE a j es[j]=[(256 * a+j,r)]:=by unfold recE; rw [hr]
 rw [e] at this
 exact perm_in this.symm
theorem recs_gone{A B:List (Nat × List Ent)}{a:Nat}:recsX (A++(a,[])::B)=recsX (A++B):=by
 rw [recsX_mid]
 unfold recsX
 rw [List.flatMap_append,recsE,List.nil_append]
theorem Real.del{A B:List (Nat × List Ent)}{a j:Nat}{es:List Ent}(h:Real (A++(a,es)::B)):Real (A++(a,delE j es)::B):=by
 intro x hx e he h0
 rcases List.mem_append.1 hx with hx | hx
 ·exact h x (List.mem_append_left _ hx) e he h0
 ·rcases List.mem_cons.1 hx with rfl | hx
  ·rcases del_mem he with rfl | he
   ·exact absurd rfl h0
   ·exact h (a,es) (by simp) e he h0
  ·exact h x (List.mem_append_right _ (List.mem_cons_of_mem _ hx)) e he h0
theorem Real.out{A B:List (Nat × List Ent)}{x:Nat × List Ent}(h:Real (A++x::B)):Real (A++B):=by
 intro y hy e he h0
 rcases List.mem_append.1 hy with hy | hy
 ·exact h y (List.mem_append_left _ hy) e he h0
 ·exact h y (List.mem_append_right _ (List.mem_cons_of_mem _ hy)) e he h0
theorem HpN.none(h:HpN mx n i P X E)(hr:Real X)(h0:recsX X=[]):X=[]:=by
 cases X with
 | nil=>rfl
 | cons x X =>
  obtain ⟨e,he,h1⟩:=h.some x List.mem_cons_self
  obtain ⟨r,h2⟩:=hr x List.mem_cons_self e he h1
  obtain ⟨j,hj,rfl⟩:=List.mem_iff_getElem.1 he
  have:(256 * x.1+j,r)∈recsX (x::X):=recsX_mem.2 ⟨x,List.mem_cons_self,j,hj,h2,rfl⟩
  rw [h0] at this; cases this
end
open Go Go.Ann Go.RowKit Go.WideShapes
section
variable {W0 w:World} {F:Nat→Prop} {L:List Res} {I:List Inv} {e:En} {P:List (List UInt8)} {X:List (Nat × List Ent)} {E:List Nat} {n hb:Nat} {i:Int}
theorem hget_ok(id:Int)(h:Pgr e P W0 w F (hpB hb e i::L) I)(hp:HpN e.mx n i P X E)(hr:Real X)(hid:I64 id) :
  Ret Tryz.prog 32 [.pointer (some ⟨hb,0,none⟩),.int .i64 id] w fun u w'=>Pgr e P W0 w' F (hpB hb e i::L) I ∧
   ((∃ (k:Nat) (r:List UInt8),id=k∧(k,r)∈recsX X∧u=.tuple #[.string (ofL r),.int .i64 0])∨(NotAt X id∧u=.tuple #[.string (ofL []),.int .i64 6])):=by
 have hbig:=hp.big
 have hlen:=hp.given.len
 refine ent32 _ _ _ _ ?_
 simp (disch:=first|omega|exact zF rfl|exact zG rfl|exact fun h=>h|(simp only[zA,zB,zC,zD,bytesW];omega)) only[go_sem]
 refine Ret.mono (find_ok id h hp hid) ?_
 rintro _ w2 ⟨h2,⟨v,⟨A,B,a,es,j,hX,eid,hj,h0,rfl⟩,rfl⟩ | ⟨hno,rfl⟩⟩
 ·have hxm:(a,es)∈X:=by rw [hX]; simp
  have hem:es[j]∈es:=List.getElem_mem hj
  obtain ⟨r,hrec⟩:=hr _ hxm _ hem h0
  have hmem:(256 * a+j,r)∈recsX X:=recsX_mem.2 ⟨_,hxm,j,hj,hrec,rfl⟩
  have hok:=(hp.pg _ hxm).2 _ hem
  have hsub:∀ d∈es[j].pgs,d∈pagesX X:=fun d hd=>page_sub hxm d (List.mem_cons_of_mem _ (ents_sub hem d hd))
  generalize es[j]=t at hrec hok hsub ⊢
  cases t with
  | no=>cases hrec
  | gh s=>cases hrec
  | sh r' =>
   obtain rfl:r'=r:=by simpa [Ent.rec?] using hrec
   have e3:bN (Ent.stub (.sh r')) 0=115:=rfl
   have e4:(Ent.stub (.sh r')).length=r'.length+1:=rfl
   simp (disch:=first|omega|exact zF rfl|exact zG rfl|exact fun h=>h|(simp only[zA,zB,zC,zD,bytesW];omega)) only[go_sem]
   rw [e3,e4]
   exact ⟨by omega,fun hc=>absurd hc (by decide),fun _=>⟨by omega,h2,.inl ⟨_,r',eid,hmem,rfl⟩⟩⟩
  | lo r' g =>
   obtain rfl:r'=r:=by simpa [Ent.rec?] using hrec
   have e3:bN (Ent.stub (.lo r' g)) 0=108:=rfl
   have e4:(Ent.stub (.lo r' g)).length=9:=by simp [Ent.stub,fixL_len]
   simp (disch:=first|omega|exact zF rfl|exact zG rfl|exact fun h=>h|(simp only[zA,zB,zC,zD,bytesW];omega)) only[go_sem]
   rw [e3,e4]
   refine ⟨by omega,fun _=>Ret.mono (gather_ok r' g h2 (by omega) (fun b hb=>?_) hok.2.2 hok.2.1) ?_,fun hc=>absurd rfl hc⟩
   ·have hm:=hp.memX (hsub b hb)
    exact ⟨hp.chk hm,by have:=hp.rng _ hm; omega⟩
   ·rintro _ w3 ⟨rfl,h3⟩
    simp (disch:=first|omega|exact zF rfl|exact zG rfl|exact fun h=>h|(simp only[zA,zB,zC,zD,bytesW];omega)) only[go_sem]
    exact ⟨h3,.inl ⟨_,r',eid,hmem,rfl⟩⟩
 ·simp (disch:=first|omega|exact zF rfl|exact zG rfl|exact fun h=>h|(simp only[zA,zB,zC,zD,bytesW];omega)) only[go_sem]
  exact ⟨h2,.inr hno⟩
def unR(hb b:Nat)(a nx:Nat)(L:List Res):List Res :=
 .blk b #[.pointer (some ⟨hb,0,none⟩)] 27::.blk (b+1) #[.int .i64 a] 3::.blk (b+1+1) #[.int .i64 nx] 3::.blk (b+1+1+1) #[.int .i64 0] 30::L
theorem unlink_round{k l D b pb a x:Nat}{A B:List (Nat × List Ent)}{es ex:List Ent}{o2:Obj}{w13:World}{Q:Post}
  (q13:Pgr e P W0 w13 F ([.obj l o2,.obj D defO]++hpB hb e i::.blk pb #[.pointer (some ⟨hb,0,none⟩)] 27::unR hb b a (nxtN P a) L) I)
  (p1:HpN e.mx n i P X []) (hX:X=A++(a,es)::B) (he:entsG es=[]) (hk:k<X.length) (hka:k≤A.length) (hxk:X[k]=(x,ex))
  (hcont:∀ ρ w',k<A.length→Pgr e P W0 w' F ([.obj l o2,.obj D defO]++hpB hb e i::.blk pb #[.pointer (some ⟨hb,0,none⟩)] 27::unR hb b a (nxtN P a) L) I→Q .normal ρ w')
  (hret:∀ ρ P' w',HpN e.mx n i P' (A++B) []→Pgr e P' W0 w' F ([.obj l o2,.obj D defO]++hpB hb e i::.blk pb #[.pointer (some ⟨hb,0,none⟩)] 27::unR hb b a (nxtN P a) L) I→Q .ret ρ w') :
  W Tryz.prog (c95B0 ()) [(3,.pointer (some ⟨b,0,none⟩)),(4,.pointer (some ⟨b+1,0,none⟩)),(5,.pointer (some ⟨b+1+1,0,none⟩)),(6,.pointer (some ⟨b+1+1+1,0,none⟩)),(7,.int .i64 (prevN (X.map Prod.fst) k)),(8,.int .i64 x)] w13 Q:=by
 have hidx:=p1.idx
 have hbig1:=p1.big
 have hlen1:=p1.given.len
 have hmx:(a,es)∈X:=by rw [hX]; simp
 have hma:=p1.memX (page_sub hmx _ List.mem_cons_self)
 have hra:=p1.rng _ hma
 have hnx:nxtN P a<n:=by
  have hlk:=p1.root
  rw [hX,List.map_append,List.map_cons,LinkN.app] at hlk
  obtain ⟨c,l1,l2,l3⟩:=hlk
  have:=l3.head
  cases B with
  | nil =>
   have h1:0=nxtN P a:=this
   omega
  | cons y B =>
   have h1:y.1=nxtN P a:=this
   have hmy:y∈X:=by rw [hX]; simp
   have:=p1.rng _ (p1.memX (page_sub hmy _ List.mem_cons_self))
   omega
 have r3:=q13.rules 4 rfl
 have r4:=q13.rules 5 rfl
 have r5:=q13.rules 6 rfl
 by_cases hxa:x=a
 case neg =>
  have hxa':¬ (x:Int)=(a:Int):=by omega
  have hlt:k<A.length:=by
   refine Classical.byContradiction fun hc=>?_
   obtain rfl:k=A.length:=by omega
   subst hX
   rw [List.getElem_append_right (Nat.le_refl _)] at hxk
   simp at hxk
   exact hxa hxk.1.symm
  simp (disch:=first|omega|exact zF rfl|exact zG rfl|exact fun h=>h|(simp only[zA,zB,zC,zD,bytesW];omega)) only[go_sem,c95B0,c95B0,r4,hxa']
  exact hcont _ _ hlt q13
 subst hxa
 have hkA:k=A.length:=by
  refine Classical.byContradiction fun hc=>?_
  have hnd:=(List.nodup_append.1 p1.nd).2.1
  have e3:pagesX X=pagesX A++(x::entsG es)++pagesX B:=by rw [hX,pagesX_mid]
  rw [e3] at hnd
  have hlt:k<A.length:=by omega
  have hxA:(x,ex)∈A:=by
   subst hX
   rw [List.getElem_append_left hlt] at hxk
   exact hxk ▸ List.getElem_mem hlt
  exact (List.nodup_append.1 (List.nodup_append.1 hnd).1).2.2 x (page_sub hxA _ List.mem_cons_self) x List.mem_cons_self rfl
 simp only at hra
 have r3h:=(q13.perm List.perm_middle).hp.rules
 simp (disch:=first|omega|exact zF rfl|exact zG rfl|exact fun h=>h|(simp only[zA,zB,zC,zD,bytesW];omega)) only[go_sem,c95B0,c95B0,r4]
 rcases List.eq_nil_or_concat A with rfl | ⟨A',y,rfl⟩
 ·have ep:prevN (X.map Prod.fst) k=0:=by rw [hkA]; rfl
  rw [ep]
  refine ⟨fun _=>?_,fun hc=>absurd rfl hc⟩
  subst hX
  obtain ⟨p2,hn2,hr2⟩:=p1.pop he
  refine c95draw0 (Same (fun k=>k=hb∨k=b∨k=b+1+1) _) (Same.refl _ _) ?_
  have q14:=q13.drew
  generalize w13.drew=w14 at q14 ⊢
  have r3:=q14.rules 4 rfl
  have r5:=q14.rules 6 rfl
  have rh:=(q14.perm List.perm_middle).hp.rules
  simp (disch:=first|omega|exact zF rfl|exact zG rfl|exact fun h=>h|(simp only[zA,zB,zC,zD,bytesW];omega)) only[go_sem,c95B0,c95D0,r3,r5,rh]
  have p1r:=p1.rootL
  have hset:=setRootN_in (P:=P) (i:=i) (j:=((nxtN P x:Nat):Int)) hidx p1r (by
   rcases hn2 with h0 | h0
   ·exact .inl (by omega)
   ·refine .inr (p1.chk (p1.memX ?_))
    show nxtN P x∈(x::entsG es)++pagesX B
    exact List.mem_append_right _ h0) (by omega)
  refine ⟨Same.refl _ _,Ret.mono (psetRoot_ok i ((nxtN P x:Nat):Int) q14 (by omega) ⟨by omega,by omega⟩ ⟨by omega,by omega⟩) ?_⟩
  rw [hset,Int.toNat_natCast]
  rintro _ w15 ⟨rfl,q15⟩
  simp (disch:=first|omega|exact zF rfl|exact zG rfl|exact fun h=>h|(simp only[zA,zB,zC,zD,bytesW];omega)) only[go_sem,c95B0]
  refine ⟨fun j hj=>?_,?_⟩
  ·rcases hj with rfl | rfl | rfl
   ·exact (q15.bk 2 rfl).trans (q14.bk 2 rfl).symm
   ·exact (q15.bk 4 rfl).trans (q14.bk 4 rfl).symm
   ·exact (q15.bk 6 rfl).trans (q14.bk 6 rfl).symm
  refine c95draw1 (Same (fun k=>k=hb∨k=b∨k=b+1) _) (Same.refl _ _) ?_
  have q16:=q15.drew
  generalize w15.drew=w16 at q16 ⊢
  have r3:=q16.rules 4 rfl
  have r4:=q16.rules 5 rfl
  have rh:=(q16.perm List.perm_middle).hp.rules
  simp (disch:=first|omega|exact zF rfl|exact zG rfl|exact fun h=>h|(simp only[zA,zB,zC,zD,bytesW];omega)) only[go_sem,c95B0,c95D1,r3,r4,rh]
  obtain ⟨P3,ef,p3,_⟩:=p2.free
  refine ⟨Same.refl _ _,Ret.mono (pfree_ok (x:Int) q16 (by rw [List.length_set]; omega) ⟨by omega,by omega⟩) ?_⟩
  rw [ef]
  rintro _ w17 ⟨rfl,q17⟩
  have q17:Pgr e P3 W0 w17 F _ I:=q17
  have r6:=q17.rules 7 rfl
  simp (disch:=first|omega|exact zF rfl|exact zG rfl|exact fun h=>h|(simp only[zA,zB,zC,zD,bytesW];omega)) only[go_sem,c95B0,c95D1,r6]
  refine ⟨fun j hj=>?_,hret _ _ _ p3 (q17.set 7 rfl 0 (.int .i64 0))⟩
  rcases hj with rfl | rfl | rfl
  ·exact (q17.bk 2 rfl).trans (q16.bk 2 rfl).symm
  ·exact (q17.bk 4 rfl).trans (q16.bk 4 rfl).symm
  ·exact (q17.bk 5 rfl).trans (q16.bk 5 rfl).symm
 ·obtain ⟨hy,hy2⟩:prevN (X.map Prod.fst) k=y.1∧y∈X:=by
   subst hX
   rw [hkA]
   refine ⟨?_,by simp⟩
   unfold prevN
   rw [List.concat_eq_append,List.length_append,List.length_singleton,if_neg (by omega),Nat.add_sub_cancel,List.map_append,List.map_append,List.append_assoc,List.getD_eq_getElem?_getD,List.getElem?_append_right (by rw [List.length_map]; exact Nat.le_refl _),List.length_map,Nat.sub_self]
   rfl
  rw [hy]
  have hmy:=p1.memX (page_sub hy2 _ List.mem_cons_self)
  have hry:=p1.rng _ hmy
  have hcy:=p1.chk hmy
  refine ⟨fun hc=>by omega,fun _=>?_⟩
  simp (disch:=first|omega|exact zF rfl|exact zG rfl|exact fun h=>h|(simp only[zA,zB,zC,zD,bytesW];omega)) only[go_sem,c95B0,r3]
  refine Ret.mono (hread_ok _ (q13.perm List.perm_middle) (by omega) ⟨by omega,by omega⟩ hcy) ?_
  rintro _ w14 ⟨rfl,q14⟩
  have q14:=q14.perm List.perm_middle.symm
  have e2:(P.getD ((y.1:Nat):Int).toNat []).drop 4=resN P y.1:=rfl
  rw [e2]
  have hl252:(resN P y.1).length=252:=by
   unfold resN
   rw [List.length_drop,List.getD_eq_getElem?_getD,List.getElem?_eq_getElem (by omega),Option.getD_some,p1.full _ (List.getElem_mem _)]
  have r3:=q14.rules 4 rfl
  have r5:=q14.rules 6 rfl
  simp (disch:=first|omega|exact zF rfl|exact zG rfl|exact fun h=>h|(simp only[zA,zB,zC,zD,bytesW];omega)) only[go_sem,c95B0,r3,r5]
  refine Ret.mono (hwriteS_ok (y.1:Int) (nxtN P x) (resN P y.1) (q14.perm List.perm_middle) (by omega) ⟨by omega,by omega⟩ hcy (by omega) (by omega) (by have:=(p1.low _ hmy).2; omega)) ?_
  rintro _ w15 ⟨rfl,q15⟩
  have q15:=q15.perm List.perm_middle.symm
  rw [fillR_id hl252,Int.toNat_natCast] at q15
  have eX:X=A'++y::(x,es)::B:=by rw [hX,List.concat_eq_append,List.append_assoc]; rfl
  rw [eX] at p1
  have p2:=p1.drop he
  simp (disch:=first|omega|exact zF rfl|exact zG rfl|exact fun h=>h|(simp only[zA,zB,zC,zD,bytesW];omega)) only[go_sem,c95B0]
  refine c95draw2 (Same (fun k=>k=hb∨k=b∨k=b+1) _) (Same.refl _ _) ?_
  have q16:=q15.drew
  generalize w15.drew=w16 at q16 ⊢
  have r3:=q16.rules 4 rfl
  have r4:=q16.rules 5 rfl
  have rh:=(q16.perm List.perm_middle).hp.rules
  simp (disch:=first|omega|exact zF rfl|exact zG rfl|exact fun h=>h|(simp only[zA,zB,zC,zD,bytesW];omega)) only[go_sem,c95B0,c95D2,r3,r4,rh]
  obtain ⟨P3,ef,p3,_⟩:=p2.free
  refine ⟨Same.refl _ _,Ret.mono (pfree_ok (x:Int) q16 (by rw [List.length_set]; omega) ⟨by omega,by omega⟩) ?_⟩
  rw [ef]
  rintro _ w17 ⟨rfl,q17⟩
  have q17:Pgr e P3 W0 w17 F _ I:=q17
  have r6:=q17.rules 7 rfl
  simp (disch:=first|omega|exact zF rfl|exact zG rfl|exact fun h=>h|(simp only[zA,zB,zC,zD,bytesW];omega)) only[go_sem,c95B0,c95D2,r6]
  refine ⟨fun j hj=>?_,hret _ _ _ ?_ (q17.set 7 rfl 0 (.int .i64 0))⟩
  ·rcases hj with rfl | rfl | rfl
   ·exact (q17.bk 2 rfl).trans (q16.bk 2 rfl).symm
   ·exact (q17.bk 4 rfl).trans (q16.bk 4 rfl).symm
   ·exact (q17.bk 5 rfl).trans (q16.bk 5 rfl).symm
  rw [List.concat_eq_append,List.append_assoc]
  exact p3
end
open Go Go.Ann Go.RowKit Go.WideShapes
section
variable {W0 w:World} {F:Nat→Prop} {L:List Res} {I:List Inv} {e:En} {P:List (List UInt8)} {X:List (Nat × List Ent)} {E:List Nat} {n hb:Nat} {i:Int}
theorem HpN.nxtLt{mx:Nat}{A B:List (Nat × List Ent)}{a:Nat}{es:List Ent}(h:HpN mx n i P (A++(a,es)::B) E):nxtN P a<n:=by
 have hlk:=h.root
 rw [List.map_append,List.map_cons,LinkN.app] at hlk
 obtain ⟨c,l1,l2,l3⟩:=hlk
 have:=l3.head
 cases B with
 | nil =>
  have h1:0=nxtN P a:=this
  have:=h.big
  omega
 | cons y B =>
  have h1:y.1=nxtN P a:=this
  have hmy:y∈A++(a,es)::y::B:=by simp
  have:=h.rng _ (h.memX (page_sub hmy _ List.mem_cons_self))
  omega
abbrev UnK(e:En)(W0:World)(F:Nat→Prop)(L:List Res)(I:List Inv)(A B:List (Nat × List Ent))(n hb:Nat)(i:Int)(u:Value)(w':World):Prop:=∃ P',u=.int .i64 0∧Pgr e P' W0 w' F (hpB hb e i::L) I∧HpN e.mx n i P' (A++B) []
theorem unlink_ok{A B:List (Nat × List Ent)}{a:Nat}{es:List Ent}(h:Pgr e P W0 w F (hpB hb e i::L) I)(hp:HpN e.mx n i P (A++(a,es)::B) [])(he:entsG es=[]) :
  Ret Tryz.prog 95 [.pointer (some ⟨hb,0,none⟩),.int .i64 a,.int .i64 (nxtN P a)] w (UnK e W0 F L I A B n hb i):=by
 have hidx:=hp.idx
 have hbig1:=hp.big
 have hlen1:=hp.given.len
 refine ent95 _ _ _ _ _ ?_
 simp (disch:=first|omega|exact zF rfl|exact zG rfl|exact fun h=>h|(simp only[zA,zB,zC,zD,bytesW];omega)) only[go_sem,c95B0]
 have s3:=(((h.box #[.pointer (some ⟨hb,0,none⟩)] 27).box #[.int .i64 a] 3).box #[.int .i64 (nxtN P a)] 3).box #[.int .i64 0] 30
 simp only [World.size_alloc] at s3
 generalize w.heap.size=b at s3 ⊢
 generalize (((w.alloc (.cells #[.pointer (some ⟨hb,0,none⟩)] 27)).alloc (.cells #[.int .i64 a] 3)).alloc (.cells #[.int .i64 (nxtN P a)] 3)).alloc (.cells #[.int .i64 0] 30)=w3 at s3 ⊢
 have q3:Pgr e P W0 w3 F (hpB hb e i::unR hb b a (nxtN P a) L) I:=by
  have h1:=s3.perm (List.perm_middle (l₁:=[_,_,_,_]))
  refine h1.perm (List.Perm.cons _ ?_)
  exact (List.reverse_perm [Res.blk (b+1+1+1) #[.int .i64 0] 30,.blk (b+1+1) #[.int .i64 (nxtN P a)] 3,.blk (b+1) #[.int .i64 a] 3,.blk b #[.pointer (some ⟨hb,0,none⟩)] 27]).symm.append_right L
 clear s3 h
 refine Ret.mono (hpages_ok (hb:=hb) w3) ?_
 rintro _ w11 ⟨rfl,rfl⟩
 have s11:=(q3.box #[.pointer (some ⟨hb,0,none⟩)] 27).perm (List.Perm.swap _ _ _)
 generalize w3.heap.size=pb at s11 ⊢
 generalize w3.alloc (.cells #[.pointer (some ⟨hb,0,none⟩)] 27)=w11 at s11 ⊢
 simp (disch:=first|omega|exact zF rfl|exact zG rfl|exact fun h=>h|(simp only[zA,zB,zC,zD,bytesW];omega)) only[go_sem,c95B0]
 obtain ⟨X,hX⟩:∃ X,X=A++(a,es)::B:=⟨_,rfl⟩
 have hAl:A.length<X.length:=by rw [hX,List.length_append,List.length_cons]; omega
 rw [← hX] at hp
 refine PagesW (C:=X.map Prod.fst) (τ:=Option (List (List UInt8))) (pf:=fun t=>match t with | none=>P | some P'=>P') (R:=fun t=>unR hb b a (nxtN P a) L)
  (J:=fun k t=>t=none∧k≤A.length) (H:=fun t=>∃ P',t=some P'∧HpN e.mx n i P' (A++B) [])
  (t0:=none) rfl rfl (by omega) hidx hp.root ?_ ?_ ?_ (fun _ _ h=>by rw [h.1]) ⟨rfl,Nat.zero_le _⟩ s11 ?_ ?_ ?_
 ·intro c hc
  obtain ⟨x,hx,rfl⟩:=List.mem_map.1 hc
  have hm:=hp.memX (page_sub hx _ List.mem_cons_self)
  exact ⟨by have:=hp.rng _ hm; omega,hp.chk hm⟩
 ·rw [List.length_map]
  have h1:=hp.few
  have h2:=pagesX_le X
  rw [List.length_append] at h1
  omega
 ·intro c hc
  obtain ⟨x,hx,rfl⟩:=List.mem_map.1 hc
  have:=hp.rng _ (hp.memX (page_sub hx _ List.mem_cons_self)); omega
 ·rintro k t' w' l D o o2 hk ⟨rfl,hka⟩ q12
  rw [List.length_map] at hk
  have ecur:curN (X.map Prod.fst) k=X[k].1:=by
   unfold curN
   rw [List.getD_eq_getElem?_getD,List.getElem?_map,List.getElem?_eq_getElem hk]; rfl
  rw [ecur]
  generalize hxk:X[k]=xk at *
  obtain ⟨x,ex⟩:=xk
  simp (disch:=first|omega|exact zF rfl|exact zG rfl|exact fun h=>h|(simp only[zA,zB,zC,zD,bytesW];omega)) only[go_sem]
  refine ⟨(k,none),q12,fun w13 q13=>?_⟩
  refine unlink_round q13 hp hX he hk hka hxk ?_ ?_
  ·intro ρ w' hlt q
   exact ⟨(k+1,none),⟨rfl,rfl,by omega⟩,q⟩
  ·intro ρ P' w' hp' q
   exact ⟨(0,some P'),⟨P',rfl,hp'⟩,q⟩
 ·rintro t' D w' ⟨rfl,hka⟩ q12
  rw [List.length_map] at hka
  omega
 ·rintro t' D w' ⟨P',ht',hv⟩ q12
  subst ht'
  have q12:Pgr e P' W0 w' F (.obj D defO::hpB hb e i::.blk pb #[.pointer (some ⟨hb,0,none⟩)] 27::unR hb b a (nxtN P a) L) I:=q12
  have q13:=q12.putOb 0 rfl (.deferred none)
  have r6:=q13.rules 6 rfl
  have hD:=q12.ob 0 rfl
  simp (disch:=first|omega|exact zF rfl|exact zG rfl|exact fun h=>h|(simp only[zA,zB,zC,zD,bytesW];omega)) only[go_sem,c95B0,hD,r6]
  exact ⟨P',rfl,q13.sub (.cons _ (.cons_cons _ (.cons _ (.cons _ (.cons _ (.cons _ (.cons _ (List.Sublist.refl _)))))))),hv⟩
abbrev DelK(e:En)(W0:World)(F:Nat→Prop)(L:List Res)(I:List Inv)(X:List (Nat × List Ent))(n hb:Nat)(i:Int)(id:Int)(u:Value)(w':World):Prop:=∃ P' X',Pgr e P' W0 w' F (hpB hb e i::L) I∧HpN e.mx n i P' X' []∧Real X' ∧
 ((∃ (k:Nat) (r:List UInt8),id=k∧(recsX X).Perm ((k,r)::recsX X')∧u=.int .i64 0)∨(NotAt X id∧X'=X∧u=.int .i64 6))
theorem hdel_ok(id:Int)(h:Pgr e P W0 w F (hpB hb e i::L) I)(hp:HpN e.mx n i P X [])(hr:Real X)(hid:I64 id) :
  Ret Tryz.prog 35 [.pointer (some ⟨hb,0,none⟩),.int .i64 id] w (DelK e W0 F L I X n hb i id):=by
 have hbig:=hp.big
 have hlen:=hp.given.len
 refine ent35 _ _ _ _ ?_
 simp (disch:=first|omega|exact zF rfl|exact zG rfl|exact fun h=>h|(simp only[zA,zB,zC,zD,bytesW];omega)) only[go_sem,c35S6]
 refine Ret.mono (find_ok id h hp hid) ?_
 rintro _ w2 ⟨h2,⟨v,⟨A,B,a,es,j,hX,eid,hj,h0,rfl⟩,rfl⟩ | ⟨hno,rfl⟩⟩
 case inr =>
  simp (disch:=first|omega|exact zF rfl|exact zG rfl|exact fun h=>h|(simp only[zA,zB,zC,zD,bytesW];omega)) only[go_sem,c35S6]
  exact ⟨P,X,h2,hp,hr,.inr ⟨hno,rfl,rfl⟩⟩
 subst hX
 have hxm:(a,es)∈A++(a,es)::B:=by simp
 have hem:es[j]∈es:=List.getElem_mem hj
 obtain ⟨r,hrec⟩:=hr _ hxm _ hem h0
 obtain ⟨pgk,okk⟩:=hp.pg _ hxm
 have hok:=okk _ hem
 have hpg:=hp.ghost hj h0 (stub_le hok)
 have hrecs:=recs_del (A:=A) (B:=B) (a:=a) hj hrec
 have hma:=hp.memX (page_sub hxm _ List.mem_cons_self)
 have hra:=hp.rng _ hma
 simp only at hra hma
 have hjl:j<256:=by have:=pgk.few; rw [List.length_map] at this; simp only at this; omega
 have em:id.tmod 256=((j:Nat):Int):=by
  rw [eid,Int.tmod_eq_emod_of_nonneg (by omega)]
  omega
 -- behind the release
 have tail:∀ (P2:List (List UInt8)) (w3:World),Pgr e P2 W0 w3 F (hpB hb e i::L) I→HpN e.mx n i P2 (A++(a,es.set j (.gh es[j].stub))::B) []→resN P2 a=resN P a→nxtN P2 a=nxtN P a →
   W Tryz.prog (c35S6 ()) [(0,.pointer (some ⟨hb,0,none⟩)),(1,.int .i64 id),(5,.int .i64 a),(6,.int .i64 (nxtN P a)),(7,.string (ofL (resN P a)))] w3 (finQ Tryz.prog [.tmp 4] (DelK e W0 F L I (A++(a,es)::B) n hb i id)):=by
  intro P2 w3 h3 p3 er en
  simp (disch:=first|omega|exact zF rfl|exact zG rfl|exact fun h=>h|(simp only[zA,zB,zC,zD,bytesW];omega)) only[go_sem,c35S6]
  rw [em]
  refine Ret.mono (Slt.slot_del_ok _ (j:Int) _ w3 pgk) ?_
  have hjs:j<(stubs es).length:=by rw [stubs_len]; exact hj
  have hsj:(stubs es)[j]=es[j].stub:=by simp [stubs]
  have hgp:(Slt.getP (stubs es) (j:Int)).2=true:=by
   rw [Slt.getP_at,List.getElem?_eq_getElem hjs]
   simp only [hsj]
   exact decide_eq_true h0
  have hl252:(resN P a).length=252:=by
   unfold resN
   rw [List.length_drop,List.getD_eq_getElem?_getD,List.getElem?_eq_getElem (by omega),Option.getD_some,hp.full _ (List.getElem_mem _)]
  have hl252:(resN P (a,es).1).length=252:=hl252
  have hf:Slt.Fits (resN P (a,es).1).length (Slt.trimP ((stubs es).set j [])):=Slt.set_fits pgk hjs (by
   have:=pgk.takes
   simp only [List.length_nil]
   exact Nat.le_trans (by exact this) (Nat.le_add_right _ _))
  rw [hl252,← delE_stub] at hf
  have htr:Slt.Trim (stubs (delE j es)):=by rw [delE_stub]; exact Slt.trim_trim _
  have hpg2:Slt.Pg (Slt.textP 252 (stubs (delE j es))) (stubs (delE j es)):=Slt.text_pg hf htr
  have hs2:(Slt.textP 252 (stubs (delE j es))).length=252:=Slt.textP_len hf
  have ets:Slt.textP (resN P (a,es).1).length (Slt.trimP ((stubs es).set j []))=Slt.textP 252 (stubs (delE j es)):=by rw [hl252,delE_stub]
  obtain ⟨s,hse⟩:∃ s,s=Slt.textP 252 (stubs (delE j es)):=⟨_,rfl⟩
  rw [← hse] at hpg2 hs2 ets
  have hval:(if (Slt.getP ((a,es).2.map Ent.stub) (j:Int)).2=true then Value.tuple #[.string (ofL (Slt.textP (resN P a).length (Slt.trimP (((a,es).2.map Ent.stub).set (j:Int).toNat [])))),.bool true] else .tuple #[.string (ofL (resN P a)),.bool false])=.tuple #[.string (ofL s),.bool true]:=by
   have hgp':(Slt.getP ((a,es).2.map Ent.stub) (j:Int)).2=true:=hgp
   rw [if_pos hgp',← ets]; rfl
  rw [hval]
  rintro _ w4 ⟨rfl,b4⟩
  have h4:=h3.below b4
  have hgn:entsG (es.set j (.gh es[j].stub))=entsG (es.set j (.gh es[j].stub)):=rfl
  have hgd:=entsG_del (k:=j) (es:=es.set j (.gh es[j].stub)) (by rw [List.length_set]; exact hj)
  rw [del_ghost,List.getElem_set_self] at hgd
  have hgd:(entsG (delE j es)).Perm (entsG (es.set j (.gh es[j].stub))):=hgd
  have hck:=p3.chk (p3.memX (page_sub (x:=(a,es.set j (.gh es[j].stub))) (by simp) a List.mem_cons_self))
  have hlen2:=p3.given.len
  simp (disch:=first|omega|exact zF rfl|exact zG rfl|exact fun h=>h|(simp only[zA,zB,zC,zD,bytesW];omega)) only[go_sem,c35S6]
  refine Ret.mono (Slt.count_ok s _ w4 hpg2) ?_
  rintro _ w5 ⟨rfl,b5⟩
  have h5:=h4.below b5
  by_cases hc:(Slt.itemsTo (stubs (delE j es)) (stubs (delE j es)).length).length=0
  ·rw [hc]
   simp (disch:=first|omega|exact zF rfl|exact zG rfl|exact fun h=>h|(simp only[zA,zB,zC,zD,bytesW];omega)) only[go_sem,c35S6]
   have hde:=del_empty hc
   have hge:entsG (es.set j (.gh es[j].stub))=[]:=by
    rw [hde] at hgd
    exact (List.perm_nil.1 hgd.symm)
   rw [← en]
   refine Ret.mono (unlink_ok h5 p3 hge) ?_
   rintro _ w6 ⟨P6,rfl,h6,p6⟩
   simp (disch:=first|omega|exact zF rfl|exact zG rfl|exact fun h=>h|(simp only[zA,zB,zC,zD,bytesW];omega)) only[go_sem,c35S6]
   have hrd:=hr.del (j:=j)
   rw [hde] at hrecs hrd
   rw [recs_gone] at hrecs
   exact ⟨P6,A++B,h6,p6,hrd.out,.inl ⟨_,r,eid,hrecs,rfl⟩⟩
  ·have hc':(0:Int)<((Slt.itemsTo (stubs (delE j es)) (stubs (delE j es)).length).length:Int):=by omega
   simp (disch:=first|omega|exact zF rfl|exact zG rfl|exact fun h=>h|(simp only[zA,zB,zC,zD,bytesW];omega)) only[go_sem,c35S6,hc']
   have hnl:=hp.nxtLt
   refine Ret.mono (hwriteS_ok (a:Int) (nxtN P a) s h5 (by omega) ⟨by omega,by omega⟩ hck (by omega) (by omega) (by have:=(hp.low _ hma).2; omega)) ?_
   rintro _ w6 ⟨rfl,h6⟩
   rw [fillR_id hs2,Int.toNat_natCast] at h6
   have key:=p3.setX (E':=[]) (es':=delE j es) (s:=s) (by simpa using hgd.symm) hpg2 hs2 (fun x hx=>?_) (del_some hc)
   ·rw [en] at key
    simp (disch:=first|omega|exact zF rfl|exact zG rfl|exact fun h=>h|(simp only[zA,zB,zC,zD,bytesW];omega)) only[go_sem,c35S6]
    exact ⟨_,_,h6,key,hr.del,.inl ⟨_,r,eid,hrecs,rfl⟩⟩
   ·have hx2:x∈delE j (es.set j (.gh es[j].stub)):=by rw [del_ghost]; exact hx
    rcases del_mem hx2 with rfl | hx2
    ·trivial
    ·exact (p3.pg (a,es.set j (.gh es[j].stub)) (by simp)).2 x hx2
 simp (disch:=first|omega|exact zF rfl|exact zG rfl|exact fun h=>h|(simp only[zA,zB,zC,zD,bytesW];omega)) only[go_sem]
 generalize es[j]=t at h0 hrec hok hpg tail ⊢
 cases t with
 | no=>cases hrec
 | gh s=>cases hrec
 | sh r' =>
  refine Ret.mono (release_short r' h2 (by have:=hok.2; omega)) ?_
  rintro _ w3 ⟨rfl,h3⟩
  simp (disch:=first|omega|exact zF rfl|exact zG rfl|exact fun h=>h|(simp only[zA,zB,zC,zD,bytesW];omega)) only[go_sem]
  exact tail P w3 h3 hpg rfl rfl
 | lo r' g =>
  refine Ret.mono (release_ok r' g h2 hpg hok.2.2 hok.2.1) ?_
  rintro _ w3 ⟨P3,rfl,h3,p3,sm⟩
  simp (disch:=first|omega|exact zF rfl|exact zG rfl|exact fun h=>h|(simp only[zA,zB,zC,zD,bytesW];omega)) only[go_sem]
  have hmem:a∈pagesX (A++(a,es.set j (.gh (Ent.stub (.lo r' g))))::B):=page_sub (x:=(a,es.set j (.gh (Ent.stub (.lo r' g))))) (by simp) a List.mem_cons_self
  exact tail P3 w3 h3 p3 (sm.res hmem) (sm.nxt hmem)
end
open Go Go.Ann Go.RowKit Go.WideShapes
theorem Pgr.bel{e:En}{P:List (List UInt8)}{W0 w:World}{F:Nat→Prop}{L:List Res}{I:List Inv}(h:Pgr e P W0 w F L I):Below W0.heap.size W0 w:=by
 obtain ⟨rv,l,s,h1,h2⟩:=h
 exact h1.bel
section
variable {W0 w:World} {F:Nat→Prop} {L:List Res} {I:List Inv} {e:En} {P:List (List UInt8)} {X:List (Nat × List Ent)} {E:List Nat} {n hb:Nat} {i:Int}
theorem hpN_start{mx n:Nat}{i:Int}(h3:3≤n)(h4:n≤500)(hm:3≤mx∧mx≤n)(hi:0≤i∧i<16):HpN mx n i (fmtP (List.replicate n zeroB)) [] []:=by
 have hg:=fmt_given (P:=List.replicate n zeroB) (n:=n) List.length_replicate h3 h4
 have hfull:∀ p∈fmtP (List.replicate n zeroB),p.length=256:=by
  unfold fmtP
  refine full_set (full_set (fun p hp=>?_) (filledL_length (by rw [fmtU_len]; exact Nat.le_refl _))) (filledL_length (by decide))
  rw [List.eq_of_mem_replicate hp]; exact List.length_replicate
 have hn:∀ a,a∈([]:List Nat)++pagesX []→False:=fun a ha=>by simp [pagesX] at ha
 refine { given:=hg.ext fun j hj=>by simp [pagesX],low:=fun a ha=>(hn a ha).elim,nd:=List.Pairwise.nil,full:=hfull,idx:=hi,big:=⟨h3,h4,hm⟩,root:=?_,pg:=fun x hx=>(by simp at hx),some:=fun x hx=>(by simp at hx) }
 show rootM _ i=0
 rw [rootM_at hi.1]
 have:rootB (fmtP (List.replicate n zeroB))=filledL []:=by
  unfold fmtP
  exact rootB_set (by rw [List.length_set,List.length_replicate]; omega)
 rw [this]
 exact rootAt_zero _
theorem keys_one{l:List (Nat × List UInt8)}(h:(l.map Prod.fst).Nodup){k:Nat}{r s:List UInt8}(hr:(k,r)∈l)(hs:(k,s)∈l):r=s:=by
 induction l with
 | nil=>cases hr
 | cons x l ih =>
  rw [List.map_cons,List.nodup_cons] at h
  rcases List.mem_cons.1 hr with h1 | h1
  ·rcases List.mem_cons.1 hs with h2 | h2
   ·rw [← h1] at h2; cases h2; rfl
   ·exact absurd (List.mem_map.2 ⟨_,h2,by rw [← h1]⟩) h.1
  ·rcases List.mem_cons.1 hs with h2 | h2
   ·exact absurd (List.mem_map.2 ⟨_,h1,by rw [← h2]⟩) h.1
   ·exact ih h.2 h1 h2
theorem hget_some{k:Nat}{r:List UInt8}(h:Pgr e P W0 w F (hpB hb e i::L) I)(hp:HpN e.mx n i P X E)(hr:Real X)(hm:(k,r)∈recsX X) :
  Ret Tryz.prog 32 [.pointer (some ⟨hb,0,none⟩),.int .i64 k] w fun u w'=>u=.tuple #[.string (ofL r),.int .i64 0]∧Pgr e P W0 w' F (hpB hb e i::L) I:=by
 have hi:=hp.ids hm
 have hbig:=hp.big
 refine Ret.mono (hget_ok (k:Int) h hp hr ⟨by omega,by omega⟩) ?_
 rintro _ w2 ⟨h2,⟨k2,r2,e2,m2,rfl⟩ | ⟨hno,_⟩⟩
 ·obtain rfl:k2=k:=by omega
  rw [keys_one hp.keys hm m2]
  exact ⟨rfl,h2⟩
 ·exact absurd rfl (notAt_rec hno hm)
theorem hdel_some{k:Nat}{r:List UInt8}(h:Pgr e P W0 w F (hpB hb e i::L) I)(hp:HpN e.mx n i P X [])(hr:Real X)(hm:(k,r)∈recsX X) :
  Ret Tryz.prog 35 [.pointer (some ⟨hb,0,none⟩),.int .i64 k] w fun u w'=>∃ P' X',u=.int .i64 0∧Pgr e P' W0 w' F (hpB hb e i::L) I∧HpN e.mx n i P' X' []∧Real X'∧(recsX X).Perm ((k,r)::recsX X'):=by
 have hi:=hp.ids hm
 have hbig:=hp.big
 refine Ret.mono (hdel_ok (k:Int) h hp hr ⟨by omega,by omega⟩) ?_
 rintro _ w2 ⟨P',X',h2,p2,real2,⟨k2,r2,e2,m2,rfl⟩ | ⟨hno,_,_⟩⟩
 ·obtain rfl:k2=k:=by omega
  rw [keys_one hp.keys hm (m2.mem_iff.2 List.mem_cons_self)]
  exact ⟨P',X',rfl,h2,p2,real2,m2⟩
 ·exact absurd rfl (notAt_rec hno hm)
theorem opened_ok(h:Pgr e P W0 w F L I)(hp:HpN e.mx n i P X E):Ret Tryz.prog 11 [.pointer (some ⟨e.p,0,none⟩),.int .i64 i] w fun u w'=>∃ hb,u=.pointer (some ⟨hb,0,none⟩)∧Pgr e P W0 w' F (hpB hb e i::L) I:=by
 have hidx:=hp.idx
 have hbig:=hp.big
 have hlen:=hp.given.len
 have key:Ret Tryz.prog 45 [.pointer (some ⟨e.p,0,none⟩),.int .i64 i] w fun u w'=>∃ hb,u=.tuple #[.pointer (some ⟨hb,0,none⟩),.int .i64 0]∧Pgr e P W0 w' F (hpB hb e i::L) I:=by
  refine ent45 _ _ _ _ ?_
  simp (disch:=first|omega|exact zF rfl|exact zG rfl|exact fun h=>h|(simp only[zA,zB,zC,zD,bytesW];omega)) only[go_sem]
  refine Ret.mono (proot_ok i h (by omega) ⟨by omega,by omega⟩) ?_
  rw [rootN_eq hidx]
  rintro _ w2 ⟨rfl,h2⟩
  simp (disch:=first|omega|exact zF rfl|exact zG rfl|exact fun h=>h|(simp only[zA,zB,zC,zD,bytesW];omega)) only[go_sem]
  refine bdW_built (cells:=#[.pointer (some ⟨e.p,0,none⟩),.int .i64 i]) (by kernel_rfl) ?_
  have s4:=h2.box #[.pointer (some ⟨e.p,0,none⟩),.int .i64 i] 104
  simp (disch:=first|omega|exact zF rfl|exact zG rfl|exact fun h=>h|(simp only[zA,zB,zC,zD,bytesW];omega)) only[go_sem]
  exact ⟨_,rfl,s4⟩
 refine ent11 _ _ _ _ ?_
 simp (disch:=first|omega|exact zF rfl|exact zG rfl|exact fun h=>h|(simp only[zA,zB,zC,zD,bytesW];omega)) only[go_sem]
 refine Ret.mono key ?_
 rintro _ w2 ⟨hb,rfl,h2⟩
 simp (disch:=first|omega|exact zF rfl|exact zG rfl|exact fun h=>h|(simp only[zA,zB,zC,zD,bytesW];omega)) only[go_sem]
 exact ⟨hb,rfl,h2⟩
theorem long_ok(m:Nat)(w:World)(h:m≤100000):Ret Tryz.prog 62 [.int .i64 m] w fun u w'=>u=.string (ofL (List.replicate m 0))∧Below w.heap.size w w':=by
 refine ent62 _ _ _ ?_
 simp (disch:=first|omega|exact zF rfl|exact zG rfl|exact fun h=>h|(simp only[zA,zB,zC,zD,bytesW];omega)) only[go_sem]
 refine msW_one ty181mkI rfl (by omega) (by omega) (by omega) (by omega) ?_
 rw [Int.toNat_natCast,Slt.zeros_bytes]
 have s2:=(St.start (W0:=w)).box (Slt.bytesC (List.replicate m 0)) 5
 have r2:=s2.rules 0 rfl
 simp (disch:=first|omega|exact zF rfl|exact zG rfl|exact fun h=>h|(simp only[zA,zB,zC,zD,bytesW];omega)) only[go_sem]
 refine ⟨List.replicate m 0,by simp,fun j b hb=>?_,rfl,s2.bel⟩
 rw [Addr.add_lit,Nat.zero_add,r2.1]
 simp only [Slt.bytesC,List.getElem?_toArray,List.getElem?_map,hb,Option.map_some]
theorem hawake_ok(w:World):Ret Tryz.prog 14 [] w fun u w'=>u=.bool true∧Below w.heap.size w w':=by
 refine ent14 _ _ ?_
 simp (disch:=first|omega|exact zF rfl|exact zG rfl|exact fun h=>h|(simp only[zA,zB,zC,zD,bytesW];omega)) only[go_sem]
 refine Ret.mono (begun25_ok (n:=30) 30 (St.start (W0:=w)) (by decide) (by decide) (by decide)) ?_
 rintro _ w2 ⟨e,rfl,_,_,hmx,h2⟩
 have p2:=hpN_start (mx:=e.mx) (n:=30) (i:=9) (by decide) (by decide) (by rw [hmx]; decide) (by decide)
 generalize fmtP (List.replicate 30 zeroB)=P2 at h2 p2
 simp (disch:=first|omega|exact zF rfl|exact zG rfl|exact fun h=>h|(simp only[zA,zB,zC,zD,bytesW];omega)) only[go_sem]
 refine Ret.mono (opened_ok h2 p2) ?_
 rintro _ w3 ⟨hb,rfl,h3⟩
 simp (disch:=first|omega|exact zF rfl|exact zG rfl|exact fun h=>h|(simp only[zA,zB,zC,zD,bytesW];omega)) only[go_sem]
 have hlen2:=p2.given.len
 have hr2:=p2.room
 refine Ret.mono (proom_ok h3 (by omega)) ?_
 rintro _ w4 ⟨rfl,h4⟩
 simp (disch:=first|omega|exact zF rfl|exact zG rfl|exact fun h=>h|(simp only[zA,zB,zC,zD,bytesW];omega)) only[go_sem]
 refine Ret.mono (long_ok 1000 w4 (by decide)) ?_
 rintro _ w5 ⟨rfl,b5⟩
 have h5:=h4.below b5
 obtain ⟨r1,hr1⟩:∃ r,r=List.replicate 1000 (0:UInt8):=⟨_,rfl⟩
 have hl1:r1.length=1000:=by rw [hr1,List.length_replicate]
 rw [← hr1]
 have hn1:¬ (r1=[]∨2000<r1.length):=by
  rintro (hc | hc)
  ·rw [hc] at hl1; cases hl1
  ·omega
 have hm1:moreN r1=4:=by unfold moreN chainN; rw [hl1]; decide
 have hroom2:roomN P2=28:=by rw [hr2]; rfl
 simp (disch:=first|omega|exact zF rfl|exact zG rfl|exact fun h=>h|(simp only[zA,zB,zC,zD,bytesW];omega)) only[go_sem]
 refine Ret.mono (hput_ok r1 h5 p2 (by omega) (.inl hmx)) ?_
 rintro _ w6 ⟨P6,X6,h6,p6,⟨hc,_,_⟩ | ⟨_,hc,_,_⟩ | ⟨_,_,a,rfl,put6⟩⟩
 ·exact absurd hc hn1
 ·omega
 have x6:=put6.recs
 have real6:=put6.real (fun x hx=>by cases hx)
 have pg6:=put6.pages
 have room6:=p6.room
 have ha:=p6.ids (x6.mem_iff.2 List.mem_cons_self)
 simp (disch:=first|omega|exact zF rfl|exact zG rfl|exact fun h=>h|(simp only[zA,zB,zC,zD,bytesW];omega)) only[go_sem]
 refine Ret.mono (hput_ok [97,98] h6 p6 (by decide) (.inl hmx)) ?_
 rintro _ w7 ⟨P7,X7,h7,p7,⟨hc,_,_⟩ | ⟨_,hc,_,_⟩ | ⟨_,_,b,rfl,put7⟩⟩
 ·exact absurd hc (by decide)
 ·have e1:moreN [97,98]=0:=rfl
  rw [hm1] at pg6
  rw [e1,room6,List.length_append] at hc
  have e2:(pagesX ([]:List (Nat × List Ent))).length=0:=rfl
  rw [e2] at pg6
  simp only [List.length_nil] at hc
  omega
 have x7:=put7.recs.trans (x6.cons _)
 have real7:=put7.real real6
 have k7:=p7.keys
 have hb7:=p7.ids (x7.mem_iff.2 List.mem_cons_self)
 have ma:(a,r1)∈recsX X7:=x7.mem_iff.2 (List.mem_cons_of_mem _ List.mem_cons_self)
 have mb:(b,[97,98])∈recsX X7:=x7.mem_iff.2 List.mem_cons_self
 simp (disch:=first|omega|exact zF rfl|exact zG rfl|exact fun h=>h|(simp only[zA,zB,zC,zD,bytesW];omega)) only[go_sem]
 refine Ret.mono (hget_some h7 p7 real7 ma) ?_
 rintro _ w8 ⟨rfl,h8⟩
 simp (disch:=first|omega|exact zF rfl|exact zG rfl|exact fun h=>h|(simp only[zA,zB,zC,zD,bytesW];omega)) only[go_sem]
 refine Ret.mono (hget_some h8 p7 real7 mb) ?_
 rintro _ w9 ⟨rfl,h9⟩
 simp (disch:=first|omega|exact zF rfl|exact zG rfl|exact fun h=>h|(simp only[zA,zB,zC,zD,bytesW];omega)) only[go_sem]
 refine Ret.mono (long_ok 1000 w9 (by decide)) ?_
 rintro _ w10 ⟨rfl,b10⟩
 rw [← hr1]
 have h10:=h9.below b10
 simp (disch:=first|omega|exact zF rfl|exact zG rfl|exact fun h=>h|(simp only[zA,zB,zC,zD,bytesW];omega)) only[go_sem]
 refine Ret.mono (hdel_some h10 p7 real7 ma) ?_
 rintro _ w11 ⟨P11,X11,rfl,h11,p11,real11,x11⟩
 have mb2:(b,[97,98])∈recsX X11:=by
  rcases List.mem_cons.1 (x11.mem_iff.1 mb) with hc | hc
  ·cases hc; exact absurd hl1 (by decide)
  ·exact hc
 simp (disch:=first|omega|exact zF rfl|exact zG rfl|exact fun h=>h|(simp only[zA,zB,zC,zD,bytesW];omega)) only[go_sem]
 refine Ret.mono (hdel_some h11 p11 real11 mb2) ?_
 rintro _ w12 ⟨P12,X12,rfl,h12,p12,real12,x12⟩
 have l7:=x7.length_eq
 have l11:=x11.length_eq
 have l12:=x12.length_eq
 have hl0:(recsX X12).length=0:=by
  have e0:(recsX ([]:List (Nat × List Ent))).length=0:=rfl
  simp only [List.length_cons] at l7 l11 l12
  omega
 have hX12:=p12.none real12 (List.eq_nil_of_length_eq_zero hl0)
 subst hX12
 have hlen12:=p12.given.len
 simp (disch:=first|omega|exact zF rfl|exact zG rfl|exact fun h=>h|(simp only[zA,zB,zC,zD,bytesW];omega)) only[go_sem]
 refine Ret.mono (proom_ok h12 (by omega)) ?_
 rintro _ w13 ⟨rfl,h13⟩
 have er:roomN P12=roomN P2:=by rw [p12.room,p2.room]
 rw [er]
 simp (disch:=first|omega|exact zF rfl|exact zG rfl|exact fun h=>h|(simp only[zA,zB,zC,zD,bytesW];omega)) only[go_sem]
 exact h13.bel
end
open Go Go.Ann Go.RowKit Go.WideShapes
def natE(n:Nat):List Value:=[.int .i64 n]
theorem nat_one(n:Nat):∀ u∈natE n,u.oneCell'=true:=by intro u hu; rw [natE,List.mem_singleton] at hu; subst hu; rfl
theorem nats_set:∀ (l:List Nat) (i:Nat) (r:Nat),(l.set i r).flatMap natE=(l.flatMap natE).set i (.int .i64 r)
 | [],_,_=>rfl
 | a::l,0,r=>rfl
 | a::l,i+1,r=>by
  rw [List.set_cons_succ,List.flatMap_cons,List.flatMap_cons,nats_set l i r]; rfl
def Mid(i k:Nat)(zs:List Nat):Prop:=∃ A B x R,zs=A++x::(B++R)∧A.length=k∧A.length+B.length=i∧(A++B).Pairwise (·≤·)∧∀ b∈B,x≤b
theorem Mid.start{i:Nat}{zs:List Nat}(h:i<zs.length)(hs:(zs.take i).Pairwise (·≤·)):Mid i i zs :=
 ⟨zs.take i,[],zs[i],zs.drop (i+1),by rw [List.nil_append,List.getElem_cons_drop,List.take_append_drop],by rw [List.length_take]; omega,by rw [List.length_take,List.length_nil]; omega,by rw [List.append_nil]; exact hs,fun b hb=>by cases hb⟩
theorem Mid.stop{i k:Nat}{zs:List Nat}(h:Mid i k zs)(hi:i<zs.length)(hk:k=0∨∃ a b,zs[k - 1]?=some a∧zs[k]?=some b∧a≤b):(zs.take (i+1)).Pairwise (·≤·):=by
 obtain ⟨A,B,x,R,rfl,h1,h2,h3,h4⟩:=h
 have e:(A++x::(B++R)).take (i+1)=A++x::B:=by
  have:A++x::(B++R)=(A++x::B)++R:=by simp
  rw [this]
  exact List.take_left' (by rw [List.length_append,List.length_cons]; omega)
 rw [e,List.pairwise_append]
 rw [List.pairwise_append] at h3
 refine ⟨h3.1,List.pairwise_cons.2 ⟨h4,h3.2.1⟩,fun a ha b hb=>?_⟩
 have hax:a≤x:=by
  rcases hk with hk | ⟨y,z,hy,hz,hyz⟩
  ·have:A=[]:=List.eq_nil_of_length_eq_zero (by omega)
   subst this; cases ha
  ·rcases List.eq_nil_or_concat A with rfl | ⟨A',y',rfl⟩
   ·cases ha
   ·rw [List.concat_eq_append] at *
    simp only [List.length_append,List.length_singleton] at h1
    subst h1
    rw [Nat.add_sub_cancel,List.append_assoc,List.getElem?_append_right (Nat.le_refl _),Nat.sub_self] at hy
    rw [List.append_assoc,List.getElem?_append_right (Nat.le_succ _)] at hz
    simp at hy hz
    subst hy hz
    rcases List.mem_append.1 ha with ha | ha
    ·have:=(List.pairwise_append.1 h3.1).2.2 a ha y' (by simp)
     omega
    ·simp at ha; omega
 rcases List.mem_cons.1 hb with rfl | hb
 ·exact hax
 ·have:=h4 b hb
  omega
theorem Mid.swap{i k:Nat}{zs:List Nat}{a b:Nat}(h:Mid i (k+1) zs)(ha:zs[k]?=some a)(hb:zs[k+1]?=some b)(hab:b<a):Mid i k ((zs.set (k+1) a).set k b)∧((zs.set (k+1) a).set k b).Perm zs:=by
 obtain ⟨A,B,x,R,rfl,h1,h2,h3,h4⟩:=h
 rcases List.eq_nil_or_concat A with rfl | ⟨A',y,rfl⟩
 ·cases h1
 rw [List.concat_eq_append] at *
 simp only [List.length_append,List.length_singleton,Nat.add_right_cancel_iff] at h1 h2
 subst h1
 rw [List.append_assoc,List.getElem?_append_right (Nat.le_refl _),Nat.sub_self] at ha
 rw [List.append_assoc,List.getElem?_append_right (Nat.le_succ _)] at hb
 simp at ha hb
 subst ha hb
 have e:((A'++[y]++x::(B++R)).set (A'.length+1) y).set A'.length x=A'++x::((y::B)++R):=by
  rw [List.append_assoc,List.set_append_right _ _ (Nat.le_succ _),List.set_append_right _ _ (Nat.le_refl _),Nat.sub_self,show A'.length+1 - A'.length=1 by omega]
  rfl
 rw [e]
 refine ⟨⟨A',y::B,x,R,rfl,rfl,by rw [List.length_cons]; omega,?_,fun c hc=>?_⟩,?_⟩
 ·rw [List.append_assoc] at h3; exact h3
 ·rcases List.mem_cons.1 hc with rfl | hc
  ·exact Nat.le_of_lt hab
  ·exact h4 c hc
 ·have:(x::((y::B)++R)).Perm ([y]++x::(B++R)):=by
   show (x::y::(B++R)).Perm (y::x::(B++R))
   exact List.Perm.swap _ _ _
  rw [List.append_assoc]
  exact this.append_left A'
theorem Mid.ends{i k:Nat}{zs:List Nat}(h:Mid i k zs):k≤i∧k<zs.length:=by
 obtain ⟨A,B,x,R,rfl,h1,h2,_⟩:=h
 refine ⟨by omega,?_⟩
 rw [List.length_append,List.length_cons]; omega
section
variable {W0 w:World} {F:Nat→Prop} {L:List Res} {I:List Inv}
theorem hsort_ok{v:Value}{xs:List Nat}(h:St W0 w F (.row v 3 1 xs.length (xs.flatMap natE)::L) I)(hl:xs.length≤1000000) :
  Ret Tryz.prog 103 [v] w fun _ w'=>∃ ys:List Nat,ys.Perm xs∧ys.Pairwise (·≤·)∧St W0 w' F (.row v 3 1 ys.length (ys.flatMap natE)::L) I:=by
 obtain ⟨va,vc,rfl,hvc⟩:=own_slice (h.row 0 rfl)
 refine ent103 _ _ _ ?_
 simp (disch:=first|omega|exact zF rfl|exact zG rfl|exact fun h=>h|(simp only[zA,zB,zC,zD,bytesW];omega)) only[go_sem,c103L0]
 refine W_loopU (fun s:Nat × List Nat=>[(2,.int .i64 s.1)]) (fun s w'=>1≤s.1∧s.1≤max 1 xs.length∧s.2.Perm xs∧(s.2.take s.1).Pairwise (·≤·)∧St W0 w' F (.row (.slice va xs.length vc) 3 1 xs.length (s.2.flatMap natE)::L) I) (fun s=>xs.length - s.1) (1,xs) rfl ⟨Nat.le_refl _,by omega,List.Perm.refl _,?_,h⟩ ?_
 ·cases xs with
  | nil=>exact List.Pairwise.nil
  | cons x xs=>rw [List.take_succ_cons,List.take_zero]; exact List.pairwise_singleton _ _
 rintro ⟨i,ys⟩ w2 ⟨h1,h2,hp,hs,s2⟩
 simp only at h1 h2 hp hs s2
 have hlen:=hp.length_eq
 by_cases hlt:i<xs.length
 case neg =>
  have hlt':¬ (i:Int)<xs.length:=by omega
  simp (disch:=first|omega|exact zF rfl|exact zG rfl|exact fun h=>h|(simp only[zA,zB,zC,zD,bytesW];omega)) only[go_sem,c103L0,c103L1,c103L1,hlt']
  refine ⟨ys,hp,?_,by rw [hlen]; exact s2⟩
  rwa [List.take_of_length_le (by omega)] at hs
 have hlt':(i:Int)<xs.length:=by omega
 simp (disch:=first|omega|exact zF rfl|exact zG rfl|exact fun h=>h|(simp only[zA,zB,zC,zD,bytesW];omega)) only[go_sem,c103L1,c103L1,hlt']
 have hpos:0<xs.length:=by omega
 obtain ⟨g,rfl⟩:∃ g,va=some ⟨g,0,none⟩:=by
  rcases (s2.row 0 rfl).2 with ⟨e,h0⟩ | ⟨g,cap,cur,e,_⟩
  ·simp only [Value.slice.injEq] at e; omega
  ·simp only [Value.slice.injEq] at e; exact ⟨g,e.1⟩
 refine W_loopU (fun s:Nat × List Nat=>[(3,.int .i64 s.1)]) (fun s w'=>Mid i s.1 s.2∧s.2.Perm xs∧St W0 w' F (.row (.slice (some ⟨g,0,none⟩) xs.length vc) 3 1 xs.length (s.2.flatMap natE)::L) I) (fun s=>s.1) (i,ys) rfl ⟨Mid.start (zs:=ys) (by omega) hs,hp,s2⟩ ?_
 rintro ⟨k,zs⟩ w3 ⟨hm,hpz,s3⟩
 simp only at hm hpz s3
 have hlz:=hpz.length_eq
 obtain ⟨hki,hkz⟩:=hm.ends
 have hrd:RdS w3 1 natE (.slice (some ⟨g,0,none⟩) xs.length vc) zs:=RdS.of_own' (s3.row 0 rfl) zs hlz.symm rfl
 cases k with
 | zero =>
  simp (disch:=first|omega|exact zF rfl|exact zG rfl|exact fun h=>h|(simp only[zA,zB,zC,zD,bytesW];omega)) only[go_sem,c103L0,c103L1,c103L0]
  refine c103draw0 ?_
  simp (disch:=first|omega|exact zF rfl|exact zG rfl|exact fun h=>h|(simp only[zA,zB,zC,zD,bytesW];omega)) only[go_sem,c103L0,c103L1,c103D0]
  exact ⟨⟨by omega,by omega⟩,(i+1,zs),rfl,⟨by simp only; omega,by simp only; omega,hpz,hm.stop (by omega) (.inl rfl),s3.drew⟩,by simp only; omega⟩
 | succ k =>
  have t1:((k:Int)+1).toNat=k+1:=by omega
  have t2:((k:Int)+1 - 1).toNat=k:=by omega
  have e1:w3.cell? ⟨g,((k:Int)+1).toNat,none⟩=some (.int .i64 zs[k+1]):=by
   have:=RdS.at1 (e1:=fun n:Nat=>.int .i64 n) hrd hkz
   rw [Addr.add_lit,Nat.zero_add] at this
   rw [t1]; exact this
  have e2:w3.cell? ⟨g,((k:Int)+1 - 1).toNat,none⟩=some (.int .i64 zs[k]):=by
   have:=RdS.at1 (e1:=fun n:Nat=>.int .i64 n) hrd (show k<zs.length by omega)
   rw [Addr.add_lit,Nat.zero_add] at this
   rw [t2]; exact this
  have hk':(0:Int)<(k:Int)+1:=by omega
  have hka:(k:Int)+1 - 1=k:=by omega
  simp (disch:=first|omega|exact zF rfl|exact zG rfl|exact fun h=>h|(simp only[zA,zB,zC,zD,bytesW];omega)) only[go_sem,c103L0,c103L1,c103L0]
  refine c103draw0 ?_
  simp (disch:=first|omega|exact zF rfl|exact zG rfl|exact fun h=>h|(simp only[zA,zB,zC,zD,bytesW];omega)) only[go_sem,c103L0,c103L1,c103D0,hk',e1,e2]
  refine ⟨⟨by omega,by omega⟩,⟨by omega,by omega⟩,⟨by omega,by omega⟩,fun hlt2=>?_,fun hge=>?_⟩
  ·refine c103draw1 (Same (fun b=>b=g) _) (Same.refl _ _) ?_
   have s4:=s3.drew.drew
   have e3:w3.cell? ⟨g,k,none⟩=some (.int .i64 zs[k]):=by rw [t2] at e2; exact e2
   have fz:∀ j,w3.frozen? ⟨g,j,none⟩=false:=by
    rcases (s3.row 0 rfl).2 with ⟨e,h0⟩ | ⟨g',cap,cur,e,_,hblk,_⟩
    ·simp only [Value.slice.injEq,reduceCtorEq,false_and] at e
    ·simp only [Value.slice.injEq,Option.some.injEq,Addr.mk.injEq] at e
     obtain ⟨⟨rfl,_⟩,_⟩:=e
     exact (show Blk w3 g cur 3 from hblk).rules.2.1
   simp (disch:=first|omega|exact zF rfl|exact zG rfl|exact fun h=>h|(simp only[zA,zB,zC,zD,bytesW];omega)) only[go_sem,c103L0,c103L1,c103D1,hka,e1,e2,e3,fz]
   obtain ⟨hm2,hp2⟩:=hm.swap (a:=zs[k]) (b:=zs[k+1]) (List.getElem?_eq_getElem (by omega)) (List.getElem?_eq_getElem hkz) (by omega)
   have s6:=((s3.put 0 rfl (k+1) (.int .i64 zs[k])).put 0 rfl k (.int .i64 zs[k+1])).drew.drew
   simp only [List.set_cons_zero] at s6
   rw [← nats_set,← nats_set] at s6
   rw [t1]
   exact ⟨⟨by omega,by omega⟩,⟨by omega,by omega⟩,⟨by omega,by omega⟩,⟨by omega,by omega⟩,Same.refl _ _,⟨by omega,by omega⟩,⟨by omega,by omega⟩,⟨by omega,by omega⟩,(k,(zs.set (k+1) zs[k]).set k zs[k+1]),rfl,⟨hm2,hp2.trans hpz,s6⟩,Nat.lt_succ_self k⟩
  ·refine ⟨⟨by omega,by omega⟩,(i+1,zs),rfl,⟨by simp only; omega,by simp only; omega,hpz,hm.stop (by omega) (.inr ⟨zs[k],zs[k+1],List.getElem?_eq_getElem (by omega),List.getElem?_eq_getElem hkz,by omega⟩),s3.drew⟩,by simp only; omega⟩
end
open Go Go.Ann Go.RowKit Go.WideShapes
theorem items_ids{a:Nat}{es:List Ent}(hr:∀ e∈es,e.stub≠[]→∃ r,e.rec?=some r):∀ k,k≤es.length→(Slt.itemsTo (stubs es) k).map (fun x=>256 * a+x.1)=(recsE a 0 (es.take k)).map Prod.fst
 | 0,_=>by simp [Slt.itemsTo,recsE]
 | k+1,hk=>by
  have ih:=items_ids (a:=a) hr k (by omega)
  have hkl:k<es.length:=by omega
  have hks:k<(stubs es).length:=by rw [stubs_len]; exact hkl
  have es1:(stubs es)[k]=es[k].stub:=by simp [stubs]
  rw [List.take_succ_eq_append_getElem hkl,recsE_append,List.map_append,← ih]
  have hl:(es.take k).length=k:=by rw [List.length_take]; omega
  by_cases h0:es[k].stub=[]
  ·rw [Slt.itemsTo_none hks (by rw [es1]; exact h0)]
   simp only [recsE,recE,(nil_no h0).1,List.append_nil,List.map_nil]
  ·rw [Slt.itemsTo_some hks (by rw [es1]; exact h0),List.map_append]
   obtain ⟨r,hrec⟩:=hr _ (List.getElem_mem hkl) h0
   simp only [recsE,recE,hrec,hl,List.append_nil,List.map_cons,List.map_nil,Nat.zero_add]
theorem page_ids{a:Nat}{es:List Ent}(hr:∀ e∈es,e.stub≠[]→∃ r,e.rec?=some r):(Slt.itemsTo (stubs es) (stubs es).length).map (fun x=>256 * a+x.1)=(recsE a 0 es).map Prod.fst:=by
 rw [stubs_len]
 have:=items_ids (a:=a) hr es.length (Nat.le_refl _)
 rwa [List.take_length] at this
def idsX(X:List (Nat × List Ent)):List Nat:=(recsX X).map Prod.fst
theorem idsX_append(A B:List (Nat × List Ent)):idsX (A++B)=idsX A++idsX B:=by
 unfold idsX recsX
 rw [List.flatMap_append,List.map_append]
def costR(l:List (Nat × List UInt8)):Nat:=(l.map fun x=>moreN x.2+1).sum
theorem costR_append(a b:List (Nat × List UInt8)):costR (a++b)=costR a+costR b:=by unfold costR; rw [List.map_append,List.sum_append]
theorem cost_ents{P:List (List UInt8)}{a:Nat}:∀ {es:List Ent} {k:Nat},(∀ e∈es,EntOk P e)→(entsG es).length+(recsE a k es).length≤costR (recsE a k es)
 | [],k,_=>by simp [entsG,recsE,costR]
 | e::es,k,h=>by
  have ih:=cost_ents (a:=a) (es:=es) (k:=k+1) fun x hx=>h x (List.mem_cons_of_mem _ hx)
  have he:=h e List.mem_cons_self
  rw [recsE,costR_append,List.length_append]
  have e1:entsG (e::es)=e.pgs++entsG es:=rfl
  rw [e1,List.length_append]
  have:e.pgs.length+(recE a k e).length≤costR (recE a k e):=by
   cases e with
   | no=>simp [Ent.pgs,recE,Ent.rec?,costR]
   | gh s=>simp [Ent.pgs,recE,Ent.rec?,costR]
   | sh r=>simp [Ent.pgs,recE,Ent.rec?,costR]
   | lo r g =>
    have hg:=spell_len he.2.2
    have hl:=he.1
    simp only [Ent.pgs,recE,Ent.rec?,costR,List.length_singleton,List.map_cons,List.map_nil,List.sum_cons,List.sum_nil]
    unfold moreN
    rw [if_neg (by omega),hg]
    omega
  omega
theorem HpN.cost{mx n:Nat}{i:Int}{P:List (List UInt8)}{X:List (Nat × List Ent)}{E:List Nat}(h:HpN mx n i P X E)(hr:Real X):(pagesX X).length≤costR (recsX X):=by
 have hp:=h.pg
 have hs:=h.some
 clear h
 induction X with
 | nil=>exact Nat.zero_le _
 | cons x X ih =>
  have ih:=ih (fun y hy=>hr y (List.mem_cons_of_mem _ hy)) (fun y hy=>hp y (List.mem_cons_of_mem _ hy)) (fun y hy=>hs y (List.mem_cons_of_mem _ hy))
  show (x.1::entsG x.2++pagesX X).length≤costR (recsE x.1 0 x.2++recsX X)
  rw [costR_append,List.length_append,List.length_cons]
  have h1:=cost_ents (a:=x.1) (k:=0) (hp x List.mem_cons_self).2
  have h2:0<(recsE x.1 0 x.2).length:=by
   obtain ⟨e,he,h0⟩:=hs x List.mem_cons_self
   obtain ⟨r,hrec⟩:=hr x List.mem_cons_self e he h0
   obtain ⟨j,hj,rfl⟩:=List.mem_iff_getElem.1 he
   exact List.length_pos_of_mem (recsE_mem.2 ⟨j,hj,hrec,rfl⟩)
  omega
theorem costR_le{l:List (Nat × List UInt8)}{c:Nat}(h:∀ x∈l,moreN x.2≤c):costR l≤(c+1) * l.length:=by
 induction l with
 | nil=>exact Nat.zero_le _
 | cons x l ih =>
  have h1:=ih fun y hy=>h y (List.mem_cons_of_mem _ hy)
  have h2:=h x List.mem_cons_self
  show moreN x.2+1+costR l≤_
  rw [List.length_cons,Nat.mul_add]
  omega
theorem rec_len{mx n:Nat}{i:Int}{P:List (List UInt8)}{X:List (Nat × List Ent)}{E:List Nat}(h:HpN mx n i P X E){x:Nat × List UInt8}(hx:x∈recsX X):x.2≠[]∧x.2.length≤2000:=by
 obtain ⟨id,r⟩:=x
 obtain ⟨y,hy,j,hj,h1,h2⟩:=recsX_mem.1 hx
 have hok:=(h.pg y hy).2 _ (List.getElem_mem hj)
 generalize y.2[j]=t at h1 hok
 cases t with
 | no=>cases h1
 | gh s=>cases h1
 | sh r' =>
  obtain rfl:r'=r:=by simpa [Ent.rec?] using h1
  exact ⟨hok.1,by have:=hok.2; simp only; omega⟩
 | lo r' g =>
  obtain rfl:r'=r:=by simpa [Ent.rec?] using h1
  exact ⟨by rintro rfl; have:=hok.1; simp at this,hok.2.1⟩
theorem sorted_one{a b:List Nat}(hp:a.Perm b)(ha:a.Pairwise (·≤·))(hb:b.Pairwise (· < ·)):a=b:=by
 refine List.Perm.eq_of_pairwise (le:=(·≤·)) (fun x y _ _ h1 h2=>Nat.le_antisymm h1 h2) ha (hb.imp Nat.le_of_lt) hp
def withR:List (Nat × List UInt8)→(Nat × List UInt8)→List (Nat × List UInt8)
 | [],r=>[r]
 | x::l,r=>if r.1<x.1 then r::x::l else x::withR l r
theorem withR_perm:∀ (l:List (Nat × List UInt8)) (r:Nat × List UInt8),(withR l r).Perm (r::l)
 | [],r=>List.Perm.refl _
 | x::l,r=>by
  rw [withR]
  split
  ·exact List.Perm.refl _
  ·exact ((withR_perm l r).cons x).trans (List.Perm.swap _ _ _)
def SortR(l:List (Nat × List UInt8)):Prop:=l.Pairwise fun a b=>a.1<b.1
theorem withR_sort{l:List (Nat × List UInt8)}{r:Nat × List UInt8}(h:SortR l)(hn:r.1 ∉ l.map Prod.fst):SortR (withR l r):=by
 induction l with
 | nil=>exact List.pairwise_singleton _ _
 | cons x l ih =>
  have h1:=List.pairwise_cons.1 h
  rw [List.map_cons,List.mem_cons,not_or] at hn
  rw [withR]
  split
  ·rename_i hlt
   refine List.pairwise_cons.2 ⟨fun y hy=>?_,h⟩
   rcases List.mem_cons.1 hy with rfl | hy
   ·exact hlt
   ·exact Nat.lt_trans hlt (h1.1 y hy)
  ·rename_i hlt
   refine List.pairwise_cons.2 ⟨fun y hy=>?_,ih h1.2 hn.2⟩
   rcases List.mem_cons.1 ((withR_perm l r).mem_iff.1 hy) with rfl | hy
   ·have:=hn.1; omega
   ·exact h1.1 y hy
def withoutR(l:List (Nat × List UInt8))(id:Int):List (Nat × List UInt8):=l.filter fun x=>decide ((x.1:Int)≠id)
theorem withoutR_sort{l:List (Nat × List UInt8)}{id:Int}(h:SortR l):SortR (withoutR l id):=List.Pairwise.sublist List.filter_sublist h
theorem SortR.nodup{l:List (Nat × List UInt8)}(h:SortR l):(l.map Prod.fst).Nodup:=by
 unfold List.Nodup
 rw [List.pairwise_map]
 exact h.imp fun h e=>by omega
theorem withoutR_perm{l:List (Nat × List UInt8)}{k:Nat}{r:List UInt8}(h:(l.map Prod.fst).Nodup)(hm:(k,r)∈l):l.Perm ((k,r)::withoutR l k):=by
 induction l with
 | nil=>cases hm
 | cons x l ih =>
  rw [List.map_cons,List.nodup_cons] at h
  rcases List.mem_cons.1 hm with rfl | hm
  ·have:withoutR ((k,r)::l) k=l:=by
    unfold withoutR
    rw [List.filter_cons,if_neg (by simp)]
    refine List.filter_eq_self.2 fun y hy=>?_
    rw [decide_eq_true_eq]
    intro hc
    exact h.1 (List.mem_map.2 ⟨y,hy,by simp only; omega⟩)
   rw [this]
  ·have hne:x.1≠k:=fun e=>h.1 (List.mem_map.2 ⟨(k,r),hm,e.symm⟩)
   have:withoutR (x::l) k=x::withoutR l k:=by
    unfold withoutR
    rw [List.filter_cons,if_pos (by rw [decide_eq_true_eq]; omega)]
   rw [this]
   exact ((ih h.2 hm).cons x).trans (List.Perm.swap _ _ _)
theorem withoutR_none{l:List (Nat × List UInt8)}{id:Int}(h:∀ x∈l,(x.1:Int)≠id):withoutR l id=l:=by
 unfold withoutR
 exact List.filter_eq_self.2 fun x hx=>by rw [decide_eq_true_eq]; exact h x hx
open Go Go.Ann Go.RowKit Go.WideShapes
section
variable {W0 w:World} {F:Nat→Prop} {L:List Res} {I:List Inv} {e:En} {P:List (List UInt8)}
theorem PagesG{τ:Type}{hb pb:Nat}{i:Int}{C:List Nat}{pf:τ→List (List UInt8)}{R:τ→List Res}{J:Nat→τ→Prop}{H:τ→Prop}{t0:τ}{g:Operand}{ps:List Nat}{A:Cmd}{B:Nat→Cmd}{ρ:Env}{Q:Post}
  (hg:ev ρ g=some (.func (.func 119) #[] #[.pointer (some ⟨pb,0,none⟩)])) (hps:ps.length=2) (jc:Code) (je:Exit) (hj:JumpOk jc je) (hB:∀ l,(B l).inL l) (h3:3≤P.length) (hi:0≤i∧i<16)
  (hC:LinkN P (rootM P i) C 0) (hc:∀ c∈C,c≠0∧chkN P c=0) (hl:C.length≤500) (hlt:∀ c∈C,c<100000) (hJ:∀ k t,J k t→pf t=P) (j0:J 0 t0)
  (s0:Pgr e P W0 w F (hpB hb e i::.blk pb #[.pointer (some ⟨hb,0,none⟩)] 27::R t0) I)
  (hbody:∀ k t w' l D o (r2:Loop),k<C.length→J k t→Pgr e (pf t) W0 w' F ([.obj l o,.obj D defO]++hpB hb e i::.blk pb #[.pointer (some ⟨hb,0,none⟩)] 27::R t) I →
   W Tryz.prog A (zipE ps [.int .i64 (prevN C k),.int .i64 (curN C k)] (lowE ρ)) w' fun x ρ1 w1=>match x with
    | .normal=>∃ s1:Nat × τ,Pgr e (pf s1.2) W0 w1 F ([.obj l o,.obj D defO]++hpB hb e i::.blk pb #[.pointer (some ⟨hb,0,none⟩)] 27::R s1.2) I ∧
     ∀ w2,Pgr e (pf s1.2) W0 w2 F ([.obj l (.loop r2),.obj D defO]++hpB hb e i::.blk pb #[.pointer (some ⟨hb,0,none⟩)] 27::R s1.2) I→W Tryz.prog (B l) ρ1 w2 fun x2 _ w3=>match x2 with
      | .normal=>∃ s2:Nat × τ,(s2.1=k+1∧J s2.1 s2.2)∧Pgr e (pf s2.2) W0 w3 F ([.obj l (.loop r2),.obj D defO]++hpB hb e i::.blk pb #[.pointer (some ⟨hb,0,none⟩)] 27::R s2.2) I
      | x2=>x2=je∧∃ s2:Nat × τ,H s2.2∧Pgr e (pf s2.2) W0 w3 F ([.obj l (.loop r2),.obj D defO]++hpB hb e i::.blk pb #[.pointer (some ⟨hb,0,none⟩)] 27::R s2.2) I
    | _=>False)
  (hdone:∀ t D w',J C.length t→Pgr e P W0 w' F (.obj D defO::hpB hb e i::.blk pb #[.pointer (some ⟨hb,0,none⟩)] 27::R t) I→Q .normal ((D+1000000,undef)::ρ) w')
  (hret:∀ t D w',H t→Pgr e (pf t) W0 w' F (.obj D defO::hpB hb e i::.blk pb #[.pointer (some ⟨hb,0,none⟩)] 27::R t) I→Q je ((D+1000000,undef)::ρ) w') :
  RangeG Tryz.prog g ps A B ρ w Q:=by
 obtain ⟨R',hR'⟩:∃ R':τ→List Res,R'=fun t=>hpB hb e i::.blk pb #[.pointer (some ⟨hb,0,none⟩)] 27::R t:=⟨_,rfl⟩
 have er:∀ t,R' t=hpB hb e i::.blk pb #[.pointer (some ⟨hb,0,none⟩)] 27::R t:=fun t=>by rw [hR']
 refine RangeG_free (S:=hpS e W0 F I pf R') hpS_ok (fun x:Nat × Nat=>[.int .i64 x.1,.int .i64 x.2]) (0,t0)
  (fun s x=>s.1<C.length∧J s.1 s.2∧x=(prevN C s.1,curN C s.1)) (fun s _ s'=>s'.1=s.1+1∧J s'.1 s'.2) (fun _ _ s'=>H s'.2) (fun s=>s.1=C.length∧J s.1 s.2) (fun s=>H s.2) hg (by kernel_rfl) ?_ (fun _=>hps.symm) jc je hj hB ?_ ?_ ?_ ?_
 ·show Pgr e (pf t0) W0 w F ([]++R' t0) I
  rw [hJ _ _ j0,er]; exact s0
 ·intro fv l D o o' w1 hf s1
  have s1:Pgr e (pf t0) W0 w1 F ([.obj l o,.obj D defO]++R' t0) I:=s1
  rw [hJ _ _ j0,er] at s1
  refine Ret.mono (pages1_ok (o':=o') (H:=H) (pf:=pf) fv w1 h3 hi hC hc hl hlt hJ ?_ j0 s1) ?_
  ·intro k t w' hk jk h
   refine callW_mono (hf (prevN C k,curN C k) (k,t) w' ⟨hk,jk,rfl⟩ ?_) ?_
   ·show Pgr e (pf t) W0 w' F ([.obj l o,.obj D defO]++R' t) I
    rw [hJ _ _ jk,er]; exact h
   ·rintro v w'' (⟨rfl,s',⟨e1,j1⟩,h1⟩ | ⟨rfl,s',e1,h1⟩)
    ·have h1:Pgr e (pf s'.2) W0 w'' F ([.obj l o,.obj D defO]++R' s'.2) I:=h1
     rw [hJ _ _ j1,er] at h1
     exact .inl ⟨rfl,s'.2,e1 ▸ j1,h1⟩
    ·have h1:Pgr e (pf s'.2) W0 w'' F ([.obj l o',.obj D defO]++R' s'.2) I:=h1
     rw [er] at h1
     exact .inr ⟨rfl,s'.2,e1,h1⟩
  ·rintro _ w' (⟨t,jt,h1⟩ | ⟨t,jt,h1⟩)
   ·refine .inl ⟨(C.length,t),⟨rfl,jt⟩,?_⟩
    show Pgr e (pf t) W0 w' F ([.obj l o,.obj D defO]++R' t) I
    rw [hJ _ _ jt,er]; exact h1
   ·refine .inr ⟨(0,t),jt,?_⟩
    show Pgr e (pf t) W0 w' F ([.obj l o',.obj D defO]++R' t) I
    rw [er]; exact h1
 ·rintro x ⟨k,t⟩ w' l D o r2 ⟨hk,jk,rfl⟩ h
  subst hR'
  exact hbody k t w' l D o r2 hk jk h
 ·rintro ⟨k,t⟩ D w' ⟨e1,jk⟩ h
  have e1:k=C.length:=e1
  subst e1
  have jk:J C.length t:=jk
  have h:Pgr e (pf t) W0 w' F ([.obj D defO]++R' t) I:=h
  rw [hJ _ _ jk,er] at h
  exact hdone t D w' jk h
 ·rintro ⟨k,t⟩ D w' jk h
  have h:Pgr e (pf t) W0 w' F ([.obj D defO]++R' t) I:=h
  rw [er] at h
  exact hret t D w' jk h
end
open Go Go.Ann Go.RowKit Go.WideShapes
section
variable {W0 w:World} {F:Nat→Prop} {L:List Res} {I:List Inv} {e:En} {P:List (List UInt8)} {X:List (Nat × List Ent)} {E:List Nat} {n hb:Nat} {i:Int}
theorem Pgr.row(h:Pgr e P W0 w F L I)(i:Nat){v:Value}{t sz n:Nat}{xs:List Value}(hi:L[i]?=some (.row v t sz n xs)):w.ownsRow W0.heap.size t sz v n xs:=by
 obtain ⟨A,s,k⟩:=h.lift
 have hl:=(List.getElem?_eq_some_iff.1 hi).1
 exact s.row i (by rw [List.getElem?_append_left hl]; exact hi)
theorem items_len(L:List (List UInt8)):∀ k,(Slt.itemsTo L k).length≤k
 | 0=>Nat.le_refl _
 | k+1=>by
  have:=items_len L k
  rw [Slt.itemsTo,List.length_append]
  split
  ·split
   ·simp; omega
   ·simp; omega
  ·simp; omega
def idsR(hb b b3:Nat)(v:Value)(xs:List Nat)(ab:Option (Nat × Nat))(L:List Res):List Res :=
 .blk b #[.pointer (some ⟨hb,0,none⟩)] 27::.blk (b+1) #[.slice none 0 0] 48::.blk b3 #[v] 48::.row v 3 1 xs.length (xs.flatMap natE)::(match ab with | some (x,a)=>[.blk x #[.int .i64 a] 3] | none=>[])++L
theorem ids_round{l D b b3 pb x a:Nat}{es:List Ent}{v:Value}{xs:List Nat}{r2:Loop}{w13:World}{Q:Post}
  (q13:Pgr e P W0 w13 F ([.obj l (.loop r2),.obj D defO]++hpB hb e i::.blk pb #[.pointer (some ⟨hb,0,none⟩)] 27::idsR hb b b3 v xs (some (x,a)) L) I)
  (p1:HpN e.mx n i P X E) (hr:Real X) (hxm:(a,es)∈X) (hxs:xs.length≤500000)
  (hcont:∀ ρ w' v',Pgr e P W0 w' F ([.obj l (.loop r2),.obj D defO]++hpB hb e i::.blk pb #[.pointer (some ⟨hb,0,none⟩)] 27::idsR hb b b3 v' (xs++(recsE a 0 es).map Prod.fst) none L) I→Q .normal ρ w') :
  W Tryz.prog (c91B1 l ()) [(1,.pointer (some ⟨b,0,none⟩)),(2,.pointer (some ⟨b+1,0,none⟩)),(3,.pointer (some ⟨b3,0,none⟩)),(5,.pointer (some ⟨x,0,none⟩))] w13 Q:=by
 have hidx:=p1.idx
 have hbig1:=p1.big
 have hlen1:=p1.given.len
 obtain ⟨pgk,okk⟩:=p1.pg _ hxm
 have hmk:=p1.memX (page_sub hxm _ List.mem_cons_self)
 have hrk:=p1.rng _ hmk
 have hck:=p1.chk hmk
 simp only at pgk okk hmk hrk hck
 have hids:=page_ids (a:=a) (hr _ hxm)
 have hfew:=pgk.few
 rw [List.length_map] at hfew
 have r1:=q13.rules 4 rfl
 have r5:=q13.rules 8 rfl
 simp (disch:=first|omega|exact zF rfl|exact zG rfl|exact fun h=>h|(simp only[zA,zB,zC,zD,bytesW];omega)) only[go_sem,c91B0,c91B1,c91B1,r1,r5]
 refine Ret.mono (hread_ok _ (q13.perm List.perm_middle) (by omega) ⟨by omega,by omega⟩ hck) ?_
 rintro _ w14 ⟨rfl,q14⟩
 have q14:=q14.perm List.perm_middle.symm
 have e2:(P.getD ((a:Nat):Int).toNat []).drop 4=resN P a:=rfl
 rw [e2]
 simp (disch:=first|omega|exact zF rfl|exact zG rfl|exact fun h=>h|(simp only[zA,zB,zC,zD,bytesW];omega)) only[go_sem,c91B0,c91B1]
 refine Ret.mono (Slt.all_ok (resN P a) w14) ?_
 rintro _ w15 ⟨rfl,rfl⟩
 simp (disch:=first|omega|exact zF rfl|exact zG rfl|exact fun h=>h|(simp only[zA,zB,zC,zD,bytesW];omega)) only[go_sem,c91B0,c91B1]
 have q15:=(q14.box #[.string (ofL (resN P a))] 9).perm (List.perm_middle (l₁:=[_,_,_,_]) (a:=Res.blk w14.heap.size #[.string (ofL (resN P a))] 9)).symm
 generalize w14.heap.size=sb at q15 ⊢
 generalize w14.alloc (.cells #[.string (ofL (resN P a))] 9)=w15 at q15 ⊢
 obtain ⟨items,hit⟩:∃ t,t=Slt.itemsTo (stubs es) (stubs es).length:=⟨_,rfl⟩
 rw [← hit] at hids
 -- what the inner rounds keep
 obtain ⟨S,hS⟩:∃ S:(List (Nat × List UInt8)) × Value→List Res→World→Prop,S=fun s O w=>Pgr e P W0 w F (O++([.obj l (.loop r2),.obj D defO,hpB hb e i,.blk pb #[.pointer (some ⟨hb,0,none⟩)] 27,.blk sb #[.string (ofL (resN P a))] 9]++idsR hb b b3 s.2 (xs++s.1.map fun y=>256 * a+y.1) (some (x,a)) L)) I:=⟨_,rfl⟩
 have hSok:RgS S:=by
  subst hS
  refine ⟨fun {s l o Rr w} h=>Pgr.ob h 0 rfl,fun {s l o Rr w} o2 h=>Pgr.putOb h 0 rfl o2,fun {s r Rr w} h=>Pgr.sub h (List.sublist_cons_self ..),fun {s Rr w} o h=>?_⟩
  obtain ⟨A,s1,k⟩:=Pgr.lift h
  exact k _ _ _ (s1.lay o)
 refine RangeN_free (r0:=r2) hSok (fun y:Nat × List UInt8=>[.int .i64 y.1,.string (ofL y.2)]) ([],v) (fun s y=>∃ t,s.1++y::t=items) (fun s y s'=>s'.1=s.1++[y]) (fun _ _ _=>False) (fun s=>s.1=items) (fun _=>False) rfl (by kernel_rfl) ?_ (fun _=>rfl) .ret .ret jump_ret (q15.ob 0 rfl) ?_ ?_ ?_ ?_
 ·subst hS
  show Pgr e P W0 w15 F _ I
  simp only [List.map_nil,List.append_nil]
  exact q15
 ·intro fv l' o o' w1 hf s1
  refine Ret.mono (Slt.all1_ok fv sb (resN P a) _ (fun pre w'=>∃ v,S (pre,v) [.obj l' o] w') w1 pgk ?_ ?_ ?_ ⟨v,s1⟩) ?_
  ·rintro pre w' ⟨v',h'⟩
   subst hS
   exact (Pgr.rules h' 5 rfl).1 0
  ·rintro pre w' w'' ⟨v',h'⟩ hb'
   subst hS
   exact ⟨v',Pgr.below h' hb'⟩
  ·rintro pre y w' ⟨v',h'⟩ hy
   refine callW_mono (hf y (pre,v') w' (by rw [hit]; exact hy) h') ?_
   rintro u w'' (⟨rfl,s',hs',h2⟩ | ⟨_,s',hs',_⟩)
   ·obtain ⟨p',v2⟩:=s'
    simp only at hs'
    subst hs'
    exact ⟨rfl,v2,h2⟩
   ·exact hs'.elim
  ·rintro _ w' ⟨v',h'⟩
   exact .inl ⟨(_,v'),hit.symm ▸ rfl,h'⟩
 ·rintro y ⟨pre,v'⟩ w' l' o r3 hy h'
  simp (disch:=first|omega|exact zF rfl|exact zG rfl|exact fun h=>h|(simp only[zA,zB,zC,zD,bytesW];omega)) only[go_sem,c91B1]
  refine ⟨(pre,v'),h',fun w2 h2=>?_⟩
  subst hS
  have h2:Pgr e P W0 w2 F ([.obj l' (.loop r3)]++([.obj l (.loop r2),.obj D defO,hpB hb e i,.blk pb #[.pointer (some ⟨hb,0,none⟩)] 27,.blk sb #[.string (ofL (resN P a))] 9]++idsR hb b b3 v' (xs++pre.map fun y=>256 * a+y.1) (some (x,a)) L)) I:=h2
  obtain ⟨va,vc,rfl,_⟩:=own_slice (h2.row 9 rfl)
  simp (disch:=first|omega|exact zF rfl|exact zG rfl|exact fun h=>h|(simp only[zA,zB,zC,zD,bytesW];omega)) only[go_sem,c91B0,c91B1,c91B0]
  refine c91draw0 (Same (fun k=>k=b3) _) (Same.refl _ _) ?_
  have h3:=h2.drew
  generalize w2.drew=w3 at h3 ⊢
  have r3:=h3.rules 8 rfl
  have r5:=h3.rules 10 rfl
  have hyl:y.1≤127:=by
   obtain ⟨t,ht⟩:=hy
   have hm:y∈items:=by rw [← ht]; simp
   rw [hit] at hm
   have:=Slt.itemsTo_mem hm
   rw [stubs_len] at this
   omega
  simp (disch:=first|omega|exact zF rfl|exact zG rfl|exact fun h=>h|(simp only[zA,zB,zC,zD,bytesW];omega)) only[go_sem,c91B0,c91B1,c91D0,r3,r5]
  refine ⟨Same.refl _ _,Ret.mono (place_ok' (a:Int) (y.1:Nat) w3 (by omega) (by omega) (by omega) (by omega)) ?_⟩
  rintro _ w4 ⟨rfl,rfl⟩
  have eid:256 * (a:Int)+((y.1:Nat):Int)=((256 * a+y.1:Nat):Int):=by omega
  rw [eid]
  obtain ⟨id,hid⟩:∃ id,id=256 * a+y.1:=⟨_,rfl⟩
  rw [← hid]
  simp (disch:=first|omega|exact zF rfl|exact zG rfl|exact fun h=>h|(simp only[zA,zB,zC,zD,bytesW];omega)) only[go_sem,c91B0,c91B1,c91D0]
  refine ⟨Same.refl _ _,bsW_ones ty48mkI rfl rfl (by decide) (by decide) (by intro v hv; rw [List.mem_singleton] at hv; subst hv; rfl) ?_⟩
  simp (disch:=first|omega|exact zF rfl|exact zG rfl|exact fun h=>h|(simp only[zA,zB,zC,zD,bytesW];omega)) only[go_sem,c91B0,c91B1,c91D0]
  obtain ⟨A,st,back⟩:=h3.lift
  have hx:Rd (w4.alloc (.cells #[.int .i64 (id:Nat)] 3)) 1 (.slice (some ⟨w4.heap.size,0,none⟩) 1 1) 1 (natE id):=rd_new (n:=1) (cs:=#[.int .i64 (id:Nat)]) rfl
  have hb3:b3<w4.heap.size:=(h3.bk 8 rfl).lt
  have hpl:pre.length≤127:=by
   obtain ⟨t,ht⟩:=hy
   have h1:=items_len (stubs es) (stubs es).length
   rw [← hit,← ht,stubs_len,List.length_append] at h1
   simp only at h1
   omega
  have hxl:(xs++pre.map fun y=>256 * a+y.1).length≤600000:=by rw [List.length_append,List.length_map]; omega
  have sal:=st.alloc' (.cells #[.int .i64 (id:Nat)] 3)
  refine ⟨?_,sal.append 9 rfl ty48mkI rfl (by decide) hx (nat_one id) (by omega) (by omega) ?_⟩
  ·intro j hj
   subst hj
   exact (sal.blk 8 rfl).trans (h3.bk 8 rfl).symm
  intro v6 w6 s6 c6
  obtain ⟨va6,vc6,rfl,_⟩:=own_slice (s6.row 9 rfl)
  have r3:=s6.rules 8 rfl
  simp (disch:=first|omega|exact zF rfl|exact zG rfl|exact fun h=>h|(simp only[zA,zB,zC,zD,bytesW];omega)) only[go_sem,c91B0,c91B1,c91D0,r3]
  have s7:=s6.set 8 rfl 0 (.slice va6 ((xs++pre.map fun y=>256 * a+y.1).length+1) vc6)
  have en:(xs++pre.map fun y=>256 * a+y.1).length+1=(xs++(pre++[y]).map fun y=>256 * a+y.1).length:=by
   rw [List.length_append,List.length_append,List.length_map,List.length_map,List.length_append]; rfl
  have el:(xs++pre.map fun y=>256 * a+y.1).flatMap natE++natE id=(xs++(pre++[y]).map fun y=>256 * a+y.1).flatMap natE:=by
   rw [List.map_append,← List.append_assoc,List.flatMap_append (xs:=xs++_),hid]
   simp
  rw [en,el] at s7
  rw [en]
  refine ⟨(pre++[y],.slice va6 (xs++(pre++[y]).map fun y=>256 * a+y.1).length vc6),rfl,back _ _ _ s7⟩
 ·rintro ⟨pre,v'⟩ w' hpre h'
  subst hS
  have h':Pgr e P W0 w' F ([.obj l (.loop r2),.obj D defO,hpB hb e i,.blk pb #[.pointer (some ⟨hb,0,none⟩)] 27,.blk sb #[.string (ofL (resN P a))] 9]++idsR hb b b3 v' (xs++pre.map fun y=>256 * a+y.1) (some (x,a)) L) I:=h'
  have hpre:pre=items:=hpre
  subst hpre
  rw [hids] at h'
  simp (disch:=first|omega|exact zF rfl|exact zG rfl|exact fun h=>h|(simp only[zA,zB,zC,zD,bytesW];omega)) only[go_sem,c91B0,c91B1]
  refine hcont _ _ v' (h'.sub ?_)
  exact .cons_cons _ (.cons_cons _ (.cons_cons _ (.cons_cons _ (.cons _ (.cons_cons _ (.cons_cons _ (.cons_cons _ (.cons_cons _ (.cons _ (List.Sublist.refl _))))))))))
 ·rintro _ _ hf
  exact hf.elim
theorem recsE_len(a:Nat):∀ (es:List Ent) (k:Nat),(recsE a k es).length≤es.length
 | [],_=>Nat.le_refl _
 | e::es,k=>by
  have:=recsE_len a es (k+1)
  rw [recsE,List.length_append,List.length_cons]
  unfold recE
  split
  ·simp; omega
  ·simp; omega
theorem HpN.ids_len{mx:Nat}(h:HpN mx n i P X E):(idsX X).length≤127 * X.length:=by
 have hp:=h.pg
 clear h
 induction X with
 | nil=>exact Nat.le_refl _
 | cons x X ih =>
  have ih:=ih fun y hy=>hp y (List.mem_cons_of_mem _ hy)
  have h1:=recsE_len x.1 x.2 0
  have h2:=(hp x List.mem_cons_self).1.few
  rw [List.length_map] at h2
  have e:(idsX (x::X)).length=(recsE x.1 0 x.2).length+(idsX X).length:=by
   unfold idsX recsX
   rw [List.flatMap_cons,List.map_append,List.length_append,List.length_map]
  rw [e,List.length_cons]
  omega
theorem ids_take{k:Nat}:(idsX (X.take k)).length≤(idsX X).length:=by
 have:=idsX_append (X.take k) (X.drop k)
 rw [List.take_append_drop] at this
 rw [this,List.length_append]
 omega
theorem ids_ok(h:Pgr e P W0 w F (hpB hb e i::L) I)(hp:HpN e.mx n i P X E)(hr:Real X) :
  Ret Tryz.prog 91 [.pointer (some ⟨hb,0,none⟩)] w fun u w'=>∃ ys:List Nat,ys.Perm (idsX X)∧ys.Pairwise (·≤·)∧Pgr e P W0 w' F (.row u 3 1 ys.length (ys.flatMap natE)::hpB hb e i::L) I:=by
 have hidx:=hp.idx
 have hbig1:=hp.big
 have hlen1:=hp.given.len
 refine ent91 _ _ _ ?_
 simp (disch:=first|omega|exact zF rfl|exact zG rfl|exact fun h=>h|(simp only[zA,zB,zC,zD,bytesW];omega)) only[go_sem,c91B0,c91B1]
 have s3:=(h.box #[.pointer (some ⟨hb,0,none⟩)] 27).box #[.slice none 0 0] 48
 simp only [World.size_alloc] at s3
 generalize hbb:w.heap.size=b at s3 ⊢
 generalize (w.alloc (.cells #[.pointer (some ⟨hb,0,none⟩)] 27)).alloc (.cells #[.slice none 0 0] 48)=w3 at s3 ⊢
 refine Ret.mono (hmade_ok (s3.perm (List.perm_middle (l₁:=[_,_])))) ?_
 rintro _ w4 ⟨rfl,rfl⟩
 have r2:=s3.rules 1 rfl
 have hlb:=(s3.bk 0 rfl).lt
 simp (disch:=first|omega|exact zF rfl|exact zG rfl|exact fun h=>h|(simp only[zA,zB,zC,zD,bytesW];omega)) only[go_sem,c91B0,c91B1,r2]
 have s5:=(s3.box #[.slice none 0 0] 48).perm (List.Perm.refl _)
 obtain ⟨b3,hb3⟩:∃ b,b=w4.heap.size:=⟨_,rfl⟩
 simp only [← hb3] at s5 ⊢
 generalize w4.alloc (.cells #[.slice none 0 0] 48)=w5 at s5 ⊢
 have s6:Pgr e P W0 w5 F (hpB hb e i::idsR hb b b3 (.slice none 0 0) [] none L) I:=by
  obtain ⟨A,st,back⟩:=s5.lift
  have st2:=st.nilRow 3 1
  refine (back _ (.row (.slice none 0 0) 3 1 0 []::_) _ st2).perm ?_
  refine (List.perm_middle (l₁:=[_,_,_,_])).trans (List.Perm.cons _ ?_)
  exact (List.reverse_perm [Res.row (.slice none 0 0) 3 1 0 [],.blk b3 #[.slice none 0 0] 48,.blk (b+1) #[.slice none 0 0] 48,.blk b #[.pointer (some ⟨hb,0,none⟩)] 27]).symm.append_right L
 clear s5 s3 h
 refine Ret.mono (hpages_ok (hb:=hb) w5) ?_
 rintro _ w11 ⟨rfl,rfl⟩
 have s11:=(s6.box #[.pointer (some ⟨hb,0,none⟩)] 27).perm (List.Perm.swap _ _ _)
 generalize w5.heap.size=pb at s11 ⊢
 generalize w5.alloc (.cells #[.pointer (some ⟨hb,0,none⟩)] 27)=w11 at s11 ⊢
 simp (disch:=first|omega|exact zF rfl|exact zG rfl|exact fun h=>h|(simp only[zA,zB,zC,zD,bytesW];omega)) only[go_sem,c91B0,c91B1]
 refine PagesG (C:=X.map Prod.fst) (τ:=Value × List Nat × Option (Nat × Nat)) (pf:=fun _=>P) (R:=fun t=>idsR hb b b3 t.1 t.2.1 t.2.2 L)
  (J:=fun k t=>t.2.1=idsX (X.take k)∧t.2.2=none) (H:=fun _=>False)
  (t0:=(.slice none 0 0,[],none)) rfl rfl .ret .ret jump_ret (fun l=>by simp only [sg,c91B1,c91S3,c91S2,c91S1,Cmd.inL,and_self]) (by omega) hidx hp.root ?_ ?_ ?_ (fun _ _ _=>rfl) ⟨rfl,rfl⟩ s11 ?_ ?_ ?_
 ·intro c hc
  obtain ⟨x,hx,rfl⟩:=List.mem_map.1 hc
  have hm:=hp.memX (page_sub hx _ List.mem_cons_self)
  exact ⟨by have:=hp.rng _ hm; omega,hp.chk hm⟩
 ·rw [List.length_map]
  have h1:=hp.few
  have h2:=pagesX_le X
  rw [List.length_append] at h1
  omega
 ·intro c hc
  obtain ⟨x,hx,rfl⟩:=List.mem_map.1 hc
  have:=hp.rng _ (hp.memX (page_sub hx _ List.mem_cons_self)); omega
 ·rintro k ⟨v,xs,ab⟩ w' l D o r2 hk ⟨rfl,rfl⟩ q12
  rw [List.length_map] at hk
  have ecur:curN (X.map Prod.fst) k=X[k].1:=by
   unfold curN
   rw [List.getD_eq_getElem?_getD,List.getElem?_map,List.getElem?_eq_getElem hk]; rfl
  rw [ecur]
  have hxm:=List.getElem_mem hk
  have etk:idsX (X.take (k+1))=idsX (X.take k)++(recsE X[k].1 0 X[k].2).map Prod.fst:=by
   rw [List.take_succ_eq_append_getElem hk,idsX_append]
   congr 1
   unfold idsX recsX
   simp
  generalize X[k]=xk at *
  obtain ⟨a,es⟩:=xk
  simp (disch:=first|omega|exact zF rfl|exact zG rfl|exact fun h=>h|(simp only[zA,zB,zC,zD,bytesW];omega)) only[go_sem,c91B0]
  have q13:=(q12.box #[.int .i64 (a:Nat)] 3).perm (List.perm_middle (l₁:=[_,_,_,_,_,_,_,_]) (a:=Res.blk w'.heap.size #[.int .i64 (a:Nat)] 3)).symm
  refine ⟨(k,v,idsX (X.take k),some (w'.heap.size,a)),q13,fun w2 q14=>?_⟩
  have hfew:=hp.ids_len
  have hft:=ids_take (X:=X) (k:=k)
  have hXl:X.length≤500:=by
   have h1:=hp.few
   have h2:=pagesX_le X
   rw [List.length_append] at h1
   omega
  refine ids_round (xs:=idsX (X.take k)) q14 hp hr hxm (by omega) ?_
  intro ρ w3 v' q
  exact ⟨(k+1,v',_,none),⟨rfl,etk.symm,rfl⟩,q⟩
 ·rintro ⟨v,xs,ab⟩ D w' ⟨hxs,hab⟩ q12
  simp only at hxs hab
  rw [List.length_map,List.take_length] at hxs
  subst hxs hab
  have q12:Pgr e P W0 w' F (.obj D defO::hpB hb e i::.blk pb #[.pointer (some ⟨hb,0,none⟩)] 27::idsR hb b b3 v (idsX X) none L) I:=q12
  have hfew:=hp.ids_len
  have hXl:X.length≤500:=by
   have h1:=hp.few
   have h2:=pagesX_le X
   rw [List.length_append] at h1
   omega
  obtain ⟨va,vc,rfl,_⟩:=own_slice (q12.row 6 rfl)
  have r3:=q12.rules 5 rfl
  simp (disch:=first|omega|exact zF rfl|exact zG rfl|exact fun h=>h|(simp only[zA,zB,zC,zD,bytesW];omega)) only[go_sem,c91B0,c91B1,r3]
  obtain ⟨A,st,back⟩:=q12.lift
  have st2:=st.perm (List.perm_middle (l₁:=[_,_,_,_,_,_])).symm
  refine Ret.mono (hsort_ok (xs:=idsX X) st2 (by omega)) ?_
  rintro _ w6 ⟨ys,hyp,hys,s6⟩
  have hyl:=hyp.length_eq
  have q6:=back _ (_::_::_::_::_::_::.row (.slice va (idsX X).length vc) 3 1 ys.length (ys.flatMap natE)::L) _ (s6.perm (List.perm_middle (l₁:=[_,_,_,_,_,_])))
  have r2:=q6.rules 4 rfl
  have r3:=q6.rules 5 rfl
  have q7:=q6.set 4 rfl 0 (.slice va (idsX X).length vc)
  have hD:=q6.ob 0 rfl
  have hD2:=q7.ob 0 rfl
  simp (disch:=first|omega|exact zF rfl|exact zG rfl|exact fun h=>h|(simp only[zA,zB,zC,zD,bytesW];omega)) only[go_sem,c91B0,c91B1,r2,r3,hD,hD2]
  have q8:=q7.putOb 0 rfl (.deferred none)
  have r2:=q8.rules 4 rfl
  generalize (w6.setCell ⟨b+1,0,none⟩ (.slice va (idsX X).length vc)).putObj D (.deferred none)=w8 at q8 r2 ⊢
  simp (disch:=first|omega|exact zF rfl|exact zG rfl|exact fun h=>h|(simp only[zA,zB,zC,zD,bytesW];omega)) only[go_sem,c91B0,c91B1,r2]
  refine ⟨ys,hyp,hys,(q8.perm (List.perm_middle (l₁:=[_,_,_,_,_,_]))).sub ?_⟩
  exact .cons_cons _ (.cons _ (.cons_cons _ (.cons _ (.cons _ (.cons _ (.cons _ (List.Sublist.refl _)))))))
 ·rintro t D w' hf
  exact hf.elim
end
open Go Go.Ann Go.RowKit Go.WideShapes
abbrev Pge:=Int × List UInt8
def hdsN(n:Nat):Nat:=(4 * n+259) / 256
def blocksN(n:Nat):Nat:=hdsN n+n
def fixP(p:Pge):List UInt8:=fixL p.1.toNat 4
def idxL(l:List Pge):List UInt8:=fixL l.length 4++l.flatMap fixP
theorem fixP_len(p:Pge):(fixP p).length=4:=fixL_len _ _
theorem flatP_len(l:List Pge):(l.flatMap fixP).length=4 * l.length:=by
 induction l with
 | nil=>rfl
 | cons a l ih=>rw [List.flatMap_cons,List.length_append,ih,List.length_cons]; unfold fixP; rw [fixL_len]; omega
theorem idxL_len(l:List Pge):(idxL l).length=4 * l.length+4:=by
 unfold idxL; rw [List.length_append,fixL_len,flatP_len]; omega
def chunksL:Nat→List UInt8→List (List UInt8)
 | 0,_=>[]
 | k+1,s=>filledL (s.take 256)::chunksL k (s.drop 256)
theorem chunksL_len:∀ (k:Nat) (s:List UInt8),(chunksL k s).length=k
 | 0,_=>rfl
 | k+1,s=>by rw [chunksL,List.length_cons,chunksL_len k]
theorem chunksL_256:∀ (k:Nat) (s:List UInt8),∀ c∈chunksL k s,c.length=256
 | 0,_,_,h=>by cases h
 | k+1,s,c,h=>by
  rw [chunksL] at h
  rcases List.mem_cons.1 h with rfl | h
  ·exact filledL_length (by rw [List.length_take]; omega)
  ·exact chunksL_256 k _ c h
def packL(l:List Pge):List (List UInt8):=chunksL (hdsN l.length) (idxL l)++l.map fun p=>filledL p.2
theorem packL_len(l:List Pge):(packL l).length=blocksN l.length:=by
 unfold packL blocksN; rw [List.length_append,chunksL_len,List.length_map]
theorem fit256{l:List UInt8}(h:l.length=256):filledL l=l:=by unfold filledL; rw [h]; simp
open Go Go.Proofs Go.Shelf
def laySortPages_ren:Go.Shelf.Ren:=⟨fun | 6=>178 | 15=>196 | 14=>195 | 28=>215 | 29=>216 | 20=>207 | 21=>208 | 22=>209 | 23=>210 | 24=>211 | 25=>212 | 26=>213 | 27=>214 | 46=>220 | 47=>221 | 48=>222 | 49=>223 | 50=>224 | 57=>226 | n=>n,fun | 22=>36 | 24=>44 | 25=>232 | 3=>3 | 39=>78 | 0=>0 | 53=>261 | 55=>147 | 4=>4 | 46=>255 | 45=>254 | 50=>135 | 5=>5 | 9=>9 | 66=>264 | 70=>268 | 76=>271 | 77=>101 | n=>n,fun | n=>n⟩
theorem laySortPages:Go.Proofs.SlLaysF0.n6 Tryz.prog laySortPages_ren:={
  mixed:=by kernel_rfl,
  f6:=⟨Tryz.f178.name,by decide,Tryz.func178.trans (congrArg some (by kernel_rfl))⟩,
  f14:=⟨Tryz.f195.name,by decide,Tryz.func195.trans (congrArg some (by kernel_rfl))⟩,
  f15:=Tryz.func196.trans (congrArg some (by kernel_rfl)),
  f20:=⟨Tryz.f207.name,by decide,Tryz.func207.trans (congrArg some (by kernel_rfl))⟩,
  f21:=⟨Tryz.f208.name,by decide,Tryz.func208.trans (congrArg some (by kernel_rfl))⟩,
  f22:=⟨Tryz.f209.name,by decide,Tryz.func209.trans (congrArg some (by kernel_rfl))⟩,
  f23:=⟨Tryz.f210.name,by decide,Tryz.func210.trans (congrArg some (by kernel_rfl))⟩,
  f24:=⟨Tryz.f211.name,by decide,Tryz.func211.trans (congrArg some (by kernel_rfl))⟩,
  f25:=⟨Tryz.f212.name,by decide,Tryz.func212.trans (congrArg some (by kernel_rfl))⟩,
  f26:=⟨Tryz.f213.name,by decide,Tryz.func213.trans (congrArg some (by kernel_rfl))⟩,
  f27:=⟨Tryz.f214.name,by decide,Tryz.func214.trans (congrArg some (by kernel_rfl))⟩,
  f28:=Tryz.func215.trans (congrArg some (by kernel_rfl)),
  f29:=Tryz.func216.trans (congrArg some (by kernel_rfl)),
  f46:=⟨Tryz.f220.name,by decide,Tryz.func220.trans (congrArg some (by kernel_rfl))⟩,
  f47:=Tryz.func221.trans (congrArg some (by kernel_rfl)),
  f48:=Tryz.func222.trans (congrArg some (by kernel_rfl)),
  f49:=⟨Tryz.f223.name,by decide,Tryz.func223.trans (congrArg some (by kernel_rfl))⟩,
  f50:=⟨Tryz.f224.name,by decide,Tryz.func224.trans (congrArg some (by kernel_rfl))⟩,
  f57:=⟨Tryz.f226.name,by decide,Tryz.func226.trans (congrArg some (by kernel_rfl))⟩,
  t0:=Tryz.underlying0,
  a0:=Tryz.isAgg0,
  z0:=Tryz.sizeOf0,
  v0:=Tryz.zeroValue0,
  t3:=Tryz.underlying3,
  a3:=Tryz.isAgg3,
  z3:=Tryz.sizeOf3,
  v3:=Tryz.zeroValue3,
  t4:=Tryz.underlying4,
  a4:=Tryz.isAgg4,
  z4:=Tryz.sizeOf4,
  v4:=Tryz.zeroValue4,
  t5:=Tryz.underlying5,
  a5:=Tryz.isAgg5,
  z5:=Tryz.sizeOf5,
  v5:=Tryz.zeroValue5,
  t9:=Tryz.underlying9,
  a9:=Tryz.isAgg9,
  z9:=Tryz.sizeOf9,
  v9:=Tryz.zeroValue9,
  t22:=Tryz.underlying36,
  a22:=Tryz.isAgg36,
  z22:=Tryz.sizeOf36,
  v22:=Tryz.zeroValue36,
  t25:=Tryz.underlying232,
  a25:=Tryz.isAgg232,
  z25:=Tryz.sizeOf232,
  v25:=Tryz.zeroValue232,
  t39:=Tryz.underlying78,
  a39:=Tryz.isAgg78,
  z39:=Tryz.sizeOf78,
  v39:=Tryz.zeroValue78,
  t45:=Tryz.underlying254,
  a45:=Tryz.isAgg254,
  z45:=Tryz.sizeOf254,
  v45:=Tryz.zeroValue254,
  t46:=Tryz.underlying255,
  a46:=Tryz.isAgg255,
  z46:=Tryz.sizeOf255,
  v46:=Tryz.zeroValue255,
  t50:=Tryz.underlying135,
  a50:=Tryz.isAgg135,
  z50:=Tryz.sizeOf135,
  v50:=Tryz.zeroValue135,
  t53:=Tryz.underlying261,
  a53:=Tryz.isAgg261,
  z53:=Tryz.sizeOf261,
  v53:=Tryz.zeroValue261,
  t55:=Tryz.underlying147,
  a55:=Tryz.isAgg147,
  z55:=Tryz.sizeOf147,
  v55:=Tryz.zeroValue147,
  t66:=Tryz.underlying264,
  a66:=Tryz.isAgg264,
  z66:=Tryz.sizeOf264,
  v66:=Tryz.zeroValue264,
  t70:=Tryz.underlying268,
  a70:=Tryz.isAgg268,
  z70:=Tryz.sizeOf268,
  v70:=Tryz.zeroValue268,
  t76:=Tryz.underlying271,
  a76:=Tryz.isAgg271,
  z76:=Tryz.sizeOf271,
  v76:=Tryz.zeroValue271,
  t77:=Tryz.underlying101,
  a77:=Tryz.isAgg101,
  z77:=Tryz.sizeOf101,
  v77:=Tryz.zeroValue101 }
def layJoin_ren:Go.Shelf.Ren:=⟨fun | 156=>156 | 165=>187 | 166=>161 | 169=>162 | 240=>188 | 241=>203 | 276=>204 | 277=>219 | n=>n,fun | 31=>22 | 9=>9 | 3=>3 | 4=>4 | 0=>0 | 20=>20 | 72=>209 | 76=>213 | 70=>207 | 37=>181 | 75=>211 | 127=>236 | 164=>250 | 5=>5 | 80=>154 | n=>n,fun | n=>n⟩
theorem layJoin:Go.Proofs.Lays.n156 Tryz.prog layJoin_ren:={
  mixed:=by kernel_rfl,
  f156:=Tryz.func156.trans (congrArg some (by kernel_rfl)),
  f165:=Tryz.func187.trans (congrArg some (by kernel_rfl)),
  f166:=Tryz.func161.trans (congrArg some (by kernel_rfl)),
  f169:=Tryz.func162.trans (congrArg some (by kernel_rfl)),
  f240:=Tryz.func188.trans (congrArg some (by kernel_rfl)),
  f241:=Tryz.func203.trans (congrArg some (by kernel_rfl)),
  f276:=Tryz.func204.trans (congrArg some (by kernel_rfl)),
  f277:=Tryz.func219.trans (congrArg some (by kernel_rfl)),
  t0:=Tryz.underlying0,
  a0:=Tryz.isAgg0,
  z0:=Tryz.sizeOf0,
  v0:=Tryz.zeroValue0,
  t3:=Tryz.underlying3,
  a3:=Tryz.isAgg3,
  z3:=Tryz.sizeOf3,
  v3:=Tryz.zeroValue3,
  t4:=Tryz.underlying4,
  a4:=Tryz.isAgg4,
  z4:=Tryz.sizeOf4,
  v4:=Tryz.zeroValue4,
  t9:=Tryz.underlying9,
  a9:=Tryz.isAgg9,
  z9:=Tryz.sizeOf9,
  v9:=Tryz.zeroValue9,
  t20:=Tryz.underlying20,
  a20:=Tryz.isAgg20,
  z20:=Tryz.sizeOf20,
  v20:=Tryz.zeroValue20,
  t31:=Tryz.underlying22,
  a31:=Tryz.isAgg22,
  z31:=Tryz.sizeOf22,
  v31:=Tryz.zeroValue22,
  t37:=Tryz.underlying181,
  a37:=Tryz.isAgg181,
  z37:=Tryz.sizeOf181,
  v37:=Tryz.zeroValue181,
  t70:=Tryz.underlying207,
  a70:=Tryz.isAgg207,
  z70:=Tryz.sizeOf207,
  v70:=Tryz.zeroValue207,
  t72:=Tryz.underlying209,
  a72:=Tryz.isAgg209,
  z72:=Tryz.sizeOf209,
  v72:=Tryz.zeroValue209,
  t75:=Tryz.underlying211,
  a75:=Tryz.isAgg211,
  z75:=Tryz.sizeOf211,
  v75:=Tryz.zeroValue211,
  t76:=Tryz.underlying213,
  a76:=Tryz.isAgg213,
  z76:=Tryz.sizeOf213,
  v76:=Tryz.zeroValue213,
  t127:=Tryz.underlying236,
  a127:=Tryz.isAgg236,
  z127:=Tryz.sizeOf236,
  v127:=Tryz.zeroValue236,
  t164:=Tryz.underlying250,
  a164:=Tryz.isAgg250,
  z164:=Tryz.sizeOf250,
  v164:=Tryz.zeroValue250 }
open Go Go.Ann Go.RowKit Go.WideShapes Go.Shelf
def BuL(b:Nat)(p v:Value)(bs:List UInt8):List Res:=[.blk b #[p,v] 209,.row v 5 1 bs.length (bs.map byteV)]
structure BuOk(b:Nat)(p v:Value)(bs:List UInt8):Prop where
 ptr:p=.pointer none∨p=.pointer (some ⟨b,0,none⟩)
 nil:bs=[]→v=.slice none 0 0
theorem goCC:goFunc Tryz.prog 188=true:=by kernel_rfl
theorem x72:Builder.X72 Tryz.prog layJoin_ren:=⟨by kernel_rfl,by kernel_rfl⟩
section
variable {W0 w:World} {F:Nat→Prop} {L:List Res} {I:List Inv} {b:Nat} {p v:Value} {bs:List UInt8}
theorem copyCheck_ok(h:St W0 w F (BuL b p v bs++L) I)(ok:BuOk b p v bs) :
  Ret Tryz.prog 188 [.pointer (some ⟨b,0,none⟩)] w fun u w'=>u=.tuple #[]∧St W0 w' F (BuL b (.pointer (some ⟨b,0,none⟩)) v bs++L) I:=by
 have hb:=h.blk 0 rfl
 have L240:Lays.n240 Tryz.prog layJoin_ren:={ layJoin with }
 rcases ok.ptr with rfl | rfl
 ·refine (Any.Builder_copyCheck_fresh L240 x72 b w (hb.cell 0) (by unfold World.shape?; rw [show w.heap[b]?=_ from hb]; rfl) (hb.frozen 0)).mono ?_
  rintro e w' ⟨rfl,rfl⟩
  exact ⟨_,rfl,rfl,h.set 0 rfl 0 (.pointer (some ⟨b,0,none⟩))⟩
 ·refine (Any.Builder_copyCheck_used L240 x72 b w (hb.cell 0)).mono ?_
  rintro e w' ⟨rfl,rfl⟩
  exact ⟨_,rfl,rfl,h⟩
theorem writeS_ok(s:List UInt8)(h:St W0 w F (BuL b p v bs++L) I)(ok:BuOk b p v bs)(hl:bs.length+s.length≤140737488355328) :
  Ret Tryz.prog 161 [.pointer (some ⟨b,0,none⟩),.string (ofL s)] w fun u w'=>∃ p' v',BuOk b p' v' (bs++s)∧St W0 w' F (BuL b p' v' (bs++s)++L) I:=by
 refine ent161 _ _ _ _ ?_
 simp (disch:=first|omega|exact zF rfl|exact zG rfl|exact fun h=>h|(simp only[zA,zB,zC,zD,bytesW];omega)) only[go_sem,goCC]
 refine Ret.mono (copyCheck_ok h ok) ?_
 rintro _ w2 ⟨rfl,h2⟩
 have r2:=h2.rules 0 rfl
 obtain ⟨a,c,rfl,_⟩:=own_slice (h2.row 1 rfl)
 simp (disch:=first|omega|exact zF rfl|exact zG rfl|exact fun h=>h|(simp only[zA,zB,zC,zD,bytesW];omega)) only[go_sem,r2]
 refine h2.appendS 1 rfl (by kernel_rfl) Tryz.underlying9 s hl ?_
 intro v3 w3 h3 c3 hn
 obtain ⟨a3,c3',rfl,_⟩:=own_slice (h3.row 1 rfl)
 have r3:=h3.rules 0 rfl
 simp (disch:=first|omega|exact zF rfl|exact zG rfl|exact fun h=>h|(simp only[zA,zB,zC,zD,bytesW];omega)) only[go_sem,r3]
 refine ⟨.pointer (some ⟨b,0,none⟩),.slice a3 (bs.length+s.length) c3',⟨.inr rfl,fun hnil=>?_⟩,st_recast (h3.set 0 rfl 1 (.slice a3 (bs.length+s.length) c3')) (by simp only [BuL,List.length_append,List.map_append]; rfl)⟩
 rw [List.append_eq_nil_iff] at hnil
 exact hn.2 ⟨ok.nil hnil.1,hnil.2⟩
theorem stringS_ok(h:St W0 w F (BuL b p v bs++L) I)(ok:BuOk b p v bs)(hl:bs.length≤140737488355328) :
  Ret Tryz.prog 162 [.pointer (some ⟨b,0,none⟩)] w fun u w'=>u=.string (ofL bs)∧St W0 w' F L I:=by
 refine ent162 _ _ _ ?_
 obtain ⟨a,c,rfl,hc⟩:=own_slice (h.row 1 rfl)
 simp (disch:=first|omega|exact zF rfl|exact zG rfl|exact fun h=>h|(simp only[zA,zB,zC,zD,bytesW];omega)) only[go_sem]
 refine c162draw0 (Same (fun k=>k=b) _) (Same.refl _ _) ?_
 have h2:=h.drew
 have r2:=h2.rules 0 rfl
 have l2:=h2.low 0 rfl
 generalize w.drew=w2 at h2 r2 l2 ⊢
 simp (disch:=first|omega|exact zF rfl|exact zG rfl|exact fun h=>h|(simp only[zA,zB,zC,zD,bytesW];omega)) only[go_sem,c162D0,r2]
 have h0:a=none∧c=0∨0<c:=by
  rcases Nat.eq_zero_or_pos bs.length with hz | hz
  ·have:=ok.nil (List.eq_nil_of_length_eq_zero hz)
   simp only [Value.slice.injEq] at this
   exact .inl ⟨this.1,this.2.2⟩
  ·exact .inr (by omega)
 have same:∀ w',Chg (fun k=>(Value.slice a bs.length c).ownBlock=some k) w2 w'→Same (fun k=>k=b) w2 w':=fun w' hc k hk=>by
  subst hk
  exact hc.block k l2.2 fun e=>h2.ne 1 0 rfl rfl (by decide) (k:=k) e rfl
 refine rawB_sliceData (e:=5) Tryz.underlying236 h0 ?_
 simp (disch:=first|omega|exact zF rfl|exact zG rfl|exact fun h=>h|(simp only[zA,zB,zC,zD,bytesW];omega)) only[go_sem]
 refine ⟨Same.refl _ _,h2.unsafeS 1 rfl Tryz.underlying236 (by kernel_rfl) ?_⟩
 intro w3 h3 c3
 simp (disch:=first|omega|exact zF rfl|exact zG rfl|exact fun h=>h|(simp only[zA,zB,zC,zD,bytesW];omega)) only[go_sem]
 exact ⟨same _ c3,h3.sub ((List.sublist_cons_self _ _).trans (List.sublist_cons_self _ _))⟩
end
end Go.Proofs.YtkmjkmjpejmlnaaGreat

end
