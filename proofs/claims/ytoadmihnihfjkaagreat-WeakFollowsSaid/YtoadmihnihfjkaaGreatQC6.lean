/- Texts put together by program. -/
import Derived.Test.YtoadmihnihfjkaaGreatQC5
set_option linter.unusedSimpArgs false
set_option linter.unusedVariables false
set_option maxRecDepth 100000
noncomputable section

namespace Go.Proofs.YtoadmihnihfjkaaGreat.Cut
open Go Go.Ann Go.RowKit Go.WideShapes Go.Shelf
def intK(n:Int):Value:=.int .i64 n
def idK(v:Value):Value:=v
theorem int_one(n:Int):∀ u∈intE n,u.oneCell'=true:=intE_one n
theorem keyT_i:KeyT Tryz.prog 3 intK (.int .i64):=keyT_int Tryz.underlying3
theorem intE_map(l:List Int):l.flatMap intE=l.map encZ:=by
 induction l with
 | nil=>rfl
 | cons a l ih=>rw [List.flatMap_cons,ih]; rfl
theorem left_in{ν:Type}{evK:ν→Value}{d:List (Int × ν × Nat)}{D:List (Int × ν × Nat)}{e:MapEntry}(h:e∈(leftOf (d.map (entG intK evK)).toArray (D.map fun x=>x.2.2).toArray).toList):∃ x∈d,e=entG intK evK x∧x.2.2 ∉ D.map fun x=>x.2.2:=by
 unfold leftOf at h
 rw [Array.toList_filter,List.mem_filter] at h
 obtain ⟨h1,h2⟩:=h
 obtain ⟨x,hx,rfl⟩:=List.mem_map.1 h1
 refine ⟨x,hx,rfl,?_⟩
 simpa [entG] using h2
theorem left_none{ν:Type}{evK:ν→Value}{d:List (Int × ν × Nat)}{D:List (Int × ν × Nat)}(h:(leftOf (d.map (entG intK evK)).toArray (D.map fun x=>x.2.2).toArray).size=0):∀ x∈d,x.2.2∈D.map fun x=>x.2.2:=by
 intro x hx
 unfold leftOf at h
 rw [← Array.length_toList,Array.toList_filter,List.length_eq_zero_iff,List.filter_eq_nil_iff] at h
 have:=h (entG intK evK x) (List.mem_map_of_mem hx)
 simpa [entG] using this
theorem all_perm{ν:Type}{d D:List (Int × ν × Nat)}(hb:(d.map fun x=>x.2.2).Nodup)(hD:(D.map fun x=>x.2.2).Nodup)(hs:∀ x∈D,x∈d)(ha:∀ x∈d,x.2.2∈D.map fun x=>x.2.2):D.Perm d:=by
 have inj:∀ x∈d,∀ y∈d,x.2.2=y.2.2→x=y:=fun x hx y hy e=>by
  obtain ⟨i,hi,rfl⟩:=List.mem_iff_getElem.1 hx
  obtain ⟨j,hj,rfl⟩:=List.mem_iff_getElem.1 hy
  have hp:=List.pairwise_iff_getElem.1 hb
  rcases Nat.lt_trichotomy i j with h | h | h
  ·exact absurd (by rw [List.getElem_map,List.getElem_map]; exact e) (hp i j (by simpa using hi) (by simpa using hj) h)
  ·subst h; rfl
  ·exact absurd (by rw [List.getElem_map,List.getElem_map]; exact e.symm) (hp j i (by simpa using hj) (by simpa using hi) h)
 have nd:∀ l:List (Int × ν × Nat),(l.map fun x=>x.2.2).Nodup→l.Nodup:=fun l h=>by
  unfold List.Nodup at h ⊢
  rw [List.pairwise_map] at h
  exact h.imp fun h e=>h (by rw [e])
 refine (List.perm_ext_iff_of_nodup (nd D hD) (nd d hb)).2 fun x=>⟨hs x,fun hx=>?_⟩
 obtain ⟨y,hy,e⟩:=List.mem_map.1 (ha x hx)
 have:=inj y (hs y hy) x hx e
 rw [← this]; exact hy
theorem nat_le{D d:List Nat}(nd:D.Nodup)(hs:∀ x∈D,x∈d):D.length≤d.length:=by
 induction D generalizing d with
 | nil=>exact Nat.zero_le _
 | cons a D ih =>
  rw [List.nodup_cons] at nd
  have h1:∀ x∈D,x∈d.erase a:=fun x hx=>(List.mem_erase_of_ne (fun e=>nd.1 (by rw [← e]; exact hx))).2 (hs x (List.mem_cons_of_mem _ hx))
  have:=ih nd.2 h1
  have ha:=hs a (List.mem_cons_self ..)
  rw [List.length_erase_of_mem ha] at this
  have:=List.length_pos_of_mem ha
  rw [List.length_cons]; omega
theorem nodup_le{ν:Type}{d D:List (Int × ν × Nat)}(hD:(D.map fun x=>x.2.2).Nodup)(hs:∀ x∈D,x∈d):D.length≤d.length:=by
 have:=nat_le hD (d:=d.map fun x=>x.2.2) fun x hx=>by
  obtain ⟨y,hy,rfl⟩:=List.mem_map.1 hx
  exact List.mem_map_of_mem (f:=fun x:Int × ν × Nat=>x.2.2) (hs y hy)
 simpa using this
theorem last_get{α:Type}(X:List α)(r:α):(X++[r])[X.length]?=some r:=by simp
theorem last_set{α:Type}(X:List α)(r r':α):(X++[r]).set X.length r'=X++[r']:=by simp
theorem not_in{ν:Type}{d D:List (Int × ν × Nat)}{x:Int × ν × Nat}(hk:(d.map Prod.fst).Nodup)(hs:∀ y∈D,y∈d)(hx:x∈d)(hn:x.2.2 ∉ D.map fun x=>x.2.2):x.1 ∉ D.map Prod.fst:=by
 intro h
 obtain ⟨y,hy,e⟩:=List.mem_map.1 h
 obtain ⟨i,hi,ei⟩:=List.mem_iff_getElem.1 (hs y hy)
 obtain ⟨j,hj,ej⟩:=List.mem_iff_getElem.1 hx
 have hp:=List.pairwise_iff_getElem.1 hk
 have hij:i=j:=by
  rcases Nat.lt_trichotomy i j with h | h | h
  ·exact absurd (by rw [List.getElem_map,List.getElem_map,ei,ej]; exact e) (hp i j (by simpa using hi) (by simpa using hj) h)
  ·exact h
  ·exact absurd (by rw [List.getElem_map,List.getElem_map,ei,ej]; exact e.symm) (hp j i (by simpa using hj) (by simpa using hi) h)
 subst hij
 have:y=x:=ei.symm.trans ej
 subst this
 exact hn (List.mem_map_of_mem hy)
section
variable {W0 w:World} {F:Nat→Prop} {L:List Res} {I:List Inv}
theorem sortI_ok{v:Value}{ks:List Int}(h:St W0 w F (.row v 3 1 ks.length (ks.flatMap intE)::L) I)(hl:ks.length≤100000) :
  Ret Tryz.prog 78 [v] w fun u w'=>u=.tuple #[]∧∃ ts:List Int,(ts.Perm ks∧ts.Pairwise (·≤·))∧St W0 w' F (.row v 3 1 ks.length (ts.flatMap intE)::L) I:=by
 have hr:=h.row 0 rfl
 obtain ⟨hlen,⟨rfl,h0⟩ | ⟨g',cap,cur,rfl,hB,hb,hc,hm,hs,hx⟩⟩:=id hr
 ·have hn:ks.length=0:=h0
  refine (Any.slices_Sort_int_none laySortI none 0 w).mono ?_
  rintro e w' ⟨rfl,rfl⟩
  exact ⟨_,rfl,rfl,ks,⟨List.Perm.refl _,by rw [List.eq_nil_of_length_eq_zero hn]; exact List.Pairwise.nil⟩,h⟩
 ·have hx':cur.toList.take ks.length=ks.map encZ:=by rw [← intE_map,← hx,Nat.mul_one]
  have hb':w.heap[g']?=some (.cells cur 3 (0,0)):=hb
  refine (Any.slices_Sort_int laySortI g' 0 cap ks w (holds_of_block_i hb' hx') (Array.getElem?_eq_some_iff.1 hb).1 (by omega)).mono ?_
  rintro e w' ⟨rfl,n,os,rfl⟩
  have hml:(ks.mergeSort fun x y=>decide (x≤y)).length=ks.length:=List.length_mergeSort _
  refine ⟨_,rfl,rfl,ks.mergeSort fun x y=>decide (x≤y),⟨List.mergeSort_perm _ _,(List.pairwise_mergeSort (le:=fun x y:Int=>decide (x≤y)) (fun a b c h1 h2=>by simp at h1 h2 ⊢; omega) (fun a b=>by simp; omega) ks).imp fun h=>by simpa using h⟩,?_⟩
  have ho:=ownsRow_sorted_i (n:=n) (os:=os) hml hB hb' hc hm hs
  rw [← intE_map] at ho
  exact h.grow 0 rfl (grownBy_sorted_i _) ho fun k hk=>.inl hk
end
section
variable {W0 w:World} {F:Nat→Prop} {L:List Res} {I:List Inv} {d:List (Int × Value × Nat)} {c bx mb:Nat}
theorem keys1_ok(fv:Value)(J:List Res→List Int→World→Prop)(w:World)(hJ:∀ R pre w',J R pre w'→w'.cell? ⟨bx,0,none⟩=some (.map (some mb))∧w'.heap[mb]?=some (mapG intK idK d c)∧∃ X,St W0 w' F (X++R) I)
  (hJ2:∀ R R' pre w' w'',J R pre w'→(∀ X,St W0 w' F (X++R) I→St W0 w'' F (X++R') I)→J R' pre w'')
  (hf:∀ R pre x w',J R pre w'→(x ∉ pre∧x∈d.map Prod.fst∧pre.length<d.length)→callW Tryz.prog fv [.int .i64 x] w' fun v w''=>v=.bool true∧J R (pre++[x]) w'')
  (hk:(d.map Prod.fst).Nodup) (hb:(d.map fun x=>x.2.2).Nodup) (hc:∀ x∈d,x.2.2<c) (h0:J [] [] w) :
  Ret Tryz.prog 79 [fv,.pointer (some ⟨bx,0,none⟩)] w fun _ w'=>∃ xs,xs.Perm (d.map Prod.fst)∧J [] xs w':=by
 refine ent79 _ _ _ _ ?_
 obtain ⟨k1,k2,_⟩:=hJ _ _ _ h0
 simp (disch:=first|omega|exact zF rfl|exact zG rfl|exact fun h=>h|(simp only[zA,zB,zC,zD,bytesW];omega)) only[go_sem,k1]
 refine rgG Tryz.underlying91 k2 ?_
 have j1:J [.obj w.heap.size (.mapIter (some mb) c #[] c)] [] (w.alloc (.mapIter (some mb) c #[] c)):=hJ2 _ _ _ _ _ h0 fun X hX=>by
  have:=hX.lay (.mapIter (some mb) c #[] c)
  rw [List.append_nil] at this
  exact this.perm (List.perm_append_singleton _ _)
 generalize w.heap.size=q at j1 ⊢
 generalize w.alloc (.mapIter (some mb) c #[] c)=w1 at j1 ⊢
 simp (disch:=first|omega|exact zF rfl|exact zG rfl|exact fun h=>h|(simp only[zA,zB,zC,zD,bytesW];omega)) only[go_sem]
 refine W_loopU (fun D:List (Int × Value × Nat)=>[]) (fun D w'=>(∀ x∈D,x∈d)∧(D.map fun x=>x.2.2).Nodup∧J [.obj q (.mapIter (some mb) c (D.map fun x=>x.2.2).toArray c)] (D.map Prod.fst) w') (fun D=>d.length - D.length) [] rfl ⟨fun _ h=>(by cases h),List.Pairwise.nil,j1⟩ ?_
 clear j1 k1 k2 h0
 rintro D w2 ⟨hD1,hD2,j2⟩
 have hle:=nodup_le hD2 hD1
 obtain ⟨k1,k2,X,sX⟩:=hJ _ _ _ j2
 simp (disch:=first|omega|exact zF rfl|exact zG rfl|exact fun h=>h|(simp only[zA,zB,zC,zD,bytesW];omega)) only[go_sem,c79L0,c79L0]
 refine nxG (sX.obj X.length (last_get X _)) k2 (fun e he=>?_) (Nat.le_refl _) (fun h0'=>?_) (fun e he w3 hw3=>?_)
 ·obtain ⟨x,hx,rfl⟩:=List.mem_map.1 he
  exact hc x hx
 ·simp (disch:=first|omega|exact zF rfl|exact zG rfl|exact fun h=>h|(simp only[zA,zB,zC,zD,bytesW];omega)) only[go_sem,c79L0]
  have hperm:=all_perm hb hD2 hD1 (left_none h0')
  refine ⟨D.map Prod.fst,hperm.map _,hJ2 _ _ _ _ _ j2 fun Y hY=>?_⟩
  rw [List.append_nil]
  exact hY.sub (List.sublist_append_left _ _)
 ·obtain ⟨x,hx,rfl,hxn⟩:=left_in he
  have j3:J [.obj q (.mapIter (some mb) c ((D.map fun x=>x.2.2).toArray.push x.2.2) c)] (D.map Prod.fst) (w3.putObj q (.mapIter (some mb) c ((D.map fun x=>x.2.2).toArray.push x.2.2) c)):=hJ2 _ _ _ _ _ j2 fun Y hY=>by
   have h3:St W0 w3 F (Y++[.obj q (.mapIter (some mb) c (D.map fun x=>x.2.2).toArray c)]) I:=by
    rcases hw3 with rfl | rfl
    ·exact hY
    ·exact hY.drew
   have:=h3.putObj Y.length (last_get Y _) (.mapIter (some mb) c ((D.map fun x=>x.2.2).toArray.push x.2.2) c)
   rwa [last_set] at this
  have hbn:((d.map (entG intK idK)).toArray.toList.map (·.born)).Nodup:=by
   rw [List.toList_toArray,List.map_map]
   exact hb
  simp (disch:=first|omega|exact zF rfl|exact zG rfl|exact fun h=>h|(simp only[zA,zB,zC,zD,bytesW];omega)) only[go_sem,c79L0]
  have e1:(entG intK idK x).born=x.2.2:=rfl
  rw [e1]
  obtain ⟨_,k4,Z,sZ⟩:=hJ _ _ _ j3
  refine enG (sZ.obj Z.length (last_get Z _)) k4 (by rw [List.toList_toArray]; exact List.mem_map_of_mem hx) hbn ?_
  simp (disch:=first|omega|exact zF rfl|exact zG rfl|exact fun h=>h|(simp only[zA,zB,zC,zD,bytesW];omega)) only[go_sem,c79L0,entG,intK,idK]
  have hnk:=not_in hk hD1 hx hxn
  have hn2:((x::D).map fun x=>x.2.2).Nodup:=by rw [List.map_cons,List.nodup_cons]; exact ⟨hxn,hD2⟩
  have hDl:=nodup_le hn2 fun y hy=>by
   rcases List.mem_cons.1 hy with rfl | hy
   ·exact hx
   ·exact hD1 y hy
  rw [List.length_cons] at hDl
  refine callW_mono (hf _ _ x.1 _ j3 ⟨hnk,List.mem_map_of_mem hx,by rw [List.length_map]; omega⟩) ?_
  rintro _ w5 ⟨rfl,j5⟩
  simp (disch:=first|omega|exact zF rfl|exact zG rfl|exact fun h=>h|(simp only[zA,zB,zC,zD,bytesW];omega)) only[go_sem,c79L0]
  refine ⟨D++[x],⟨fun y hy=>?_,?_,?_⟩,by rw [List.length_append,List.length_singleton]; omega⟩
  ·rcases List.mem_append.1 hy with hy | hy
   ·exact hD1 y hy
   ·rw [List.mem_singleton] at hy; subst hy; exact hx
  ·rw [List.map_append,List.nodup_append]
   refine ⟨hD2,List.pairwise_singleton _ _,fun a ha e he=>?_⟩
   rw [List.map_cons,List.map_nil,List.mem_singleton] at he
   subst he
   exact fun h=>hxn (h ▸ ha)
  ·have e2:((D++[x]).map fun x=>x.2.2).toArray=(D.map fun x=>x.2.2).toArray.push x.2.2:=by simp
   have e3:(D++[x]).map Prod.fst=D.map Prod.fst++[x.1]:=by simp
   rw [e2,e3]
   exact j5
theorem keys_ok(w:World):Ret Tryz.prog 49 [.map (some mb)] w fun v w'=>v=.func (.func 79) #[] #[.pointer (some ⟨w.heap.size,0,none⟩)]∧w'=w.alloc (.cells #[.map (some mb)] 91):=by
 refine ent49 _ _ _ ?_
 simp (disch:=first|omega|exact zF rfl|exact zG rfl|exact fun h=>h|(simp only[zA,zB,zC,zD,bytesW];omega)) only[go_sem]
theorem appendKeys_ok(h:St W0 w F (.blk bx #[.map (some mb)] 91::.obj mb (mapG intK idK d c)::L) I)(hk:(d.map Prod.fst).Nodup)(hb:(d.map fun x=>x.2.2).Nodup)(hc:∀ x∈d,x.2.2<c)(hd:d.length≤100000) :
  Ret Tryz.prog 100 [.slice none 0 0,.func (.func 79) #[] #[.pointer (some ⟨bx,0,none⟩)]] w fun u w'=>∃ ks:List Int,ks.Perm (d.map Prod.fst)∧St W0 w' F (.row u 3 1 ks.length (ks.flatMap intE)::.blk bx #[.map (some mb)] 91::.obj mb (mapG intK idK d c)::L) I:=by
 refine ent100 _ _ _ _ ?_
 simp (disch:=first|omega|exact zF rfl|exact zG rfl|exact fun h=>h|(simp only[zA,zB,zC,zD,bytesW];omega)) only[go_sem]
 have s1:=(h.nilRow 3 1).box #[.slice none 0 0] 25
 generalize w.heap.size=bs at s1 ⊢
 generalize w.alloc (.cells #[.slice none 0 0] 25)=w1 at s1 ⊢
 refine RangeW_any (β:=Value) (fun x:Int=>[.int .i64 x]) (fun pre x=>x ∉ pre∧x∈d.map Prod.fst∧pre.length<d.length) (fun xs=>xs.Perm (d.map Prod.fst)) (fun u pre=>.blk bs #[u] 25::.row u 3 1 pre.length (pre.flatMap intE)::.blk bx #[.map (some mb)] 91::.obj mb (mapG intK idK d c)::L) (.slice none 0 0) rfl (by kernel_rfl) s1 rfl (fun _=>rfl) ?_ ?_ ?_
 ·intro fv J w2 hJ1 hJ2 hf h0
  refine keys1_ok (mb:=mb) fv J w2 (fun R pre w' j=>?_) hJ2 (fun R pre x w' j e=>hf R pre x w' j e) hk hb hc h0
  obtain ⟨l,D,o,u,hX⟩:=hJ1 R pre w' j
  exact ⟨(hX.blk 4 rfl).cell 0,hX.obj 5 rfl,.obj l o::.obj D (.deferred (some []))::(.blk bs #[u] 25::.row u 3 1 pre.length (pre.flatMap intE)::.blk bx #[.map (some mb)] 91::.obj mb (mapG intK idK d c)::L),hX⟩
 ·intro R u pre x w' l D o o2 hx h1
  obtain ⟨e1,e2,e3⟩:=hx
  simp (disch:=first|omega|exact zF rfl|exact zG rfl|exact fun h=>h|(simp only[zA,zB,zC,zD,bytesW];omega)) only[go_sem,c100A0,c100B0,c100A0,c100B0]
  refine ⟨_,h1,fun w2 h2=>?_⟩
  obtain ⟨ao,co,rfl,_⟩:=own_slice (h2.row 3 rfl)
  have r2:=h2.rules 2 rfl
  simp (disch:=first|omega|exact zF rfl|exact zG rfl|exact fun h=>h|(simp only[zA,zB,zC,zD,bytesW];omega)) only[go_sem,c100A0,c100B0,r2]
  refine bsW_ones ty25mkI rfl rfl (Nat.le_of_ble_eq_true rfl) (by simp [intE]) (int_one x) ?_
  have hx:Rd (w2.alloc (.cells (intE x).toArray 3)) 1 (.slice (some ⟨w2.heap.size,0,none⟩) 1 1) 1 (intE x):=rd_new (n:=1) (cs:=(intE x).toArray) rfl
  simp (disch:=first|omega|exact zF rfl|exact zG rfl|exact fun h=>h|(simp only[zA,zB,zC,zD,bytesW];omega)) only[go_sem,c100A0,c100B0]
  refine (h2.alloc' (.cells (intE x).toArray 3)).append 3 rfl ty25mkI rfl (by decide) hx (int_one x) (by omega) (by omega) ?_
  intro u' w4 s4 _
  obtain ⟨ao',co',rfl,_⟩:=own_slice (s4.row 3 rfl)
  have r4:=s4.rules 2 rfl
  have s5:=s4.set 2 rfl 0 (.slice ao' (pre.length+1) co')
  simp (disch:=first|omega|exact zF rfl|exact zG rfl|exact fun h=>h|(simp only[zA,zB,zC,zD,bytesW];omega)) only[go_sem,c100A0,c100B0,r4]
  refine ⟨.slice ao' (pre.length+1) co',st_recast s5 ?_⟩
  rw [List.length_append,List.flatMap_append,List.flatMap_singleton]
  rfl
 ·intro xs u D w' hG h1
  obtain ⟨ao,co,rfl,_⟩:=own_slice (h1.row 2 rfl)
  have r1:=h1.rules 1 rfl
  have hD:=h1.obj 0 rfl
  simp (disch:=first|omega|exact zF rfl|exact zG rfl|exact fun h=>h|(simp only[zA,zB,zC,zD,bytesW];omega)) only[go_sem,c100A0,c100B0,r1,hD]
  refine ⟨xs,hG,?_⟩
  exact ((h1.putObj 0 rfl (.deferred none)).sub (L':=.row (.slice ao xs.length co) 3 1 xs.length (xs.flatMap intE)::.blk bx #[.map (some mb)] 91::.obj mb (mapG intK idK d c)::L) (by simp))
theorem collect_ok{d:List (Int × Value × Nat)}{c bx:Nat}(h:St W0 w F (.blk bx #[.map (some mb)] 91::.obj mb (mapG intK idK d c)::L) I)(hk:(d.map Prod.fst).Nodup)(hb:(d.map fun x=>x.2.2).Nodup)(hc:∀ x∈d,x.2.2<c)(hd:d.length≤100000) :
  Ret Tryz.prog 77 [.func (.func 79) #[] #[.pointer (some ⟨bx,0,none⟩)]] w fun u w'=>∃ ks:List Int,ks.Perm (d.map Prod.fst)∧St W0 w' F (.row u 3 1 ks.length (ks.flatMap intE)::.blk bx #[.map (some mb)] 91::.obj mb (mapG intK idK d c)::L) I:=by
 refine ent77 _ _ _ ?_
 simp (disch:=first|omega|exact zF rfl|exact zG rfl|exact fun h=>h|(simp only[zA,zB,zC,zD,bytesW];omega)) only[go_sem]
 refine Ret.mono (appendKeys_ok h hk hb hc hd) ?_
 rintro u w2 ⟨ks,hp,s2⟩
 obtain ⟨ao,co,rfl,_⟩:=own_slice (s2.row 0 rfl)
 simp (disch:=first|omega|exact zF rfl|exact zG rfl|exact fun h=>h|(simp only[zA,zB,zC,zD,bytesW];omega)) only[go_sem]
 exact ⟨ks,hp,s2⟩
theorem sortedK_ok{d:List (Int × Value × Nat)}{c bx:Nat}(h:St W0 w F (.blk bx #[.map (some mb)] 91::.obj mb (mapG intK idK d c)::L) I)(hk:(d.map Prod.fst).Nodup)(hb:(d.map fun x=>x.2.2).Nodup)(hc:∀ x∈d,x.2.2<c)(hd:d.length≤100000) :
  Ret Tryz.prog 48 [.func (.func 79) #[] #[.pointer (some ⟨bx,0,none⟩)]] w fun u w'=>∃ ts:List Int,ts.Perm (d.map Prod.fst)∧ts.Pairwise (·≤·)∧St W0 w' F (.row u 3 1 ts.length (ts.flatMap intE)::.blk bx #[.map (some mb)] 91::.obj mb (mapG intK idK d c)::L) I:=by
 refine ent48 _ _ _ ?_
 simp (disch:=first|omega|exact zF rfl|exact zG rfl|exact fun h=>h|(simp only[zA,zB,zC,zD,bytesW];omega)) only[go_sem]
 refine Ret.mono (collect_ok h hk hb hc hd) ?_
 rintro u w2 ⟨ks,hp,s2⟩
 have hkl:ks.length=d.length:=by rw [hp.length_eq,List.length_map]
 obtain ⟨ao,co,rfl,_⟩:=own_slice (s2.row 0 rfl)
 have gS:goFunc Tryz.prog 78=true:=by kernel_rfl
 simp (disch:=first|omega|exact zF rfl|exact zG rfl|exact fun h=>h|(simp only[zA,zB,zC,zD,bytesW];omega)) only[go_sem,gS]
 refine Ret.mono (sortI_ok s2 (by omega)) ?_
 rintro _ w3 ⟨rfl,ts,⟨h1,h2⟩,s3⟩
 simp (disch:=first|omega|exact zF rfl|exact zG rfl|exact fun h=>h|(simp only[zA,zB,zC,zD,bytesW];omega)) only[go_sem]
 exact ⟨ts,h1.trans hp,h2,by rw [h1.length_eq]; exact s3⟩
end
end Go.Proofs.YtoadmihnihfjkaaGreat.Cut

namespace Go.Proofs.YtoadmihnihfjkaaGreat.Cut
open Go Go.Ann Go.RowKit Go.WideShapes Go.Shelf
def rowO(t:List OpT)(p:Int)(v:Value):Res:=.row v 52 11 (ofProc p t).length ((ofProc p t).flatMap OpT.enc)
def rowsO(t:List OpT)(d:List (Int × Value × Nat)):List Res:=d.map fun x=>rowO t x.1 x.2.1
theorem ofProc_one(x:Int)(t:List OpT)(o:OpT):ofProc x (t++[o])=ofProc x t++if o.Proc=x then [o] else []:=by
 unfold ofProc
 rw [List.filter_append]
 by_cases h:o.Proc=x <;> simp [h]
theorem rowO_other{t:List OpT}{o:OpT}{p:Int}(h:o.Proc≠p)(v:Value):rowO (t++[o]) p v=rowO t p v:=by
 unfold rowO
 rw [ofProc_one,if_neg h,List.append_nil]
theorem rows_other{t:List OpT}{o:OpT}{d:List (Int × Value × Nat)}(h:∀ x∈d,o.Proc≠x.1):rowsO (t++[o]) d=rowsO t d:=by
 unfold rowsO
 exact List.map_congr_left fun x hx=>rowO_other (h x hx) _
theorem rows_some{t:List OpT}{o:OpT}{v:Value}:∀ {d:List (Int × Value × Nat)},(d.map Prod.fst).Nodup→getM o.Proc d=some v→∃ R,(rowsO t d).Perm (rowO t o.Proc v::R)∧∀ v' c,(rowO (t++[o]) o.Proc v'::R).Perm (rowsO (t++[o]) (setM o.Proc v' c d))
 | [],_,h=>by cases h
 | x::d,hn,h=>by
  rw [List.map_cons,List.nodup_cons] at hn
  simp only [getM] at h
  by_cases e:o.Proc=x.1
  ·rw [if_pos e] at h
   simp only [Option.some.injEq] at h
   refine ⟨rowsO t d,by unfold rowsO; rw [List.map_cons,e,h],fun v' c=>?_⟩
   rw [show setM o.Proc v' c (x::d)=(x.1,v',x.2.2)::d from if_pos e]
   have:rowsO (t++[o]) d=rowsO t d:=rows_other fun y hy e2=>hn.1 (by rw [← e,e2]; exact List.mem_map_of_mem hy)
   show (_::_).Perm (rowO (t++[o]) x.1 v'::rowsO (t++[o]) d)
   rw [this,e]
  ·rw [if_neg e] at h
   obtain ⟨R,h1,h2⟩:=rows_some hn.2 h
   refine ⟨rowO t x.1 x.2.1::R,(h1.cons _).trans (List.Perm.swap ..),fun v' c=>?_⟩
   rw [show setM o.Proc v' c (x::d)=x::setM o.Proc v' c d from if_neg e]
   show (_::_).Perm (rowO (t++[o]) x.1 x.2.1::rowsO (t++[o]) (setM o.Proc v' c d))
   rw [rowO_other e]
   exact (List.Perm.swap ..).trans ((h2 v' c).cons _)
theorem getM_none{p:Int}:∀ {d:List (Int × Value × Nat)},getM p d=none→∀ x∈d,p≠x.1
 | [],_,_,h=>by cases h
 | y::d,h,x,hx=>by
  simp only [getM] at h
  by_cases e:p=y.1
  ·rw [if_pos e] at h; cases h
  ·rw [if_neg e] at h
   rcases List.mem_cons.1 hx with rfl | hx
   ·exact e
   ·exact getM_none h x hx
theorem setM_none{p:Int}{v:Value}{c:Nat}:∀ {d:List (Int × Value × Nat)},getM p d=none→setM p v c d=d++[(p,v,c)]
 | [],_=>rfl
 | y::d,h=>by
  simp only [getM] at h
  by_cases e:p=y.1
  ·rw [if_pos e] at h; cases h
  ·rw [if_neg e] at h
   rw [show setM p v c (y::d)=y::setM p v c d from if_neg e,setM_none h]; rfl
theorem rows_none{t:List OpT}{o:OpT}{d:List (Int × Value × Nat)}(h:getM o.Proc d=none)(v':Value)(c:Nat):(rowO (t++[o]) o.Proc v'::rowsO t d).Perm (rowsO (t++[o]) (setM o.Proc v' c d)):=by
 rw [setM_none h]
 unfold rowsO
 rw [List.map_append]
 have:=rows_other (t:=t) (o:=o) (d:=d) (getM_none h)
 unfold rowsO at this
 rw [this]
 exact (List.perm_append_singleton _ _).symm
theorem getM_key{p:Int}{v:Value}:∀ {d:List (Int × Value × Nat)},getM p d=some v→∃ x∈d,x.1=p∧x.2.1=v
 | [],h=>by cases h
 | y::d,h=>by
  simp only [getM] at h
  by_cases e:p=y.1
  ·rw [if_pos e] at h
   exact ⟨y,List.mem_cons_self,e.symm,Option.some.inj h⟩
  ·rw [if_neg e] at h
   obtain ⟨x,hx,h1⟩:=getM_key h
   exact ⟨x,List.mem_cons_of_mem _ hx,h1⟩
theorem getM_mem{d:List (Int × Value × Nat)}(hn:(d.map Prod.fst).Nodup){x:Int × Value × Nat}(hx:x∈d):getM x.1 d=some x.2.1:=by
 induction d with
 | nil=>cases hx
 | cons y d ih =>
  rw [List.map_cons,List.nodup_cons] at hn
  simp only [getM]
  rcases List.mem_cons.1 hx with rfl | hx
  ·rw [if_pos rfl]
  ·rw [if_neg fun e=>hn.1 (by rw [← e]; exact List.mem_map_of_mem hx),ih hn.2 hx]
structure ByM(t:List OpT)(d:List (Int × Value × Nat))(c:Nat):Prop where
 nd:(d.map Prod.fst).Nodup
 bn:(d.map fun x=>x.2.2).Nodup
 lt:∀ x∈d,x.2.2<c
 mem:∀ p,p∈d.map Prod.fst↔∃ o∈t,o.Proc=p
 few:d.length≤t.length
theorem setM_keys{p:Int}{v v0:Value}{c:Nat}:∀ {d:List (Int × Value × Nat)},getM p d=some v0→(setM p v c d).map Prod.fst=d.map Prod.fst∧(setM p v c d).map (fun x=>x.2.2)=d.map fun x=>x.2.2
 | [],h=>by cases h
 | y::d,h=>by
  simp only [getM] at h
  by_cases e:p=y.1
  ·rw [show setM p v c (y::d)=(y.1,v,y.2.2)::d from if_pos e]; exact ⟨rfl,rfl⟩
  ·rw [if_neg e] at h
   obtain ⟨h1,h2⟩:=setM_keys (v:=v) (c:=c) h
   rw [show setM p v c (y::d)=y::setM p v c d from if_neg e]
   simp only [List.map_cons,h1,h2,and_self]
theorem ByM.step{t:List OpT}{d:List (Int × Value × Nat)}{c:Nat}(h:ByM t d c)(o:OpT)(v:Value):ByM (t++[o]) (setM o.Proc v c d) (if (getM o.Proc d).isSome then c else c+1):=by
 cases hg:getM o.Proc d with
 | some v0 =>
  obtain ⟨h1,h2⟩:=setM_keys (v:=v) (c:=c) hg
  simp only [Option.isSome_some,if_true]
  obtain ⟨y,hy,hy1,_⟩:=getM_key hg
  refine ⟨by rw [h1]; exact h.nd,by rw [h2]; exact h.bn,fun x hx=>?_,fun p=>?_,?_⟩
  ·have:x.2.2∈(setM o.Proc v c d).map fun x=>x.2.2:=List.mem_map_of_mem (f:=fun x:Int × Value × Nat=>x.2.2) hx
   rw [h2] at this
   obtain ⟨z,hz,e⟩:=List.mem_map.1 this
   rw [← e]; exact h.lt z hz
  ·rw [h1,h.mem]
   constructor
   ·rintro ⟨a,ha,e⟩; exact ⟨a,List.mem_append_left _ ha,e⟩
   ·rintro ⟨a,ha,e⟩
    rcases List.mem_append.1 ha with ha | ha
    ·exact ⟨a,ha,e⟩
    ·rw [List.mem_singleton] at ha; subst ha
     exact (h.mem p).1 (by rw [← e,← hy1]; exact List.mem_map_of_mem hy)
  ·have:=congrArg List.length h1
   rw [List.length_map,List.length_map] at this
   rw [this,List.length_append]; have:=h.few; omega
 | none =>
  rw [setM_none hg]
  simp only [Option.isSome_none,Bool.false_eq_true,if_false]
  refine ⟨?_,?_,fun x hx=>?_,fun p=>?_,by simp only [List.length_append,List.length_singleton]; have:=h.few; omega⟩
  ·rw [List.map_append,List.nodup_append]
   refine ⟨h.nd,List.pairwise_singleton _ _,fun a ha b hb e=>?_⟩
   simp only [List.map_cons,List.map_nil,List.mem_singleton] at hb
   obtain ⟨x,hx,rfl⟩:=List.mem_map.1 ha
   exact getM_none hg x hx (by rw [e,hb])
  ·rw [List.map_append,List.nodup_append]
   refine ⟨h.bn,List.pairwise_singleton _ _,fun a ha b hb e=>?_⟩
   simp only [List.map_cons,List.map_nil,List.mem_singleton] at hb
   obtain ⟨x,hx,rfl⟩:=List.mem_map.1 ha
   have:=h.lt x hx
   omega
  ·rcases List.mem_append.1 hx with hx | hx
   ·have:=h.lt x hx; omega
   ·rw [List.mem_singleton] at hx; subst hx; exact Nat.lt_succ_self _
  ·rw [List.map_append,List.mem_append,h.mem]
   constructor
   ·rintro (⟨a,ha,e⟩ | hp)
    ·exact ⟨a,List.mem_append_left _ ha,e⟩
    ·simp only [List.map_cons,List.map_nil,List.mem_singleton] at hp
     exact ⟨o,by simp,hp.symm⟩
   ·rintro ⟨a,ha,e⟩
    rcases List.mem_append.1 ha with ha | ha
    ·exact .inl ⟨a,ha,e⟩
    ·rw [List.mem_singleton] at ha; subst ha; exact .inr (by simp [e])
end Go.Proofs.YtoadmihnihfjkaaGreat.Cut

namespace Go.Proofs.YtoadmihnihfjkaaGreat.Cut
open Go Go.Ann Go.RowKit Go.WideShapes Go.Shelf
theorem progs1_ok(a b:OpT)(w:World):Ret Tryz.prog 51 [.agg a.enc.toArray,.agg b.enc.toArray] w fun u w'=>u=.int .i64 (earI a b)∧Gr w w':=by
 refine ent51 _ _ _ _ ?_
 have ha:=a.at; have hb:=b.at
 simp (disch:=first|omega|exact zF rfl|exact zG rfl|exact fun h=>h|(simp only[zA,zB,zC,zD,bytesW];omega)) only[go_sem,ha,hb]
 refine c51draw0 (Chg (fun _=>False) _) (Chg.refl _ _) ?_
 simp (disch:=first|omega|exact zF rfl|exact zG rfl|exact fun h=>h|(simp only[zA,zB,zC,zD,bytesW];omega)) only[go_sem,c51D0,ha,hb]
 refine Ret.mono (compare_ok _ _ _) ?_
 rintro _ _ ⟨rfl,rfl⟩
 simp (disch:=first|omega|exact zF rfl|exact zG rfl|exact fun h=>h|(simp only[zA,zB,zC,zD,bytesW];omega)) only[go_sem,c51D0,ha,hb]
 refine Ret.mono (compare_ok _ _ _) ?_
 rintro _ _ ⟨rfl,rfl⟩
 simp (disch:=first|omega|exact zF rfl|exact zG rfl|exact fun h=>h|(simp only[zA,zB,zC,zD,bytesW];omega)) only[go_sem,c51D0,ha,hb]
 refine bsW_ones ty25mkI rfl rfl (by decide) (by decide) (by intro v hv; simp only [List.mem_cons,List.not_mem_nil,or_false] at hv; rcases hv with rfl | rfl <;> rfl) ?_
 simp (disch:=first|omega|exact zF rfl|exact zG rfl|exact fun h=>h|(simp only[zA,zB,zC,zD,bytesW];omega)) only[go_sem,c51D0,ha,hb]
 refine ⟨chg_da,Ret.mono (or_ok _ [cmpI a.Invoke b.Invoke,cmpI a.ID b.ID] _ ((ints2_new _ _ (by simp)).below (Below.refl _ _).drew (by decide)) (by simp)) ?_⟩
 rintro _ _ ⟨rfl,rfl⟩
 simp (disch:=first|omega|exact zF rfl|exact zG rfl|exact fun h=>h|(simp only[zA,zB,zC,zD,bytesW];omega)) only[go_sem,c51D0,ha,hb]
 exact ⟨chg_da,rfl,(((((Gr.refl w).alloc _).alloc _)).alloc _).drew⟩
def oneE(v:Value):List Value:=[v]
theorem flatMap_one(vs:List Value):vs.flatMap oneE=vs:=by
 induction vs with
 | nil=>rfl
 | cons v vs ih=>rw [List.flatMap_cons,ih]; rfl
structure Progs(w:World)(B:Nat)(u:Value)(acc:List Seg)(vs:List Value):Prop where
 len:vs.length=acc.length
 top:RdS w 1 oneE u vs
 elt:∀ (j:Nat) (s:Seg) (v:Value),acc[j]?=some s→vs[j]?=some v→RdS w 11 OpT.enc v s.ops∧s.ops.length≤100
 newT:∀ k,slFoot u k→B≤k
 newE:∀ v∈vs,∀ k,slFoot v k→B≤k
theorem rowsO_keys{l:List OpT}{d:List (Int × Value × Nat)}{ks:List Int}(hn:(d.map Prod.fst).Nodup)(hp:ks.Perm (d.map Prod.fst)):(ks.map fun p=>rowO l p ((getM p d).getD (.slice none 0 0))).Perm (rowsO l d):=by
 refine (hp.map _).trans ?_
 rw [List.map_map]
 unfold rowsO
 refine List.Perm.of_eq (List.map_congr_left fun x hx=>?_)
 simp only [Function.comp]
 rw [getM_mem hn hx]; rfl
theorem progs7{W0 w2:World}{l:List OpT}{mb cl:Nat}{d:List (Int × Value × Nat)}(hM:ByM l d cl)(s2:St W0 w2 (fun _=>False) (.obj mb (mapG intK idK d cl)::rowsO l d) [])(hl:l.length≤100) :
  W Tryz.prog (c24S7 ()) [(3,.map (some mb))] w2 (finQ Tryz.prog [.tmp 2] fun u w'=>(∃ acc vs,ByProc l acc∧Progs w' W0.heap.size u acc vs)∧Below W0.heap.size W0 w'):=by
 simp (disch:=first|omega|exact zF rfl|exact zG rfl|exact fun h=>h|(simp only[zA,zB,zC,zD,bytesW];omega)) only[go_sem,c24L0,c24S7]
 refine Ret.mono (keys_ok w2) ?_
 rintro _ _ ⟨rfl,rfl⟩
 have s3:=s2.box #[.map (some mb)] 91
 generalize w2.heap.size=bx at s3 ⊢
 generalize w2.alloc (.cells #[.map (some mb)] 91)=w3 at s3 ⊢
 simp (disch:=first|omega|exact zF rfl|exact zG rfl|exact fun h=>h|(simp only[zA,zB,zC,zD,bytesW];omega)) only[go_sem,c24L0,c24S7]
 have hdl:=hM.few
 refine Ret.mono (sortedK_ok s3 hM.nd hM.bn hM.lt (by omega)) ?_
 rintro u w4 ⟨ks,hp,hord,s4⟩
 have hkl:ks.length=d.length:=by rw [hp.length_eq,List.length_map]
 obtain ⟨au,cu,rfl,_⟩:=own_slice (s4.row 0 rfl)
 have hnd:ks.Nodup:=hp.nodup_iff.2 hM.nd
 have hup:ks.Pairwise (· < ·):=by
  have:=hord.and hnd
  exact this.imp fun h=>by have:=h.1; have:=h.2; omega
 have hmem:∀ p,p∈ks↔∃ o∈l,o.Proc=p:=fun p=>by rw [hp.mem_iff]; exact hM.mem p
 have s5:=(s4.perm (L':=.blk bx #[.map (some mb)] 91::.row (.slice au ks.length cu) 3 1 ks.length (ks.flatMap intE)::.obj mb (mapG intK idK d cl)::(ks.map fun p=>rowO l p ((getM p d).getD (.slice none 0 0)))) ((List.Perm.swap ..).trans ((((rowsO_keys hM.nd hp).cons _).cons _).cons _))).sub (List.sublist_cons_self ..)
 have s6:=s5.nilRow 22 1
 clear s2 s3 s4 s5
 simp (disch:=first|omega|exact zF rfl|exact zG rfl|exact fun h=>h|(simp only[zA,zB,zC,zD,bytesW];omega)) only[go_sem,c24L0,c24S5,c24S7]
 refine W_loopU (fun x:Nat × Value=>[(6,x.2),(31,.int .i64 x.1)]) (fun x w'=>x.1≤ks.length∧∃ acc vs,vs.length=acc.length∧acc.map Seg.obj=ks.take x.1∧(∀ s∈acc,Sorts earI (ofProc s.obj l) s.ops)∧(∀ s∈acc,∃ o r,s.ops=o::r∧s.kind=o.Kind)∧(∀ v∈vs,∀ k,slFoot v k→W0.heap.size≤k)∧St W0 w' (fun _=>False) (.row x.2 22 1 acc.length vs::.row (.slice au ks.length cu) 3 1 ks.length (ks.flatMap intE)::.obj mb (mapG intK idK d cl)::((ks.drop x.1).map fun p=>rowO l p ((getM p d).getD (.slice none 0 0)))) (segInvs acc vs)) (fun x=>ks.length - x.1) (0,.slice none 0 0) rfl ⟨Nat.zero_le _,[],[],rfl,rfl,(fun s h=>by cases h),(fun s h=>by cases h),(fun v h=>by cases h),s6⟩ ?_
 rintro ⟨i,vo⟩ w5 ⟨hi,acc,vs,hvs,hobj,hsorts,hkind,hnew,s7⟩
 simp only at hi hobj s7
 have hal:acc.length=i:=by have:=congrArg List.length hobj; rw [List.length_map,List.length_take] at this; omega
 by_cases hlt:i<ks.length
 ·have hlt':(i:Int)<ks.length:=by omega
  have hR:RdS w5 1 intE (.slice au ks.length cu) ks:=RdS.of_own (s7.row 1 rfl)
  obtain ⟨q,rfl⟩:=hR.ptr (by omega)
  have ek:=hR.at1 (e1:=fun n=>.int .i64 n) hlt
  obtain ⟨p,hpe⟩:∃ p,p=ks[i]:=⟨_,rfl⟩
  have hpm:p∈ks:=by rw [hpe]; exact List.getElem_mem hlt
  obtain ⟨x,hx,hxe⟩:=List.mem_map.1 (hp.mem_iff.1 hpm)
  have hg:getM p d=some x.2.1:=by rw [← hxe]; exact getM_mem hM.nd hx
  obtain ⟨v,hv⟩:∃ v,v=x.2.1:=⟨_,rfl⟩
  rw [← hv] at hg
  rw [← hpe] at ek
  have hdr:ks.drop i=p::ks.drop (i+1):=by rw [hpe]; exact List.drop_eq_getElem_cons hlt
  rw [hdr,List.map_cons,hg] at s7
  change St W0 w5 (fun _=>False) (_::_::_::rowO l p v::_) _ at s7
  have hol:=ofProc_len p l
  simp (disch:=first|omega|exact zF rfl|exact zG rfl|exact fun h=>h|(simp only[zA,zB,zC,zD,bytesW];omega)) only[go_sem,c24L0,c24S5,c24S7,hlt',ek]
  refine ⟨by omega,luG_map (ek:=intK) (ev:=idK) keyT_i Tryz.underlying91 (s7.obj 2 rfl) p (by rfl) ?_⟩
  rw [hg]
  simp (disch:=first|omega|exact zF rfl|exact zG rfl|exact fun h=>h|(simp only[zA,zB,zC,zD,bytesW];omega)) only[go_sem,c24L0,c24S5,c24S7,luG,idK]
  refine Ret.mono (sort_ok earI _ (enters_of Tryz.func51 (by kernel_rfl) rfl) swo_ear progs1_ok v (ofProc p l) w5 _ (s7.row 3 rfl) (by omega)) ?_
  rintro _ w6 ⟨l',hs,o6,c6⟩
  have s8:=s7.upd 3 rfl c6 (.row v 52 11 (ofProc p l).length (l'.flatMap OpT.enc)) o6 fun k hk=>.inl hk
  have hll:l'.length=(ofProc p l).length:=hs.1.length_eq
  simp only [List.set_cons_succ,List.set_cons_zero] at s8
  have s9:=s8.perm (L':=.row v 52 11 (ofProc p l).length (l'.flatMap OpT.enc)::.row vo 22 1 acc.length vs::.row (.slice (some q) ks.length cu) 3 1 ks.length (ks.flatMap intE)::.obj mb (mapG intK idK d cl)::((ks.drop (i+1)).map fun p=>rowO l p ((getM p d).getD (.slice none 0 0)))) ((List.Perm.swap ..).trans (((List.Perm.swap ..).trans ((List.Perm.swap ..).cons _)).cons _))
  have s10:=s9.seal (.rd 11 OpT.enc v l') (RdS.of_own' (s9.row 0 rfl) l' hll.symm rfl) fun k hk=>slFoot_own hk
  clear s7 s8 s9 c6
  simp (disch:=first|omega|exact zF rfl|exact zG rfl|exact fun h=>h|(simp only[zA,zB,zC,zD,bytesW];omega)) only[go_sem,c24L0,c24S5,c24S7]
  refine luG_map (ek:=intK) (ev:=idK) keyT_i Tryz.underlying91 (s10.obj 2 rfl) p (by rfl) ?_
  rw [hg]
  simp (disch:=first|omega|exact zF rfl|exact zG rfl|exact fun h=>h|(simp only[zA,zB,zC,zD,bytesW];omega)) only[go_sem,c24L0,c24S5,c24S7,luG,idK]
  refine bsW_ones ty31mkI rfl rfl (by decide) (by decide) (by intro u hu; rw [List.mem_singleton] at hu; subst hu; obtain ⟨a,b,rfl,_⟩:=own_slice o6; rfl) ?_
  have s11:=s10.alloc' (.cells #[v] 22)
  have hrd:Rd (w6.alloc (.cells #[v] 22)) 1 (.slice (some ⟨w6.heap.size,0,none⟩) 1 1) 1 [v]:=rd_new (t:=22) (sz:=1) (n:=1) (cs:=#[v]) rfl
  simp (disch:=first|omega|exact zF rfl|exact zG rfl|exact fun h=>h|(simp only[zA,zB,zC,zD,bytesW];omega)) only[go_sem,c24L0,c24S5,c24S7]
  generalize w6.alloc (.cells #[v] 22)=w7 at s11 hrd ⊢
  refine s11.append 0 rfl ty31mkI rfl (by decide) hrd (by intro u hu; rw [List.mem_singleton] at hu; subst hu; obtain ⟨a,b,rfl,_⟩:=own_slice o6; rfl) (by omega) (by omega) ?_
  intro v8 w8 s12 _
  simp only [List.set_cons_zero] at s12
  simp (disch:=first|omega|exact zF rfl|exact zG rfl|exact fun h=>h|(simp only[zA,zB,zC,zD,bytesW];omega)) only[go_sem,c24L0,c24S5,c24S7]
  obtain ⟨o,ho,hop⟩:=(hmem p).1 hpm
  have hne:l'≠[]:=fun e=>by
   have hm:o∈ofProc p l:=by unfold ofProc; rw [List.mem_filter]; exact ⟨ho,by simpa using hop⟩
   rw [e] at hll
   rw [List.eq_nil_of_length_eq_zero hll.symm] at hm
   cases hm
  obtain ⟨y,r,rfl⟩:=List.exists_cons_of_ne_nil hne
  refine ⟨⟨by omega,by omega⟩,(i+1,v8),rfl,⟨by simp only; omega,acc++[⟨p,y.Kind,y::r⟩],vs++[v],by simp [hvs],?_,fun s hm=>?_,fun s hm=>?_,fun x hm=>?_,?_⟩,by simp only; omega⟩
  ·rw [List.map_append,hobj,List.take_succ_eq_append_getElem hlt,hpe]; rfl
  ·rcases List.mem_append.1 hm with hm | hm
   ·exact hsorts s hm
   ·rw [List.mem_singleton] at hm; subst hm; exact hs
  ·rcases List.mem_append.1 hm with hm | hm
   ·exact hkind s hm
   ·rw [List.mem_singleton] at hm; subst hm; exact ⟨y,r,rfl,rfl⟩
  ·rcases List.mem_append.1 hm with hm | hm
   ·exact hnew x hm
   ·rw [List.mem_singleton] at hm; subst hm
    exact fun k hk=>(o6.lt k (slFoot_own hk)).1
  ·simp only
   rw [List.length_append,List.length_singleton]
   refine St.inv_sub s12 fun a ha=>?_
   rcases (segInvs_snoc acc vs _ _ hvs a).1 ha with rfl | ha
   ·exact List.mem_cons_self
   ·exact List.mem_cons_of_mem _ ha
 ·have hlt':¬ (i:Int)<ks.length:=by omega
  have hii:i=ks.length:=by omega
  subst hii
  rw [List.take_length] at hobj
  simp (disch:=first|omega|exact zF rfl|exact zG rfl|exact fun h=>h|(simp only[zA,zB,zC,zD,bytesW];omega)) only[go_sem,c24L0,c24S5,c24S7,hlt']
  have o7:=s7.row 0 rfl
  rw [← hvs] at o7
  refine ⟨⟨acc,vs,⟨?_,hsorts,hkind,fun o ho=>?_⟩,hvs,RdS.of_own' o7 vs rfl (flatMap_one vs).symm,fun j s v hs hv=>⟨(s7.inv _ (segInvs_mem acc vs j s v hs hv)).1,?_⟩,fun k hk=>(o7.lt k (slFoot_own hk)).1,hnew⟩,s7.bel⟩
  ·rw [← List.pairwise_map (f:=Seg.obj) (R:=(· < ·)),hobj]; exact hup
  ·have:=(hmem o.Proc).2 ⟨o,ho,rfl⟩
   rw [← hobj] at this
   obtain ⟨s,hs,e⟩:=List.mem_map.1 this
   exact ⟨s,hs,e⟩
  ·have e1:=(hsorts s (List.mem_of_getElem? hs)).1.length_eq
   have e2:=ofProc_len s.obj l
   omega
theorem programs_ok(v:Value)(l:List OpT)(w:World)(h:RdS w 11 OpT.enc v l)(hl:l.length≤100) :
  Ret Tryz.prog 24 [v] w fun u w'=>(∃ acc vs,ByProc l acc∧Progs w' w.heap.size u acc vs)∧Below w.heap.size w w':=by
 obtain ⟨a,c,rfl,_⟩:=h.form
 refine ent24 _ _ _ ?_
 simp (disch:=first|omega|exact zF rfl|exact zG rfl|exact fun h=>h|(simp only[zA,zB,zC,zD,bytesW];omega)) only[go_sem,c24S5]
 refine mmG (ek:=intK) (ev:=idK) ?_
 have s1:=(St.start (W0:=w)).lay (mapG intK idK [] 0)
 generalize hw1:w.alloc (mapG intK idK [] 0)=w1 at s1 ⊢
 generalize hmb:w.heap.size=mb at s1 ⊢
 simp (disch:=first|omega|exact zF rfl|exact zG rfl|exact fun h=>h|(simp only[zA,zB,zC,zD,bytesW];omega)) only[go_sem,c24S5]
 refine W_loopU (fun k:Nat=>[(12,.int .i64 k)]) (fun k w'=>k≤l.length∧∃ d c,ByM (l.take k) d c∧St w w' (fun _=>False) (.obj mb (mapG intK idK d c)::rowsO (l.take k) d) []) (fun k=>l.length - k) 0 rfl ⟨Nat.zero_le _,[],0,⟨List.Pairwise.nil,List.Pairwise.nil,(fun x hx=>by cases hx),(fun p=>by simp),Nat.zero_le _⟩,s1⟩ ?_
 rintro k w2 ⟨hk,d,cl,hM,s2⟩
 by_cases hlt:k<l.length
 ·have hlt':(k:Int)<l.length:=by omega
  obtain ⟨q,rfl⟩:=h.ptr (by omega)
  have ek:=h.eltB s2.bel OpT.len (by decide) hlt
  have ck:=cellsO_below s2.bel (h.at OpT.len hlt)
  have hts:l.take (k+1)=l.take k++[l[k]]:=List.take_succ_eq_append_getElem hlt
  generalize l[k]=o at *
  have ao:=o.at
  simp (disch:=first|omega|exact zF rfl|exact zG rfl|exact fun h=>h|(simp only[zA,zB,zC,zD,bytesW];omega)) only[go_sem,c24L0,c24S5,c24L0,hlt',ck]
  refine ⟨by omega,?_⟩
  have s3:=s2.box o.enc.toArray 52
  generalize w2.heap.size=b0 at s3 ⊢
  generalize w2.alloc (.cells o.enc.toArray 52)=w3 at s3 ⊢
  refine ⟨by simp [OpT.len],c24draw0 (Same (fun k=>k=b0) _) (Same.refl _ _) ?_⟩
  have s4:=s3.drew
  have r4:=s4.rules 0 rfl
  generalize w3.drew=w4 at s4 r4 ⊢
  have sm:∀ w',Blk w' b0 o.enc.toArray 52→Same (fun k=>k=b0) w4 w':=fun w' hB b hb=>by subst hb; exact Eq.trans hB (s4.blk 0 rfl).symm
  obtain ⟨v,R,hv,hperm,s5⟩:∃ v R,luG idK (.slice none 0 0) (getM o.Proc d) false=v∧(∀ v' c',(rowO (l.take k++[o]) o.Proc v'::R).Perm (rowsO (l.take k++[o]) (setM o.Proc v' c' d)))∧St w w4 (fun _=>False) (rowO (l.take k) o.Proc v::.blk b0 o.enc.toArray 52::.obj mb (mapG intK idK d cl)::R) []:=by
   cases hg:getM o.Proc d with
   | some v =>
    obtain ⟨R,h1,h2⟩:=rows_some (t:=l.take k) hM.nd hg
    refine ⟨v,R,rfl,h2,s4.perm ?_⟩
    refine List.Perm.trans ?_ (((h1.symm.cons _).cons _))
    exact (List.Perm.swap ..).trans ((List.Perm.swap ..).cons _)
   | none =>
    have e0:ofProc o.Proc (l.take k)=[]:=by
     unfold ofProc
     rw [List.filter_eq_nil_iff]
     intro x hx hp
     rw [decide_eq_true_eq] at hp
     obtain ⟨y,hy,hy1⟩:=List.mem_map.1 ((hM.mem o.Proc).2 ⟨x,hx,hp⟩)
     exact getM_none hg y hy hy1.symm
    refine ⟨_,rowsO (l.take k) d,rfl,rows_none hg,?_⟩
    unfold rowO
    rw [e0]
    exact s4.nilRow 52 11
  have hol:(ofProc o.Proc (l.take k)).length≤100:=by
   have:=ofProc_len o.Proc (l.take k)
   rw [List.length_take] at this; omega
  have hK:∀ v5 w5 (hs:St w w5 (fun _=>False) (rowO (l.take k++[o]) o.Proc v5::.blk b0 o.enc.toArray 52::.obj mb (mapG intK idK d cl)::R) []),St w (w5.putObj mb (mapG intK idK (setM o.Proc v5 cl d) (if (getM o.Proc d).isSome then cl else cl+1))) (fun _=>False) (rowO (l.take k++[o]) o.Proc v5::.blk b0 o.enc.toArray 52::.obj mb (mapG intK idK (setM o.Proc v5 cl d) (if (getM o.Proc d).isSome then cl else cl+1))::R) []:=fun v5 w5 hs=>hs.putObj 2 rfl _
  have hK2:∀ v5 w5 (hs:St w w5 (fun _=>False) (rowO (l.take k++[o]) o.Proc v5::.blk b0 o.enc.toArray 52::.obj mb (mapG intK idK (setM o.Proc v5 cl d) (if (getM o.Proc d).isSome then cl else cl+1))::R) []),k+1≤l.length∧∃ d c,ByM (l.take (k+1)) d c∧St w w5 (fun _=>False) (.obj mb (mapG intK idK d c)::rowsO (l.take (k+1)) d) []:=by
   intro v5 w5 hs
   rw [hts]
   refine ⟨hlt,_,_,hM.step o v5,?_⟩
   have hs2:=hs.perm (L':=.blk b0 o.enc.toArray 52::.obj mb (mapG intK idK (setM o.Proc v5 cl d) (if (getM o.Proc d).isSome then cl else cl+1))::rowO (l.take k++[o]) o.Proc v5::R) (((List.Perm.swap ..).cons _).trans (List.Perm.swap ..))
   exact (hs2.sub (List.sublist_cons_self ..)).perm ((hperm v5 cl).symm.cons _)
  have hx:∀ w',Below w4.heap.size w4 w'→Rd (w'.alloc (.cells o.enc.toArray 52)) 11 (.slice (some ⟨w'.heap.size,0,none⟩) 1 1) 1 o.enc:=fun w' _=>rd_new (t:=52) (sz:=11) (n:=1) (cs:=o.enc.toArray) rfl
  have hx0:=hx w4 (Below.refl _ _)
  have s6:=s5.alloc' (.cells o.enc.toArray 52)
  have h0:Rd (w4.alloc (.cells o.enc.toArray 52)) 11 (.slice (some ⟨w4.heap.size,0,none⟩) 1 1) 1 o.enc:=hx0
  have hcast:∀ v7 w7,St w w7 (fun _=>False) ((rowO (l.take k) o.Proc v::.blk b0 o.enc.toArray 52::.obj mb (mapG intK idK d cl)::R).set 0 (.row v7 52 11 ((ofProc o.Proc (l.take k)).length+1) ((ofProc o.Proc (l.take k)).flatMap OpT.enc++o.enc))) []→St w w7 (fun _=>False) (rowO (l.take k++[o]) o.Proc v7::.blk b0 o.enc.toArray 52::.obj mb (mapG intK idK d cl)::R) []:=fun v7 w7 hs=>st_recast hs (by
   unfold rowO
   rw [ofProc_one,if_pos rfl,List.length_append,List.flatMap_append]
   simp)
  simp (disch:=first|omega|exact zF rfl|exact zG rfl|exact fun h=>h|(simp only[zA,zB,zC,zD,bytesW];omega)) only[go_sem,c24L0,c24S5,c24D0,r4,ao]
  refine ⟨luG_map (ek:=intK) (ev:=idK) keyT_i Tryz.underlying91 (s5.obj 2 rfl) o.Proc (by rfl) ?_,bsW_agg ty22mkI rfl (by decide) (by decide) ?_⟩
  ·rw [hv]
   simp (disch:=first|omega|exact zF rfl|exact zG rfl|exact fun h=>h|(simp only[zA,zB,zC,zD,bytesW];omega)) only[go_sem,c24L0,c24S5,c24D0,r4,ao]
   refine ⟨Same.refl _ _,bsW_agg ty22mkI rfl (by decide) (by decide) ?_⟩
   generalize w4.alloc (.cells o.enc.toArray 52)=w6 at s6 h0 ⊢
   simp (disch:=first|omega|exact zF rfl|exact zG rfl|exact fun h=>h|(simp only[zA,zB,zC,zD,bytesW];omega)) only[go_sem,c24L0,c24S5,c24D0,r4,ao]
   refine ⟨sm _ (s6.blk 1 rfl),s6.append 0 rfl ty22mkI rfl (by decide) h0 o.one (by omega) (by omega) ?_⟩
   intro v7 w7 s7 _
   have s7':=hcast v7 w7 s7
   simp (disch:=first|omega|exact zF rfl|exact zG rfl|exact fun h=>h|(simp only[zA,zB,zC,zD,bytesW];omega)) only[go_sem,c24L0,c24S5,c24D0,r4,ao]
   refine ⟨sm _ (s7'.blk 1 rfl),?_⟩
   refine muG_map (ek:=intK) (ev:=idK) keyT_i Tryz.underlying91 (fun a=>by simp [Instr.sameBits,intK]) (s7'.obj 2 rfl) o.Proc v7 ?_
   have s8:=hK v7 w7 s7'
   generalize w7.putObj mb (mapG intK idK (setM o.Proc v7 cl d) (if (getM o.Proc d).isSome then cl else cl+1))=w8 at s8 ⊢
   simp (disch:=first|omega|exact zF rfl|exact zG rfl|exact fun h=>h|(simp only[zA,zB,zC,zD,bytesW];omega)) only[go_sem,c24L0,c24S5,c24D0,r4,ao]
   exact ⟨sm _ (s8.blk 1 rfl),⟨by omega,by omega⟩,k+1,rfl,hK2 _ _ s8,by omega⟩
  ·generalize w4.alloc (.cells o.enc.toArray 52)=w6 at s6 h0 ⊢
   simp (disch:=first|omega|exact zF rfl|exact zG rfl|exact fun h=>h|(simp only[zA,zB,zC,zD,bytesW];omega)) only[go_sem,c24L0,c24S5,c24D0,r4,ao]
   refine ⟨sm _ (s6.blk 1 rfl),luG_map (ek:=intK) (ev:=idK) keyT_i Tryz.underlying91 (s6.obj 2 rfl) o.Proc (by rfl) ?_⟩
   rw [hv]
   simp (disch:=first|omega|exact zF rfl|exact zG rfl|exact fun h=>h|(simp only[zA,zB,zC,zD,bytesW];omega)) only[go_sem,c24L0,c24S5,c24D0,r4,ao]
   refine ⟨sm _ (s6.blk 1 rfl),s6.append 0 rfl ty22mkI rfl (by decide) h0 o.one (by omega) (by omega) ?_⟩
   intro v7 w7 s7 _
   have s7':=hcast v7 w7 s7
   simp (disch:=first|omega|exact zF rfl|exact zG rfl|exact fun h=>h|(simp only[zA,zB,zC,zD,bytesW];omega)) only[go_sem,c24L0,c24S5,c24D0,r4,ao]
   refine ⟨sm _ (s7'.blk 1 rfl),?_⟩
   refine muG_map (ek:=intK) (ev:=idK) keyT_i Tryz.underlying91 (fun a=>by simp [Instr.sameBits,intK]) (s7'.obj 2 rfl) o.Proc v7 ?_
   have s8:=hK v7 w7 s7'
   generalize w7.putObj mb (mapG intK idK (setM o.Proc v7 cl d) (if (getM o.Proc d).isSome then cl else cl+1))=w8 at s8 ⊢
   simp (disch:=first|omega|exact zF rfl|exact zG rfl|exact fun h=>h|(simp only[zA,zB,zC,zD,bytesW];omega)) only[go_sem,c24L0,c24S5,c24D0,r4,ao]
   exact ⟨sm _ (s8.blk 1 rfl),⟨by omega,by omega⟩,k+1,rfl,hK2 _ _ s8,by omega⟩
 ·have hlt':¬ (k:Int)<l.length:=by omega
  have hkk:k=l.length:=by omega
  subst hkk
  rw [List.take_length] at hM s2
  simp (disch:=first|omega|exact zF rfl|exact zG rfl|exact fun h=>h|(simp only[zA,zB,zC,zD,bytesW];omega)) only[go_sem,c24L0,c24S5,c24L0,hlt']
  have:=progs7 hM s2 hl
  rw [hmb] at this
  exact this
end Go.Proofs.YtoadmihnihfjkaaGreat.Cut

namespace Go.Proofs.YtoadmihnihfjkaaGreat
open Go Go.Ann Go.RowKit
def zN(d:List Nat):List Int:=d.map fun n:Nat=>(n:Int)
theorem zN_len(d:List Nat):(zN d).length=d.length:=by simp [zN]
theorem zN_get{d:List Nat}{k:Nat}(hk:k<(zN d).length):(zN d)[k]=((d.getD k 0:Nat):Int):=by
 rw [zN_len] at hk
 simp [zN,List.getD_eq_getElem?_getD,List.getElem?_eq_getElem hk]
theorem zN_cell{w:World}{p:Addr}{n c:Nat}{d:List Nat}(h:RdS w 1 intE (.slice (some p) n c) (zN d)){k:Nat}(hk:k<d.length):w.cell? (p.add k)=some (.int .i64 (d.getD k 0:Nat)):=by
 rw [RdS.int h (by rw [zN_len]; exact hk),zN_get]
theorem txts_len{U:List VS}(h:∀ p∈U,Ok64 p.2∧p.2.length≤1000):(U.flatMap fun p=>txt p.2).length≤10010 * U.length:=by
 induction U with
 | nil=>simp
 | cons p U ih =>
  have h1:=ih fun q hq=>h q (List.mem_cons_of_mem _ hq)
  obtain ⟨h2,h3⟩:=h p List.mem_cons_self
  have h4:=flat_len h2
  have h5:=varL_10 (show p.2.length<18446744073709551616 by omega)
  have e:(txt p.2).length=(varL p.2.length).length+(p.2.flatMap fun n=>varL (foldN n)).length:=by unfold txt; rw [List.length_append]
  rw [List.flatMap_cons,List.length_append,List.length_cons]
  omega
theorem wtext_ok(dv sv:Value)(d:List Nat)(U:List VS)(w:World)(hd:RdS w 1 intE dv (zN d))(hU:RowS w sv U)(hl:d.length≤1000)(hok:∀ p∈U,Ok64 p.2∧p.2.length≤1000)(hUl:U.length≤1000) :
  Ret Tryz.prog 86 [dv,sv] w fun u w'=>u=.string (ofL (d.map u8++U.flatMap fun p=>txt p.2))∧Below w.heap.size w w':=by
 obtain ⟨a,c,rfl,_⟩:=hd.form
 obtain ⟨sa,sc,rfl,_⟩:=hU.form
 rw [zN_len] at hd ⊢
 refine ent86 _ _ _ _ ?_
 simp (disch:=first|omega|exact zF rfl|exact zG rfl|exact fun h=>h|(simp only[zA,zB,zC,zD,bytesW];omega)) only[go_sem,c86L1,c86S4]
 refine msW_one ty120mkI rfl (by omega) (by omega) (by omega) (by omega) ?_
 simp (disch:=first|omega|exact zF rfl|exact zG rfl|exact fun h=>h|(simp only[zA,zB,zC,zD,bytesW];omega)) only[go_sem,c86L1,c86S4]
 have hz:Blk (w.alloc (.cells (zerosA (.int .u8 0) d.length) 5)) w.heap.size (zerosA (.int .u8 0) d.length) 5:=Blk.new
 have ho:=hz.own (n:=0) (cap:=d.length) (size:=1) (xs:=[]) (base:=w.heap.size) (Nat.le_refl _) (Nat.zero_le _) (by have:maxLen=9223372036854775807:=(by decide); omega) (by simp [zerosA]) (by simp)
 have s1:=(St.start (W0:=w)).add ((Below.refl _ w).alloc (Nat.le_refl _) (.cells (zerosA (.int .u8 0) d.length) 5)) (.row (.slice (some ⟨w.heap.size,0,none⟩) 0 d.length) 5 1 0 []) ho fun k hk=>(ho.lt k hk).1
 refine W_loopU (fun x:Nat × Value=>[(5,x.2),(16,.int .i64 x.1)]) (fun x w'=>St w w' (fun _=>False) [.row x.2 5 1 x.1 (((d.take x.1).map u8).map byteC)] []∧x.1≤d.length∧∃ g c,x.2=.slice (some ⟨g,0,none⟩) x.1 c) (fun x=>d.length - x.1) (0,.slice (some ⟨w.heap.size,0,none⟩) 0 d.length) rfl ⟨s1,Nat.zero_le _,_,_,rfl⟩ ?_
 rintro ⟨k,bv⟩ w2 ⟨s2,hk,g,cg,hu⟩
 simp only at s2 hk hu
 subst hu
 by_cases hlt:k<d.length
 ·have hlt':(k:Int)<d.length:=by omega
  obtain ⟨p,rfl⟩:=hd.ptr (by rw [zN_len]; omega)
  have ek:=zN_cell (hd.below s2.bel (by decide)) hlt
  simp (disch:=first|omega|exact zF rfl|exact zG rfl|exact fun h=>h|(simp only[zA,zB,zC,zD,bytesW];omega)) only[go_sem,c86L1,c86S4,hlt',ek]
  rw [wrap_u8]
  refine ⟨by omega,bsW_ones ty120mkI rfl rfl (by decide) (by decide) (byte_one _) ?_⟩
  simp (disch:=first|omega|exact zF rfl|exact zG rfl|exact fun h=>h|(simp only[zA,zB,zC,zD,bytesW];omega)) only[go_sem,c86L1,c86S4]
  have hx:Rd (w2.alloc (.cells #[byteC (u8 (d.getD k 0))] 5)) 1 (.slice (some ⟨w2.heap.size,0,none⟩) 1 1) 1 [byteC (u8 (d.getD k 0))]:=rd_new (n:=1) (cs:=#[byteC (u8 (d.getD k 0))]) rfl
  refine (s2.alloc' (.cells #[byteC (u8 (d.getD k 0))] 5)).append 0 rfl ty120mkI rfl (by decide) hx (byte_one _) (by omega) (by omega) ?_
  intro v6 w6 s6 c6
  simp only [List.set_cons_zero] at s6
  obtain ⟨a6,c6',rfl,_⟩:=own_slice (s6.row 0 rfl)
  obtain ⟨g6,rfl⟩:=own_ptr (s6.row 0 rfl) (by omega)
  have et:((d.take (k+1)).map u8).map byteC=((d.take k).map u8).map byteC++[byteC (u8 (d.getD k 0))]:=by
   rw [List.take_succ_eq_append_getElem hlt,List.map_append,List.map_append]
   simp [List.getD_eq_getElem?_getD,List.getElem?_eq_getElem hlt]
  rw [← et] at s6
  simp (disch:=first|omega|exact zF rfl|exact zG rfl|exact fun h=>h|(simp only[zA,zB,zC,zD,bytesW];omega)) only[go_sem,c86L1,c86S4]
  exact ⟨⟨by omega,by omega⟩,(k+1,.slice (some ⟨g6,0,none⟩) (k+1) c6'),rfl,⟨s6,by simp only; omega,_,_,rfl⟩,by simp only; omega⟩
 ·have hlt':¬ (k:Int)<d.length:=by omega
  obtain rfl:k=d.length:=by omega
  rw [List.take_length] at s2
  have hc:=(s2.row 0 rfl).cells rfl
  simp (disch:=first|omega|exact zF rfl|exact zG rfl|exact fun h=>h|(simp only[zA,zB,zC,zD,bytesW];omega)) only[go_sem,c86S5,hlt']
  refine ⟨d.map u8,by simp,fun j b hb=>?_,?_⟩
  ·refine hc j _ ?_
   rw [List.getElem?_map,hb]; rfl
  refine W_loopU (fun k:Nat=>[(8,.string (ofL (d.map u8++(U.take k).flatMap fun p=>txt p.2))),(30,.int .i64 k)]) (fun k w'=>Below w.heap.size w w'∧k≤U.length) (fun k=>U.length - k) 0 (by simp [ovr,lk]) ⟨s2.bel,Nat.zero_le _⟩ ?_
  rintro k w3 ⟨b3,hk3⟩
  by_cases hlt3:k<U.length
  ·have hlt3':(k:Int)<U.length:=by omega
   have hU3:=hU.below b3
   obtain ⟨p,rfl⟩:=hU.ptr (by omega)
   have ek:=hU3.at hlt3
   have rk:=hU3.rd _ (List.getElem_mem hlt3)
   obtain ⟨va,vc,hva,_⟩:=rk.form
   obtain ⟨o1,o2⟩:=hok _ (List.getElem_mem hlt3)
   simp (disch:=first|omega|exact zF rfl|exact zG rfl|exact fun h=>h|(simp only[zA,zB,zC,zD,bytesW];omega)) only[go_sem,c86L1,c86S5,c86L1,hlt3',ek,hva]
   rw [hva] at rk
   refine ⟨by omega,Ret.mono (text_ok _ U[k].2 w3 rk o1 (by omega)) ?_⟩
   rintro _ w4 ⟨rfl,g4⟩
   have hb:=txts_len (U:=U.take k) fun q hq=>hok q (List.mem_of_mem_take hq)
   rw [List.length_take] at hb
   have hv:=txts_len (U:=[U[k]]) fun q hq=>by rw [List.mem_singleton] at hq; subst hq; exact ⟨o1,o2⟩
   simp only [List.flatMap_cons,List.flatMap_nil,List.append_nil,List.length_singleton] at hv
   simp (disch:=first|omega|exact zF rfl|exact zG rfl|exact fun h=>h|(simp only[zA,zB,zC,zD,bytesW];omega)) only[go_sem,c86L1,c86S5]
   refine ⟨?_,⟨by omega,by omega⟩,k+1,?_,⟨Below.next b3 g4.below,by omega⟩,by omega⟩
   ·simp only [List.length_append,List.length_map]; omega
   ·rw [List.take_succ_eq_append_getElem hlt3,List.flatMap_append,List.append_assoc]; simp
  ·have hlt3':¬ (k:Int)<U.length:=by omega
   simp (disch:=first|omega|exact zF rfl|exact zG rfl|exact fun h=>h|(simp only[zA,zB,zC,zD,bytesW];omega)) only[go_sem,c86L1,c86S4,c86S5,c86L1,hlt3']
   rw [List.take_of_length_le (by omega)]
   exact ⟨rfl,b3⟩
open Go Go.Ann Go.RowKit
theorem flat_all{α:Type}{sz:Nat}{enc:α→List Value}(hsz:∀ x,(enc x).length=sz):∀ l:List α,(l.flatMap enc).length=l.length * sz
 | []=>by simp
 | x::l=>by rw [List.flatMap_cons,List.length_append,flat_all hsz l,hsz,List.length_cons,Nat.add_mul]; omega
theorem RdS.dropO{α:Type}{w:World}{sz cap:Nat}{enc:α→List Value}{a:Option Addr}{xs:List α}(h:RdS w sz enc (.slice a xs.length cap) xs)(hsz:∀ x,(enc x).length=sz){k:Nat}(hk:k≤xs.length):RdS w sz enc (.slice (offA a cap k sz) (xs.length - k) (cap - k)) (xs.drop k):=by
 have ht:((xs.take k).flatMap enc).length=k * sz:=by rw [flat_all hsz,List.length_take,Nat.min_eq_left hk]
 have hd:(xs.drop k).flatMap enc=(xs.flatMap enc).drop (k * sz):=by
  have e:xs.flatMap enc=(xs.take k).flatMap enc++(xs.drop k).flatMap enc:=by rw [← List.flatMap_append,List.take_append_drop]
  rw [e,← ht,List.drop_left]
 have:=Cut.rd_drop h hk
 rw [← hd] at this
 unfold RdS
 rw [List.length_drop]
 exact this
structure PgR(w:World)(pv:Value)(P:List (List OpT))(vs:List Value):Prop where
 len:vs.length=P.length
 top:RdS w 1 Cut.oneE pv vs
 elt:∀ (j:Nat) (p:List OpT) (v:Value),P[j]?=some p→vs[j]?=some v→RdS w 11 OpT.enc v p
def PgR.foot(pv:Value)(vs:List Value)(k:Nat):Prop:=slFoot pv k∨∃ v∈vs,slFoot v k
theorem PgR.loc{w w':World}{pv:Value}{P:List (List OpT)}{vs:List Value}(h:PgR w pv P vs)(hk:∀ k,PgR.foot pv vs k→w'.heap[k]?=w.heap[k]?):PgR w' pv P vs :=
 ⟨h.len,h.top.loc fun k hf=>hk k (.inl hf),fun j p v hp hv=>(h.elt j p v hp hv).loc fun k hf=>hk k (.inr ⟨v,List.mem_of_getElem? hv,hf⟩)⟩
def Inv.pg(pv:Value)(P:List (List OpT))(vs:List Value):Inv:=⟨fun w=>PgR w pv P vs,PgR.foot pv vs,fun _ _ h hk=>h.loc hk⟩
theorem PgR.below{w w':World}{pv:Value}{P:List (List OpT)}{vs:List Value}(h:PgR w pv P vs)(hb:Below w.heap.size w w'):PgR w' pv P vs :=
 ⟨h.len,h.top.below hb (by decide),fun j p v hp hv=>(h.elt j p v hp hv).below hb (by decide)⟩
theorem PgR.footLt{w:World}{pv:Value}{P:List (List OpT)}{vs:List Value}(h:PgR w pv P vs){k:Nat}(hk:PgR.foot pv vs k):k<w.heap.size:=by
 rcases hk with hk | ⟨v,hv,hk⟩
 ·exact h.top.footLt (by decide) hk
 ·obtain ⟨j,hj,rfl⟩:=List.mem_iff_getElem.1 hv
  have hjp:j<P.length:=by have:=h.len; omega
  exact (h.elt j P[j] vs[j] (List.getElem?_eq_getElem hjp) (List.getElem?_eq_getElem hj)).footLt (by decide) hk
theorem PgR.at{w:World}{p:Addr}{n c:Nat}{P:List (List OpT)}{vs:List Value}(h:PgR w (.slice (some p) n c) P vs){k:Nat}(hk:k<P.length):∃ a cc,w.cell? (p.add k)=some (.slice a P[k].length cc)∧RdS w 11 OpT.enc (.slice a P[k].length cc) P[k]:=by
 have hv:k<vs.length:=by have:=h.len; omega
 have r:=h.elt k P[k] vs[k] (List.getElem?_eq_getElem hk) (List.getElem?_eq_getElem hv)
 obtain ⟨a,cc,e,_⟩:=r.form
 have hc:=RdS.at1 (e1:=fun v=>v) (show RdS w 1 (fun v=>[v]) (.slice (some p) n c) vs from h.top) hv
 rw [e] at hc r
 exact ⟨a,cc,hc,r⟩
theorem PgR.form{w:World}{pv:Value}{P:List (List OpT)}{vs:List Value}(h:PgR w pv P vs):∃ a c,pv=.slice a P.length c:=by
 obtain ⟨a,c,e,_⟩:=h.top.form
 rw [h.len] at e
 exact ⟨a,c,e⟩
theorem PgR.ptr{w:World}{a:Option Addr}{n c:Nat}{P:List (List OpT)}{vs:List Value}(h:PgR w (.slice a n c) P vs)(h0:0<P.length):∃ p,a=some p:=h.top.ptr (by have:=h.len; omega)
theorem PgR.of{w:World}{B:Nat}{u:Value}{acc:List Seg}{vs:List Value}(h:Cut.Progs w B u acc vs):PgR w u (progsW acc) vs:=by
 refine ⟨by rw [h.len]; simp [progsW],h.top,fun j p v hp hv=>?_⟩
 unfold progsW at hp
 rw [List.getElem?_map] at hp
 cases hs:acc[j]? with
 | none=>rw [hs] at hp; cases hp
 | some s =>
  rw [hs] at hp
  cases hp
  exact (h.elt j s v hs hv).1
def endK(P:List (List OpT))(d:List Nat)(k:Nat):Bool:=((P.getD k []).drop (d.getD k 0)).all fun o=>!o.Done
theorem endsP_no{P:List (List OpT)}{d:List Nat}{k:Nat}(hk:k<P.length)(h:endK P d k=false):endsP P d=false:=by
 cases e:endsP P d
 ·rfl
 ·have:=List.all_eq_true.1 e k (List.mem_range.2 hk)
  unfold endK at h
  rw [h] at this
  cases this
theorem over_ok{w:World}{x:Nat}{c1 c2 c3 c4 dv pv:Value}{P:List (List OpT)}{vs:List Value}{d:List Nat}(hB:Blk w x #[pv,c1,c2,c3,c4] 60)(hP:PgR w pv P vs)(hd:RdS w 1 intE dv (zN d))(hl:d.length=P.length)(hn:P.length≤1000)(hp:∀ k,(P.getD k []).length≤1000)(hle:∀ k,d.getD k 0≤(P.getD k []).length) :
  Ret Tryz.prog 87 [.pointer (some ⟨x,0,none⟩),dv] w fun u w'=>u=.bool (endsP P d)∧Below w.heap.size w w':=by
 obtain ⟨a,c,rfl,_⟩:=hd.form
 obtain ⟨pa,pc,rfl⟩:=hP.form
 rw [zN_len] at hd ⊢
 have r:=hB.rules
 refine ent87 _ _ _ _ ?_
 simp (disch:=first|omega|exact zF rfl|exact zG rfl|exact fun h=>h|(simp only[zA,zB,zC,zD,bytesW];omega)) only[go_sem,c87L0,r]
 refine W_loopU (fun k:Nat=>[(14,.int .i64 k)]) (fun k w'=>Below w.heap.size w w'∧k≤P.length∧∀ j,j<k→endK P d j=true) (fun k=>P.length - k) 0 rfl ⟨Below.refl _ _,Nat.zero_le _,fun j h=>by omega⟩ ?_
 rintro k w2 ⟨b2,hk,hall⟩
 have z2:=b2.size
 by_cases hlt:k<P.length
 ·have hlt':(k:Int)<P.length:=by omega
  obtain ⟨p,rfl⟩:=hP.ptr (by omega)
  obtain ⟨q,rfl⟩:=hd.ptr (by rw [zN_len]; omega)
  obtain ⟨ra,rc,e1,e2⟩:=(hP.below b2).at hlt
  have e3:=zN_cell (hd.below b2 (by decide)) (k:=k) (by omega)
  have hk2:(k:Int)<d.length:=by omega
  have hpk:P.getD k []=P[k]:=by simp [List.getD_eq_getElem?_getD,List.getElem?_eq_getElem hlt]
  have hle2:=hle k
  have hp2:=hp k
  rw [hpk] at hle2 hp2
  simp (disch:=first|omega|exact zF rfl|exact zG rfl|exact fun h=>h|(simp only[zA,zB,zC,zD,bytesW];omega)) only[go_sem,c87L1,c87L1,hlt',e1,e3,hk2]
  refine ⟨by omega,by omega,⟨by omega,by omega⟩,?_⟩
  have e4:=RdS.dropO e2 OpT.len hle2
  have hkk:endK P d k=(P[k].drop (d.getD k 0)).all fun o=>!o.Done:=by unfold endK; rw [hpk]
  have hpl:=hp2
  generalize hQ:P[k].drop (d.getD k 0)=Q at e4 hkk
  have hQl:P[k].length - d.getD k 0=Q.length:=by rw [← hQ,List.length_drop]
  rw [hQl] at e4 ⊢
  generalize offA ra rc (d.getD k 0) 11=oa at e4 ⊢
  generalize rc - d.getD k 0=oc at e4 ⊢
  have hQb:Q.length≤1000:=by omega
  refine W_loopU (fun j:Nat=>[(26,.int .i64 j)]) (fun j w'=>Below w2.heap.size w2 w'∧j≤Q.length∧(Q.take j).all (fun o=>!o.Done)=true) (fun j=>Q.length - j) 0 rfl ⟨Below.refl _ _,Nat.zero_le _,rfl⟩ ?_
  rintro j w3 ⟨b3,hj,ha⟩
  have z3:=b3.size
  by_cases hjl:j<Q.length
  ·have hjl':(j:Int)<Q.length:=by omega
   obtain ⟨s,rfl⟩:=e4.ptr (by omega)
   have ej:=e4.eltB b3 OpT.len (by decide) hjl
   have cj:=cellsO_below b3 (e4.at OpT.len hjl)
   have aj:=Q[j].at
   have et:(Q.take (j+1)).all (fun o=>!o.Done)=!Q[j].Done:=by
    rw [List.take_succ_eq_append_getElem hjl,List.all_append,ha]
    simp
   simp (disch:=first|omega|exact zF rfl|exact zG rfl|exact fun h=>h|(simp only[zA,zB,zC,zD,bytesW];omega)) only[go_sem,c87L0,c87L1,c87L0,hjl',ej,cj,aj]
   refine ⟨by omega,by simp [OpT.len],fun hd1=>?_,fun hd0=>?_⟩
   ·refine ⟨(endsP_no hlt ?_).symm,by (repeat' (first | with_reducible exact Below.refl _ _ | with_reducible assumption | (with_reducible refine Below.drew ?_) | (with_reducible refine Below.alloc ?_ ?_ _) | (with_reducible refine Below.setCell ?_ ?_ _) | (with_reducible refine Below.fill ?_ ?_) | (with_reducible refine Below.via (by assumption) ?_ ?_) | omega | (simp only [World.size_alloc,World.size_drew,World.size_setCell,size_fill,bytesW]; omega)))⟩
    rw [hkk]
    cases e:Q.all (fun o=>!o.Done)
    ·rfl
    ·have:=List.all_eq_true.1 e _ (List.getElem_mem hjl)
     rw [hd1] at this
     cases this
   ·exact ⟨⟨by omega,by omega⟩,j+1,rfl,⟨by (repeat' (first | with_reducible exact Below.refl _ _ | with_reducible assumption | (with_reducible refine Below.drew ?_) | (with_reducible refine Below.alloc ?_ ?_ _) | (with_reducible refine Below.setCell ?_ ?_ _) | (with_reducible refine Below.fill ?_ ?_) | (with_reducible refine Below.via (by assumption) ?_ ?_) | omega | (simp only [World.size_alloc,World.size_drew,World.size_setCell,size_fill,bytesW]; omega))),by omega,by rw [et,hd0]; rfl⟩,by omega⟩
  ·have hjl':¬ (j:Int)<Q.length:=by omega
   simp (disch:=first|omega|exact zF rfl|exact zG rfl|exact fun h=>h|(simp only[zA,zB,zC,zD,bytesW];omega)) only[go_sem,c87L0,c87L1,c87L0,hjl']
   refine ⟨⟨by omega,by omega⟩,k+1,rfl,⟨Below.next b2 b3,by omega,fun i hi=>?_⟩,by omega⟩
   rcases Nat.lt_or_ge i k with h | h
   ·exact hall i h
   ·obtain rfl:i=k:=by omega
    rw [hkk,← ha,List.take_of_length_le (by omega)]
 ·have hlt':¬ (k:Int)<P.length:=by omega
  simp (disch:=first|omega|exact zF rfl|exact zG rfl|exact fun h=>h|(simp only[zA,zB,zC,zD,bytesW];omega)) only[go_sem,c87L0,c87L1,c87S4,c87L1,hlt']
  refine ⟨?_,b2⟩
  unfold endsP
  exact (List.all_eq_true.2 fun j hj=>hall j (by have:=List.mem_range.1 hj; omega)).symm
open Go Go.Ann Go.RowKit
structure Nd where
 b:Nat
 dv:Value
 sv:Value
 nv:Value
 sp:Sp
 U:List VS
 nx:List (Int × Nat)
 gd:Bool
def mvE(m:Int × Nat):List Value:=[.int .i64 m.1,.int .i64 m.2]
def ptV(b:Nat):Value:=.pointer (some ⟨b,0,none⟩)
def ndR(P:List (List OpT))(n:Nd):List Res:=[.blk n.b #[n.dv,n.sv,n.nv,.bool (endsP P n.sp.done),.bool n.gd] 64,.row n.nv 113 2 n.nx.length (n.nx.flatMap mvE)]
abbrev DS:=Value × List Nat × Value × List VS
def Nd.ds(n:Nd):DS:=(n.dv,n.sp.done,n.sv,n.U)
def dsFoot(c:DS)(k:Nat):Prop:=slFoot c.1 k∨RowS.foot c.2.2.1 c.2.2.2 k
def Inv.ds(C:List DS):Inv:=⟨fun w=>∀ c∈C,RdS w 1 intE c.1 (zN c.2.1)∧RowS w c.2.2.1 c.2.2.2,fun k=>∃ c∈C,dsFoot c k,fun w w' h hk c hc=>⟨RdS.loc (h c hc).1 fun k hf=>hk k ⟨c,hc,.inl hf⟩,(h c hc).2.loc fun k hf=>hk k ⟨c,hc,.inr hf⟩⟩⟩
def natK(n:Nat):Value:=.int .i64 n
def metL:List Sp→Nat→List (List UInt8 × Nat × Nat)
 | [],_=>[]
 | s::l,i=>(spT s,i,i)::metL l (i+1)
theorem metL_snoc(s:Sp):∀ (Ls:List Sp) (i:Nat),metL (Ls++[s]) i=metL Ls i++[(spT s,i+Ls.length,i+Ls.length)]
 | [],i=>by simp [metL]
 | t::l,i=>by
  rw [List.cons_append,metL,metL,metL_snoc s l,List.length_cons,List.cons_append]
  have e:i+1+l.length=i+(l.length+1):=by omega
  rw [e]
theorem metL_get{s:Sp}:∀ {Ls:List Sp} {i:Nat},(∀ t∈Ls,spT t=spT s→t=s)→getM (spT s) (metL Ls i)=if s∈Ls then some (i+Ls.idxOf s) else none
 | [],_,_=>by simp [metL,getM]
 | t::l,i,h=>by
  rw [metL,getM]
  have ih:=metL_get (s:=s) (Ls:=l) (i:=i+1) fun u hu=>h u (List.mem_cons_of_mem _ hu)
  by_cases e:spT s=spT t
  ·rw [if_pos e]
   obtain rfl:=h t List.mem_cons_self e.symm
   simp
  ·rw [if_neg e,ih]
   have hne:t≠s:=fun h'=>e (by rw [h'])
   have hne':s≠t:=fun h'=>hne h'.symm
   by_cases hm:s∈l
   ·rw [if_pos hm,if_pos (List.mem_cons_of_mem _ hm),List.idxOf_cons,show (t == s)=false from by simpa using hne]
    simp only [cond_false]
    congr 1
    omega
   ·rw [if_neg hm,if_neg (by simp [hne',hm])]
theorem setM_snoc{κ ν:Type}[DecidableEq κ]{a:κ}{v:ν}{c:Nat}:∀ {l:List (κ × ν × Nat)},getM a l=none→setM a v c l=l++[(a,v,c)]
 | [],_=>rfl
 | x::l,h=>by
  rw [getM] at h
  split at h
  ·cases h
  ·rename_i e
   rw [setM,if_neg e,setM_snoc h]; rfl
theorem same_str(a:List UInt8):Instr.sameBits 10000 (strE a) (strE a)=true:=by
 simp only [Instr.sameBits,strE]
 change (a.toArray == a.toArray)=true
 exact beq_self_eq_true _
def SX(P:List (List OpT))(x pl m:Nat)(mst:Int)(pv tv:Value)(N:List Nd):List Res :=
 .blk x #[pv,.map (some pl),tv,.map (some m),.int .i64 mst] 60::.row tv 65 1 N.length (N.map fun n=>ptV n.b)::.obj m (mapG strE natK (metL (N.map Nd.sp) 0) N.length)::N.flatMap (ndR P)
theorem perm_in{α:Type}{A M L:List α}{a b:α}:(A++((M++[a,b])++L)).Perm (b::a::(A++(M++L))):=by
 have e:A++((M++[a,b])++L)=(A++M)++[a,b]++L:=by simp
 rw [e]
 refine ((List.perm_append_comm (l₁:=A++M) (l₂:=[a,b])).append_right L).trans ?_
 simp only [List.append_assoc,List.cons_append,List.nil_append]
 exact List.Perm.swap _ _ _
theorem wadd_ok{W0 w:World}{F:Nat→Prop}{L:List Res}{I:List Inv}{P:List (List OpT)}{vs:List Value}{x pl m q:Nat}{mst:Int}{pv tv dv sv:Value}{N:List Nd}{C:List DS}{s:Sp}{U:List VS}(h:St W0 w F (SX P x pl m mst pv tv N++L) (Inv.ds C::Inv.pg pv P vs::I))
  (hc:(dv,s.done,sv,U)∈C) (hU:U.map Prod.snd=s.st) (ok:OkSp P.length q s) (okN:∀ n∈N,OkSp P.length q n.sp) (hok:∀ p∈U,Ok64 p.2∧p.2.length≤1000) (hq:q≤1000) (hn:P.length≤1000) (hp:∀ k,(P.getD k []).length≤1000) (hle:∀ k,s.done.getD k 0≤(P.getD k []).length) (hN:N.length≤100000) :
  Ret Tryz.prog 59 [.pointer (some ⟨x,0,none⟩),dv,sv] w fun u w'=>∃ tv' N',St W0 w' F (SX P x pl m mst pv tv' N'++L) (Inv.ds C::Inv.pg pv P vs::I)∧N'.map Nd.sp=addW (N.map Nd.sp) s∧u=.int .i64 ((N'.map Nd.sp).idxOf s:Nat)∧(N'=N∨∃ b,N'=N++[⟨b,dv,sv,.slice none 0 0,s,U,[],false⟩]):=by
 have hds:=h.get 0 rfl _ hc
 simp only at hds
 obtain ⟨hd,hS⟩:=hds
 have hP:PgR w pv P vs:=h.get 1 rfl
 obtain ⟨da,dc,rfl,_⟩:=hd.form
 obtain ⟨sa,sc,rfl,_⟩:=hS.form
 have hUl:U.length=s.st.length:=by rw [← hU,List.length_map]
 have r1:=ok.dl
 have r2:=ok.sl
 have hinj:∀ t∈N.map Nd.sp,spT t=spT s→t=s:=fun t ht e=>by
  obtain ⟨n,hn,rfl⟩:=List.mem_map.1 ht
  exact spT_inj (okN n hn) ok e
 have hspT:s.done.map u8++(U.flatMap fun p=>txt p.2)=spT s:=by
  unfold spT
  rw [← hU,List.flatMap_map]
 have hget:=metL_get (s:=s) (Ls:=N.map Nd.sp) (i:=0) hinj
 obtain ⟨ta,tc,rfl,_⟩:=own_slice (h.row 1 rfl)
 refine ent59 _ _ _ _ _ ?_
 simp (disch:=first|omega|exact zF rfl|exact zG rfl|exact fun h=>h|(simp only[zA,zB,zC,zD,bytesW];omega)) only[go_sem,c59S0,c59S1]
 refine Ret.mono (wtext_ok _ _ s.done U w hd hS (by omega) hok (by omega)) ?_
 rintro _ w1 ⟨rfl,b1⟩
 rw [hspT]
 have s1:=h.call b1
 have r1:=s1.rules 0 rfl
 simp (disch:=first|omega|exact zF rfl|exact zG rfl|exact fun h=>h|(simp only[zA,zB,zC,zD,bytesW];omega)) only[go_sem,c59S0,c59S1,r1]
 refine luG_map keyT_s Tryz.underlying58 (s1.obj 2 rfl) (spT s) (by rfl) ?_
 rw [hget]
 by_cases hm:s∈N.map Nd.sp
 ·rw [if_pos hm]
  simp (disch:=first|omega|exact zF rfl|exact zG rfl|exact fun h=>h|(simp only[zA,zB,zC,zD,bytesW];omega)) only[go_sem,c59S0,c59S1,luG,natK]
  refine ⟨_,N,s1,?_,rfl,.inl rfl⟩
  unfold addW
  rw [if_pos hm]
 ·rw [if_neg hm] at hget
  rw [if_neg hm]
  simp (disch:=first|omega|exact zF rfl|exact zG rfl|exact fun h=>h|(simp only[zA,zB,zC,zD,bytesW];omega)) only[go_sem,c59S0,c59S2,luG,natK]
  refine c59draw0 (Same (fun k=>k=x) _) (Same.refl _ _) ?_
  have s2:=s1.drew
  have r2:=s2.rules 0 rfl
  generalize w1.drew=w2 at s2 r2 ⊢
  have sm:∀ w',Blk w' x #[pv,.map (some pl),.slice ta N.length tc,.map (some m),.int .i64 mst] 60→Same (fun k=>k=x) w2 w':=fun w' hB b hb=>by subst hb; exact Eq.trans hB (s2.blk 0 rfl).symm
  simp (disch:=first|omega|exact zF rfl|exact zG rfl|exact fun h=>h|(simp only[zA,zB,zC,zD,bytesW];omega)) only[go_sem,c59S0,c59S2,c59D0,r2]
  refine ⟨Same.refl _ _,?_⟩
  refine muG_map (ev:=natK) keyT_s Tryz.underlying58 same_str (s2.obj 2 rfl) (spT s) N.length ?_
  have eset:setM (spT s) N.length N.length (metL (N.map Nd.sp) 0)=metL (N.map Nd.sp++[s]) 0:=by rw [setM_snoc hget,metL_snoc,List.length_map,Nat.zero_add]
  rw [eset,hget]
  have s3:=s2.putObj 2 rfl (mapG strE natK (metL (N.map Nd.sp++[s]) 0) (N.length+1))
  have e3:(if (none:Option Nat).isSome=true then N.length else N.length+1)=N.length+1:=rfl
  rw [e3]
  generalize w2.putObj m (mapG strE natK (metL (N.map Nd.sp++[s]) 0) (N.length+1))=w3 at s3 ⊢
  simp (disch:=first|omega|exact zF rfl|exact zG rfl|exact fun h=>h|(simp only[zA,zB,zC,zD,bytesW];omega)) only[go_sem,c59S1,c59S2,c59D0,r2]
  simp only [SX,List.cons_append,List.set_cons_zero,List.set_cons_succ] at s3
  refine c59draw1 (Same (fun k=>k=x) _) (Same.refl _ _) ?_
  have s4:=s3.drew
  have r4:=s4.rules 0 rfl
  have l4:=s4.low 0 rfl
  have r3:=s3.rules 0 rfl
  generalize w3.drew=w4 at s4 r4 l4 ⊢
  have sm:∀ w',Blk w' x #[pv,.map (some pl),.slice ta N.length tc,.map (some m),.int .i64 mst] 60→Same (fun k=>k=x) w4 w':=fun w' hB b hb=>by subst hb; exact Eq.trans hB (s4.blk 0 rfl).symm
  simp (disch:=first|omega|exact zF rfl|exact zG rfl|exact fun h=>h|(simp only[zA,zB,zC,zD,bytesW];omega)) only[go_sem,c59S1,c59S2,c59D1,r3,r4]
  refine Ret.mono (over_ok (s4.blk 0 rfl) (s4.get 1 rfl) (s4.get 0 rfl _ hc).1 (by omega) hn hp hle) ?_
  rintro _ w5 ⟨rfl,b5⟩
  have s5:=s4.call b5
  simp (disch:=first|omega|exact zF rfl|exact zG rfl|exact fun h=>h|(simp only[zA,zB,zC,zD,bytesW];omega)) only[go_sem,c59S1,c59S2,c59D1,r3,r4]
  refine ⟨sm _ (s5.blk 0 rfl),?_⟩
  refine bdW_built (cells:=#[.slice da (zN s.done).length dc,.slice sa U.length sc,.slice none 0 0,.bool (endsP P s.done),.bool false]) (by kernel_rfl) ?_
  simp (disch:=first|omega|exact zF rfl|exact zG rfl|exact fun h=>h|(simp only[zA,zB,zC,zD,bytesW];omega)) only[go_sem,c59S1,c59S2,c59D1,r3,r4]
  have s6:=(s5.box #[.slice da (zN s.done).length dc,.slice sa U.length sc,.slice none 0 0,.bool (endsP P s.done),.bool false] 64).nilRow 113 2
  refine ⟨sm _ (s5.blk 0 rfl),sm _ (s6.blk 2 rfl),?_⟩
  generalize w5.alloc (.cells #[.slice da (zN s.done).length dc,.slice sa U.length sc,.slice none 0 0,.bool (endsP P s.done),.bool false] 64)=w6 at s6 ⊢
  generalize w5.heap.size=nb at s6 ⊢
  refine bsW_ones ty57mkI rfl rfl (by decide) (by decide) (by intro u hu; rw [List.mem_singleton] at hu; subst hu; rfl) ?_
  simp (disch:=first|omega|exact zF rfl|exact zG rfl|exact fun h=>h|(simp only[zA,zB,zC,zD,bytesW];omega)) only[go_sem,c59S1,c59S2,c59D1,r3,r4]
  have s7:=s6.alloc' (.cells #[ptV nb] 65)
  have hx:Rd (w6.alloc (.cells #[ptV nb] 65)) 1 (.slice (some ⟨w6.heap.size,0,none⟩) 1 1) 1 [ptV nb]:=rd_new (n:=1) (cs:=#[ptV nb]) rfl
  refine ⟨sm _ (s7.blk 2 rfl),s7.append 3 rfl ty57mkI rfl (by decide) hx (by intro u hu; rw [List.mem_singleton] at hu; subst hu; rfl) (by omega) (by omega) ?_⟩
  intro v8 w8 s8 _
  simp only [List.set_cons_zero,List.set_cons_succ] at s8
  obtain ⟨a8,d8,rfl,_⟩:=own_slice (s8.row 3 rfl)
  have r8:=s8.rules 2 rfl
  simp (disch:=first|omega|exact zF rfl|exact zG rfl|exact fun h=>h|(simp only[zA,zB,zC,zD,bytesW];omega)) only[go_sem,c59S1,c59S2,c59D1,r3,r4,r8]
  have s9:=s8.set 2 rfl 2 (.slice a8 (N.length+1) d8)
  simp only [List.set_cons_zero,List.set_cons_succ,List.setIfInBounds_toArray] at s9
  generalize w8.setCell ⟨x,2,none⟩ (.slice a8 (N.length+1) d8)=w9 at s9 ⊢
  have r9:=s9.rules 2 rfl
  simp (disch:=first|omega|exact zF rfl|exact zG rfl|exact fun h=>h|(simp only[zA,zB,zC,zD,bytesW];omega)) only[go_sem,c59S0,c59S1,c59S2,r9]
  refine ⟨⟨by omega,by omega⟩,.slice a8 (N.length+1) d8,N++[⟨nb,.slice da (zN s.done).length dc,.slice sa U.length sc,.slice none 0 0,s,U,[],false⟩],?_,?_,?_,.inr ⟨nb,rfl⟩⟩
  ·refine st_recast (s9.perm (perm_in (A:=[Res.blk x #[pv,.map (some pl),.slice a8 (N.length+1) d8,.map (some m),.int .i64 mst] 60,Res.row (.slice a8 (N.length+1) d8) 65 1 (N.length+1) (N.map (fun n=>ptV n.b)++[ptV nb]),Res.obj m (mapG strE natK (metL (N.map Nd.sp++[s]) 0) (N.length+1))]))) ?_
   unfold SX
   simp [ndR]
  ·unfold addW
   rw [if_neg hm]
   simp
  ·congr 1
   rw [List.map_append,List.idxOf_append,if_neg hm]
   simp
open Go Go.Ann Go.RowKit
theorem wclone_ok(v:Value)(D:List VS)(w:World)(h:RowS w v D)(hl:D.length≤1000000) :
  Ret Tryz.prog 89 [v] w fun u w'=>w'.ownsRow w.heap.size 25 1 u D.length (D.map Prod.fst)∧Below w.heap.size w w':=by
 obtain ⟨a,c,rfl,_⟩:=h.form
 refine ent89 _ _ _ ?_
 simp (disch:=first|omega|exact zF rfl|exact zG rfl|exact fun h=>h|(simp only[zA,zB,zC,zD,bytesW];omega)) only[go_sem]
 have hSt:=(St.start (W0:=w)).emptyRow 25 1
 refine ⟨fun ha=>?_,fun ha=>bsW_none ty61mkI ?_⟩
 ·cases a with
  | some a=>cases ha
  | none =>
   have h0:D=[]:=by
    cases D with
    | nil=>rfl
    | cons x l=>obtain ⟨p,hp⟩:=h.ptr (by simp); cases hp
   subst h0
   exact ⟨⟨rfl,.inl ⟨rfl,rfl⟩⟩,Below.refl _ _⟩
 simp (disch:=first|omega|exact zF rfl|exact zG rfl|exact fun h=>h|(simp only[zA,zB,zC,zD,bytesW];omega)) only[go_sem]
 have h2:RowS (w.alloc (.cells #[] 25)) (.slice a D.length c) D:=h.below hSt.bel
 refine hSt.append 0 rfl ty61mkI rfl (by decide) h2.row (RowS.ones h2) (by omega) (by omega) ?_
 intro v2 w2 s2 _
 have e2:=s2.row 0 rfl
 rw [Nat.zero_add,List.nil_append] at e2
 simp (disch:=first|omega|exact zF rfl|exact zG rfl|exact fun h=>h|(simp only[zA,zB,zC,zD,bytesW];omega)) only[go_sem]
 exact ⟨e2,s2.bel⟩
theorem pclone_ok(v:Value)(bs:List Value)(w:World)(h:Rd w 1 v bs.length bs)(h1:∀ u∈bs,u.oneCell'=true)(hl:bs.length≤1000000) :
  Ret Tryz.prog 62 [v] w fun u w'=>w'.ownsRow w.heap.size 65 1 u bs.length bs∧Below w.heap.size w w':=by
 have hh:=h
 obtain ⟨_,a,c,rfl,_,h0⟩:=hh
 refine ent62 _ _ _ ?_
 simp (disch:=first|omega|exact zF rfl|exact zG rfl|exact fun h=>h|(simp only[zA,zB,zC,zD,bytesW];omega)) only[go_sem]
 have hSt:=(St.start (W0:=w)).emptyRow 65 1
 refine ⟨fun ha=>?_,fun ha=>bsW_none ty57mkI ?_⟩
 ·cases a with
  | some a=>cases ha
  | none =>
   have h0:bs=[]:=by
    cases bs with
    | nil=>rfl
    | cons x l=>obtain ⟨p,hp,_⟩:=h0 (by simp); cases hp
   subst h0
   exact ⟨⟨rfl,.inl ⟨rfl,rfl⟩⟩,Below.refl _ _⟩
 simp (disch:=first|omega|exact zF rfl|exact zG rfl|exact fun h=>h|(simp only[zA,zB,zC,zD,bytesW];omega)) only[go_sem]
 refine hSt.append 0 rfl ty57mkI rfl (by decide) (h.below hSt.bel (by decide)) h1 (by omega) (by omega) ?_
 intro v2 w2 s2 _
 have e2:=s2.row 0 rfl
 rw [Nat.zero_add,List.nil_append] at e2
 simp (disch:=first|omega|exact zF rfl|exact zG rfl|exact fun h=>h|(simp only[zA,zB,zC,zD,bytesW];omega)) only[go_sem]
 exact ⟨e2,s2.bel⟩
def SXr(P:List (List OpT))(x pl m:Nat)(mst:Int)(pv tv:Value)(N:List Nd)(i:Nat)(L:List Res):List Res :=
 .blk x #[pv,.map (some pl),tv,.map (some m),.int .i64 mst] 60::.row tv 65 1 N.length (N.map fun n=>ptV n.b)::.obj m (mapG strE natK (metL (N.map Nd.sp) 0) N.length)::((N.take i).flatMap (ndR P)++((N.drop (i+1)).flatMap (ndR P)++L))
theorem sx_out{P:List (List OpT)}{x pl m:Nat}{mst:Int}{pv tv:Value}{N:List Nd}{i:Nat}{L:List Res}(hi:i<N.length):(ndR P N[i]++SXr P x pl m mst pv tv N i L).Perm (SX P x pl m mst pv tv N++L):=by
 have e:N.flatMap (ndR P)=(N.take i).flatMap (ndR P)++(ndR P N[i]++(N.drop (i+1)).flatMap (ndR P)):=by
  conv=>lhs; rw [← List.take_append_drop i N,List.drop_eq_getElem_cons hi,List.flatMap_append,List.flatMap_cons]
 unfold SX SXr
 rw [e]
 simp only [List.cons_append,List.append_assoc]
 have h3:∀ (A B C:List Res) (a b c:Res),(A++(a::b::c::(B++C))).Perm (a::b::c::(B++(A++C))):=fun A B C a b c=>by
  have h1:((A++([a,b,c]++B))++C).Perm ((([a,b,c]++B)++A)++C):=List.perm_append_comm.append_right C
  simpa using h1
 exact h3 _ _ _ _ _ _
theorem SXr_set{P:List (List OpT)}{x pl m:Nat}{mst:Int}{pv tv:Value}{N:List Nd}{i:Nat}{L:List Res}(hi:i<N.length){n:Nd}(hb:n.b=N[i].b)(hs:n.sp=N[i].sp):SXr P x pl m mst pv tv (N.set i n) i L=SXr P x pl m mst pv tv N i L:=by
 have e1:(N.set i n).map (fun n=>ptV n.b)=N.map fun n=>ptV n.b:=by
  rw [List.map_set,hb]
  exact List.ext_getElem (by simp) fun j h1 h2=>by
   rw [List.getElem_set]
   split
   ·rename_i h; subst h; simp
   ·rfl
 have e2:(N.set i n).map Nd.sp=N.map Nd.sp:=by
  rw [List.map_set,hs]
  exact List.ext_getElem (by simp) fun j h1 h2=>by
   rw [List.getElem_set]
   split
   ·rename_i h; subst h; simp
   ·rfl
 unfold SXr
 rw [e1,e2,List.length_set,List.take_set_of_le (Nat.le_refl _),List.drop_set_of_lt (Nat.lt_succ_self _)]
theorem sx_in{P:List (List OpT)}{x pl m:Nat}{mst:Int}{pv tv:Value}{N:List Nd}{i:Nat}{L:List Res}(hi:i<N.length){n:Nd}(hb:n.b=N[i].b)(hs:n.sp=N[i].sp):(ndR P n++SXr P x pl m mst pv tv N i L).Perm (SX P x pl m mst pv tv (N.set i n)++L):=by
 have h:=sx_out (P:=P) (x:=x) (pl:=pl) (m:=m) (mst:=mst) (pv:=pv) (tv:=tv) (N:=N.set i n) (i:=i) (L:=L) (by rw [List.length_set]; exact hi)
 rw [List.getElem_set_self,SXr_set hi hb hs] at h
 exact h
theorem sx_blk{W0 w:World}{F:Nat→Prop}{L:List Res}{I:List Inv}{P:List (List OpT)}{x pl m:Nat}{mst:Int}{pv tv:Value}{N:List Nd}(h:St W0 w F (SX P x pl m mst pv tv N++L) I){i:Nat}(hi:i<N.length):Blk w N[i].b #[N[i].dv,N[i].sv,N[i].nv,.bool (endsP P N[i].sp.done),.bool N[i].gd] 64:=by
 have h1:=h.perm (sx_out hi)
 exact h1.blk 0 rfl
theorem sx_row{W0 w:World}{F:Nat→Prop}{L:List Res}{I:List Inv}{P:List (List OpT)}{x pl m:Nat}{mst:Int}{pv tv:Value}{N:List Nd}(h:St W0 w F (SX P x pl m mst pv tv N++L) I){i:Nat}(hi:i<N.length):w.ownsRow W0.heap.size 113 2 N[i].nv N[i].nx.length (N[i].nx.flatMap mvE):=by
 have h1:=h.perm (sx_out hi)
 exact h1.row 1 rfl
theorem St.keepU{W0 w:World}{F:Nat→Prop}{L:List Res}{I:List Inv}(h:St W0 w F L I)(a:Inv)(ha:a.holds w)(hf:∀ k,a.foot k→∃ b∈I,b.foot k):St W0 w F L (a::I) :=
 h.keep a ha fun k hk=>by
  obtain ⟨b,hb,hk⟩:=hf k hk
  exact (h.inv b hb).2 k hk
def oneV(v:Value):List Value:=[v]
theorem flat_oneV(vs:List Value):vs.flatMap oneV=vs:=by
 induction vs with
 | nil=>rfl
 | cons v vs ih=>rw [List.flatMap_cons,ih]; rfl
theorem ds_more{W0 w:World}{F:Nat→Prop}{L:List Res}{I:List Inv}{C:List DS}{dv sv tv:Value}{ts:List Int}{d:List Nat}{U:List VS}
  (h:St W0 w F (.row dv 3 1 d.length ((zN d).flatMap intE)::.row sv 25 1 U.length (U.map Prod.fst)::L) (Inv.rd 1 intE tv ts::Inv.ds C::I))
  (hU:∀ p∈U,RdS w 1 intE p.1 p.2∧∀ k,slFoot p.1 k→slFoot tv k∨(Inv.ds C).foot k):St W0 w F L (Inv.ds ((dv,d,sv,U)::C)::I):=by
 have hd:RdS w 1 intE dv (zN d):=RdS.of_own' (h.row 0 rfl) (zN d) (by rw [zN_len]) rfl
 have h1:=h.seal (Inv.rd 1 intE dv (zN d)) hd fun k hk=>slFoot_own hk
 have hs:RdS w 1 oneV sv (U.map Prod.fst):=RdS.of_own' (h1.row 0 rfl) (U.map Prod.fst) (by simp) (flat_oneV _).symm
 have h2:=h1.seal (Inv.rd 1 oneV sv (U.map Prod.fst)) hs fun k hk=>slFoot_own hk
 have hr:RowS w sv U:=⟨Rd.of_own (h1.row 0 rfl),fun p hp=>(hU p hp).1⟩
 have hC:=h2.get 3 rfl
 refine (St.keepU h2 (Inv.ds ((dv,d,sv,U)::C)) (fun c hc=>?_) fun k hk=>?_).inv_sub fun a ha=>?_
 ·rcases List.mem_cons.1 hc with rfl | hc
  ·exact ⟨hd,hr⟩
  ·exact hC c hc
 ·obtain ⟨c,hc,hk⟩:=hk
  rcases List.mem_cons.1 hc with rfl | hc
  ·rcases hk with hk | hk | ⟨p,hp,hk⟩
   ·exact ⟨Inv.rd 1 intE dv (zN d),by simp,hk⟩
   ·exact ⟨Inv.rd 1 oneV sv (U.map Prod.fst),by simp,hk⟩
   ·rcases (hU p hp).2 k hk with hk | hk
    ·exact ⟨Inv.rd 1 intE tv ts,by simp,hk⟩
    ·exact ⟨Inv.ds C,by simp,hk⟩
  ·exact ⟨Inv.ds C,by simp,c,hc,hk⟩
 ·rcases List.mem_cons.1 ha with rfl | ha
  ·exact List.mem_cons_self
  ·simp [ha]
open Go Go.Ann Go.RowKit
def Inv.ob(b:Nat)(o:Obj):Inv:=⟨fun w=>w.heap[b]?=some o,fun k=>k=b,fun w w' h hk=>(hk b rfl).trans h⟩
def plM:List Int→Nat→List (Int × Nat × Nat)
 | [],_=>[]
 | x::l,i=>(x,i,i)::plM l (i+1)
theorem plM_get{x:Int}:∀ {l:List Int} {i:Nat},getM x (plM l i)=if x∈l then some (i+l.idxOf x) else none
 | [],_=>by simp [plM,getM]
 | t::l,i=>by
  rw [plM,getM]
  by_cases e:x=t
  ·subst e; simp
  ·rw [if_neg e,plM_get]
   by_cases hm:x∈l
   ·rw [if_pos hm,if_pos (List.mem_cons_of_mem _ hm),List.idxOf_cons,show (t == x)=false from by simpa using fun h=>e h.symm]
    simp only [cond_false]
    congr 1
    omega
   ·rw [if_neg hm,if_neg (by simp [e,hm])]
structure NdOk(P:List (List OpT))(accO:List Seg)(M:Nat)(C:List DS)(n:Nd):Prop where
 st:n.U.map Prod.snd=n.sp.st
 ds:n.ds∈C
 ok:SpOk P accO M n.sp
theorem NdOk.mono{P:List (List OpT)}{accO:List Seg}{M:Nat}{C C':List DS}{n:Nd}(h:NdOk P accO M C n)(hs:∀ c∈C,c∈C'):NdOk P accO M C' n:=⟨h.st,hs _ h.ds,h.ok⟩
def setNx(N:List Nd)(i:Nat)(nv:Value)(nx:List (Int × Nat)):List Nd:=match N[i]? with
 | some n=>N.set i { n with nv:=nv,nx:=nx }
 | none=>N
inductive TryR(P:List (List OpT))(obs:List Int)(k i:Nat)(N:List Nd):List Nd→Prop
 | no {n:Nd} (hn:N[i]?=some n) (h:mvP P obs n.sp k=none):TryR P obs k i N N
 | yes {n:Nd} {m:Int × Sp} {N':List Nd} {nv:Value} (hn:N[i]?=some n) (h:mvP P obs n.sp k=some m) (hsp:N'.map Nd.sp=addW (N.map Nd.sp) m.2)
   (hE:N'=N∨∃ b dv sv U,N'=N++[⟨b,dv,sv,.slice none 0 0,m.2,U,[],false⟩]):TryR P obs k i N (setNx N' i nv (n.nx++[(m.1,(N'.map Nd.sp).idxOf m.2)]))
theorem zN_set{d:List Nat}{k n:Nat}:zN (d.set k n)=(zN d).set k (n:Int):=by simp [zN,List.map_set]
theorem try_ok{W0 w:World}{F:Nat→Prop}{L:List Res}{I:List Inv}{P:List (List OpT)}{accO:List Seg}{vs:List Value}{x pl m M:Nat}{mst:Int}{pv tv:Value}{N:List Nd}{C:List DS}{i k c0:Nat}{o:OpT}
  (h:St W0 w F (SX P x pl m mst pv tv N++L) (Inv.ds C::Inv.pg pv P vs::Inv.ob pl (mapG Cut.intK natK (plM (objsW accO) 0) c0)::I))
  (hP:PrOk P accO) (hN:∀ n∈N,NdOk P accO M C n) (hM:M≤1000) (hi:i<N.length) (ho:opAt P N[i].sp.done k=some o) (hn:P.length≤200) (hp:∀ k,(P.getD k []).length≤200) (hl:accO.length≤1000) (hNl:N.length≤100000) (hnx:N[i].nx.length≤1000) :
  Ret Tryz.prog 60 [.pointer (some ⟨x,0,none⟩),ptV N[i].b,.int .i64 k,.agg o.enc.toArray] w fun _ w'=>∃ tv' N' C',St W0 w' F (SX P x pl m mst pv tv' N'++L) (Inv.ds C'::Inv.pg pv P vs::Inv.ob pl (mapG Cut.intK natK (plM (objsW accO) 0) c0)::I)∧(∀ c∈C,c∈C')∧(∀ n∈N',NdOk P accO M C' n)∧TryR P (objsW accO) k i N N':=by
 obtain ⟨hk,hmem⟩:=mem_opAt ho
 obtain ⟨hx,hkind⟩:=hP.ob k o hmem
 have hnd:=hN _ (List.getElem_mem hi)
 obtain ⟨a1,a2,a3⟩:=hnd.ok.ok _ hx
 have hob:=fun (w9:World) (F9:Nat→Prop) (I9:List Inv) (L9:List Res) (tv9:Value) (h9:St W0 w9 F9 (SX P x pl m mst pv tv9 N++L9) I9)=>sx_blk h9 hi
 have hor:=fun (w9:World) (F9:Nat→Prop) (I9:List Inv) (L9:List Res) (tv9:Value) (h9:St W0 w9 F9 (SX P x pl m mst pv tv9 N++L9) I9)=>sx_row h9 hi
 have hNi:N[i]?=some N[i]:=List.getElem?_eq_getElem hi
 generalize N[i]=n at hnd hob hor ho a1 a2 a3 hNi hnx ⊢
 obtain ⟨nb,dv,sv,nv,sp,U,nx,gd⟩:=n
 have hst:U.map Prod.snd=sp.st:=hnd.st
 have hds:(dv,sp.done,sv,U)∈C:=hnd.ds
 have hok:SpOk P accO M sp:=hnd.ok
 simp only at hob hor ho a1 a2 a3 hnx
 have hat:((objsW accO).idxOf o.Object)<U.length:=by
  have:=congrArg List.length hst
  rw [List.length_map,hok.sl] at this
  omega
 have hUll:U.length=accO.length:=by
  have:=congrArg List.length hst
  rw [List.length_map,hok.sl] at this
  exact this
 have hobm:o.Object∈objsW accO:=List.idxOf_lt_length_iff.1 (by unfold objsW at hx ⊢; simpa using hx)
 have hkd:k<sp.done.length:=by rw [hok.dl]; exact hk
 have hgm:=plM_get (x:=o.Object) (l:=objsW accO) (i:=0)
 rw [if_pos hobm,Nat.zero_add] at hgm
 have hUat:(U[(objsW accO).idxOf o.Object]).2=sp.st.getD ((objsW accO).idxOf o.Object) []:=by
  rw [← hst,List.getD_eq_getElem?_getD,List.getElem?_map,List.getElem?_eq_getElem hat]; rfl
 have hmv:mvP P (objsW accO) sp k=match stepP (sp.st.getD ((objsW accO).idxOf o.Object) []) o with
   | none=>none
   | some t=>some (o.ID,⟨sp.done.set k (sp.done.getD k 0+1),sp.st.set ((objsW accO).idxOf o.Object) t⟩):=by
  unfold mvP
  rw [ho]
  rfl
 generalize hatd:(objsW accO).idxOf o.Object=at_ at *
 have hat1:(at_:Int)<U.length:=by omega
 have hao:=o.at
 have hS0:=(h.get 0 rfl _ hds).2
 have hD0:=(h.get 0 rfl _ hds).1
 simp only at hS0 hD0
 obtain ⟨sa,sc,rfl,_⟩:=hS0.form
 obtain ⟨da,dc,rfl,_⟩:=hD0.form
 obtain ⟨sa,rfl⟩:=hS0.ptr (by omega)
 obtain ⟨da,rfl⟩:=hD0.ptr (by rw [zN_len]; omega)
 refine ent60 _ _ _ _ _ _ ?_
 unfold ptV
 simp (disch:=first|omega|exact zF rfl|exact zG rfl|exact fun h=>h|(simp only[zA,zB,zC,zD,bytesW];omega)) only[go_sem,c60S0,c60S1,c60S2]
 have s1:=h.box o.enc.toArray 52
 generalize w.alloc (.cells o.enc.toArray 52)=w1 at s1 ⊢
 generalize w.heap.size=y at s1 ⊢
 have s2:=s1.drew
 have r1:=s1.rules 0 rfl
 have x1:=s1.rules 1 rfl
 have r2:=s2.rules 0 rfl
 have x2:=s2.rules 1 rfl
 refine c60draw0 (Same (fun k=>k=x∨k=y) _) (Same.refl _ _) ?_
 generalize w1.drew=w2 at s2 r2 x2 ⊢
 simp (disch:=first|omega|exact zF rfl|exact zG rfl|exact fun h=>h|(simp only[zA,zB,zC,zD,bytesW];omega)) only[go_sem,c60S0,c60S1,c60S2,c60D0,r1,x1,r2,x2,hao]
 refine ⟨Same.refl _ _,luG_map (ek:=Cut.intK) (ev:=natK) Cut.keyT_i Tryz.underlying56 (s2.get 2 rfl) o.Object (by rfl) ?_⟩
 rw [hgm]
 simp (disch:=first|omega|exact zF rfl|exact zG rfl|exact fun h=>h|(simp only[zA,zB,zC,zD,bytesW];omega)) only[go_sem,c60S0,c60S1,c60S3,c60D0,luG,natK]
 refine c60draw1 (Chg (fun _=>False) _) (Chg.refl _ _) ?_
 have s3:=s2.drew
 have r3:=s3.rules 0 rfl
 have n2:=(hob _ _ _ _ _ (s2.sub (List.sublist_cons_self _ _))).rules
 have n3:=(hob _ _ _ _ _ (s3.sub (List.sublist_cons_self _ _))).rules
 have u2:=(s2.get 0 rfl _ hds).2.at hat
 have u3:=(s3.get 0 rfl _ hds).2.at hat
 have ln2:=(hob _ _ _ _ _ (s2.sub (List.sublist_cons_self _ _))).lt
 have ls2:sa.block<w2.heap.size:=Rd.footLt (s2.get 0 rfl _ hds).2.row (by decide) ⟨_,_,_,rfl,by omega,rfl⟩
 obtain ⟨va,vc,hva,_⟩:=((s2.get 0 rfl _ hds).2.rd _ (List.getElem_mem hat)).form
 simp only at u2 u3
 rw [hva] at u2 u3
 simp (disch:=first|omega|exact zF rfl|exact zG rfl|exact fun h=>h|(simp only[zA,zB,zC,zD,bytesW];omega)) only[go_sem,c60S0,c60S1,c60S3,c60D1,r2,r3,n2,n3,u2,u3,hat1]
 have rk:=(s3.get 0 rfl _ hds).2.rd _ (List.getElem_mem hat)
 rw [hva] at rk
 have hUl:(U[at_]).2.length≤1000:=by rw [hUat]; omega
 refine ⟨by omega,Ret.mono (step_ok _ _ o _ rk (by omega) (fun e=>by rw [hUat]; exact a3 (hkind.trans e))) ?_⟩
 rintro _ w4 ⟨⟨t,ok,rfl,hm⟩,b4⟩
 rw [hUat] at hm
 have chg:∀ {wa wb:World},Below wa.heap.size wa wb→Chg (fun _=>False) wa wb:=fun hb=>Chg.of_below hb
 cases hst2:stepP (sp.st.getD at_ []) o with
 | none =>
  rw [hst2] at hm hmv
  have hm:ok=false:=hm
  subst hm
  have s4:=s3.call b4
  simp (disch:=first|omega|exact zF rfl|exact zG rfl|exact fun h=>h|(simp only[zA,zB,zC,zD,bytesW];omega)) only[go_sem,c60S0,c60S2,c60S3,c60D1]
  refine ⟨chg b4,tv,N,C,s4.sub (List.sublist_cons_self _ _),fun c hc=>hc,hN,.no hNi ?_⟩
  exact hmv
 | some s' =>
  rw [hst2] at hm hmv
  obtain ⟨rfl,h4,f4⟩:=hm
  have s4:=s3.made b4 (Inv.rd 1 intE t s') h4 fun k hk=>⟨f4 k hk,h4.footLt (by decide) hk⟩
  have hok':SpOk P accO M ⟨sp.done.set k (sp.done.getD k 0+1),sp.st.set at_ s'⟩:=mv_ok (k:=k) (m:=(o.ID,⟨sp.done.set k (sp.done.getD k 0+1),sp.st.set at_ s'⟩)) hP hok hmv
  obtain ⟨ta,tc,rfl,_⟩:=h4.form
  simp (disch:=first|omega|exact zF rfl|exact zG rfl|exact fun h=>h|(simp only[zA,zB,zC,zD,bytesW];omega)) only[go_sem,c60S0,c60S2,c60S3,c60D1]
  refine ⟨chg b4,?_⟩
  clear b4 s3 s2 s1 n2 n3 u2 u3 r1 r2 r3 x1 x2 ln2 ls2
  simp (disch:=first|omega|exact zF rfl|exact zG rfl|exact fun h=>h|(simp only[zA,zB,zC,zD,bytesW];omega)) only[go_sem,c60S1,c60S2,c60S3]
  refine c60draw2 (Chg (fun _=>False) _) (Chg.refl _ _) ?_
  have s5:=s4.drew
  have n4:=(hob _ _ _ _ _ (s4.sub (List.sublist_cons_self _ _))).rules
  have n5:=(hob _ _ _ _ _ (s5.sub (List.sublist_cons_self _ _))).rules
  have ln4:=(hob _ _ _ _ _ (s4.sub (List.sublist_cons_self _ _))).lt
  simp (disch:=first|omega|exact zF rfl|exact zG rfl|exact fun h=>h|(simp only[zA,zB,zC,zD,bytesW];omega)) only[go_sem,c60S1,c60S2,c60S3,c60D2,n4,n5]
  generalize hw5:w4.drew=w5 at s5 n5 ⊢
  refine Ret.mono (iclone_ok _ (zN sp.done) w5 (s5.get 1 rfl _ hds).1 (by rw [zN_len,hok.dl]; omega)) ?_
  rintro dv' w6 ⟨o6,b6⟩
  have s6:=s5.add b6 (.row dv' 3 1 (zN sp.done).length ((zN sp.done).flatMap intE)) (own_mono o6 s5.size) fun k hk=>(o6.lt k hk).1
  simp (disch:=first|omega|exact zF rfl|exact zG rfl|exact fun h=>h|(simp only[zA,zB,zC,zD,bytesW];omega)) only[go_sem,c60S1,c60S2,c60S3,c60D2,n4,n5]
  refine ⟨chg b6,Ret.mono (wclone_ok _ U w6 (s6.get 1 rfl _ hds).2 (by omega)) ?_⟩
  rintro sv' w7 ⟨o7,b7⟩
  have s7:=s6.add b7 (.row sv' 25 1 U.length (U.map Prod.fst)) (own_mono o7 s6.size) fun k hk=>(o7.lt k hk).1
  obtain ⟨da',dc',rfl,hdc⟩:=own_slice o6
  obtain ⟨sa',sc',rfl,hsc⟩:=own_slice o7
  obtain ⟨ga,rfl⟩:=own_ptr o6 (by rw [zN_len]; omega)
  obtain ⟨gb,rfl⟩:=own_ptr o7 (by omega)
  have dk:((zN sp.done).flatMap intE)[k]?=some (.int .i64 (sp.done.getD k 0:Nat)):=by
   have:(zN sp.done).flatMap intE=(zN sp.done).map fun n=>.int .i64 n:=by
    induction zN sp.done with
    | nil=>rfl
    | cons a l ih=>rw [List.flatMap_cons,ih]; rfl
   rw [this,List.getElem?_map,List.getElem?_eq_getElem (by rw [zN_len]; omega),zN_get]; rfl
  have uk:(U.map Prod.fst)[at_]?=some (.slice va (U[at_]).2.length vc):=by rw [List.getElem?_map,List.getElem?_eq_getElem hat,← hva]; rfl
  have c7:=own_cell (s7.row 1 rfl)
  have e7:=own_cell (s7.row 0 rfl)
  have c7k:=c7.1 k _ dk
  have f7k:=c7.2 k
  have e7k:=e7.1 at_ _ uk
  have g7k:=e7.2 at_
  have hkd1:(k:Int)<(zN sp.done).length:=by rw [zN_len]; omega
  have hkb:(sp.done.getD k 0:Nat)≤200:=Nat.le_trans (hok.le k) (hp k)
  have nab:ga≠gb:=fun e=>s7.ne 0 1 rfl rfl (by decide) (k:=gb) rfl (by rw [← e]; rfl)
  simp (disch:=first|omega|exact zF rfl|exact zG rfl|exact fun h=>h|(simp only[zA,zB,zC,zD,bytesW];omega)) only[go_sem,c60S0,c60S1,c60S2,c60S3,c60D2,c7k,f7k,e7k,g7k,hkd1,hat1,nab]
  refine ⟨chg (Below.next b6 b7),by omega,⟨by omega,by omega⟩,by omega,by omega,?_⟩
  have s8:=(s7.put 1 rfl k (.int .i64 ((sp.done.getD k 0:Nat)+1))).put 0 rfl at_ (.slice ta s'.length tc)
  simp only [List.set_cons_zero,List.set_cons_succ] at s8
  generalize (w7.setCell ⟨ga,k,none⟩ (.int .i64 ((sp.done.getD k 0:Nat)+1))).setCell ⟨gb,at_,none⟩ (.slice ta s'.length tc)=w8 at s8 ⊢
  have e1:((zN sp.done).flatMap intE).set k (.int .i64 ((sp.done.getD k 0:Nat)+1))=(zN (sp.done.set k (sp.done.getD k 0+1))).flatMap intE:=by
   have:∀ l:List Int,l.flatMap intE=l.map fun n=>.int .i64 n:=fun l=>by
    induction l with
    | nil=>rfl
    | cons a l ih=>rw [List.flatMap_cons,ih]; rfl
   rw [this,this,zN_set,List.map_set]
   simp
  have e2:(U.map Prod.fst).set at_ (.slice ta s'.length tc)=(U.set at_ (.slice ta s'.length tc,s')).map Prod.fst:=by rw [List.map_set]
  rw [e1,e2] at s8
  have s9:=ds_more (dv:=.slice (some ⟨ga,0,none⟩) (zN sp.done).length dc') (d:=sp.done.set k (sp.done.getD k 0+1)) (U:=U.set at_ (.slice ta s'.length tc,s')) (st_recast (s8.perm (List.Perm.swap _ _ _)) (by rw [List.length_set,List.length_set]; simp only [zN_len]; rfl)) fun p hp=>by
   rcases List.mem_or_eq_of_mem_set hp with hp | rfl
   ·exact ⟨(s8.get 1 rfl _ hds).2.rd _ hp,fun k hk=>.inr ⟨_,hds,.inr (.inr ⟨p,hp,hk⟩)⟩⟩
   ·exact ⟨s8.get 0 rfl,fun k hk=>.inl hk⟩
  have hst':(U.set at_ (.slice ta s'.length tc,s')).map Prod.snd=sp.st.set at_ s':=by rw [List.map_set,hst]
  generalize hd':sp.done.set k (sp.done.getD k 0+1)=d' at *
  generalize hU':U.set at_ (.slice ta s'.length tc,s')=U' at *
  generalize hst'':sp.st.set at_ s'=st' at *
  have hdl:d'.length=sp.done.length:=by rw [← hd',List.length_set]
  have hUl':U'.length=U.length:=by rw [← hU',List.length_set]
  have r8:=s9.rules 0 rfl
  have n8:=(hob _ _ _ _ _ (s9.sub (List.sublist_cons_self _ _))).rules
  have s10:=s9.drew
  have r10:=s10.rules 0 rfl
  have n10:=(hob _ _ _ _ _ (s10.sub (List.sublist_cons_self _ _))).rules
  have b10:=s10.blk 0 rfl
  have m10:=hob _ _ _ _ _ (s10.sub (List.sublist_cons_self _ _))
  refine c60draw3 (Same (fun k=>k=nb∨k=y) _) (Same.refl _ _) ?_
  generalize w8.drew=w10 at s10 r10 n10 b10 m10 ⊢
  have sm:∀ w',Blk w' nb #[.slice (some da) (zN sp.done).length dc,.slice (some sa) U.length sc,nv,.bool (endsP P sp.done),.bool gd] 64→Blk w' y o.enc.toArray 52→Same (fun k=>k=nb∨k=y) w10 w':=fun w' hB hB2 b hb=>by
   rcases hb with rfl | rfl
   ·exact Eq.trans hB m10.symm
   ·exact Eq.trans hB2 b10.symm
  obtain ⟨na,nc,rfl,hnc⟩:=own_slice (hor _ _ _ _ _ (s10.sub (List.sublist_cons_self _ _)))
  simp (disch:=first|omega|exact zF rfl|exact zG rfl|exact fun h=>h|(simp only[zA,zB,zC,zD,bytesW];omega)) only[go_sem,c60S0,c60S1,c60S2,c60S3,c60D3,n8,n10,r8,r10,hao]
  have hC2:∀ c∈C,c∈((.slice (some ⟨ga,0,none⟩) (zN sp.done).length dc',d',.slice (some ⟨gb,0,none⟩) U.length sc',U')::C:List DS):=fun c hc=>List.mem_cons_of_mem _ hc
  have tx:∀ {s:Sp},SpOk P accO M s→OkSp P.length accO.length s:=fun hs=>hs.text hM hp
  have s11:=s10.perm (L':=SX P x pl m mst pv tv N++(.blk y o.enc.toArray 52::L)) List.perm_middle
  refine Ret.mono (wadd_ok (q:=accO.length) (s:=⟨d',st'⟩) (U:=U') s11 List.mem_cons_self hst' (tx hok') (fun n hn=>tx (hN n hn).ok) (fun p hp=>?_) hl (by omega) (fun k=>Nat.le_trans (hp k) (by decide)) hok'.le hNl) ?_
  ·have hpm:p.2∈st':=by rw [← hst']; exact List.mem_map_of_mem hp
   obtain ⟨j,hj,e⟩:=List.mem_iff_getElem.1 hpm
   have hj2:j<accO.length:=by have:=hok'.sl; simp only at this; omega
   obtain ⟨q1,q2,_⟩:=hok'.ok j hj2
   have e3:st'.getD j []=st'[j]:=by rw [List.getD_eq_getElem?_getD,List.getElem?_eq_getElem hj]; rfl
   simp only at q1 q2
   rw [e3,e] at q1 q2
   exact ⟨q1,by omega⟩
  rintro _ w11 ⟨tv',N',s12,hsp,rfl,hE⟩
  have hNl':N'.length≤N.length+1:=by rcases hE with rfl | ⟨b,rfl⟩ <;> simp
  have hi':i<N'.length:=by
   rcases hE with rfl | ⟨b,rfl⟩
   ·exact hi
   ·rw [List.length_append]; omega
  have hNi':N'[i]=⟨nb,.slice (some da) (zN sp.done).length dc,.slice (some sa) U.length sc,.slice na nx.length nc,sp,U,nx,gd⟩:=by
   have:N'[i]?=some ⟨nb,.slice (some da) (zN sp.done).length dc,.slice (some sa) U.length sc,.slice na nx.length nc,sp,U,nx,gd⟩:=by
    rcases hE with rfl | ⟨b,rfl⟩
    ·exact hNi
    ·rw [List.getElem?_append_left hi]; exact hNi
   exact Option.some.inj ((List.getElem?_eq_getElem hi').symm.trans this)
  have hNok:∀ n∈N',NdOk P accO M ((.slice (some ⟨ga,0,none⟩) (zN sp.done).length dc',d',.slice (some ⟨gb,0,none⟩) U.length sc',U')::C) n:=fun n hn=>by
   have old:∀ n∈N,NdOk P accO M ((.slice (some ⟨ga,0,none⟩) (zN sp.done).length dc',d',.slice (some ⟨gb,0,none⟩) U.length sc',U')::C) n:=fun n hn=>(hN n hn).mono hC2
   rcases hE with rfl | ⟨b,rfl⟩
   ·exact old n hn
   ·rcases List.mem_append.1 hn with hn | hn
    ·exact old n hn
    ·rw [List.mem_singleton] at hn
     subst hn
     exact ⟨hst',List.mem_cons_self,hok'⟩
  have s13:=s12.perm (sx_out hi')
  rw [hNi'] at s13
  simp only [ndR,List.cons_append,List.nil_append] at s13
  have sB:∀ {w':World} {tvx:Value} {Lx:List Res} {Ix:List Inv} {Nx:List Nd} {Mx:List Res},St W0 w' F (SXr P x pl m mst pv tvx Nx i (.blk y o.enc.toArray 52::Lx)) Ix→Blk w' y o.enc.toArray 52:=fun hs=>(hs.res (.blk y o.enc.toArray 52) (by unfold SXr; simp)).1.1
  have by13:Blk w11 y o.enc.toArray 52:=sB (Mx:=[]) (s13.sub ((List.sublist_cons_self _ _).trans (List.sublist_cons_self _ _)))
  have r13:=s13.rules 0 rfl
  have l13:=s13.low 0 rfl
  simp (disch:=first|omega|exact zF rfl|exact zG rfl|exact fun h=>h|(simp only[zA,zB,zC,zD,bytesW];omega)) only[go_sem,c60S0,c60S1,c60S2,c60S3,c60D3,r13]
  refine ⟨sm _ (s13.blk 0 rfl) by13,?_⟩
  refine bdW_built (cells:=#[.int .i64 o.ID,.int .i64 ((N'.map Nd.sp).idxOf ⟨d',st'⟩:Nat)]) (by kernel_rfl) ?_
  simp (disch:=first|omega|exact zF rfl|exact zG rfl|exact fun h=>h|(simp only[zA,zB,zC,zD,bytesW];omega)) only[go_sem,c60S0,c60S1,c60S2,c60S3,c60D3,r13]
  generalize hjj:(N'.map Nd.sp).idxOf ⟨d',st'⟩=jj
  refine ⟨sm _ (s13.blk 0 rfl) by13,bsW_agg ty62mkI rfl (by decide) (by decide) ?_⟩
  have s14:=s13.alloc' (.cells #[.int .i64 o.ID,.int .i64 jj] 113)
  have hxx:Rd (w11.alloc (.cells #[.int .i64 o.ID,.int .i64 jj] 113)) 2 (.slice (some ⟨w11.heap.size,0,none⟩) 1 1) 1 (mvE (o.ID,jj)):=rd_new (n:=1) (cs:=#[.int .i64 o.ID,.int .i64 jj]) rfl
  simp (disch:=first|omega|exact zF rfl|exact zG rfl|exact fun h=>h|(simp only[zA,zB,zC,zD,bytesW];omega)) only[go_sem,c60S0,c60S1,c60S2,c60S3,c60D3,r13]
  refine ⟨sm _ (s14.blk 0 rfl) (sB (Mx:=[]) (s14.sub ((List.sublist_cons_self _ _).trans (List.sublist_cons_self _ _)))),s14.append 1 rfl ty62mkI rfl (by decide) hxx (by intro u hu; simp only [mvE,List.mem_cons,List.not_mem_nil,or_false] at hu; rcases hu with rfl | rfl <;> rfl) (by omega) (by omega) ?_⟩
  intro v15 w15 s15 _
  simp only [List.set_cons_zero,List.set_cons_succ] at s15
  obtain ⟨a15,c15,rfl,_⟩:=own_slice (s15.row 1 rfl)
  have r15:=s15.rules 0 rfl
  simp (disch:=first|omega|exact zF rfl|exact zG rfl|exact fun h=>h|(simp only[zA,zB,zC,zD,bytesW];omega)) only[go_sem,c60S0,c60S1,c60S2,c60S3,c60D3,r15]
  have s16:=s15.set 0 rfl 2 (.slice a15 (nx.length+1) c15)
  simp only [List.set_cons_zero,List.set_cons_succ,List.setIfInBounds_toArray] at s16
  refine ⟨sm _ (s15.blk 0 rfl) (sB (Mx:=[]) (s15.sub ((List.sublist_cons_self _ _).trans (List.sublist_cons_self _ _)))),tv',setNx N' i (.slice a15 (nx.length+1) c15) (nx++[(o.ID,jj)]),_,?_,hC2,?_,?_⟩
  ·have e1:setNx N' i (.slice a15 (nx.length+1) c15) (nx++[(o.ID,jj)])=N'.set i ⟨nb,.slice (some da) (zN sp.done).length dc,.slice (some sa) U.length sc,.slice a15 (nx.length+1) c15,sp,U,nx++[(o.ID,jj)],gd⟩:=by
    unfold setNx
    rw [List.getElem?_eq_getElem hi',hNi']
   have s17:=s16.perm (L':=SX P x pl m mst pv tv' (setNx N' i (.slice a15 (nx.length+1) c15) (nx++[(o.ID,jj)]))++(.blk y o.enc.toArray 52::L)) (by
    rw [e1]
    refine (sx_in hi' (by rw [hNi']) (by rw [hNi'])).symm.trans (List.Perm.of_eq ?_)
    simp [ndR])
   exact (s17.perm List.perm_middle.symm).sub (List.sublist_cons_self _ _)
  ·intro n hn
   unfold setNx at hn
   rw [List.getElem?_eq_getElem hi',hNi'] at hn
   rcases List.mem_or_eq_of_mem_set hn with hn | rfl
   ·exact hNok n hn
   ·have:=hNok _ (List.getElem_mem hi')
    rw [hNi'] at this
    exact ⟨this.st,this.ds,this.ok⟩
  ·rw [← hjj]
   exact TryR.yes (m:=(o.ID,⟨d',st'⟩)) hNi (hmv.trans (by rw [← hst''])) hsp (by
    rcases hE with hE | ⟨b,hE⟩
    ·exact .inl hE
    ·exact .inr ⟨b,_,_,_,hE⟩)
open Go Go.Ann Go.RowKit
def NxR(Ls:List Sp)(nx:List (Int × Nat))(ms:List (Int × Sp)):Prop:=nx.map (fun a=>(a.1,Ls[a.2]?))=ms.map fun m=>(m.1,some m.2)
theorem NxR.len{Ls:List Sp}{nx:List (Int × Nat)}{ms:List (Int × Sp)}(h:NxR Ls nx ms):nx.length=ms.length:=by
 have:=congrArg List.length h
 simpa using this
theorem NxR.mono{Ls:List Sp}(t:List Sp){nx:List (Int × Nat)}{ms:List (Int × Sp)}(h:NxR Ls nx ms):NxR (Ls++t) nx ms:=by
 unfold NxR at h ⊢
 rw [← h]
 refine List.map_congr_left fun a ha=>?_
 have:(a.1,Ls[a.2]?)∈ms.map fun m=>(m.1,some m.2):=by rw [← h]; exact List.mem_map_of_mem (f:=fun a:Int × Nat=>(a.1,Ls[a.2]?)) ha
 obtain ⟨m,_,e⟩:=List.mem_map.1 this
 simp only [Prod.mk.injEq] at e
 have hl:a.2<Ls.length:=(List.getElem?_eq_some_iff.1 e.2.symm).1
 rw [List.getElem?_append_left hl]
theorem NxR.snoc{Ls:List Sp}{nx:List (Int × Nat)}{ms:List (Int × Sp)}{a:Int}{j:Nat}{s:Sp}(h:NxR Ls nx ms)(hj:Ls[j]?=some s):NxR Ls (nx++[(a,j)]) (ms++[(a,s)]):=by
 unfold NxR at h ⊢
 rw [List.map_append,List.map_append,h]
 simp [hj]
theorem NxR.mem{Ls:List Sp}{nx:List (Int × Nat)}{ms:List (Int × Sp)}(h:NxR Ls nx ms){a:Int × Nat}(ha:a∈nx):∃ m∈ms,m.1=a.1∧Ls[a.2]?=some m.2:=by
 have:(a.1,Ls[a.2]?)∈ms.map fun m=>(m.1,some m.2):=by
  rw [← show _=_ from h]
  exact List.mem_map_of_mem (f:=fun a:Int × Nat=>(a.1,Ls[a.2]?)) ha
 obtain ⟨m,hm,e⟩:=List.mem_map.1 this
 simp only [Prod.mk.injEq] at e
 exact ⟨m,hm,e.1,e.2.symm⟩
theorem NxR.mem'{Ls:List Sp}{nx:List (Int × Nat)}{ms:List (Int × Sp)}(h:NxR Ls nx ms){m:Int × Sp}(hm:m∈ms):∃ a∈nx,a.1=m.1∧Ls[a.2]?=some m.2:=by
 have:(m.1,some m.2)∈nx.map fun a=>(a.1,Ls[a.2]?):=by
  rw [show _=_ from h]
  exact List.mem_map_of_mem (f:=fun m:Int × Sp=>(m.1,some m.2)) hm
 obtain ⟨a,ha,e⟩:=List.mem_map.1 this
 simp only [Prod.mk.injEq] at e
 exact ⟨a,ha,e.1,e.2⟩
theorem addW_pre(Ls:List Sp)(s:Sp):∃ t,addW Ls s=Ls++t∧t.length≤1:=by
 unfold addW
 split
 ·exact ⟨[],by simp,by simp⟩
 ·exact ⟨[s],rfl,by simp⟩
theorem addW_at(Ls:List Sp)(s:Sp):(addW Ls s)[(addW Ls s).idxOf s]?=some s:=by
 have hm:s∈addW Ls s:=by
  unfold addW
  split
  ·assumption
  ·simp
 obtain ⟨h1,h2⟩:∃ h:(addW Ls s).idxOf s<(addW Ls s).length,(addW Ls s)[(addW Ls s).idxOf s]=s:=⟨List.idxOf_lt_length_iff.2 hm,List.getElem_idxOf _⟩
 rw [List.getElem?_eq_getElem h1,h2]
theorem setNx_map(N:List Nd)(i:Nat)(nv:Value)(nx:List (Int × Nat)):(setNx N i nv nx).map Nd.sp=N.map Nd.sp:=by
 unfold setNx
 cases h:N[i]? with
 | none=>rfl
 | some n =>
  obtain ⟨hi,rfl⟩:=List.getElem?_eq_some_iff.1 h
  simp only
  rw [List.map_set]
  exact List.ext_getElem (by simp) fun j h1 h2=>by
   rw [List.getElem_set]
   split
   ·rename_i e; subst e; simp
   ·rfl
theorem setNx_get(N:List Nd)(i:Nat)(nv:Value)(nx:List (Int × Nat))(j:Nat):(setNx N i nv nx)[j]?=if j=i then (N[i]?).map (fun n=>{ n with nv:=nv,nx:=nx }) else N[j]?:=by
 unfold setNx
 cases h:N[i]? with
 | none =>
  simp only
  split
  ·rename_i e; subst e; rw [h]; rfl
  ·rfl
 | some n =>
  simp only
  rw [List.getElem?_set]
  have hi:=(List.getElem?_eq_some_iff.1 h).1
  by_cases e:j=i
  ·subst e; simp [hi]
  ·rw [if_neg e,if_neg (fun h=>e h.symm)]
def GrI(P:List (List OpT))(obs:List Int)(N:List Nd)(i:Nat)(ms:List (Int × Sp)):Prop :=
 ∀ j n,N[j]?=some n→n.gd=false∧(j<i→NxR (N.map Nd.sp) n.nx (mvsP P obs n.sp))∧(j=i→NxR (N.map Nd.sp) n.nx ms)∧(i<j→n.nx=[])
theorem mvsK_succ(P:List (List OpT))(obs:List Int)(s:Sp)(k:Nat):(List.range (k+1)).filterMap (mvP P obs s)=(List.range k).filterMap (mvP P obs s)++(mvP P obs s k).toList:=by
 rw [List.range_succ,List.filterMap_append]
 congr 1
theorem try_gr{P:List (List OpT)}{obs:List Int}{k i:Nat}{N N':List Nd}{n:Nd}{ms:List (Int × Sp)}(h:TryR P obs k i N N')(hg:GrI P obs N i ms)(hn:N[i]?=some n) :
  GrI P obs N' i (ms++(mvP P obs n.sp k).toList)∧N'.map Nd.sp=(mvP P obs n.sp k).toList.foldl (fun L m=>addW L m.2) (N.map Nd.sp)∧(∃ n',N'[i]?=some n'∧n'.sp=n.sp∧n'.b=n.b∧n'.ds=n.ds)∧N'.length≤N.length+1∧(∀ n0:Nd,N.head?=some n0→∃ n1,N'.head?=some n1∧n1.sp=n0.sp):=by
 cases h with
 | @no n2 hn2 hm =>
  obtain rfl:n2=n:=Option.some.inj (hn2.symm.trans hn)
  rw [hm]
  exact ⟨by simpa using hg,rfl,⟨_,hn,rfl,rfl,rfl⟩,by omega,fun n0 h0=>⟨n0,h0,rfl⟩⟩
 | @yes n2 m N1 nv hn2 hm hsp hE =>
  obtain rfl:n2=n:=Option.some.inj (hn2.symm.trans hn)
  rw [hm]
  obtain ⟨t,ht,htl⟩:=addW_pre (N.map Nd.sp) m.2
  have hat:=addW_at (N.map Nd.sp) m.2
  rw [← hsp] at hat
  have hN1:∀ j,j<N.length→N1[j]?=N[j]?:=fun j hj=>by
   rcases hE with rfl | ⟨b,dv,sv,U,rfl⟩
   ·rfl
   ·exact List.getElem?_append_left hj
  have hil:i<N.length:=(List.getElem?_eq_some_iff.1 hn).1
  have h1i:N1[i]?=some n2:=by rw [hN1 i hil]; exact hn
  have hlen:N1.length≤N.length+1:=by
   rcases hE with rfl | ⟨b,dv,sv,U,rfl⟩ <;> simp
  have hls:(setNx N1 i nv (n2.nx++[(m.1,(N1.map Nd.sp).idxOf m.2)])).length=N1.length:=by
   have:=congrArg List.length (setNx_map N1 i nv (n2.nx++[(m.1,(N1.map Nd.sp).idxOf m.2)]))
   simpa using this
  refine ⟨fun j n' hj=>?_,?_,?_,by rw [hls]; exact hlen,fun n0 h0=>?_⟩
  ·rw [setNx_map]
   rw [setNx_get] at hj
   have mono:∀ {nx:List (Int × Nat)} {ms:List (Int × Sp)},NxR (N.map Nd.sp) nx ms→NxR (N1.map Nd.sp) nx ms:=fun h=>by rw [hsp,ht]; exact h.mono t
   by_cases e:j=i
   ·subst e
    rw [if_pos rfl,h1i] at hj
    cases hj
    obtain ⟨g1,_,g3,_⟩:=hg _ _ hn
    exact ⟨g1,fun h=>absurd h (Nat.lt_irrefl _),fun _=>(mono (g3 rfl)).snoc hat,fun h=>absurd h (Nat.lt_irrefl _)⟩
   ·rw [if_neg e] at hj
    by_cases hjl:j<N.length
    ·rw [hN1 j hjl] at hj
     obtain ⟨g1,g2,g3,g4⟩:=hg _ _ hj
     exact ⟨g1,fun h=>mono (g2 h),fun h=>absurd h e,g4⟩
    ·rcases hE with rfl | ⟨b,dv,sv,U,rfl⟩
     ·exact absurd (List.getElem?_eq_some_iff.1 hj).1 hjl
     ·rw [List.getElem?_append_right (by omega)] at hj
      have:j - N.length=0:=by
       have:=(List.getElem?_eq_some_iff.1 hj).1
       simpa using this
      rw [this] at hj
      cases hj
      exact ⟨rfl,fun h=>absurd h (by omega),fun h=>absurd h e,fun _=>rfl⟩
  ·rw [setNx_map,hsp]; rfl
  ·exact ⟨{ n2 with nv:=nv,nx:=n2.nx++[(m.1,(N1.map Nd.sp).idxOf m.2)] },by rw [setNx_get,if_pos rfl,h1i]; rfl,rfl,rfl,rfl⟩
  ·rw [List.head?_eq_getElem?,setNx_get]
   rw [List.head?_eq_getElem?] at h0
   by_cases e:0=i
   ·subst e
    rw [if_pos rfl,h1i]
    rw [hn] at h0
    cases h0
    exact ⟨{ n2 with nv:=nv,nx:=n2.nx++[(m.1,(N1.map Nd.sp).idxOf m.2)] },rfl,rfl⟩
   ·rw [if_neg e,hN1 0 (by omega)]
    exact ⟨n0,h0,rfl⟩
theorem gr_next{P:List (List OpT)}{obs:List Int}{i:Nat}{N:List Nd}{n:Nd}(hg:GrI P obs N i (mvsP P obs n.sp))(hn:N[i]?=some n):GrI P obs N (i+1) []:=fun j n' hj=>by
 obtain ⟨g1,g2,g3,g4⟩:=hg j n' hj
 refine ⟨g1,fun h=>?_,fun h=>?_,fun h=>g4 (by omega)⟩
 ·by_cases e:j=i
  ·subst e
   obtain rfl:n'=n:=Option.some.inj (hj.symm.trans hn)
   exact g3 rfl
  ·exact g2 (by omega)
 ·rw [g4 (by omega)]; rfl
open Go Go.Ann Go.RowKit
structure Ctx(P:List (List OpT))(accO:List Seg)(M:Nat):Prop where
 pr:PrOk P accO
 m:M≤1000
 pl:P.length≤200
 pp:∀ k,(P.getD k []).length≤200
 ob:accO.length≤1000
structure SrS(W0 w:World)(F:Nat→Prop)(L:List Res)(I:List Inv)(P:List (List OpT))(accO:List Seg)(vs:List Value)(x pl m M c0:Nat)(mst:Int)(pv tv:Value)(N:List Nd)(C:List DS):Prop where
 st:St W0 w F (SX P x pl m mst pv tv N++L) (Inv.ds C::Inv.pg pv P vs::Inv.ob pl (mapG Cut.intK natK (plM (objsW accO) 0) c0)::I)
 nd:∀ n∈N,NdOk P accO M C n
theorem mvs_one{P:List (List OpT)}{obs:List Int}{s:Sp}(k:Nat):((List.range k).filterMap (mvP P obs s)).length≤k:=by
 have:=List.length_filterMap_le (mvP P obs s) (List.range k)
 rw [List.length_range] at this
 exact this
theorem all_in{W0 w:World}{F:Nat→Prop}{L:List Res}{I:List Inv}{P:List (List OpT)}{accO:List Seg}{vs:List Value}{x pl m M c0 i pc:Nat}{mst:Int}{pa:Option Addr}{tv:Value}{N:List Nd}{C:List DS}{n:Nd}{Q:Post}
  (cx:Ctx P accO M) (h:SrS W0 w F L I P accO vs x pl m M c0 mst (.slice pa P.length pc) tv N C) (hg:GrI P (objsW accO) N i []) (hi:N[i]?=some n) (hNl:N.length≤40000)
  (hQ:∀ w' tv' N' C',SrS W0 w' F L I P accO vs x pl m M c0 mst (.slice pa P.length pc) tv' N' C'→GrI P (objsW accO) N' (i+1) []→N'.map Nd.sp=roundW P (objsW accO) (N.map Nd.sp) n.sp→N'.length≤N.length+P.length→(∃ n0,N'.head?=some n0∧(N.head?.map Nd.sp)=some n0.sp)→Q .normal [(0,.pointer (some ⟨x,0,none⟩)),(3,.int .i64 i)] w') :
  W Tryz.prog (.loop (sg c30L0)) [(0,.pointer (some ⟨x,0,none⟩)),(3,.int .i64 i),(4,.pointer (some ⟨n.b,0,none⟩)),(36,.slice pa P.length pc),(37,.int .i64 P.length),(38,.int .i64 0)] w (blockQ 2 Q):=by
 have hpl:=cx.pl
 have hhd:∃ n0,N.head?=some n0:=by
  cases N with
  | nil=>cases hi
  | cons a r=>exact ⟨a,rfl⟩
 obtain ⟨n0,hn0⟩:=hhd
 refine W_loopU (fun z:Nat × Value × List Nd × List DS=>[(38,.int .i64 z.1)]) (fun z w'=>SrS W0 w' F L I P accO vs x pl m M c0 mst (.slice pa P.length pc) z.2.1 z.2.2.1 z.2.2.2∧z.1≤P.length∧GrI P (objsW accO) z.2.2.1 i ((List.range z.1).filterMap (mvP P (objsW accO) n.sp))∧z.2.2.1.map Nd.sp=((List.range z.1).filterMap (mvP P (objsW accO) n.sp)).foldl (fun L m=>addW L m.2) (N.map Nd.sp)∧(∃ n',z.2.2.1[i]?=some n'∧n'.sp=n.sp∧n'.b=n.b)∧z.2.2.1.length≤N.length+z.1∧(∃ n1,z.2.2.1.head?=some n1∧n1.sp=n0.sp)) (fun z=>P.length - z.1) (0,tv,N,C) rfl ⟨h,Nat.zero_le _,hg,rfl,⟨n,hi,rfl,rfl⟩,by simp,n0,hn0,rfl⟩ ?_
 rintro ⟨k,tk,Nk,Ck⟩ w2 ⟨h2,hk,g2,e2,⟨n',hn',hsp,hb⟩,hl2,n1,hn1,hs1⟩
 simp only at h2 hk g2 e2 hn' hl2 hn1
 by_cases hlt:k<P.length
 ·have hlt':(k:Int)<P.length:=by omega
  obtain ⟨hil,hNi⟩:=List.getElem?_eq_some_iff.1 hn'
  have nd':=h2.nd n' (List.mem_of_getElem? hn')
  have hB:=(sx_blk h2.st hil).rules
  rw [hNi] at hB
  rw [← hb]
  have hdr:=(h2.st.get 0 rfl _ nd'.ds).1
  simp only [Nd.ds] at hdr
  have hPr:PgR w2 (.slice pa P.length pc) P vs:=h2.st.get 1 rfl
  obtain ⟨p,rfl⟩:=hPr.ptr (by omega)
  obtain ⟨ra,rc,e1,r1⟩:=hPr.at hlt
  obtain ⟨da,dc,hda,_⟩:=hdr.form
  have hkd:k<n'.sp.done.length:=by rw [nd'.ok.dl]; exact hlt
  rw [hda] at hdr hB
  obtain ⟨da,rfl⟩:=hdr.ptr (by rw [zN_len]; omega)
  have e3:=zN_cell hdr hkd
  have hk2:(k:Int)<(zN n'.sp.done).length:=by rw [zN_len]; omega
  have hop:opAt P n'.sp.done k=P[k][n'.sp.done.getD k 0]?:=by
   unfold opAt
   rw [List.getElem?_eq_getElem hlt,List.getElem?_eq_getElem hkd]
   simp [List.getD_eq_getElem?_getD,List.getElem?_eq_getElem hkd]
  have hmk:mvsP P (objsW accO) n.sp=(List.range P.length).filterMap (mvP P (objsW accO) n.sp):=rfl
  by_cases hlt2:n'.sp.done.getD k 0<P[k].length
  ·have hlt2':((n'.sp.done.getD k 0:Nat):Int)<P[k].length:=by omega
   obtain ⟨q,rfl⟩:=r1.ptr (by omega)
   have ec:=r1.at OpT.len hlt2
   have hop2:opAt P n'.sp.done k=some (P[k][n'.sp.done.getD k 0]):=by rw [hop,List.getElem?_eq_getElem hlt2]
   simp (disch:=first|omega|exact zF rfl|exact zG rfl|exact fun h=>h|(simp only[zA,zB,zC,zD,bytesW];omega)) only[go_sem,c30S3,c30S4,c30L1,c30S7,hlt',e1,e3,hB,hk2,hlt2',ec]
   have hnxl:n'.nx.length≤k:=by
    have h1:=((g2 i n' hn').2.2.1 rfl).len
    have h2:=mvs_one (P:=P) (obs:=objsW accO) (s:=n.sp) k
    omega
   have ht:=try_ok (i:=i) (k:=k) (o:=P[k][n'.sp.done.getD k 0]) h2.st cx.pr h2.nd cx.m hil (by rw [hNi]; exact hop2) cx.pl cx.pp cx.ob (by omega) (by rw [hNi]; have:=cx.pl; omega)
   rw [hNi] at ht
   unfold ptV at ht
   refine ⟨by omega,by omega,by omega,by omega,Ret.mono ht ?_⟩
   rintro _ w5 ⟨tv5,N5,C5,s5,_,nd5,t5⟩
   obtain ⟨k1,k2,⟨n5,k3,k4,k5,_⟩,k6,k7⟩:=try_gr t5 g2 hn'
   obtain ⟨n6,k8,k9⟩:=k7 n1 hn1
   rw [hsp] at k1 k2 k4
   rw [hb] at k5
   simp (disch:=first|omega|exact zF rfl|exact zG rfl|exact fun h=>h|(simp only[zA,zB,zC,zD,bytesW];omega)) only[go_sem,c30S3,c30S4,c30L1,c30S7]
   refine ⟨⟨by omega,by omega⟩,(k+1,tv5,N5,C5),rfl,⟨⟨s5,nd5⟩,by simp only; omega,by simp only; rw [mvsK_succ]; exact k1,by simp only; rw [mvsK_succ,List.foldl_append,← e2]; exact k2,⟨n5,k3,k4,by rw [hb]; exact k5⟩,by simp only; omega,n6,k8,by rw [k9,hs1]⟩,by simp only; omega⟩
  ·have hlt2':¬ ((n'.sp.done.getD k 0:Nat):Int)<P[k].length:=by omega
   have hnone:mvP P (objsW accO) n.sp k=none:=by
    unfold mvP
    rw [← hsp,hop,List.getElem?_eq_none (by omega)]
   simp (disch:=first|omega|exact zF rfl|exact zG rfl|exact fun h=>h|(simp only[zA,zB,zC,zD,bytesW];omega)) only[go_sem,c30S3,c30S4,c30L1,c30S7,hlt',e1,e3,hB,hk2,hlt2']
   refine ⟨by omega,by omega,⟨by omega,by omega⟩,(k+1,tk,Nk,Ck),rfl,⟨h2,by simp only; omega,by simp only; rw [mvsK_succ,hnone]; simpa using g2,by simp only; rw [mvsK_succ,hnone]; simpa using e2,⟨n',hn',hsp,rfl⟩,by simp only; omega,n1,hn1,hs1⟩,by simp only; omega⟩
 ·have hlt':¬ (k:Int)<P.length:=by omega
  obtain rfl:k=P.length:=by omega
  simp (disch:=first|omega|exact zF rfl|exact zG rfl|exact fun h=>h|(simp only[zA,zB,zC,zD,bytesW];omega)) only[go_sem,c30S3,c30S4,c30L1,c30S7,hlt']
  refine hQ _ _ _ _ h2 (gr_next (n:=n') (by rw [hsp]; exact g2) hn') e2 hl2 ⟨n1,hn1,?_⟩
  rw [hn0,hs1]; rfl
theorem all_ok{W0 w:World}{F:Nat→Prop}{L:List Res}{I:List Inv}{P:List (List OpT)}{accO:List Seg}{vs:List Value}{x pl m M c0:Nat}{mst:Int}{pv tv:Value}{N:List Nd}{C:List DS}{s0:Sp}
  (cx:Ctx P accO M) (h:SrS W0 w F L I P accO vs x pl m M c0 mst pv tv N C) (hg:GrI P (objsW accO) N 0 []) (h1:N.map Nd.sp=[s0]) (hm:mst≤32768) :
  Ret Tryz.prog 30 [.pointer (some ⟨x,0,none⟩)] w fun u w'=>∃ tv' N' C' r,SrS W0 w' F L I P accO vs x pl m M c0 mst pv tv' N' C'∧BfsR P (objsW accO) mst [s0] 0 r∧N'.map Nd.sp=r∧r.length≤40000∧u=.bool (decide ((r.length:Int)≤mst))∧((r.length:Int)≤mst→∀ n∈N',n.gd=false∧NxR (N'.map Nd.sp) n.nx (mvsP P (objsW accO) n.sp)):=by
 have hpl:=cx.pl
 obtain ⟨pa,pc,rfl⟩:=(show PgR w pv P vs from h.st.get 1 rfl).form
 have hN1:N.length=1:=by have:=congrArg List.length h1; simpa using this
 refine ent30 _ _ _ ?_
 simp (disch:=first|omega|exact zF rfl|exact zG rfl|exact fun h=>h|(simp only[zA,zB,zC,zD,bytesW];omega)) only[go_sem,c30S3,c30S4,c30S6]
 refine W_loopU (fun z:Nat × Value × List Nd × List DS=>[(3,.int .i64 z.1)]) (fun z w'=>SrS W0 w' F L I P accO vs x pl m M c0 mst (.slice pa P.length pc) z.2.1 z.2.2.1 z.2.2.2∧GrI P (objsW accO) z.2.2.1 z.1 []∧z.1≤z.2.2.1.length∧z.2.2.1.length≤33000∧z.1≤32768∧∀ r,BfsR P (objsW accO) mst (z.2.2.1.map Nd.sp) z.1 r→BfsR P (objsW accO) mst [s0] 0 r) (fun z=>33000 - z.1) (0,tv,N,C) rfl ⟨h,hg,Nat.zero_le _,by simp only; omega,by simp only; omega,fun r hr=>by rw [h1] at hr; exact hr⟩ ?_
 rintro ⟨i,ti,Ni,Ci⟩ w2 ⟨h2,g2,hi,hl,hi2,hb⟩
 simp only at h2 g2 hi hl hi2 hb
 obtain ⟨ta,tc,rfl,_⟩:=own_slice (h2.st.row 1 rfl)
 have r2:=h2.st.rules 0 rfl
 have lens:(Ni.map Nd.sp).length=Ni.length:=by simp
 by_cases hlt:i<Ni.length
 ·have hlt':(i:Int)<Ni.length:=by omega
  simp (disch:=first|omega|exact zF rfl|exact zG rfl|exact fun h=>h|(simp only[zA,zB,zC,zD,bytesW];omega)) only[go_sem,c30S4,c30L1,c30S6,c30L1,r2,hlt']
  refine c30draw0 ?_
  simp (disch:=first|omega|exact zF rfl|exact zG rfl|exact fun h=>h|(simp only[zA,zB,zC,zD,bytesW];omega)) only[go_sem,c30S4,c30L1,c30S6,c30D0,r2]
  have h3:SrS W0 w2.drew F L I P accO vs x pl m M c0 mst (.slice pa P.length pc) (.slice ta Ni.length tc) Ni Ci:=⟨h2.st.drew,h2.nd⟩
  generalize w2.drew=w3 at h3 ⊢
  refine ⟨fun hov=>?_,fun hle=>?_⟩
  ·refine ⟨_,Ni,Ci,Ni.map Nd.sp,h3,hb _ (.full (by rw [lens]; omega)),rfl,by rw [lens]; omega,?_,fun h=>by rw [lens] at h; omega⟩
   rw [lens,decide_eq_false (by omega)]
  ·have r3:=h3.st.rules 0 rfl
   obtain ⟨g,rfl⟩:=own_ptr (h3.st.row 1 rfl) (by omega)
   have hrow:=own_cell (h3.st.row 1 rfl)
   have ec:=hrow.1 i (ptV Ni[i].b) (by rw [List.getElem?_map,List.getElem?_eq_getElem hlt]; rfl)
   unfold ptV at ec
   simp (disch:=first|omega|exact zF rfl|exact zG rfl|exact fun h=>h|(simp only[zA,zB,zC,zD,bytesW];omega)) only[go_sem,c30S3,c30L1,c30S6,r3,ec,hlt']
   refine ⟨by omega,?_⟩
   refine all_in cx h3 g2 (List.getElem?_eq_getElem hlt) (by omega) ?_
   intro w5 t5 N5 C5 h5 g5 e5 l5 _
   simp (disch:=first|omega|exact zF rfl|exact zG rfl|exact fun h=>h|(simp only[zA,zB,zC,zD,bytesW];omega)) only[go_sem,c30S3,c30S4,c30L1,c30S6]
   have lr:N5.length=(roundW P (objsW accO) (Ni.map Nd.sp) Ni[i].sp).length:=by have:=congrArg List.length e5; simpa using this
   obtain ⟨t,ht,_⟩:=roundW_out P (objsW accO) (Ni.map Nd.sp) Ni[i].sp
   have lr2:Ni.length≤N5.length:=by rw [lr,ht,List.length_append,lens]; omega
   refine ⟨⟨by omega,by omega⟩,(i+1,t5,N5,C5),rfl,⟨h5,g5,by simp only; omega,by simp only; omega,by simp only; omega,fun r hr=>hb r ?_⟩,by simp only; omega⟩
   simp only at hr
   rw [e5] at hr
   refine .go (by rw [lens]; exact hlt) (by rw [lens]; omega) ?_
   simpa using hr
 ·have hlt':¬ (i:Int)<Ni.length:=by omega
  simp (disch:=first|omega|exact zF rfl|exact zG rfl|exact fun h=>h|(simp only[zA,zB,zC,zD,bytesW];omega)) only[go_sem,c30S3,c30S4,c30L1,c30S6,c30S7,c30L1,r2,hlt']
  refine c30draw1 ?_
  simp (disch:=first|omega|exact zF rfl|exact zG rfl|exact fun h=>h|(simp only[zA,zB,zC,zD,bytesW];omega)) only[go_sem,c30S3,c30S4,c30L1,c30S6,c30S7,c30D1,r2]
  refine ⟨_,Ni,Ci,Ni.map Nd.sp,⟨h2.st.drew,h2.nd⟩,hb _ (.last (by rw [lens]; omega)),rfl,by rw [lens]; omega,by rw [lens],fun _ n hn=>?_⟩
  obtain ⟨j,hj,rfl⟩:=List.mem_iff_getElem.1 hn
  obtain ⟨a1,a2,_⟩:=g2 j _ (List.getElem?_eq_getElem hj)
  exact ⟨a1,a2 (by omega)⟩
open Go Go.Ann Go.RowKit
section
variable {W0 w:World} {F:Nat→Prop} {L:List Res} {I:List Inv} {g n c:Nat} {X:List Value} {fv:Value} {key:Value→Int}
abbrev RowP(g n c:Nat)(X:List Value):Res:=.row (.slice (some ⟨g,0,none⟩) n c) 65 1 n X
def CmpOk(W0:World)(F:Nat→Prop)(L:List Res)(I:List Inv)(g n c:Nat)(fv:Value)(key:Value→Int)(X:List Value):Prop :=
 ∀ w' X',St W0 w' F (RowP g n c X'::L) I→∀ u∈X,∀ v∈X,callW Tryz.prog fv [u,v] w' fun r w''=>∃ z,r=.int .i64 z∧(z<0↔key u<key v)∧Below w'.heap.size w' w''
def PtrV(X:List Value):Prop:=∀ u∈X,∃ b,u=ptV b
theorem swap_mid{α:Type}(A B:List α)(x y:α):((A++y::x::B).set (A.length+1) y).set A.length x=A++x::y::B:=by
 rw [List.set_append_right _ _ (by omega),List.set_append_right _ _ (by omega)]
 simp
theorem own_lt{w:World}{B0 e sz n m c g:Nat}{xs:List Value}(h:w.ownsRow B0 e sz (.slice (some ⟨g,0,none⟩) n c) m xs):B0≤g∧g<w.heap.size:=World.ownsRow.lt h g rfl
theorem isort_ok(h:St W0 w F (RowP g n c X::L) I)(hc:CmpOk W0 F L I g n c fv key X)(hX:PtrV X)(hy:noYV (some fv))(hn:X.length=n)(hn2:n≤100000){lo hi:Nat}(h1:lo≤hi)(h2:hi≤n) :
  Ret Tryz.prog 113 [.slice (some ⟨g,0,none⟩) n c,.int .i64 lo,.int .i64 hi,fv] w fun _ w'=>∃ M,St W0 w' F (RowP g n c (X.take lo++(M++X.drop hi))::L) I∧M.Perm ((X.take hi).drop lo)∧Ordd key M:=by
 refine ent113 _ _ _ _ _ _ ?_
 simp (disch:=first|omega|exact zF rfl|exact zG rfl|exact fun h=>h|(simp only[zA,zB,zC,zD,bytesW];omega)) only[go_sem,c113S2,c113L0,c113S3]
 refine ⟨⟨by omega,by omega⟩,?_⟩
 have hlo:lo<hi∨lo=hi:=by omega
 rcases hlo with hlo | rfl
 ·have hst:(X.take (lo+1)).drop lo=[X[lo]'(by omega)]:=by
   rw [List.take_succ_eq_append_getElem (by omega),List.drop_append_of_le_length (by rw [List.length_take]; omega),List.drop_of_length_le (by rw [List.length_take]; omega)]
   rfl
  have hX0:X=X.take lo++([X[lo]'(by omega)]++X.drop (lo+1)):=by
   conv=>lhs; rw [← List.take_append_drop lo X,List.drop_eq_getElem_cons (by omega)]
   rfl
  refine W_loopU (fun z:Nat × List Value=>[(8,.int .i64 z.1)]) (fun z w'=>St W0 w' F (RowP g n c (X.take lo++(z.2++X.drop z.1))::L) I∧lo<z.1∧z.1≤hi∧z.2.Perm ((X.take z.1).drop lo)∧Ordd key z.2) (fun z=>hi - z.1) (lo+1,[X[lo]'(by omega)]) rfl ⟨by simp only; rw [← hX0]; exact h,by simp only; omega,by simp only; omega,by simp only; rw [hst],by simp [Ordd]⟩ ?_
  rintro ⟨i,M⟩ w2 ⟨s2,hi1,hi2,hp2,ho2⟩
  simp only at s2 hi1 hi2 hp2 ho2
  have hMl:M.length=i - lo:=by
   rw [hp2.length_eq,List.length_drop,List.length_take]; omega
  by_cases hlt:i<hi
  ·have hlt':(i:Int)<hi:=by omega
   have hdr:X.drop i=X[i]'(by omega)::X.drop (i+1):=List.drop_eq_getElem_cons (by omega)
   have hxm:X[i]'(by omega)∈X:=List.getElem_mem _
   have hMm:∀ y∈M,y∈X:=fun y hy=>List.mem_of_mem_take (List.mem_of_mem_drop (hp2.mem_iff.1 hy))
   have htl:(X.take lo).length=lo:=by rw [List.length_take]; omega
   have hpi:(X.take (i+1)).drop lo=(X.take i).drop lo++[X[i]'(by omega)]:=by
    rw [List.take_succ_eq_append_getElem (by omega),List.drop_append_of_le_length (by rw [List.length_take]; omega)]
   rw [hdr] at s2
   generalize X[i]'(by omega)=x at s2 hxm hpi
   simp (disch:=first|omega|exact zF rfl|exact zG rfl|exact fun h=>h|(simp only[zA,zB,zC,zD,bytesW];omega)) only[go_sem,c113S2,c113L1,c113L1,hlt']
   refine W_loopU (fun z:Nat × List Value × List Value=>[(9,.int .i64 z.1)]) (fun z w'=>St W0 w' F (RowP g n c (X.take lo++(z.2.1++(x::(z.2.2++X.drop (i+1)))))::L) I∧z.1=lo+z.2.1.length∧z.2.1++z.2.2=M∧∀ y∈z.2.2,key x≤key y) (fun z=>z.1) (i,M,[]) rfl ⟨by simpa using s2,by simp only; omega,by simp,fun y hy=>by cases hy⟩ ?_
   rintro ⟨j,M1,M2⟩ w3 ⟨s3,hj,hM,hle⟩
   simp only at s3 hj hM hle
   have done:∀ w',St W0 w' F (RowP g n c (X.take lo++(M1++(x::(M2++X.drop (i+1)))))::L) I→(∀ y∈M1,key y≤key x)→St W0 w' F (RowP g n c (X.take lo++((M1++x::M2)++X.drop (i+1)))::L) I∧lo<i+1∧i+1≤hi∧(M1++x::M2).Perm ((X.take (i+1)).drop lo)∧Ordd key (M1++x::M2):=fun w' sd hl1=>by
    obtain ⟨q1,q2⟩:=put_in (u:=x) (by rw [hM]; exact ho2) hl1 hle
    refine ⟨by simpa using sd,by omega,by omega,?_,q2⟩
    rw [hpi]
    refine q1.trans ?_
    rw [hM]
    exact (hp2.cons x).trans (List.perm_append_singleton x _).symm
   rcases List.eq_nil_or_concat M1 with rfl | ⟨M1',y,rfl⟩
   ·have hj':¬ (j:Int) > lo:=by simp only [List.length_nil] at hj; omega
    simp (disch:=first|omega|exact zF rfl|exact zG rfl|exact fun h=>h|(simp only[zA,zB,zC,zD,bytesW];omega)) only[go_sem,c113L0,c113L1,c113L0]
    refine c113draw0 (Chg (fun _=>False) _) (Chg.refl _ _) ?_
    simp (disch:=first|omega|exact zF rfl|exact zG rfl|exact fun h=>h|(simp only[zA,zB,zC,zD,bytesW];omega)) only[go_sem,c113L0,c113S3,c113L1,c113D0,hj']
    have s4:=s3.drew
    generalize w3.drew=w4 at s4 ⊢
    exact ⟨⟨by omega,by omega⟩,(i+1,[]++x::M2),rfl,done _ s4 (fun y hy=>by cases hy),by simp only; omega⟩
   ·rw [List.concat_eq_append] at *
    have hj2:j=lo+M1'.length+1:=by rw [hj,List.length_append,List.length_singleton]; omega
    obtain ⟨j',rfl⟩:∃ j',j=j'+1:=⟨lo+M1'.length,hj2⟩
    have hym:y∈X:=hMm y (by rw [← hM]; simp)
    have hj3:j'+1<n:=by
     have:=congrArg List.length hM
     rw [hMl] at this
     simp only [List.length_append,List.length_singleton] at this
     omega
    have s4:=s3.drew
    have eY:X.take lo++(M1'++[y]++(x::(M2++X.drop (i+1))))=(X.take lo++M1')++y::x::(M2++X.drop (i+1)):=by simp
    have hAl:(X.take lo++M1').length=j':=by rw [List.length_append,htl]; omega
    rw [eY] at s3 s4
    obtain ⟨by_,rfl⟩:=hX y hym
    obtain ⟨bx,rfl⟩:=hX x hxm
    have c3:=(own_cell (s3.row 0 rfl)).1
    have c4:=(own_cell (s4.row 0 rfl)).1
    have y3:=c3 j' (ptV by_) (by rw [List.getElem?_append_right (by omega),hAl]; simp)
    have x3:=c3 (j'+1) (ptV bx) (by rw [List.getElem?_append_right (by omega),hAl]; simp)
    have y4:=c4 j' (ptV by_) (by rw [List.getElem?_append_right (by omega),hAl]; simp)
    have x4:=c4 (j'+1) (ptV bx) (by rw [List.getElem?_append_right (by omega),hAl]; simp)
    have lg:g<w3.heap.size:=(own_lt (s3.row 0 rfl)).2
    have hj':(lo:Int)<(j':Int)+1:=by omega
    have t1:((j':Int)+1).toNat=j'+1:=by omega
    have t2:((j':Int)+1 - 1).toNat=j':=by omega
    have nj:j'+1≠j':=by omega
    unfold ptV at y3 x3 y4 x4
    simp (disch:=first|omega|exact zF rfl|exact zG rfl|exact fun h=>h|(simp only[zA,zB,zC,zD,bytesW];omega)) only[go_sem,c113L0,c113L1,c113L0]
    refine c113draw0 (Chg (fun _=>False) _) (Chg.refl _ _) ?_
    simp (disch:=first|omega|exact zF rfl|exact zG rfl|exact fun h=>h|(simp only[zA,zB,zC,zD,bytesW];omega)) only[go_sem,c113L0,c113S3,c113L1,c113D0,hj',t1,t2,y3,x3,y4,x4]
    refine ⟨⟨by omega,by omega⟩,⟨by omega,by omega⟩,⟨by omega,by omega⟩,?_⟩
    refine ⟨hy,callW_mono (hc _ _ s4 _ hxm _ hym) ?_⟩
    rintro _ w5 ⟨z,rfl,hz,b5⟩
    have s5:=s4.call b5
    simp (disch:=first|omega|exact zF rfl|exact zG rfl|exact fun h=>h|(simp only[zA,zB,zC,zD,bytesW];omega)) only[go_sem,c113L0,c113S3,c113L1,c113D0]
    refine ⟨fun hz0=>?_,fun hz0=>?_⟩
    ·have hlt3:=hz.1 hz0
     have s6:=s5.drew
     have c5:=(own_cell (s5.row 0 rfl)).1
     have c6:=(own_cell (s6.row 0 rfl)).1
     have f6:=(own_cell (s5.row 0 rfl)).2
     have y5:=c5 j' (ptV by_) (by rw [List.getElem?_append_right (by omega),hAl]; simp)
     have x5:=c5 (j'+1) (ptV bx) (by rw [List.getElem?_append_right (by omega),hAl]; simp)
     have y6:=c6 j' (ptV by_) (by rw [List.getElem?_append_right (by omega),hAl]; simp)
     have x6:=c6 (j'+1) (ptV bx) (by rw [List.getElem?_append_right (by omega),hAl]; simp)
     have f6a:=f6 j'
     have f6b:=f6 (j'+1)
     have lg5:g<w5.heap.size:=(own_lt (s5.row 0 rfl)).2
     unfold ptV at y5 x5 y6 x6
     have s7:=((s5.put 0 rfl (j'+1) (ptV by_)).put 0 rfl j' (ptV bx)).drew
     simp only [List.set_cons_zero] at s7
     have esw:=swap_mid (X.take lo++M1') (M2++X.drop (i+1)) (ptV bx) (ptV by_)
     rw [hAl] at esw
     rw [esw] at s7
     simp (disch:=first|omega|exact zF rfl|exact zG rfl|exact fun h=>h|(simp only[zA,zB,zC,zD,bytesW];omega)) only[go_sem,c113S2,c113L0,c113S3,c113L1]
     refine c113draw1 (Chg (fun _=>False) _) (Chg.refl _ _) ?_
     simp (disch:=first|omega|exact zF rfl|exact zG rfl|exact fun h=>h|(simp only[zA,zB,zC,zD,bytesW];omega)) only[go_sem,c113S2,c113L0,c113S3,c113L1,c113D1,t1,t2,y5,x5,y6,x6,f6a,f6b]
     refine ⟨⟨by omega,by omega⟩,⟨by omega,by omega⟩,⟨by omega,by omega⟩,⟨by omega,by omega⟩,⟨by omega,by omega⟩,⟨by omega,by omega⟩,⟨by omega,by omega⟩,(j',M1',ptV by_::M2),?_,⟨?_,by simp only; omega,by rw [← hM]; simp,fun u hu=>?_⟩,by simp only; omega⟩
     ·simp only
      have:(j':Int)+1 - 1=j':=by omega
      rw [this]
     ·simp only
      exact st_recast s7 (by simp [RowP])
     ·rcases List.mem_cons.1 hu with rfl | hu
      ·exact Int.le_of_lt hlt3
      ·exact hle u hu
    ·have hge:key (ptV by_)≤key (ptV bx):=by
      have:¬ key (ptV bx)<key (ptV by_):=fun h=>by have:=hz.2 h; omega
      omega
     rw [← eY] at s5
     refine ⟨⟨by omega,by omega⟩,(i+1,(M1'++[ptV by_])++ptV bx::M2),rfl,done _ s5 fun u hu=>?_,by simp only; omega⟩
     have:Ordd key (M1'++[ptV by_]):=by rw [← hM] at ho2; exact ho2.left
     rcases List.mem_append.1 hu with hu | hu
     ·have:=this.mid u hu (ptV by_) (by simp)
      omega
     ·rw [List.mem_singleton] at hu
      subst hu
      exact hge
  ·have hlt':¬ (i:Int)<hi:=by omega
   obtain rfl:i=hi:=by omega
   simp (disch:=first|omega|exact zF rfl|exact zG rfl|exact fun h=>h|(simp only[zA,zB,zC,zD,bytesW];omega)) only[go_sem,c113S2,c113L0,c113S3,c113L1,c113L1,hlt']
   exact ⟨M,s2,hp2,ho2⟩
 ·have hlt':¬ ((lo:Int)+1<lo):=by omega
  refine W_loopU (fun z:Unit=>[(8,.int .i64 (lo+1))]) (fun z w'=>w'=w) (fun z=>0) () rfl rfl ?_
  rintro _ _ rfl
  simp (disch:=first|omega|exact zF rfl|exact zG rfl|exact fun h=>h|(simp only[zA,zB,zC,zD,bytesW];omega)) only[go_sem,c113S2,c113L0,c113S3,c113L1,c113L1,hlt']
  refine ⟨[],by simpa using h,?_,List.Pairwise.nil⟩
  rw [List.drop_of_length_le (by rw [List.length_take]; omega)]
end
open Go Go.Ann Go.RowKit
theorem set_mid{α:Type}(A B:List α)(x y:α):(A++x::B).set A.length y=A++y::B:=by
 rw [List.set_append_right _ _ (by omega)]
 simp
theorem get_mid{α:Type}(A B:List α)(x:α){i:Nat}(h:A.length=i):(A++x::B)[i]?=some x:=by
 rw [List.getElem?_append_right (by omega),h]
 simp
def swapY{α:Type}(A U M V D:List α)(i:Nat):List α:=A++((V.take i++U.drop i)++(M++((U.take i++V.drop i)++D)))
theorem swapY_zero{α:Type}(A U M V D:List α):swapY A U M V D 0=A++(U++(M++(V++D))):=by simp [swapY]
theorem swapY_all{α:Type}(A U M V D:List α)(h:U.length=V.length):swapY A U M V D U.length=A++(V++(M++(U++D))):=by
 unfold swapY
 rw [List.take_of_length_le (by omega),List.take_of_length_le (by omega),List.drop_of_length_le (by omega),List.drop_of_length_le (by omega)]
 simp
theorem swapY_one{α:Type}(A U M V D:List α){i:Nat}(h:U.length=V.length)(hi:i<U.length) :
  swapY A U M V D i=(A++V.take i)++U[i]::(U.drop (i+1)++(M++((U.take i++V.drop i)++D))) ∧
  (A++V.take i)++(V[i]'(by omega))::(U.drop (i+1)++(M++((U.take i++V.drop i)++D)))=(A++(V.take (i+1)++(U.drop (i+1)++(M++U.take i))))++(V[i]'(by omega))::(V.drop (i+1)++D) ∧
  (A++(V.take (i+1)++(U.drop (i+1)++(M++U.take i))))++U[i]::(V.drop (i+1)++D)=swapY A U M V D (i+1) ∧
  swapY A U M V D i=(A++(V.take i++(U.drop i++(M++U.take i))))++(V[i]'(by omega))::(V.drop (i+1)++D):=by
 have e1:U.drop i=U[i]::U.drop (i+1):=List.drop_eq_getElem_cons hi
 have e2:V.drop i=(V[i]'(by omega))::V.drop (i+1):=List.drop_eq_getElem_cons (by omega)
 have e3:V.take (i+1)=V.take i++[V[i]'(by omega)]:=List.take_succ_eq_append_getElem (by omega)
 have e4:U.take (i+1)=U.take i++[U[i]]:=List.take_succ_eq_append_getElem hi
 unfold swapY
 rw [e1,e2,e3,e4]
 simp only [List.append_assoc,List.cons_append,List.nil_append,and_self]
section
variable {W0 w:World} {F:Nat→Prop} {L:List Res} {I:List Inv} {g n c:Nat} {X:List Value} {fv:Value} {key:Value→Int}
theorem swapr_ok{A U M V D:List Value}(h:St W0 w F (RowP g n c (A++(U++(M++(V++D))))::L) I)(hX:PtrV (A++(U++(M++(V++D)))))(hn:(A++(U++(M++(V++D)))).length=n)(hn2:n≤100000)(huv:U.length=V.length){a b k:Nat}(ha:a=A.length)(hb:b=A.length+U.length+M.length)(hk:k=U.length) :
  Ret Tryz.prog 146 [.slice (some ⟨g,0,none⟩) n c,.int .i64 a,.int .i64 b,.int .i64 k,fv] w fun _ w'=>St W0 w' F (RowP g n c (A++(V++(M++(U++D))))::L) I:=by
 subst ha hb hk
 have hnn:A.length+U.length+M.length+V.length+D.length=n:=by rw [← hn]; simp only [List.length_append]; omega
 refine ent146 _ _ _ _ _ _ _ ?_
 simp (disch:=first|omega|exact zF rfl|exact zG rfl|exact fun h=>h|(simp only[zA,zB,zC,zD,bytesW];omega)) only[go_sem]
 refine W_loopU (fun i:Nat=>[(10,.int .i64 i)]) (fun i w'=>St W0 w' F (RowP g n c (swapY A U M V D i)::L) I∧i≤U.length) (fun i=>U.length - i) 0 rfl ⟨by rw [swapY_zero]; exact h,Nat.zero_le _⟩ ?_
 rintro i w2 ⟨s2,hi⟩
 by_cases hlt:i<U.length
 ·have hlt':(i:Int)<U.length:=by omega
  obtain ⟨f1,f2,f3,f4⟩:=swapY_one A U M V D huv hlt
  have hum:U[i]∈A++(U++(M++(V++D))):=by simp [List.getElem_mem]
  have hvm:V[i]'(by omega)∈A++(U++(M++(V++D))):=by simp [List.getElem_mem]
  generalize U[i]=u at f1 f2 f3 f4 hum
  generalize V[i]'(by omega)=v at f1 f2 f3 f4 hvm
  obtain ⟨bu,rfl⟩:=hX u hum
  obtain ⟨bv,rfl⟩:=hX v hvm
  have l1:(A++V.take i).length=A.length+i:=by rw [List.length_append,List.length_take]; omega
  have l2:(A++(V.take (i+1)++(U.drop (i+1)++(M++U.take i)))).length=A.length+U.length+M.length+i:=by
   simp only [List.length_append,List.length_take,List.length_drop]; omega
  have l3:(A++(V.take i++(U.drop i++(M++U.take i)))).length=A.length+U.length+M.length+i:=by
   simp only [List.length_append,List.length_take,List.length_drop]; omega
  have s3:=s2.drew
  have c2:=(own_cell (s2.row 0 rfl)).1
  have f0:=(own_cell (s2.row 0 rfl)).2
  have c3:=(own_cell (s3.row 0 rfl)).1
  have u2:=c2 (A.length+i) (ptV bu) (by rw [f1]; exact get_mid _ _ _ l1)
  have v2:=c2 (A.length+U.length+M.length+i) (ptV bv) (by rw [f4]; exact get_mid _ _ _ l3)
  have u3:=c3 (A.length+i) (ptV bu) (by rw [f1]; exact get_mid _ _ _ l1)
  have v3:=c3 (A.length+U.length+M.length+i) (ptV bv) (by rw [f4]; exact get_mid _ _ _ l3)
  have fa:=f0 (A.length+i)
  have fb:=f0 (A.length+U.length+M.length+i)
  have lg:g<w2.heap.size:=(own_lt (s2.row 0 rfl)).2
  have t1:((A.length:Int)+i).toNat=A.length+i:=by omega
  have t2:((A.length:Int)+U.length+M.length+i).toNat=A.length+U.length+M.length+i:=by omega
  have s4:=((s2.put 0 rfl (A.length+i) (ptV bv)).put 0 rfl (A.length+U.length+M.length+i) (ptV bu)).drew
  simp only [List.set_cons_zero] at s4
  have e1:=set_mid (A++V.take i) (U.drop (i+1)++(M++((U.take i++V.drop i)++D))) (ptV bu) (ptV bv)
  have e2:=set_mid (A++(V.take (i+1)++(U.drop (i+1)++(M++U.take i)))) (V.drop (i+1)++D) (ptV bv) (ptV bu)
  rw [l1] at e1
  rw [l2] at e2
  rw [f1,e1,f2,e2,f3] at s4
  unfold ptV at u2 v2 u3 v3
  simp (disch:=first|omega|exact zF rfl|exact zG rfl|exact fun h=>h|(simp only[zA,zB,zC,zD,bytesW];omega)) only[go_sem,c146L0,c146L0,hlt']
  refine c146draw0 (Chg (fun _=>False) _) (Chg.refl _ _) ?_
  simp (disch:=first|omega|exact zF rfl|exact zG rfl|exact fun h=>h|(simp only[zA,zB,zC,zD,bytesW];omega)) only[go_sem,c146L0,c146D0,t1,t2,u2,v2,u3,v3,fa,fb]
  exact ⟨⟨by omega,by omega⟩,⟨by omega,by omega⟩,⟨by omega,by omega⟩,⟨by omega,by omega⟩,⟨by omega,by omega⟩,⟨by omega,by omega⟩,⟨by omega,by omega⟩,⟨by omega,by omega⟩,⟨by omega,by omega⟩,i+1,rfl,⟨s4,by omega⟩,by omega⟩
 ·have hlt':¬ (i:Int)<U.length:=by omega
  obtain rfl:i=U.length:=by omega
  simp (disch:=first|omega|exact zF rfl|exact zG rfl|exact fun h=>h|(simp only[zA,zB,zC,zD,bytesW];omega)) only[go_sem,c146L0,c146L0,hlt']
  rw [← swapY_all A U M V D huv]
  exact s2
theorem rot_ok{A U V D:List Value}(h:St W0 w F (RowP g n c (A++(U++(V++D)))::L) I)(hX:PtrV (A++(U++(V++D))))(hn:(A++(U++(V++D))).length=n)(hn2:n≤100000)(hu:0<U.length)(hv:0<V.length){a m b:Nat}(ha:a=A.length)(hm:m=A.length+U.length)(hb:b=A.length+U.length+V.length) :
  Ret Tryz.prog 138 [.slice (some ⟨g,0,none⟩) n c,.int .i64 a,.int .i64 m,.int .i64 b,fv] w fun _ w'=>St W0 w' F (RowP g n c (A++(V++(U++D)))::L) I:=by
 subst ha hm hb
 have hnn:A.length+U.length+V.length+D.length=n:=by rw [← hn]; simp only [List.length_append]; omega
 refine ent138 _ _ _ _ _ _ _ ?_
 simp (disch:=first|omega|exact zF rfl|exact zG rfl|exact fun h=>h|(simp only[zA,zB,zC,zD,bytesW];omega)) only[go_sem]
 refine ⟨⟨by omega,by omega⟩,⟨by omega,by omega⟩,?_⟩
 have e1:((A.length:Int)+U.length - A.length)=U.length:=by omega
 have e2:((A.length:Int)+U.length+V.length - (A.length+U.length))=V.length:=by omega
 rw [e1,e2]
 refine W_loopU (fun z:List Value × List Value × List Value × List Value=>[(10,.int .i64 z.2.1.length),(11,.int .i64 z.2.2.1.length)]) (fun z w'=>St W0 w' F (RowP g n c (z.1++(z.2.1++(z.2.2.1++z.2.2.2)))::L) I∧(z.1++(z.2.1++(z.2.2.1++z.2.2.2))).Perm (A++(U++(V++D)))∧z.1.length+z.2.1.length=A.length+U.length∧0<z.2.1.length∧0<z.2.2.1.length∧z.1++(z.2.2.1++(z.2.1++z.2.2.2))=A++(V++(U++D))) (fun z=>z.2.1.length+z.2.2.1.length) (A,U,V,D) rfl ⟨h,List.Perm.refl _,rfl,hu,hv,rfl⟩ ?_
 rintro ⟨A',U',V',D'⟩ w2 ⟨s2,hp,hl,hu2,hv2,ht⟩
 simp only at s2 hp hl hu2 hv2 ht
 have hX2:PtrV (A'++(U'++(V'++D'))):=fun u hu=>hX u (hp.mem_iff.1 hu)
 have hn3:(A'++(U'++(V'++D'))).length=n:=by rw [hp.length_eq,hn]
 have hn4:A'.length+U'.length+V'.length+D'.length=n:=by rw [← hn3]; simp only [List.length_append]; omega
 have em:((A.length:Int)+U.length) - U'.length=A'.length:=by omega
 rcases Nat.lt_trichotomy U'.length V'.length with hlt | heq | hgt
 ·have h1:¬ (U'.length:Int)=V'.length:=by omega
  have h2:¬ (V'.length:Int)<U'.length:=by omega
  simp (disch:=first|omega|exact zF rfl|exact zG rfl|exact fun h=>h|(simp only[zA,zB,zC,zD,bytesW];omega)) only[go_sem,c138L0,c138L0,h1,h2,em]
  have ev:V'=V'.take (V'.length - U'.length)++V'.drop (V'.length - U'.length):=(List.take_append_drop _ _).symm
  have l1:(V'.take (V'.length - U'.length)).length=V'.length - U'.length:=by rw [List.length_take]; omega
  have l2:(V'.drop (V'.length - U'.length)).length=U'.length:=by rw [List.length_drop]; omega
  have eb:((A.length:Int)+U.length+V'.length - U'.length)=((A'.length+U'.length+(V'.length - U'.length):Nat):Int):=by omega
  rw [eb]
  generalize V'.take (V'.length - U'.length)=V1 at ev l1
  generalize V'.drop (V'.length - U'.length)=V2 at ev l2
  have eX:A'++(U'++(V'++D'))=A'++(U'++(V1++(V2++D'))):=by rw [ev]; simp
  refine ⟨⟨by omega,by omega⟩,⟨by omega,by omega⟩,⟨by omega,by omega⟩,Ret.mono (swapr_ok (A:=A') (U:=U') (M:=V1) (V:=V2) (D:=D') (by rw [← eX]; exact s2) (by rw [← eX]; exact hX2) (by rw [← eX]; exact hn3) hn2 l2.symm rfl (by omega) rfl) ?_⟩
  intro _ w3 s3
  have e5:(V'.length:Int) - U'.length=V1.length:=by omega
  simp (disch:=first|omega|exact zF rfl|exact zG rfl|exact fun h=>h|(simp only[zA,zB,zC,zD,bytesW];omega)) only[go_sem,c138L0]
  refine ⟨⟨by omega,by omega⟩,(A',V2,V1,U'++D'),?_,⟨s3,?_,by simp only; omega,by simp only; omega,by simp only; omega,?_⟩,by simp only; omega⟩
  ·simp only
   rw [e5,l2]
  ·simp only
   refine List.Perm.trans ?_ hp
   rw [eX]
   refine List.Perm.append_left A' ?_
   have q:((V2++V1)++U'++D').Perm (U'++(V1++V2)++D'):=(List.perm_append_comm.trans (List.Perm.append_left U' List.perm_append_comm)).append_right D'
   simpa using q
  ·simp only
   rw [← ht,ev]
   simp
 ·have h1:(U'.length:Int)=V'.length:=by omega
  simp (disch:=first|omega|exact zF rfl|exact zG rfl|exact fun h=>h|(simp only[zA,zB,zC,zD,bytesW];omega)) only[go_sem,c138L0,c138S3,c138L0,h1,em]
  have eb:((A.length:Int)+U.length - V'.length)=(A'.length:Nat):=by omega
  have ec:((A.length:Int)+U.length)=((A'.length+U'.length:Nat):Int):=by omega
  rw [eb,ec]
  refine ⟨⟨by omega,by omega⟩,Ret.mono (swapr_ok (A:=A') (U:=U') (M:=[]) (V:=V') (D:=D') s2 hX2 hn3 hn2 heq rfl (by simp) heq.symm) ?_⟩
  intro _ w3 s3
  simp (disch:=first|omega|exact zF rfl|exact zG rfl|exact fun h=>h|(simp only[zA,zB,zC,zD,bytesW];omega)) only[go_sem,c138L0,c138S3]
  rw [List.nil_append,ht] at s3
  exact s3
 ·have h1:¬ (U'.length:Int)=V'.length:=by omega
  have h2:(V'.length:Int)<U'.length:=by omega
  simp (disch:=first|omega|exact zF rfl|exact zG rfl|exact fun h=>h|(simp only[zA,zB,zC,zD,bytesW];omega)) only[go_sem,c138L0,c138L0,h1,h2,em]
  have eu:U'=U'.take V'.length++U'.drop V'.length:=(List.take_append_drop _ _).symm
  have l1:(U'.take V'.length).length=V'.length:=by rw [List.length_take]; omega
  have l2:(U'.drop V'.length).length=U'.length - V'.length:=List.length_drop
  generalize U'.take V'.length=U1 at eu l1
  generalize U'.drop V'.length=U2 at eu l2
  have ec:((A.length:Int)+U.length)=((A'.length+U1.length+U2.length:Nat):Int):=by omega
  have eX:A'++(U'++(V'++D'))=A'++(U1++(U2++(V'++D'))):=by rw [eu]; simp
  rw [ec]
  refine ⟨⟨by omega,by omega⟩,Ret.mono (swapr_ok (A:=A') (U:=U1) (M:=U2) (V:=V') (D:=D') (by rw [← eX]; exact s2) (by rw [← eX]; exact hX2) (by rw [← eX]; exact hn3) hn2 l1 rfl rfl l1.symm) ?_⟩
  intro _ w3 s3
  have e5:(U'.length:Int) - V'.length=U2.length:=by omega
  simp (disch:=first|omega|exact zF rfl|exact zG rfl|exact fun h=>h|(simp only[zA,zB,zC,zD,bytesW];omega)) only[go_sem,c138L0]
  refine ⟨⟨by omega,by omega⟩,(A'++V',U2,U1,D'),?_,⟨by simpa [RowP] using s3,?_,by simp only [List.length_append]; omega,by simp only; omega,by simp only; omega,?_⟩,by simp only; omega⟩
  ·simp only
   rw [e5,l1]
  ·simp only
   refine List.Perm.trans ?_ hp
   rw [eX,List.append_assoc]
   refine List.Perm.append_left A' ?_
   have q:(V'++(U2++U1)++D').Perm ((U1++U2)++V'++D'):=(List.perm_append_comm.trans (List.perm_append_comm.append_right V')).append_right D'
   simpa using q
  ·simp only
   rw [← ht,eu]
   simp
end
open Go Go.Ann Go.RowKit
theorem swap_mid2{α:Type}(A B:List α)(x y:α):((A++y::x::B).set A.length x).set (A.length+1) y=A++x::y::B:=by
 rw [List.set_append_right _ _ (by omega),List.set_append_right _ _ (by omega)]
 simp
theorem half_wrap{i j:Nat}(h:i+j<1000000000):IntKind.u64.wrap ((i:Int)+j) / 2 ^ min 1 64=((((i+j) / 2:Nat)):Int):=by
 rw [wrap_u64,show (2:Int) ^ min 1 64=2 by decide]
 have e:((i:Int)+j) % 18446744073709551616 / 2=(((i+j) / 2:Nat):Int):=by omega
 exact e
section
variable {W0 w:World} {F:Nat→Prop} {L:List Res} {I:List Inv} {g n c:Nat} {X:List Value} {fv:Value} {key:Value→Int}
def kx(key:Value→Int)(X:List Value)(i:Nat):Int:=key (X.getD i undef)
theorem row_at(h:St W0 w F (RowP g n c X::L) I)(hX:PtrV X){i:Nat}(hi:i<X.length):∃ b,X.getD i undef=ptV b∧w.cell? ⟨g,i,none⟩=some (.pointer (some ⟨b,0,none⟩))∧X.getD i undef∈X:=by
 have e:X.getD i undef=X[i]:=by rw [List.getD_eq_getElem?_getD,List.getElem?_eq_getElem hi]; rfl
 obtain ⟨b,hb⟩:=hX X[i] (List.getElem_mem hi)
 refine ⟨b,by rw [e,hb],?_,by rw [e]; exact List.getElem_mem hi⟩
 have:=(own_cell (h.row 0 rfl)).1 i X[i] (List.getElem?_eq_getElem hi)
 rw [this,hb]; rfl
theorem srchA{X0:List Value}(h:St W0 w F (RowP g n c X::L) I)(hc:CmpOk W0 F L I g n c fv key X0)(hm:∀ u∈X,u∈X0)(hX:PtrV X)(hy:noYV (some fv))(hn:X.length=n)(hn2:n≤100000){a i0 j0:Nat}(ha:a<n)(hij:i0≤j0)(hj:j0≤n)
  (hs:∀ i j,i0≤i→i≤j→j<j0→kx key X i≤kx key X j) {Q:Post}
  (hQ:∀ w' i,St W0 w' F (RowP g n c X::L) I→i0≤i→i≤j0→(∀ q,i0≤q→q<i→kx key X q<kx key X a)→(∀ q,i≤q→q<j0→kx key X a≤kx key X q)→Q .normal [(0,.slice (some ⟨g,0,none⟩) n c),(1,.int .i64 a),(10,.int .i64 i)] w') :
  W Tryz.prog (.loop (sg c114L0)) [(0,.slice (some ⟨g,0,none⟩) n c),(1,.int .i64 a),(4,fv),(10,.int .i64 i0),(11,.int .i64 j0)] w (blockQ 0 Q):=by
 refine W_loopU (fun z:Nat × Nat=>[(10,.int .i64 z.1),(11,.int .i64 z.2)]) (fun z w'=>St W0 w' F (RowP g n c X::L) I∧i0≤z.1∧z.1≤z.2∧z.2≤j0∧(∀ q,i0≤q→q<z.1→kx key X q<kx key X a)∧(∀ q,z.2≤q→q<j0→kx key X a≤kx key X q)) (fun z=>z.2 - z.1) (i0,j0) rfl ⟨h,Nat.le_refl _,hij,Nat.le_refl _,fun q h1 h2=>by simp only at h2; omega,fun q h1 h2=>by simp only at h1; omega⟩ ?_
 rintro ⟨i,j⟩ w2 ⟨s2,h1,h2,h3,h4,h5⟩
 simp only at s2 h1 h2 h3 h4 h5
 by_cases hlt:i<j
 ·have hlt':(i:Int)<j:=by omega
  have ew:=half_wrap (i:=i) (j:=j) (by omega)
  simp (disch:=first|omega|exact zF rfl|exact zG rfl|exact fun h=>h|(simp only[zA,zB,zC,zD,bytesW];omega)) only[go_sem,c114L0,c114L1,c114S5,c114S6,c114L2,c114L3,c114S11,c114S12,c114L4,c114S14,c114S15,c114S16,c114S17,c114S18,c114S19,c114L0,hlt']
  rw [ew]
  generalize hh:(i+j) / 2=q
  have s3:=s2.drew
  obtain ⟨bq,eq,cq,mq⟩:=row_at s2 hX (i:=q) (by omega)
  obtain ⟨ba,ea,ca,ma⟩:=row_at s2 hX (i:=a) (by omega)
  have cq3:=(World.cell?_drew w2 ⟨g,q,none⟩).trans cq
  have ca3:=(World.cell?_drew w2 ⟨g,a,none⟩).trans ca
  have lg:g<w2.heap.size:=(own_lt (s2.row 0 rfl)).2
  refine ⟨⟨by omega,by omega⟩,⟨by omega,by omega⟩,?_⟩
  refine c114draw0 (Chg (fun _=>False) _) (Chg.refl _ _) ?_
  simp (disch:=first|omega|exact zF rfl|exact zG rfl|exact fun h=>h|(simp only[zA,zB,zC,zD,bytesW];omega)) only[go_sem,c114L0,c114L1,c114S5,c114S6,c114L2,c114L3,c114S11,c114S12,c114L4,c114S14,c114S15,c114S16,c114S17,c114S18,c114S19,c114D0,cq,ca,cq3,ca3]
  rw [eq] at mq
  rw [ea] at ma
  have hqa:kx key X q=key (ptV bq)∧kx key X a=key (ptV ba):=by unfold kx; rw [eq,ea]; exact ⟨rfl,rfl⟩
  have hcc:=hc _ _ s3 _ (hm _ mq) _ (hm _ ma)
  unfold ptV at hcc
  refine ⟨⟨by omega,by omega⟩,⟨by omega,by omega⟩,hy,?_⟩
  refine callW_mono hcc ?_
  rintro _ w5 ⟨z,rfl,hz,b5⟩
  have s5:=s3.call b5
  simp (disch:=first|omega|exact zF rfl|exact zG rfl|exact fun h=>h|(simp only[zA,zB,zC,zD,bytesW];omega)) only[go_sem,c114S0,c114L0,c114L1,c114S5,c114S6,c114L2,c114L3,c114S11,c114S12,c114L4,c114S14,c114S15,c114S16,c114S17,c114S18,c114S19,c114D0]
  refine ⟨fun hz0=>?_,fun hz0=>?_⟩
  ·have hlt3:=hz.1 hz0
   refine ⟨⟨by omega,by omega⟩,(q+1,j),rfl,⟨s5,by simp only; omega,by simp only; omega,h3,fun r r1 r2=>?_,h5⟩,by simp only; omega⟩
   have:=hs r q r1 (by simp only at r2; omega) (by omega)
   rw [hqa.1] at this
   rw [hqa.2]
   exact Int.lt_of_le_of_lt this hlt3
  ·have hge:key (ptV ba)≤key (ptV bq):=Int.not_lt.1 fun h=>by have:=hz.2 h; omega
   refine ⟨(i,q),rfl,⟨s5,h1,by simp only; omega,by simp only; omega,h4,fun r r1 r2=>?_⟩,by simp only; omega⟩
   have:=hs q r (by omega) r1 r2
   rw [hqa.1] at this
   rw [hqa.2]
   exact Int.le_trans hge this
 ·have hlt':¬ (i:Int)<j:=by omega
  obtain rfl:i=j:=by omega
  simp (disch:=first|omega|exact zF rfl|exact zG rfl|exact fun h=>h|(simp only[zA,zB,zC,zD,bytesW];omega)) only[go_sem,c114S0,c114L0,c114L1,c114S5,c114S6,c114L2,c114L3,c114S11,c114S12,c114L4,c114S14,c114S15,c114S16,c114S17,c114S18,c114S19,c114L0,hlt']
  exact hQ _ _ s2 h1 h3 h4 h5
theorem srchB{X0:List Value}(h:St W0 w F (RowP g n c X::L) I)(hc:CmpOk W0 F L I g n c fv key X0)(hm:∀ u∈X,u∈X0)(hX:PtrV X)(hy:noYV (some fv))(hn:X.length=n)(hn2:n≤100000){a i0 j0:Nat}(ha:a<n)(hij:i0≤j0)(hj:j0≤n)
  (hs:∀ i j,i0≤i→i≤j→j<j0→kx key X i≤kx key X j) {Q:Post}
  (hQ:∀ w' i,St W0 w' F (RowP g n c X::L) I→i0≤i→i≤j0→(∀ q,i0≤q→q<i→kx key X q≤kx key X a)→(∀ q,i≤q→q<j0→kx key X a<kx key X q)→Q .normal [(0,.slice (some ⟨g,0,none⟩) n c),(2,.int .i64 a),(14,.int .i64 i)] w') :
  W Tryz.prog (.loop (sg c114L2)) [(0,.slice (some ⟨g,0,none⟩) n c),(2,.int .i64 a),(4,fv),(14,.int .i64 i0),(15,.int .i64 j0)] w (blockQ 4 Q):=by
 refine W_loopU (fun z:Nat × Nat=>[(14,.int .i64 z.1),(15,.int .i64 z.2)]) (fun z w'=>St W0 w' F (RowP g n c X::L) I∧i0≤z.1∧z.1≤z.2∧z.2≤j0∧(∀ q,i0≤q→q<z.1→kx key X q≤kx key X a)∧(∀ q,z.2≤q→q<j0→kx key X a<kx key X q)) (fun z=>z.2 - z.1) (i0,j0) rfl ⟨h,Nat.le_refl _,hij,Nat.le_refl _,fun q h1 h2=>by simp only at h2; omega,fun q h1 h2=>by simp only at h1; omega⟩ ?_
 rintro ⟨i,j⟩ w2 ⟨s2,h1,h2,h3,h4,h5⟩
 simp only at s2 h1 h2 h3 h4 h5
 by_cases hlt:i<j
 ·have hlt':(i:Int)<j:=by omega
  have ew:=half_wrap (i:=i) (j:=j) (by omega)
  simp (disch:=first|omega|exact zF rfl|exact zG rfl|exact fun h=>h|(simp only[zA,zB,zC,zD,bytesW];omega)) only[go_sem,c114S0,c114L0,c114L1,c114S5,c114L2,c114L3,c114S11,c114S12,c114L4,c114S14,c114S15,c114S16,c114S17,c114S18,c114S19,c114L2,hlt']
  rw [ew]
  generalize hh:(i+j) / 2=q
  have s3:=s2.drew
  obtain ⟨bq,eq,cq,mq⟩:=row_at s2 hX (i:=q) (by omega)
  obtain ⟨ba,ea,ca,ma⟩:=row_at s2 hX (i:=a) (by omega)
  have cq3:=(World.cell?_drew w2 ⟨g,q,none⟩).trans cq
  have ca3:=(World.cell?_drew w2 ⟨g,a,none⟩).trans ca
  have lg:g<w2.heap.size:=(own_lt (s2.row 0 rfl)).2
  refine ⟨⟨by omega,by omega⟩,⟨by omega,by omega⟩,?_⟩
  refine c114draw2 (Chg (fun _=>False) _) (Chg.refl _ _) ?_
  simp (disch:=first|omega|exact zF rfl|exact zG rfl|exact fun h=>h|(simp only[zA,zB,zC,zD,bytesW];omega)) only[go_sem,c114S0,c114L0,c114L1,c114S5,c114L2,c114L3,c114S11,c114S12,c114L4,c114S14,c114S15,c114S16,c114S17,c114S18,c114S19,c114D2,cq,ca,cq3,ca3]
  rw [eq] at mq
  rw [ea] at ma
  have hqa:kx key X q=key (ptV bq)∧kx key X a=key (ptV ba):=by unfold kx; rw [eq,ea]; exact ⟨rfl,rfl⟩
  have hcc:=hc _ _ s3 _ (hm _ ma) _ (hm _ mq)
  unfold ptV at hcc
  refine ⟨⟨by omega,by omega⟩,⟨by omega,by omega⟩,hy,?_⟩
  refine callW_mono hcc ?_
  rintro _ w5 ⟨z,rfl,hz,b5⟩
  have s5:=s3.call b5
  simp (disch:=first|omega|exact zF rfl|exact zG rfl|exact fun h=>h|(simp only[zA,zB,zC,zD,bytesW];omega)) only[go_sem,c114S0,c114L0,c114L1,c114S5,c114S6,c114L2,c114L3,c114S11,c114S12,c114L4,c114S14,c114S15,c114S16,c114S17,c114S18,c114S19,c114D2]
  refine ⟨fun hz0=>?_,fun hz0=>?_⟩
  ·have hge:key (ptV bq)≤key (ptV ba):=Int.not_lt.1 fun h=>by have:=hz.2 h; omega
   refine ⟨⟨by omega,by omega⟩,(q+1,j),rfl,⟨s5,by simp only; omega,by simp only; omega,h3,fun r r1 r2=>?_,h5⟩,by simp only; omega⟩
   have:=hs r q r1 (by simp only at r2; omega) (by omega)
   rw [hqa.1] at this
   rw [hqa.2]
   exact Int.le_trans this hge
  ·have hlt3:=hz.1 hz0
   refine ⟨(i,q),rfl,⟨s5,h1,by simp only; omega,by simp only; omega,h4,fun r r1 r2=>?_⟩,by simp only; omega⟩
   have:=hs q r (by omega) r1 r2
   rw [hqa.1] at this
   rw [hqa.2]
   exact Int.lt_of_lt_of_le hlt3 this
 ·have hlt':¬ (i:Int)<j:=by omega
  obtain rfl:i=j:=by omega
  simp (disch:=first|omega|exact zF rfl|exact zG rfl|exact fun h=>h|(simp only[zA,zB,zC,zD,bytesW];omega)) only[go_sem,c114S0,c114L0,c114L1,c114S5,c114S6,c114L2,c114L3,c114S11,c114S12,c114L4,c114S14,c114S15,c114S16,c114S17,c114S18,c114S19,c114L2,hlt']
  exact hQ _ _ s2 h1 h3 h4 h5
theorem srchC{X0:List Value}(h:St W0 w F (RowP g n c X::L) I)(hc:CmpOk W0 F L I g n c fv key X0)(hm:∀ u∈X,u∈X0)(hX:PtrV X)(hy:noYV (some fv))(hn:X.length=n)(hn2:n≤100000){a m b mid nn p i0 j0:Nat}(hij:i0≤j0)(hj:j0≤n)
  (hp:∀ q,i0≤q→q<j0→q≤p∧p - q<n) (hs1:∀ i j,i0≤i→i≤j→j<j0→kx key X i≤kx key X j) (hs2:∀ i j,i0≤i→i≤j→j<j0→kx key X (p - j)≤kx key X (p - i)) {Q:Post}
  (hQ:∀ w' i,St W0 w' F (RowP g n c X::L) I→i0≤i→i≤j0→(∀ q,i0≤q→q<i→kx key X q≤kx key X (p - q))→(∀ q,i≤q→q<j0→kx key X (p - q)<kx key X q)→Q .normal [(0,.slice (some ⟨g,0,none⟩) n c),(1,.int .i64 a),(2,.int .i64 m),(3,.int .i64 b),(4,fv),(18,.int .i64 mid),(19,.int .i64 nn),(20,.int .i64 i)] w') :
  W Tryz.prog (.loop (sg c114L4)) [(0,.slice (some ⟨g,0,none⟩) n c),(1,.int .i64 a),(2,.int .i64 m),(3,.int .i64 b),(4,fv),(18,.int .i64 mid),(19,.int .i64 nn),(20,.int .i64 i0),(21,.int .i64 j0),(22,.int .i64 p)] w (blockQ 8 Q):=by
 refine W_loopU (fun z:Nat × Nat=>[(20,.int .i64 z.1),(21,.int .i64 z.2)]) (fun z w'=>St W0 w' F (RowP g n c X::L) I∧i0≤z.1∧z.1≤z.2∧z.2≤j0∧(∀ q,i0≤q→q<z.1→kx key X q≤kx key X (p - q))∧(∀ q,z.2≤q→q<j0→kx key X (p - q)<kx key X q)) (fun z=>z.2 - z.1) (i0,j0) rfl ⟨h,Nat.le_refl _,hij,Nat.le_refl _,fun q h1 h2=>by simp only at h2; omega,fun q h1 h2=>by simp only at h1; omega⟩ ?_
 rintro ⟨i,j⟩ w2 ⟨s2,h1,h2,h3,h4,h5⟩
 simp only at s2 h1 h2 h3 h4 h5
 by_cases hlt:i<j
 ·have hlt':(i:Int)<j:=by omega
  have ew:=half_wrap (i:=i) (j:=j) (by omega)
  simp (disch:=first|omega|exact zF rfl|exact zG rfl|exact fun h=>h|(simp only[zA,zB,zC,zD,bytesW];omega)) only[go_sem,c114S0,c114L0,c114L1,c114S5,c114S6,c114L2,c114L3,c114S11,c114L4,c114S14,c114S15,c114S16,c114S17,c114S18,c114S19,c114L4,hlt']
  rw [ew]
  generalize hh:(i+j) / 2=q
  obtain ⟨hp1,hp2⟩:=hp q (by omega) (by omega)
  have s3:=s2.drew
  have tp:((p:Int) - q).toNat=p - q:=by omega
  obtain ⟨bq,eq,cq,mq⟩:=row_at s2 hX (i:=q) (by omega)
  obtain ⟨ba,ea,ca,ma⟩:=row_at s2 hX (i:=p - q) (by omega)
  have cq3:=(World.cell?_drew w2 ⟨g,q,none⟩).trans cq
  have ca3:=(World.cell?_drew w2 ⟨g,p - q,none⟩).trans ca
  have lg:g<w2.heap.size:=(own_lt (s2.row 0 rfl)).2
  refine ⟨⟨by omega,by omega⟩,⟨by omega,by omega⟩,?_⟩
  refine c114draw4 (Chg (fun _=>False) _) (Chg.refl _ _) ?_
  simp (disch:=first|omega|exact zF rfl|exact zG rfl|exact fun h=>h|(simp only[zA,zB,zC,zD,bytesW];omega)) only[go_sem,c114S0,c114L0,c114L1,c114S5,c114S6,c114L2,c114L3,c114S11,c114L4,c114S14,c114S15,c114S16,c114S17,c114S18,c114S19,c114D4,tp,cq,ca,cq3,ca3]
  rw [eq] at mq
  rw [ea] at ma
  have hqa:kx key X q=key (ptV bq)∧kx key X (p - q)=key (ptV ba):=by unfold kx; rw [eq,ea]; exact ⟨rfl,rfl⟩
  have hcc:=hc _ _ s3 _ (hm _ ma) _ (hm _ mq)
  unfold ptV at hcc
  refine ⟨⟨by omega,by omega⟩,⟨by omega,by omega⟩,⟨by omega,by omega⟩,hy,?_⟩
  refine callW_mono hcc ?_
  rintro _ w5 ⟨z,rfl,hz,b5⟩
  have s5:=s3.call b5
  simp (disch:=first|omega|exact zF rfl|exact zG rfl|exact fun h=>h|(simp only[zA,zB,zC,zD,bytesW];omega)) only[go_sem,c114S0,c114L0,c114L1,c114S5,c114S6,c114L2,c114L3,c114S11,c114S12,c114L4,c114S14,c114S15,c114S16,c114S17,c114S18,c114S19,c114D4]
  refine ⟨fun hz0=>?_,fun hz0=>?_⟩
  ·have hge:kx key X q≤kx key X (p - q):=by rw [hqa.1,hqa.2]; exact Int.not_lt.1 fun h=>by have:=hz.2 h; omega
   refine ⟨⟨by omega,by omega⟩,(q+1,j),rfl,⟨s5,by simp only; omega,by simp only; omega,h3,fun r r1 r2=>?_,h5⟩,by simp only; omega⟩
   have e1:=hs1 r q r1 (by simp only at r2; omega) (by omega)
   have e2:=hs2 r q r1 (by simp only at r2; omega) (by omega)
   exact Int.le_trans e1 (Int.le_trans hge e2)
  ·have hlt3:kx key X (p - q)<kx key X q:=by rw [hqa.1,hqa.2]; exact hz.1 hz0
   refine ⟨(i,q),rfl,⟨s5,h1,by simp only; omega,by simp only; omega,h4,fun r r1 r2=>?_⟩,by simp only; omega⟩
   have e1:=hs1 q r (by omega) r1 r2
   have e2:=hs2 q r (by omega) r1 r2
   exact Int.lt_of_le_of_lt e2 (Int.lt_of_lt_of_le hlt3 e1)
 ·have hlt':¬ (i:Int)<j:=by omega
  obtain rfl:i=j:=by omega
  simp (disch:=first|omega|exact zF rfl|exact zG rfl|exact fun h=>h|(simp only[zA,zB,zC,zD,bytesW];omega)) only[go_sem,c114S0,c114L0,c114L1,c114S5,c114S6,c114L2,c114L3,c114S11,c114S12,c114L4,c114S14,c114S15,c114S16,c114S17,c114S18,c114S19,c114L4,hlt']
  exact hQ _ _ s2 h1 h3 h4 h5
theorem shiftA{A V D:List Value}{bu:Nat}{a i T:Nat}(h:St W0 w F (RowP g n c (A++ptV bu::(V++D))::L) I)(hX:PtrV (A++ptV bu::(V++D)))(hn:(A++ptV bu::(V++D)).length=n)(hn2:n≤100000)(ha:a=A.length)(hT:T≤V.length)(hi:i=a+1+T){Q:Post}
  (hQ:∀ w',St W0 w' F (RowP g n c (A++(V.take T++ptV bu::(V.drop T++D)))::L) I→Q .normal [] w') :
  W Tryz.prog (.loop (sg c114L1)) [(0,.slice (some ⟨g,0,none⟩) n c),(10,.int .i64 i),(13,.int .i64 a)] w (blockQ 2 Q):=by
 have hnn:A.length+1+V.length+D.length=n:=by rw [← hn]; simp only [List.length_append,List.length_cons]; omega
 refine W_loopU (fun z:Nat × Nat=>[(13,.int .i64 z.2)]) (fun z w'=>St W0 w' F (RowP g n c (A++(V.take z.1++ptV bu::(V.drop z.1++D)))::L) I∧z.1≤T∧z.2=a+z.1) (fun z=>T - z.1) (0,a) rfl ⟨by simpa using h,Nat.zero_le _,rfl⟩ ?_
 rintro ⟨t,k⟩ w2 ⟨s2,h1,hk⟩
 simp only at s2 h1 hk
 subst hk
 by_cases hlt:t<T
 ·have hlt':((a:Int)+t)<i - 1:=by omega
  have hdr:V.drop t=V[t]'(by omega)::V.drop (t+1):=List.drop_eq_getElem_cons (by omega)
  have htk:V.take (t+1)=V.take t++[V[t]'(by omega)]:=List.take_succ_eq_append_getElem (by omega)
  obtain ⟨bv,hbv⟩:=hX (V[t]'(by omega)) (by simp [List.getElem_mem])
  have eY:A++(V.take t++ptV bu::(V.drop t++D))=(A++V.take t)++ptV bu::ptV bv::(V.drop (t+1)++D):=by rw [hdr,hbv]; simp
  have l1:(A++V.take t).length=a+t:=by rw [List.length_append,List.length_take]; omega
  rw [eY] at s2
  have c2:=(own_cell (s2.row 0 rfl)).1
  have f2:=(own_cell (s2.row 0 rfl)).2
  have u2:=c2 (a+t) (ptV bu) (get_mid _ _ _ l1)
  have v2:=c2 (a+t+1) (ptV bv) (by rw [List.getElem?_append_right (by omega),l1]; simp [show a+t+1 - (a+t)=1 by omega])
  have u3:=(World.cell?_drew w2 ⟨g,a+t,none⟩).trans u2
  have v3:=(World.cell?_drew w2 ⟨g,a+t+1,none⟩).trans v2
  have fa:=f2 (a+t)
  have fb:=f2 (a+t+1)
  have lg:g<w2.heap.size:=(own_lt (s2.row 0 rfl)).2
  have t1:((a:Int)+t).toNat=a+t:=by omega
  have t2:((a:Int)+t+1).toNat=a+t+1:=by omega
  have s4:=((s2.put 0 rfl (a+t) (ptV bv)).put 0 rfl (a+t+1) (ptV bu)).drew
  simp only [List.set_cons_zero] at s4
  have e1:=swap_mid2 (A++V.take t) (V.drop (t+1)++D) (ptV bv) (ptV bu)
  rw [l1] at e1
  rw [e1] at s4
  unfold ptV at u2 v2 u3 v3
  simp (disch:=first|omega|exact zF rfl|exact zG rfl|exact fun h=>h|(simp only[zA,zB,zC,zD,bytesW];omega)) only[go_sem,c114S0,c114L0,c114L1,c114S5,c114S6,c114L2,c114L3,c114S11,c114S12,c114L4,c114S14,c114S15,c114S16,c114S17,c114S18,c114S19,c114L1,hlt']
  refine ⟨⟨by omega,by omega⟩,?_⟩
  refine c114draw1 (Chg (fun _=>False) _) (Chg.refl _ _) ?_
  simp (disch:=first|omega|exact zF rfl|exact zG rfl|exact fun h=>h|(simp only[zA,zB,zC,zD,bytesW];omega)) only[go_sem,c114S0,c114L0,c114L1,c114S5,c114S6,c114L2,c114L3,c114S11,c114S12,c114L4,c114S14,c114S15,c114S16,c114S17,c114S18,c114S19,c114D1,t1,t2,u2,v2,u3,v3,fa,fb]
  refine ⟨⟨by omega,by omega⟩,⟨by omega,by omega⟩,⟨by omega,by omega⟩,⟨by omega,by omega⟩,⟨by omega,by omega⟩,⟨by omega,by omega⟩,⟨by omega,by omega⟩,(t+1,a+t+1),rfl,⟨?_,by simp only; omega,by simp only; omega⟩,by simp only; omega⟩
  simp only
  refine st_recast s4 ?_
  rw [htk,hbv]
  simp [RowP]
 ·have hlt':¬ ((a:Int)+t)<i - 1:=by omega
  obtain rfl:t=T:=by omega
  simp (disch:=first|omega|exact zF rfl|exact zG rfl|exact fun h=>h|(simp only[zA,zB,zC,zD,bytesW];omega)) only[go_sem,c114S0,c114L0,c114L1,c114S5,c114S6,c114L2,c114L3,c114S11,c114S12,c114L4,c114S14,c114S15,c114S16,c114S17,c114S18,c114S19,c114L1,hlt']
  exact ⟨⟨by omega,by omega⟩,hQ _ s2⟩
theorem shiftB{A U D:List Value}{bv:Nat}{a m i T:Nat}(h:St W0 w F (RowP g n c (A++(U++ptV bv::D))::L) I)(hX:PtrV (A++(U++ptV bv::D)))(hn:(A++(U++ptV bv::D)).length=n)(hn2:n≤100000)(ha:a=A.length)(hT:T≤U.length)(hm:m=a+U.length)(hi:i=a+T){Q:Post}
  (hQ:∀ w',St W0 w' F (RowP g n c (A++(U.take T++ptV bv::(U.drop T++D)))::L) I→Q .normal [] w') :
  W Tryz.prog (.loop (sg c114L3)) [(0,.slice (some ⟨g,0,none⟩) n c),(14,.int .i64 i),(17,.int .i64 m)] w (blockQ 6 Q):=by
 have hnn:A.length+U.length+1+D.length=n:=by rw [← hn]; simp only [List.length_append,List.length_cons]; omega
 refine W_loopU (fun z:Nat × Nat=>[(17,.int .i64 z.2)]) (fun z w'=>St W0 w' F (RowP g n c (A++(U.take z.1++ptV bv::(U.drop z.1++D)))::L) I∧T≤z.1∧z.1≤U.length∧z.2=a+z.1) (fun z=>z.1) (U.length,m) rfl ⟨by simpa using h,hT,Nat.le_refl _,hm⟩ ?_
 rintro ⟨t,k⟩ w2 ⟨s2,h1,h2,hk⟩
 simp only at s2 h1 h2 hk
 subst hk
 by_cases hlt:T<t
 ·obtain ⟨t,rfl⟩:∃ r,t=r+1:=⟨t - 1,by omega⟩
  have hlt':(i:Int)<(a:Int)+(t+1):=by omega
  have hdr:U.drop t=U[t]'(by omega)::U.drop (t+1):=List.drop_eq_getElem_cons (by omega)
  have htk:U.take (t+1)=U.take t++[U[t]'(by omega)]:=List.take_succ_eq_append_getElem (by omega)
  obtain ⟨bu,hbu⟩:=hX (U[t]'(by omega)) (by simp [List.getElem_mem])
  have eY:A++(U.take (t+1)++ptV bv::(U.drop (t+1)++D))=(A++U.take t)++ptV bu::ptV bv::(U.drop (t+1)++D):=by rw [htk,hbu]; simp
  have l1:(A++U.take t).length=a+t:=by rw [List.length_append,List.length_take]; omega
  rw [eY] at s2
  have c2:=(own_cell (s2.row 0 rfl)).1
  have f2:=(own_cell (s2.row 0 rfl)).2
  have u2:=c2 (a+t) (ptV bu) (get_mid _ _ _ l1)
  have v2:=c2 (a+(t+1)) (ptV bv) (by rw [List.getElem?_append_right (by omega),l1]; simp [show a+(t+1) - (a+t)=1 by omega])
  have u3:=(World.cell?_drew w2 ⟨g,a+t,none⟩).trans u2
  have v3:=(World.cell?_drew w2 ⟨g,a+(t+1),none⟩).trans v2
  have fa:=f2 (a+t)
  have fb:=f2 (a+(t+1))
  have lg:g<w2.heap.size:=(own_lt (s2.row 0 rfl)).2
  have t1:((a:Int)+(t+1) - 1).toNat=a+t:=by omega
  have t2:((a:Int)+(t+1)).toNat=a+(t+1):=by omega
  have s4:=((s2.put 0 rfl (a+(t+1)) (ptV bu)).put 0 rfl (a+t) (ptV bv)).drew
  simp only [List.set_cons_zero] at s4
  have e1:=swap_mid (A++U.take t) (U.drop (t+1)++D) (ptV bv) (ptV bu)
  rw [l1,Nat.add_assoc] at e1
  rw [e1] at s4
  unfold ptV at u2 v2 u3 v3
  simp (disch:=first|omega|exact zF rfl|exact zG rfl|exact fun h=>h|(simp only[zA,zB,zC,zD,bytesW];omega)) only[go_sem,c114S0,c114L0,c114L1,c114S5,c114S6,c114L2,c114L3,c114S11,c114S12,c114L4,c114S14,c114S15,c114S16,c114S17,c114S18,c114S19,c114L3,hlt']
  refine c114draw3 (Chg (fun _=>False) _) (Chg.refl _ _) ?_
  simp (disch:=first|omega|exact zF rfl|exact zG rfl|exact fun h=>h|(simp only[zA,zB,zC,zD,bytesW];omega)) only[go_sem,c114S0,c114L0,c114L1,c114S5,c114S6,c114L2,c114L3,c114S11,c114S12,c114L4,c114S14,c114S15,c114S16,c114S17,c114S18,c114S19,c114D3,t1,t2,u2,v2,u3,v3,fa,fb]
  refine ⟨⟨by omega,by omega⟩,⟨by omega,by omega⟩,⟨by omega,by omega⟩,⟨by omega,by omega⟩,⟨by omega,by omega⟩,⟨by omega,by omega⟩,⟨by omega,by omega⟩,(t,a+t),?_,⟨?_,by simp only; omega,by simp only; omega,by simp only⟩,by simp only; omega⟩
  ·simp only
   have:(a:Int)+(t+1) - 1=((a+t:Nat):Int):=by omega
   rw [this]
  ·simp only
   refine st_recast s4 ?_
   rw [hdr,hbu]
   simp [RowP]
 ·have hlt':¬ (i:Int)<(a:Int)+t:=by omega
  obtain rfl:t=T:=by omega
  simp (disch:=first|omega|exact zF rfl|exact zG rfl|exact fun h=>h|(simp only[zA,zB,zC,zD,bytesW];omega)) only[go_sem,c114S0,c114L0,c114L1,c114S5,c114S6,c114L2,c114L3,c114S11,c114S12,c114L4,c114S14,c114S15,c114S16,c114S17,c114S18,c114S19,c114L3,hlt']
  exact hQ _ s2
end
open Go Go.Ann Go.RowKit
section
variable {W0 w:World} {F:Nat→Prop} {L:List Res} {I:List Inv} {g n c:Nat} {fv:Value} {key:Value→Int}
theorem kxU{A U R:List Value}{i:Nat}(hi:i<U.length):kx key (A++(U++R)) (A.length+i)=key U[i]:=by
 unfold kx
 rw [List.getD_eq_getElem?_getD,List.getElem?_append_right (by omega),Nat.add_sub_cancel_left,List.getElem?_append_left hi,List.getElem?_eq_getElem hi]
 rfl
theorem kxV{A U V D:List Value}{i:Nat}(hi:i<V.length):kx key (A++(U++(V++D))) (A.length+U.length+i)=key V[i]:=by
 have:=kxU (key:=key) (A:=A++U) (U:=V) (R:=D) hi
 rw [List.length_append,List.append_assoc] at this
 exact this
theorem ordd_at{U:List Value}(h:Ordd key U){i j:Nat}(hij:i≤j)(hj:j<U.length):key (U[i]'(by omega))≤key U[j]:=by
 rcases Nat.lt_or_ge i j with h1 | h1
 ·exact List.pairwise_iff_getElem.1 h i j (by omega) hj h1
 ·obtain rfl:i=j:=by omega
  exact Int.le_refl _
theorem kxU_le{A U R:List Value}(h:Ordd key U){i j:Nat}(h1:A.length≤i)(h2:i≤j)(h3:j<A.length+U.length):kx key (A++(U++R)) i≤kx key (A++(U++R)) j:=by
 obtain ⟨i,rfl⟩:∃ r,i=A.length+r:=⟨i - A.length,by omega⟩
 obtain ⟨j,rfl⟩:∃ r,j=A.length+r:=⟨j - A.length,by omega⟩
 rw [kxU (by omega),kxU (by omega)]
 exact ordd_at h (by omega) (by omega)
theorem kxV_le{A U V D:List Value}(h:Ordd key V){i j:Nat}(h1:A.length+U.length≤i)(h2:i≤j)(h3:j<A.length+U.length+V.length):kx key (A++(U++(V++D))) i≤kx key (A++(U++(V++D))) j:=by
 have:=kxU_le (A:=A++U) (R:=D) h (i:=i) (j:=j) (by rw [List.length_append]; exact h1) h2 (by rw [List.length_append]; exact h3)
 rw [List.append_assoc] at this
 exact this
def SymmIH(W0:World)(F:Nat→Prop)(L:List Res)(I:List Inv)(g n c:Nat)(fv:Value)(key:Value→Int)(X0:List Value)(N:Nat):Prop :=
 ∀ {A U V D:List Value} {w:World},U.length+V.length≤N→St W0 w F (RowP g n c (A++(U++(V++D)))::L) I→(A++(U++(V++D))).Perm X0→0<U.length→0<V.length→Ordd key U→Ordd key V→∀ {a m b:Nat},a=A.length→m=A.length+U.length→b=A.length+U.length+V.length →
  Ret Tryz.prog 114 [.slice (some ⟨g,0,none⟩) n c,.int .i64 a,.int .i64 m,.int .i64 b,fv] w fun _ w'=>∃ W,St W0 w' F (RowP g n c (A++(W++D))::L) I∧W.Perm (U++V)∧Ordd key W
theorem symm_tail{X0:List Value}{N:Nat}(ih:SymmIH W0 F L I g n c fv key X0 N)(hc:CmpOk W0 F L I g n c fv key X0)(hX0:PtrV X0)(hy:noYV (some fv))(hn:X0.length=n)(hn2:n≤100000){A U V D:List Value}
  (hN:U.length+V.length≤N+1) (h:St W0 w F (RowP g n c (A++(U++(V++D)))::L) I) (hp:(A++(U++(V++D))).Perm X0) (hu:0<U.length) (hv:0<V.length) (hU:Ordd key U) (hV:Ordd key V) {a m b mid i0 j0:Nat} (ha:a=A.length) (hm:m=A.length+U.length) (hb:b=A.length+U.length+V.length)
  (hmid:mid=(a+b) / 2) (hij:(mid<m∧i0=mid+m - b∧j0=mid)∨(m≤mid∧i0=a∧j0=m)) :
  W Tryz.prog (c114S17 ()) [(0,.slice (some ⟨g,0,none⟩) n c),(1,.int .i64 a),(2,.int .i64 m),(3,.int .i64 b),(4,fv),(18,.int .i64 mid),(19,.int .i64 (mid+m:Nat)),(20,.int .i64 i0),(21,.int .i64 j0)] w (finQ Tryz.prog [] fun _ w'=>∃ W,St W0 w' F (RowP g n c (A++(W++D))::L) I∧W.Perm (U++V)∧Ordd key W):=by
 have hX:PtrV (A++(U++(V++D))):=fun u hu=>hX0 u (hp.mem_iff.1 hu)
 have hmem:∀ u∈A++(U++(V++D)),u∈X0:=fun u hu=>hp.mem_iff.1 hu
 have hXn:(A++(U++(V++D))).length=n:=by rw [hp.length_eq,hn]
 have hnn:A.length+U.length+V.length+D.length=n:=by rw [← hXn]; simp only [List.length_append]; omega
 simp (disch:=first|omega|exact zF rfl|exact zG rfl|exact fun h=>h|(simp only[zA,zB,zC,zD,bytesW];omega)) only[go_sem,c114S0,c114L0,c114L1,c114S5,c114S6,c114L2,c114L3,c114S11,c114S12,c114S14,c114S15,c114S17,c114S18,c114S19]
 refine ⟨⟨by omega,by omega⟩,?_⟩
 have e1:((mid:Int)+m - 1)=((mid+m - 1:Nat):Int):=by omega
 rw [e1]
 refine srchC (nn:=mid+m) h hc hmem hX hy hXn hn2 (by omega) (by omega) (fun q q1 q2=>by omega) (fun i j i1 i2 i3=>kxU_le hU (by omega) i2 (by omega)) (fun i j i1 i2 i3=>kxV_le hV (by omega) (by omega) (by omega)) ?_
 intro w2 s s2 i1 i2 le1 gt1
 have hsa:a≤s:=by omega
 obtain ⟨t,rfl⟩:∃ t,s=a+t:=⟨s - a,by omega⟩
 obtain ⟨e,he⟩:∃ e,e=mid+m - (a+t):=⟨_,rfl⟩
 have hem:m≤e:=by omega
 have heb:e≤b:=by omega
 obtain ⟨r,rfl⟩:∃ r,e=m+r:=⟨e - m,by omega⟩
 have eU:U=U.take t++U.drop t:=(List.take_append_drop _ _).symm
 have eV:V=V.take r++V.drop r:=(List.take_append_drop _ _).symm
 have l1:(U.take t).length=t:=by rw [List.length_take]; omega
 have l2:(U.drop t).length=U.length - t:=List.length_drop
 have l3:(V.take r).length=r:=by rw [List.length_take]; omega
 have l4:(V.drop r).length=V.length - r:=List.length_drop
 -- what the search has found
 have f1:∀ x∈U.take t,∀ y∈V.drop r,key x≤key y:=by
  refine ends_le (by rw [eU] at hU; exact hU.left) (by rw [eV] at hV; exact hV.right) fun q1 q2=>?_
  have q:=le1 (a+t - 1) (by omega) (by omega)
  have qa:mid+m - 1 - (a+t - 1)=A.length+U.length+r:=by omega
  have qb:a+t - 1=A.length+(t - 1):=by omega
  rw [qa,qb,kxU (by omega),kxV (by omega)] at q
  have e3:(U.take t)[(U.take t).length - 1]'(by omega)=U[t - 1]'(by omega):=by rw [List.getElem_take]; congr 1; omega
  have e4:(V.drop r)[0]'(by omega)=V[r]'(by omega):=by rw [List.getElem_drop]; congr 1
  rw [e3,e4]
  exact q
 have f2:∀ x∈V.take r,∀ y∈U.drop t,key x≤key y:=by
  refine ends_le (by rw [eV] at hV; exact hV.left) (by rw [eU] at hU; exact hU.right) fun q1 q2=>?_
  have q:=gt1 (a+t) (by omega) (by omega)
  have qa:mid+m - 1 - (a+t)=A.length+U.length+(r - 1):=by omega
  have qb:a+t=A.length+t:=by omega
  rw [qa,qb,kxU (by omega),kxV (by omega)] at q
  have e3:(V.take r)[(V.take r).length - 1]'(by omega)=V[r - 1]'(by omega):=by rw [List.getElem_take]; congr 1; omega
  have e4:(U.drop t)[0]'(by omega)=U[t]'(by omega):=by rw [List.getElem_drop]; congr 1
  rw [e3,e4]
  exact Int.le_of_lt q
 have hU2:Ordd key (U.take t++U.drop t):=by rw [← eU]; exact hU
 have hV2:Ordd key (V.take r++V.drop r):=by rw [← eV]; exact hV
 have eUV:U++V=U.take t++U.drop t++(V.take r++V.drop r):=by rw [← eU,← eV]
 rw [eUV]
 have eX:A++(U++(V++D))=A++(U.take t++(U.drop t++(V.take r++(V.drop r++D)))):=by
  rw [← List.append_assoc (U.take t),List.take_append_drop,← List.append_assoc (V.take r),List.take_append_drop]
 rw [eX] at s2 hp hX hXn
 have lUV:U.length+V.length≤N+1:=hN
 generalize U.take t=U1 at *
 generalize U.drop t=U2 at *
 generalize V.take r=V1 at *
 generalize V.drop r=V2 at *
 have ee:((mid:Int)+m - (a+t))=((m+r:Nat):Int):=by omega
 have fin:∀ (w':World) (W1 W2:List Value),St W0 w' F (RowP g n c (A++(W1++(W2++D)))::L) I→W1.Perm (U1++V1)→Ordd key W1→W2.Perm (U2++V2)→Ordd key W2→∃ W,St W0 w' F (RowP g n c (A++(W++D))::L) I∧W.Perm (U1++U2++(V1++V2))∧Ordd key W:=fun w' W1 W2 sw p1 o1 p2 o2=>by
  obtain ⟨k1,k2⟩:=sym_split hU2 hV2 f1 f2 p1 o1 p2 o2
  exact ⟨W1++W2,by rw [List.append_assoc]; exact sw,k1,k2⟩
 have one:∀ {Y Z:List Value},Ordd key Y→Ordd key Z→Y=[]∨Z=[]→Ordd key (Y++Z):=fun hy hz h=>by
  rcases h with rfl | rfl
  ·simpa using hz
  ·simpa using hy
 have pZ:(A++(U1++(V1++(U2++(V2++D))))).Perm X0:=by
  refine List.Perm.trans (List.Perm.append_left A (List.Perm.append_left U1 ?_)) hp
  have:=(List.perm_append_comm (l₁:=V1) (l₂:=U2)).append_right (V2++D)
  simpa using this
 have tail2:∀ (w':World) (W1:List Value),St W0 w' F (RowP g n c (A++(W1++(U2++(V2++D))))::L) I→W1.Perm (U1++V1)→Ordd key W1→W Tryz.prog (c114S14 ()) [(0,.slice (some ⟨g,0,none⟩) n c),(3,.int .i64 b),(4,fv),(18,.int .i64 mid),(24,.int .i64 (m+r:Nat))] w' (finQ Tryz.prog [] fun _ w'=>∃ W,St W0 w' F (RowP g n c (A++(W++D))::L) I∧W.Perm (U1++U2++(V1++V2))∧Ordd key W):=by
  intro w' W1 sw p1 o1
  have lW:W1.length=t+r:=by rw [p1.length_eq,List.length_append,l1,l3]
  by_cases c1:mid<m+r
  ·by_cases c2:m+r<b
   ·have c1':(mid:Int)<(m:Int)+r:=by omega
    have c2':(m:Int)+r<b:=by omega
    simp (disch:=first|omega|exact zF rfl|exact zG rfl|exact fun h=>h|(simp only[zA,zB,zC,zD,bytesW];omega)) only[go_sem,c114S0,c114L0,c114L1,c114S5,c114S6,c114L2,c114L3,c114S11,c114S12,c114L4,c114S14,c114S15,c114S16,c114S17,c114S18,c114S19,c1',c2']
    refine Ret.mono (ih (A:=A++W1) (U:=U2) (V:=V2) (D:=D) (by omega) (by rw [List.append_assoc]; exact sw) ?_ (by omega) (by omega) hU2.right hV2.right (by rw [List.length_append]; omega) (by rw [List.length_append]; omega) (by rw [List.length_append]; omega)) ?_
    ·rw [List.append_assoc]
     refine List.Perm.trans (List.Perm.append_left A ?_) pZ
     have:=p1.append_right (U2++(V2++D))
     simpa using this
    ·rintro _ w4 ⟨W2,s4,p2,o2⟩
     simp (disch:=first|omega|exact zF rfl|exact zG rfl|exact fun h=>h|(simp only[zA,zB,zC,zD,bytesW];omega)) only[go_sem,c114S0,c114L0,c114L1,c114S5,c114S6,c114L2,c114L3,c114S11,c114S12,c114L4,c114S14,c114S15,c114S16,c114S17,c114S18,c114S19]
     exact fin _ _ _ (by rw [List.append_assoc] at s4; exact s4) p1 o1 p2 o2
   ·have c1':(mid:Int)<(m:Int)+r:=by omega
    have c2':¬ (m:Int)+r<b:=by omega
    simp (disch:=first|omega|exact zF rfl|exact zG rfl|exact fun h=>h|(simp only[zA,zB,zC,zD,bytesW];omega)) only[go_sem,c114S0,c114L0,c114L1,c114S5,c114S6,c114L2,c114L3,c114S11,c114S12,c114L4,c114S14,c114S15,c114S16,c114S17,c114S18,c114S19,c1',c2']
    exact fin _ W1 (U2++V2) (by simpa [RowP] using sw) p1 o1 (List.Perm.refl _) (one hU2.right hV2.right (.inr (List.eq_nil_of_length_eq_zero (by omega))))
  ·have c1':¬ (mid:Int)<(m:Int)+r:=by omega
   simp (disch:=first|omega|exact zF rfl|exact zG rfl|exact fun h=>h|(simp only[zA,zB,zC,zD,bytesW];omega)) only[go_sem,c114S0,c114L0,c114L1,c114S5,c114S6,c114L2,c114L3,c114S11,c114S12,c114L4,c114S14,c114S15,c114S16,c114S17,c114S18,c114S19,c1']
   exact fin _ W1 (U2++V2) (by simpa [RowP] using sw) p1 o1 (List.Perm.refl _) (one hU2.right hV2.right (.inl (List.eq_nil_of_length_eq_zero (by omega))))
 have tail1:∀ (w':World),St W0 w' F (RowP g n c (A++(U1++(V1++(U2++(V2++D)))))::L) I→W Tryz.prog (c114S15 ()) [(0,.slice (some ⟨g,0,none⟩) n c),(1,.int .i64 a),(3,.int .i64 b),(4,fv),(18,.int .i64 mid),(20,.int .i64 (a+t:Nat)),(24,.int .i64 (m+r:Nat))] w' (finQ Tryz.prog [] fun _ w'=>∃ W,St W0 w' F (RowP g n c (A++(W++D))::L) I∧W.Perm (U1++U2++(V1++V2))∧Ordd key W):=by
  intro w' sw
  by_cases c1:a<a+t
  ·by_cases c2:a+t<mid
   ·have c1':(a:Int)<(a:Int)+t:=by omega
    have c2':(a:Int)+t<mid:=by omega
    simp (disch:=first|omega|exact zF rfl|exact zG rfl|exact fun h=>h|(simp only[zA,zB,zC,zD,bytesW];omega)) only[go_sem,c114S0,c114L0,c114L1,c114S5,c114S6,c114L2,c114L3,c114S11,c114S12,c114L4,c114S15,c114S16,c114S17,c114S18,c114S19,c1',c2']
    refine Ret.mono (ih (A:=A) (U:=U1) (V:=V1) (D:=U2++(V2++D)) (by omega) sw pZ (by omega) (by omega) hU2.left hV2.left ha (by omega) (by omega)) ?_
    rintro _ w4 ⟨W1,s4,p1,o1⟩
    simp (disch:=first|omega|exact zF rfl|exact zG rfl|exact fun h=>h|(simp only[zA,zB,zC,zD,bytesW];omega)) only[go_sem,c114S0,c114L0,c114L1,c114S5,c114S6,c114L2,c114L3,c114S11,c114S12,c114L4,c114S15,c114S16,c114S17,c114S18,c114S19]
    exact tail2 _ _ s4 p1 o1
   ·have c1':(a:Int)<(a:Int)+t:=by omega
    have c2':¬ (a:Int)+t<mid:=by omega
    simp (disch:=first|omega|exact zF rfl|exact zG rfl|exact fun h=>h|(simp only[zA,zB,zC,zD,bytesW];omega)) only[go_sem,c114S0,c114L0,c114L1,c114S5,c114S6,c114L2,c114L3,c114S11,c114S12,c114L4,c114S15,c114S16,c114S17,c114S18,c114S19,c1',c2']
    exact tail2 _ (U1++V1) (by simpa [RowP] using sw) (List.Perm.refl _) (one hU2.left hV2.left (.inr (List.eq_nil_of_length_eq_zero (by omega))))
  ·have c1':¬ (a:Int)<(a:Int)+t:=by omega
   simp (disch:=first|omega|exact zF rfl|exact zG rfl|exact fun h=>h|(simp only[zA,zB,zC,zD,bytesW];omega)) only[go_sem,c114S0,c114L0,c114L1,c114S5,c114S6,c114L2,c114L3,c114S11,c114S12,c114L4,c114S15,c114S16,c114S17,c114S18,c114S19,c1']
   exact tail2 _ (U1++V1) (by simpa [RowP] using sw) (List.Perm.refl _) (one hU2.left hV2.left (.inl (List.eq_nil_of_length_eq_zero (by omega))))
 by_cases c1:a+t<m
 ·by_cases c2:m<m+r
  ·have c1':(a:Int)+t<m:=by omega
   have c2':(m:Int)<(m:Int)+r:=by omega
   simp (disch:=first|omega|exact zF rfl|exact zG rfl|exact fun h=>h|(simp only[zA,zB,zC,zD,bytesW];omega)) only[go_sem,c114S0,c114L0,c114L1,c114S5,c114S6,c114L2,c114L3,c114S11,c114S12,c114L4,c114S14,c114S16,c114S17,c114S18,c114S19,ee,c1',c2']
   refine ⟨⟨by omega,by omega⟩,Ret.mono (rot_ok (fv:=fv) (A:=A++U1) (U:=U2) (V:=V1) (D:=V2++D) (by rw [List.append_assoc]; exact s2) (by rw [List.append_assoc]; exact hX) (by rw [List.append_assoc]; exact hXn) hn2 (by omega) (by omega) (by rw [List.length_append]; omega) (by rw [List.length_append]; omega) (by rw [List.length_append]; omega)) ?_⟩
   intro _ w4 s4
   simp (disch:=first|omega|exact zF rfl|exact zG rfl|exact fun h=>h|(simp only[zA,zB,zC,zD,bytesW];omega)) only[go_sem,c114S0,c114L0,c114L1,c114S5,c114S6,c114L2,c114L3,c114S11,c114S12,c114L4,c114S14,c114S16,c114S17,c114S18,c114S19]
   rw [List.append_assoc] at s4
   exact tail1 _ s4
  ·have c1':(a:Int)+t<m:=by omega
   have c2':¬ (m:Int)<(m:Int)+r:=by omega
   have:V1=[]:=List.eq_nil_of_length_eq_zero (by omega)
   subst this
   simp (disch:=first|omega|exact zF rfl|exact zG rfl|exact fun h=>h|(simp only[zA,zB,zC,zD,bytesW];omega)) only[go_sem,c114S0,c114L0,c114L1,c114S5,c114S6,c114L2,c114L3,c114S11,c114S12,c114L4,c114S14,c114S16,c114S17,c114S18,c114S19,ee,c1',c2']
   exact ⟨⟨by omega,by omega⟩,tail1 _ (by simpa [RowP] using s2)⟩
 ·have c1':¬ (a:Int)+t<m:=by omega
  have:U2=[]:=List.eq_nil_of_length_eq_zero (by omega)
  subst this
  simp (disch:=first|omega|exact zF rfl|exact zG rfl|exact fun h=>h|(simp only[zA,zB,zC,zD,bytesW];omega)) only[go_sem,c114S0,c114L0,c114L1,c114S5,c114S6,c114L2,c114L3,c114S11,c114S12,c114L4,c114S14,c114S16,c114S17,c114S18,c114S19,ee,c1']
  exact ⟨⟨by omega,by omega⟩,tail1 _ (by simpa [RowP] using s2)⟩
theorem symm_ok{X0:List Value}(hc:CmpOk W0 F L I g n c fv key X0)(hX0:PtrV X0)(hy:noYV (some fv))(hn:X0.length=n)(hn2:n≤100000) :
  ∀ (N:Nat) {A U V D:List Value} {w:World},U.length+V.length≤N→St W0 w F (RowP g n c (A++(U++(V++D)))::L) I→(A++(U++(V++D))).Perm X0→0<U.length→0<V.length→Ordd key U→Ordd key V→∀ {a m b:Nat},a=A.length→m=A.length+U.length→b=A.length+U.length+V.length →
  Ret Tryz.prog 114 [.slice (some ⟨g,0,none⟩) n c,.int .i64 a,.int .i64 m,.int .i64 b,fv] w fun _ w'=>∃ W,St W0 w' F (RowP g n c (A++(W++D))::L) I∧W.Perm (U++V)∧Ordd key W
 | 0,A,U,V,D,w,hN,_,_,hu,_,_,_,_,_,_,_,_,_=>by omega
 | N+1,A,U,V,D,w,hN,h,hp,hu,hv,hU,hV,a,m,b,ha,hm,hb=>by
  have ih:SymmIH W0 F L I g n c fv key X0 N:=fun h1 h2 h3 h4 h5 h6 h7 _ _ _ h8 h9 h10=>symm_ok hc hX0 hy hn hn2 N h1 h2 h3 h4 h5 h6 h7 h8 h9 h10
  have hX:PtrV (A++(U++(V++D))):=fun u hu=>hX0 u (hp.mem_iff.1 hu)
  have hmem:∀ u∈A++(U++(V++D)),u∈X0:=fun u hu=>hp.mem_iff.1 hu
  have hXn:(A++(U++(V++D))).length=n:=by rw [hp.length_eq,hn]
  have hnn:A.length+U.length+V.length+D.length=n:=by rw [← hXn]; simp only [List.length_append]; omega
  refine ent114 _ _ _ _ _ _ _ ?_
  by_cases h1:U.length=1
  ·have h1':(m:Int) - a=1:=by omega
   simp (disch:=first|omega|exact zF rfl|exact zG rfl|exact fun h=>h|(simp only[zA,zB,zC,zD,bytesW];omega)) only[go_sem,c114S0,c114L1,c114S6,c114L2,c114L3,c114S11,c114S12,c114L4,c114S14,c114S15,c114S16,c114S17,c114S18,h1']
   refine ⟨⟨by omega,by omega⟩,?_⟩
   obtain ⟨u,rfl⟩:=List.length_eq_one_iff.1 h1
   obtain ⟨bu,rfl⟩:=hX u (by simp)
   refine srchA h hc hmem hX hy hXn hn2 (by omega) (by omega) (by omega) (fun i j i1 i2 i3=>kxV_le hV (by omega) i2 (by omega)) ?_
   intro w2 i s2 i1 i2 lt1 ge1
   simp (disch:=first|omega|exact zF rfl|exact zG rfl|exact fun h=>h|(simp only[zA,zB,zC,zD,bytesW];omega)) only[go_sem,c114S0,c114L0,c114S5,c114S6,c114L2,c114L3,c114S11,c114S12,c114L4,c114S14,c114S15,c114S16,c114S17,c114S18,c114S19]
   obtain ⟨T,rfl⟩:∃ T,i=a+1+T:=⟨i - (a+1),by omega⟩
   have hT:T≤V.length:=by simp only [List.length_singleton] at *; omega
   refine shiftA (A:=A) (V:=V) (D:=D) (T:=T) s2 hX hXn hn2 ha hT rfl ?_
   intro w3 s3
   simp (disch:=first|omega|exact zF rfl|exact zG rfl|exact fun h=>h|(simp only[zA,zB,zC,zD,bytesW];omega)) only[go_sem,c114S0,c114L0,c114L1,c114S5,c114S6,c114L2,c114L3,c114S11,c114S12,c114L4,c114S14,c114S15,c114S16,c114S17,c114S18,c114S19]
   have hka:kx key (A++([ptV bu]++(V++D))) a=key (ptV bu):=by
    have:=kxU (key:=key) (A:=A) (U:=[ptV bu]) (R:=V++D) (i:=0) (by simp)
    rw [ha]; simpa using this
   have hkv:∀ q,(hq:q<V.length)→kx key (A++([ptV bu]++(V++D))) (a+1+q)=key V[q]:=fun q hq=>by
    have:=kxV (key:=key) (A:=A) (U:=[ptV bu]) (V:=V) (D:=D) hq
    rw [ha]; simpa using this
   have hp2:=put_in (key:=key) (V1:=V.take T) (V2:=V.drop T) (u:=ptV bu) (by rw [List.take_append_drop]; exact hV) (fun x hx=>by
     obtain ⟨q,hq,rfl⟩:=List.mem_iff_getElem.1 hx
     rw [List.length_take] at hq
     have:=lt1 (a+1+q) (by simp only [List.length_singleton] at *; omega) (by omega)
     rw [hka,hkv q (by omega)] at this
     rw [List.getElem_take]
     exact Int.le_of_lt this) (fun y hy=>by
     obtain ⟨q,hq,rfl⟩:=List.mem_iff_getElem.1 hy
     rw [List.length_drop] at hq
     have:=ge1 (a+1+(T+q)) (by omega) (by simp only [List.length_singleton] at *; omega)
     rw [hka,hkv (T+q) (by omega)] at this
     rw [List.getElem_drop]
     exact this)
   refine ⟨V.take T++ptV bu::V.drop T,by simpa [RowP] using s3,?_,hp2.2⟩
   have:=hp2.1
   rw [List.take_append_drop] at this
   exact this
  ·have h1':¬ (m:Int) - a=1:=by omega
   by_cases h2:V.length=1
   ·have h2':(b:Int) - m=1:=by omega
    simp (disch:=first|omega|exact zF rfl|exact zG rfl|exact fun h=>h|(simp only[zA,zB,zC,zD,bytesW];omega)) only[go_sem,c114S0,c114L0,c114L1,c114S5,c114S6,c114L3,c114S12,c114L4,c114S14,c114S15,c114S16,c114S17,c114S19,h1',h2']
    refine ⟨⟨by omega,by omega⟩,⟨by omega,by omega⟩,?_⟩
    obtain ⟨v,rfl⟩:=List.length_eq_one_iff.1 h2
    obtain ⟨bv,rfl⟩:=hX v (by simp)
    refine srchB (a:=m) h hc hmem hX hy hXn hn2 (by simp only [List.length_singleton] at *; omega) (by omega) (by simp only [List.length_singleton] at *; omega) (fun i j i1 i2 i3=>kxU_le hU (by omega) i2 (by omega)) ?_
    intro w2 i s2 i1 i2 le1 gt1
    simp (disch:=first|omega|exact zF rfl|exact zG rfl|exact fun h=>h|(simp only[zA,zB,zC,zD,bytesW];omega)) only[go_sem,c114S0,c114L0,c114L1,c114S5,c114S6,c114L2,c114S11,c114S12,c114L4,c114S14,c114S15,c114S16,c114S17,c114S18,c114S19]
    obtain ⟨T,rfl⟩:∃ T,i=a+T:=⟨i - a,by omega⟩
    have hT:T≤U.length:=by omega
    refine shiftB (A:=A) (U:=U) (D:=D) (T:=T) s2 hX hXn hn2 ha hT (by omega) rfl ?_
    intro w3 s3
    simp (disch:=first|omega|exact zF rfl|exact zG rfl|exact fun h=>h|(simp only[zA,zB,zC,zD,bytesW];omega)) only[go_sem,c114S0,c114L0,c114L1,c114S5,c114S6,c114L2,c114L3,c114S11,c114S12,c114L4,c114S14,c114S15,c114S16,c114S17,c114S18,c114S19]
    have hkm:kx key (A++(U++([ptV bv]++D))) m=key (ptV bv):=by
     have:=kxV (key:=key) (A:=A) (U:=U) (V:=[ptV bv]) (D:=D) (i:=0) (by simp)
     rw [hm]; simpa using this
    have hku:∀ q,(hq:q<U.length)→kx key (A++(U++([ptV bv]++D))) (a+q)=key U[q]:=fun q hq=>by
     rw [ha]; exact kxU hq
    have hp2:=put_in (key:=key) (V1:=U.take T) (V2:=U.drop T) (u:=ptV bv) (by rw [List.take_append_drop]; exact hU) (fun x hx=>by
      obtain ⟨q,hq,rfl⟩:=List.mem_iff_getElem.1 hx
      rw [List.length_take] at hq
      have:=le1 (a+q) (by omega) (by omega)
      rw [hkm,hku q (by omega)] at this
      rw [List.getElem_take]
      exact this) (fun y hy=>by
      obtain ⟨q,hq,rfl⟩:=List.mem_iff_getElem.1 hy
      rw [List.length_drop] at hq
      have:=gt1 (a+(T+q)) (by omega) (by omega)
      rw [hkm,hku (T+q) (by omega)] at this
      rw [List.getElem_drop]
      exact Int.le_of_lt this)
    refine ⟨U.take T++ptV bv::U.drop T,by simpa [RowP] using s3,?_,hp2.2⟩
    have:=hp2.1
    rw [List.take_append_drop] at this
    exact this.trans (List.perm_append_singleton _ _).symm
   ·have h2':¬ (b:Int) - m=1:=by omega
    simp (disch:=first|omega|exact zF rfl|exact zG rfl|exact fun h=>h|(simp only[zA,zB,zC,zD,bytesW];omega)) only[go_sem,c114S0,c114L0,c114L1,c114S5,c114S6,c114L2,c114L3,c114S11,c114S12,c114S14,c114S15,c114S16,c114S18,c114S19,h1',h2']
    rw [half_wrap (i:=a) (j:=b) (by omega)]
    generalize hq:(a+b) / 2=mid
    refine ⟨⟨by omega,by omega⟩,⟨by omega,by omega⟩,⟨by omega,by omega⟩,⟨by omega,by omega⟩,⟨by omega,by omega⟩,fun hlt=>⟨⟨by omega,by omega⟩,?_⟩,fun hge=>?_⟩
    ·have e1:((mid:Int)+m - b)=((mid+m - b:Nat):Int):=by omega
     rw [e1]
     exact symm_tail ih hc hX0 hy hn hn2 hN h hp hu hv hU hV ha hm hb hq.symm (.inl ⟨by omega,rfl,rfl⟩)
    ·exact symm_tail ih hc hX0 hy hn hn2 hN h hp hu hv hU hV ha hm hb hq.symm (.inr ⟨by omega,rfl,rfl⟩)
end
open Go Go.Ann Go.RowKit
inductive Runs(key:Value→Int)(s:Nat):List Value→Prop
 | nil:Runs key s []
 | last {U:List Value} (h:Ordd key U) (hl:U.length≤s):Runs key s U
 | cons {U R:List Value} (hl:U.length=s) (h:Ordd key U) (hr:Runs key s R):Runs key s (U++R)
inductive Full(key:Value→Int)(s:Nat):List Value→Prop
 | nil:Full key s []
 | snoc {D U:List Value} (hd:Full key s D) (hl:U.length=s) (h:Ordd key U):Full key s (D++U)
theorem Runs.split{key:Value→Int}{s:Nat}{R:List Value}(h:Runs key s R)(hs:0<s)(hl:s≤R.length):∃ U R',R=U++R'∧U.length=s∧Ordd key U∧Runs key s R':=by
 cases h with
 | nil=>simp at hl; omega
 | last h hl2=>exact ⟨R,[],by simp,by omega,h,.nil⟩
 | @cons U R' hl2 h hr=>exact ⟨U,R',rfl,hl2,h,hr⟩
theorem Runs.short{key:Value→Int}{s:Nat}{R:List Value}(h:Runs key s R)(hl:R.length≤s):Ordd key R:=by
 cases h with
 | nil=>exact List.Pairwise.nil
 | last h hl2=>exact h
 | @cons U R' hl2 h hr =>
  have:R'=[]:=List.eq_nil_of_length_eq_zero (by rw [List.length_append] at hl; omega)
  subst this
  simpa using h
theorem Full.runs{key:Value→Int}{s:Nat}{D R:List Value}(h:Full key s D)(hr:Runs key s R):Runs key s (D++R):=by
 induction h generalizing R with
 | nil=>exact hr
 | snoc hd hl h ih=>rw [List.append_assoc]; exact ih (.cons hl h hr)
section
variable {W0 w:World} {F:Nat→Prop} {L:List Res} {I:List Inv} {g n c:Nat} {X:List Value} {fv:Value} {key:Value→Int}
theorem CmpOk.perm{X':List Value}(h:CmpOk W0 F L I g n c fv key X)(hp:X'.Perm X):CmpOk W0 F L I g n c fv key X':=fun w' Y s u hu v hv=>h w' Y s u (hp.mem_iff.1 hu) v (hp.mem_iff.1 hv)
theorem PtrV.perm{X':List Value}(h:PtrV X)(hp:X'.Perm X):PtrV X':=fun u hu=>h u (hp.mem_iff.1 hu)
theorem stable_in(hc:CmpOk W0 F L I g n c fv key X)(hX:PtrV X)(hy:noYV (some fv))(hn:X.length=n)(hn2:n≤100000){s:Nat}(hs:0<s){Y:List Value}(h:St W0 w F (RowP g n c Y::L) I)(hp:Y.Perm X)(hr:Runs key s Y)(hsn:s<n){Q:Post}
  (hQ:∀ w' Y',St W0 w' F (RowP g n c Y'::L) I→Y'.Perm X→Runs key (s * 2) Y'→Q .normal [(0,.slice (some ⟨g,0,none⟩) n c),(1,.int .i64 n),(2,fv),(6,.int .i64 (s * 2:Nat))] w') :
  W Tryz.prog (c90S6 ()) [(0,.slice (some ⟨g,0,none⟩) n c),(1,.int .i64 n),(2,fv),(6,.int .i64 s)] w Q:=by
 simp (disch:=first|omega|exact zF rfl|exact zG rfl|exact fun h=>h|(simp only[zA,zB,zC,zD,bytesW];omega)) only[go_sem,c90L0,c90S2,c90S4,c90S6,c90L2,c90S7,c90S8]
 have hYl:Y.length=n:=by rw [hp.length_eq,hn]
 refine ⟨⟨by omega,by omega⟩,?_⟩
 refine W_loopU (fun z:List Value × List Value=>[(7,.int .i64 z.1.length),(8,.int .i64 ((z.1.length:Int)+2 * s))]) (fun z w'=>St W0 w' F (RowP g n c (z.1++z.2)::L) I∧(z.1++z.2).Perm X∧Full key (s * 2) z.1∧Runs key s z.2) (fun z=>z.2.length) ([],Y) (by simp [ovr,lk]) ⟨h,hp,.nil,hr⟩ ?_
 rintro ⟨D,R⟩ w2 ⟨s2,hp2,hf,hr2⟩
 simp only at s2 hp2 hf hr2
 have hl:D.length+R.length=n:=by rw [← List.length_append,hp2.length_eq,hn]
 by_cases hlt:D.length+2 * s≤n
 ·have hlt':(D.length:Int)+2 * s≤n:=by omega
  obtain ⟨U,R1,rfl,lu,ou,r1⟩:=hr2.split hs (by omega)
  rw [List.length_append] at hl
  obtain ⟨V,R2,rfl,lv,ov,r2⟩:=r1.split hs (by omega)
  rw [List.length_append] at hl
  simp (disch:=first|omega|exact zF rfl|exact zG rfl|exact fun h=>h|(simp only[zA,zB,zC,zD,bytesW];omega)) only[go_sem,c90L0,c90L1,c90S4,c90S6,c90L2,c90S7,c90S8,c90L1,hlt']
  have e1:((D.length:Int)+s)=((D.length+s:Nat):Int):=by omega
  have e2:((D.length:Int)+2 * s)=((D.length+2 * s:Nat):Int):=by omega
  rw [e1,e2]
  refine ⟨⟨by omega,by omega⟩,Ret.mono (symm_ok (hc.perm hp2) (hX.perm hp2) hy (by rw [hp2.length_eq,hn]) hn2 _ (A:=D) (U:=U) (V:=V) (D:=R2) (Nat.le_refl _) s2 (List.Perm.refl _) (by omega) (by omega) ou ov rfl (by omega) (by omega)) ?_⟩
  rintro _ w3 ⟨M,s3,pm,om⟩
  have hMl:M.length=2 * s:=by rw [pm.length_eq,List.length_append]; omega
  simp (disch:=first|omega|exact zF rfl|exact zG rfl|exact fun h=>h|(simp only[zA,zB,zC,zD,bytesW];omega)) only[go_sem,c90L0,c90S2,c90L1,c90S4,c90S6,c90L2,c90S7,c90S8]
  refine ⟨⟨by omega,by omega⟩,⟨by omega,by omega⟩,(D++M,R2),?_,⟨by simpa using s3,?_,.snoc hf (by omega) om,r2⟩,by simp only [List.length_append]; omega⟩
  ·simp only [List.length_append,hMl]
   have e3:((D.length+2 * s:Nat):Int)+2 * s=((D.length+2 * s:Nat):Int)+2 * (s:Int):=rfl
   simp [ovr,lk]
  ·have:=(List.Perm.append_left D (pm.append_right R2)).trans (by simpa using hp2)
   simpa using this
 ·have hlt':¬ (D.length:Int)+2 * s≤n:=by omega
  simp (disch:=first|omega|exact zF rfl|exact zG rfl|exact fun h=>h|(simp only[zA,zB,zC,zD,bytesW];omega)) only[go_sem,c90L0,c90S2,c90L1,c90S5,c90S6,c90L2,c90S7,c90S8,c90L1,hlt']
  have e1:((D.length:Int)+s)=((D.length+s:Nat):Int):=by omega
  refine ⟨⟨by omega,by omega⟩,?_⟩
  by_cases hm:D.length+s<n
  ·have hm':(D.length:Int)+s<n:=by omega
   obtain ⟨U,V,rfl,lu,ou,r1⟩:=hr2.split hs (by omega)
   rw [List.length_append] at hl
   have ov:=r1.short (by omega)
   simp (disch:=first|omega|exact zF rfl|exact zG rfl|exact fun h=>h|(simp only[zA,zB,zC,zD,bytesW];omega)) only[go_sem,c90L0,c90S2,c90L1,c90S5,c90S6,c90L2,c90S7,c90S8,hm']
   rw [e1]
   refine ⟨?_,fun h=>by omega⟩
   refine Ret.mono (symm_ok (hc.perm hp2) (hX.perm hp2) hy (by rw [hp2.length_eq,hn]) hn2 _ (A:=D) (U:=U) (V:=V) (D:=[]) (Nat.le_refl _) (by simpa using s2) (by simp) (by omega) (by omega) ou ov (a:=D.length) (m:=D.length+s) (b:=n) rfl (by omega) (by omega)) ?_
   rintro _ w3 ⟨M,s3,pm,om⟩
   have hMl:M.length=n - D.length:=by rw [pm.length_eq,List.length_append]; omega
   simp (disch:=first|omega|exact zF rfl|exact zG rfl|exact fun h=>h|(simp only[zA,zB,zC,zD,bytesW];omega)) only[go_sem,c90L0,c90S2,c90L1,c90S4,c90S5,c90S6,c90L2,c90S7,c90S8]
   rw [List.append_nil] at s3
   refine ⟨⟨by omega,by omega⟩,?_⟩
   have:=hQ _ _ s3 ((List.Perm.append_left D pm).trans hp2) (hf.runs (.last om (by omega)))
   exact this
  ·have hm':¬ (D.length:Int)+s<n:=by omega
   have ov:=hr2.short (by omega)
   simp (disch:=first|omega|exact zF rfl|exact zG rfl|exact fun h=>h|(simp only[zA,zB,zC,zD,bytesW];omega)) only[go_sem,c90L0,c90S2,c90L1,c90S4,c90S5,c90S6,c90L2,c90S7,c90S8,hm']
   refine fun _=>⟨⟨by omega,by omega⟩,?_⟩
   have:=hQ _ _ s2 hp2 (hf.runs (.last ov (by omega)))
   exact this
theorem stable_ok(h:St W0 w F (RowP g n c X::L) I)(hc:CmpOk W0 F L I g n c fv key X)(hX:PtrV X)(hy:noYV (some fv))(hn:X.length=n)(hn2:n≤100000) :
  Ret Tryz.prog 90 [.slice (some ⟨g,0,none⟩) n c,.int .i64 n,fv] w fun _ w'=>∃ Y,St W0 w' F (RowP g n c Y::L) I∧Y.Perm X∧Ordd key Y:=by
 refine ent90 _ _ _ _ _ ?_
 simp (disch:=first|omega|exact zF rfl|exact zG rfl|exact fun h=>h|(simp only[zA,zB,zC,zD,bytesW];omega)) only[go_sem,c90S2,c90L1,c90S4,c90S5,c90S6,c90L2,c90S7]
 refine W_loopU (fun z:List Value × List Value=>[(7,.int .i64 z.1.length),(8,.int .i64 (z.1.length+20:Nat))]) (fun z w'=>St W0 w' F (RowP g n c (z.1++z.2)::L) I∧(z.1++z.2).Perm X∧Full key 20 z.1) (fun z=>z.2.length) ([],X) rfl ⟨h,.refl _,.nil⟩ ?_
 rintro ⟨D,R⟩ w2 ⟨s2,hp,hf⟩
 simp only at s2 hp hf
 have hl:D.length+R.length=n:=by rw [← List.length_append,hp.length_eq,hn]
 by_cases hlt:D.length+20≤n
 ·have hlt':(D.length:Int)+20≤n:=by omega
  simp (disch:=first|omega|exact zF rfl|exact zG rfl|exact fun h=>h|(simp only[zA,zB,zC,zD,bytesW];omega)) only[go_sem,c90L0,c90S2,c90L1,c90S4,c90S5,c90S6,c90L2,c90S7,c90L0,hlt']
  have e2:((D.length:Int)+20)=((D.length+20:Nat):Int):=by omega
  rw [e2]
  refine Ret.mono (isort_ok (lo:=D.length) (hi:=D.length+20) s2 (hc.perm hp) (hX.perm hp) hy (by rw [List.length_append]; exact hl) hn2 (by omega) (by omega)) ?_
  rintro _ w3 ⟨M,s3,pm,om⟩
  simp (disch:=first|omega|exact zF rfl|exact zG rfl|exact fun h=>h|(simp only[zA,zB,zC,zD,bytesW];omega)) only[go_sem,c90L0,c90S2,c90L1,c90S4,c90S5,c90S6,c90L2,c90S7]
  have eA:(D++R).take D.length=D:=by rw [List.take_append_of_le_length (Nat.le_refl _),List.take_length]
  have eB:(D++R).drop (D.length+20)=R.drop 20:=by rw [List.drop_append]; simp
  have eC:((D++R).take (D.length+20)).drop D.length=R.take 20:=by rw [List.take_length_add_append,List.drop_append_of_le_length (Nat.le_refl _),List.drop_length,List.nil_append]
  rw [eA,eB] at s3
  rw [eC] at pm
  have hMl:M.length=20:=by rw [pm.length_eq,List.length_take]; omega
  refine ⟨⟨by omega,by omega⟩,(D++M,R.drop 20),?_,⟨by simpa using s3,?_,.snoc hf hMl om⟩,by simp only [List.length_drop]; omega⟩
  ·simp [hMl]
  ·have:=List.Perm.append_left D (pm.append_right (R.drop 20))
   rw [List.take_append_drop] at this
   simpa using this.trans hp
 ·have hlt':¬ (D.length:Int)+20≤n:=by omega
  simp (disch:=first|omega|exact zF rfl|exact zG rfl|exact fun h=>h|(simp only[zA,zB,zC,zD,bytesW];omega)) only[go_sem,c90L0,c90S2,c90L1,c90S4,c90S5,c90S6,c90L2,c90S8,c90L0,hlt']
  refine Ret.mono (isort_ok (lo:=D.length) (hi:=n) s2 (hc.perm hp) (hX.perm hp) hy (by rw [List.length_append]; exact hl) hn2 (by omega) (by omega)) ?_
  rintro _ w3 ⟨M,s3,pm,om⟩
  simp (disch:=first|omega|exact zF rfl|exact zG rfl|exact fun h=>h|(simp only[zA,zB,zC,zD,bytesW];omega)) only[go_sem,c90L0,c90S2,c90L1,c90S4,c90S5,c90S6,c90S7,c90S8]
  have eA:(D++R).take D.length=D:=by rw [List.take_append_of_le_length (Nat.le_refl _),List.take_length]
  have eB:(D++R).drop n=[]:=List.drop_of_length_le (by rw [List.length_append]; omega)
  have eC:((D++R).take n).drop D.length=R:=by rw [List.take_of_length_le (by rw [List.length_append]; omega),List.drop_append_of_le_length (Nat.le_refl _),List.drop_length,List.nil_append]
  rw [eA,eB,List.append_nil] at s3
  rw [eC] at pm
  have hMl:M.length=R.length:=pm.length_eq
  refine W_loopU (fun z:Nat × List Value=>[(6,.int .i64 z.1)]) (fun z w'=>St W0 w' F (RowP g n c z.2::L) I∧z.2.Perm X∧Runs key z.1 z.2∧0<z.1∧z.1≤400000) (fun z=>n - z.1) (20,D++M) rfl ⟨s3,(List.Perm.append_left D pm).trans hp,hf.runs (.last om (by omega)),by simp only; omega,by simp only; omega⟩ ?_
  rintro ⟨s,Y⟩ w4 ⟨s4,p4,r4,q1,q2⟩
  simp only at s4 p4 r4 q1 q2
  by_cases hlt2:s<n
  ·have hlt2':(s:Int)<n:=by omega
   simp (disch:=first|omega|exact zF rfl|exact zG rfl|exact fun h=>h|(simp only[zA,zB,zC,zD,bytesW];omega)) only[go_sem,c90L0,c90S2,c90L1,c90S4,c90S5,c90L2,c90S7,c90S8,c90L2,hlt2']
   refine stable_in hc hX hy hn hn2 q1 s4 p4 r4 hlt2 ?_
   intro w5 Y' s5 p5 r5
   simp (disch:=first|omega|exact zF rfl|exact zG rfl|exact fun h=>h|(simp only[zA,zB,zC,zD,bytesW];omega)) only[go_sem,c90L0,c90S2,c90L1,c90S4,c90S5,c90S6,c90L2,c90S7,c90S8]
   exact ⟨(s * 2,Y'),by simp,⟨s5,p5,r5,by simp only; omega,by simp only; omega⟩,by simp only; omega⟩
  ·have hlt2':¬ (s:Int)<n:=by omega
   simp (disch:=first|omega|exact zF rfl|exact zG rfl|exact fun h=>h|(simp only[zA,zB,zC,zD,bytesW];omega)) only[go_sem,c90L0,c90S2,c90L1,c90S4,c90S5,c90S6,c90L2,c90S7,c90S8,c90L2,hlt2']
   exact ⟨Y,s4,p4,r4.short (by rw [p4.length_eq,hn]; omega)⟩
end
open Go Go.Ann Go.RowKit
theorem mvE_len(m:Int × Nat):(mvE m).length=2:=rfl
def firstM(p:Int × Nat→Bool)(l:List (Int × Nat)):Int:=match l.findIdx? p with | some i=>i | none => -1
theorem firstM_at{p:Int × Nat→Bool}{l:List (Int × Nat)}{k:Nat}(h:k<l.length)(hp:p l[k]=true)(hb:∀ j,(h:j<l.length)→j<k→p l[j]=false):firstM p l=k:=by
 unfold firstM
 rw [List.findIdx?_eq_some_iff_getElem.2 ⟨h,hp,fun j hj=>by rw [hb j (by omega) hj]; decide⟩]
theorem firstM_none{p:Int × Nat→Bool}{l:List (Int × Nat)}(hb:∀ j,(h:j<l.length)→p l[j]=false):firstM p l = -1:=by
 unfold firstM
 rw [List.findIdx?_eq_none_iff.2 fun x hx=>by obtain ⟨j,hj,rfl⟩:=List.mem_iff_getElem.1 hx; exact hb j hj]
theorem firstM_any{p:Int × Nat→Bool}{l:List (Int × Nat)}:decide (0≤firstM p l)=l.any p:=by
 rcases h:l.any p with _ | _
 ·rw [firstM_none fun j hj=>by simpa using (List.any_eq_false.1 h) _ (List.getElem_mem hj)]; decide
 ·unfold firstM
  cases e:l.findIdx? p with
  | none=>rw [List.findIdx?_eq_none_iff] at e; obtain ⟨x,hx,hp⟩:=List.any_eq_true.1 h; rw [e x hx] at hp; cases hp
  | some i=>exact decide_eq_true (by show (0:Int)≤(i:Int); omega)
def TellsM(w:World)(fv:Value)(l:List (Int × Nat))(p:Int × Nat→Bool):Prop:=∀ x∈l,∀ w',Below w.heap.size w w'→callW Tryz.prog fv [.agg (mvE x).toArray] w' fun u w''=>u=.bool (p x)∧Below w'.heap.size w' w''
theorem indexM_ok(fv:Value)(p:Int × Nat→Bool)(v:Value)(l:List (Int × Nat))(w:World)(h:RdS w 2 mvE v l)(hf:TellsM w fv l p)(hl:l.length≤1000000) :
  Ret Tryz.prog 91 [v,fv] w fun u w'=>u=.int .i64 (firstM p l)∧Below w.heap.size w w':=by
 obtain ⟨a,c,rfl,_⟩:=h.form
 refine ent91 _ _ _ _ ?_
 simp (disch:=first|omega|exact zF rfl|exact zG rfl|exact fun h=>h|(simp only[zA,zB,zC,zD,bytesW];omega)) only[go_sem]
 refine W_loopU (fun k:Nat=>[(8,.int .i64 k)]) (fun k w'=>Below w.heap.size w w'∧k≤l.length∧∀ j,(h:j<l.length)→j<k→p l[j]=false) (fun k=>l.length - k) 0 rfl ⟨Below.refl _ _,Nat.zero_le _,fun j _ h=>by omega⟩ ?_
 rintro k w1 ⟨hw,hk,he⟩
 by_cases hlt:k<l.length
 ·obtain ⟨q,rfl⟩:=h.ptr (by omega)
  have ek:=h.eltB hw mvE_len (by decide) hlt
  have ck:=cellsO_below hw (h.at mvE_len hlt)
  have hlt':(k:Int)<l.length:=by omega
  simp (disch:=first|omega|exact zF rfl|exact zG rfl|exact fun h=>h|(simp only[zA,zB,zC,zD,bytesW];omega)) only[go_sem,hlt',ck,ek]
  refine ⟨by omega,callW_mono (hf _ (List.getElem_mem hlt) _ hw) ?_⟩
  rintro _ w2 ⟨rfl,hb⟩
  simp (disch:=first|omega|exact zF rfl|exact zG rfl|exact fun h=>h|(simp only[zA,zB,zC,zD,bytesW];omega)) only[go_sem,hlt']
  have hwt:=hw.trans (hb.mono hw.size)
  refine ⟨fun hp=>⟨(firstM_at hlt hp he).symm,hwt⟩,fun hp=>⟨⟨by omega,by omega⟩,k+1,rfl,⟨hwt,by omega,fun j h1 h2=>?_⟩,by omega⟩⟩
  rcases Nat.lt_or_ge j k with h' | h'
  ·exact he j h1 h'
  ·obtain rfl:j=k:=by omega
   exact hp
 ·have hlt':¬ (k:Int)<l.length:=by omega
  simp (disch:=first|omega|exact zF rfl|exact zG rfl|exact fun h=>h|(simp only[zA,zB,zC,zD,bytesW];omega)) only[go_sem,hlt']
  exact ⟨(firstM_none fun j h=>he j h (by omega)).symm,hw⟩
theorem containsM_ok(fv:Value)(p:Int × Nat→Bool)(v:Value)(l:List (Int × Nat))(w:World)(h:RdS w 2 mvE v l)(hf:TellsM w fv l p)(hl:l.length≤1000000) :
  Ret Tryz.prog 65 [v,fv] w fun u w'=>u=.bool (l.any p)∧Below w.heap.size w w':=by
 refine ent65 _ _ _ _ ?_
 simp (disch:=first|omega|exact zF rfl|exact zG rfl|exact fun h=>h|(simp only[zA,zB,zC,zD,bytesW];omega)) only[go_sem]
 refine Ret.mono (indexM_ok _ p _ _ _ h hf hl) ?_
 rintro _ w1 ⟨rfl,hb⟩
 simp (disch:=first|omega|exact zF rfl|exact zG rfl|exact fun h=>h|(simp only[zA,zB,zC,zD,bytesW];omega)) only[go_sem]
 exact ⟨firstM_any,hb⟩
theorem sum_take{d:List Nat}{k:Nat}(hk:k<d.length):(d.take (k+1)).sum=(d.take k).sum+d.getD k 0:=by
 rw [List.take_succ_eq_append_getElem hk,List.sum_append]
 simp [List.getD_eq_getElem?_getD,List.getElem?_eq_getElem hk]
theorem sum_le{m:Nat}:∀ {d:List Nat},(∀ n∈d,n≤m)→d.sum≤m * d.length
 | [],_=>by simp
 | n::d,h=>by
  have h1:=sum_le (d:=d) fun x hx=>h x (List.mem_cons_of_mem _ hx)
  have h2:=h n List.mem_cons_self
  rw [List.sum_cons,List.length_cons,Nat.mul_add]
  omega
theorem mark1_ok{w:World}{b:Nat}{dv c1 c2 c3 c4:Value}{d:List Nat}(hB:Blk w b #[dv,c1,c2,c3,c4] 64)(hd:RdS w 1 intE dv (zN d))(hl:d.length≤1000)(hv:∀ n∈d,n≤1000) :
  Ret Tryz.prog 61 [.pointer (some ⟨b,0,none⟩)] w fun u w'=>u=.int .i64 (d.sum:Nat)∧w'=w:=by
 obtain ⟨a,c,rfl,_⟩:=hd.form
 rw [zN_len] at hd hB
 have r:=hB.rules
 refine ent61 _ _ _ ?_
 simp (disch:=first|omega|exact zF rfl|exact zG rfl|exact fun h=>h|(simp only[zA,zB,zC,zD,bytesW];omega)) only[go_sem,r]
 refine W_loopU (fun k:Nat=>[(3,.int .i64 ((d.take k).sum:Nat)),(11,.int .i64 k)]) (fun k w'=>w'=w∧k≤d.length) (fun k=>d.length - k) 0 rfl ⟨rfl,Nat.zero_le _⟩ ?_
 rintro k _ ⟨rfl,hk⟩
 by_cases hlt:k<d.length
 ·have hlt':(k:Int)<d.length:=by omega
  obtain ⟨q,rfl⟩:=hd.ptr (by rw [zN_len]; omega)
  have e3:=zN_cell hd hlt
  have hs:=sum_le (d:=d.take k) (m:=1000) fun n hn=>hv n (List.mem_of_mem_take hn)
  rw [List.length_take] at hs
  have hkv:d.getD k 0≤1000:=by
   rw [List.getD_eq_getElem?_getD,List.getElem?_eq_getElem hlt]
   exact hv _ (List.getElem_mem hlt)
  have es:=sum_take hlt
  simp (disch:=first|omega|exact zF rfl|exact zG rfl|exact fun h=>h|(simp only[zA,zB,zC,zD,bytesW];omega)) only[go_sem,c61L0,c61L0,hlt',e3]
  refine ⟨by omega,⟨by omega,by omega⟩,⟨by omega,by omega⟩,k+1,?_,by omega,by omega⟩
  rw [es]; rfl
 ·have hlt':¬ (k:Int)<d.length:=by omega
  obtain rfl:k=d.length:=by omega
  simp (disch:=first|omega|exact zF rfl|exact zG rfl|exact fun h=>h|(simp only[zA,zB,zC,zD,bytesW];omega)) only[go_sem,c61L0,c61L0,hlt']
  rw [List.take_length]
theorem mark2_ok{w:World}{s a b:Nat}{dv c1 c2 c3 c4 ev e1 e2 e3 e4:Value}{d e:List Nat}(hs:Blk w s #[.func (.func 61) #[] #[]] 107)(hA:Blk w a #[dv,c1,c2,c3,c4] 64)(hB:Blk w b #[ev,e1,e2,e3,e4] 64)(hd:RdS w 1 intE dv (zN d))(he:RdS w 1 intE ev (zN e))(hl:d.length≤1000)(hv:∀ n∈d,n≤1000)(hl2:e.length≤1000)(hv2:∀ n∈e,n≤1000) :
  Ret Tryz.prog 64 [ptV a,ptV b,.pointer (some ⟨s,0,none⟩)] w fun u w'=>u=.int .i64 (Cut.cmpI (e.sum:Nat) (d.sum:Nat))∧Below w.heap.size w w':=by
 have r:=hs.rules
 have r':=hs.drew.rules
 have ls:=hs.lt
 refine ent64 _ _ _ _ _ ?_
 unfold ptV
 simp (disch:=first|omega|exact zF rfl|exact zG rfl|exact fun h=>h|(simp only[zA,zB,zC,zD,bytesW];omega)) only[go_sem]
 refine c64draw0 (Chg (fun _=>False) _) (Chg.refl _ _) ?_
 simp (disch:=first|omega|exact zF rfl|exact zG rfl|exact fun h=>h|(simp only[zA,zB,zC,zD,bytesW];omega)) only[go_sem,c64D0,r,r']
 refine Ret.mono (mark1_ok hB.drew (he.below ((Below.refl _ _).drew) (by decide)) hl2 hv2) ?_
 rintro _ _ ⟨rfl,rfl⟩
 simp (disch:=first|omega|exact zF rfl|exact zG rfl|exact fun h=>h|(simp only[zA,zB,zC,zD,bytesW];omega)) only[go_sem,c64D0,r,r']
 refine Ret.mono (mark1_ok hA.drew (hd.below ((Below.refl _ _).drew) (by decide)) hl hv) ?_
 rintro _ _ ⟨rfl,rfl⟩
 simp (disch:=first|omega|exact zF rfl|exact zG rfl|exact fun h=>h|(simp only[zA,zB,zC,zD,bytesW];omega)) only[go_sem,c64D0,r,r']
 refine Ret.mono (Cut.compare_ok _ _ _) ?_
 rintro _ _ ⟨rfl,rfl⟩
 simp (disch:=first|omega|exact zF rfl|exact zG rfl|exact fun h=>h|(simp only[zA,zB,zC,zD,bytesW];omega)) only[go_sem,c64D0,r,r']
 first | exact (Below.refl _ _).drew | trace_state
theorem mark3_ok{W0 w:World}{F:Nat→Prop}{L:List Res}{I:List Inv}{P:List (List OpT)}{x pl m bx:Nat}{mst:Int}{pv tv:Value}{N:List Nd}(h:St W0 w F (SX P x pl m mst pv tv N++L) I)(hb:Blk w bx #[.pointer (some ⟨x,0,none⟩)] 54){a:Int × Nat}(ha:a.2<N.length)(hN:N.length≤1000000) :
  Ret Tryz.prog 66 [.agg (mvE a).toArray,.pointer (some ⟨bx,0,none⟩)] w fun u w'=>u=.bool N[a.2].gd∧Below w.heap.size w w':=by
 obtain ⟨ai,ak⟩:=a
 simp only at ha ⊢
 obtain ⟨ta,tc,rfl,_⟩:=own_slice (h.row 1 rfl)
 obtain ⟨g,rfl⟩:=own_ptr (h.row 1 rfl) (by omega)
 refine ent66 _ _ _ _ ?_
 unfold mvE
 simp (disch:=first|omega|exact zF rfl|exact zG rfl|exact fun h=>h|(simp only[zA,zB,zC,zD,bytesW];omega)) only[go_sem]
 have s1:=(h.alloc' (.cells #[.int .i64 ai,.int .i64 (ak:Nat)] 113)).drew
 have r1:=s1.rules 0 rfl
 have q1:=(hb.alloc (.cells #[.int .i64 ai,.int .i64 (ak:Nat)] 113)).drew.rules
 have hlt':(ak:Int)<N.length:=by omega
 have ec:=(own_cell (s1.row 1 rfl)).1 ak (ptV N[ak].b) (by rw [List.getElem?_map,List.getElem?_eq_getElem ha]; rfl)
 have n1:=(sx_blk s1 ha).rules
 have lb:=hb.lt
 unfold ptV at ec
 refine c66draw0 ?_
 simp (disch:=first|omega|exact zF rfl|exact zG rfl|exact fun h=>h|(simp only[zA,zB,zC,zD,bytesW];omega)) only[go_sem,c66D0,r1,q1,n1,ec,hlt']
 exact ⟨by omega,by (repeat' (first | with_reducible exact Below.refl _ _ | with_reducible assumption | (with_reducible refine Below.drew ?_) | (with_reducible refine Below.alloc ?_ ?_ _) | (with_reducible refine Below.setCell ?_ ?_ _) | (with_reducible refine Below.fill ?_ ?_) | (with_reducible refine Below.via (by assumption) ?_ ?_) | omega | (simp only [World.size_alloc,World.size_drew,World.size_setCell,size_fill,bytesW]; omega)))⟩
open Go Go.Ann Go.RowKit
def markN(P:List (List OpT))(obs:List Int)(D:List Nat)(N:List Nd):List Nd:=N.map fun n=>if n.b∈D then { n with gd:=(bestS P obs n.sp).isSome } else n
theorem markN_nil(P:List (List OpT))(obs:List Int)(N:List Nd):markN P obs [] N=N:=by simp [markN]
theorem markN_len(P:List (List OpT))(obs:List Int)(D:List Nat)(N:List Nd):(markN P obs D N).length=N.length:=by simp [markN]
theorem markN_at{P:List (List OpT)}{obs:List Int}{D:List Nat}{N:List Nd}{i:Nat}(hi:i<(markN P obs D N).length):(markN P obs D N)[i]=if (N[i]'(by rw [markN_len] at hi; exact hi)).b∈D then { (N[i]'(by rw [markN_len] at hi; exact hi)) with gd:=(bestS P obs (N[i]'(by rw [markN_len] at hi; exact hi)).sp).isSome } else N[i]'(by rw [markN_len] at hi; exact hi):=by simp [markN]
theorem markN_sp(P:List (List OpT))(obs:List Int)(D:List Nat)(N:List Nd):(markN P obs D N).map Nd.sp=N.map Nd.sp:=by
 unfold markN
 rw [List.map_map]
 refine List.map_congr_left fun n _=>?_
 simp only [Function.comp]
 split <;> rfl
theorem markN_is{P:List (List OpT)}{obs:List Int}{D:List Nat}{N:List Nd}{i:Nat}(hi:i<N.length):∃ g,(markN P obs D N)[i]?=some { N[i] with gd:=g }:=by
 rw [List.getElem?_eq_getElem (by rw [markN_len]; exact hi),markN_at]
 split
 ·exact ⟨_,rfl⟩
 ·exact ⟨N[i].gd,rfl⟩
theorem markN_set{P:List (List OpT)}{obs:List Int}{D:List Nat}{N:List Nd}(hn:(N.map Nd.b).Nodup){i:Nat}(hi:i<N.length) :
  (markN P obs D N).set i { N[i] with gd:=(bestS P obs N[i].sp).isSome }=markN P obs (D++[N[i].b]) N:=by
 refine List.ext_getElem (by simp [markN_len]) fun j h1 h2=>?_
 have hj:j<N.length:=by simpa [markN_len] using h2
 rw [List.getElem_set,markN_at,markN_at]
 by_cases e:i=j
 ·subst e
  rw [if_pos rfl,if_pos (by simp)]
 ·rw [if_neg e]
  have hne:N[j].b≠N[i].b:=fun h=>by
   have:=(List.nodup_iff_pairwise_ne.1 hn)
   rcases Nat.lt_or_gt_of_ne e with h1 | h1
   ·exact (List.pairwise_iff_getElem.1 this) i j (by simpa using hi) (by simpa using hj) h1 (by simpa using h.symm)
   ·exact (List.pairwise_iff_getElem.1 this) j i (by simpa using hj) (by simpa using hi) h1 (by simpa using h)
  by_cases hm:N[j].b∈D
  ·rw [if_pos hm,if_pos (by simp [hm])]
  ·rw [if_neg hm,if_neg (by simp [hm,hne])]
def keyB(N:List Nd)(b:Nat):Int:=match N.find? fun n=>n.b == b with
 | some n => - (n.sp.done.sum:Int)
 | none=>0
def unptV(v:Value):Nat:=match v with
 | .pointer (some a)=>a.block
 | _=>0
def keyN(N:List Nd)(v:Value):Int:=keyB N (unptV v)
theorem nd_same{N:List Nd}(hn:(N.map Nd.b).Nodup){i j:Nat}(hi:i<N.length)(hj:j<N.length)(h:N[j].b=N[i].b):j=i:=by
 have hp:=List.pairwise_iff_getElem.1 (List.nodup_iff_pairwise_ne.1 hn)
 rcases Nat.lt_trichotomy j i with h1 | h1 | h1
 ·exact absurd h (by have:=hp j i (by simpa using hj) (by simpa using hi) h1; simpa using this)
 ·exact h1
 ·exact absurd h.symm (by have:=hp i j (by simpa using hi) (by simpa using hj) h1; simpa using this)
theorem keyN_at{N:List Nd}(hn:(N.map Nd.b).Nodup){i:Nat}(hi:i<N.length):keyN N (ptV N[i].b) = - (N[i].sp.done.sum:Int):=by
 show keyB N N[i].b=_
 unfold keyB
 cases e:N.find? fun n=>n.b == N[i].b with
 | none =>
  have:=List.find?_eq_none.1 e _ (List.getElem_mem hi)
  simp at this
 | some n =>
  have h1:=List.find?_some e
  have h2:=List.mem_of_find?_eq_some e
  obtain ⟨j,hj,rfl⟩:=List.mem_iff_getElem.1 h2
  have:j=i:=nd_same hn hi hj (by simpa using h1)
  subst this
  rfl
theorem sx_nodup{W0 w:World}{F:Nat→Prop}{L:List Res}{I:List Inv}{P:List (List OpT)}{x pl m:Nat}{mst:Int}{pv tv:Value}{N:List Nd}(h:St W0 w F (SX P x pl m mst pv tv N++L) I):(N.map Nd.b).Nodup:=by
 have hs:∀ N:List Nd,(N.map Nd.b).Sublist ((N.flatMap (ndR P)).filterMap Res.own):=fun N=>by
  induction N with
  | nil=>exact List.Sublist.refl _
  | cons n N ih =>
   rw [List.map_cons,List.flatMap_cons,List.filterMap_append]
   have:[n.b].Sublist ((ndR P n).filterMap Res.own):=by
    unfold ndR
    rw [List.filterMap_cons]
    simp only [Res.own]
    exact List.Sublist.cons_cons _ (List.nil_sublist _)
   exact this.append ih
 have h1:=h.nd
 unfold SX at h1
 refine List.Nodup.sublist ?_ h1
 rw [List.filterMap_append]
 refine List.Sublist.trans ?_ (List.sublist_append_left _ _)
 refine (hs N).trans ?_
 exact List.Sublist.filterMap _ ((List.sublist_cons_self _ _).trans ((List.sublist_cons_self _ _).trans (List.sublist_cons_self _ _)))
theorem mark_any{P:List (List OpT)}{obs:List Int}{N:List Nd}{D:List Nat}{i:Nat}(hi:i<N.length)(hd:N[i].sp.done.length=P.length)(hx:NxR (N.map Nd.sp) N[i].nx (mvsP P obs N[i].sp))(hb:(N.map Nd.b).Nodup)
  (hall:∀ j,(hj:j<N.length)→N[j].sp.done.sum=N[i].sp.done.sum+1→N[j].b∈D) :
  (endsP P N[i].sp.done || N[i].nx.any fun a=>match (markN P obs D N)[a.2]? with | some n=>n.gd | none=>false)=(bestS P obs N[i].sp).isSome:=by
 rw [good_step]
 congr 1
 have key:∀ a∈N[i].nx,∀ m∈mvsP P obs N[i].sp,(N.map Nd.sp)[a.2]?=some m.2→(match (markN P obs D N)[a.2]? with | some n=>n.gd | none=>false)=(bestS P obs m.2).isSome:=fun a ha m hm e=>by
  rw [List.getElem?_map] at e
  cases hN:N[a.2]? with
  | none=>rw [hN] at e; cases e
  | some n =>
   rw [hN] at e
   have e:n.sp=m.2:=Option.some.inj e
   obtain ⟨hl,rfl⟩:=List.getElem?_eq_some_iff.1 hN
   have hs:=mv_sum hd hm
   rw [← e] at hs
   have hD:=hall _ hl hs
   rw [List.getElem?_eq_getElem (by rw [markN_len]; exact hl),markN_at,if_pos hD]
   simp only
   rw [e]
 rw [Bool.eq_iff_iff,List.any_eq_true,List.any_eq_true]
 constructor
 ·rintro ⟨a,ha,h⟩
  obtain ⟨m,hm,e1,e2⟩:=hx.mem ha
  exact ⟨m,hm,by rw [← key a ha m hm e2]; exact h⟩
 ·rintro ⟨m,hm,h⟩
  obtain ⟨a,ha,e1,e2⟩:=hx.mem' hm
  exact ⟨a,ha,by rw [key a ha m hm e2]; exact h⟩
open Go Go.Ann Go.RowKit
def goodA(N:List Nd)(a:Int × Nat):Bool:=match N[a.2]? with | some n=>n.gd | none=>false
def pickF(N:List Nd)(b a:Int × Nat):Int × Nat:=if goodA N a=true∧(b.1<0∨a.1<b.1) then a else b
def pickM(N:List Nd)(l:List (Int × Nat)):Int × Nat:=l.foldl (pickF N) (-1,0)
theorem pickM_succ(N:List Nd){l:List (Int × Nat)}{k:Nat}(hk:k<l.length):pickM N (l.take (k+1))=pickF N (pickM N (l.take k)) l[k]:=by
 unfold pickM
 rw [List.take_succ_eq_append_getElem hk,List.foldl_append]
 rfl
theorem pickM_is(N:List Nd){l:List (Int × Nat)}(h0:∀ a∈l,0≤a.1):(pickM N l=(-1,0)∧∀ a∈l,goodA N a=false)∨(pickM N l∈l∧goodA N (pickM N l)=true∧∀ a∈l,goodA N a=true→(pickM N l).1≤a.1):=by
 have:∀ (l:List (Int × Nat)) (k:Nat),k≤l.length→(∀ a∈l,0≤a.1)→(pickM N (l.take k)=(-1,0)∧∀ a∈l.take k,goodA N a=false)∨(pickM N (l.take k)∈l.take k∧goodA N (pickM N (l.take k))=true∧∀ a∈l.take k,goodA N a=true→(pickM N (l.take k)).1≤a.1):=by
  intro l k
  induction k with
  | zero=>exact fun _ _=>.inl ⟨rfl,fun a ha=>by simp at ha⟩
  | succ k ih =>
   intro hk h0
   have hlt:k<l.length:=by omega
   have ih:=ih (by omega) h0
   have e:=pickM_succ N hlt
   have ht:∀ a,a∈l.take (k+1)↔a∈l.take k∨a=l[k]:=fun a=>by rw [List.take_succ_eq_append_getElem hlt,List.mem_append,List.mem_singleton]
   have h0k:=h0 _ (List.getElem_mem hlt)
   rw [e]
   unfold pickF
   rcases ih with ⟨i1,i2⟩ | ⟨i1,i2,i3⟩
   ·by_cases hg:goodA N l[k]=true
    ·rw [if_pos ⟨hg,.inl (by rw [i1]; decide)⟩]
     refine .inr ⟨(ht _).2 (.inr rfl),hg,fun a ha hga=>?_⟩
     rcases (ht a).1 ha with h | rfl
     ·rw [i2 a h] at hga; cases hga
     ·exact Int.le_refl _
    ·rw [if_neg fun h=>hg h.1]
     refine .inl ⟨i1,fun a ha=>?_⟩
     rcases (ht a).1 ha with h | rfl
     ·exact i2 a h
     ·simpa using hg
   ·have hb0:0≤(pickM N (l.take k)).1:=h0 _ (List.mem_of_mem_take i1)
    by_cases hg:goodA N l[k]=true∧l[k].1<(pickM N (l.take k)).1
    ·rw [if_pos ⟨hg.1,.inr hg.2⟩]
     refine .inr ⟨(ht _).2 (.inr rfl),hg.1,fun a ha hga=>?_⟩
     rcases (ht a).1 ha with h | rfl
     ·have:=i3 a h hga; omega
     ·exact Int.le_refl _
    ·rw [if_neg fun h=>hg ⟨h.1,h.2.elim (fun h=>absurd h (Int.not_lt.2 hb0)) id⟩]
     refine .inr ⟨(ht _).2 (.inl i1),i2,fun a ha hga=>?_⟩
     rcases (ht a).1 ha with h | rfl
     ·exact i3 a h hga
     ·exact Int.not_lt.1 fun h=>hg ⟨hga,h⟩
 have:=this l l.length (Nat.le_refl _) h0
 rw [List.take_length] at this
 exact this
theorem mvs_mem{P:List (List OpT)}{obs:List Int}{s:Sp}{m:Int × Sp}(h:m∈mvsP P obs s):∃ k,mvP P obs s k=some m:=by
 unfold mvsP at h
 obtain ⟨k,_,e⟩:=List.mem_filterMap.1 h
 exact ⟨k,e⟩
theorem least_step{P:List (List OpT)}{obs:List Int}{N:List Nd}{n:Nd}(hg:∀ n∈N,n.gd=(bestS P obs n.sp).isSome)(hx:NxR (N.map Nd.sp) n.nx (mvsP P obs n.sp))(hid:∀ k,∀ o∈P.getD k [],0≤o.ID)
  (hone:∀ d k k' o o',opAt P d k=some o→opAt P d k'=some o'→o.ID=o'.ID→k=k') {y:List Int} (he:¬ endsP P n.sp.done=true) (hb:bestS P obs n.sp=some y) :
  ∃ n' z,N[(pickM N n.nx).2]?=some n'∧y=(pickM N n.nx).1::z∧bestS P obs n'.sp=some z∧pickM N n.nx∈n.nx:=by
 obtain ⟨m,hm,z,rfl,hz,hmin⟩:=best_first he hb
 have h0:∀ a∈n.nx,0≤a.1:=fun a ha=>by
  obtain ⟨m',hm',e,_⟩:=hx.mem ha
  obtain ⟨k,hk⟩:=mvs_mem hm'
  obtain ⟨o,ho,e2⟩:=mvP_op hk
  rw [← e,e2]
  exact hid k o (mem_opAt ho).2
 have hgd:∀ a∈n.nx,∀ s,(N.map Nd.sp)[a.2]?=some s→∃ n',N[a.2]?=some n'∧n'.sp=s∧goodA N a=(bestS P obs s).isSome:=fun a ha s hs=>by
  rw [List.getElem?_map] at hs
  unfold goodA
  cases hN:N[a.2]? with
  | none=>rw [hN] at hs; cases hs
  | some n' =>
   rw [hN] at hs
   have hs:n'.sp=s:=Option.some.inj hs
   exact ⟨n',rfl,hs,by simp only; rw [hg n' (List.mem_of_getElem? hN),hs]⟩
 obtain ⟨a,ha,ea,ea2⟩:=hx.mem' hm
 obtain ⟨na,_,_,ga⟩:=hgd a ha _ ea2
 rw [hz] at ga
 rcases pickM_is N h0 with ⟨_,hno⟩ | ⟨p1,p2,p3⟩
 ·rw [hno a ha] at ga; cases ga
 ·have h1:=p3 a ha ga
  obtain ⟨mb,hmb,eb,eb2⟩:=hx.mem p1
  obtain ⟨nb,hnb,hnb2,gb⟩:=hgd _ p1 _ eb2
  rw [p2] at gb
  have h2:=hmin mb hmb gb.symm
  obtain ⟨k,hk⟩:=mvs_mem hm
  obtain ⟨k',hk'⟩:=mvs_mem hmb
  obtain ⟨o,ho,e1⟩:=mvP_op hk
  obtain ⟨o',ho',e2⟩:=mvP_op hk'
  have:k=k':=hone _ _ _ _ _ ho ho' (by rw [← e1,← e2]; omega)
  subst this
  have:m=mb:=Option.some.inj (hk.symm.trans hk')
  subst this
  exact ⟨nb,z,hnb,by rw [← eb],by rw [hnb2]; exact hz,p1⟩
theorem least_ok{W0 w:World}{F:Nat→Prop}{L:List Res}{I:List Inv}{P:List (List OpT)}{obs:List Int}{x pl m:Nat}{mst:Int}{pv tv:Value}{N:List Nd}{n0:Nd}{ids:List Int}
  (h:St W0 w F (SX P x pl m mst pv tv N++L) I) (hg:∀ n∈N,n.gd=(bestS P obs n.sp).isSome) (hx:∀ n∈N,NxR (N.map Nd.sp) n.nx (mvsP P obs n.sp)) (hid:∀ k,∀ o∈P.getD k [],0≤o.ID)
  (hone:∀ d k k' o o',opAt P d k=some o→opAt P d k'=some o'→o.ID=o'.ID→k=k') (h0:N[0]?=some n0) (hb:bestS P obs n0.sp=some ids) (hNl:N.length≤40000) (hil:ids.length≤1000) (hnl:∀ n∈N,n.nx.length≤1000) :
  Ret Tryz.prog 32 [.pointer (some ⟨x,0,none⟩)] w fun u w'=>St W0 w' F (.row u 3 1 ids.length (ids.flatMap intE)::(SX P x pl m mst pv tv N++L)) I:=by
 obtain ⟨ta,tc,rfl,_⟩:=own_slice (h.row 1 rfl)
 obtain ⟨hl0,e0⟩:=List.getElem?_eq_some_iff.1 h0
 obtain ⟨tg,rfl⟩:=own_ptr (h.row 1 rfl) (by omega)
 refine ent32 _ _ _ ?_
 have r:=h.rules 0 rfl
 have ec:=(own_cell (h.row 1 rfl)).1 0 (ptV n0.b) (by rw [List.getElem?_map,h0]; rfl)
 unfold ptV at ec
 simp (disch:=first|omega|exact zF rfl|exact zG rfl|exact fun h=>h|(simp only[zA,zB,zC,zD,bytesW];omega)) only[go_sem,c32S0,c32L0,c32S3,c32S4,r,ec]
 refine ⟨by omega,?_⟩
 refine W_loopU (fun z:Nd × List Int × Value=>[(3,z.2.2),(4,.pointer (some ⟨z.1.b,0,none⟩))]) (fun z w'=>St W0 w' F (.row z.2.2 3 1 z.2.1.length (z.2.1.flatMap intE)::(SX P x pl m mst pv (.slice (some ⟨tg,0,none⟩) N.length tc) N++L)) I∧(∃ i,N[i]?=some z.1)∧∃ y,bestS P obs z.1.sp=some y∧z.2.1++y=ids) (fun z=>ids.length - z.2.1.length) (n0,[],.slice none 0 0) rfl ⟨h.nilRow 3 1,⟨0,h0⟩,ids,hb,rfl⟩ ?_
 rintro ⟨n,acc,v⟩ w2 ⟨s2,⟨i,hi⟩,y,hy,hacc⟩
 simp only at s2 hi hy hacc
 obtain ⟨hil,hNi⟩:=List.getElem?_eq_some_iff.1 hi
 have rn:=(sx_blk (s2.sub (List.sublist_cons_self _ _)) hil).rules
 rw [hNi] at rn
 by_cases he:endsP P n.sp.done=true
 ·simp (disch:=first|omega|exact zF rfl|exact zG rfl|exact fun h=>h|(simp only[zA,zB,zC,zD,bytesW];omega)) only[go_sem,c32S0,c32L0,c32S3,c32S4,c32L1,c32S6,c32L1,rn,he]
  rw [bestS_ends he] at hy
  cases hy
  rw [List.append_nil] at hacc
  subst hacc
  exact s2
 ·simp (disch:=first|omega|exact zF rfl|exact zG rfl|exact fun h=>h|(simp only[zA,zB,zC,zD,bytesW];omega)) only[go_sem,c32S0,c32S3,c32L1,c32S6,c32L1,rn,he]
  refine bdW_built (cells:=#[.int .i64 (-1),.int .i64 0]) (by kernel_rfl) ?_
  simp (disch:=first|omega|exact zF rfl|exact zG rfl|exact fun h=>h|(simp only[zA,zB,zC,zD,bytesW];omega)) only[go_sem,c32S0,c32S3,c32L1,c32S6,rn]
  have s3:=s2.box #[.int .i64 (-1),.int .i64 0] 113
  generalize w2.alloc (.cells #[.int .i64 (-1),.int .i64 0] 113)=w3 at s3 ⊢
  generalize w2.heap.size=bb at s3 ⊢
  have dr2:∀ {r1 r2:Res} {X:List Res},X.Sublist (r1::r2::X):=(List.sublist_cons_self _ _).trans (List.sublist_cons_self _ _)
  obtain ⟨na,nc,hnv,_⟩:=own_slice (sx_row (s3.sub dr2) hil)
  have rn3:=(sx_blk (s3.sub dr2) hil).rules
  have hxn:=hx _ (List.getElem_mem hil)
  have hnl1:=hnl _ (List.getElem_mem hil)
  rw [hNi] at hxn hnl1
  rw [hNi] at hnv
  rw [hNi,hnv] at rn3
  simp (disch:=first|omega|exact zF rfl|exact zG rfl|exact fun h=>h|(simp only[zA,zB,zC,zD,bytesW];omega)) only[go_sem,c32S0,c32S3,c32L1,c32S6,rn3]
  refine W_loopU (fun k:Nat=>[(25,.int .i64 k)]) (fun k w'=>St W0 w' F (.blk bb #[.int .i64 (pickM N (n.nx.take k)).1,.int .i64 ((pickM N (n.nx.take k)).2:Nat)] 113::.row v 3 1 acc.length (acc.flatMap intE)::(SX P x pl m mst pv (.slice (some ⟨tg,0,none⟩) N.length tc) N++L)) I∧k≤n.nx.length) (fun k=>n.nx.length - k) 0 rfl ⟨s3,Nat.zero_le _⟩ ?_
  rintro k w4 ⟨s4,hk⟩
  by_cases hlt:k<n.nx.length
  ·have hlt':(k:Int)<n.nx.length:=by omega
   have hrow:=sx_row (s4.sub dr2) hil
   rw [hNi,hnv] at hrow
   have hrd:RdS w4 2 mvE (.slice na n.nx.length nc) n.nx:=RdS.of_own' hrow n.nx rfl rfl
   obtain ⟨q,rfl⟩:=hrd.ptr (by omega)
   have ec:=hrd.at mvE_len hlt
   have esucc:=pickM_succ N hlt
   have ha:=List.getElem_mem hlt
   generalize n.nx[k]=a at ec esucc ha
   generalize pickM N (n.nx.take k)=b at s4 esucc
   obtain ⟨mm,_,_,ea⟩:=hxn.mem ha
   have ha2:a.2<N.length:=by
    have:=(List.getElem?_eq_some_iff.1 ea).1
    simpa using this
   have eg:goodA N a=N[a.2].gd:=by unfold goodA; rw [List.getElem?_eq_getElem ha2]
   obtain ⟨ai,ak⟩:=a
   obtain ⟨bi,bk⟩:=b
   simp only at ha2 eg
   have ha2':(ak:Int)<N.length:=by omega
   have ec:cellsO w4 (q.add (k * 2)) 0 2=some [.int .i64 ai,.int .i64 (ak:Nat)]:=ec
   have s4:St W0 w4 F (.blk bb #[.int .i64 bi,.int .i64 (bk:Nat)] 113::.row v 3 1 acc.length (acc.flatMap intE)::(SX P x pl m mst pv (.slice (some ⟨tg,0,none⟩) N.length tc) N++L)) I:=s4
   simp (disch:=first|omega|exact zF rfl|exact zG rfl|exact fun h=>h|(simp only[zA,zB,zC,zD,bytesW];omega)) only[go_sem,c32L0,c32S3,c32S4,c32L1,c32S6,c32L0,hlt',ec]
   have s5:=(s4.box #[.int .i64 ai,.int .i64 (ak:Nat)] 113).drew
   have r5a:=s5.rules 0 rfl
   have r5b:=s5.rules 1 rfl
   have r5x:=s5.rules 3 rfl
   have c5:=(own_cell (s5.row 4 rfl)).1 ak (ptV N[ak].b) (by rw [List.getElem?_map,List.getElem?_eq_getElem ha2]; rfl)
   have r5n:=(sx_blk (s5.sub ((List.sublist_cons_self _ _).trans dr2)) ha2).rules
   unfold ptV at c5
   refine ⟨by omega,?_⟩
   refine c32draw0 ?_
   generalize hw5:(w4.alloc (.cells #[.int .i64 ai,.int .i64 (ak:Nat)] 113)).drew=w5 at s5 r5a r5b r5x c5 r5n ⊢
   generalize w4.heap.size=bm at s5 r5a ⊢
   have s6:=s5.sub (List.sublist_cons_self _ _)
   have take_it:pickF N (bi,bk) (ai,ak)=(ai,ak)→St W0 (w5.fill bb #[.int .i64 ai,.int .i64 (ak:Nat)]) F (.blk bb #[.int .i64 (pickM N (n.nx.take (k+1))).1,.int .i64 ((pickM N (n.nx.take (k+1))).2:Nat)] 113::.row v 3 1 acc.length (acc.flatMap intE)::(SX P x pl m mst pv (.slice (some ⟨tg,0,none⟩) N.length tc) N++L)) I:=fun e=>by
    rw [esucc,e]
    exact s6.fill 0 rfl rfl
   have keep_it:pickF N (bi,bk) (ai,ak)=(bi,bk)→St W0 w5 F (.blk bb #[.int .i64 (pickM N (n.nx.take (k+1))).1,.int .i64 ((pickM N (n.nx.take (k+1))).2:Nat)] 113::.row v 3 1 acc.length (acc.flatMap intE)::(SX P x pl m mst pv (.slice (some ⟨tg,0,none⟩) N.length tc) N++L)) I:=fun e=>by
    rw [esucc,e]
    exact s6
   by_cases hgd:N[ak].gd=true
   ·by_cases hb0:bi<0
    ·simp (disch:=first|omega|exact zF rfl|exact zG rfl|exact fun h=>h|(simp only[zA,zB,zC,zD,bytesW];omega)) only[go_sem,c32S0,c32L0,c32S3,c32S4,c32L1,c32S6,c32D0,r5a,r5b,r5x,c5,r5n,ha2',hgd,hb0]
     exact ⟨by omega,⟨by omega,by omega⟩,k+1,rfl,⟨take_it (by unfold pickF; rw [if_pos ⟨by rw [eg,hgd],.inl hb0⟩]),by omega⟩,by omega⟩
    ·by_cases hab:ai<bi
     ·simp (disch:=first|omega|exact zF rfl|exact zG rfl|exact fun h=>h|(simp only[zA,zB,zC,zD,bytesW];omega)) only[go_sem,c32S0,c32L0,c32S3,c32S4,c32L1,c32S6,c32D0,r5a,r5b,r5x,c5,r5n,ha2',hgd,hb0,hab]
      exact ⟨by omega,⟨by omega,by omega⟩,k+1,rfl,⟨take_it (by unfold pickF; rw [if_pos ⟨by rw [eg,hgd],.inr hab⟩]),by omega⟩,by omega⟩
     ·simp (disch:=first|omega|exact zF rfl|exact zG rfl|exact fun h=>h|(simp only[zA,zB,zC,zD,bytesW];omega)) only[go_sem,c32S0,c32L0,c32S3,c32S4,c32L1,c32S6,c32D0,r5a,r5b,r5x,c5,r5n,ha2',hgd,hb0,hab]
      exact ⟨by omega,⟨by omega,by omega⟩,k+1,rfl,⟨keep_it (by unfold pickF; rw [if_neg fun h=>h.2.elim hb0 hab]),by omega⟩,by omega⟩
   ·simp (disch:=first|omega|exact zF rfl|exact zG rfl|exact fun h=>h|(simp only[zA,zB,zC,zD,bytesW];omega)) only[go_sem,c32S0,c32L0,c32S3,c32S4,c32L1,c32S6,c32D0,r5a,r5b,r5x,c5,r5n,ha2',hgd]
    exact ⟨by omega,⟨by omega,by omega⟩,k+1,rfl,⟨keep_it (by unfold pickF; rw [if_neg fun h=>hgd (by rw [← eg]; exact h.1)]),by omega⟩,by omega⟩
  ·have hlt':¬ (k:Int)<n.nx.length:=by omega
   obtain rfl:k=n.nx.length:=by omega
   rw [List.take_length] at s4
   obtain ⟨n',z,hn',rfl,hz,hin⟩:=least_step hg hxn hid hone he hy
   generalize pickM N n.nx=b at s4 hn' hin hacc
   obtain ⟨bi,bk⟩:=b
   simp only at s4 hn' hacc
   have hal:acc.length<1000:=by
    have:=congrArg List.length hacc
    rw [List.length_append,List.length_cons] at this
    omega
   have r4:=s4.rules 0 rfl
   obtain ⟨va,vc,rfl,_⟩:=own_slice (s4.row 1 rfl)
   simp (disch:=first|omega|exact zF rfl|exact zG rfl|exact fun h=>h|(simp only[zA,zB,zC,zD,bytesW];omega)) only[go_sem,c32S0,c32L0,c32S4,c32L1,c32S6,c32L0,hlt',r4]
   refine bsW_ones ty25mkI rfl rfl (by decide) (by decide) (intE_one _) ?_
   simp (disch:=first|omega|exact zF rfl|exact zG rfl|exact fun h=>h|(simp only[zA,zB,zC,zD,bytesW];omega)) only[go_sem,c32S0,c32L0,c32S4,c32L1,c32S6,r4]
   have hx1:Rd (w4.alloc (.cells #[.int .i64 bi] 3)) 1 (.slice (some ⟨w4.heap.size,0,none⟩) 1 1) 1 [.int .i64 bi]:=rd_new (n:=1) (cs:=#[.int .i64 bi]) rfl
   refine (s4.alloc' (.cells #[.int .i64 bi] 3)).append 1 rfl ty25mkI rfl (by decide) hx1 (intE_one _) (by omega) (by omega) ?_
   intro v6 w6 s6 _
   simp only [List.set_cons_zero,List.set_cons_succ] at s6
   have r6:=s6.rules 0 rfl
   have r6x:=s6.rules 2 rfl
   obtain ⟨hk2,ek2⟩:=List.getElem?_eq_some_iff.1 hn'
   simp (disch:=first|omega|exact zF rfl|exact zG rfl|exact fun h=>h|(simp only[zA,zB,zC,zD,bytesW];omega)) only[go_sem,c32S0,c32L0,c32S4,c32L1,c32S6]
   refine c32draw1 ?_
   have s7:=s6.drew
   have r7:=s7.rules 0 rfl
   have r7x:=s7.rules 2 rfl
   have c7:=(own_cell (s7.row 3 rfl)).1 bk (ptV n'.b) (by rw [List.getElem?_map,hn']; rfl)
   unfold ptV at c7
   have hk2':(bk:Int)<N.length:=by omega
   simp (disch:=first|omega|exact zF rfl|exact zG rfl|exact fun h=>h|(simp only[zA,zB,zC,zD,bytesW];omega)) only[go_sem,c32S0,c32L0,c32S3,c32S4,c32L1,c32S6,c32D1,r7,r7x,c7,hk2']
   have eapp:(acc++[bi]).flatMap intE=acc.flatMap intE++[.int .i64 bi]:=by rw [List.flatMap_append]; rfl
   refine ⟨by omega,(n',acc++[bi],v6),rfl,⟨?_,⟨bk,hn'⟩,z,hz,by rw [← hacc]; simp⟩,?_⟩
   ·simp only
    rw [eapp,List.length_append,List.length_singleton]
    exact s7.sub (List.sublist_cons_self _ _)
   ·have:=congrArg List.length hacc
    simp only [List.length_append,List.length_cons,List.length_nil] at this ⊢
    omega
open Go Go.Ann Go.RowKit
theorem sortStable_ok{W0 w:World}{F:Nat→Prop}{L:List Res}{I:List Inv}{g n c:Nat}{X:List Value}{fv:Value}{key:Value→Int}(h:St W0 w F (RowP g n c X::L) I)(hc:CmpOk W0 F L I g n c fv key X)(hX:PtrV X)(hy:noYV (some fv))(hn:X.length=n)(hn2:n≤100000) :
  Ret Tryz.prog 63 [.slice (some ⟨g,0,none⟩) n c,fv] w fun _ w'=>∃ Y,St W0 w' F (RowP g n c Y::L) I∧Y.Perm X∧Ordd key Y:=by
 refine ent63 _ _ _ _ ?_
 simp (disch:=first|omega|exact zF rfl|exact zG rfl|exact fun h=>h|(simp only[zA,zB,zC,zD,bytesW];omega)) only[go_sem]
 refine Ret.mono (stable_ok h hc hX hy hn hn2) ?_
 intro _ w' hh
 simp (disch:=first|omega|exact zF rfl|exact zG rfl|exact fun h=>h|(simp only[zA,zB,zC,zD,bytesW];omega)) only[go_sem]
 exact hh
theorem sx_mark{W0 w:World}{F:Nat→Prop}{A L:List Res}{I:List Inv}{P:List (List OpT)}{x pl m:Nat}{mst:Int}{pv tv:Value}{N:List Nd}(h:St W0 w F (A++(SX P x pl m mst pv tv N++L)) I){i:Nat}(hi:i<N.length)(g:Bool) :
  St W0 (w.setCell ⟨N[i].b,4,none⟩ (.bool g)) F (A++(SX P x pl m mst pv tv (N.set i { N[i] with gd:=g })++L)) I:=by
 have h1:=(St.front h).perm (sx_out hi)
 have h2:=h1.set 0 rfl 4 (.bool g)
 exact St.front (h2.perm (sx_in (n:={ N[i] with gd:=g }) hi rfl rfl).symm)
theorem un_ptV{Y:List Value}(h:PtrV Y):Y=(Y.map unptV).map ptV:=by
 rw [List.map_map]
 conv=>lhs; rw [← List.map_id Y]
 refine List.map_congr_left fun u hu=>?_
 obtain ⟨b,rfl⟩:=h u hu
 rfl
theorem cmpI_lt(a b:Nat):Cut.cmpI (a:Int) (b:Int)<0↔a<b:=by
 unfold Cut.cmpI
 split
 ·omega
 ·split <;> omega
theorem mark_cmp{W0:World}{F:Nat→Prop}{L:List Res}{I:List Inv}{P:List (List OpT)}{accO:List Seg}{x pl m M g n c b1 b2:Nat}{mst:Int}{pv tv:Value}{N:List Nd}{C:List DS}
  (cx:Ctx P accO M) (hnd:∀ n∈N,NdOk P accO M C n) (hb:(N.map Nd.b).Nodup) :
  CmpOk W0 F (.blk b2 #[.func (.func 61) #[] #[]] 107::.blk b1 #[.pointer (some ⟨x,0,none⟩)] 54::(SX P x pl m mst pv tv N++L)) (Inv.ds C::I) g n c (.func (.func 64) #[] #[.pointer (some ⟨b2,0,none⟩)]) (keyN N) (N.map fun n=>ptV n.b):=by
 intro w' X' s u hu v hv
 obtain ⟨nu,hnu,rfl⟩:=List.mem_map.1 hu
 obtain ⟨nv,hnv,rfl⟩:=List.mem_map.1 hv
 obtain ⟨i,hi,rfl⟩:=List.mem_iff_getElem.1 hnu
 obtain ⟨j,hj,rfl⟩:=List.mem_iff_getElem.1 hnv
 have s1:St W0 w' F (SX P x pl m mst pv tv N++L) (Inv.ds C::I):=s.sub ((List.sublist_cons_self _ _).trans ((List.sublist_cons_self _ _).trans (List.sublist_cons_self _ _)))
 have ni:=hnd _ (List.getElem_mem hi)
 have nj:=hnd _ (List.getElem_mem hj)
 have di:=(s1.get 0 rfl _ ni.ds).1
 have dj:=(s1.get 0 rfl _ nj.ds).1
 have lim:∀ n:Nd,NdOk P accO M C n→n.sp.done.length≤1000∧∀ q∈n.sp.done,q≤1000:=fun n hn=>by
  have h1:=hn.ok.dl
  have h2:=cx.pl
  refine ⟨by omega,fun q hq=>?_⟩
  obtain ⟨k,hk,rfl⟩:=List.mem_iff_getElem.1 hq
  have h3:=hn.ok.le k
  have h4:=cx.pp k
  rw [List.getD_eq_getElem?_getD,List.getElem?_eq_getElem hk] at h3
  simp only [Option.getD_some] at h3
  omega
 refine callW_go ⟨by kernel_rfl,Ret.mono (mark2_ok (s.blk 1 rfl) (sx_blk s1 hi) (sx_blk s1 hj) di dj (lim _ ni).1 (lim _ ni).2 (lim _ nj).1 (lim _ nj).2) ?_⟩
 rintro _ w2 ⟨rfl,h2⟩
 refine ⟨_,rfl,?_,h2⟩
 rw [keyN_at hb hi,keyN_at hb hj,cmpI_lt]
 show N[j].sp.done.sum<N[i].sp.done.sum↔_
 omega
theorem mark_ok{W0 w:World}{F:Nat→Prop}{L:List Res}{I:List Inv}{P:List (List OpT)}{accO:List Seg}{vs:List Value}{x pl m M c0:Nat}{mst:Int}{pv tv:Value}{N:List Nd}{C:List DS}
  (cx:Ctx P accO M) (h:SrS W0 w F L I P accO vs x pl m M c0 mst pv tv N C) (hnx:∀ n∈N,n.gd=false∧NxR (N.map Nd.sp) n.nx (mvsP P (objsW accO) n.sp)) (hN:0<N.length) (hNl:N.length≤40000) :
  Ret Tryz.prog 31 [.pointer (some ⟨x,0,none⟩)] w fun _ w'=>SrS W0 w' F L I P accO vs x pl m M c0 mst pv tv (markN P (objsW accO) (N.map Nd.b) N) C:=by
 obtain ⟨ta,tc,rfl,_⟩:=own_slice (h.st.row 1 rfl)
 obtain ⟨tg,rfl⟩:=own_ptr (h.st.row 1 rfl) (by omega)
 have hnd:=h.nd
 have hb:=sx_nodup h.st
 have hpl:=cx.pl
 refine ent31 _ _ _ ?_
 simp (disch:=first|omega|exact zF rfl|exact zG rfl|exact fun h=>h|(simp only[zA,zB,zC,zD,bytesW];omega)) only[go_sem,c31S0,c31L0,c31S2]
 have s1:=h.st.box #[.pointer (some ⟨x,0,none⟩)] 54
 have s2:=s1.box #[.nilFunc] 107
 rw [World.size_alloc] at s2
 have s3:=s2.set 0 rfl 0 (.func (.func 61) #[] #[])
 simp only [List.set_cons_zero,List.setIfInBounds_toArray] at s3
 generalize ((w.alloc (.cells #[.pointer (some ⟨x,0,none⟩)] 54)).alloc (.cells #[.nilFunc] 107)).setCell ⟨w.heap.size+1,0,none⟩ (.func (.func 61) #[] #[])=w3 at s3 ⊢
 generalize w.heap.size+1=b2 at s3 ⊢
 generalize w.heap.size=b1 at s3 ⊢
 have r3:=s3.rules 2 rfl
 simp (disch:=first|omega|exact zF rfl|exact zG rfl|exact fun h=>h|(simp only[zA,zB,zC,zD,bytesW];omega)) only[go_sem,c31S0,c31L0,c31S2,r3]
 have hrd:Rd w3 1 (.slice (some ⟨tg,0,none⟩) N.length tc) (N.map fun n=>ptV n.b).length (N.map fun n=>ptV n.b):=by rw [List.length_map]; exact Rd.of_own (s3.row 3 rfl)
 refine Ret.mono (pclone_ok _ (N.map fun n=>ptV n.b) w3 hrd (fun u hu=>by obtain ⟨n,_,rfl⟩:=List.mem_map.1 hu; rfl) (by rw [List.length_map]; omega)) ?_
 rintro cv w4 ⟨o4,b4⟩
 rw [List.length_map] at o4
 have s4:=s3.add b4 (.row cv 65 1 N.length (N.map fun n=>ptV n.b)) (own_mono o4 s3.size) fun k hk=>(o4.lt k hk).1
 obtain ⟨ca,cc,rfl,_⟩:=own_slice o4
 obtain ⟨g,rfl⟩:=own_ptr o4 (by omega)
 simp (disch:=first|omega|exact zF rfl|exact zG rfl|exact fun h=>h|(simp only[zA,zB,zC,zD,bytesW];omega)) only[go_sem,c31S0,c31L0,c31S3]
 have hX:PtrV (N.map fun n=>ptV n.b):=fun u hu=>by obtain ⟨n,_,rfl⟩:=List.mem_map.1 hu; exact ⟨_,rfl⟩
 refine Ret.mono (sortStable_ok (key:=keyN N) s4 (mark_cmp cx hnd hb) hX (by trivial) (by rw [List.length_map]) (by omega)) ?_
 rintro _ w5 ⟨Y,s5,pY,oY⟩
 have hY:=hX.perm pY
 have eY:=un_ptV hY
 have pB:(Y.map unptV).Perm (N.map Nd.b):=by
  have:=pY.map unptV
  rw [List.map_map] at this
  exact this
 generalize Y.map unptV=B at eY pB
 subst eY
 have hBl:B.length=N.length:=by rw [pB.length_eq,List.length_map]
 simp (disch:=first|omega|exact zF rfl|exact zG rfl|exact fun h=>h|(simp only[zA,zB,zC,zD,bytesW];omega)) only[go_sem,c31S0,c31S2,c31S3]
 have hfin:∀ w',St W0 w' F ([RowP g N.length cc (B.map ptV),.blk b2 #[.func (.func 61) #[] #[]] 107,.blk b1 #[.pointer (some ⟨x,0,none⟩)] 54]++(SX P x pl m mst pv (.slice (some ⟨tg,0,none⟩) N.length tc) (markN P (objsW accO) B N)++L)) (Inv.ds C::Inv.pg pv P vs::Inv.ob pl (mapG Cut.intK natK (plM (objsW accO) 0) c0)::I)→SrS W0 w' F L I P accO vs x pl m M c0 mst pv (.slice (some ⟨tg,0,none⟩) N.length tc) (markN P (objsW accO) (N.map Nd.b) N) C:=fun w' s=>by
  have e:markN P (objsW accO) B N=markN P (objsW accO) (N.map Nd.b) N:=by
   unfold markN
   refine List.map_congr_left fun n hn=>?_
   have:n.b∈N.map Nd.b:=List.mem_map_of_mem hn
   rw [if_pos this,if_pos (pB.mem_iff.2 this)]
  rw [e] at s
  refine ⟨s.sub (List.sublist_append_right _ _),fun n hn=>?_⟩
  obtain ⟨j,hj,rfl⟩:=List.mem_iff_getElem.1 hn
  have hj2:j<N.length:=by rw [markN_len] at hj; exact hj
  obtain ⟨g0,hg0⟩:=markN_is (P:=P) (obs:=objsW accO) (D:=N.map Nd.b) hj2
  rw [List.getElem?_eq_getElem hj] at hg0
  rw [Option.some.inj hg0]
  have:=hnd _ (List.getElem_mem hj2)
  exact ⟨this.st,this.ds,this.ok⟩
 refine W_loopU (fun k:Nat=>[(16,.int .i64 k)]) (fun k w'=>St W0 w' F ([RowP g N.length cc (B.map ptV),.blk b2 #[.func (.func 61) #[] #[]] 107,.blk b1 #[.pointer (some ⟨x,0,none⟩)] 54]++(SX P x pl m mst pv (.slice (some ⟨tg,0,none⟩) N.length tc) (markN P (objsW accO) (B.take k) N)++L)) (Inv.ds C::Inv.pg pv P vs::Inv.ob pl (mapG Cut.intK natK (plM (objsW accO) 0) c0)::I)∧k≤N.length) (fun k=>N.length - k) 0 rfl ⟨by rw [List.take_zero,markN_nil]; exact s5,Nat.zero_le _⟩ ?_
 rintro k w6 ⟨s6,hk⟩
 by_cases hlt:k<N.length
 ·have hlt':(k:Int)<N.length:=by omega
  have hkB:k<B.length:=by omega
  obtain ⟨i,hi,ei⟩:∃ i,∃ hi:i<N.length,N[i].b=B[k]:=by
   have:=pB.mem_iff.1 (List.getElem_mem hkB)
   obtain ⟨n,hn,e⟩:=List.mem_map.1 this
   obtain ⟨i,hi,rfl⟩:=List.mem_iff_getElem.1 hn
   exact ⟨i,hi,e⟩
  have ec:=(own_cell (s6.row 0 rfl)).1 k (ptV N[i].b) (by rw [List.getElem?_map,List.getElem?_eq_getElem hkB,ei]; rfl)
  unfold ptV at ec
  have hmi:i<(markN P (objsW accO) (B.take k) N).length:=by rw [markN_len]; exact hi
  obtain ⟨g0,hg0⟩:=markN_is (P:=P) (obs:=objsW accO) (D:=B.take k) hi
  rw [List.getElem?_eq_getElem hmi] at hg0
  have hg0:=Option.some.inj hg0
  have sM:St W0 w6 F (SX P x pl m mst pv (.slice (some ⟨tg,0,none⟩) N.length tc) (markN P (objsW accO) (B.take k) N)++L) (Inv.ds C::Inv.pg pv P vs::Inv.ob pl (mapG Cut.intK natK (plM (objsW accO) 0) c0)::I):=s6.sub (List.sublist_append_right _ _)
  have hB6:=sx_blk sM hmi
  have hR6:=sx_row sM hmi
  rw [hg0] at hB6 hR6
  have rB:=hB6.rules
  obtain ⟨_,hx⟩:=hnx _ (List.getElem_mem hi)
  have hdl:=(hnd _ (List.getElem_mem hi)).ok.dl
  have hall:∀ j,(hj:j<N.length)→N[j].sp.done.sum=N[i].sp.done.sum+1→N[j].b∈B.take k:=fun j hj hs=>by
   have hm:N[j].b∈B:=pB.mem_iff.2 (List.mem_map_of_mem (List.getElem_mem hj))
   obtain ⟨q,hq,eq⟩:=List.mem_iff_getElem.1 hm
   rcases Nat.lt_trichotomy q k with h1 | h1 | h1
   ·rw [← eq]
    exact List.mem_iff_getElem.2 ⟨q,by rw [List.length_take]; omega,by rw [List.getElem_take]⟩
   ·subst h1
    have:=nd_same hb hi hj (by rw [← eq,← ei])
    subst this
    omega
   ·have:=List.pairwise_iff_getElem.1 oY k q (by rw [List.length_map]; exact hkB) (by rw [List.length_map]; exact hq) h1
    rw [List.getElem_map,List.getElem_map,← ei,eq,keyN_at hb hi,keyN_at hb hj] at this
    omega
  have hgood:=mark_any hi hdl hx hb hall
  have eset:=markN_set (P:=P) (obs:=objsW accO) (D:=B.take k) hb hi
  have etk:B.take (k+1)=B.take k++[N[i].b]:=by rw [List.take_succ_eq_append_getElem hkB,ei]
  have eg:∀ v,(markN P (objsW accO) (B.take k) N).set i { (markN P (objsW accO) (B.take k) N)[i] with gd:=v }=(markN P (objsW accO) (B.take k) N).set i { N[i] with gd:=v }:=fun v=>by rw [hg0]
  have hnext:∀ w7,St W0 w7 F ([RowP g N.length cc (B.map ptV),.blk b2 #[.func (.func 61) #[] #[]] 107,.blk b1 #[.pointer (some ⟨x,0,none⟩)] 54]++(SX P x pl m mst pv (.slice (some ⟨tg,0,none⟩) N.length tc) (markN P (objsW accO) (B.take k) N)++L)) (Inv.ds C::Inv.pg pv P vs::Inv.ob pl (mapG Cut.intK natK (plM (objsW accO) 0) c0)::I)→St W0 (w7.setCell ⟨N[i].b,4,none⟩ (.bool (bestS P (objsW accO) N[i].sp).isSome)) F ([RowP g N.length cc (B.map ptV),.blk b2 #[.func (.func 61) #[] #[]] 107,.blk b1 #[.pointer (some ⟨x,0,none⟩)] 54]++(SX P x pl m mst pv (.slice (some ⟨tg,0,none⟩) N.length tc) (markN P (objsW accO) (B.take (k+1)) N)++L)) (Inv.ds C::Inv.pg pv P vs::Inv.ob pl (mapG Cut.intK natK (plM (objsW accO) 0) c0)::I):=fun w7 s7=>by
   have s8:=sx_mark s7 hmi (bestS P (objsW accO) N[i].sp).isSome
   rw [eg,eset,← etk] at s8
   have e9:(markN P (objsW accO) (B.take k) N)[i].b=N[i].b:=by rw [hg0]
   rw [e9] at s8
   exact s8
  have hR6:w6.ownsRow W0.heap.size 113 2 N[i].nv N[i].nx.length (N[i].nx.flatMap mvE):=hR6
  have hB6:Blk w6 N[i].b #[N[i].dv,N[i].sv,N[i].nv,.bool (endsP P N[i].sp.done),.bool g0] 64:=hB6
  have hBx:∀ w7,St W0 w7 F (SX P x pl m mst pv (.slice (some ⟨tg,0,none⟩) N.length tc) (markN P (objsW accO) (B.take k) N)++L) (Inv.ds C::Inv.pg pv P vs::Inv.ob pl (mapG Cut.intK natK (plM (objsW accO) 0) c0)::I)→Blk w7 N[i].b #[N[i].dv,N[i].sv,N[i].nv,.bool (endsP P N[i].sp.done),.bool g0] 64:=fun w7 s7=>by
   have:=sx_blk s7 hmi
   rw [hg0] at this
   exact this
  clear sM rB eg eset hg0
  generalize N[i]=n at *
  have rB:=hB6.rules
  by_cases he:endsP P n.sp.done=true
  ·rw [he,Bool.true_or] at hgood
   simp (disch:=first|omega|exact zF rfl|exact zG rfl|exact fun h=>h|(simp only[zA,zB,zC,zD,bytesW];omega)) only[go_sem,c31S0,c31L0,c31S2,c31S3,c31L0,hlt',ec,rB,he]
   have:=hnext w6 s6
   rw [← hgood] at this
   exact ⟨by omega,⟨by omega,by omega⟩,k+1,rfl,⟨this,by omega⟩,by omega⟩
  ·have he':endsP P n.sp.done=false:=by simpa using he
   rw [he',Bool.false_or] at hgood
   obtain ⟨na,nc,hnv,_⟩:=own_slice hR6
   have hnl:n.nx.length≤200:=by
    rw [hx.len]
    have:=mvs_one (P:=P) (obs:=objsW accO) (s:=n.sp) P.length
    have e:mvsP P (objsW accO) n.sp=(List.range P.length).filterMap (mvP P (objsW accO) n.sp):=rfl
    rw [e]
    omega
   rw [hnv] at rB hR6
   simp (disch:=first|omega|exact zF rfl|exact zG rfl|exact fun h=>h|(simp only[zA,zB,zC,zD,bytesW];omega)) only[go_sem,c31L0,c31S2,c31S3,c31L0,hlt',ec,rB,he']
   refine ⟨by omega,Ret.mono (containsM_ok _ (fun a=>match (markN P (objsW accO) (B.take k) N)[a.2]? with | some n=>n.gd | none=>false) _ n.nx w6 (RdS.of_own' hR6 n.nx rfl rfl) ?_ (by omega)) ?_⟩
   ·intro a ha w' hbw
    obtain ⟨mm,_,_,e2⟩:=hx.mem ha
    have ha2:a.2<(markN P (objsW accO) (B.take k) N).length:=by
     rw [markN_len]
     have:=(List.getElem?_eq_some_iff.1 e2).1
     simpa using this
    have s8:=s6.call hbw
    refine callW_go ⟨by kernel_rfl,Ret.mono (mark3_ok (a:=a) (s8.sub (List.sublist_append_right _ _)) (s8.blk 2 rfl) ha2 (by rw [markN_len]; omega)) ?_⟩
    rintro _ w8 ⟨rfl,h8⟩
    exact ⟨by simp only [List.getElem?_eq_getElem ha2],h8⟩
   rintro _ w7 ⟨rfl,b7⟩
   have s7:=s6.call b7
   have r7:=(hBx _ (s7.sub (List.sublist_append_right _ _))).rules
   simp (disch:=first|omega|exact zF rfl|exact zG rfl|exact fun h=>h|(simp only[zA,zB,zC,zD,bytesW];omega)) only[go_sem,c31S0,c31L0,c31S2,c31S3,r7]
   have:=hnext w7 s7
   rw [← hgood] at this
   exact ⟨⟨by omega,by omega⟩,k+1,rfl,⟨this,by omega⟩,by omega⟩
 ·have hlt':¬ (k:Int)<N.length:=by omega
  obtain rfl:k=N.length:=by omega
  simp (disch:=first|omega|exact zF rfl|exact zG rfl|exact fun h=>h|(simp only[zA,zB,zC,zD,bytesW];omega)) only[go_sem,c31S0,c31L0,c31S2,c31S3,c31L0,hlt']
  rw [List.take_of_length_le (by omega)] at s6
  exact hfin _ s6
end Go.Proofs.YtoadmihnihfjkaaGreat

namespace Go.Proofs.YtoadmihnihfjkaaGreat.Cut
open Go Go.Ann Go.RowKit Go.WideShapes Go.Shelf
section
variable {W0 w:World} {F:Nat→Prop} {L:List Res} {I:List Inv} {d:List (Int × Value × Nat)} {c bx mb:Nat}
theorem keys1J_ok(fv:Value)(J:List Res→List Int→World→Prop)(w:World)(hJ:∀ R pre w',J R pre w'→w'.cell? ⟨bx,0,none⟩=some (.map (some mb))∧w'.heap[mb]?=some (mapG intK idK d c)∧∃ X,St W0 w' F (X++R) I)
  (hJ2:∀ R R' pre w' w'',J R pre w'→(∀ X,St W0 w' F (X++R) I→St W0 w'' F (X++R') I)→J R' pre w'')
  (hf:∀ R pre x w',J R pre w'→(x ∉ pre∧x∈d.map Prod.fst∧pre.length<d.length)→callW Tryz.prog fv [.int .i64 x] w' fun v w''=>v=.bool true∧J R (pre++[x]) w'')
  (hk:(d.map Prod.fst).Nodup) (hb:(d.map fun x=>x.2.2).Nodup) (hc:∀ x∈d,x.2.2<c) (h0:J [] [] w) :
  Ret Tryz.prog 85 [fv,.pointer (some ⟨bx,0,none⟩)] w fun _ w'=>∃ xs,xs.Perm (d.map Prod.fst)∧J [] xs w':=by
 refine ent85 _ _ _ _ ?_
 obtain ⟨k1,k2,_⟩:=hJ _ _ _ h0
 simp (disch:=first|omega|exact zF rfl|exact zG rfl|exact fun h=>h|(simp only[zA,zB,zC,zD,bytesW];omega)) only[go_sem,k1]
 refine rgG Tryz.underlying56 k2 ?_
 have j1:J [.obj w.heap.size (.mapIter (some mb) c #[] c)] [] (w.alloc (.mapIter (some mb) c #[] c)):=hJ2 _ _ _ _ _ h0 fun X hX=>by
  have:=hX.lay (.mapIter (some mb) c #[] c)
  rw [List.append_nil] at this
  exact this.perm (List.perm_append_singleton _ _)
 generalize w.heap.size=q at j1 ⊢
 generalize w.alloc (.mapIter (some mb) c #[] c)=w1 at j1 ⊢
 simp (disch:=first|omega|exact zF rfl|exact zG rfl|exact fun h=>h|(simp only[zA,zB,zC,zD,bytesW];omega)) only[go_sem]
 refine W_loopU (fun D:List (Int × Value × Nat)=>[]) (fun D w'=>(∀ x∈D,x∈d)∧(D.map fun x=>x.2.2).Nodup∧J [.obj q (.mapIter (some mb) c (D.map fun x=>x.2.2).toArray c)] (D.map Prod.fst) w') (fun D=>d.length - D.length) [] rfl ⟨fun _ h=>(by cases h),List.Pairwise.nil,j1⟩ ?_
 clear j1 k1 k2 h0
 rintro D w2 ⟨hD1,hD2,j2⟩
 have hle:=nodup_le hD2 hD1
 obtain ⟨k1,k2,X,sX⟩:=hJ _ _ _ j2
 simp (disch:=first|omega|exact zF rfl|exact zG rfl|exact fun h=>h|(simp only[zA,zB,zC,zD,bytesW];omega)) only[go_sem,c85L0,c85L0]
 refine nxG (sX.obj X.length (last_get X _)) k2 (fun e he=>?_) (Nat.le_refl _) (fun h0'=>?_) (fun e he w3 hw3=>?_)
 ·obtain ⟨x,hx,rfl⟩:=List.mem_map.1 he
  exact hc x hx
 ·simp (disch:=first|omega|exact zF rfl|exact zG rfl|exact fun h=>h|(simp only[zA,zB,zC,zD,bytesW];omega)) only[go_sem,c85L0]
  have hperm:=all_perm hb hD2 hD1 (left_none h0')
  refine ⟨D.map Prod.fst,hperm.map _,hJ2 _ _ _ _ _ j2 fun Y hY=>?_⟩
  rw [List.append_nil]
  exact hY.sub (List.sublist_append_left _ _)
 ·obtain ⟨x,hx,rfl,hxn⟩:=left_in he
  have j3:J [.obj q (.mapIter (some mb) c ((D.map fun x=>x.2.2).toArray.push x.2.2) c)] (D.map Prod.fst) (w3.putObj q (.mapIter (some mb) c ((D.map fun x=>x.2.2).toArray.push x.2.2) c)):=hJ2 _ _ _ _ _ j2 fun Y hY=>by
   have h3:St W0 w3 F (Y++[.obj q (.mapIter (some mb) c (D.map fun x=>x.2.2).toArray c)]) I:=by
    rcases hw3 with rfl | rfl
    ·exact hY
    ·exact hY.drew
   have:=h3.putObj Y.length (last_get Y _) (.mapIter (some mb) c ((D.map fun x=>x.2.2).toArray.push x.2.2) c)
   rwa [last_set] at this
  have hbn:((d.map (entG intK idK)).toArray.toList.map (·.born)).Nodup:=by
   rw [List.toList_toArray,List.map_map]
   exact hb
  simp (disch:=first|omega|exact zF rfl|exact zG rfl|exact fun h=>h|(simp only[zA,zB,zC,zD,bytesW];omega)) only[go_sem,c85L0]
  have e1:(entG intK idK x).born=x.2.2:=rfl
  rw [e1]
  obtain ⟨_,k4,Z,sZ⟩:=hJ _ _ _ j3
  refine enG (sZ.obj Z.length (last_get Z _)) k4 (by rw [List.toList_toArray]; exact List.mem_map_of_mem hx) hbn ?_
  simp (disch:=first|omega|exact zF rfl|exact zG rfl|exact fun h=>h|(simp only[zA,zB,zC,zD,bytesW];omega)) only[go_sem,c85L0,entG,intK,idK]
  have hnk:=not_in hk hD1 hx hxn
  have hn2:((x::D).map fun x=>x.2.2).Nodup:=by rw [List.map_cons,List.nodup_cons]; exact ⟨hxn,hD2⟩
  have hDl:=nodup_le hn2 fun y hy=>by
   rcases List.mem_cons.1 hy with rfl | hy
   ·exact hx
   ·exact hD1 y hy
  rw [List.length_cons] at hDl
  refine callW_mono (hf _ _ x.1 _ j3 ⟨hnk,List.mem_map_of_mem hx,by rw [List.length_map]; omega⟩) ?_
  rintro _ w5 ⟨rfl,j5⟩
  simp (disch:=first|omega|exact zF rfl|exact zG rfl|exact fun h=>h|(simp only[zA,zB,zC,zD,bytesW];omega)) only[go_sem,c85L0]
  refine ⟨D++[x],⟨fun y hy=>?_,?_,?_⟩,by rw [List.length_append,List.length_singleton]; omega⟩
  ·rcases List.mem_append.1 hy with hy | hy
   ·exact hD1 y hy
   ·rw [List.mem_singleton] at hy; subst hy; exact hx
  ·rw [List.map_append,List.nodup_append]
   refine ⟨hD2,List.pairwise_singleton _ _,fun a ha e he=>?_⟩
   rw [List.map_cons,List.map_nil,List.mem_singleton] at he
   subst he
   exact fun h=>hxn (h ▸ ha)
  ·have e2:((D++[x]).map fun x=>x.2.2).toArray=(D.map fun x=>x.2.2).toArray.push x.2.2:=by simp
   have e3:(D++[x]).map Prod.fst=D.map Prod.fst++[x.1]:=by simp
   rw [e2,e3]
   exact j5
theorem keysJ_ok(w:World):Ret Tryz.prog 58 [.map (some mb)] w fun v w'=>v=.func (.func 85) #[] #[.pointer (some ⟨w.heap.size,0,none⟩)]∧w'=w.alloc (.cells #[.map (some mb)] 56):=by
 refine ent58 _ _ _ ?_
 simp (disch:=first|omega|exact zF rfl|exact zG rfl|exact fun h=>h|(simp only[zA,zB,zC,zD,bytesW];omega)) only[go_sem]
theorem appendKeysJ_ok(h:St W0 w F (.blk bx #[.map (some mb)] 56::.obj mb (mapG intK idK d c)::L) I)(hk:(d.map Prod.fst).Nodup)(hb:(d.map fun x=>x.2.2).Nodup)(hc:∀ x∈d,x.2.2<c)(hd:d.length≤100000) :
  Ret Tryz.prog 100 [.slice none 0 0,.func (.func 85) #[] #[.pointer (some ⟨bx,0,none⟩)]] w fun u w'=>∃ ks:List Int,ks.Perm (d.map Prod.fst)∧St W0 w' F (.row u 3 1 ks.length (ks.flatMap intE)::.blk bx #[.map (some mb)] 56::.obj mb (mapG intK idK d c)::L) I:=by
 refine ent100 _ _ _ _ ?_
 simp (disch:=first|omega|exact zF rfl|exact zG rfl|exact fun h=>h|(simp only[zA,zB,zC,zD,bytesW];omega)) only[go_sem]
 have s1:=(h.nilRow 3 1).box #[.slice none 0 0] 25
 generalize w.heap.size=bs at s1 ⊢
 generalize w.alloc (.cells #[.slice none 0 0] 25)=w1 at s1 ⊢
 refine RangeW_any (β:=Value) (fun x:Int=>[.int .i64 x]) (fun pre x=>x ∉ pre∧x∈d.map Prod.fst∧pre.length<d.length) (fun xs=>xs.Perm (d.map Prod.fst)) (fun u pre=>.blk bs #[u] 25::.row u 3 1 pre.length (pre.flatMap intE)::.blk bx #[.map (some mb)] 56::.obj mb (mapG intK idK d c)::L) (.slice none 0 0) rfl (by kernel_rfl) s1 rfl (fun _=>rfl) ?_ ?_ ?_
 ·intro fv J w2 hJ1 hJ2 hf h0
  refine keys1J_ok (mb:=mb) fv J w2 (fun R pre w' j=>?_) hJ2 (fun R pre x w' j e=>hf R pre x w' j e) hk hb hc h0
  obtain ⟨l,D,o,u,hX⟩:=hJ1 R pre w' j
  exact ⟨(hX.blk 4 rfl).cell 0,hX.obj 5 rfl,.obj l o::.obj D (.deferred (some []))::(.blk bs #[u] 25::.row u 3 1 pre.length (pre.flatMap intE)::.blk bx #[.map (some mb)] 56::.obj mb (mapG intK idK d c)::L),hX⟩
 ·intro R u pre x w' l D o o2 hx h1
  obtain ⟨e1,e2,e3⟩:=hx
  simp (disch:=first|omega|exact zF rfl|exact zG rfl|exact fun h=>h|(simp only[zA,zB,zC,zD,bytesW];omega)) only[go_sem,c100A0,c100B0,c100A0,c100B0]
  refine ⟨_,h1,fun w2 h2=>?_⟩
  obtain ⟨ao,co,rfl,_⟩:=own_slice (h2.row 3 rfl)
  have r2:=h2.rules 2 rfl
  simp (disch:=first|omega|exact zF rfl|exact zG rfl|exact fun h=>h|(simp only[zA,zB,zC,zD,bytesW];omega)) only[go_sem,c100A0,c100B0,r2]
  refine bsW_ones ty25mkI rfl rfl (Nat.le_of_ble_eq_true rfl) (by simp [intE]) (int_one x) ?_
  have hx:Rd (w2.alloc (.cells (intE x).toArray 3)) 1 (.slice (some ⟨w2.heap.size,0,none⟩) 1 1) 1 (intE x):=rd_new (n:=1) (cs:=(intE x).toArray) rfl
  simp (disch:=first|omega|exact zF rfl|exact zG rfl|exact fun h=>h|(simp only[zA,zB,zC,zD,bytesW];omega)) only[go_sem,c100A0,c100B0]
  refine (h2.alloc' (.cells (intE x).toArray 3)).append 3 rfl ty25mkI rfl (by decide) hx (int_one x) (by omega) (by omega) ?_
  intro u' w4 s4 _
  obtain ⟨ao',co',rfl,_⟩:=own_slice (s4.row 3 rfl)
  have r4:=s4.rules 2 rfl
  have s5:=s4.set 2 rfl 0 (.slice ao' (pre.length+1) co')
  simp (disch:=first|omega|exact zF rfl|exact zG rfl|exact fun h=>h|(simp only[zA,zB,zC,zD,bytesW];omega)) only[go_sem,c100A0,c100B0,r4]
  refine ⟨.slice ao' (pre.length+1) co',st_recast s5 ?_⟩
  rw [List.length_append,List.flatMap_append,List.flatMap_singleton]
  rfl
 ·intro xs u D w' hG h1
  obtain ⟨ao,co,rfl,_⟩:=own_slice (h1.row 2 rfl)
  have r1:=h1.rules 1 rfl
  have hD:=h1.obj 0 rfl
  simp (disch:=first|omega|exact zF rfl|exact zG rfl|exact fun h=>h|(simp only[zA,zB,zC,zD,bytesW];omega)) only[go_sem,c100A0,c100B0,r1,hD]
  refine ⟨xs,hG,?_⟩
  exact ((h1.putObj 0 rfl (.deferred none)).sub (L':=.row (.slice ao xs.length co) 3 1 xs.length (xs.flatMap intE)::.blk bx #[.map (some mb)] 56::.obj mb (mapG intK idK d c)::L) (by simp))
theorem collectJ_ok{d:List (Int × Value × Nat)}{c bx:Nat}(h:St W0 w F (.blk bx #[.map (some mb)] 56::.obj mb (mapG intK idK d c)::L) I)(hk:(d.map Prod.fst).Nodup)(hb:(d.map fun x=>x.2.2).Nodup)(hc:∀ x∈d,x.2.2<c)(hd:d.length≤100000) :
  Ret Tryz.prog 77 [.func (.func 85) #[] #[.pointer (some ⟨bx,0,none⟩)]] w fun u w'=>∃ ks:List Int,ks.Perm (d.map Prod.fst)∧St W0 w' F (.row u 3 1 ks.length (ks.flatMap intE)::.blk bx #[.map (some mb)] 56::.obj mb (mapG intK idK d c)::L) I:=by
 refine ent77 _ _ _ ?_
 simp (disch:=first|omega|exact zF rfl|exact zG rfl|exact fun h=>h|(simp only[zA,zB,zC,zD,bytesW];omega)) only[go_sem]
 refine Ret.mono (appendKeysJ_ok h hk hb hc hd) ?_
 rintro u w2 ⟨ks,hp,s2⟩
 obtain ⟨ao,co,rfl,_⟩:=own_slice (s2.row 0 rfl)
 simp (disch:=first|omega|exact zF rfl|exact zG rfl|exact fun h=>h|(simp only[zA,zB,zC,zD,bytesW];omega)) only[go_sem]
 exact ⟨ks,hp,s2⟩
theorem sortedKJ_ok{d:List (Int × Value × Nat)}{c bx:Nat}(h:St W0 w F (.blk bx #[.map (some mb)] 56::.obj mb (mapG intK idK d c)::L) I)(hk:(d.map Prod.fst).Nodup)(hb:(d.map fun x=>x.2.2).Nodup)(hc:∀ x∈d,x.2.2<c)(hd:d.length≤100000) :
  Ret Tryz.prog 48 [.func (.func 85) #[] #[.pointer (some ⟨bx,0,none⟩)]] w fun u w'=>∃ ts:List Int,ts.Perm (d.map Prod.fst)∧ts.Pairwise (·≤·)∧St W0 w' F (.row u 3 1 ts.length (ts.flatMap intE)::.blk bx #[.map (some mb)] 56::.obj mb (mapG intK idK d c)::L) I:=by
 refine ent48 _ _ _ ?_
 simp (disch:=first|omega|exact zF rfl|exact zG rfl|exact fun h=>h|(simp only[zA,zB,zC,zD,bytesW];omega)) only[go_sem]
 refine Ret.mono (collectJ_ok h hk hb hc hd) ?_
 rintro u w2 ⟨ks,hp,s2⟩
 have hkl:ks.length=d.length:=by rw [hp.length_eq,List.length_map]
 obtain ⟨ao,co,rfl,_⟩:=own_slice (s2.row 0 rfl)
 have gS:goFunc Tryz.prog 78=true:=by kernel_rfl
 simp (disch:=first|omega|exact zF rfl|exact zG rfl|exact fun h=>h|(simp only[zA,zB,zC,zD,bytesW];omega)) only[go_sem,gS]
 refine Ret.mono (sortI_ok s2 (by omega)) ?_
 rintro _ w3 ⟨rfl,ts,⟨h1,h2⟩,s3⟩
 simp (disch:=first|omega|exact zF rfl|exact zG rfl|exact fun h=>h|(simp only[zA,zB,zC,zD,bytesW];omega)) only[go_sem]
 exact ⟨ts,h1.trans hp,h2,by rw [h1.length_eq]; exact s3⟩
end
end Go.Proofs.YtoadmihnihfjkaaGreat.Cut

namespace Go.Proofs.YtoadmihnihfjkaaGreat
open Go Go.Ann Go.RowKit Go.WideShapes Go.Shelf
set_option linter.unusedSectionVars false
section
variable {κ ν:Type} [DecidableEq κ]
theorem getM_set(p q:κ)(v:ν)(c:Nat):∀ d:List (κ × ν × Nat),getM q (setM p v c d)=if q=p then some v else getM q d
 | []=>by
  show (if q=p then some v else getM q [])=_
  rfl
 | y::d=>by
  by_cases e:p=y.1
  ·rw [show setM p v c (y::d)=(y.1,v,y.2.2)::d from if_pos e,getM,getM]
   by_cases e2:q=p
   ·rw [if_pos e2,if_pos (by rw [e2,e])]
   ·rw [if_neg e2,if_neg (by rw [← e]; exact e2),if_neg (by rw [← e]; exact e2)]
  ·rw [show setM p v c (y::d)=y::setM p v c d from if_neg e,getM,getM,getM_set p q v c d]
   by_cases e2:q=y.1
   ·rw [if_pos e2,if_neg (by rw [e2]; exact fun h=>e h.symm),if_pos e2]
   ·rw [if_neg e2,if_neg e2]
theorem getM_no{p:κ}:∀ {d:List (κ × ν × Nat)},getM p d=none↔p ∉ d.map Prod.fst
 | []=>by simp [getM]
 | y::d=>by
  rw [getM]
  by_cases e:p=y.1
  ·rw [if_pos e]; simp [e]
  ·rw [if_neg e,getM_no]; simp [e]
structure KMap(d:List (κ × ν × Nat))(c:Nat):Prop where
 nd:(d.map Prod.fst).Nodup
 bn:(d.map fun x=>x.2.2).Nodup
 lt:∀ x∈d,x.2.2<c
theorem KMap.nil:KMap ([]:List (κ × ν × Nat)) 0:=⟨List.Pairwise.nil,List.Pairwise.nil,fun x hx=>by cases hx⟩
theorem setM_keysG{p:κ}{v v0:ν}{c:Nat}:∀ {d:List (κ × ν × Nat)},getM p d=some v0→(setM p v c d).map Prod.fst=d.map Prod.fst∧(setM p v c d).map (fun x=>x.2.2)=d.map fun x=>x.2.2
 | [],h=>by cases h
 | y::d,h=>by
  simp only [getM] at h
  by_cases e:p=y.1
  ·rw [show setM p v c (y::d)=(y.1,v,y.2.2)::d from if_pos e]; exact ⟨rfl,rfl⟩
  ·rw [if_neg e] at h
   obtain ⟨h1,h2⟩:=setM_keysG (v:=v) (c:=c) h
   rw [show setM p v c (y::d)=y::setM p v c d from if_neg e]
   simp only [List.map_cons,h1,h2,and_self]
theorem KMap.step{d:List (κ × ν × Nat)}{c:Nat}(h:KMap d c)(p:κ)(v:ν):KMap (setM p v c d) (if (getM p d).isSome then c else c+1):=by
 cases hg:getM p d with
 | some v0 =>
  obtain ⟨h1,h2⟩:=setM_keysG (v:=v) (c:=c) hg
  simp only [Option.isSome_some,if_true]
  refine ⟨by rw [h1]; exact h.nd,by rw [h2]; exact h.bn,fun x hx=>?_⟩
  have:x.2.2∈(setM p v c d).map fun x=>x.2.2:=List.mem_map_of_mem (f:=fun x:κ × ν × Nat=>x.2.2) hx
  rw [h2] at this
  obtain ⟨z,hz,e⟩:=List.mem_map.1 this
  rw [← e]; exact h.lt z hz
 | none =>
  rw [setM_snoc hg]
  simp only [Option.isSome_none,Bool.false_eq_true,if_false]
  refine ⟨?_,?_,fun x hx=>?_⟩
  ·rw [List.map_append,List.nodup_append]
   refine ⟨h.nd,List.pairwise_singleton _ _,fun a ha b hb e=>?_⟩
   simp only [List.map_cons,List.map_nil,List.mem_singleton] at hb
   exact getM_no.1 hg (by rw [← hb,← e]; exact ha)
  ·rw [List.map_append,List.nodup_append]
   refine ⟨h.bn,List.pairwise_singleton _ _,fun a ha b hb e=>?_⟩
   simp only [List.map_cons,List.map_nil,List.mem_singleton] at hb
   obtain ⟨x,hx,rfl⟩:=List.mem_map.1 ha
   have:=h.lt x hx
   omega
  ·rcases List.mem_append.1 hx with hx | hx
   ·have:=h.lt x hx; omega
   ·rw [List.mem_singleton] at hx; subst hx; exact Nat.lt_succ_self _
theorem setM_len(p:κ)(v:ν)(c:Nat):∀ d:List (κ × ν × Nat),(setM p v c d).length≤d.length+1
 | []=>Nat.le_refl _
 | y::d=>by
  by_cases e:p=y.1
  ·rw [show setM p v c (y::d)=(y.1,v,y.2.2)::d from if_pos e]; simp
  ·rw [show setM p v c (y::d)=y::setM p v c d from if_neg e]
   have:=setM_len p v c d
   simp only [List.length_cons]; omega
end
def downsO(l:List OpT):Nat→List (Int × OpT)
 | 0=>[]
 | k+1=>downsO l k++(match l[l.length - 1 - k]? with | some o=>[((l.length:Int) - 1 - k,o)] | none=>[])
theorem downsO_pre(l:List OpT){k n:Nat}(h:k≤n):∃ r,downsO l n=downsO l k++r:=by
 induction h with
 | refl=>exact ⟨[],by simp⟩
 | step h ih =>
  obtain ⟨r,e⟩:=ih
  exact ⟨_,by rw [downsO,e,List.append_assoc]⟩
theorem downsO_succ(l:List OpT){k n:Nat}(hk:k<l.length)(hn:n=l.length - 1 - k)(hnl:n<l.length):downsO l (k+1)=downsO l k++[((n:Int),l[n])]:=by
 rw [downsO,← hn,List.getElem?_eq_getElem hnl]
 have:(l.length:Int) - 1 - k=n:=by omega
 rw [this]
theorem downsO_snd(l:List OpT):∀ k,k≤l.length→(downsO l k).map Prod.snd=l.reverse.take k
 | 0,_=>by simp [downsO]
 | k+1,h=>by
  rw [downsO_succ l (by omega) rfl (by omega),List.map_append,downsO_snd l k (by omega),List.take_succ_eq_append_getElem (by simp; omega)]
  congr 1
  simp only [List.map_cons,List.map_nil,List.getElem_reverse]
theorem back1O_ok(fv:Value)(bx:Nat)(v:Value)(l:List OpT)(J:List (Int × OpT)→World→Prop)(w:World)(hl:l.length≤1000)
  (hb:∀ pre w',J pre w'→w'.cell? ⟨bx,0,none⟩=some v∧RdS w' 11 OpT.enc v l)
  (hf:∀ pre x w',J pre w'→(∃ r,pre++x::r=downsO l l.length)→callW Tryz.prog fv [.int .i64 x.1,.agg x.2.enc.toArray] w' fun v w''=>v=.bool true∧J (pre++[x]) w'') (h0:J [] w) :
  Ret Tryz.prog 84 [fv,.pointer (some ⟨bx,0,none⟩)] w fun _ w'=>J (downsO l l.length) w':=by
 obtain ⟨hb0,hr0⟩:=hb _ _ h0
 obtain ⟨a,c,rfl,_⟩:=hr0.form
 refine ent84 _ _ _ _ ?_
 simp (disch:=first|omega|exact zF rfl|exact zG rfl|exact fun h=>h|(simp only[zA,zB,zC,zD,bytesW];omega)) only[go_sem,hb0]
 refine ⟨⟨by omega,by omega⟩,?_⟩
 refine W_loopU (fun x:Int × Nat=>[(3,.int .i64 x.1)]) (fun x w'=>J (downsO l x.2) w'∧x.2≤l.length∧x.1=(l.length:Int) - 1 - x.2) (fun x=>l.length - x.2) ((l.length:Int) - 1,0) rfl ⟨h0,Nat.zero_le _,by simp⟩ ?_
 rintro ⟨i,k⟩ w3 ⟨j3,hk,hi⟩
 simp only at j3 hk hi
 obtain ⟨hb3,hr3⟩:=hb _ _ j3
 by_cases hlt:k<l.length
 ·have h1:i ≥ 0:=by omega
  obtain ⟨n,rfl⟩:∃ n:Nat,i=n:=⟨i.toNat,by omega⟩
  have hn:n=l.length - 1 - k:=by omega
  have hnl:n<l.length:=by omega
  have hnl':(n:Int)<l.length:=by omega
  obtain ⟨q,rfl⟩:=hr3.ptr (by omega)
  have ek:=hr3.eltB (Below.refl _ _) OpT.len (by decide) hnl
  have ck:=hr3.at OpT.len hnl
  have esucc:=downsO_succ l hlt hn hnl
  simp (disch:=first|omega|exact zF rfl|exact zG rfl|exact fun h=>h|(simp only[zA,zB,zC,zD,bytesW];omega)) only[go_sem,h1,hb3,ek,ck,hnl']
  refine callW_mono (hf _ ((n:Int),l[n]) _ j3 ?_) ?_
  ·obtain ⟨r,e⟩:=downsO_pre l (k:=k+1) (n:=l.length) (by omega)
   exact ⟨r,by rw [e,esucc,List.append_assoc]; rfl⟩
  ·rintro _ w5 ⟨rfl,j5⟩
   simp (disch:=first|omega|exact zF rfl|exact zG rfl|exact fun h=>h|(simp only[zA,zB,zC,zD,bytesW];omega)) only[go_sem]
   exact ⟨⟨by omega,by omega⟩,((n:Int) - 1,k+1),rfl,⟨by simp only; rw [esucc]; exact j5,hlt,by simp only; omega⟩,by simp only; omega⟩
 ·have h1:¬ i ≥ 0:=by omega
  obtain rfl:k=l.length:=by omega
  simp (disch:=first|omega|exact zF rfl|exact zG rfl|exact fun h=>h|(simp only[zA,zB,zC,zD,bytesW];omega)) only[go_sem,h1]
  exact j3
theorem backwardO_ok(a:Option Addr)(n c:Nat)(w:World):Ret Tryz.prog 57 [.slice a n c] w fun u w'=>u=.func (.func 84) #[] #[.pointer (some ⟨w.heap.size,0,none⟩)]∧w'=w.alloc (.cells #[.slice a n c] 22):=by
 refine ent57 _ _ _ ?_
 simp (disch:=first|omega|exact zF rfl|exact zG rfl|exact fun h=>h|(simp only[zA,zB,zC,zD,bytesW];omega)) only[go_sem]
def kmF(z:List (Int × Value × Nat) × Nat)(x:Int × OpT):List (Int × Value × Nat) × Nat:=(setM x.2.Object (.int .i64 x.2.Kind) z.2 z.1,if (getM x.2.Object z.1).isSome then z.2 else z.2+1)
def kmP(pre:List (Int × OpT)):List (Int × Value × Nat) × Nat:=pre.foldl kmF ([],0)
theorem kmP_snoc(pre:List (Int × OpT))(x:Int × OpT):kmP (pre++[x])=kmF (kmP pre) x:=by
 unfold kmP
 rw [List.foldl_append]
 rfl
theorem kmP_is(t:List (Int × OpT)):KMap (kmP t).1 (kmP t).2∧(kmP t).1.length≤t.length∧(∀ q,getM q (kmP t).1=none↔∀ x∈t,x.2.Object≠q)∧∀ q v,getM q (kmP t).1=some v→∃ x∈t,x.2.Object=q∧v=.int .i64 x.2.Kind:=by
 have:∀ r:List (Int × OpT),KMap (kmP r.reverse).1 (kmP r.reverse).2∧(kmP r.reverse).1.length≤r.length∧(∀ q,getM q (kmP r.reverse).1=none↔∀ x∈r,x.2.Object≠q)∧∀ q v,getM q (kmP r.reverse).1=some v→∃ x∈r,x.2.Object=q∧v=.int .i64 x.2.Kind:=by
  intro r
  induction r with
  | nil=>exact ⟨KMap.nil,Nat.le_refl _,fun q=>by simp [kmP,getM],fun q v h=>by cases h⟩
  | cons x r ih =>
   obtain ⟨i1,i2,i3,i4⟩:=ih
   rw [List.reverse_cons,kmP_snoc]
   generalize kmP r.reverse=z at i1 i2 i3 i4
   unfold kmF
   simp only
   refine ⟨i1.step _ _,?_,fun q=>?_,fun q v h=>?_⟩
   ·have:=setM_len x.2.Object (.int .i64 x.2.Kind) z.2 z.1
    rw [List.length_cons]; omega
   ·rw [getM_set]
    by_cases e:q=x.2.Object
    ·rw [if_pos e]
     constructor
     ·intro h; cases h
     ·intro h; exact absurd e.symm (h x List.mem_cons_self)
    ·rw [if_neg e,i3]
     constructor
     ·intro h y hy
      rcases List.mem_cons.1 hy with rfl | hy
      ·exact fun h=>e h.symm
      ·exact h y hy
     ·exact fun h y hy=>h y (List.mem_cons_of_mem _ hy)
   ·rw [getM_set] at h
    by_cases e:q=x.2.Object
    ·rw [if_pos e] at h
     exact ⟨x,List.mem_cons_self,e.symm,(Option.some.inj h).symm⟩
    ·rw [if_neg e] at h
     obtain ⟨y,hy,h1⟩:=i4 q v h
     exact ⟨y,List.mem_cons_of_mem _ hy,h1⟩
 have h:=this t.reverse
 simp only [List.reverse_reverse,List.length_reverse,List.mem_reverse] at h
 exact h
theorem sorts_some{cf:OpT→OpT→Int}(hO:Go.Sort.SWO (ltOf cf))(l:List OpT):∃ r,Cut.Sorts cf l r:=by
 have e:∀ a b,ltOf cf a b=decide (cf a b<0):=fun a b=>rfl
 refine ⟨l.mergeSort fun a b=>!ltOf cf b a,List.mergeSort_perm _ _,?_⟩
 refine (List.pairwise_mergeSort (le:=fun a b=>!ltOf cf b a) (fun a b c h1 h2=>?_) (fun a b=>?_) l).imp fun {a b} h=>?_
 ·have h1:ltOf cf b a=false:=by simpa using h1
  have h2:ltOf cf c b=false:=by simpa using h2
  have:=hO.ntrans _ _ _ h2 h1
  simpa using this
 ·cases h1:ltOf cf b a
  ·simp
  ·cases h2:ltOf cf a b
   ·simp
   ·have:=hO.trans _ _ _ h1 h2
    rw [hO.irrefl] at this
    cases this
 ·have h:ltOf cf b a=false:=by simpa using h
  rw [e] at h
  exact of_decide_eq_false h
theorem byObj_some(l:List OpT):∃ acc,Cut.ByObj l acc:=by
 have hO:Go.Sort.SWO (ltOf Cut.objI):=by
  refine ⟨fun x=>?_,fun x y z h1 h2=>?_,fun x y z h1 h2=>?_⟩
  ·rw [Cut.lt_obj]; exact decide_eq_false (by omega)
  ·rw [Cut.lt_obj] at h1 h2 ⊢
   have h1:=of_decide_eq_true h1
   have h2:=of_decide_eq_true h2
   exact decide_eq_true (by omega)
  ·rw [Cut.lt_obj] at h1 h2 ⊢
   have h1:=of_decide_eq_false h1
   have h2:=of_decide_eq_false h2
   exact decide_eq_false (by omega)
 obtain ⟨r,hr⟩:=sorts_some hO l
 exact ⟨_,Cut.objects_by hr⟩
open Go Go.Ann Go.RowKit
theorem byProc_len{l:List OpT}{segs:List Seg}(h:Cut.ByProc l segs):segs.length≤l.length:=by
 have:=nodup_sub_len (a:=segs.map Seg.obj) (b:=l.map OpT.Proc) (by
  unfold List.Nodup
  rw [List.pairwise_map]
  exact h.up.imp fun h=>Int.ne_of_lt h) (fun x hx=>by
  obtain ⟨s,hs,rfl⟩:=List.mem_map.1 hx
  obtain ⟨o,r,e,_⟩:=h.kind s hs
  have ho:o∈s.ops:=by rw [e]; exact List.mem_cons_self
  obtain ⟨a,b⟩:=(byProc_mem h hs o).1 ho
  exact List.mem_map.2 ⟨o,a,b⟩)
 simpa using this
theorem ctx_of{l:List OpT}{accP accO:List Seg}(hp:Cut.ByProc l accP)(ho:Cut.ByObj l accO)(hw:∀ o∈l,o.wf)(hk:∀ a∈l,∀ b∈l,a.Object=b.Object→a.Kind=b.Kind)(hl:l.length≤200):Ctx (progsW accP) accO 65:=by
 refine ⟨prok_of hp ho hw hk,by decide,?_,fun k=>?_,?_⟩
 ·have:=byProc_len hp
  simp only [progsW,List.length_map]
  omega
 ·rcases Nat.lt_or_ge k accP.length with h | h
  ·rw [progs_getD h]
   have h1:=(hp.sorts _ (List.getElem_mem h)).1.length_eq
   have h2:=Cut.ofProc_len accP[k].obj l
   omega
  ·rw [List.getD_eq_getElem?_getD,List.getElem?_eq_none (by simpa [progsW] using h)]
   simp
 ·have:=byObj_len ho
  omega
theorem objs_eq{l:List OpT}{accO:List Seg}{ks:List Int}(ho:Cut.ByObj l accO)(hu:ks.Pairwise (· < ·))(hm:∀ q,q∈ks↔∃ o∈l,o.Object=q):ks=objsW accO:=by
 have h2:(objsW accO).Pairwise (· < ·):=by
  unfold objsW
  rw [List.pairwise_map]
  exact ho.up
 have e:∀ q,q∈ks↔q∈objsW accO:=fun q=>by
  rw [hm]
  unfold objsW
  constructor
  ·rintro ⟨o,ho2,rfl⟩
   obtain ⟨s,hs,e⟩:=ho.all o ho2
   exact List.mem_map.2 ⟨s,hs,e⟩
  ·intro h
   obtain ⟨s,hs,rfl⟩:=List.mem_map.1 h
   obtain ⟨o,r,e,_⟩:=ho.kind s hs
   have:o∈s.ops:=by rw [e]; exact List.mem_cons_self
   obtain ⟨a,b⟩:=(byObj_mem ho hs o).1 this
   exact ⟨o,a,b⟩
 refine List.Perm.eq_of_pairwise (fun a b _ _ h1 h2=>by omega) hu h2 ?_
 exact (List.perm_ext_iff_of_nodup (hu.imp fun h=>Int.ne_of_lt h) (h2.imp fun h=>Int.ne_of_lt h)).2 e
theorem ds_first{W0 w:World}{F:Nat→Prop}{L:List Res}{I:List Inv}{dv sv:Value}{d:List Nat}{U:List VS}
  (h:St W0 w F (.row dv 3 1 d.length ((zN d).flatMap intE)::.row sv 25 1 U.length (U.map Prod.fst)::L) (Inv.vs U::I)):St W0 w F L (Inv.ds [(dv,d,sv,U)]::I):=by
 have hd:RdS w 1 intE dv (zN d):=RdS.of_own' (h.row 0 rfl) (zN d) (by rw [zN_len]) rfl
 have h1:=h.seal (Inv.rd 1 intE dv (zN d)) hd fun k hk=>slFoot_own hk
 have hs:RdS w 1 oneV sv (U.map Prod.fst):=RdS.of_own' (h1.row 0 rfl) (U.map Prod.fst) (by simp) (flat_oneV _).symm
 have hU:=h1.get 1 rfl
 have hr:RowS w sv U:=⟨Rd.of_own (h1.row 0 rfl),hU⟩
 have h2:=h1.seal (Inv.rd 1 oneV sv (U.map Prod.fst)) hs fun k hk=>slFoot_own hk
 refine (St.keepU h2 (Inv.ds [(dv,d,sv,U)]) (fun c hc=>?_) fun k hk=>?_).inv_sub fun a ha=>?_
 ·rw [List.mem_singleton] at hc
  subst hc
  exact ⟨hd,hr⟩
 ·obtain ⟨c,hc,hk⟩:=hk
  rw [List.mem_singleton] at hc
  subst hc
  rcases hk with hk | hk | ⟨p,hp,hk⟩
  ·exact ⟨Inv.rd 1 intE dv (zN d),by simp,hk⟩
  ·exact ⟨Inv.rd 1 oneV sv (U.map Prod.fst),by simp,hk⟩
  ·exact ⟨Inv.vs U,by simp,p,hp,hk⟩
 ·rcases List.mem_cons.1 ha with rfl | ha
  ·exact List.mem_cons_self
  ·simp [ha]
theorem plM_snoc(x:Int):∀ (l:List Int) (i:Nat),plM (l++[x]) i=plM l i++[(x,i+l.length,i+l.length)]
 | [],i=>by simp [plM]
 | t::l,i=>by
  rw [List.cons_append,plM,plM,plM_snoc x l,List.length_cons,List.cons_append]
  have e:i+1+l.length=i+(l.length+1):=by omega
  rw [e]
def BeginV(l:List OpT)(accO:List Seg)(most:Int)(w:World)(u:Value)(w':World):Prop :=
 ∃ x pl m c0 accP vs pv tv N C,u=.pointer (some ⟨x,0,none⟩)∧Cut.ByProc l accP∧Ctx (progsW accP) accO 65∧SrS w w' (fun _=>False) [] [] (progsW accP) accO vs x pl m 65 c0 most pv tv N C∧GrI (progsW accP) (objsW accO) N 0 []∧N.map Nd.sp=[startW accP accO]
theorem begin_end{w w1:World}{l:List OpT}{accP accO:List Seg}{U:List VS}{x pl m D c0 pc:Nat}{most:Int}{pa:Option Addr}{sv:Value}{pvs:List Value}(hP:Cut.ByProc l accP)(hO:Cut.ByObj l accO)(cx:Ctx (progsW accP) accO 65)(hn:(l.map OpT.ID).Nodup)(hl:l.length≤64)
  (s:St w w1 (fun _=>False) (.row sv 25 1 U.length (U.map Prod.fst)::.blk x #[.slice pa (progsW accP).length pc,.map (some pl),.slice none 0 0,.map (some m),.int .i64 most] 60::.obj m (mapG strE natK [] 0)::.obj pl (mapG Cut.intK natK (plM (objsW accO) 0) c0)::[.obj D (.deferred (some []))]) [Inv.vs U,Inv.pg (.slice pa (progsW accP).length pc) (progsW accP) pvs])
  (hU:U.map Prod.snd=accO.map fun s=>firstP s.kind) :
  W Tryz.prog (c29S5 ()) [(5,.pointer (some ⟨x,0,none⟩)),(9,sv),(D+1000000,undef)] w1 (finQ Tryz.prog [.tmp 4] fun u w'=>BeginV l accO most w u w'):=by
 have e9:(9 == D+1000000)=false:=by rw [beq_eq_false_iff_ne]; omega
 have r6:=s.rules 1 rfl
 have hpl:=cx.pl
 obtain ⟨sa,sc,rfl,_⟩:=own_slice (s.row 0 rfl)
 simp (disch:=first|omega|exact zF rfl|exact zG rfl|exact fun h=>h|(simp only[zA,zB,zC,zD,bytesW];omega)) only[go_sem,c29A0,c29B0,c29L1,c29S3,c29S5,c29S6,c29S7,r6,e9]
 refine msW_one ty25mkI rfl (by omega) (by omega) (by omega) (by omega) ?_
 have hz:Blk (w1.alloc (.cells (zerosA (.int .i64 0) (progsW accP).length) 3)) w1.heap.size (zerosA (.int .i64 0) (progsW accP).length) 3:=Blk.new
 have ez:(zerosA (.int .i64 0) (progsW accP).length).toList=(zN (List.replicate (progsW accP).length 0)).flatMap intE:=by
  unfold zerosA zN
  rw [List.map_replicate]
  generalize (progsW accP).length=q
  induction q with
  | zero=>rfl
  | succ q ih=>simp only [List.replicate_succ,List.flatMap_cons,← ih]; rfl
 have ho:=hz.own (n:=(progsW accP).length) (cap:=(progsW accP).length) (size:=1) (xs:=(zN (List.replicate (progsW accP).length 0)).flatMap intE) (base:=w1.heap.size) (Nat.le_refl _) (Nat.le_refl _) (by have:maxLen=9223372036854775807:=(by decide); omega) (by simp [zerosA]) (by rw [ez,List.take_of_length_le]; rw [flat_all (sz:=1) (fun _=>rfl),zN_len,List.length_replicate]; exact Nat.le_refl _)
 have s2:=s.add ((Below.refl _ w1).alloc (Nat.le_refl _) (.cells (zerosA (.int .i64 0) (progsW accP).length) 3)) (.row (.slice (some ⟨w1.heap.size,0,none⟩) (progsW accP).length (progsW accP).length) 3 1 (progsW accP).length ((zN (List.replicate (progsW accP).length 0)).flatMap intE)) (own_mono ho s.size) fun k hk=>(ho.lt k hk).1
 rw [Int.toNat_natCast]
 generalize w1.alloc (.cells (zerosA (.int .i64 0) (progsW accP).length) 3)=w2 at s2 ⊢
 generalize w1.heap.size=dg at s2 ⊢
 simp (disch:=first|omega|exact zF rfl|exact zG rfl|exact fun h=>h|(simp only[zA,zB,zC,zD,bytesW];omega)) only[go_sem,c29A0,c29B0,c29L1,c29S3,c29S5,c29S6,c29S7,r6,e9]
 have hst:(startW accP accO).done=List.replicate (progsW accP).length 0:=by simp [startW,progsW]
 have hU2:U.map Prod.snd=(startW accP accO).st:=hU
 have hrem:remP (progsW accP) (startW accP accO).done+1≤65:=by
  have:=rem_start (accO:=accO) hP hn
  omega
 have hsok:=start_ok (accO:=accO) hrem
 have s3:=ds_first (d:=List.replicate (progsW accP).length 0) (st_recast s2 (by rw [List.length_replicate]))
 rw [← hst] at s3
 have s4:=(s3.nilRow 65 1).perm (L':=SX (progsW accP) x pl m most (.slice pa (progsW accP).length pc) (.slice none 0 0) []++[.obj pl (mapG Cut.intK natK (plM (objsW accO) 0) c0),.obj D (.deferred (some []))]) (List.Perm.swap _ _ _)
 refine Ret.mono (wadd_ok (q:=accO.length) (s:=startW accP accO) (U:=U) s4 List.mem_cons_self hU2 (hsok.text (by decide) cx.pp) (fun n hn=>by cases hn) (fun p hp=>?_) (by have:=cx.ob; omega) (by omega) (fun k=>Nat.le_trans (cx.pp k) (by decide)) hsok.le (by simp)) ?_
 ·have hpm:p.2∈U.map Prod.snd:=List.mem_map_of_mem hp
  rw [hU] at hpm
  obtain ⟨sg,_,e⟩:=List.mem_map.1 hpm
  rw [← e]
  have:=firstP_ok sg.kind
  exact ⟨this.1,by omega⟩
 intro u5 w5 h5
 generalize hG:(thenQ Tryz.prog (sg c29S4) _)=Gq
 obtain ⟨tv',N',s5,hsp,hu,hE⟩:=h5
 subst hu
 have hE':∃ b,N'=[⟨b,.slice (some ⟨dg,0,none⟩) (progsW accP).length (progsW accP).length,.slice sa U.length sc,.slice none 0 0,startW accP accO,U,[],false⟩]:=by
  rcases hE with h | ⟨b,h⟩
  ·rw [h] at hsp
   simp [addW] at hsp
  ·exact ⟨b,h⟩
 clear hE
 obtain ⟨b,rfl⟩:=hE'
 have s6:=s5.perm (L':=.obj pl (mapG Cut.intK natK (plM (objsW accO) 0) c0)::.obj D (.deferred (some []))::(SX (progsW accP) x pl m most (.slice pa (progsW accP).length pc) tv' ([⟨b,.slice (some ⟨dg,0,none⟩) (progsW accP).length (progsW accP).length,.slice sa U.length sc,.slice none 0 0,startW accP accO,U,[],false⟩])++[])) (by rw [List.append_nil]; exact List.perm_append_comm (l₁:=[_,_]))
 have s7:=s6.seal (Inv.ob pl (mapG Cut.intK natK (plM (objsW accO) 0) c0)) (s6.obj 0 rfl) (fun k hk=>by cases hk; rfl)
 have hD:=s7.obj 0 rfl
 have s8:=(s7.putObj 0 rfl (.deferred none)).sub (List.sublist_cons_self _ _)
 subst hG
 simp (disch:=first|omega|exact zF rfl|exact zG rfl|exact fun h=>h|(simp only[zA,zB,zC,zD,bytesW];omega)) only[go_sem,c29A0,c29B0,c29L1,c29S3,c29S5,c29S6,c29S7,e9,hD]
 refine ⟨x,pl,m,c0,accP,pvs,.slice pa (progsW accP).length pc,tv',[⟨b,.slice (some ⟨dg,0,none⟩) (progsW accP).length (progsW accP).length,.slice sa U.length sc,.slice none 0 0,startW accP accO,U,[],false⟩],[(.slice (some ⟨dg,0,none⟩) (progsW accP).length (progsW accP).length,(startW accP accO).done,.slice sa U.length sc,U)],rfl,hP,cx,⟨s8.inv_sub fun a ha=>?_,fun n hn=>?_⟩,fun j n hj=>?_,rfl⟩
 ·simp only [List.mem_cons,List.not_mem_nil,or_false] at ha ⊢
  rcases ha with rfl | rfl | rfl
  ·exact .inr (.inl rfl)
  ·exact .inr (.inr rfl)
  ·exact .inl rfl
 ·rw [List.mem_singleton] at hn
  subst hn
  exact ⟨hU2,List.mem_cons_self,hsok⟩
 ·cases j with
  | zero =>
   cases hj
   exact ⟨rfl,fun h=>absurd h (Nat.lt_irrefl _),fun _=>rfl,fun h=>absurd h (Nat.lt_irrefl _)⟩
  | succ j=>cases hj
theorem begin_ok(v:Value)(l:List OpT)(most:Int)(w:World)(h:RdS w 11 OpT.enc v l)(hl:l.length≤64)(hn:(l.map OpT.ID).Nodup)(hk:∀ a∈l,∀ b∈l,a.Object=b.Object→a.Kind=b.Kind)(hw:∀ o∈l,o.wf){accO:List Seg}(hO:Cut.ByObj l accO) :
  Ret Tryz.prog 29 [v,.int .i64 most] w fun u w'=>BeginV l accO most w u w':=by
 obtain ⟨a,c,rfl,_⟩:=h.form
 refine ent29 _ _ _ _ ?_
 simp (disch:=first|omega|exact zF rfl|exact zG rfl|exact fun h=>h|(simp only[zA,zB,zC,zD,bytesW];omega)) only[go_sem,c29A0,c29B0,c29L1,c29S3,c29S5,c29S6]
 refine Ret.mono (Cut.programs_ok _ l w h (by omega)) ?_
 rintro pv w1 ⟨⟨accP,vs,hP,hpr⟩,b1⟩
 have cx:=ctx_of hP hO hw hk (by omega)
 have hpg:=PgR.of hpr
 have s1:=(St.start (W0:=w)).made b1 (Inv.pg pv (progsW accP) vs) hpg fun k hk=>⟨by
  rcases hk with hk | ⟨v,hv,hk⟩
  ·exact hpr.newT k hk
  ·exact hpr.newE v hv k hk,hpg.footLt hk⟩
 obtain ⟨pa,pc,rfl⟩:=hpg.form
 simp (disch:=first|omega|exact zF rfl|exact zG rfl|exact fun h=>h|(simp only[zA,zB,zC,zD,bytesW];omega)) only[go_sem,c29A0,c29B0,c29L1,c29S3,c29S5,c29S6]
 refine mmG (ek:=Cut.intK) (ev:=natK) ?_
 have s2:=s1.lay (mapG Cut.intK natK [] 0)
 generalize w1.alloc (mapG Cut.intK natK [] 0)=w2 at s2 ⊢
 generalize w1.heap.size=pl at s2 ⊢
 simp (disch:=first|omega|exact zF rfl|exact zG rfl|exact fun h=>h|(simp only[zA,zB,zC,zD,bytesW];omega)) only[go_sem,c29A0,c29B0,c29L1,c29S3,c29S5,c29S6]
 refine mmG (ek:=strE) (ev:=natK) ?_
 have s3:=s2.lay (mapG strE natK [] 0)
 generalize w2.alloc (mapG strE natK [] 0)=w3 at s3 ⊢
 generalize w2.heap.size=m at s3 ⊢
 simp (disch:=first|omega|exact zF rfl|exact zG rfl|exact fun h=>h|(simp only[zA,zB,zC,zD,bytesW];omega)) only[go_sem,c29A0,c29B0,c29L1,c29S3,c29S5,c29S6]
 refine bdW_built (cells:=#[.slice pa (progsW accP).length pc,.map (some pl),.slice none 0 0,.map (some m),.int .i64 most]) (by kernel_rfl) ?_
 simp (disch:=first|omega|exact zF rfl|exact zG rfl|exact fun h=>h|(simp only[zA,zB,zC,zD,bytesW];omega)) only[go_sem,c29A0,c29B0,c29L1,c29S3,c29S5,c29S7]
 have s4:=s3.box #[.slice pa (progsW accP).length pc,.map (some pl),.slice none 0 0,.map (some m),.int .i64 most] 60
 generalize w3.alloc (.cells #[.slice pa (progsW accP).length pc,.map (some pl),.slice none 0 0,.map (some m),.int .i64 most] 60)=w4 at s4 ⊢
 generalize w3.heap.size=x at s4 ⊢
 refine mmG (ek:=Cut.intK) (ev:=Cut.idK) ?_
 have s5:=s4.lay (mapG Cut.intK Cut.idK [] 0)
 generalize w4.alloc (mapG Cut.intK Cut.idK [] 0)=w5 at s5 ⊢
 generalize w4.heap.size=kb at s5 ⊢
 simp (disch:=first|omega|exact zF rfl|exact zG rfl|exact fun h=>h|(simp only[zA,zB,zC,zD,bytesW];omega)) only[go_sem,c29L1,c29S3,c29S5,c29S7]
 have s6:=s5.box #[.map (some kb)] 56
 generalize w5.alloc (.cells #[.map (some kb)] 56)=w6 at s6 ⊢
 generalize w5.heap.size=kc at s6 ⊢
 refine Ret.mono (backwardO_ok _ _ _ w6) ?_
 rintro _ _ ⟨rfl,rfl⟩
 have s7:=s6.box #[.slice a l.length c] 22
 generalize w6.alloc (.cells #[.slice a l.length c] 22)=w7 at s7 ⊢
 generalize w6.heap.size=bw at s7 ⊢
 simp (disch:=first|omega|exact zF rfl|exact zG rfl|exact fun h=>h|(simp only[zA,zB,zC,zD,bytesW];omega)) only[go_sem,c29L1,c29S3,c29S5,c29S7]
 refine RangeW_all (fun x:Int × OpT=>[.int .i64 x.1,.agg x.2.enc.toArray]) (downsO l l.length) (fun pre=>[.blk bw #[.slice a l.length c] 22,.blk kc #[.map (some kb)] 56,.obj kb (mapG Cut.intK Cut.idK (kmP pre).1 (kmP pre).2),.blk x #[.slice pa (progsW accP).length pc,.map (some pl),.slice none 0 0,.map (some m),.int .i64 most] 60,.obj m (mapG strE natK [] 0),.obj pl (mapG Cut.intK natK [] 0)]) rfl (by kernel_rfl) s7 rfl (fun _=>rfl) ?_ ?_ ?_
 ·intro fv J w8 hJ1 hJ2 hf h0
  refine back1O_ok fv _ (.slice a l.length c) l J w8 (by omega) (fun pre w' j=>?_) hf h0
  obtain ⟨lo,D,o,hX⟩:=hJ1 pre w' j
  exact ⟨(hX.blk 2 rfl).cell 0,h.below hX.bel (by decide)⟩
 ·intro pre x w' lo D o o2 hx h8
  obtain ⟨xi,xo⟩:=x
  have hao:=xo.at
  simp (disch:=first|omega|exact zF rfl|exact zG rfl|exact fun h=>h|(simp only[zA,zB,zC,zD,bytesW];omega)) only[go_sem,c29A0,c29B0,c29L1,c29S3,c29S5,c29S6,c29S7,c29A0,c29B0]
  refine ⟨by simp [OpT.len],.blk w'.heap.size xo.enc.toArray 52::_,(h8.box xo.enc.toArray 52).perm (((List.Perm.swap _ _ _).cons _).trans (List.Perm.swap _ _ _)),fun w2 h2=>?_⟩
  have rk:=h2.rules 4 rfl
  have rb:=h2.rules 2 rfl
  simp (disch:=first|omega|exact zF rfl|exact zG rfl|exact fun h=>h|(simp only[zA,zB,zC,zD,bytesW];omega)) only[go_sem,c29A0,c29B0,c29L1,c29S3,c29S5,c29S6,c29S7,rk,rb,hao]
  refine muG_map (ek:=Cut.intK) (ev:=Cut.idK) Cut.keyT_i Tryz.underlying56 (fun a=>by simp [Instr.sameBits,Cut.intK]) (h2.obj 5 rfl) xo.Object (.int .i64 xo.Kind) ?_
  simp (disch:=first|omega|exact zF rfl|exact zG rfl|exact fun h=>h|(simp only[zA,zB,zC,zD,bytesW];omega)) only[go_sem,c29A0,c29B0,c29L1,c29S3,c29S5,c29S6,c29S7]
  have h3:=(h2.putObj 5 rfl (mapG Cut.intK Cut.idK (kmP (pre++[(xi,xo)])).1 (kmP (pre++[(xi,xo)])).2)).sub (L':=.obj lo o2::.obj D (.deferred (some []))::[.blk bw #[.slice a l.length c] 22,.blk kc #[.map (some kb)] 56,.obj kb (mapG Cut.intK Cut.idK (kmP (pre++[(xi,xo)])).1 (kmP (pre++[(xi,xo)])).2),.blk x #[.slice pa (progsW accP).length pc,.map (some pl),.slice none 0 0,.map (some m),.int .i64 most] 60,.obj m (mapG strE natK [] 0),.obj pl (mapG Cut.intK natK [] 0)]) (by simp)
  rw [kmP_snoc] at h3 ⊢
  exact h3
 ·intro D w' h8
  have s8:=h8.perm (List.perm_append_singleton _ _)
  have e9:(9 == D+1000000)=false:=by rw [beq_eq_false_iff_ne]; omega
  have e33:(33 == D+1000000)=false:=by rw [beq_eq_false_iff_ne]; omega
  clear h8 s7 s6 s5 s4 s3 s2
  obtain ⟨k1,k2,k3,k4⟩:=kmP_is (downsO l l.length)
  have hmem:∀ o,(∃ x∈downsO l l.length,x.2=o)↔o∈l:=fun o=>by
   have:=downsO_snd l l.length (Nat.le_refl _)
   rw [List.take_of_length_le (by simp)] at this
   rw [← List.mem_reverse,← this,List.mem_map]
  have hdl:(downsO l l.length).length=l.length:=by
   have:=congrArg List.length (downsO_snd l l.length (Nat.le_refl _))
   rw [List.length_map,List.length_take,List.length_reverse] at this
   omega
  generalize hkd:(kmP (downsO l l.length)).1=kd at s8 k1 k2 k3 k4
  generalize hkc:(kmP (downsO l l.length)).2=kcl at s8 k1
  have rk:=s8.rules 1 rfl
  simp (disch:=first|omega|exact zF rfl|exact zG rfl|exact fun h=>h|(simp only[zA,zB,zC,zD,bytesW];omega)) only[go_sem,c29A0,c29B0,c29L1,c29S6,c29S7,rk]
  refine Ret.mono (Cut.keysJ_ok w') ?_
  rintro _ _ ⟨rfl,rfl⟩
  have s9:=s8.box #[.map (some kb)] 56
  generalize w'.heap.size=bx at s9 ⊢
  generalize w'.alloc (.cells #[.map (some kb)] 56)=w9 at s9 ⊢
  simp (disch:=first|omega|exact zF rfl|exact zG rfl|exact fun h=>h|(simp only[zA,zB,zC,zD,bytesW];omega)) only[go_sem,c29A0,c29B0,c29L1,c29S6,c29S7]
  have s10:=s9.perm (L':=.blk bx #[.map (some kb)] 56::.obj kb (mapG Cut.intK Cut.idK kd kcl)::.blk kc #[.map (some kb)] 56::.blk bw #[.slice a l.length c] 22::.blk x #[.slice pa (progsW accP).length pc,.map (some pl),.slice none 0 0,.map (some m),.int .i64 most] 60::.obj m (mapG strE natK [] 0)::[.obj pl (mapG Cut.intK natK [] 0),.obj D (.deferred (some []))]) (by
   refine List.Perm.cons _ ?_
   exact (List.Perm.swap _ _ _).trans (((List.Perm.swap _ _ _).cons _).trans (List.Perm.swap _ _ _)))
  refine Ret.mono (Cut.sortedKJ_ok s10 k1.nd k1.bn k1.lt (by omega)) ?_
  rintro u w11 ⟨ks,hp,hord,s11⟩
  obtain ⟨au,cu,rfl,_⟩:=own_slice (s11.row 0 rfl)
  have hup:ks.Pairwise (· < ·):=by
   have:=hord.and (hp.nodup_iff.2 k1.nd)
   exact this.imp fun h=>by have:=h.1; have:=h.2; omega
  have hks:ks=objsW accO:=objs_eq hO hup fun q=>by
   rw [hp.mem_iff]
   constructor
   ·intro h
    cases e:getM q kd with
    | none=>exact absurd h (getM_no.1 e)
    | some v =>
     obtain ⟨x,hx,e1,_⟩:=k4 q v e
     exact ⟨x.2,(hmem _).1 ⟨x,hx,rfl⟩,e1⟩
   ·rintro ⟨o,ho,rfl⟩
    obtain ⟨x,hx,e⟩:=(hmem o).2 ho
    cases e2:getM o.Object kd with
    | none=>exact absurd (by rw [e]) ((k3 _).1 e2 x hx)
    | some v=>exact Classical.byContradiction fun h=>by rw [getM_no.2 h] at e2; cases e2
  simp (disch:=first|omega|exact zF rfl|exact zG rfl|exact fun h=>h|(simp only[zA,zB,zC,zD,bytesW];omega)) only[go_sem,c29A0,c29B0,c29S3,c29S6,c29S7]
  have hal:accO.length=ks.length:=by rw [hks]; simp [objsW]
  have hkl:ks.length≤64:=by
   have:=byObj_len hO
   omega
  have s12:=St.keepU (s11.nilRow 25 1) (Inv.vs ([]:List VS)) (fun p hp=>by cases hp) (fun k hk=>by obtain ⟨p,hp,_⟩:=hk; cases hp)
  clear s11 s10 s9 s8
  refine W_loopU (fun z:Nat × Value × List VS=>[(9,z.2.1),(33,.int .i64 z.1)]) (fun z w'=>St w w' (fun _=>False) (.row z.2.1 25 1 z.2.2.length (z.2.2.map Prod.fst)::.row (.slice au ks.length cu) 3 1 ks.length (ks.flatMap intE)::.blk bx #[.map (some kb)] 56::.obj kb (mapG Cut.intK Cut.idK kd kcl)::.blk kc #[.map (some kb)] 56::.blk bw #[.slice a l.length c] 22::.blk x #[.slice pa (progsW accP).length pc,.map (some pl),.slice none 0 0,.map (some m),.int .i64 most] 60::.obj m (mapG strE natK [] 0)::[.obj pl (mapG Cut.intK natK (plM (ks.take z.1) 0) z.1),.obj D (.deferred (some []))]) [Inv.vs z.2.2,Inv.pg (.slice pa (progsW accP).length pc) (progsW accP) vs]∧z.1≤ks.length∧z.2.2.map Prod.snd=(accO.take z.1).map fun s=>firstP s.kind) (fun z=>ks.length - z.1) (0,.slice none 0 0,[]) rfl ⟨s12,Nat.zero_le _,rfl⟩ ?_
  rintro ⟨i,sv,U⟩ w13 ⟨s13,hi,hU⟩
  simp only at s13 hi hU
  have hUl:U.length=i:=by
   have:=congrArg List.length hU
   simp only [List.length_map,List.length_take] at this
   omega
  by_cases hlt:i<ks.length
  ·have hlt':(i:Int)<ks.length:=by omega
   have hR:RdS w13 1 intE (.slice au ks.length cu) ks:=RdS.of_own (s13.row 1 rfl)
   obtain ⟨q,rfl⟩:=hR.ptr (by omega)
   have ek:=hR.at1 (e1:=fun n=>.int .i64 n) hlt
   have r6:=s13.rules 6 rfl
   have hiA:i<accO.length:=by omega
   have hobj:ks[i]=accO[i].obj:=by simp only [hks,objsW,List.getElem_map]
   have hkv:getM ks[i] kd=some (.int .i64 accO[i].kind):=by
    obtain ⟨o,r,e1,e2⟩:=hO.kind _ (List.getElem_mem hiA)
    have ho:o∈l∧o.Object=accO[i].obj:=(byObj_mem hO (List.getElem_mem hiA) o).1 (by rw [e1]; exact List.mem_cons_self)
    obtain ⟨x,hx,e3⟩:=(hmem o).2 ho.1
    cases e4:getM ks[i] kd with
    | none=>exact absurd (by rw [e3,ho.2,hobj]) ((k3 _).1 e4 x hx)
    | some v =>
     obtain ⟨y,hy,e5,rfl⟩:=k4 _ v e4
     have:=hk y.2 ((hmem _).1 ⟨y,hy,rfl⟩) o ho.1 (by rw [e5,ho.2,hobj])
     rw [this,e2]
   have hpn:getM ks[i] (plM (ks.take i) 0)=none:=by
    rw [plM_get,if_neg]
    intro hm
    obtain ⟨j,hj,e⟩:=List.mem_iff_getElem.1 hm
    rw [List.length_take] at hj
    rw [List.getElem_take] at e
    have:=List.pairwise_iff_getElem.1 hup j i (by omega) hlt (by omega)
    omega
   have hps:plM (ks.take (i+1)) 0=plM (ks.take i) 0++[(ks[i],i,i)]:=by
    rw [List.take_succ_eq_append_getElem hlt,plM_snoc,List.length_take,Nat.zero_add,Nat.min_eq_left hi]
   have hts:(accO.take (i+1)).map (fun s=>firstP s.kind)=(accO.take i).map (fun s=>firstP s.kind)++[firstP accO[i].kind]:=by
    rw [List.take_succ_eq_append_getElem hiA,List.map_append]; rfl
   generalize accO[i].kind=kdv at hkv hts
   generalize ks[i]=ob at ek hkv hpn hps
   simp (disch:=first|omega|exact zF rfl|exact zG rfl|exact fun h=>h|(simp only[zA,zB,zC,zD,bytesW];omega)) only[go_sem,c29A0,c29B0,c29L1,c29S3,c29S6,c29S7,c29L1,hlt',ek,r6,e9,e33]
   refine ⟨by omega,?_⟩
   refine muG_map (ek:=Cut.intK) (ev:=natK) Cut.keyT_i Tryz.underlying56 (fun a=>by simp [Instr.sameBits,Cut.intK]) (s13.obj 8 rfl) ob i ?_
   rw [hpn,setM_snoc hpn,← hps]
   have s14:=s13.putObj 8 rfl (mapG Cut.intK natK (plM (ks.take (i+1)) 0) (i+1))
   simp only [List.set_cons_succ,List.set_cons_zero,Option.isSome_none,Bool.false_eq_true,if_false] at s14 ⊢
   generalize w13.putObj pl (mapG Cut.intK natK (plM (ks.take (i+1)) 0) (i+1))=w14 at s14 ⊢
   have r4:=s14.rules 4 rfl
   obtain ⟨sa,sc,rfl,_⟩:=own_slice (s14.row 0 rfl)
   simp (disch:=first|omega|exact zF rfl|exact zG rfl|exact fun h=>h|(simp only[zA,zB,zC,zD,bytesW];omega)) only[go_sem,c29A0,c29B0,c29L1,c29S3,c29S6,c29S7,r4,e9,e33]
   refine luG_map (ek:=Cut.intK) (ev:=Cut.idK) Cut.keyT_i Tryz.underlying56 (s14.obj 3 rfl) ob (by rfl) ?_
   rw [hkv]
   simp (disch:=first|omega|exact zF rfl|exact zG rfl|exact fun h=>h|(simp only[zA,zB,zC,zD,bytesW];omega)) only[go_sem,c29A0,c29B0,c29L1,c29S3,c29S6,c29S7,luG,Cut.idK,e9,e33]
   refine Ret.mono (mfirst_ok kdv w14) ?_
   rintro t w15 ⟨⟨ht,hf⟩,b15⟩
   obtain ⟨ta,tc,rfl,_⟩:=ht.form
   have s15:=(s14.made b15 (Inv.rd 1 intE _ (firstP kdv)) ht fun k hk=>⟨hf k hk,ht.footLt (by decide) hk⟩)
   have s16:=(St.keepU s15 (Inv.vs (U++[(.slice ta (firstP kdv).length tc,firstP kdv)])) (fun p hp=>by
    rcases List.mem_append.1 hp with hp | hp
    ·exact (s15.get 1 rfl) p hp
    ·rw [List.mem_singleton] at hp; subst hp; exact ht) (fun k hk=>by
    obtain ⟨p,hp,hk⟩:=hk
    rcases List.mem_append.1 hp with hp | hp
    ·exact ⟨Inv.vs U,by simp,p,hp,hk⟩
    ·rw [List.mem_singleton] at hp; subst hp; exact ⟨Inv.rd 1 intE _ (firstP kdv),by simp,hk⟩)).inv_sub (I':=[Inv.vs (U++[(.slice ta (firstP kdv).length tc,firstP kdv)]),Inv.pg (.slice pa (progsW accP).length pc) (progsW accP) vs]) (fun a ha=>by
    rcases List.mem_cons.1 ha with rfl | ha
    ·exact List.mem_cons_self
    ·simp only [List.mem_singleton] at ha; subst ha; simp)
   clear s15 s14 s13
   simp (disch:=first|omega|exact zF rfl|exact zG rfl|exact fun h=>h|(simp only[zA,zB,zC,zD,bytesW];omega)) only[go_sem,c29A0,c29B0,c29L1,c29S3,c29S6,c29S7,e9,e33]
   refine bsW_ones ty61mkI rfl rfl (by decide) (by decide) (by intro u hu; rw [List.mem_singleton] at hu; subst hu; rfl) ?_
   simp (disch:=first|omega|exact zF rfl|exact zG rfl|exact fun h=>h|(simp only[zA,zB,zC,zD,bytesW];omega)) only[go_sem,c29A0,c29B0,c29L1,c29S3,c29S6,c29S7,e9,e33]
   have hx1:Rd (w15.alloc (.cells #[.slice ta (firstP kdv).length tc] 25)) 1 (.slice (some ⟨w15.heap.size,0,none⟩) 1 1) 1 [.slice ta (firstP kdv).length tc]:=rd_new (n:=1) (cs:=#[.slice ta (firstP kdv).length tc]) rfl
   refine (s16.alloc' (.cells #[.slice ta (firstP kdv).length tc] 25)).append 0 rfl ty61mkI rfl (by decide) hx1 (by intro u hu; rw [List.mem_singleton] at hu; subst hu; rfl) (by omega) (by omega) ?_
   intro v17 w17 s17 _
   simp only [List.set_cons_zero] at s17
   simp (disch:=first|omega|exact zF rfl|exact zG rfl|exact fun h=>h|(simp only[zA,zB,zC,zD,bytesW];omega)) only[go_sem,c29A0,c29B0,c29L1,c29S3,c29S6,c29S7,e9,e33]
   refine ⟨⟨by omega,by omega⟩,(i+1,v17,U++[(.slice ta (firstP kdv).length tc,firstP kdv)]),rfl,⟨?_,by simp only; omega,?_⟩,by simp only; omega⟩
   ·simp only [List.length_append,List.length_singleton,List.map_append,List.map_cons,List.map_nil]
    exact s17
   ·simp only [List.map_append,List.map_cons,List.map_nil]
    rw [hts,hU]
  ·have hlt':¬ (i:Int)<ks.length:=by omega
   obtain rfl:i=ks.length:=by omega
   simp (disch:=first|omega|exact zF rfl|exact zG rfl|exact fun h=>h|(simp only[zA,zB,zC,zD,bytesW];omega)) only[go_sem,c29A0,c29B0,c29L1,c29S3,c29S6,c29S7,c29L1,hlt',e9,e33]
   rw [List.take_length] at s13
   rw [List.take_of_length_le (by omega)] at hU
   have s14:=s13.sub (L':=.row sv 25 1 U.length (U.map Prod.fst)::.blk x #[.slice pa (progsW accP).length pc,.map (some pl),.slice none 0 0,.map (some m),.int .i64 most] 60::.obj m (mapG strE natK [] 0)::.obj pl (mapG Cut.intK natK (plM ks 0) ks.length)::[.obj D (.deferred (some []))]) ((((((List.Sublist.refl _).cons _).cons _).cons _).cons _).cons _ |>.cons_cons _)
   generalize ks.length=c0 at s14 ⊢
   rw [hks] at s14
   exact begin_end hP hO cx hn hl s14 hU
open Go Go.Ann Go.RowKit
theorem path_len{P:List (List OpT)}{obs:List Int}{s:Sp}{y:List Int}(h:PathR P obs s y):y.length≤remP P s.done:=by
 induction h with
 | nil=>exact Nat.zero_le _
 | cons hm _ ih =>
  have:=mvs_rem hm
  rw [List.length_cons]
  omega
def firstChk:List OpT→Int
 | []=>0
 | o::l=>if chkP o=0 then firstChk l else chkP o
theorem firstChk_take:∀ {l:List OpT} {k:Nat} (hk:k<l.length),(∀ o∈l.take k,chkP o=0)→chkP l[k]≠0→firstChk l=chkP l[k]
 | a::l,0,hk,_,h=>by
  have h:chkP a≠0:=h
  rw [firstChk,if_neg h]; rfl
 | a::l,k+1,hk,h0,h=>by
  rw [firstChk,if_pos (h0 a (by simp))]
  exact firstChk_take (by simpa using hk) (fun o ho=>h0 o (by simp [ho])) (by simpa using h)
theorem firstChk_all:∀ {l:List OpT},(∀ o∈l,chkP o=0)→firstChk l=0
 | [],_=>rfl
 | a::l,h=>by rw [firstChk,if_pos (h a List.mem_cons_self),firstChk_all fun o ho=>h o (List.mem_cons_of_mem _ ho)]
structure SeqV(l:List OpT)(budget:Int)(accO:List Seg)(w':World)(iv:Value)(ok:Bool)(n e:Int):Prop where
 many:64<l.length→iv=.slice none 0 0∧ok=false∧n=0∧e=34
 bad:l.length≤64→firstChk l≠0→iv=.slice none 0 0∧ok=false∧n=0∧e=firstChk l
 good:l.length≤64→firstChk l=0→∃ x accP,Cut.ByProc l accP∧SeqR (progsW accP) (objsW accO) (startW accP accO) (min budget 32768) e n x∧ok=x.isSome∧RdS w' 1 intE iv (x.getD [])
theorem seq_ok(v:Value)(l:List OpT)(budget:Int)(w:World)(h:RdS w 11 OpT.enc v l)(hw:∀ o∈l,o.wf)(hn:(l.map OpT.ID).Nodup)(hk:∀ a∈l,∀ b∈l,a.Object=b.Object→a.Kind=b.Kind){accO:List Seg}(hO:Cut.ByObj l accO) :
  Ret Tryz.prog 11 [v,.int .i64 budget] w fun u w'=>∃ iv ok n e,u=.tuple #[iv,.bool ok,.int .i64 n,.int .i64 e]∧Below w.heap.size w w'∧SeqV l budget accO w' iv ok n e:=by
 obtain ⟨a,c,rfl,_⟩:=h.form
 refine ent11 _ _ _ _ ?_
 by_cases hl:l.length≤64
 ·have hl':¬ (l.length:Int) > 64:=by omega
  simp (disch:=first|omega|exact zF rfl|exact zG rfl|exact fun h=>h|(simp only[zA,zB,zC,zD,bytesW];omega)) only[go_sem,c11S0,c11S3,c11S4,c11S6,c11S7,c11S8,hl']
  have nilS:∀ w',RdS w' 1 intE (.slice none 0 0) ([]:List Int):=fun w'=>RdS.nil
  refine W_loopU (fun k:Nat=>[(18,.int .i64 k)]) (fun k w'=>Below w.heap.size w w'∧k≤l.length∧∀ o∈l.take k,chkP o=0) (fun k=>l.length - k) 0 rfl ⟨Below.refl _ _,Nat.zero_le _,fun o ho=>by simp at ho⟩ ?_
  rintro k w1 ⟨b1,hkl,hc⟩
  by_cases hlt:k<l.length
  ·have hlt':(k:Int)<l.length:=by omega
   obtain ⟨q,rfl⟩:=h.ptr (by omega)
   have ek:=h.eltB b1 OpT.len (by decide) hlt
   have ck:=cellsO_below b1 (h.at OpT.len hlt)
   simp (disch:=first|omega|exact zF rfl|exact zG rfl|exact fun h=>h|(simp only[zA,zB,zC,zD,bytesW];omega)) only[go_sem,c11L0,c11S3,c11S4,c11S6,c11S7,c11S8,c11L0,hlt',ek,ck]
   have hok:=hw _ (List.getElem_mem hlt)
   refine ⟨by omega,by simp [OpT.len],Ret.mono (opCheck_ok l[k] hok _) ?_⟩
   rintro _ w2 ⟨rfl,b2⟩
   have b3:Below w.heap.size w w2:=by
    refine Below.trans ?_ (b2.mono (?_:w.heap.size≤_))
    ·exact b1.alloc b1.size _
    ·rw [World.size_alloc]; have:=b1.size; omega
   by_cases hz:chkP l[k]=0
   ·simp (disch:=first|omega|exact zF rfl|exact zG rfl|exact fun h=>h|(simp only[zA,zB,zC,zD,bytesW];omega)) only[go_sem,c11S0,c11L0,c11S3,c11S4,c11S6,c11S7,c11S8,hz]
    refine ⟨⟨by omega,by omega⟩,k+1,rfl,⟨b3,by omega,fun o ho=>?_⟩,by omega⟩
    rw [List.take_succ_eq_append_getElem hlt,List.mem_append,List.mem_singleton] at ho
    rcases ho with ho | rfl
    ·exact hc o ho
    ·exact hz
   ·simp (disch:=first|omega|exact zF rfl|exact zG rfl|exact fun h=>h|(simp only[zA,zB,zC,zD,bytesW];omega)) only[go_sem,c11S0,c11L0,c11S3,c11S4,c11S6,c11S7,c11S8,c11S9,hz]
    have e:=firstChk_take hlt hc hz
    exact ⟨_,false,0,_,rfl,b3,fun h=>by omega,fun _ _=>⟨rfl,rfl,rfl,e.symm⟩,fun _ h=>absurd (e.symm.trans h) hz⟩
  ·have hlt':¬ (k:Int)<l.length:=by omega
   obtain rfl:k=l.length:=by omega
   rw [List.take_length] at hc
   have hfc:=firstChk_all hc
   simp (disch:=first|omega|exact zF rfl|exact zG rfl|exact fun h=>h|(simp only[zA,zB,zC,zD,bytesW];omega)) only[go_sem,c11S0,c11L0,c11S3,c11S4,c11S6,c11S7,c11S9,c11L0,hlt']
   refine Ret.mono (begin_ok _ l (min budget 32768) w1 (h.below b1 (by decide)) hl hn hk hw hO) ?_
   rintro _ w2 ⟨x,pl,m,c0,accP,vs,pv,tv,N,C,rfl,hP,cx,s2,g2,e2⟩
   have done:∀ {w':World} {iv:Value} {n e:Int} {y:Option (List Int)},Below w1.heap.size w1 w'→SeqR (progsW accP) (objsW accO) (startW accP accO) (min budget 32768) e n y→RdS w' 1 intE iv (y.getD [])→∀ ok,ok=y.isSome→∃ iv' ok' n' e',Value.tuple #[iv,.bool ok,.int .i64 n,.int .i64 e]=.tuple #[iv',.bool ok',.int .i64 n',.int .i64 e']∧Below w.heap.size w w'∧SeqV l budget accO w' iv' ok' n' e':=fun hb hs hr ok hk=>⟨_,_,_,_,rfl,Below.next b1 hb,fun h=>by omega,fun _ h=>absurd hfc h,fun _ _=>⟨_,accP,hP,hs,hk,hr⟩⟩
   simp (disch:=first|omega|exact zF rfl|exact zG rfl|exact fun h=>h|(simp only[zA,zB,zC,zD,bytesW];omega)) only[go_sem,c11S0,c11L0,c11S4,c11S6,c11S8,c11S9]
   refine Ret.mono (all_ok cx s2 g2 e2 (by omega)) ?_
   rintro _ w3 ⟨tv3,N3,C3,r,s3,hr,e3,hrl,rfl,hall⟩
   by_cases hov:(r.length:Int)≤min budget 32768
   ·have hall:=hall hov
    have hN3:N3.length=r.length:=by rw [← e3,List.length_map]
    obtain ⟨t,ht⟩:=hr.pre
    have hpos:0<N3.length:=by rw [hN3,← ht]; simp
    simp (disch:=first|omega|exact zF rfl|exact zG rfl|exact fun h=>h|(simp only[zA,zB,zC,zD,bytesW];omega)) only[go_sem,c11S0,c11L0,c11S3,c11S4,c11S7,c11S8,c11S9,hov]
    refine Ret.mono (mark_ok cx s3 hall hpos (by omega)) ?_
    intro _ w4 s4
    have hgN:∀ n∈markN (progsW accP) (objsW accO) (N3.map Nd.b) N3,n.gd=(bestS (progsW accP) (objsW accO) n.sp).isSome∧NxR ((markN (progsW accP) (objsW accO) (N3.map Nd.b) N3).map Nd.sp) n.nx (mvsP (progsW accP) (objsW accO) n.sp):=fun n hn=>by
     obtain ⟨j,hj,rfl⟩:=List.mem_iff_getElem.1 hn
     have hj2:j<N3.length:=by rw [markN_len] at hj; exact hj
     rw [markN_at,if_pos (List.mem_map_of_mem (List.getElem_mem hj2)),markN_sp]
     exact ⟨rfl,(hall _ (List.getElem_mem hj2)).2⟩
    have hN4:(markN (progsW accP) (objsW accO) (N3.map Nd.b) N3).length=r.length:=by rw [markN_len,hN3]
    have hsp4:(markN (progsW accP) (objsW accO) (N3.map Nd.b) N3).map Nd.sp=r:=by rw [markN_sp,e3]
    generalize markN (progsW accP) (objsW accO) (N3.map Nd.b) N3=N4 at s4 hgN hN4 hsp4
    obtain ⟨n0,h0,hs0⟩:∃ n0,N4[0]?=some n0∧n0.sp=startW accP accO:=by
     have hl4:0<N4.length:=by omega
     refine ⟨N4[0],List.getElem?_eq_getElem hl4,?_⟩
     have:r[0]?=some (startW accP accO):=by rw [← ht]; rfl
     rw [← hsp4,List.getElem?_map,List.getElem?_eq_getElem hl4] at this
     exact Option.some.inj this
    obtain ⟨h04,e04⟩:=List.getElem?_eq_some_iff.1 h0
    obtain ⟨ta,tc,rfl,_⟩:=own_slice (s4.st.row 1 rfl)
    obtain ⟨tg,rfl⟩:=own_ptr (s4.st.row 1 rfl) (by omega)
    have r4:=s4.st.rules 0 rfl
    have c4:=(own_cell (s4.st.row 1 rfl)).1 0 (ptV n0.b) (by rw [List.getElem?_map,h0]; rfl)
    have q4:=(sx_blk s4.st h04).rules
    rw [e04] at q4
    unfold ptV at c4
    have hg0:=(hgN n0 (List.mem_of_getElem? h0)).1
    rw [hs0] at hg0
    have hpos4:(0:Int)<N4.length:=by omega
    cases hb:bestS (progsW accP) (objsW accO) (startW accP accO) with
    | none =>
     rw [hb] at hg0
     have hg0:n0.gd=false:=hg0
     rw [hg0] at q4
     simp (disch:=first|omega|exact zF rfl|exact zG rfl|exact fun h=>h|(simp only[zA,zB,zC,zD,bytesW];omega)) only[go_sem,c11S0,c11L0,c11S3,c11S4,c11S6,c11S7,c11S8,c11S9,r4,c4,q4,hpos4]
     rw [hN4]
     have:=SeqR.all hr hov
     rw [hb] at this
     exact done s4.st.bel this RdS.nil _ rfl
    | some ids =>
     rw [hb] at hg0
     have hg0:n0.gd=true:=hg0
     rw [hg0] at q4
     have hpl:ids.length≤1000:=by
      have h1:=((best_path (obs:=objsW accO) (Nat.le_refl _)).1 ids hb).1
      have h2:=path_len h1
      have h3:=rem_start (accO:=accO) hP hn
      omega
     simp (disch:=first|omega|exact zF rfl|exact zG rfl|exact fun h=>h|(simp only[zA,zB,zC,zD,bytesW];omega)) only[go_sem,c11S0,c11L0,c11S3,c11S6,c11S7,c11S8,c11S9,r4,c4,q4,hpos4]
     refine Ret.mono (least_ok (n0:=n0) (ids:=ids) s4.st (fun n hn=>(hgN n hn).1) (fun n hn=>(hgN n hn).2) (fun k o ho=>?_) (progs_one hP (pure_nodup hn)) h0 (by rw [hs0]; exact hb) (by omega) hpl (fun n hn=>?_)) ?_
     ·have:=hc o ?_
      ·unfold chkP at this
       split at this
       ·cases this
       ·omega
      ·rcases Nat.lt_or_ge k accP.length with hkP | hkP
       ·rw [progs_getD hkP] at ho
        exact ((byProc_mem hP (List.getElem_mem hkP) o).1 ho).1
       ·rw [List.getD_eq_getElem?_getD,List.getElem?_eq_none (by simpa [progsW] using hkP)] at ho
        cases ho
     ·rw [(hgN n hn).2.len]
      have:=mvs_one (P:=progsW accP) (obs:=objsW accO) (s:=n.sp) (progsW accP).length
      have e:mvsP (progsW accP) (objsW accO) n.sp=(List.range (progsW accP).length).filterMap (mvP (progsW accP) (objsW accO) n.sp):=rfl
      have:=cx.pl
      rw [e]
      omega
     intro iv w5 s5
     simp (disch:=first|omega|exact zF rfl|exact zG rfl|exact fun h=>h|(simp only[zA,zB,zC,zD,bytesW];omega)) only[go_sem,c11S0,c11L0,c11S3,c11S4,c11S6,c11S7,c11S8,c11S9]
     rw [hN4]
     have:=SeqR.all hr hov
     rw [hb] at this
     exact done s5.bel this (RdS.of_own' (s5.row 0 rfl) ids rfl rfl) _ rfl
   ·simp (disch:=first|omega|exact zF rfl|exact zG rfl|exact fun h=>h|(simp only[zA,zB,zC,zD,bytesW];omega)) only[go_sem,c11S0,c11L0,c11S3,c11S4,c11S6,c11S7,c11S8,c11S9,hov]
    exact done s3.st.bel (.over hr (by omega)) RdS.nil _ rfl
 ·have hl':(l.length:Int) > 64:=by omega
  simp (disch:=first|omega|exact zF rfl|exact zG rfl|exact fun h=>h|(simp only[zA,zB,zC,zD,bytesW];omega)) only[go_sem,c11S0,c11L0,c11S3,c11S4,c11S6,c11S7,c11S8,c11S9,hl']
  exact ⟨_,_,_,_,rfl,Below.refl _ _,fun _=>⟨rfl,rfl,rfl,rfl⟩,fun h=>absurd h hl,fun h=>absurd h hl⟩
end Go.Proofs.YtoadmihnihfjkaaGreat

end
