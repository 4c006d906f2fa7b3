/- Texts put together by program. -/
import Derived.Test.YtoadmihnihfjkaaGreatQC1
set_option linter.unusedSimpArgs false
set_option linter.unusedVariables false
set_option maxRecDepth 100000
noncomputable section

namespace Go.Ann
open Go Go.RowKit
inductive ST where
 | nil
 | one (k i:Nat) (r:ST)
 | alt (i:Nat) (r q:ST)
 | stop
inductive GT where
 | nil
 | one (k:Nat) (x:Ins) (r:GT)
 | alt (x:Ins) (r q:GT)
 | stop
def insOf(l:List Oper)(i:Nat):Option Ins :=
 match l[i]? with
 | none=>none
 | some o=>match stripG l o.guard with
  | some g=>some ⟨o.dst,o.op,o.type,g⟩
  | none=>none
def insT(l:List Oper):ST→Option GT
 | .nil=>some .nil
 | .stop=>some .stop
 | .one k i r=>match insOf l i,insT l r with
  | some x,some t=>some (.one k x t)
  | _,_=>none
 | .alt i r q=>match insOf l i,insT l r,insT l q with
  | some x,some t,some u=>some (.alt x t u)
  | _,_,_=>none
def ST.heads:ST→List Nat
 | .alt i _ q=>i::q.heads
 | _=>[]
def schedT(ops:Array Oper)(hb:List Nat):ST→Nat→Bool→Array Bool→Bool
 | .nil,n,top,listed=>top && n == 0 && (Region.ready .any ops listed).isEmpty
 | .one 0 i r,n,top,listed=>top && n != 0 && (Region.ready .any ops listed).contains i && Region.free .any ops listed i && schedT ops hb r (n - 1) true (listed.setIfInBounds i true)
 | .one 1 i r,n,top,listed=>top && n != 0 && hb.contains i && (Region.ready .any ops listed).contains i && Region.free .any ops listed i && schedT ops hb r (n - 1) true (listed.setIfInBounds i true)
 | .one 2 i r,n,top,listed=>top && n != 0 && (Region.ready .any ops listed == [i]) && schedT ops hb r (n - 1) true (listed.setIfInBounds i true)
 | .one (_+3) _ _,_,_,_=>false
 | .alt i r q,n,top,listed=>(!top || Region.ready .any ops listed == i::q.heads) && n != 0 && schedT ops hb r (n - 1) true (listed.setIfInBounds i true) && schedT ops hb q n false listed
 | .stop,_,top,_=>!top
def stepX(P:Program)(S:World→Prop)(k:Nat)(x:Ins)(ρ:Env)(w:World)(C:Env→World→Prop):Prop :=
 match x.g with
 | none=>opG P S k x.op x.ty ρ w fun v w'=>C (put ρ x.dst v) w'
 | some (s,b)=>match lk ρ s with
  | some (.bool c)=>(c=b→opG P S k x.op x.ty ((s,.bool b)::ρ) w fun v w'=>C (put ((s,.bool b)::ρ) x.dst v) w')∧(c=!b→C (put ((s,.bool !b)::ρ) x.dst undef) w)
  | some (.tuple _)=>C (put ρ x.dst undef) w
  | _=>False
def DT(P:Program)(S:World→Prop):GT→List Nat→Env→World→Post→Prop
 | .nil,L,ρ,w,Q=>Q .normal (restr L ρ) w
 | .one k x r,L,ρ,w,Q=>stepX P S k x ρ w fun ρ' w'=>DT P S r L ρ' w' Q
 | .alt x r q,L,ρ,w,Q=>(stepX P S 2 x ρ w fun ρ' w'=>DT P S r L ρ' w' Q)∧DT P S q L ρ w Q
 | .stop,_,_,_,_=>True
theorem stepX_cases{P:Program}{S:World→Prop}{N:Nat}{l:List Oper}{k i:Nat}{x:Ins}{o:Oper}{ρ:Env}{w:World}{a:Act}{C:Env→World→Prop}(ho:l[i]?=some o)(hx:insOf l i=some x)(hs:Sim N a ρ)(h:stepX P S k x ρ w C) :
  x.dst=o.dst∧x.op=o.op∧x.ty=o.type∧((∃ ρ',Sim N a ρ'∧Region.wanted o (yielded l.toArray a.tmps)=true∧opG P S k o.op o.type ρ' w fun v w'=>C (put ρ' o.dst v) w') ∨
   (∃ ρ',Sim N a ρ'∧Region.wanted o (yielded l.toArray a.tmps)=false∧C (put ρ' o.dst undef) w)):=by
 unfold insOf at hx
 rw [ho] at hx
 simp only at hx
 split at hx
 case h_2=>cases hx
 rename_i g hg
 simp only [Option.some.injEq] at hx
 subst hx
 refine ⟨rfl,rfl,rfl,?_⟩
 unfold stepX at h
 simp only at h
 cases hgo:o.guard with
 | none =>
  rw [hgo] at hg
  simp only [stripG,Option.some.injEq] at hg; subst hg
  exact .inl ⟨ρ,hs,by simp only [Region.wanted,hgo],h⟩
 | some jb =>
  obtain ⟨j,b⟩:=jb
  rw [hgo] at hg
  simp only [stripG] at hg
  split at hg
  case h_2=>cases hg
  rename_i s hs0
  simp only [Option.some.injEq] at hg; subst hg
  simp only at h
  split at h
  ·rename_i c hc
   have hy:=yielded_of hs hs0 hc
   by_cases hcb:c=b
   ·subst hcb
    exact .inl ⟨_,hs.know hc,by simp only [Region.wanted,hgo,hy,beq_self_eq_true],h.1 rfl⟩
   ·have hcb':c=!b:=bool_ne hcb
    have hc':lk ρ s=some (.bool !b):=by rw [← hcb']; exact hc
    exact .inr ⟨_,hs.know hc',by simp only [Region.wanted,hgo,hy]; simpa using hcb,h.2 hcb'⟩
  ·rename_i u hc
   exact .inr ⟨ρ,hs,by simp only [Region.wanted,hgo,yielded_undef hs hs0 hc]; rfl,h⟩
  ·exact h.elim
theorem stepX_op{P:Program}{S:World→Prop}{N:Nat}{l:List Oper}(hall:l.all (fun o=>okDst N o.dst)=true){hb:List Nat}{L:List Nat}{Q:Post}{i n:Nat}{x:Ins}{ρ:Env}{w:World}{a:Act}{listed:Array Bool}{C:Env→World→Prop}
  (hx:insOf l i=some x) (hs:Sim N a ρ) (hSw:S w) (h:stepX P S 2 x ρ w C)
  (hC:∀ ρ' a' w',Sim N a' ρ'→S w'→C ρ' w'→wpAnyG P .any l.toArray (drawQ N L Q) S hb n (listed.setIfInBounds i true) a' w') :
  wpOp P l.toArray (drawQ N L Q) i (fun a' w'=>(needB .any l.toArray hb i=true→S w→S w')∧wpAnyG P .any l.toArray (drawQ N L Q) S hb n (listed.setIfInBounds i true) a' w') a w:=by
 obtain ⟨o,ho⟩:∃ o,l[i]?=some o:=by
  unfold insOf at hx
  split at hx
  ·cases hx
  ·exact ⟨_,by assumption⟩
 have ho':l.toArray[i]?=some o:=by simpa using ho
 have hd:okDst N o.dst=true:=List.all_eq_true.1 hall o (List.mem_of_getElem? ho)
 obtain ⟨_,_,_,⟨ρ',hs',hw,h⟩ | ⟨ρ',hs',hw,h⟩⟩:=stepX_cases ho hx hs h
 ·exact wpOp_doneG ho' hw (opW_done (show opW P o.op o.type ρ' w _ from h.2) h.1 a.eval hs'.eval) fun v w' hk=>⟨fun _ _=>hk.1,hC _ _ _ (hs'.put hd v) hk.1 hk.2⟩
 ·exact wpOp_skip ho' hw ⟨fun _ h=>h,hC _ _ _ (hs'.put hd undef) hSw h⟩
theorem DT_sound{P:Program}{S:World→Prop}{N:Nat}{l:List Oper}(hall:l.all (fun o=>okDst N o.dst)=true)(hns:Region.noSelect l.toArray=true)(hb:List Nat)(L:List Nat)(Q:Post):∀ st:ST,
  (∀ (n:Nat) (gt:GT) (ρ:Env) (w:World) (a:Act) (listed:Array Bool),insT l st=some gt→schedT l.toArray hb st n true listed=true→Sim N a ρ→S w→DT P S gt L ρ w Q→wpAnyG P .any l.toArray (drawQ N L Q) S hb n listed a w) ∧
  (∀ (n:Nat) (gt:GT) (ρ:Env) (w:World) (a:Act) (listed:Array Bool),insT l st=some gt→schedT l.toArray hb st (n+1) false listed=true→Sim N a ρ→S w→DT P S gt L ρ w Q →
   ∀ j∈st.heads,wpOp P l.toArray (drawQ N L Q) j (fun a' w'=>(needB .any l.toArray hb j=true→S w→S w')∧wpAnyG P .any l.toArray (drawQ N L Q) S hb n (listed.setIfInBounds j true) a' w') a w):=by
 have hpan:∀ (d:Option Nat) (v:Value) c (a:Act) (w:World),drawQ N L Q (.panic c) (a.put d v) w→drawQ N L Q (.panic c) a w:=by
  rintro d v c a w ⟨_,_,hn,_⟩; cases hn
 intro st
 induction st with
 | nil =>
  refine ⟨fun n gt ρ w a listed hi hok hs hSw h=>?_,fun n gt ρ w a listed hi hok hs hSw h j hj=>by cases hj⟩
  simp only [insT,Option.some.injEq] at hi; subst hi
  simp only [schedT,Bool.and_eq_true,beq_iff_eq,List.isEmpty_iff,true_and] at hok
  obtain ⟨rfl,hr⟩:=hok
  exact ⟨hr,ρ,hs,rfl,h⟩
 | stop =>
  refine ⟨fun n gt ρ w a listed hi hok hs hSw h=>?_,fun n gt ρ w a listed hi hok hs hSw h j hj=>by cases hj⟩
  simp [schedT] at hok
 | one k i r ih =>
  refine ⟨fun n gt ρ w a listed hi hok hs hSw h=>?_,fun n gt ρ w a listed hi hok hs hSw h j hj=>by cases hj⟩
  simp only [insT] at hi
  split at hi
  case h_2=>cases hi
  rename_i x t hx ht
  simp only [Option.some.injEq] at hi; subst hi
  obtain ⟨o,ho⟩:∃ o,l[i]?=some o:=by
   unfold insOf at hx
   split at hx
   ·cases hx
   ·exact ⟨_,by assumption⟩
  have ho':l.toArray[i]?=some o:=by simpa using ho
  have hd:okDst N o.dst=true:=List.all_eq_true.1 hall o (List.mem_of_getElem? ho)
  simp only [DT] at h
  match k,hok,h with
  | 0,hok,h =>
   simp only [schedT,Bool.and_eq_true,bne_iff_ne,ne_eq,true_and] at hok
   obtain ⟨m,rfl⟩:∃ m,n=m+1:=⟨n - 1,by omega⟩
   rw [Nat.add_sub_cancel] at hok
   obtain ⟨_,_,_,⟨ρ',hs',hw,h⟩ | ⟨ρ',hs',hw,h⟩⟩:=stepX_cases ho hx hs h
   ·obtain ⟨v,hv,hk⟩:=pureW_runs (show pureW P o.op o.type ρ' w _ from h)
    refine wpAnyG_take (T:=fun _=>True) ho' hns hok.1.2 hok.1.1.2 (.inl fun _=>trivial) (hpan _ _) (.inl ⟨hw,fun w' _=>?_⟩) trivial (ih.1 m t _ w _ _ ht hok.2 (hs'.put hd v) hSw hk)
    rw [execOp_raw]; exact hv a.eval hs'.eval w'
   ·exact wpAnyG_take (T:=fun _=>True) ho' hns hok.1.2 hok.1.1.2 (.inl fun _=>trivial) (hpan _ _) (.inr ⟨hw,rfl⟩) trivial (ih.1 m t _ w _ _ ht hok.2 (hs'.put hd undef) hSw h)
  | 1,hok,h =>
   simp only [schedT,Bool.and_eq_true,bne_iff_ne,ne_eq,true_and,List.contains_iff_mem] at hok
   obtain ⟨m,rfl⟩:∃ m,n=m+1:=⟨n - 1,by omega⟩
   rw [Nat.add_sub_cancel] at hok
   obtain ⟨_,_,_,⟨ρ',hs',hw,h⟩ | ⟨ρ',hs',hw,h⟩⟩:=stepX_cases ho hx hs h
   ·obtain ⟨v,hv,hk⟩:=opH_runs (show opH P S o.op o.type ρ' w _ from h)
    refine wpAnyG_take (T:=S) ho' hns hok.1.2 (by simpa using hok.1.1.2) (.inr ⟨hok.1.1.1.2,rfl⟩) (hpan _ _) (.inl ⟨hw,fun w' hw'=>?_⟩) hSw (ih.1 m t _ w _ _ ht hok.2 (hs'.put hd v) hSw hk)
    rw [execOp_raw]; exact hv a.eval hs'.eval w' hw'
   ·exact wpAnyG_take (T:=fun _=>True) ho' hns hok.1.2 (by simpa using hok.1.1.2) (.inl fun _=>trivial) (hpan _ _) (.inr ⟨hw,rfl⟩) trivial (ih.1 m t _ w _ _ ht hok.2 (hs'.put hd undef) hSw h)
  | 2,hok,h =>
   simp only [schedT,Bool.and_eq_true,bne_iff_ne,ne_eq,true_and,beq_iff_eq] at hok
   obtain ⟨m,rfl⟩:∃ m,n=m+1:=⟨n - 1,by omega⟩
   rw [Nat.add_sub_cancel] at hok
   refine wpAnyG_all hok.1.2 (by simp) fun j hj=>?_
   simp only [List.mem_singleton] at hj; subst hj
   exact stepX_op hall hx hs hSw h fun ρ' a' w' hs' hSw' hC=>ih.1 m t ρ' w' a' _ ht hok.2 hs' hSw' hC
  | k+3,hok,h=>simp [schedT] at hok
 | alt i r q ihr ihq =>
  have step:∀ (n:Nat) (top:Bool) (gt:GT) (ρ:Env) (w:World) (a:Act) (listed:Array Bool),insT l (.alt i r q)=some gt→schedT l.toArray hb (.alt i r q) (n+1) top listed=true→Sim N a ρ→S w→DT P S gt L ρ w Q →
    ∀ j∈(ST.alt i r q).heads,wpOp P l.toArray (drawQ N L Q) j (fun a' w'=>(needB .any l.toArray hb j=true→S w→S w')∧wpAnyG P .any l.toArray (drawQ N L Q) S hb n (listed.setIfInBounds j true) a' w') a w:=by
   intro n top gt ρ w a listed hi hok hs hSw h j hj
   simp only [insT] at hi
   split at hi
   case h_2=>cases hi
   rename_i x t u hx ht hu
   simp only [Option.some.injEq] at hi; subst hi
   simp only [schedT,Bool.and_eq_true,Nat.add_sub_cancel] at hok
   obtain ⟨h1,h2⟩:=h
   rcases List.mem_cons.1 hj with rfl | hj
   ·exact stepX_op hall hx hs hSw h1 fun ρ' a' w' hs' hSw' hC=>ihr.1 n t ρ' w' a' _ ht hok.1.2 hs' hSw' hC
   ·exact ihq.2 n u ρ w a listed hu hok.2 hs hSw h2 j hj
  refine ⟨fun n gt ρ w a listed hi hok hs hSw h=>?_,fun n gt ρ w a listed hi hok hs hSw h j hj=>step n false gt ρ w a listed hi hok hs hSw h j hj⟩
  have hok2:=hok
  simp only [schedT,Bool.and_eq_true,bne_iff_ne,ne_eq,Bool.not_true,Bool.false_or,beq_iff_eq] at hok2
  obtain ⟨m,rfl⟩:∃ m,n=m+1:=⟨n - 1,by omega⟩
  exact wpAnyG_all hok2.1.1.1 (by simp) fun j hj=>step m true gt ρ w a listed hi hok hs hSw h j hj
theorem drawW_tree{P:Program}{l:List Oper}{L:List Nat}{ρ:Env}{w:World}{Q:Post}(hb:List Nat)(st:ST)(gt:GT)(hm:P.follows .mixedOrders=true)
  (hi:insT l st=some gt) (hok:(Region.noSelect l.toArray && schedT l.toArray hb st l.length true (Array.replicate l.length false))=true)
  (S:World→Prop) (hS:S w.drew) (h:DT P S gt L ρ w.drew Q):drawW P l L ρ w Q:=by
 intro N a hall hs
 simp only [Bool.and_eq_true] at hok
 refine ops_of_any hm (wpAny_of_G (S:=S) (hb:=hb) _ _ _ _ ?_)
 have:=(DT_sound (S:=S) hall hok.1 hb L Q st).1 l.length gt ρ w.drew a (Array.replicate l.length false) hi hok.2 hs hS h
 have e:l.toArray.size=l.length:=by simp
 rw [e]
 exact this
section
variable {P:Program} {S:World→Prop} {w:World} {ρ:Env} {Q:Post} {r q:GT} {L:List Nat} {d:Option Nat} {ty:TypeId} {k:Nat} {op:Op} {s:Nat} {b c:Bool} {x:Ins}
def DTn(P:Program)(S:World→Prop)(r:GT)(L:List Nat)(ρ:Env)(d:Option Nat)(Q:Post):Value→World→Prop:=fun v w=>DT P S r L (put ρ d v) w Q
def DTs(P:Program)(S:World→Prop)(r:GT)(L:List Nat)(ρ:Env)(d:Option Nat)(Q:Post):Value→World→Prop:=fun v w=>S w∧DT P S r L (put ρ d v) w Q
def opT(P:Program)(S:World→Prop)(k:Nat)(op:Op)(ty:TypeId)(r:GT)(L:List Nat)(ρ:Env)(d:Option Nat)(w:World)(Q:Post):Prop:=opG P S k op ty ρ w (DTn P S r L ρ d Q)
def dT(P:Program)(S:World→Prop)(o:Option Value)(s:Nat)(b:Bool)(k:Nat)(d:Option Nat)(op:Op)(ty:TypeId)(r:GT)(L:List Nat)(ρ:Env)(w:World)(Q:Post):Prop :=
 match o with
 | some (.bool c)=>(c=b→opT P S k op ty r L ((s,.bool b)::ρ) d w Q)∧(c=!b→DT P S r L (put ((s,.bool !b)::ρ) d undef) w Q)
 | some (.tuple _)=>DT P S r L (put ρ d undef) w Q
 | _=>False
def nxT(P:Program)(S:World→Prop)(k:Nat)(x:Ins)(r:GT)(L:List Nat)(ρ:Env)(w:World)(Q:Post):Prop:=stepX P S k x ρ w fun ρ' w'=>DT P S r L ρ' w' Q
theorem DT_nil:DT P S .nil L ρ w Q=Q .normal (restr L ρ) w:=(rfl)
theorem DT_stop:DT P S .stop L ρ w Q=True:=(rfl)
theorem DT_one:DT P S (.one k x r) L ρ w Q=nxT P S k x r L ρ w Q:=(rfl)
theorem DT_alt:DT P S (.alt x r q) L ρ w Q=(nxT P S 2 x r L ρ w Q∧DT P S q L ρ w Q):=(rfl)
theorem nxT_plain:nxT P S k ⟨d,op,ty,none⟩ r L ρ w Q=opT P S k op ty r L ρ d w Q:=(rfl)
theorem nxT_guard:nxT P S k ⟨d,op,ty,some (s,b)⟩ r L ρ w Q=dT P S (lk ρ s) s b k d op ty r L ρ w Q:=by
 simp only [nxT,stepX,dT]; rfl
theorem DTn_app{v:Value}:DTn P S r L ρ d Q v w=DT P S r L (put ρ d v) w Q:=(rfl)
theorem DTs_app{v:Value}:DTs P S r L ρ d Q v w=(S w∧DT P S r L (put ρ d v) w Q):=(rfl)
theorem opT_0:opT P S 0 op ty r L ρ d w Q=pureW P op ty ρ w (DTn P S r L ρ d Q):=(rfl)
theorem opT_1{t:TypeId}{x:Operand}:opT P S 1 (.load t x) ty r L ρ d w Q=ptrW (fun p=>heldW P S t p w (DTn P S r L ρ d Q)) (ev ρ x):=(rfl)
theorem opT_2:opT P S 2 op ty r L ρ d w Q=(noY ρ op∧opW P op ty ρ w (DTs P S r L ρ d Q)):=(rfl)
theorem dT_t:dT P S (some (.bool true)) s true k d op ty r L ρ w Q=opT P S k op ty r L ((s,.bool true)::ρ) d w Q:=by simp [dT]
theorem dT_f:dT P S (some (.bool false)) s false k d op ty r L ρ w Q=opT P S k op ty r L ((s,.bool false)::ρ) d w Q:=by simp [dT]
theorem dT_tf:dT P S (some (.bool true)) s false k d op ty r L ρ w Q=DT P S r L (put ((s,.bool true)::ρ) d undef) w Q:=by simp [dT]
theorem dT_ft:dT P S (some (.bool false)) s true k d op ty r L ρ w Q=DT P S r L (put ((s,.bool false)::ρ) d undef) w Q:=by simp [dT]
theorem dT_gen:dT P S (some (.bool c)) s b k d op ty r L ρ w Q=((c=b→opT P S k op ty r L ((s,.bool b)::ρ) d w Q)∧(c=!b→DT P S r L (put ((s,.bool !b)::ρ) d undef) w Q)):=(rfl)
theorem dT_undef:dT P S (some undef) s b k d op ty r L ρ w Q=DT P S r L (put ρ d undef) w Q:=(rfl)
end
attribute [go_sem low] dT_gen
attribute [go_sem] DT_nil DT_stop DT_one DT_alt nxT_plain nxT_guard DTn_app DTs_app opT_0 opT_1 opT_2 dT_t dT_f dT_tf dT_ft dT_undef
end Go.Ann

namespace Go.Ann
open Go Go.RowKit
section
variable {κ:Type} {P:Program} {enc:κ→Value} {t:TypeId}
def entL(enc:κ→Value):Nat→List κ→List MapEntry
 | _,[]=>[]
 | n,k::l=>{ key:=enc k,val:=.bool true,born:=n }::entL enc (n+1) l
def mapO(enc:κ→Value)(l:List κ):Obj:=.map (entL enc 0 l).toArray l.length
theorem entL_append:∀ (l m:List κ) (n:Nat),entL enc n (l++m)=entL enc n l++entL enc (n+l.length) m
 | [],m,n=>rfl
 | k::l,m,n=>by
  simp only [List.cons_append,entL,List.length_cons]
  rw [entL_append l m (n+1),show n+1+l.length=n+(l.length+1) by omega]
theorem mmW_map{m:TypeId}{w:World}{K:Value→World→Prop}(hK:K (.map (some w.heap.size)) (w.alloc (mapO (κ:=κ) enc []))):mmW P m w K:=by
 refine ⟨_,_,?_,hK⟩
 unfold Instr.makeMap
 simp [Sem.run_bind,Result.andThen,run_newObj_alloc]
 rfl
variable [DecidableEq κ]
structure KeyT(P:Program)(t:TypeId)(enc:κ→Value)(d:TypeDesc):Prop where
 und:P.underlying t=some d
 chk':∀ (n:Nat) (w:World) (em:Bool) (a:κ),(Instr.checkKey em (n+2) t (enc a)).run P w=.ok () w
 now:∀ a b:κ,Instr.sameNow d (enc a) (enc b)=none∨Instr.sameNow d (enc a) (enc b)=some (decide (a=b))
 eq:∀ (w:World) (a b:κ),(Op.equal t (enc a) (enc b)).run P w=.ok (decide (a=b)) w
theorem KeyT.chk{d:TypeDesc}(h:KeyT P t enc d)(w:World)(em:Bool)(a:κ):(Instr.checkKey em 10000 t (enc a)).run P w=.ok () w:=h.chk' 9998 w em a
def whereK(a:κ):List κ→Nat→Option (Nat × Value)
 | [],_=>none
 | b::l,i=>if a=b then some (i,.bool true) else whereK a l (i+1)
theorem whereK_not{a:κ}:∀ {l:List κ} {i:Nat},a ∉ l→whereK a l i=none
 | [],_,_=>rfl
 | b::l,i,h=>by
  rw [whereK,if_neg (fun e=>h (by rw [e]; exact List.mem_cons_self ..)),whereK_not fun hm=>h (List.mem_cons_of_mem _ hm)]
theorem whereK_mem{a:κ}:∀ {l:List κ} {i:Nat},a∈l→∃ j,whereK a l i=some (j,.bool true)
 | b::l,i,h=>by
  rw [whereK]
  split
  ·exact ⟨_,rfl⟩
  ·rename_i hne
   rcases List.mem_cons.1 h with e | h
   ·exact absurd e hne
   ·exact whereK_mem h
variable {d:TypeDesc}
theorem findNow_ent(hk:KeyT P t enc d)(a:κ):∀ (l:List κ) (n i:Nat),Instr.findNow d (enc a) (entL enc n l) i=none∨Instr.findNow d (enc a) (entL enc n l) i=some (whereK a l i)
 | [],n,i=>.inr rfl
 | b::l,n,i=>by
  simp only [entL,Instr.findNow,whereK]
  rcases hk.now a b with h | h
  ·exact .inl (by rw [h])
  ·rw [h]
   by_cases e:a=b
   ·rw [decide_eq_true e,if_pos e]; exact .inr rfl
   ·rw [decide_eq_false e,if_neg e]; exact findNow_ent hk a l _ _
theorem findAsk_ent(hk:KeyT P t enc d)(w:World)(a:κ):∀ (l:List κ) (n i:Nat),(Instr.findAsking t (enc a) (entL enc n l) i).run P w=.ok (whereK a l i) w
 | [],n,i=>rfl
 | b::l,n,i=>by
  simp only [entL,Instr.findAsking,whereK,Sem.run_bind,hk.eq w a b,Result.andThen_ok]
  by_cases e:a=b
  ·rw [decide_eq_true e,if_pos e]; rfl
  ·rw [decide_eq_false e,if_neg e]
   simp only [Bool.false_eq_true,if_false]
   exact findAsk_ent hk w a l _ _
theorem findKey_ent(hk:KeyT P t enc d)(w:World)(a:κ)(l:List κ)(n:Nat):(Instr.findKey t (enc a) (entL enc n l)).run P w=.ok (whereK a l 0) w:=by
 unfold Instr.findKey
 simp only [Sem.run_bind,run_underlying hk.und,Result.andThen_ok]
 rcases findNow_ent hk a l n 0 with h | h
 ·rw [h]; exact findAsk_ent hk w a l n 0
 ·rw [h]; rfl
theorem luW_map{m e:TypeId}{w:World}{K:Value→World→Prop}{r:Nat}(hk:KeyT P t enc d)(hm:P.underlying m=some (.map t e)){l:List κ}(hr:w.heap[r]?=some (mapO enc l))(a:κ)
  (hz:(zeroValue e).run P w=.ok (.bool false) w) (hK:K (.bool (decide (a∈l))) w):luW P m (.map (some r)) (enc a) false w K:=by
 refine ⟨_,_,?_,hK⟩
 unfold Instr.lookup
 have hg:(getObj r).run P w=.ok (.map (entL enc 0 l).toArray l.length) w:=run_getObj_map w r _ _ hr
 simp only [Sem.run_bind,run_underlying hm,Result.andThen_ok,hg,Sem.run_pure,hk.chk,findKey_ent hk,List.toList_toArray]
 by_cases h:a∈l
 ·obtain ⟨j,hj⟩:=whereK_mem (i:=0) h
  rw [hj,decide_eq_true h]; rfl
 ·rw [whereK_not h,decide_eq_false h]
  simp only [Sem.run_bind,hz,Result.andThen_ok]
  rfl
theorem muW_map{m e:TypeId}{w:World}{K:Value→World→Prop}{r:Nat}(hk:KeyT P t enc d)(hm:P.underlying m=some (.map t e)){l:List κ}(hr:w.heap[r]?=some (mapO enc l))(a:κ)(ha:a ∉ l)
  (hK:K undef (w.putObj r (mapO enc (l++[a])))):muW P m (.map (some r)) (enc a) (.bool true) w K:=by
 refine ⟨_,?_,hK⟩
 unfold Instr.mapUpdate
 have hg:(getObj r).run P w=.ok (.map (entL enc 0 l).toArray l.length) w:=run_getObj_map w r _ _ hr
 simp only [Sem.run_bind,run_underlying hm,Result.andThen_ok,hg,Sem.run_pure,hk.chk,findKey_ent hk,List.toList_toArray,whereK_not ha]
 have e:(entL enc 0 l).toArray.push { key:=enc a,val:=Value.bool true,born:=l.length }=(entL enc 0 (l++[a])).toArray:=by
  rw [entL_append,Nat.zero_add]; simp [entL]
 rw [e]
 have hs:∀ o,(setObj r o).run P w=.ok () (w.putObj r o):=fun o=>by simp [setObj,Sem.run,hr,mapO,World.putObj]
 rw [hs]
 show _=Result.ok () (w.putObj r (.map _ (l++[a]).length))
 rw [List.length_append]; rfl
end
section
variable {P:Program} {t:TypeId}
theorem keyT_str(ht:P.underlying t=some .string):KeyT P t (fun l:List UInt8=>.string (ofL l)) .string:=by
 refine ⟨ht,fun n w em a=>?_,fun a b=>.inr ?_,fun w a b=>?_⟩
 ·simp only [Instr.checkKey,Sem.run_bind,run_underlying ht,Result.andThen_ok]; rfl
 ·simp only [Instr.sameNow,Option.some.injEq]
  rw [Bool.eq_iff_iff,MapKept.bytes_beq,decide_eq_true_eq]
  exact ⟨ofL_inj,congrArg ofL⟩
 ·show (Op.equalIn 10000 t _ _).run P w=_
  rw [run_equalIn_string w 9999 t _ _ ht]
  congr 1
  rw [ByteArray.toList_eq,ByteArray.toList_eq,Bool.eq_iff_iff]; simp [ofL]
end
end Go.Ann

namespace Go.Ann
open Go Go.RowKit
attribute [go_sem] storeW_fill List.setIfInBounds_toArray List.set_cons_zero List.set_cons_succ List.getElem_toArray List.getElem_cons_zero List.getElem_cons_succ Nat.reduceLeDiff Nat.reduceSub okSt_nil okSt_cons fillO_some fillO_none cF_same cF_blk fF_any size_fill Value.oneCell' Int.toNat_natCast Int.cast_ofNat_Int cast0 cast1 Int.natCast_add add_block add_off Classical.not_not decide_not Bool.not_eq_false decide_true decide_false Bool.true_beq Bool.false_beq beq_true beq_false Bool.true_bne Bool.false_bne Bool.bne_true Bool.bne_false decide_eq_true_eq Bool.not_eq_eq_eq_not Nat.mul_one List.size_toArray List.length_cons List.length_nil Nat.le_refl ldK_int ldK_bool ldK_str ldK_slice ldK_ptr ldK_map ldK_agg ldK_other ldO_int ldO_bool ldO_str ldO_slice ldO_ptr ldO_map ldO_other ldA_some cellsO_new cellsO_nil cellsC_some cellsO_drew cellsO_alloc cA_add cS_add cA_new cA_old fA_new fA_old setO_some cS_same cS_off cS_blk World.cell?_drew World.frozen?_drew World.frozen?_setCell World.size_alloc World.size_drew World.size_setCell heldX_eq heldX_add chg_refl chg_drew ovr_nil ovr_cons Option.getD_some Option.getD_none Addr.add_lit Nat.add_zero Option.some.injEq exists_eq' exists_eq_left' Value.int.injEq Value.bool.injEq Value.pointer.injEq Value.string.injEq
end Go.Ann
section
attribute [go_sem_proc] reduceCtorEq Nat.reduceBEq Nat.reduceEqDiff Nat.reduceAdd Nat.reduceMul Int.reduceNe Int.reduceEq Int.reduceLT Int.reduceLE Int.reduceNeg Int.reduceAdd Int.reduceSub Int.reduceMul Int.reduceToNat
attribute [go_sem_proc ↓] reduceIte
attribute [go_sem] beq_self_eq_true
end

namespace Go.Ann
open Go Go.RowKit
attribute [go_sem_proc] reduceCtorEq Nat.reduceBEq Nat.reduceEqDiff Nat.reduceAdd Nat.reduceMul Int.reduceNe Int.reduceEq Int.reduceLT Int.reduceLE Int.reduceNeg Int.reduceAdd Int.reduceSub Int.reduceMul Int.reduceToNat
attribute [go_sem_proc ↓] reduceIte
attribute [go_sem] beq_self_eq_true
section
variable {κ ν:Type} {P:Program} {ek:κ→Value} {ev:ν→Value} {t:TypeId}
def entG(ek:κ→Value)(ev:ν→Value)(x:κ × ν × Nat):MapEntry:={ key:=ek x.1,val:=ev x.2.1,born:=x.2.2 }
def mapG(ek:κ→Value)(ev:ν→Value)(l:List (κ × ν × Nat))(c:Nat):Obj:=.map (l.map (entG ek ev)).toArray c
theorem mmG{m:TypeId}{w:World}{K:Value→World→Prop}(hK:K (.map (some w.heap.size)) (w.alloc (mapG ek ev [] 0))):mmW P m w K:=by
 refine ⟨_,_,?_,hK⟩
 unfold Instr.makeMap
 simp [Sem.run_bind,Result.andThen,run_newObj_alloc]
 rfl
variable [DecidableEq κ]
def getM(a:κ):List (κ × ν × Nat)→Option ν
 | []=>none
 | x::l=>if a=x.1 then some x.2.1 else getM a l
def setM(a:κ)(v:ν)(c:Nat):List (κ × ν × Nat)→List (κ × ν × Nat)
 | []=>[(a,v,c)]
 | x::l=>if a=x.1 then (x.1,v,x.2.2)::l else x::setM a v c l
def whereM(ev:ν→Value)(a:κ):List (κ × ν × Nat)→Nat→Option (Nat × Value)
 | [],_=>none
 | x::l,i=>if a=x.1 then some (i,ev x.2.1) else whereM ev a l (i+1)
theorem whereM_get(a:κ):∀ (l:List (κ × ν × Nat)) (i:Nat),(whereM ev a l i).map Prod.snd=(getM a l).map ev
 | [],_=>rfl
 | x::l,i=>by
  simp only [whereM,getM]
  split
  ·rfl
  ·exact whereM_get a l (i+1)
variable {d:TypeDesc}
theorem findNow_G(hk:KeyT P t ek d)(a:κ):∀ (l:List (κ × ν × Nat)) (i:Nat),Instr.findNow d (ek a) (l.map (entG ek ev)) i=none∨Instr.findNow d (ek a) (l.map (entG ek ev)) i=some (whereM ev a l i)
 | [],i=>.inr rfl
 | b::l,i=>by
  simp only [List.map_cons,entG,Instr.findNow,whereM]
  rcases hk.now a b.1 with h | h
  ·exact .inl (by rw [h])
  ·rw [h]
   by_cases e:a=b.1
   ·rw [decide_eq_true e,if_pos e]; exact .inr rfl
   ·rw [decide_eq_false e,if_neg e]; exact findNow_G hk a l _
theorem findAsk_G(hk:KeyT P t ek d)(w:World)(a:κ):∀ (l:List (κ × ν × Nat)) (i:Nat),(Instr.findAsking t (ek a) (l.map (entG ek ev)) i).run P w=.ok (whereM ev a l i) w
 | [],i=>rfl
 | b::l,i=>by
  simp only [List.map_cons,entG,Instr.findAsking,whereM,Sem.run_bind,hk.eq w a b.1,Result.andThen_ok]
  by_cases e:a=b.1
  ·rw [decide_eq_true e,if_pos e]; rfl
  ·rw [decide_eq_false e,if_neg e]
   simp only [Bool.false_eq_true,if_false]
   exact findAsk_G hk w a l _
theorem findKey_G(hk:KeyT P t ek d)(w:World)(a:κ)(l:List (κ × ν × Nat)):(Instr.findKey t (ek a) (l.map (entG ek ev))).run P w=.ok (whereM ev a l 0) w:=by
 unfold Instr.findKey
 simp only [Sem.run_bind,run_underlying hk.und,Result.andThen_ok]
 rcases findNow_G (ev:=ev) hk a l 0 with h | h
 ·rw [h]; exact findAsk_G hk w a l 0
 ·rw [h]; rfl
def luG(ev:ν→Value)(z:Value):Option ν→Bool→Value
 | some v,true=>.tuple #[ev v,.bool true]
 | none,true=>.tuple #[z,.bool false]
 | some v,false=>ev v
 | none,false=>z
theorem luG_map{m e:TypeId}{w:World}{K:Value→World→Prop}{r c:Nat}{ok:Bool}{z:Value}(hk:KeyT P t ek d)(hm:P.underlying m=some (.map t e)){l:List (κ × ν × Nat)}(hr:w.heap[r]?=some (mapG ek ev l c))(a:κ)
  (hz:(zeroValue e).run P w=.ok z w) (hK:K (luG ev z (getM a l) ok) w):luW P m (.map (some r)) (ek a) ok w K:=by
 refine ⟨_,_,?_,hK⟩
 unfold Instr.lookup
 have hg:(getObj r).run P w=.ok (.map (l.map (entG ek ev)).toArray c) w:=run_getObj_map w r _ _ hr
 simp only [Sem.run_bind,run_underlying hm,Result.andThen_ok,hg,Sem.run_pure,hk.chk,findKey_G hk,List.toList_toArray]
 have h:=whereM_get (ev:=ev) a l 0
 cases hw:whereM ev a l 0 with
 | some p =>
  rw [hw] at h
  cases hg2:getM a l with
  | none=>rw [hg2] at h; cases h
  | some v =>
   rw [hg2] at h
   obtain ⟨pj,pv⟩:=p
   simp only [Option.map_some,Option.some.injEq] at h
   subst h
   cases ok <;> rfl
 | none =>
  rw [hw] at h
  cases hg2:getM a l with
  | some v=>rw [hg2] at h; cases h
  | none =>
   simp only [Sem.run_bind,hz,Result.andThen_ok]
   cases ok <;> rfl
theorem whereM_set(a:κ)(v:ν)(c:Nat):∀ (l:List (κ × ν × Nat)) (i j:Nat) (u:Value),whereM ev a l i=some (j,u)→i≤j∧j - i<l.length∧(∃ x,(l.map (entG ek ev))[j - i]?=some (entG ek ev x)∧x.1=a)∧(setM a v c l).map (entG ek ev)=(l.map (entG ek ev)).modify (j - i) (fun e=>{ e with key:=ek a,val:=ev v })
 | [],_,_,_,h=>by cases h
 | x::l,i,j,u,h=>by
  simp only [whereM] at h
  split at h
  ·rename_i e
   simp only [Option.some.injEq,Prod.mk.injEq] at h
   obtain ⟨rfl,rfl⟩:=h
   refine ⟨Nat.le_refl _,by simp,⟨x,by simp,e.symm⟩,?_⟩
   rw [show setM a v c (x::l)=(x.1,v,x.2.2)::l from if_pos e]
   simp only [Nat.sub_self,List.map_cons,List.modify_zero_cons,entG,e]
  ·rename_i e
   obtain ⟨h1,h2,⟨y,h3,h4⟩,h5⟩:=whereM_set a v c l (i+1) j u h
   have e1:j - i=(j - (i+1))+1:=by omega
   refine ⟨by omega,by simp only [List.length_cons]; omega,⟨y,?_,h4⟩,?_⟩
   ·rw [e1,List.map_cons,List.getElem?_cons_succ]; exact h3
   ·rw [e1]
    simp only [setM,if_neg e,List.map_cons,List.modify_succ_cons,h5]
theorem whereM_none{a:κ}(v:ν)(c:Nat):∀ {l:List (κ × ν × Nat)} {i:Nat},whereM ev a l i=none→setM a v c l=l++[(a,v,c)]∧getM a l=none
 | [],_,_=>⟨rfl,rfl⟩
 | x::l,i,h=>by
  simp only [whereM] at h
  split at h
  ·cases h
  ·rename_i e
   obtain ⟨h1,h2⟩:=whereM_none v c h
   exact ⟨by simp only [setM,if_neg e,h1,List.cons_append],by simp only [getM,if_neg e,h2]⟩
theorem muG_map{m e:TypeId}{w:World}{K:Value→World→Prop}{r c:Nat}(hk:KeyT P t ek d)(hm:P.underlying m=some (.map t e))(hs:∀ a:κ,Instr.sameBits 10000 (ek a) (ek a)=true){l:List (κ × ν × Nat)}(hr:w.heap[r]?=some (mapG ek ev l c))(a:κ)(v:ν)
  (hK:K undef (w.putObj r (mapG ek ev (setM a v c l) (if (getM a l).isSome then c else c+1)))):muW P m (.map (some r)) (ek a) (ev v) w K:=by
 have hg:(getObj r).run P w=.ok (.map (l.map (entG ek ev)).toArray c) w:=run_getObj_map w r _ _ hr
 have hs':∀ o,(setObj r o).run P w=.ok () (w.putObj r o):=fun o=>by simp [setObj,Sem.run,hr,mapG,World.putObj]
 cases hw:whereM ev a l 0 with
 | none =>
  obtain ⟨h1,h2⟩:=whereM_none v c hw
  refine ⟨_,?_,hK⟩
  unfold Instr.mapUpdate
  simp only [Sem.run_bind,run_underlying hm,Result.andThen_ok,hg,Sem.run_pure,hk.chk,findKey_G hk,List.toList_toArray,hw]
  rw [hs',h1]
  have e:(l.map (entG ek ev)).toArray.push { key:=ek a,val:=ev v,born:=c }=((l++[(a,v,c)]).map (entG ek ev)).toArray:=by
   rw [List.map_append]; simp [entG]
  rw [e,h2]; rfl
 | some p =>
  obtain ⟨j,u⟩:=p
  obtain ⟨_,h2,⟨x,h3,h4⟩,h5⟩:=whereM_set (ek:=ek) a v c l 0 j u hw
  rw [Nat.sub_zero] at h2 h3 h5
  have hsome:(getM a l).isSome=true:=by
   have:=whereM_get (ev:=ev) a l 0
   rw [hw] at this
   cases h:getM a l with
   | none=>rw [h] at this; cases this
   | some _=>rfl
  rw [if_pos hsome] at hK
  refine ⟨_,?_,hK⟩
  unfold Instr.mapUpdate
  simp only [Sem.run_bind,run_underlying hm,Result.andThen_ok,hg,Sem.run_pure,hk.chk,findKey_G hk,List.toList_toArray,hw]
  have e0:((((l.map (entG ek ev)).toArray)[j]?).map (·.key)).getD (ek a)=ek a:=by
   rw [List.getElem?_toArray,h3]; simp [entG,h4]
  have e1:(Instr.keyThatStays ((((l.map (entG ek ev)).toArray)[j]?).map (·.key)|>.getD (ek a)) (ek a)).run P w=.ok (ek a) w:=by
   rw [e0]; unfold Instr.keyThatStays; rw [if_pos (hs a)]; rfl
  rw [e1]
  simp only [Result.andThen_ok]
  rw [hs']
  unfold mapG
  rw [h5]
  congr 3
  apply Array.ext'
  simp [Array.toList_modify]
theorem keyT_int{ki:IntKind}(ht:P.underlying t=some (.int ki)):KeyT P t (fun n:Int=>.int ki n) (.int ki):=by
 refine ⟨ht,fun n w em a=>?_,fun a b=>.inr ?_,fun w a b=>?_⟩
 ·simp only [Instr.checkKey,Sem.run_bind,run_underlying ht,Result.andThen_ok]; rfl
 ·simp [Instr.sameNow]; rfl
 ·show (Op.equalIn 10000 t _ _).run P w=_
  rw [run_equalIn_int w 9999 t ki ki a b ht]
  rfl
end
section
variable {P:Program} {w:World} {K:Value→World→Prop}
theorem rgG{m t e:TypeId}{r clock:Nat}{es:Array MapEntry}(hm:P.underlying m=some (.map t e))(hr:w.heap[r]?=some (.map es clock))(hK:K (.pointer (some ⟨w.heap.size,0,none⟩)) (w.alloc (.mapIter (some r) clock #[] clock))):rgW P m (.map (some r)) w K:=by
 refine ⟨_,_,?_,hK⟩
 unfold Instr.range
 have hg:(getObj r).run P w=.ok (.map es clock) w:=run_getObj_map w r _ _ hr
 simp only [Sem.run_bind,run_underlying hm,Result.andThen_ok,hg,Sem.run_pure,run_newObj_alloc]
theorem nxG{ty q r since c0 clock:Nat}{seen:Array Nat}{es:Array MapEntry}(hq:w.heap[q]?=some (.mapIter (some r) since seen c0))(hr:w.heap[r]?=some (.map es clock))(hold:∀ x∈es.toList,x.born<since)(hsc:since≤c0)
  (h0:(leftOf es seen).size=0→K (.tuple #[.bool false]) w) (h1:∀ e∈(leftOf es seen).toList,∀ w1,(w1=w∨w1=w.drew)→K (.tuple #[.bool true,e.key,e.val]) (w1.putObj q (.mapIter (some r) since (seen.push e.born) clock))) :
  nxW P (.pointer (some ⟨q,0,none⟩)) false ty w K:=by
 rcases run_next_at w ty q r since c0 seen es clock hq hr hold hsc with ⟨h,hrun⟩ | ⟨e,he,w1,hw1,hrun⟩
 ·exact ⟨_,_,hrun,h0 h⟩
 ·exact ⟨_,_,hrun,h1 e he w1 hw1⟩
theorem enG{q r since clock:Nat}{seen:Array Nat}{es:Array MapEntry}{e:MapEntry}(hq:w.heap[q]?=some (.mapIter (some r) since (seen.push e.born) clock))(hr:w.heap[r]?=some (.map es clock))(he:e∈es.toList)(hn:(es.toList.map (·.born)).Nodup)
  (hK:K (.tuple #[e.key,e.val]) w):enW P (.pointer (some ⟨q,0,none⟩)) w K:=⟨_,_,run_entry_at w q r since seen es clock e hq hr he hn,hK⟩
def Same(X:Nat→Prop)(w0 w':World):Prop:=∀ b,X b→w'.heap[b]?=w0.heap[b]?
theorem Same.refl(X:Nat→Prop)(w:World):Same X w w:=fun _ _=>rfl
theorem heldS_held{X:Nat→Prop}{t:TypeId}{w0:World}{p:Addr}(h2:X p.block)(h3:loadW P t p w0 fun v _=>K v w):heldW P (Same X w0) t p w K:=by
 have key:∀ w' j,Same X w0 w'→w'.cell? (p.add j)=w0.cell? (p.add j):=fun w' j hc=>by
  have e:(p.add j).block=p.block:=by unfold Addr.add; split <;> rfl
  exact World.cell?_of_block (hc _ (by rw [e]; exact h2))
 have key0:∀ w',Same X w0 w'→w'.cell? p=w0.cell? p:=fun w' hc=>by have:=key w' 0 hc; simpa only [Addr.add_zero'] using this
 unfold heldW
 unfold loadW at h3 ⊢
 cases hk:tyK P t with
 | int k=>rw [hk] at h3; obtain ⟨n,hc,hK⟩:=h3; exact ⟨_,fun w' hw=>⟨n,(key0 w' hw).trans hc,rfl,rfl⟩,hK⟩
 | bool=>rw [hk] at h3; obtain ⟨n,hc,hK⟩:=h3; exact ⟨_,fun w' hw=>⟨n,(key0 w' hw).trans hc,rfl,rfl⟩,hK⟩
 | str=>rw [hk] at h3; obtain ⟨n,hc,hK⟩:=h3; exact ⟨_,fun w' hw=>⟨n,(key0 w' hw).trans hc,rfl,rfl⟩,hK⟩
 | slice u e=>rw [hk] at h3; obtain ⟨x,n,c,hc,hK⟩:=h3; exact ⟨_,fun w' hw=>⟨x,n,c,(key0 w' hw).trans hc,rfl,rfl⟩,hK⟩
 | ptr=>rw [hk] at h3; obtain ⟨n,hc,hK⟩:=h3; exact ⟨_,fun w' hw=>⟨n,(key0 w' hw).trans hc,rfl,rfl⟩,hK⟩
 | map=>rw [hk] at h3; obtain ⟨n,hc,hK⟩:=h3; exact ⟨_,fun w' hw=>⟨n,(key0 w' hw).trans hc,rfl,rfl⟩,hK⟩
 | agg n=>rw [hk] at h3; obtain ⟨cs,hc,hl,hK⟩:=h3; exact ⟨_,fun w' hw=>⟨cs,fun i v hv=>(key w' i hw).trans (hc i v hv),hl,rfl,rfl⟩,hK⟩
 | other=>rw [hk] at h3; obtain ⟨n,hc,hK⟩:=h3; exact ⟨_,fun w' hw=>⟨n,(key0 w' hw).trans hc,rfl,rfl⟩,hK⟩
 | none=>rw [hk] at h3; exact h3.elim
@[go_sem] theorem heldS_eq {X:Nat→Prop} {t:TypeId} {w0:World} {b i:Nat} (h2:X b):heldW P (Same X w0) t ⟨b,i,none⟩ w K=loadW P t ⟨b,i,none⟩ w0 fun v _=>K v w:=by
 apply propext
 exact ⟨fun ⟨v,h,hk⟩=>loadW_mono (h w0 (Same.refl _ _)) fun u hu=>by rw [hu.1]; exact hk,heldS_held h2⟩
end
end Go.Ann

namespace Go.Ann
open Go
abbrev zA:=@World.size_alloc
abbrev zB:=@World.size_drew
abbrev zC:=@World.size_setCell
abbrev zD:=@size_fill
abbrev zF:=@okFill_t
abbrev zG:=@okSize_t
end Go.Ann
namespace Go.Ann
open Go
abbrev zmv(a b c:Nat):Ins:=⟨some a,.move (.tmp b),c,none⟩
abbrev zmg(a b c d:Nat)(v:Bool):Ins:=⟨some a,.move (.tmp b),c,some (d,v)⟩
abbrev zas(a b c:Nat):Ins:=⟨some a,.assign (.tmp b),c,none⟩
abbrev zix(a t b c:Nat):Ins:=⟨some a,.indexAddr t (.tmp b) (.tmp c),0,none⟩
abbrev zld(a t b c:Nat):Ins:=⟨some a,.load t (.tmp b),c,none⟩
abbrev zfa(a t b c:Nat):Ins:=⟨some a,.fieldAddr t (.tmp b) c,0,none⟩
attribute [go_sem] zmv zmg zas zix zld zfa
end Go.Ann

end
