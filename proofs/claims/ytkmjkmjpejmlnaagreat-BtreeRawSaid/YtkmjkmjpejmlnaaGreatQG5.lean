/- Texts put together by program. -/
import Derived.Test.YtkmjkmjpejmlnaaGreatQG4
set_option linter.unusedSimpArgs false
set_option linter.unusedVariables false
set_option maxRecDepth 100000
noncomputable section

namespace Go.Proofs.YtkmjkmjpejmlnaaGreat
open Go Go.Ann Go.RowKit Go.WideShapes
theorem leq_not(a b:Txt):(Op.bytesLess a b || decide (a=b))=!Op.bytesLess b a:=by
 cases h:Op.bytesLess a b with
 | true =>
  cases hb:Op.bytesLess b a with
  | false=>rfl
  | true=>have:=lt_tr h hb; rw [lt_irr] at this; cases this
 | false =>
  cases hb:Op.bytesLess b a with
  | false=>have:=lt_tri h hb; subst this; simp
  | true =>
   simp only [Bool.false_or,Bool.not_true,decide_eq_false_iff_not]
   rintro rfl
   rw [lt_irr] at hb; cases hb
def metO(M:List Nat):Obj:=mapO intK (M.map fun n:Nat=>(n:Int))
theorem met_mem{M:List Nat}{a:Nat}:((a:Int)∈M.map fun n:Nat=>(n:Int))↔a∈M:=by
 constructor
 ·intro h
  obtain ⟨b,hb,e⟩:=List.mem_map.1 h
  obtain rfl:b=a:=by omega
  exact hb
 ·intro h
  exact List.mem_map.2 ⟨a,h,rfl⟩
theorem met_add{M:List Nat}{a:Nat}:mapO intK ((M.map fun n:Nat=>(n:Int))++[(a:Int)])=metO (M++[a]):=by
 unfold metO
 rw [List.map_append]; rfl
section
variable {W0 w:World} {F:Nat→Prop} {L:List Res} {I:List Inv} {e:En} {P:List (List UInt8)} {tb vb mb n:Nat} {i:Int}
abbrev vsC(tb mb:Nat)(v:Vis)(pv:Value):Array Value:=#[.pointer (some ⟨tb,0,none⟩),pv,.map (some mb),.int .i64 (v.depth:Nat),.string (ofL v.last),.bool v.any,.bool v.bad]
abbrev vsB(vb tb mb:Nat)(v:Vis)(pv:Value):Res:=.blk vb (vsC tb mb v pv) 125
set_option maxHeartbeats 2000000 in
theorem vleaf_ok{nd:Nd}{deep:Nat}{v:Vis}{pv kv vv cv:Value}(h:Pgr e P W0 w F (vsB vb tb mb v pv :: (ndR nd kv vv cv ++ L)) I)(form:NdForm nd)(hlf:nd.leaf = true)(hd:v.depth ≤ 1000 ∧ deep ≤ 1000) :
    Ret Tryz.prog 171 [.pointer (some ⟨vb,0,none⟩),.agg #[.bool nd.leaf,kv,vv,cv],.int .i64 deep] w fun _ w' => Pgr e P W0 w' F (vsB vb tb mb (leafV nd deep v) pv :: (ndR nd kv vv cv ++ L)) I:=by
  obtain ⟨ka,kc,rfl,_⟩:=own_slice (h.row 1 rfl)
  obtain ⟨va,vc,rfl,_⟩:=own_slice (h.row 2 rfl)
  obtain ⟨ca,cc,rfl,_⟩:=own_slice (h.row 3 rfl)
  have hvl:=(form.lf hlf).1
  have hkl:=form.few
  refine ent171 _ _ _ _ _ ?_
  simp (disch:=first|omega|exact zF rfl|exact zG rfl|exact fun h=>h|(simp only[zA,zB,zC,zD,bytesW];omega)) only[go_sem,c171S0,c171L0,c171S3]
  have h1:=h.box #[.bool nd.leaf,.slice ka nd.keys.length kc,.slice va nd.vals.length vc,.slice ca nd.kids.length cc] 119
  generalize w.heap.size = nb at h1 ⊢
  generalize w.alloc (.cells #[.bool nd.leaf,.slice ka nd.keys.length kc,.slice va nd.vals.length vc,.slice ca nd.kids.length cc] 119) = w1 at h1 ⊢
  obtain ⟨zl,hzl⟩:∃ zl,zl = nd.keys.zip nd.vals:=⟨_,rfl⟩
  have hzlen:zl.length = nd.keys.length:=by rw [hzl,List.length_zip]; omega
  have key3:∀ (v1:Vis) (w1:World),Pgr e P W0 w1 F (.blk nb #[.bool nd.leaf,.slice ka nd.keys.length kc,.slice va nd.vals.length vc,.slice ca nd.kids.length cc] 119 :: vsB vb tb mb v1 pv :: (ndR nd (.slice ka nd.keys.length kc) (.slice va nd.vals.length vc) (.slice ca nd.kids.length cc) ++ L)) I →
      W Tryz.prog (c171S3 ()) [(0,.pointer (some ⟨vb,0,none⟩)),(4,.pointer (some ⟨nb,0,none⟩))] w1 (finQ Tryz.prog [] fun _ w' => Pgr e P W0 w' F (vsB vb tb mb (leafGo zl v1) pv :: (ndR nd (.slice ka nd.keys.length kc) (.slice va nd.vals.length vc) (.slice ca nd.kids.length cc) ++ L)) I):=by
    intro v1 w1 h1
    have rn:=h1.rules 0 rfl
    simp (disch:=first|omega|exact zF rfl|exact zG rfl|exact fun h=>h|(simp only[zA,zB,zC,zD,bytesW];omega)) only[go_sem,c171S0,c171S3,c171S4,rn]
    refine W_loopU (fun k:Nat => [(29,.int .i64 k)]) (fun k w' => k ≤ nd.keys.length ∧ ∃ vk,leafGo zl v1 = leafGo (zl.drop k) vk ∧ Pgr e P W0 w' F (.blk nb #[.bool nd.leaf,.slice ka nd.keys.length kc,.slice va nd.vals.length vc,.slice ca nd.kids.length cc] 119 :: vsB vb tb mb vk pv :: (ndR nd (.slice ka nd.keys.length kc) (.slice va nd.vals.length vc) (.slice ca nd.kids.length cc) ++ L)) I) (fun k => nd.keys.length - k) 0 rfl ⟨Nat.zero_le _,v1,rfl,h1⟩ ?_
    clear h1 rn
    rintro k w2 ⟨hk,vk,hgo,h2⟩
    rw [hgo]
    by_cases hlt:k < nd.keys.length
    case neg =>
      have hlt':¬ (k:Int) < nd.keys.length:=by omega
      rw [List.drop_of_length_le (by omega),leafGo]
      simp (disch:=first|omega|exact zF rfl|exact zG rfl|exact fun h=>h|(simp only[zA,zB,zC,zD,bytesW];omega)) only[go_sem,c171S0,c171L0,c171S3,c171S4,c171L0,hlt']
      exact h2.sub (List.sublist_cons_self ..)
    have hlt':(k:Int) < nd.keys.length:=by omega
    have hrk:RdS w2 1 strE (.slice ka nd.keys.length kc) nd.keys:=RdS.of_own' (h2.row 2 rfl) nd.keys rfl rfl
    obtain ⟨p1,rfl⟩:=hrk.ptr (by omega)
    have ek:=RdS.at1 (e1:=fun r => .string (ofL r)) hrk hlt
    have hrv:RdS w2 1 strE (.slice va nd.vals.length vc) nd.vals:=RdS.of_own' (h2.row 3 rfl) nd.vals rfl rfl
    obtain ⟨p2,rfl⟩:=hrv.ptr (by omega)
    have ev:=RdS.at1 (e1:=fun r => .string (ofL r)) hrv (k:=k) (by omega)
    have hltv:(k:Int) < nd.vals.length:=by omega
    have hdk:zl.drop k = (nd.keys[k],nd.vals[k]) :: zl.drop (k + 1):=by
      rw [List.drop_eq_getElem_cons (by omega)]
      congr 1
      simp only [hzl,List.getElem_zip]
    have rn:=h2.rules 0 rfl
    have rv:=h2.rules 1 rfl
    have elq:=leq_not nd.keys[k] vk.last
    rw [hdk,leafGo]
    have tail:∀ (c:Bool) (w3:World) (Q:Post),Pgr e P W0 w3 F (.blk nb #[.bool nd.leaf,.slice (some p1) nd.keys.length kc,.slice (some p2) nd.vals.length vc,.slice ca nd.kids.length cc] 119 :: .blk vb #[.pointer (some ⟨tb,0,none⟩),pv,.map (some mb),.int .i64 (vk.depth:Nat),.string (ofL vk.last),.bool vk.any,.bool (vk.bad || c)] 125 :: (ndR nd (.slice (some p1) nd.keys.length kc) (.slice (some p2) nd.vals.length vc) (.slice ca nd.kids.length cc) ++ L)) I →
        (∀ w4,Pgr e P W0 w4 F (.blk nb #[.bool nd.leaf,.slice (some p1) nd.keys.length kc,.slice (some p2) nd.vals.length vc,.slice ca nd.kids.length cc] 119 :: vsB vb tb mb { vk with bad:=vk.bad || c,last:=nd.keys[k],any:=true } pv :: (ndR nd (.slice (some p1) nd.keys.length kc) (.slice (some p2) nd.vals.length vc) (.slice ca nd.kids.length cc) ++ L)) I → Q .normal [(0,Value.pointer (some ⟨vb,0,none⟩)),(4,Value.pointer (some ⟨nb,0,none⟩)),(27,Value.slice (some p1) nd.keys.length kc),(28,Value.int .i64 nd.keys.length),(29,Value.int .i64 k)] w4) →
        W Tryz.prog (c171S0 ()) [(0,Value.pointer (some ⟨vb,0,none⟩)),(4,Value.pointer (some ⟨nb,0,none⟩)),(7,Value.string (ofL nd.keys[k])),(27,Value.slice (some p1) nd.keys.length kc),(28,Value.int .i64 nd.keys.length),(29,Value.int .i64 k)] w3 Q:=by
      intro c w3 Q h3 hQ
      have r:=h3.rules 1 rfl
      simp (disch:=first|omega|exact zF rfl|exact zG rfl|exact fun h=>h|(simp only[zA,zB,zC,zD,bytesW];omega)) only[go_sem,c171S0,c171L0,c171S3,c171S4,r]
      exact hQ _ ((h3.set 1 rfl 4 (.string (ofL nd.keys[k]))).set 1 rfl 5 (.bool true))
    have h2':Pgr e P W0 w2 F (.blk nb #[.bool nd.leaf,.slice (some p1) nd.keys.length kc,.slice (some p2) nd.vals.length vc,.slice ca nd.kids.length cc] 119 :: .blk vb #[.pointer (some ⟨tb,0,none⟩),pv,.map (some mb),.int .i64 (vk.depth:Nat),.string (ofL vk.last),.bool vk.any,.bool (vk.bad || false)] 125 :: (ndR nd (.slice (some p1) nd.keys.length kc) (.slice (some p2) nd.vals.length vc) (.slice ca nd.kids.length cc) ++ L)) I:=by
      rw [Bool.or_false]; exact h2
    have h2b:Pgr e P W0 (w2.setCell ⟨vb,6,none⟩ (.bool true)) F (.blk nb #[.bool nd.leaf,.slice (some p1) nd.keys.length kc,.slice (some p2) nd.vals.length vc,.slice ca nd.kids.length cc] 119 :: .blk vb #[.pointer (some ⟨tb,0,none⟩),pv,.map (some mb),.int .i64 (vk.depth:Nat),.string (ofL vk.last),.bool vk.any,.bool (vk.bad || true)] 125 :: (ndR nd (.slice (some p1) nd.keys.length kc) (.slice (some p2) nd.vals.length vc) (.slice ca nd.kids.length cc) ++ L)) I:=by
      rw [Bool.or_true]; exact h2.set 1 rfl 6 (.bool true)
    obtain ⟨cd,hcd⟩:∃ cd,cd = ((vk.any && !Op.bytesLess vk.last nd.keys[k]) || decide (nd.keys[k] = []) || decide (80 < nd.vals[k].length)):=⟨_,rfl⟩
    rw [← hcd]
    have h3:∃ b1 b2:Bool,Op.bytesLess nd.keys[k] vk.last = b1 ∧ (nd.keys[k] = vk.last) = (b2 = true) ∧ (b1 || b2) = !Op.bytesLess vk.last nd.keys[k]:=by
      refine ⟨_,decide (nd.keys[k] = vk.last),rfl,by simp,elq⟩
    obtain ⟨b1,b2,e1,e2,e3⟩:=h3
    have h4:∃ b3 b4:Bool,(nd.keys[k] = []) = (b3 = true) ∧ ((80:Int) < nd.vals[k].length) = (b4 = true) ∧ cd = ((vk.any && (b1 || b2)) || b3 || b4):=by
      refine ⟨decide (nd.keys[k] = []),decide (80 < nd.vals[k].length),by simp,by simp; omega,by rw [hcd,e3]⟩
    obtain ⟨b3,b4,e4,e5,e6⟩:=h4
    clear hcd elq e3
    have h8:(vk.any = true ∧ b1 = true) ∨ (vk.any = true ∧ b1 = false ∧ b2 = true) ∨ (vk.any = true ∧ b1 = false ∧ b2 = false ∧ b3 = true) ∨ (vk.any = true ∧ b1 = false ∧ b2 = false ∧ b3 = false ∧ b4 = true) ∨ (vk.any = true ∧ b1 = false ∧ b2 = false ∧ b3 = false ∧ b4 = false) ∨ (vk.any = false ∧ b3 = true) ∨ (vk.any = false ∧ b3 = false ∧ b4 = true) ∨ (vk.any = false ∧ b3 = false ∧ b4 = false):=by
      cases vk.any <;> cases b1 <;> cases b2 <;> cases b3 <;> cases b4 <;> decide
    rcases h8 with ⟨ha,rfl⟩ | ⟨ha,rfl,rfl⟩ | ⟨ha,rfl,rfl,rfl⟩ | ⟨ha,rfl,rfl,rfl,rfl⟩ | ⟨ha,rfl,rfl,rfl,rfl⟩ | ⟨ha,rfl⟩ | ⟨ha,rfl,rfl⟩ | ⟨ha,rfl,rfl⟩
    all_goals
      rw [ha] at e6
      simp only [Bool.or_self,Bool.or_true,Bool.true_or,Bool.or_false,Bool.false_or,Bool.true_and,Bool.false_and] at e6
      simp (disch:=first|omega|exact zF rfl|exact zG rfl|exact fun h=>h|(simp only[zA,zB,zC,zD,bytesW];omega)) only[go_sem,c171L0,c171S3,c171S4,c171L0,hlt',ek,rn,rv,ev,hltv,ha,e1,e2,e4,e5,Bool.or_self,Bool.or_true,Bool.true_or,Bool.or_false,Bool.false_or]
      subst e6
      first
        | (refine ⟨by omega,tail true _ _ h2b fun w4 h4 => ?_⟩
           simp (disch:=first|omega|exact zF rfl|exact zG rfl|exact fun h=>h|(simp only[zA,zB,zC,zD,bytesW];omega)) only[go_sem,c171S0,c171L0,c171S3,c171S4]
           exact ⟨⟨by omega,by omega⟩,k + 1,rfl,⟨hlt,_,rfl,h4⟩,by omega⟩)
        | (refine ⟨by omega,by omega,tail true _ _ h2b fun w4 h4 => ?_⟩
           simp (disch:=first|omega|exact zF rfl|exact zG rfl|exact fun h=>h|(simp only[zA,zB,zC,zD,bytesW];omega)) only[go_sem,c171S0,c171L0,c171S3,c171S4]
           exact ⟨⟨by omega,by omega⟩,k + 1,rfl,⟨hlt,_,rfl,h4⟩,by omega⟩)
        | (refine ⟨by omega,by omega,tail false _ _ h2' fun w4 h4 => ?_⟩
           simp (disch:=first|omega|exact zF rfl|exact zG rfl|exact fun h=>h|(simp only[zA,zB,zC,zD,bytesW];omega)) only[go_sem,c171S0,c171L0,c171S3,c171S4]
           exact ⟨⟨by omega,by omega⟩,k + 1,rfl,⟨hlt,_,rfl,h4⟩,by omega⟩)
  have key4:∀ (v1:Vis) (w1:World),Pgr e P W0 w1 F (.blk nb #[.bool nd.leaf,.slice ka nd.keys.length kc,.slice va nd.vals.length vc,.slice ca nd.kids.length cc] 119 :: vsB vb tb mb v1 pv :: (ndR nd (.slice ka nd.keys.length kc) (.slice va nd.vals.length vc) (.slice ca nd.kids.length cc) ++ L)) I →
      W Tryz.prog (c171S4 ()) [(0,.pointer (some ⟨vb,0,none⟩)),(2,.int .i64 deep),(4,.pointer (some ⟨nb,0,none⟩))] w1 (finQ Tryz.prog [] fun _ w' => Pgr e P W0 w' F (vsB vb tb mb (leafGo zl (v1.spoil (decide (v1.depth ≠ deep)))) pv :: (ndR nd (.slice ka nd.keys.length kc) (.slice va nd.vals.length vc) (.slice ca nd.kids.length cc) ++ L)) I):=by
    intro v1 w1 h1
    have r:=h1.rules 1 rfl
    by_cases hdd:v1.depth = deep
    · have hdd':(v1.depth:Int) = deep:=by omega
      simp (disch:=first|omega|exact zF rfl|exact zG rfl|exact fun h=>h|(simp only[zA,zB,zC,zD,bytesW];omega)) only[go_sem,c171S0,c171L0,c171S4,r,hdd']
      refine key3 _ _ ?_
      rw [decide_eq_true hdd]
      unfold Vis.spoil
      simp only [Bool.not_true,Bool.or_false]
      exact h1
    · have hdd':¬ (v1.depth:Int) = deep:=by omega
      simp (disch:=first|omega|exact zF rfl|exact zG rfl|exact fun h=>h|(simp only[zA,zB,zC,zD,bytesW];omega)) only[go_sem,c171S0,c171L0,c171S4,r,hdd']
      refine key3 _ _ ?_
      rw [decide_eq_false hdd]
      unfold Vis.spoil
      simp only [Bool.not_false,Bool.or_true]
      exact h1.set 1 rfl 6 (.bool true)
  have r:=h1.rules 1 rfl
  unfold leafV
  rw [← hzl]
  by_cases hd0:v.depth = 0
  · have hd0':(v.depth:Int) = 0:=by omega
    rw [if_pos hd0]
    generalize hvf:leafGo zl _ = vf
    simp (disch:=first|omega|exact zF rfl|exact zG rfl|exact fun h=>h|(simp only[zA,zB,zC,zD,bytesW];omega)) only[go_sem,c171S0,c171L0,c171S3,r,hd0']
    rw [← hvf]
    exact key4 { v with depth:=deep } _ (h1.set 1 rfl 3 (.int .i64 deep))
  · have hd0':¬ (v.depth:Int) = 0:=by omega
    rw [if_neg hd0]
    generalize hvf:leafGo zl _ = vf
    simp (disch:=first|omega|exact zF rfl|exact zG rfl|exact fun h=>h|(simp only[zA,zB,zC,zD,bytesW];omega)) only[go_sem,c171S0,c171L0,c171S3,r,hd0']
    rw [← hvf]
    exact key4 v _ h1
end
open Go Go.Ann Go.RowKit Go.WideShapes
def PgOk(v:Vis):Prop:=v.pages.Nodup∧∀ a∈v.pages,a≤4294967296
theorem leafGo_pages:∀ (l:List Rec) (v:Vis),(leafGo l v).pages=v.pages∧(leafGo l v).depth=v.depth
 | [],_=>⟨rfl,rfl⟩
 | x::r,v=>by
  rw [leafGo]
  exact leafGo_pages r _
theorem leafV_ok{nd:Nd}{deep:Nat}{v:Vis}(h:PgOk v∧v.depth≤1000)(hd:deep≤1000):PgOk (leafV nd deep v)∧(leafV nd deep v).depth≤1000:=by
 unfold leafV PgOk
 rw [(leafGo_pages _ _).1,(leafGo_pages _ _).2]
 refine ⟨h.1,?_⟩
 show (if v.depth=0 then deep else v.depth)≤1000
 split
 ·exact hd
 ·exact h.2
theorem kidsV_ok{g:Nat→Txt→Txt→Bool→Vis→Vis}(hg:∀ a b c d v,a≤4294967296→PgOk v∧v.depth≤1000→PgOk (g a b c d v)∧(g a b c d v).depth≤1000)(keys:List Txt)(low high:Txt)(bound:Bool):∀ (ks:List Nat) (i:Nat) (v:Vis),(∀ k∈ks,k≤4294967296)→PgOk v∧v.depth≤1000→PgOk (kidsV g keys low high bound i ks v)∧(kidsV g keys low high bound i ks v).depth≤1000
 | [],_,_,_,h=>h
 | k::ks,i,v,hk,h=>by
  rw [kidsV]
  exact kidsV_ok hg keys low high bound ks _ _ (fun x hx=>hk x (List.mem_cons_of_mem _ hx)) (hg _ _ _ _ _ (hk k List.mem_cons_self) h)
theorem PgOk.add{v:Vis}{a:Nat}(h:PgOk v)(ha:a ∉ v.pages)(hb:a≤4294967296):PgOk { v with pages:=v.pages++[a] }:=by
 refine ⟨List.nodup_append.2 ⟨h.1,List.pairwise_singleton _ _,fun x hx y hy=>?_⟩,fun x hx=>?_⟩
 ·rw [List.mem_singleton] at hy; subst hy
  rintro rfl
  exact ha hx
 ·rcases List.mem_append.1 hx with hx | hx
  ·exact h.2 x hx
  ·rw [List.mem_singleton] at hx; subst hx; exact hb
theorem visit_pg(P:List Txt):∀ (g a:Nat) (low high:Txt) (bound:Bool) (v:Vis),g≤33→a≤4294967296→PgOk v∧v.depth≤1000→PgOk (visitP P g a low high bound v)∧(visitP P g a low high bound v).depth≤1000
 | 0,a,low,high,bound,v,_,_,h=>h
 | g+1,a,low,high,bound,v,hg,ha,h=>by
  rw [visitP]
  split
  ·exact h
  rename_i hmem
  have h1:PgOk { v with pages:=v.pages++[a] }:=h.1.add hmem ha
  split
  ·exact ⟨h1,h.2⟩
  rename_i n hn
  have form:=(ndP_form hn).1
  split
  ·exact leafV_ok ⟨h1,h.2⟩ (by omega)
  ·exact kidsV_ok (fun a b c d v ha hv=>visit_pg P g a b c d v (by omega) ha hv) _ _ _ _ _ _ _ (fun k hk=>Nat.le_trans (form.kid k hk) (by decide)) ⟨h1,h.2⟩
theorem PgOk.few{v:Vis}(h:PgOk v):v.pages.length≤4294967297:=by
 have:=nodup_few 4294967297 (v.pages.map fun n:Nat=>(n:Int)) (List.Pairwise.map _ (fun a b hab hc=>hab (by omega)) h.1) fun x hx=>by
  obtain ⟨y,hy,rfl⟩:=List.mem_map.1 hx
  have:=h.2 y hy
  omega
 rwa [List.length_map] at this
section
variable {W0 w:World} {F:Nat→Prop} {L:List Res} {I:List Inv} {e:En} {P:List (List UInt8)} {tb vb mb n:Nat} {i:Int}
abbrev vsR(vb tb mb:Nat)(v:Vis)(pv:Value):List Res:=[vsB vb tb mb v pv,.row pv 3 1 v.pages.length (v.pages.flatMap natE),.obj mb (metO v.pages)]
set_option maxHeartbeats 4000000 in
theorem vkeys_ok{nb kc vc cc deep:Nat}{ka va ca:Option Addr}{low high:Txt}{bound:Bool}{nd:Nd}{v:Vis}{pv:Value}{Q:Post}(h:Pgr e P W0 w F (.blk nb #[.bool nd.leaf,.slice ka nd.keys.length kc,.slice va nd.vals.length vc,.slice ca nd.kids.length cc] 119 :: (ndR nd (.slice ka nd.keys.length kc) (.slice va nd.vals.length vc) (.slice ca nd.kids.length cc) ++ trB tb e i :: (vsR vb tb mb v pv ++ L))) I)(form:NdForm nd)
    (hQ:∀ w',Pgr e P W0 w' F (.blk nb #[.bool nd.leaf,.slice ka nd.keys.length kc,.slice va nd.vals.length vc,.slice ca nd.kids.length cc] 119 :: (ndR nd (.slice ka nd.keys.length kc) (.slice va nd.vals.length vc) (.slice ca nd.kids.length cc) ++ trB tb e i :: (vsR vb tb mb (v.spoil ((List.range nd.keys.length).any (keyBad nd.keys low high bound))) pv ++ L))) I → Q (.exit 0) [(0,Value.pointer (some ⟨vb,0,none⟩)),(2,Value.int .i64 deep),(3,Value.string (ofL low)),(4,Value.string (ofL high)),(5,Value.bool bound),(12,Value.pointer (some ⟨nb,0,none⟩))] w') :
    W Tryz.prog (sg c133L0).loop [(0,Value.pointer (some ⟨vb,0,none⟩)),(2,Value.int .i64 deep),(3,Value.string (ofL low)),(4,Value.string (ofL high)),(5,Value.bool bound),(12,Value.pointer (some ⟨nb,0,none⟩)),(64,.slice ka nd.keys.length kc),(65,.int .i64 nd.keys.length),(66,.int .i64 0)] w Q:=by
  have hkl:=form.few
  refine W_loopU (fun k:Nat => [(66,.int .i64 k)]) (fun k w' => k ≤ nd.keys.length ∧ Pgr e P W0 w' F (.blk nb #[.bool nd.leaf,.slice ka nd.keys.length kc,.slice va nd.vals.length vc,.slice ca nd.kids.length cc] 119 :: (ndR nd (.slice ka nd.keys.length kc) (.slice va nd.vals.length vc) (.slice ca nd.kids.length cc) ++ trB tb e i :: (vsR vb tb mb (v.spoil ((List.range k).any (keyBad nd.keys low high bound))) pv ++ L))) I) (fun k => nd.keys.length - k) 0 rfl ⟨Nat.zero_le _,?_⟩ ?_
  · have e0:(v.spoil ((List.range 0).any (keyBad nd.keys low high bound))) = v:=by
      unfold Vis.spoil
      simp
    rw [e0]
    exact h
  clear h
  rintro k w2 ⟨hk,h2⟩
  by_cases hlt:k < nd.keys.length
  case neg =>
    have hlt':¬ (k:Int) < nd.keys.length:=by omega
    obtain rfl:k = nd.keys.length:=by omega
    simp (disch:=first|omega|exact zF rfl|exact zG rfl|exact fun h=>h|(simp only[zA,zB,zC,zD,bytesW];omega)) only[go_sem,c133L0,c133S3,c133L1,c133S8,c133S10,c133S11,c133S12,c133L0,hlt']
    exact hQ _ h2
  have hlt':(k:Int) < nd.keys.length:=by omega
  have hrk:RdS w2 1 strE (.slice ka nd.keys.length kc) nd.keys:=RdS.of_own' (h2.row 1 rfl) nd.keys rfl rfl
  obtain ⟨p1,rfl⟩:=hrk.ptr (by omega)
  have ek:=RdS.at1 (e1:=fun r => .string (ofL r)) hrk hlt
  have rn:=h2.rules 0 rfl
  have rv:=h2.rules 5 rfl
  have esp:v.spoil ((List.range (k + 1)).any (keyBad nd.keys low high bound)) = (v.spoil ((List.range k).any (keyBad nd.keys low high bound))).spoil (keyBad nd.keys low high bound k):=by
    rw [List.range_succ,List.any_append]
    unfold Vis.spoil
    simp [Bool.or_assoc]
  generalize v.spoil ((List.range k).any (keyBad nd.keys low high bound)) = v1 at h2 rv esp
  obtain ⟨cd,hcd⟩:∃ cd,cd = keyBad nd.keys low high bound k:=⟨_,rfl⟩
  rw [← hcd] at esp
  have h2f:Pgr e P W0 w2 F (.blk nb #[.bool nd.leaf,.slice (some p1) nd.keys.length kc,.slice va nd.vals.length vc,.slice ca nd.kids.length cc] 119 :: (ndR nd (.slice (some p1) nd.keys.length kc) (.slice va nd.vals.length vc) (.slice ca nd.kids.length cc) ++ trB tb e i :: (vsR vb tb mb (v1.spoil false) pv ++ L))) I:=by
    unfold Vis.spoil
    rw [Bool.or_false]; exact h2
  have h2t:Pgr e P W0 (w2.setCell ⟨vb,6,none⟩ (.bool true)) F (.blk nb #[.bool nd.leaf,.slice (some p1) nd.keys.length kc,.slice va nd.vals.length vc,.slice ca nd.kids.length cc] 119 :: (ndR nd (.slice (some p1) nd.keys.length kc) (.slice va nd.vals.length vc) (.slice ca nd.kids.length cc) ++ trB tb e i :: (vsR vb tb mb (v1.spoil true) pv ++ L))) I:=by
    unfold Vis.spoil
    rw [Bool.or_true]
    exact h2.set 5 rfl 6 (.bool true)
  have eg:nd.keys.getD k [] = nd.keys[k]:=by rw [List.getD_eq_getElem?_getD,List.getElem?_eq_getElem hlt]; rfl
  unfold keyBad at hcd
  rw [eg] at hcd
  obtain ⟨p0,hp0⟩:∃ p0,p0 = nd.keys.getD (k - 1) []:=⟨_,rfl⟩
  rw [← hp0] at hcd
  have hp:0 < k → w2.cell? (p1.add ((k:Int) - 1).toNat) = some (.string (ofL p0)):=fun h0 => by
    have hj:k - 1 < nd.keys.length:=by omega
    have e1:=RdS.at1 (e1:=fun r => .string (ofL r)) hrk hj
    rw [show ((k:Int) - 1).toNat = k - 1 by omega,e1,hp0,List.getD_eq_getElem?_getD,List.getElem?_eq_getElem hj]; rfl
  have elq:=leq_not nd.keys[k] p0
  have hat:∃ b1 b2 b3 b4 b5 b6 b7:Bool,Op.bytesLess nd.keys[k] low = b1 ∧ bound = b2 ∧ Op.bytesLess nd.keys[k] high = b3 ∧ ((0:Int) < k) = (b4 = true) ∧ Op.bytesLess nd.keys[k] p0 = b5 ∧ (nd.keys[k] = p0) = (b6 = true) ∧ ((32:Int) < nd.keys[k].length) = (b7 = true) ∧ cd = (b1 || (b2 && !b3) || (b4 && (b5 || b6)) || b7) ∧ (b4 = true → w2.cell? (p1.add ((k:Int) - 1).toNat) = some (.string (ofL p0))):=by
    refine ⟨_,_,_,decide (0 < k),_,decide (nd.keys[k] = p0),decide (32 < nd.keys[k].length),rfl,rfl,rfl,by simp,rfl,by simp,by simp; omega,by rw [hcd,elq],fun h => hp (of_decide_eq_true h)⟩
  clear hp elq hcd hp0 eg
  obtain ⟨b1,b2,b3,b4,b5,b6,b7,e1,e2,e3,e4,e5,e6,e7,e8,hp⟩:=hat
  subst e2
  have h14:(b1 = true) ∨ (b1 = false ∧ bound = true ∧ b3 = false) ∨ (b1 = false ∧ bound = false ∧ b4 = true ∧ b5 = true) ∨ (b1 = false ∧ bound = false ∧ b4 = true ∧ b5 = false ∧ b6 = true) ∨ (b1 = false ∧ bound = false ∧ b4 = true ∧ b5 = false ∧ b6 = false ∧ b7 = true) ∨ (b1 = false ∧ bound = false ∧ b4 = false ∧ b7 = true) ∨ (b1 = false ∧ bound = false ∧ b4 = true ∧ b5 = false ∧ b6 = false ∧ b7 = false) ∨ (b1 = false ∧ bound = false ∧ b4 = false ∧ b7 = false) ∨ (b1 = false ∧ bound = true ∧ b3 = true ∧ b4 = true ∧ b5 = true) ∨ (b1 = false ∧ bound = true ∧ b3 = true ∧ b4 = true ∧ b5 = false ∧ b6 = true) ∨ (b1 = false ∧ bound = true ∧ b3 = true ∧ b4 = true ∧ b5 = false ∧ b6 = false ∧ b7 = true) ∨ (b1 = false ∧ bound = true ∧ b3 = true ∧ b4 = false ∧ b7 = true) ∨ (b1 = false ∧ bound = true ∧ b3 = true ∧ b4 = true ∧ b5 = false ∧ b6 = false ∧ b7 = false) ∨ (b1 = false ∧ bound = true ∧ b3 = true ∧ b4 = false ∧ b7 = false):=by
    cases b1 <;> cases bound <;> cases b3 <;> cases b4 <;> cases b5 <;> cases b6 <;> cases b7 <;> simp
  rcases h14 with rfl | ⟨rfl,rfl,rfl⟩ | ⟨rfl,rfl,rfl,rfl⟩ | ⟨rfl,rfl,rfl,rfl,rfl⟩ | ⟨rfl,rfl,rfl,rfl,rfl,rfl⟩ | ⟨rfl,rfl,rfl,rfl⟩ | ⟨rfl,rfl,rfl,rfl,rfl,rfl⟩ | ⟨rfl,rfl,rfl,rfl⟩ | ⟨rfl,rfl,rfl,rfl,rfl⟩ | ⟨rfl,rfl,rfl,rfl,rfl,rfl⟩ | ⟨rfl,rfl,rfl,rfl,rfl,rfl,rfl⟩ | ⟨rfl,rfl,rfl,rfl,rfl⟩ | ⟨rfl,rfl,rfl,rfl,rfl,rfl,rfl⟩ | ⟨rfl,rfl,rfl,rfl,rfl⟩
  all_goals
    simp only [Bool.or_self,Bool.or_true,Bool.true_or,Bool.or_false,Bool.false_or,Bool.true_and,Bool.false_and,Bool.not_true,Bool.not_false,Bool.and_true,Bool.and_false,forall_const,Bool.false_eq_true] at e8 hp
    simp (disch:=first|omega|exact zF rfl|exact zG rfl|exact fun h=>h|(simp only[zA,zB,zC,zD,bytesW];omega)) only[go_sem,c133L0,c133S3,c133L1,c133S8,c133S10,c133S11,c133S12,c133L0,hlt',ek,rn,rv,e1,e3,e4,e5,e6,e7,hp,Bool.or_self,Bool.or_true,Bool.true_or,Bool.or_false,Bool.false_or,Bool.not_true,Bool.not_false]
    subst e8
    first
      | have hkp:(0:Int) < k:=e4.mpr rfl
      | skip
    repeat' with_reducible apply And.intro
    all_goals first
      | omega
      | exact ⟨by omega,by omega⟩
      | (refine ⟨k + 1,rfl,⟨hlt,?_⟩,by omega⟩
         rw [esp]
         first
           | exact h2t
           | exact h2f)
end
open Go Go.Ann Go.RowKit Go.WideShapes
section
variable {W0 w:World} {F:Nat→Prop} {L:List Res} {I:List Inv} {e:En} {P:List (List UInt8)} {tb vb mb n:Nat} {i:Int}
set_option maxHeartbeats 2000000 in
theorem visit_ok(h3:3≤P.length):∀ (g deep a:Nat) (low high:Txt) (bound:Bool) (v:Vis) (pv:Value) (L:List Res) (w:World),deep+g=33→a≤4294967296→PgOk v∧v.depth≤1000→Pgr e P W0 w F (vsR vb tb mb v pv++trB tb e i::L) I →
  Ret Tryz.prog 133 [.pointer (some ⟨vb,0,none⟩),.int .i64 a,.int .i64 deep,.string (ofL low),.string (ofL high),.bool bound] w fun _ w'=>∃ pv',Pgr e P W0 w' F (vsR vb tb mb (visitP P g a low high bound v) pv'++trB tb e i::L) I:=by
 intro g
 induction g with
 | zero =>
  intro deep a low high bound v pv L w hdg ha hv h
  obtain rfl:deep=33:=by omega
  have r:=h.rules 0 rfl
  refine ent133 _ _ _ _ _ _ _ _ ?_
  simp (disch:=first|omega|exact zF rfl|exact zG rfl|exact fun h=>h|(simp only[zA,zB,zC,zD,bytesW];omega)) only[go_sem,c133L0,c133S3,c133L1,c133S8,c133S10,c133S11,c133S12,r]
  refine luW_map (enc:=intK) keyT_n Tryz.underlying123 (h.ob 2 rfl) (a:Int) (Tryz.zeroValue4 _) ?_
  rw [visitP]
  have hend:Pgr e P W0 (w.setCell ⟨vb,6,none⟩ (.bool true)) F (vsR vb tb mb (v.spoil true) pv++trB tb e i::L) I:=by
   unfold Vis.spoil
   rw [Bool.or_true]
   exact h.set 0 rfl 6 (.bool true)
  cases decide ((a:Int)∈v.pages.map fun n:Nat=>(n:Int)) with
  | true =>
   simp (disch:=first|omega|exact zF rfl|exact zG rfl|exact fun h=>h|(simp only[zA,zB,zC,zD,bytesW];omega)) only[go_sem,c133L0,c133S3,c133L1,c133S8,c133S10,c133S11,c133S12,r]
   exact ⟨pv,hend⟩
  | false =>
   simp (disch:=first|omega|exact zF rfl|exact zG rfl|exact fun h=>h|(simp only[zA,zB,zC,zD,bytesW];omega)) only[go_sem,c133L0,c133S3,c133L1,c133S8,c133S10,c133S11,c133S12,r]
   exact ⟨pv,hend⟩
 | succ g ih =>
 intro deep a low high bound v pv L w hdg ha hv h
 obtain ⟨vf,hvf⟩:∃ vf,vf=visitP P (g+1) a low high bound v:=⟨_,rfl⟩
 rw [← hvf]
 rw [visitP] at hvf
 have r:=h.rules 0 rfl
 refine ent133 _ _ _ _ _ _ _ _ ?_
 simp (disch:=first|omega|exact zF rfl|exact zG rfl|exact fun h=>h|(simp only[zA,zB,zC,zD,bytesW];omega)) only[go_sem,c133L0,c133S3,c133L1,c133S8,c133S10,c133S11,r]
 refine luW_map (enc:=intK) keyT_n Tryz.underlying123 (h.ob 2 rfl) (a:Int) (Tryz.zeroValue4 _) ?_
 have hd1:¬ (32:Int)<deep:=by omega
 by_cases hmem:a∈v.pages
 ·rw [if_pos hmem] at hvf
  rw [decide_eq_true (met_mem.2 hmem),hvf]
  simp (disch:=first|omega|exact zF rfl|exact zG rfl|exact fun h=>h|(simp only[zA,zB,zC,zD,bytesW];omega)) only[go_sem,c133L0,c133S3,c133L1,c133S8,c133S10,c133S11,r]
  refine ⟨pv,?_⟩
  unfold Vis.spoil
  rw [Bool.or_true]
  exact h.set 0 rfl 6 (.bool true)
 rw [if_neg hmem] at hvf
 rw [decide_eq_false (fun hc=>hmem (met_mem.1 hc))]
 simp (disch:=first|omega|exact zF rfl|exact zG rfl|exact fun h=>h|(simp only[zA,zB,zC,zD,bytesW];omega)) only[go_sem,c133L0,c133S3,c133L1,c133S8,c133S10,c133S12,r,hd1]
 refine muW_map (enc:=intK) keyT_n Tryz.underlying123 (h.ob 2 rfl) (a:Int) (fun hc=>hmem (met_mem.1 hc)) ?_
 rw [met_add]
 have h1:=h.putOb 2 rfl (metO (v.pages++[a]))
 generalize w.putObj mb (metO (v.pages++[a]))=w1 at h1 ⊢
 have r:=h1.rules 0 rfl
 obtain ⟨pa,pc,rfl,_⟩:=own_slice (h1.row 1 rfl)
 simp (disch:=first|omega|exact zF rfl|exact zG rfl|exact fun h=>h|(simp only[zA,zB,zC,zD,bytesW];omega)) only[go_sem,c133L0,c133S3,c133L1,c133S8,c133S10,c133S12,r]
 refine bsW_ones ty48mkI rfl rfl (by decide) (by decide) (by intro v hv; rw [List.mem_singleton] at hv; subst hv; rfl) ?_
 simp (disch:=first|omega|exact zF rfl|exact zG rfl|exact fun h=>h|(simp only[zA,zB,zC,zD,bytesW];omega)) only[go_sem,c133L0,c133S3,c133L1,c133S8,c133S10,c133S12]
 obtain ⟨A,st,back⟩:=h1.lift
 have hx:Rd (w1.alloc (.cells #[.int .i64 (a:Nat)] 3)) 1 (.slice (some ⟨w1.heap.size,0,none⟩) 1 1) 1 (natE a):=rd_new (n:=1) (cs:=#[.int .i64 (a:Nat)]) rfl
 have hfew:=hv.1.few
 refine (st.alloc' (.cells #[.int .i64 (a:Nat)] 3)).append 1 rfl ty48mkI rfl (by decide) hx (nat_one a) (by omega) (by omega) ?_
 intro v2 w2 s2 c2
 obtain ⟨p2,c2',rfl,_⟩:=own_slice (s2.row 1 rfl)
 have r:=s2.rules 0 rfl
 simp (disch:=first|omega|exact zF rfl|exact zG rfl|exact fun h=>h|(simp only[zA,zB,zC,zD,bytesW];omega)) only[go_sem,c133L0,c133S3,c133L1,c133S8,c133S10,c133S12,r]
 have s3:=s2.set 0 rfl 1 (.slice p2 (v.pages.length+1) c2')
 generalize w2.setCell ⟨vb,1,none⟩ (.slice p2 (v.pages.length+1) c2')=w3 at s3 ⊢
 obtain ⟨v1,hv1⟩:∃ v1:Vis,v1={ v with pages:=v.pages++[a] }:=⟨_,rfl⟩
 have h4:Pgr e P W0 w3 F (vsR vb tb mb v1 (.slice p2 v1.pages.length c2')++trB tb e i::L) I:=by
  have ec:v.pages.length+1=(v.pages++[a]).length:=by simp
  have el:v.pages.flatMap natE++natE a=(v.pages++[a]).flatMap natE:=by rw [List.flatMap_append]; simp
  rw [ec,el] at s3
  subst hv1
  exact back _ (_::_::_::trB tb e i::L) _ s3
 have ok1:PgOk v1∧v1.depth≤1000:=by
  subst hv1
  exact ⟨hv.1.add hmem ha,hv.2⟩
 rw [← hv1] at hvf
 clear hv1 s3 s2 st back hx r h1 h
 generalize Value.slice p2 v1.pages.length c2'=pw at h4
 have r:=h4.rules 0 rfl
 simp (disch:=first|omega|exact zF rfl|exact zG rfl|exact fun h=>h|(simp only[zA,zB,zC,zD,bytesW];omega)) only[go_sem,c133L0,c133S3,c133L1,c133S8,c133S11,c133S12,r]
 refine Ret.mono (gload_ok (h4.perm (List.perm_middle (l₁:=[_,_,_]))) h3 ha) ?_
 cases hnd:ndP P a with
 | none =>
  rw [hnd] at hvf
  rintro _ w5 ⟨er,her,rfl,h5⟩
  simp (disch:=first|omega|exact zF rfl|exact zG rfl|exact fun h=>h|(simp only[zA,zB,zC,zD,bytesW];omega)) only[go_sem,c133L0,c133S3,c133L1,c133S8,c133S10,c133S11,c133S12]
  have h6:=h5.box ndZ 119
  generalize w5.alloc (.cells ndZ 119)=w6 at h6 ⊢
  have r:=h6.rules 2 rfl
  simp (disch:=first|omega|exact zF rfl|exact zG rfl|exact fun h=>h|(simp only[zA,zB,zC,zD,bytesW];omega)) only[go_sem,c133L0,c133S3,c133L1,c133S8,c133S10,c133S11,c133S12,r,her]
  refine ⟨pw,?_⟩
  rw [hvf]
  have h7:=(h6.set 2 rfl 6 (.bool true)).sub (List.sublist_cons_self ..)
  have h8:Pgr e P W0 (w6.setCell ⟨vb,6,none⟩ (.bool true)) F (trB tb e i::(vsR vb tb mb (v1.spoil true) pw++L)) I:=by
   unfold Vis.spoil
   rw [Bool.or_true]
   exact h7
  exact h8.perm (List.perm_middle (l₁:=[_,_,_])).symm
 | some nd =>
 rw [hnd] at hvf
 simp only at hvf
 rintro _ w5 ⟨kv,vv,cv,rfl,h5⟩
 have form:=(ndP_form hnd).1
 have hkl:=form.few
 obtain ⟨ka,kc,rfl,_⟩:=own_slice (h5.row 0 rfl)
 obtain ⟨va,vc,rfl,_⟩:=own_slice (h5.row 1 rfl)
 obtain ⟨ca,cc,rfl,_⟩:=own_slice (h5.row 2 rfl)
 simp (disch:=first|omega|exact zF rfl|exact zG rfl|exact fun h=>h|(simp only[zA,zB,zC,zD,bytesW];omega)) only[go_sem,c133L0,c133S3,c133L1,c133S8,c133S11,c133S12]
 have h6:=h5.box #[.bool nd.leaf,.slice ka nd.keys.length kc,.slice va nd.vals.length vc,.slice ca nd.kids.length cc] 119
 generalize w5.heap.size=nb at h6 ⊢
 generalize w5.alloc (.cells #[.bool nd.leaf,.slice ka nd.keys.length kc,.slice va nd.vals.length vc,.slice ca nd.kids.length cc] 119)=w6 at h6 ⊢
 have rn:=h6.rules 0 rfl
 simp (disch:=first|omega|exact zF rfl|exact zG rfl|exact fun h=>h|(simp only[zA,zB,zC,zD,bytesW];omega)) only[go_sem,c133S3,c133L1,c133S10,c133S11,c133S12,rn]
 refine vkeys_ok (low:=low) (high:=high) (bound:=bound) h6 form fun w7 h7=>?_
 have rn:=h7.rules 0 rfl
 obtain ⟨v2,hv2⟩:∃ v2:Vis,v2=v1.spoil ((List.range nd.keys.length).any (keyBad nd.keys low high bound)):=⟨_,rfl⟩
 rw [← hv2] at h7 hvf
 have ok2:PgOk v2∧v2.depth≤1000:=by subst hv2; exact ok1
 cases hlf:nd.leaf with
 | true =>
  rw [if_pos hlf] at hvf
  rw [hlf] at rn
  simp (disch:=first|omega|exact zF rfl|exact zG rfl|exact fun h=>h|(simp only[zA,zB,zC,zD,bytesW];omega)) only[go_sem,c133L0,c133S3,c133L1,c133S8,c133S10,c133S11,c133S12,rn]
  have pm1:∀ (A B C D E F:Res) (Z:List Res),(A::B::C::D::E::F::Z).Perm (F::B::C::D::A::E::Z):=fun A B C D E F Z =>
   (List.perm_middle (l₁:=[A,B,C,D,E])).trans (((List.perm_middle (l₁:=[B,C,D]) (a:=A)).symm).cons F)
  have h8:=h7.perm (pm1 _ _ _ _ _ _ _)
  rw [← hlf]
  refine Ret.mono (vleaf_ok (nd:=nd) (deep:=deep) h8 form hlf ⟨ok2.2,by omega⟩) ?_
  rintro _ w9 h9
  simp (disch:=first|omega|exact zF rfl|exact zG rfl|exact fun h=>h|(simp only[zA,zB,zC,zD,bytesW];omega)) only[go_sem,c133L0,c133S3,c133L1,c133S8,c133S10,c133S11,c133S12]
  refine ⟨pw,?_⟩
  have h10:=(h9.perm (pm1 _ _ _ _ _ _ _).symm).sub (L':=trB tb e i::vsB vb tb mb (leafV nd deep v2) pw::_::_::L) (.cons _ (.cons _ (.cons _ (.cons _ (List.Sublist.refl _)))))
  have e32:32 - g=deep:=by omega
  rw [e32] at hvf
  have ep:(leafV nd deep v2).pages=v2.pages:=by unfold leafV; exact (leafGo_pages _ _).1
  rw [hvf,ep]
  exact h10.perm (List.perm_middle (l₁:=[_,_,_])).symm
 | false =>
  rw [if_neg (by rw [hlf]; decide)] at hvf
  rw [hlf] at rn
  obtain ⟨_,hcl⟩:=form.nl hlf
  rw [hlf] at h7
  simp (disch:=first|omega|exact zF rfl|exact zG rfl|exact fun h=>h|(simp only[zA,zB,zC,zD,bytesW];omega)) only[go_sem,c133L0,c133S3,c133S8,c133S10,c133S11,c133S12,rn]
  have pm2:∀ (A B C D E X Y Z:Res) (T:List Res),(A::B::C::D::E::X::Y::Z::T).Perm (X::Y::Z::E::A::B::C::D::T):=fun A B C D E X Y Z T =>
   ((List.perm_append_comm (l₁:=[A,B,C,D,E]) (l₂:=[X,Y,Z])).append_right T).trans ((((List.perm_middle (l₁:=[A,B,C,D]) (a:=E) (l₂:=T)).cons Z).cons Y).cons X)
  have h8:Pgr e P W0 w7 F (vsR vb tb mb v2 pw++trB tb e i::.blk nb #[.bool false,.slice ka nd.keys.length kc,.slice va nd.vals.length vc,.slice ca nd.kids.length cc] 119::.row (.slice ka nd.keys.length kc) 9 1 nd.keys.length (nd.keys.flatMap strE)::.row (.slice va nd.vals.length vc) 9 1 nd.vals.length (nd.vals.flatMap strE)::.row (.slice ca nd.kids.length cc) 3 1 nd.kids.length (nd.kids.flatMap natE)::L) I:=h7.perm (pm2 _ _ _ _ _ _ _ _ _)
  clear h7 h6 h5 h4 rn hv2 ok1
  refine W_loopU (fun j:Nat=>[(114,.int .i64 j)]) (fun j w'=>j≤nd.kids.length∧∃ vj pj,vf=kidsV (visitP P g) nd.keys low high bound j (nd.kids.drop j) vj∧(PgOk vj∧vj.depth≤1000)∧Pgr e P W0 w' F (vsR vb tb mb vj pj++trB tb e i::.blk nb #[.bool false,.slice ka nd.keys.length kc,.slice va nd.vals.length vc,.slice ca nd.kids.length cc] 119::.row (.slice ka nd.keys.length kc) 9 1 nd.keys.length (nd.keys.flatMap strE)::.row (.slice va nd.vals.length vc) 9 1 nd.vals.length (nd.vals.flatMap strE)::.row (.slice ca nd.kids.length cc) 3 1 nd.kids.length (nd.kids.flatMap natE)::L) I) (fun j=>nd.kids.length - j) 0 rfl ⟨Nat.zero_le _,v2,pw,hvf,ok2,h8⟩ ?_
  clear h8 hvf ok2
  rintro j w9 ⟨hj,vj,pj,hgo,okj,h9⟩
  have rn:=h9.rules 4 rfl
  by_cases hlt:j<nd.kids.length
  case neg =>
   have hlt':¬ (j:Int)<nd.kids.length:=by omega
   rw [List.drop_of_length_le (by omega),kidsV] at hgo
   rw [hgo]
   simp (disch:=first|omega|exact zF rfl|exact zG rfl|exact fun h=>h|(simp only[zA,zB,zC,zD,bytesW];omega)) only[go_sem,c133L0,c133S3,c133L1,c133S8,c133S10,c133S11,c133S12,c133L1,hlt']
   exact ⟨pj,h9.sub (.cons_cons _ (.cons_cons _ (.cons_cons _ (.cons_cons _ (.cons _ (.cons _ (.cons _ (.cons _ (List.Sublist.refl _)))))))))⟩
  have hlt':(j:Int)<nd.kids.length:=by omega
  have hrc:RdS w9 1 natE (.slice ca nd.kids.length cc) nd.kids:=RdS.of_own' (h9.row 7 rfl) nd.kids rfl rfl
  obtain ⟨p1,rfl⟩:=hrc.ptr (by omega)
  have ec:=RdS.at1 (e1:=fun r:Nat=>.int .i64 r) hrc hlt
  have hrk:RdS w9 1 strE (.slice ka nd.keys.length kc) nd.keys:=RdS.of_own' (h9.row 5 rfl) nd.keys rfl rfl
  rw [List.drop_eq_getElem_cons hlt,kidsV] at hgo
  have hkb:=form.kid _ (List.getElem_mem hlt)
  -- the kid visited
  have step:∀ (lo hi:Txt) (lim:Bool) (Q:Post),lo=(if j=0 then low else nd.keys.getD (j - 1) [])→hi=(if j<nd.keys.length then nd.keys.getD j [] else high)→lim=(decide (j<nd.keys.length) || bound) →
    (∀ w' vj' pj',vf=kidsV (visitP P g) nd.keys low high bound (j+1) (nd.kids.drop (j+1)) vj'→(PgOk vj'∧vj'.depth≤1000)→Pgr e P W0 w' F (vsR vb tb mb vj' pj'++trB tb e i::.blk nb #[.bool false,.slice ka nd.keys.length kc,.slice va nd.vals.length vc,.slice (some p1) nd.kids.length cc] 119::.row (.slice ka nd.keys.length kc) 9 1 nd.keys.length (nd.keys.flatMap strE)::.row (.slice va nd.vals.length vc) 9 1 nd.vals.length (nd.vals.flatMap strE)::.row (.slice (some p1) nd.kids.length cc) 3 1 nd.kids.length (nd.kids.flatMap natE)::L) I→Q .normal [(0,Value.pointer (some ⟨vb,0,none⟩)),(2,Value.int .i64 deep),(3,Value.string (ofL low)),(4,Value.string (ofL high)),(5,Value.bool bound),(12,Value.pointer (some ⟨nb,0,none⟩)),(112,Value.slice (some p1) nd.kids.length cc),(113,Value.int .i64 nd.kids.length),(114,Value.int .i64 j)] w') →
    W Tryz.prog (c133S3 ()) [(0,Value.pointer (some ⟨vb,0,none⟩)),(2,Value.int .i64 deep),(3,Value.string (ofL low)),(4,Value.string (ofL high)),(5,Value.bool bound),(12,Value.pointer (some ⟨nb,0,none⟩)),(17,Value.int .i64 (nd.kids[j]:Nat)),(18,Value.string (ofL lo)),(19,Value.string (ofL hi)),(20,Value.bool lim),(112,Value.slice (some p1) nd.kids.length cc),(113,Value.int .i64 nd.kids.length),(114,Value.int .i64 j)] w9 Q:=by
   intro lo hi lim Q hlo hhi hlim hQ
   rw [← hlo,← hhi,← hlim] at hgo
   have ed:(deep:Int)+1=((deep+1:Nat):Int):=by omega
   simp (disch:=first|omega|exact zF rfl|exact zG rfl|exact fun h=>h|(simp only[zA,zB,zC,zD,bytesW];omega)) only[go_sem,c133L0,c133S3,c133L1,c133S8,c133S10,c133S11,c133S12]
   rw [ed]
   refine ⟨⟨by omega,by omega⟩,Ret.mono (ih (deep+1) nd.kids[j] lo hi lim vj pj _ w9 (by omega) (by omega) okj h9) ?_⟩
   rintro _ w10 ⟨pj',h10⟩
   simp (disch:=first|omega|exact zF rfl|exact zG rfl|exact fun h=>h|(simp only[zA,zB,zC,zD,bytesW];omega)) only[go_sem,c133L0,c133S3,c133L1,c133S8,c133S10,c133S11,c133S12]
   exact hQ _ _ _ hgo (visit_pg P g nd.kids[j] lo hi lim vj (by omega) (by omega) okj) h10
  by_cases hj0:j=0
  ·have hj0':¬ (0:Int)<j:=by omega
   by_cases hjl:j<nd.keys.length
   ·have hjl':(j:Int)<nd.keys.length:=by omega
    obtain ⟨p2,rfl⟩:=hrk.ptr (by omega)
    have ek:=RdS.at1 (e1:=fun r=>.string (ofL r)) hrk hjl
    simp (disch:=first|omega|exact zF rfl|exact zG rfl|exact fun h=>h|(simp only[zA,zB,zC,zD,bytesW];omega)) only[go_sem,c133L0,c133L1,c133S8,c133S10,c133S11,c133S12,c133L1,hlt',ec,rn,hj0',hjl',ek]
    refine ⟨by omega,by omega,step _ _ _ _ (by rw [if_pos hj0]) (by rw [if_pos hjl,List.getD_eq_getElem?_getD,List.getElem?_eq_getElem hjl]; rfl) (by rw [decide_eq_true hjl]; rfl) fun w' vj' pj' g1 g2 g3=>?_⟩
    simp (disch:=first|omega|exact zF rfl|exact zG rfl|exact fun h=>h|(simp only[zA,zB,zC,zD,bytesW];omega)) only[go_sem,c133L0,c133S3,c133L1,c133S8,c133S10,c133S11,c133S12]
    exact ⟨⟨by omega,by omega⟩,j+1,rfl,⟨hlt,vj',pj',g1,g2,g3⟩,by omega⟩
   ·have hjl':¬ (j:Int)<nd.keys.length:=by omega
    simp (disch:=first|omega|exact zF rfl|exact zG rfl|exact fun h=>h|(simp only[zA,zB,zC,zD,bytesW];omega)) only[go_sem,c133L0,c133L1,c133S8,c133S10,c133S11,c133S12,c133L1,hlt',ec,rn,hj0',hjl']
    refine ⟨by omega,step _ _ _ _ (by rw [if_pos hj0]) (by rw [if_neg hjl]) (by rw [decide_eq_false hjl]; rfl) fun w' vj' pj' g1 g2 g3=>?_⟩
    simp (disch:=first|omega|exact zF rfl|exact zG rfl|exact fun h=>h|(simp only[zA,zB,zC,zD,bytesW];omega)) only[go_sem,c133L0,c133S3,c133L1,c133S8,c133S10,c133S11,c133S12]
    exact ⟨⟨by omega,by omega⟩,j+1,rfl,⟨hlt,vj',pj',g1,g2,g3⟩,by omega⟩
  ·have hj0':(0:Int)<j:=by omega
   obtain ⟨p2,rfl⟩:=hrk.ptr (by omega)
   have hp:w9.cell? (p2.add ((j:Int) - 1).toNat)=some (.string (ofL (nd.keys.getD (j - 1) []))):=by
    have hj1:j - 1<nd.keys.length:=by omega
    have e1:=RdS.at1 (e1:=fun r=>.string (ofL r)) hrk hj1
    rw [show ((j:Int) - 1).toNat=j - 1 by omega,e1,List.getD_eq_getElem?_getD,List.getElem?_eq_getElem hj1]; rfl
   by_cases hjl:j<nd.keys.length
   ·have hjl':(j:Int)<nd.keys.length:=by omega
    have ek:=RdS.at1 (e1:=fun r=>.string (ofL r)) hrk hjl
    simp (disch:=first|omega|exact zF rfl|exact zG rfl|exact fun h=>h|(simp only[zA,zB,zC,zD,bytesW];omega)) only[go_sem,c133L0,c133L1,c133S8,c133S10,c133S11,c133S12,c133L1,hlt',ec,rn,hj0',hjl',ek,hp]
    refine ⟨by omega,⟨by omega,by omega⟩,⟨by omega,by omega⟩,by omega,step _ _ _ _ (by rw [if_neg hj0]) (by rw [if_pos hjl,List.getD_eq_getElem?_getD,List.getElem?_eq_getElem hjl]; rfl) (by rw [decide_eq_true hjl]; rfl) fun w' vj' pj' g1 g2 g3=>?_⟩
    simp (disch:=first|omega|exact zF rfl|exact zG rfl|exact fun h=>h|(simp only[zA,zB,zC,zD,bytesW];omega)) only[go_sem,c133L0,c133S3,c133L1,c133S8,c133S10,c133S11,c133S12]
    exact ⟨⟨by omega,by omega⟩,j+1,rfl,⟨hlt,vj',pj',g1,g2,g3⟩,by omega⟩
   ·have hjl':¬ (j:Int)<nd.keys.length:=by omega
    simp (disch:=first|omega|exact zF rfl|exact zG rfl|exact fun h=>h|(simp only[zA,zB,zC,zD,bytesW];omega)) only[go_sem,c133L0,c133L1,c133S8,c133S10,c133S11,c133S12,c133L1,hlt',ec,rn,hj0',hjl',hp]
    refine ⟨by omega,⟨by omega,by omega⟩,⟨by omega,by omega⟩,step _ _ _ _ (by rw [if_neg hj0]) (by rw [if_neg hjl]) (by rw [decide_eq_false hjl]; rfl) fun w' vj' pj' g1 g2 g3=>?_⟩
    simp (disch:=first|omega|exact zF rfl|exact zG rfl|exact fun h=>h|(simp only[zA,zB,zC,zD,bytesW];omega)) only[go_sem,c133L0,c133S3,c133L1,c133S8,c133S10,c133S11,c133S12]
    exact ⟨⟨by omega,by omega⟩,j+1,rfl,⟨hlt,vj',pj',g1,g2,g3⟩,by omega⟩
end
open Go Go.Ann Go.RowKit Go.WideShapes
def vis0:Vis:=⟨[],0,[],false,false⟩
def lookP(P:List Txt):Vis:=if rootM P 0=0 then vis0 else visitP P 32 (rootM P 0) [] [] false vis0
section
variable {W0 w:World} {F:Nat→Prop} {L:List Res} {I:List Inv} {e:En} {P:List (List UInt8)} {tb vb mb n:Nat} {i:Int}
theorem look_ok(h:Pgr e P W0 w F (trB tb e 0::L) I)(h3:3≤P.length) :
  Ret Tryz.prog 71 [.pointer (some ⟨tb,0,none⟩)] w fun u w'=>∃ vb mb pv,u=.pointer (some ⟨vb,0,none⟩)∧Pgr e P W0 w' F (vsR vb tb mb (lookP P) pv++trB tb e 0::L) I:=by
 refine ent71 _ _ _ ?_
 simp (disch:=first|omega|exact zF rfl|exact zG rfl|exact fun h=>h|(simp only[zA,zB,zC,zD,bytesW];omega)) only[go_sem]
 refine mmW_map (κ:=Int) (enc:=intK) ?_
 have h1:Pgr e P W0 (w.alloc (mapO intK [])) F (.obj w.heap.size (mapO intK [])::trB tb e 0::L) I:=by
  obtain ⟨A,s1,k⟩:=h.lift
  exact k _ (_::trB tb e 0::L) _ (s1.lay (mapO intK []))
 generalize w.heap.size=mb at h1 ⊢
 generalize w.alloc (mapO intK [])=w1 at h1 ⊢
 simp (disch:=first|omega|exact zF rfl|exact zG rfl|exact fun h=>h|(simp only[zA,zB,zC,zD,bytesW];omega)) only[go_sem]
 refine bdW_built (cells:=vsC tb mb vis0 (.slice none 0 0)) (by kernel_rfl) ?_
 simp (disch:=first|omega|exact zF rfl|exact zG rfl|exact fun h=>h|(simp only[zA,zB,zC,zD,bytesW];omega)) only[go_sem]
 have h2:=h1.box (vsC tb mb vis0 (.slice none 0 0)) 125
 generalize w1.heap.size=vb at h2 ⊢
 generalize w1.alloc (.cells (vsC tb mb vis0 (.slice none 0 0)) 125)=w2 at h2 ⊢
 have h4:Pgr e P W0 w2 F (trB tb e 0::(vsR vb tb mb vis0 (.slice none 0 0)++L)) I:=by
  obtain ⟨A,st,back⟩:=h2.lift
  have q:=back _ (.row (.slice none 0 0) 3 1 0 []::vsB vb tb mb vis0 (.slice none 0 0)::.obj mb (mapO intK [])::trB tb e 0::L) _ (st.nilRow 3 1)
  exact (q.perm (List.Perm.swap _ _ _)).perm (List.perm_middle (l₁:=[_,_,_]))
 refine Ret.mono (troot_ok h4 h3) ?_
 rintro _ w3 ⟨rfl,h5⟩
 have h6:=h5.perm (List.perm_middle (l₁:=[_,_,_])).symm
 have hrl:=rootM_lt P 0
 unfold lookP
 generalize rootM P 0=rt at hrl ⊢
 by_cases hr0:rt=0
 ·have hr0':(rt:Int)=0:=by omega
  rw [if_pos hr0]
  simp (disch:=first|omega|exact zF rfl|exact zG rfl|exact fun h=>h|(simp only[zA,zB,zC,zD,bytesW];omega)) only[go_sem,hr0']
  exact ⟨vb,mb,_,rfl,h6⟩
 ·have hr0':¬ (rt:Int)=0:=by omega
  rw [if_neg hr0]
  simp (disch:=first|omega|exact zF rfl|exact zG rfl|exact fun h=>h|(simp only[zA,zB,zC,zD,bytesW];omega)) only[go_sem,hr0']
  refine Ret.mono (visit_ok h3 32 1 rt [] [] false vis0 _ L w3 (by decide) (by omega) ⟨⟨.nil,fun _ h=>by cases h⟩,by decide⟩ h6) ?_
  rintro _ w7 ⟨pv',h7⟩
  simp (disch:=first|omega|exact zF rfl|exact zG rfl|exact fun h=>h|(simp only[zA,zB,zC,zD,bytesW];omega)) only[go_sem]
  exact ⟨vb,mb,_,rfl,h7⟩
theorem sound_ok(h:Pgr e P W0 w F (trB tb e 0::L) I)(h3:3≤P.length) :
  Ret Tryz.prog 20 [.pointer (some ⟨tb,0,none⟩)] w fun u w'=>u=.bool (!(lookP P).bad)∧Pgr e P W0 w' F (trB tb e 0::L) I:=by
 refine ent20 _ _ _ ?_
 simp (disch:=first|omega|exact zF rfl|exact zG rfl|exact fun h=>h|(simp only[zA,zB,zC,zD,bytesW];omega)) only[go_sem]
 refine Ret.mono (look_ok h h3) ?_
 rintro _ w1 ⟨vb,mb,pv,rfl,h1⟩
 have r:=h1.rules 0 rfl
 simp (disch:=first|omega|exact zF rfl|exact zG rfl|exact fun h=>h|(simp only[zA,zB,zC,zD,bytesW];omega)) only[go_sem,r]
 exact h1.sub (.cons _ (.cons _ (.cons _ (List.Sublist.refl _))))
theorem pages_ok(h:Pgr e P W0 w F (trB tb e 0::L) I)(h3:3≤P.length) :
  Ret Tryz.prog 22 [.pointer (some ⟨tb,0,none⟩)] w fun u w'=>Pgr e P W0 w' F (trB tb e 0::L) I:=by
 refine ent22 _ _ _ ?_
 simp (disch:=first|omega|exact zF rfl|exact zG rfl|exact fun h=>h|(simp only[zA,zB,zC,zD,bytesW];omega)) only[go_sem]
 refine Ret.mono (look_ok h h3) ?_
 rintro _ w1 ⟨vb,mb,pv,rfl,h1⟩
 obtain ⟨pa,pc,rfl,_⟩:=own_slice (h1.row 1 rfl)
 have r:=h1.rules 0 rfl
 simp (disch:=first|omega|exact zF rfl|exact zG rfl|exact fun h=>h|(simp only[zA,zB,zC,zD,bytesW];omega)) only[go_sem,r]
 exact h1.sub (.cons _ (.cons _ (.cons _ (List.Sublist.refl _))))
theorem depth_ok(h:Pgr e P W0 w F (trB tb e 0::L) I)(h3:3≤P.length) :
  Ret Tryz.prog 23 [.pointer (some ⟨tb,0,none⟩)] w fun u w'=>Pgr e P W0 w' F (trB tb e 0::L) I:=by
 refine ent23 _ _ _ ?_
 simp (disch:=first|omega|exact zF rfl|exact zG rfl|exact fun h=>h|(simp only[zA,zB,zC,zD,bytesW];omega)) only[go_sem]
 refine Ret.mono (look_ok h h3) ?_
 rintro _ w1 ⟨vb,mb,pv,rfl,h1⟩
 have r:=h1.rules 0 rfl
 simp (disch:=first|omega|exact zF rfl|exact zG rfl|exact fun h=>h|(simp only[zA,zB,zC,zD,bytesW];omega)) only[go_sem,r]
 exact h1.sub (.cons _ (.cons _ (.cons _ (List.Sublist.refl _))))
end
open Go Go.Ann Go.RowKit Go.WideShapes
section
variable {W0 w:World} {F:Nat→Prop} {L:List Res} {I:List Inv} {e:En} {P:List (List UInt8)} {tb vb mb n:Nat} {i:Int}
theorem tget_ok(key v:Txt)(h:Pgr e P W0 w F (trB tb e 0::L) I)(h3:3≤P.length)(hr:rootM P 0≠0)(hg:getP P key 1024 (rootM P 0)=some v) :
  Ret Tryz.prog 25 [.pointer (some ⟨tb,0,none⟩),.string (ofL key)] w fun u w'=>u=.tuple #[.string (ofL v),.int .i64 0]∧Pgr e P W0 w' F (trB tb e 0::L) I:=by
 refine ent25 _ _ _ _ ?_
 simp (disch:=first|omega|exact zF rfl|exact zG rfl|exact fun h=>h|(simp only[zA,zB,zC,zD,bytesW];omega)) only[go_sem,c25S5,c25S6,c25L0,c25S8]
 refine Ret.mono (troot_ok h h3) ?_
 rintro _ w1 ⟨rfl,h1⟩
 have hrl:=rootM_lt P 0
 generalize rootM P 0=rt at hrl hr hg ⊢
 have hr0:¬ (rt:Int)=0:=by omega
 simp (disch:=first|omega|exact zF rfl|exact zG rfl|exact fun h=>h|(simp only[zA,zB,zC,zD,bytesW];omega)) only[go_sem,c25S5,c25S6,hr0]
 refine W_loopU (fun q:Nat × Nat=>[(6,.int .i64 q.2),(26,.int .i64 q.1)]) (fun q w'=>q.1≤1024∧q.2≤4294967296∧getP P key (1024 - q.1) q.2=some v∧Pgr e P W0 w' F (trB tb e 0::L) I) (fun q=>1024 - q.1) (0,rt) rfl ⟨Nat.zero_le _,by simp only; omega,hg,h1⟩ ?_
 clear h1 hr0 hg hr hrl
 rintro ⟨k,a⟩ w2 ⟨hk,ha,hg,h2⟩
 simp only at hk ha hg
 obtain ⟨m,hm⟩:∃ m,1024 - k=m+1:=by
  refine ⟨1024 - k - 1,?_⟩
  by_cases hkk:k=1024
  ·subst hkk; simp [getP] at hg
  ·omega
 rw [hm,getP] at hg
 have hlt:(k:Int)<1024:=by omega
 simp (disch:=first|omega|exact zF rfl|exact zG rfl|exact fun h=>h|(simp only[zA,zB,zC,zD,bytesW];omega)) only[go_sem,c25S6,c25L0,c25L0,hlt]
 refine Ret.mono (gload_ok h2 h3 ha) ?_
 cases hnd:ndP P a with
 | none=>rw [hnd] at hg; cases hg
 | some nd =>
 rw [hnd] at hg
 simp only at hg
 rintro _ w3 ⟨kv,vv,cv,rfl,h3'⟩
 have form:=(ndP_form hnd).1
 have hkl:=form.few
 obtain ⟨ka,kc,rfl,_⟩:=own_slice (h3'.row 0 rfl)
 obtain ⟨va,vc,rfl,_⟩:=own_slice (h3'.row 1 rfl)
 obtain ⟨ca,cc,rfl,_⟩:=own_slice (h3'.row 2 rfl)
 simp (disch:=first|omega|exact zF rfl|exact zG rfl|exact fun h=>h|(simp only[zA,zB,zC,zD,bytesW];omega)) only[go_sem,c25S6,c25L0,c25S8]
 have h4:=h3'.box #[.bool nd.leaf,.slice ka nd.keys.length kc,.slice va nd.vals.length vc,.slice ca nd.kids.length cc] 119
 generalize w3.heap.size=nb at h4 ⊢
 generalize w3.alloc (.cells #[.bool nd.leaf,.slice ka nd.keys.length kc,.slice va nd.vals.length vc,.slice ca nd.kids.length cc] 119)=w4 at h4 ⊢
 have rn:=h4.rules 0 rfl
 cases hlf:nd.leaf with
 | true =>
  rw [if_pos hlf] at hg
  rw [hlf] at rn
  have hvl:=(form.lf hlf).1
  have hrk:RdS w4 1 strE (.slice ka nd.keys.length kc) nd.keys:=RdS.of_own' (h4.row 1 rfl) nd.keys rfl rfl
  simp (disch:=first|omega|exact zF rfl|exact zG rfl|exact fun h=>h|(simp only[zA,zB,zC,zD,bytesW];omega)) only[go_sem,c25S5,c25S6,c25L0,c25S8,rn]
  refine Ret.mono (gbsearch_ok key w4 hrk (by omega)) ?_
  rintro _ w5 ⟨rfl,b5⟩
  have h5:=h4.below b5
  have rn:=h5.rules 0 rfl
  rw [hlf] at rn
  generalize bsP nd.keys key=b at hg ⊢
  split at hg
  case isFalse=>cases hg
  rename_i hk'
  obtain ⟨hbv,hbe⟩:=List.getElem?_eq_some_iff.1 hg
  have hrv:RdS w5 1 strE (.slice va nd.vals.length vc) nd.vals:=RdS.of_own' (h5.row 2 rfl) nd.vals rfl rfl
  obtain ⟨p2,rfl⟩:=hrv.ptr (by omega)
  have ev:=RdS.at1 (e1:=fun r=>.string (ofL r)) hrv hbv
  have hbv':(b:Int)<nd.vals.length:=by omega
  rw [decide_eq_true hk']
  simp (disch:=first|omega|exact zF rfl|exact zG rfl|exact fun h=>h|(simp only[zA,zB,zC,zD,bytesW];omega)) only[go_sem,c25S5,c25S6,c25L0,c25S8,rn,ev,hbv',hbe]
  exact ⟨by omega,h5.sub (L':=trB tb e 0::L) (.cons _ (.cons _ (.cons _ (.cons _ (List.Sublist.refl _)))))⟩
 | false =>
  rw [if_neg (by rw [hlf]; decide)] at hg
  rw [hlf] at rn
  obtain ⟨_,hcl⟩:=form.nl hlf
  simp (disch:=first|omega|exact zF rfl|exact zG rfl|exact fun h=>h|(simp only[zA,zB,zC,zD,bytesW];omega)) only[go_sem,c25S5,c25L0,c25S8,rn]
  refine c25draw0 (Same (fun b=>b=nb) _) (Same.refl _ _) ?_
  have h5:=h4.drew
  generalize w4.drew=w5 at h5 ⊢
  have rn:=h5.rules 0 rfl
  rw [hlf] at rn
  have hrk:RdS w5 1 strE (.slice ka nd.keys.length kc) nd.keys:=RdS.of_own' (h5.row 1 rfl) nd.keys rfl rfl
  simp (disch:=first|omega|exact zF rfl|exact zG rfl|exact fun h=>h|(simp only[zA,zB,zC,zD,bytesW];omega)) only[go_sem,c25S5,c25S6,c25L0,c25S8,c25D0,rn]
  rw [← hlf]
  refine ⟨Same.refl _ _,Ret.mono (down_ok key w5 hrk (by omega)) ?_⟩
  rintro _ w6 ⟨rfl,b6⟩
  have h6:=h5.below b6
  have same6:Same (fun b=>b=nb) w5 w6:=by
   rintro b rfl
   exact (h6.bk 0 rfl).trans (h5.bk 0 rfl).symm
  have hdn:=downP_le nd key
  generalize downP nd key=dn at hdn hg ⊢
  have hdl:dn<nd.kids.length:=by omega
  have hdl':(dn:Int)<nd.kids.length:=by omega
  have hrc:RdS w6 1 natE (.slice ca nd.kids.length cc) nd.kids:=RdS.of_own' (h6.row 3 rfl) nd.kids rfl rfl
  obtain ⟨p1,rfl⟩:=hrc.ptr (by omega)
  have ec:=RdS.at1 (e1:=fun r:Nat=>.int .i64 r) hrc hdl
  rw [List.getD_eq_getElem?_getD,List.getElem?_eq_getElem hdl,Option.getD_some] at hg
  have hkb:=form.kid _ (List.getElem_mem hdl)
  simp (disch:=first|omega|exact zF rfl|exact zG rfl|exact fun h=>h|(simp only[zA,zB,zC,zD,bytesW];omega)) only[go_sem,c25S5,c25S6,c25L0,c25S8,c25D0,ec,hdl']
  have em:1024 - (k+1)=m:=by omega
  exact ⟨same6,by omega,same6,⟨by omega,by omega⟩,(k+1,nd.kids[dn]),rfl,⟨by simp only; omega,by simp only; omega,by simp only; rw [em]; exact hg,h6.sub (L':=trB tb e 0::L) (.cons _ (.cons _ (.cons _ (.cons _ (List.Sublist.refl _)))))⟩,by simp only; omega⟩
end
open Go Go.Proofs Go.Shelf
def layJoin_ren:Go.Shelf.Ren:=⟨fun | 156=>156 | 165=>187 | 166=>161 | 169=>162 | 240=>188 | 241=>203 | 276=>204 | 277=>219 | n=>n,fun | 31=>22 | 9=>9 | 3=>3 | 4=>4 | 0=>0 | 20=>20 | 72=>209 | 76=>213 | 70=>207 | 37=>181 | 75=>211 | 127=>236 | 164=>250 | 5=>5 | 80=>154 | n=>n,fun | n=>n⟩
theorem layJoin:Go.Proofs.Lays.n156 Tryz.prog layJoin_ren:={
  mixed:=by kernel_rfl,
  f156:=Tryz.func156.trans (congrArg some (by kernel_rfl)),
  f165:=Tryz.func187.trans (congrArg some (by kernel_rfl)),
  f166:=Tryz.func161.trans (congrArg some (by kernel_rfl)),
  f169:=Tryz.func162.trans (congrArg some (by kernel_rfl)),
  f240:=Tryz.func188.trans (congrArg some (by kernel_rfl)),
  f241:=Tryz.func203.trans (congrArg some (by kernel_rfl)),
  f276:=Tryz.func204.trans (congrArg some (by kernel_rfl)),
  f277:=Tryz.func219.trans (congrArg some (by kernel_rfl)),
  t0:=Tryz.underlying0,
  a0:=Tryz.isAgg0,
  z0:=Tryz.sizeOf0,
  v0:=Tryz.zeroValue0,
  t3:=Tryz.underlying3,
  a3:=Tryz.isAgg3,
  z3:=Tryz.sizeOf3,
  v3:=Tryz.zeroValue3,
  t4:=Tryz.underlying4,
  a4:=Tryz.isAgg4,
  z4:=Tryz.sizeOf4,
  v4:=Tryz.zeroValue4,
  t9:=Tryz.underlying9,
  a9:=Tryz.isAgg9,
  z9:=Tryz.sizeOf9,
  v9:=Tryz.zeroValue9,
  t20:=Tryz.underlying20,
  a20:=Tryz.isAgg20,
  z20:=Tryz.sizeOf20,
  v20:=Tryz.zeroValue20,
  t31:=Tryz.underlying22,
  a31:=Tryz.isAgg22,
  z31:=Tryz.sizeOf22,
  v31:=Tryz.zeroValue22,
  t37:=Tryz.underlying181,
  a37:=Tryz.isAgg181,
  z37:=Tryz.sizeOf181,
  v37:=Tryz.zeroValue181,
  t70:=Tryz.underlying207,
  a70:=Tryz.isAgg207,
  z70:=Tryz.sizeOf207,
  v70:=Tryz.zeroValue207,
  t72:=Tryz.underlying209,
  a72:=Tryz.isAgg209,
  z72:=Tryz.sizeOf209,
  v72:=Tryz.zeroValue209,
  t75:=Tryz.underlying211,
  a75:=Tryz.isAgg211,
  z75:=Tryz.sizeOf211,
  v75:=Tryz.zeroValue211,
  t76:=Tryz.underlying213,
  a76:=Tryz.isAgg213,
  z76:=Tryz.sizeOf213,
  v76:=Tryz.zeroValue213,
  t127:=Tryz.underlying236,
  a127:=Tryz.isAgg236,
  z127:=Tryz.sizeOf236,
  v127:=Tryz.zeroValue236,
  t164:=Tryz.underlying250,
  a164:=Tryz.isAgg250,
  z164:=Tryz.sizeOf250,
  v164:=Tryz.zeroValue250 }
open Go Go.Ann Go.RowKit Go.WideShapes Go.Shelf
def BuL(b:Nat)(p v:Value)(bs:List UInt8):List Res:=[.blk b #[p,v] 209,.row v 5 1 bs.length (bs.map byteV)]
structure BuOk(b:Nat)(p v:Value)(bs:List UInt8):Prop where
 ptr:p=.pointer none∨p=.pointer (some ⟨b,0,none⟩)
 nil:bs=[]→v=.slice none 0 0
theorem goCC:goFunc Tryz.prog 188=true:=by kernel_rfl
theorem x72:Builder.X72 Tryz.prog layJoin_ren:=⟨by kernel_rfl,by kernel_rfl⟩
section
variable {W0 w:World} {F:Nat→Prop} {L:List Res} {I:List Inv} {b:Nat} {p v:Value} {bs:List UInt8}
theorem copyCheck_ok(h:St W0 w F (BuL b p v bs++L) I)(ok:BuOk b p v bs) :
  Ret Tryz.prog 188 [.pointer (some ⟨b,0,none⟩)] w fun u w'=>u=.tuple #[]∧St W0 w' F (BuL b (.pointer (some ⟨b,0,none⟩)) v bs++L) I:=by
 have hb:=h.blk 0 rfl
 have L240:Lays.n240 Tryz.prog layJoin_ren:={ layJoin with }
 rcases ok.ptr with rfl | rfl
 ·refine (Any.Builder_copyCheck_fresh L240 x72 b w (hb.cell 0) (by unfold World.shape?; rw [show w.heap[b]?=_ from hb]; rfl) (hb.frozen 0)).mono ?_
  rintro e w' ⟨rfl,rfl⟩
  exact ⟨_,rfl,rfl,h.set 0 rfl 0 (.pointer (some ⟨b,0,none⟩))⟩
 ·refine (Any.Builder_copyCheck_used L240 x72 b w (hb.cell 0)).mono ?_
  rintro e w' ⟨rfl,rfl⟩
  exact ⟨_,rfl,rfl,h⟩
theorem writeS_ok(s:List UInt8)(h:St W0 w F (BuL b p v bs++L) I)(ok:BuOk b p v bs)(hl:bs.length+s.length≤140737488355328) :
  Ret Tryz.prog 161 [.pointer (some ⟨b,0,none⟩),.string (ofL s)] w fun u w'=>∃ p' v',BuOk b p' v' (bs++s)∧St W0 w' F (BuL b p' v' (bs++s)++L) I:=by
 refine ent161 _ _ _ _ ?_
 simp (disch:=first|omega|exact zF rfl|exact zG rfl|exact fun h=>h|(simp only[zA,zB,zC,zD,bytesW];omega)) only[go_sem,goCC]
 refine Ret.mono (copyCheck_ok h ok) ?_
 rintro _ w2 ⟨rfl,h2⟩
 have r2:=h2.rules 0 rfl
 obtain ⟨a,c,rfl,_⟩:=own_slice (h2.row 1 rfl)
 simp (disch:=first|omega|exact zF rfl|exact zG rfl|exact fun h=>h|(simp only[zA,zB,zC,zD,bytesW];omega)) only[go_sem,r2]
 refine h2.appendS 1 rfl (by kernel_rfl) Tryz.underlying9 s hl ?_
 intro v3 w3 h3 c3 hn
 obtain ⟨a3,c3',rfl,_⟩:=own_slice (h3.row 1 rfl)
 have r3:=h3.rules 0 rfl
 simp (disch:=first|omega|exact zF rfl|exact zG rfl|exact fun h=>h|(simp only[zA,zB,zC,zD,bytesW];omega)) only[go_sem,r3]
 refine ⟨.pointer (some ⟨b,0,none⟩),.slice a3 (bs.length+s.length) c3',⟨.inr rfl,fun hnil=>?_⟩,st_recast (h3.set 0 rfl 1 (.slice a3 (bs.length+s.length) c3')) (by simp only [BuL,List.length_append,List.map_append]; rfl)⟩
 rw [List.append_eq_nil_iff] at hnil
 exact hn.2 ⟨ok.nil hnil.1,hnil.2⟩
theorem stringS_ok(h:St W0 w F (BuL b p v bs++L) I)(ok:BuOk b p v bs)(hl:bs.length≤140737488355328) :
  Ret Tryz.prog 162 [.pointer (some ⟨b,0,none⟩)] w fun u w'=>u=.string (ofL bs)∧St W0 w' F L I:=by
 refine ent162 _ _ _ ?_
 obtain ⟨a,c,rfl,hc⟩:=own_slice (h.row 1 rfl)
 simp (disch:=first|omega|exact zF rfl|exact zG rfl|exact fun h=>h|(simp only[zA,zB,zC,zD,bytesW];omega)) only[go_sem]
 refine c162draw0 (Same (fun k=>k=b) _) (Same.refl _ _) ?_
 have h2:=h.drew
 have r2:=h2.rules 0 rfl
 have l2:=h2.low 0 rfl
 generalize w.drew=w2 at h2 r2 l2 ⊢
 simp (disch:=first|omega|exact zF rfl|exact zG rfl|exact fun h=>h|(simp only[zA,zB,zC,zD,bytesW];omega)) only[go_sem,c162D0,r2]
 have h0:a=none∧c=0∨0<c:=by
  rcases Nat.eq_zero_or_pos bs.length with hz | hz
  ·have:=ok.nil (List.eq_nil_of_length_eq_zero hz)
   simp only [Value.slice.injEq] at this
   exact .inl ⟨this.1,this.2.2⟩
  ·exact .inr (by omega)
 have same:∀ w',Chg (fun k=>(Value.slice a bs.length c).ownBlock=some k) w2 w'→Same (fun k=>k=b) w2 w':=fun w' hc k hk=>by
  subst hk
  exact hc.block k l2.2 fun e=>h2.ne 1 0 rfl rfl (by decide) (k:=k) e rfl
 refine rawB_sliceData (e:=5) Tryz.underlying236 h0 ?_
 simp (disch:=first|omega|exact zF rfl|exact zG rfl|exact fun h=>h|(simp only[zA,zB,zC,zD,bytesW];omega)) only[go_sem]
 refine ⟨Same.refl _ _,h2.unsafeS 1 rfl Tryz.underlying236 (by kernel_rfl) ?_⟩
 intro w3 h3 c3
 simp (disch:=first|omega|exact zF rfl|exact zG rfl|exact fun h=>h|(simp only[zA,zB,zC,zD,bytesW];omega)) only[go_sem]
 exact ⟨same _ c3,h3.sub ((List.sublist_cons_self _ _).trans (List.sublist_cons_self _ _))⟩
end
open Go Go.Ann Go.RowKit Go.WideShapes Go.Shelf
section
variable {W0 w:World} {F:Nat→Prop} {L:List Res} {I:List Inv} {b:Nat} {p v:Value} {bs:List UInt8}
theorem byteV_one(x:UInt8):∀ u∈[byteV x],u.oneCell'=true:=by intro u hu; rw [List.mem_singleton] at hu; subst hu; rfl
theorem writeB_ok(x:UInt8)(h:St W0 w F (BuL b p v bs++L) I)(ok:BuOk b p v bs)(hl:bs.length+1≤140737488355328) :
  Ret Tryz.prog 160 [.pointer (some ⟨b,0,none⟩),.int .u8 x.toNat] w fun u w'=>∃ p' v',BuOk b p' v' (bs++[x])∧St W0 w' F (BuL b p' v' (bs++[x])++L) I:=by
 refine ent160 _ _ _ _ ?_
 simp (disch:=first|omega|exact zF rfl|exact zG rfl|exact fun h=>h|(simp only[zA,zB,zC,zD,bytesW];omega)) only[go_sem,goCC]
 refine Ret.mono (copyCheck_ok h ok) ?_
 rintro _ w2 ⟨rfl,h2⟩
 have r2:=h2.rules 0 rfl
 obtain ⟨a,c,rfl,_⟩:=own_slice (h2.row 1 rfl)
 simp (disch:=first|omega|exact zF rfl|exact zG rfl|exact fun h=>h|(simp only[zA,zB,zC,zD,bytesW];omega)) only[go_sem,r2]
 refine bsW_ones ty181mkI rfl rfl (by decide) (by decide) (byteV_one x) ?_
 simp (disch:=first|omega|exact zF rfl|exact zG rfl|exact fun h=>h|(simp only[zA,zB,zC,zD,bytesW];omega)) only[go_sem]
 have hx:Rd (w2.alloc (.cells #[.int .u8 x.toNat] 5)) 1 (.slice (some ⟨w2.heap.size,0,none⟩) 1 1) 1 [byteV x]:=rd_new (n:=1) (cs:=#[.int .u8 x.toNat]) rfl
 refine (h2.alloc' (.cells #[.int .u8 x.toNat] 5)).append 1 rfl ty181mkI rfl (by decide) hx (byteV_one x) (by omega) (by omega) ?_
 intro v3 w3 h3 c3
 obtain ⟨a3,c3',rfl,_⟩:=own_slice (h3.row 1 rfl)
 have r3:=h3.rules 0 rfl
 simp (disch:=first|omega|exact zF rfl|exact zG rfl|exact fun h=>h|(simp only[zA,zB,zC,zD,bytesW];omega)) only[go_sem,r3]
 refine ⟨.pointer (some ⟨b,0,none⟩),.slice a3 (bs.length+1) c3',⟨.inr rfl,fun hnil=>?_⟩,st_recast (h3.set 0 rfl 1 (.slice a3 (bs.length+1) c3')) (by simp only [BuL,List.length_append,List.map_append]; rfl)⟩
 rw [List.append_eq_nil_iff] at hnil
 exact absurd hnil.2 (by simp)
end
open Go Go.Ann Go.RowKit Go.WideShapes Go.Shelf
def u8N(n:Nat):UInt8:=UInt8.ofNat n
def entB(x:List UInt8 × List UInt8):List UInt8:=u8N x.1.length::(x.1++u8N x.2.length::x.2)
def leafB(l:List (List UInt8 × List UInt8)):List UInt8:=1::u8N l.length::l.flatMap entB
theorem u8N_wrap(n:Nat):IntKind.u8.wrap (n:Int)=((u8N n).toNat:Int):=by
 unfold u8N
 simp [IntKind.wrap,IntKind.signed,IntKind.bits]
theorem entB_len{l:List (List UInt8 × List UInt8)}(h:∀ x∈l,x.1.length≤255∧x.2.length≤255):(l.flatMap entB).length≤512 * l.length:=by
 induction l with
 | nil=>exact Nat.le_refl _
 | cons x l ih =>
  have h1:=h x List.mem_cons_self
  have h2:=ih fun y hy=>h y (List.mem_cons_of_mem _ hy)
  rw [List.flatMap_cons,List.length_append,List.length_cons]
  simp only [entB,List.length_cons,List.length_append]
  omega
section
variable {W0 w:World} {F:Nat→Prop} {L:List Res} {I:List Inv}
theorem writeLeaf_ok{kv vv:Value}{ca:Option Addr}{cc:Nat}{l:List (List UInt8 × List UInt8)}(w:World)(hk:RdS w 1 strE kv (l.map Prod.fst))(hv:RdS w 1 strE vv (l.map Prod.snd))(hl:l.length≤256)(hb:∀ x∈l,x.1.length≤255∧x.2.length≤255) :
  Ret Tryz.prog 127 [.agg #[.bool true,kv,vv,.slice ca 0 cc]] w fun u w'=>u=.string (ofL (leafB l))∧Below w.heap.size w w':=by
 obtain ⟨ka,kc,rfl,_⟩:=hk.form
 obtain ⟨va,vc,rfl,_⟩:=hv.form
 simp only [List.length_map] at *
 refine ent127 _ _ _ ?_
 simp (disch:=first|omega|exact zF rfl|exact zG rfl|exact fun h=>h|(simp only[zA,zB,zC,zD,bytesW];omega)) only[go_sem,c127S0,c127S1,c127S2,c127L0,c127S5,c127L1,c127S10,c127S11]
 have s1:=((St.start (W0:=w)).box #[.bool true,.slice ka l.length kc,.slice va l.length vc,.slice ca 0 cc] 119).box #[.pointer none,.slice none 0 0] 209
 rw [World.size_alloc] at s1
 generalize (w.alloc (.cells #[.bool true,.slice ka l.length kc,.slice va l.length vc,.slice ca 0 cc] 119)).alloc (.cells #[.pointer none,.slice none 0 0] 209)=w2 at s1 ⊢
 obtain ⟨b,hbb⟩:∃ b,b=w.heap.size:=⟨_,rfl⟩
 have fin:∀ {w'},Below w.heap.size w w'→Below b w w':=fun h=>hbb ▸ h
 rw [← hbb] at s1 ⊢
 have s2:St w w2 (fun _=>False) (BuL (b+1) (.pointer none) (.slice none 0 0) []++[.blk b #[.bool true,.slice ka l.length kc,.slice va l.length vc,.slice ca 0 cc] 119]) []:=(s1.nilRow 5 1).perm (List.Perm.swap _ _ _)
 refine Ret.mono (writeB_ok 1 s2 ⟨.inl rfl,fun _=>rfl⟩ (by decide)) ?_
 rintro _ w3 ⟨p3,v3,ok3,s3⟩
 have r3:=s3.rules 2 rfl
 simp (disch:=first|omega|exact zF rfl|exact zG rfl|exact fun h=>h|(simp only[zA,zB,zC,zD,bytesW];omega)) only[go_sem,c127S0,c127S1,c127S2,c127L0,c127S5,c127L1,c127S10,c127S12,r3,u8N_wrap]
 refine Ret.mono (writeB_ok (u8N l.length) s3 ok3 (by simp)) ?_
 rintro _ w4 ⟨p4,v4,ok4,s4⟩
 have r4:=s4.rules 2 rfl
 simp (disch:=first|omega|exact zF rfl|exact zG rfl|exact fun h=>h|(simp only[zA,zB,zC,zD,bytesW];omega)) only[go_sem,c127S0,c127S1,c127S2,c127S5,c127L1,c127S11,c127S12,r4]
 refine W_loopU (fun q:Nat × Value × Value=>[(21,.int .i64 q.1)]) (fun q w'=>q.1≤l.length∧BuOk (b+1) q.2.1 q.2.2 (1::u8N l.length::(l.take q.1).flatMap entB)∧St w w' (fun _=>False) (BuL (b+1) q.2.1 q.2.2 (1::u8N l.length::(l.take q.1).flatMap entB)++[.blk b #[.bool true,.slice ka l.length kc,.slice va l.length vc,.slice ca 0 cc] 119]) []) (fun q=>l.length - q.1) (0,p4,v4) rfl ⟨Nat.zero_le _,ok4,s4⟩ ?_
 clear r3 r4 s3 s4 s2 s1
 rintro ⟨k,p5,v5⟩ w5 ⟨hkl,ok5,s5⟩
 simp only at hkl ok5 s5
 have r5:=s5.rules 2 rfl
 by_cases hlt:k<l.length
 case neg =>
  have hlt':¬ (k:Int)<l.length:=by omega
  obtain rfl:k=l.length:=by omega
  rw [List.take_length] at s5 ok5
  simp (disch:=first|omega|exact zF rfl|exact zG rfl|exact fun h=>h|(simp only[zA,zB,zC,zD,bytesW];omega)) only[go_sem,c127S0,c127S1,c127S2,c127L0,c127S5,c127S10,c127S11,c127S12,c127L0,hlt',r5]
  have hel:=entB_len hb
  refine W_loopU (fun _:Unit=>[]) (fun _ w'=>w'=w5) (fun _=>0) () rfl rfl ?_
  rintro _ _ rfl
  simp (disch:=first|omega|exact zF rfl|exact zG rfl|exact fun h=>h|(simp only[zA,zB,zC,zD,bytesW];omega)) only[go_sem,c127S0,c127S1,c127S2,c127L0,c127S5,c127L1,c127S10,c127S11,c127S12,c127L1]
  refine Ret.mono (stringS_ok s5 ok5 (by rw [List.length_cons,List.length_cons]; omega)) ?_
  rintro _ w6 ⟨rfl,s6⟩
  simp (disch:=first|omega|exact zF rfl|exact zG rfl|exact fun h=>h|(simp only[zA,zB,zC,zD,bytesW];omega)) only[go_sem,c127S0,c127S1,c127S2,c127L0,c127S5,c127L1,c127S10,c127S11,c127S12]
  exact ⟨rfl,fin s6.bel⟩
 have hlt':(k:Int)<l.length:=by omega
 obtain ⟨q1,rfl⟩:=hk.ptr (by rw [List.length_map]; omega)
 obtain ⟨q2,rfl⟩:=hv.ptr (by rw [List.length_map]; omega)
 have hkr:∀ w',Below w.heap.size w w'→w'.cell? (q1.add k)=some (.string (ofL l[k].1)):=fun w' hb=>by
  have:=RdS.at1 (e1:=fun r=>.string (ofL r)) (hk.below hb (by decide)) (k:=k) (by rw [List.length_map]; omega)
  rw [List.getElem_map] at this
  exact this
 have hvr:∀ w',Below w.heap.size w w'→w'.cell? (q2.add k)=some (.string (ofL l[k].2)):=fun w' hb=>by
  have:=RdS.at1 (e1:=fun r=>.string (ofL r)) (hv.below hb (by decide)) (k:=k) (by rw [List.length_map]; omega)
  rw [List.getElem_map] at this
  exact this
 have ek:=hkr _ s5.bel
 have hbk:=hb _ (List.getElem_mem hlt)
 have hel:=entB_len (l:=l.take k) fun x hx=>hb x (List.mem_of_mem_take hx)
 rw [List.length_take] at hel
 obtain ⟨B,hB⟩:∃ B,B=1::u8N l.length::(l.take k).flatMap entB:=⟨_,rfl⟩
 have hBl:B.length≤512 * 256+2:=by rw [hB,List.length_cons,List.length_cons]; omega
 rw [← hB] at s5 ok5
 have en:1::u8N l.length::(l.take (k+1)).flatMap entB=B++[u8N l[k].1.length]++l[k].1++[u8N l[k].2.length]++l[k].2:=by
  rw [List.take_succ_eq_append_getElem hlt,List.flatMap_append,hB]
  simp [entB]
 simp (disch:=first|omega|exact zF rfl|exact zG rfl|exact fun h=>h|(simp only[zA,zB,zC,zD,bytesW];omega)) only[go_sem,c127S0,c127S1,c127L0,c127S5,c127L1,c127S11,c127S12,c127L0,hlt',ek,u8N_wrap]
 refine ⟨by omega,Ret.mono (writeB_ok (u8N l[k].1.length) s5 ok5 (by omega)) ?_⟩
 rintro _ w6 ⟨p6,v6,ok6,s6⟩
 have hl6:(B++[u8N l[k].1.length]).length=B.length+1:=by simp
 simp (disch:=first|omega|exact zF rfl|exact zG rfl|exact fun h=>h|(simp only[zA,zB,zC,zD,bytesW];omega)) only[go_sem,c127S0,c127S2,c127L0,c127S5,c127L1,c127S11,c127S12]
 refine Ret.mono (writeS_ok l[k].1 s6 ok6 (by omega)) ?_
 rintro _ w7 ⟨p7,v7,ok7,s7⟩
 have hl7:(B++[u8N l[k].1.length]++l[k].1).length=B.length+1+l[k].1.length:=by simp; omega
 have r7:=s7.rules 2 rfl
 have ev:=hvr _ s7.bel
 simp (disch:=first|omega|exact zF rfl|exact zG rfl|exact fun h=>h|(simp only[zA,zB,zC,zD,bytesW];omega)) only[go_sem,c127S1,c127S2,c127L0,c127S5,c127L1,c127S11,c127S12,r7,ev,hlt',u8N_wrap]
 refine ⟨by omega,Ret.mono (writeB_ok (u8N l[k].2.length) s7 ok7 (by omega)) ?_⟩
 rintro _ w8 ⟨p8,v8,ok8,s8⟩
 have hl8:(B++[u8N l[k].1.length]++l[k].1++[u8N l[k].2.length]).length=B.length+1+l[k].1.length+1:=by simp; omega
 have r8:=s8.rules 2 rfl
 have ev:=hvr _ s8.bel
 simp (disch:=first|omega|exact zF rfl|exact zG rfl|exact fun h=>h|(simp only[zA,zB,zC,zD,bytesW];omega)) only[go_sem,c127S0,c127S1,c127S2,c127L0,c127S5,c127L1,c127S11,c127S12,r8,ev,hlt']
 refine ⟨by omega,Ret.mono (writeS_ok l[k].2 s8 ok8 (by omega)) ?_⟩
 rintro _ w9 ⟨p9,v9,ok9,s9⟩
 simp (disch:=first|omega|exact zF rfl|exact zG rfl|exact fun h=>h|(simp only[zA,zB,zC,zD,bytesW];omega)) only[go_sem,c127S0,c127S1,c127S2,c127L0,c127S5,c127L1,c127S11,c127S12]
 rw [← en] at s9 ok9
 exact ⟨⟨by omega,by omega⟩,(k+1,p9,v9),rfl,⟨hlt,ok9,s9⟩,by simp only; omega⟩
end
open Go Go.Ann Go.RowKit Go.WideShapes Go.Shelf
theorem filledL_app(s:List UInt8):∃ r,filledL s=s++r:=⟨_,rfl⟩
theorem u8N_nat{n:Nat}(h:n≤255):(u8N n).toNat=n:=by
 unfold u8N
 rw [UInt8.toNat_ofNat']
 omega
theorem textP_own{x r:List UInt8}(h:x.length≤255):textP (u8N x.length::(x++r))=some (x,r):=by
 rw [textP,u8N_nat h,if_neg (by rw [List.length_append]; omega),List.take_left',List.drop_left'] <;> rfl
theorem entsP_own:∀ (l:List (List UInt8 × List UInt8)) (rest:List UInt8) (ks vs:List (List UInt8)),(∀ x∈l,x.1.length≤255∧x.2.length≤255)→entsP true l.length (l.flatMap entB++rest) ks vs=some (ks++l.map Prod.fst,vs++l.map Prod.snd,rest)
 | [],rest,ks,vs,_=>by simp [entsP]
 | x::l,rest,ks,vs,h=>by
  have h1:=h x List.mem_cons_self
  have ih:=entsP_own l rest (ks++[x.1]) (vs++[x.2]) fun y hy=>h y (List.mem_cons_of_mem _ hy)
  have e1:(x::l).flatMap entB++rest=u8N x.1.length::(x.1++(u8N x.2.length::(x.2++(l.flatMap entB++rest)))):=by simp [entB]
  rw [e1,List.length_cons,entsP,textP_own h1.1]
  simp only [if_true]
  rw [textP_own h1.2]
  simp only
  rw [ih]
  simp
theorem parseP_own{l:List (List UInt8 × List UInt8)}(rest:List UInt8)(hl:l.length≤255)(h:∀ x∈l,x.1.length≤255∧x.2.length≤255):parseP (leafB l++rest)=some ⟨true,l.map Prod.fst,l.map Prod.snd,[]⟩:=by
 have e1:leafB l++rest=1::u8N l.length::(l.flatMap entB++rest):=rfl
 rw [e1,parseP,if_neg (by simp),u8N_nat hl]
 have e2:decide ((1:UInt8)=1)=true:=rfl
 rw [e2,entsP_own l rest [] [] h]
 simp
section
variable {W0 w:World} {F:Nat→Prop} {L:List Res} {I:List Inv} {e:En} {P:List (List UInt8)} {tb:Nat} {i:Int}
def LeafAt(P:List (List UInt8))(a:Nat)(l:List (List UInt8 × List UInt8)):Prop:=(∀ x∈l,x.1.length≤255∧x.2.length≤255)∧l.length≤255∧∃ r,P.getD a []=leafB l++r
theorem load_ok{a:Nat}{l:List (List UInt8 × List UInt8)}(h:Pgr e P W0 w F (trB tb e i::L) I)(h3:3≤P.length)(ha:a≤100000)(hok:chkN P a=0)(hl:LeafAt P a l)(hlen:(P.getD a []).length≤1000) :
  Ret Tryz.prog 75 [.pointer (some ⟨tb,0,none⟩),.int .i64 a] w fun u w'=>∃ kv vv ca cc,u=.tuple #[.agg #[.bool true,kv,vv,.slice ca 0 cc],.int .i64 0]∧Pgr e P W0 w' F (.row kv 9 1 l.length ((l.map Prod.fst).flatMap strE)::.row vv 9 1 l.length ((l.map Prod.snd).flatMap strE)::trB tb e i::L) I:=by
 have h2:=h.box #[.bool false,.slice none 0 0,.slice none 0 0,.slice none 0 0] 119
 refine ent75 _ _ _ _ ?_
 simp (disch:=first|omega|exact zF rfl|exact zG rfl|exact fun h=>h|(simp only[zA,zB,zC,zD,bytesW];omega)) only[go_sem,c75S1]
 generalize w.heap.size=b at h2 ⊢
 generalize w.alloc (.cells #[.bool false,.slice none 0 0,.slice none 0 0,.slice none 0 0] 119)=w2 at h2 ⊢
 have r:=h2.rules 1 rfl
 simp (disch:=first|omega|exact zF rfl|exact zG rfl|exact fun h=>h|(simp only[zA,zB,zC,zD,bytesW];omega)) only[go_sem,c75S1,r]
 refine Ret.mono (pget_ok (a:Nat) h2 h3 ⟨by omega,by omega⟩) ?_
 have eg:getN P (a:Nat)=(P.getD a [],0):=by
  unfold getN
  rw [if_neg (by rw [hok]; exact fun h=>h rfl)]; rfl
 rw [eg]
 rintro _ w3 ⟨rfl,h3'⟩
 simp (disch:=first|omega|exact zF rfl|exact zG rfl|exact fun h=>h|(simp only[zA,zB,zC,zD,bytesW];omega)) only[go_sem,c75S1]
 obtain ⟨A,st,back⟩:=h3'.lift
 refine Ret.mono (parse_ok (P.getD a []) st (by omega)) ?_
 obtain ⟨hb,hl2,r2,er⟩:=hl
 rw [er,parseP_own r2 hl2 hb]
 rintro _ w4 ⟨kv,vv,cv,rfl,s4⟩
 obtain ⟨ca,cc,rfl,_⟩:=own_slice (s4.row 2 rfl)
 obtain ⟨ka,kc,rfl,_⟩:=own_slice (s4.row 0 rfl)
 obtain ⟨va,vc,rfl,_⟩:=own_slice (s4.row 1 rfl)
 simp only [List.length_map] at s4 ⊢
 have r4:=s4.rules 3 rfl
 simp (disch:=first|omega|exact zF rfl|exact zG rfl|exact fun h=>h|(simp only[zA,zB,zC,zD,bytesW];omega)) only[go_sem,c75S1,r4]
 have q5:=back _ (.row (.slice ka l.length kc) 9 1 l.length ((l.map Prod.fst).flatMap strE)::.row (.slice va l.length vc) 9 1 l.length ((l.map Prod.snd).flatMap strE)::.row (.slice ca 0 cc) 3 1 0 []::.blk b #[.bool true,.slice ka l.length kc,.slice va l.length vc,.slice ca 0 cc] 119::trB tb e i::L) _ (s4.fill 3 rfl rfl)
 exact ⟨_,_,ca,cc,rfl,q5.sub (.cons_cons _ (.cons_cons _ (.cons _ (.cons _ (List.Sublist.refl _)))))⟩
theorem lay_ok{a:Nat}{l:List (List UInt8 × List UInt8)}{kv vv:Value}{ca:Option Addr}{cc:Nat}(h:Pgr e P W0 w F (trB tb e i::L) I)(h3:3≤P.length)(ha:a≤100000)(hok:chkN P a=0)(hm:a<e.mx)(hk:RdS w 1 strE kv (l.map Prod.fst))(hv:RdS w 1 strE vv (l.map Prod.snd))(hl:l.length≤255)(hb:∀ x∈l,x.1.length≤255∧x.2.length≤255)(hs:(leafB l).length≤256) :
  Ret Tryz.prog 65 [.pointer (some ⟨tb,0,none⟩),.int .i64 a,.agg #[.bool true,kv,vv,.slice ca 0 cc]] w fun u w'=>u=.int .i64 0∧Pgr e (P.set a (filledL (leafB l))) W0 w' F (trB tb e i::L) I:=by
 obtain ⟨ka,kc,rfl,_⟩:=hk.form
 obtain ⟨va,vc,rfl,_⟩:=hv.form
 simp only [List.length_map] at *
 have h2:=h.box #[.bool true,.slice ka l.length kc,.slice va l.length vc,.slice ca 0 cc] 119
 have hk2:=hk.below ((Below.refl _ w).alloc (Nat.le_refl _) (.cells #[.bool true,.slice ka l.length kc,.slice va l.length vc,.slice ca 0 cc] 119)) (by decide)
 have hv2:=hv.below ((Below.refl _ w).alloc (Nat.le_refl _) (.cells #[.bool true,.slice ka l.length kc,.slice va l.length vc,.slice ca 0 cc] 119)) (by decide)
 refine ent65 _ _ _ _ _ ?_
 simp (disch:=first|omega|exact zF rfl|exact zG rfl|exact fun h=>h|(simp only[zA,zB,zC,zD,bytesW];omega)) only[go_sem]
 generalize w.heap.size=b at h2 ⊢
 generalize w.alloc (.cells #[.bool true,.slice ka l.length kc,.slice va l.length vc,.slice ca 0 cc] 119)=w2 at h2 hk2 hv2 ⊢
 refine c65draw0 (Same (fun k=>k=tb) _) (Same.refl _ _) ?_
 have h3':=h2.drew
 have hk3:=hk2.below (Below.refl _ w2).drew (by decide)
 have hv3:=hv2.below (Below.refl _ w2).drew (by decide)
 generalize w2.drew=w3 at h3' hk3 hv3 ⊢
 have r0:=h3'.rules 0 rfl
 have r1:=h3'.rules 1 rfl
 simp (disch:=first|omega|exact zF rfl|exact zG rfl|exact fun h=>h|(simp only[zA,zB,zC,zD,bytesW];omega)) only[go_sem,c65D0,r0,r1]
 refine ⟨Same.refl _ _,Ret.mono (writeLeaf_ok w3 hk3 hv3 (Nat.le_succ_of_le hl) hb) ?_⟩
 rintro _ w4 ⟨rfl,b4⟩
 have h4:=h3'.below b4
 simp (disch:=first|omega|exact zF rfl|exact zG rfl|exact fun h=>h|(simp only[zA,zB,zC,zD,bytesW];omega)) only[go_sem,c65D0]
 have es:setPN P (a:Nat) (leafB l)=(P.set a (filledL (leafB l)),0):=by
  unfold setPN
  rw [if_neg (by rw [hok]; exact fun h=>h rfl),if_neg (by omega)]; rfl
 refine ⟨?_,Ret.mono (pset_ok (a:Nat) (leafB l) h4 h3 ⟨by omega,by omega⟩ (fun _=>by omega)) ?_⟩
 ·rintro k rfl
  exact (h4.bk 1 rfl).trans (h3'.bk 1 rfl).symm
 rw [es]
 rintro _ w5 ⟨rfl,h5⟩
 simp (disch:=first|omega|exact zF rfl|exact zG rfl|exact fun h=>h|(simp only[zA,zB,zC,zD,bytesW];omega)) only[go_sem]
 exact h5.sub (List.sublist_cons_self ..)
end
open Go Go.Ann Go.RowKit Go.WideShapes Go.Shelf
theorem strE_len1(x:List UInt8):(strE x).length=1:=rfl
theorem strE_one1(x:List UInt8):∀ u∈strE x,u.oneCell'=true:=str_one' x
theorem strE_ones7(l:List (List UInt8)):∀ u∈l.flatMap strE,u.oneCell'=true:=fun u hu=>by
 obtain ⟨x,_,hx⟩:=List.mem_flatMap.1 hu
 exact str_one' x u hx
theorem strs_len1(l:List (List UInt8)):(l.flatMap strE).length=l.length * 1:=by
 induction l with
 | nil=>rfl
 | cons a l ih=>rw [List.flatMap_cons,List.length_append,ih,List.length_cons,strE_len1]; omega
theorem strs_set:∀ (l:List (List UInt8)) (i:Nat) (r:List UInt8),(l.set i r).flatMap strE=(l.flatMap strE).set i (.string (ofL r))
 | [],_,_=>rfl
 | a::l,0,r=>rfl
 | a::l,i+1,r=>by
  rw [List.set_cons_succ,List.flatMap_cons,List.flatMap_cons,strs_set l i r]; rfl
@[go_sem] theorem goOverlapsS:goFunc Tryz.prog 163=false:=by kernel_rfl
section
variable {W0 w:World} {F:Nat→Prop} {L:List Res} {I:List Inv} {rv:Value} {l:List (List UInt8)}
theorem insertS_ok{x:List UInt8}{vb:Nat}(h:St W0 w F (.row rv 9 1 l.length (l.flatMap strE)::.blk vb (strE x).toArray 9::L) I)(hl:l.length≤1000000) :
  Ret Tryz.prog 128 [rv,.int .i64 0,.slice (some ⟨vb,0,none⟩) 1 1] w fun u w'=>St W0 w' F (.row u 9 1 (l.length+1) ((x::l).flatMap strE)::.blk vb (strE x).toArray 9::L) I:=by
 have hr:=h.row 0 rfl
 have hv:=h.blk 1 rfl
 obtain ⟨a,cap,rfl,hnc⟩:=own_slice hr
 have hx:Rd w 1 (.slice (some ⟨vb,0,none⟩) 1 1) 1 (strE x):=by
  refine ⟨rfl,_,_,rfl,Nat.le_refl _,fun _=>⟨_,rfl,fun j u hu=>?_⟩⟩
  rw [Addr.add_lit,Nat.zero_add,hv.cell,List.getElem?_toArray]
  exact hu
 refine ent128 _ _ _ _ _ ?_
 by_cases hn:l.length=0
 ·have hl0:l=[]:=List.eq_nil_of_length_eq_zero hn
  subst hl0
  simp (disch:=first|omega|exact zF rfl|exact zG rfl|exact fun h=>h|(simp only[zA,zB,zC,zD,bytesW];omega)) only[go_sem]
  refine h.append 0 rfl ty22mkI rfl (by decide) hx (strE_one1 x) (by simp) (by simp) ?_
  intro v2 w2 s2 _
  simp (disch:=first|omega|exact zF rfl|exact zG rfl|exact fun h=>h|(simp only[zA,zB,zC,zD,bytesW];omega)) only[go_sem]
  exact s2
 have hn':¬ (0:Int)=l.length:=by omega
 rcases hr.2 with ⟨_,h0⟩ | ⟨g,cap',cur,hv',hb,hg,hnc',hcm,hcs,htake⟩
 ·omega
 simp only [Value.slice.injEq,true_and] at hv'
 obtain ⟨rfl,rfl⟩:=hv'
 have hclen:cur.toList.length=cap * 1:=by rw [Array.length_toList,hcs]
 have hcells:∀ j u,(l.flatMap strE)[j]?=some u→w.cell? ((⟨g,0,none⟩:Addr).add j)=some u:=fun j u hu=>by
  have hj:j<l.length * 1:=by
   have:=(List.getElem?_eq_some_iff.1 hu).1
   rwa [strs_len1] at this
  rw [Addr.add_lit,Nat.zero_add,hr.cellAt _ hj,hu]
 have hvcells:∀ j u,(strE x)[j]?=some u→w.cell? ((⟨vb,0,none⟩:Addr).add j)=some u:=fun j u hu=>by
  rw [Addr.add_lit,Nat.zero_add,hv.cell,List.getElem?_toArray]; exact hu
 have hgv:g≠vb:=fun e=>h.ne 0 1 rfl rfl (by decide) (k:=g) rfl (by rw [e]; rfl)
 have e0:offA (some ⟨g,0,none⟩) cap 0 1=some ⟨g,0,none⟩:=by unfold offA; split <;> rfl
 have hfl:=strs_len1 l
 by_cases hc:cap<l.length+1
 ·have hc':(cap:Int)<l.length+1:=by omega
  simp (disch:=first|omega|exact zF rfl|exact zG rfl|exact fun h=>h|(simp only[zA,zB,zC,zD,bytesW];omega)) only[go_sem,hn',hc']
  refine ⟨by omega,⟨by omega,by omega⟩,capB ty22mkI ?_⟩
  simp (disch:=first|omega|exact zF rfl|exact zG rfl|exact fun h=>h|(simp only[zA,zB,zC,zD,bytesW];omega)) only[go_sem,hc']
  rw [e0,show ((l.length:Int)+1 - 0)=((l.length+1:Nat):Int) by omega]
  refine ⟨by omega,⟨by omega,by omega⟩,⟨by omega,by omega⟩,growB ty22mkI Tryz.underlying3 rfl (by decide) (by omega) hc (by omega) (by omega) ?_⟩
  intro G Z hG1 hG2 hZ
  have b1:Below w.heap.size w (w.drew.alloc (.cells Z 9)):=((Below.refl _ w).drew).alloc (Nat.le_refl _) _
  have B1:Blk (w.drew.alloc (.cells Z 9)) w.heap.size Z 9:=Blk.new (w:=w.drew)
  have hlt:=hr.lt g rfl
  have hltv:=hv.lt
  generalize w.drew.alloc (.cells Z 9)=w1 at b1 B1 ⊢
  generalize hy:w.heap.size=y at b1 B1 hlt hltv ⊢
  simp (disch:=first|omega|exact zF rfl|exact zG rfl|exact fun h=>h|(simp only[zA,zB,zC,zD,bytesW];omega)) only[go_sem]
  have e1:offA (some ⟨y,0,none⟩) G 0 1=some ⟨y,0,none⟩:=by unfold offA; split <;> rfl
  have hZl:Z.toList.length=G * 1:=by rw [Array.length_toList,hZ]
  have old1:∀ p:Addr,p.block<y→w1.cell? p=w.cell? p:=fun p hp=>World.cell?_of_block (b1.block _ hp)
  rw [e1]
  refine ⟨by omega,copyB (sz:=1) (k:=1) (ys:=strE x) ty22mkI B1 (by omega) rfl (fun j u hu=>by rw [old1 _ (by rw [add_block]; exact hltv)]; exact hvcells j u hu) (strE_one1 x) (by rw [hZ,strE_len1]; omega) ?_⟩
  intro w2 B2 c2
  have b2:Below y w w2:=b1.trans (c2.below (hy ▸ b1.size) fun k hk e=>by omega)
  simp (disch:=first|omega|exact zF rfl|exact zG rfl|exact fun h=>h|(simp only[zA,zB,zC,zD,bytesW];omega)) only[go_sem]
  refine c128draw0 ?_
  have b3:Below y w w2.drew:=b2.drew
  have B3:Blk w2.drew y (overL Z.toList 0 (strE x)).toArray 9:=B2
  have old3:∀ p:Addr,p.block<y→w2.drew.cell? p=w.cell? p:=fun p hp=>World.cell?_of_block (b3.block _ hp)
  generalize w2.drew=w3 at b3 B3 old3 ⊢
  have e3:offA (some ⟨y,0,none⟩) G 1 1=some ⟨y,1,none⟩:=by unfold offA; rw [if_neg (by omega)]; rfl
  have hl3:(overL Z.toList 0 (strE x)).length=G * 1:=by rw [overL_length (by rw [hZl,strE_len1]; omega),hZl]
  simp (disch:=first|omega|exact zF rfl|exact zG rfl|exact fun h=>h|(simp only[zA,zB,zC,zD,bytesW];omega)) only[go_sem,c128D0]
  rw [e3,e0]
  refine ⟨⟨by omega,by omega⟩,by omega,by omega,copyB (sz:=1) (k:=l.length) (ys:=l.flatMap strE) ty22mkI B3 (by rw [Nat.sub_zero]; exact Nat.min_self _) hfl (fun j u hu=>by rw [old3 _ (by rw [add_block]; exact hlt.2)]; exact hcells j u hu) (strE_ones7 l) (by rw [List.size_toArray,hl3,hfl]; omega) ?_⟩
  intro w5 B5 c5
  simp only [List.toList_toArray] at B5
  have b5:Below w.heap.size w w5:=by
   rw [hy]
   exact b3.trans (c5.below (hy ▸ b3.size) fun k hk e=>by omega)
  simp (disch:=first|omega|exact zF rfl|exact zG rfl|exact fun h=>h|(simp only[zA,zB,zC,zD,bytesW];omega)) only[go_sem]
  have hl5:(overL (overL Z.toList 0 (strE x)) 1 (l.flatMap strE)).length=G * 1:=by rw [overL_length (by rw [hl3,hfl]; omega),hl3]
  have ht:(overL (overL Z.toList 0 (strE x)) 1 (l.flatMap strE)).take ((l.length+1) * 1)=(x::l).flatMap strE:=by
   rw [overL_take (by rw [hfl]; omega) (by rw [hl3]; omega),overL_take (by rw [strE_len1]) (by omega),List.take_zero,List.nil_append,List.flatMap_cons]
  have hnew:(Res.row (.slice (some ⟨y,0,none⟩) (l.length+1) G) 9 1 (l.length+1) ((x::l).flatMap strE)).ok w5 W0.heap.size :=
   ⟨by rw [strs_len1,List.length_cons],.inr ⟨y,G,_,rfl,by rw [← hy]; exact h.size,B5,hG1,hG2,by rw [List.size_toArray,hl5],ht⟩⟩
  have s5:=h.add b5 _ hnew fun k hk=>by
   simp only [Res.own,Value.ownBlock,Option.some.injEq] at hk; omega
  exact s5.sub (List.Sublist.cons_cons _ (List.sublist_cons_self _ _))
 ·have hc':¬ (cap:Int)<l.length+1:=by omega
  simp (disch:=first|omega|exact zF rfl|exact zG rfl|exact fun h=>h|(simp only[zA,zB,zC,zD,bytesW];omega)) only[go_sem,hn',hc']
  refine ⟨by omega,⟨by omega,by omega⟩,capB ty22mkI ?_⟩
  simp (disch:=first|omega|exact zF rfl|exact zG rfl|exact fun h=>h|(simp only[zA,zB,zC,zD,bytesW];omega)) only[go_sem,hc']
  have e1:offA (some ⟨g,0,none⟩) cap 1 1=some ⟨g,1,none⟩:=by unfold offA; rw [if_neg (by omega)]; rfl
  rw [e0,e1]
  refine ⟨⟨by omega,by omega⟩,⟨by omega,by omega⟩,⟨by omega,by omega⟩,by omega,overlapsW (t:=22) (tR:=4) Tryz.func163 (by kernel_rfl) (by kernel_rfl) (by kernel_rfl) (by kernel_rfl) ty22mkI (fun e=>hgv e.symm) hv hg (by omega) ?_⟩
  simp (disch:=first|omega|exact zF rfl|exact zG rfl|exact fun h=>h|(simp only[zA,zB,zC,zD,bytesW];omega)) only[go_sem]
  refine c128draw1 ?_
  have h2:=h.drew
  have hg2:Blk w.drew g cur 9:=hg
  have hc2:∀ j u,(l.flatMap strE)[j]?=some u→w.drew.cell? ((⟨g,0,none⟩:Addr).add j)=some u:=hcells
  have e2:((l.length:Int)+1).toNat=l.length+1:=by omega
  simp (disch:=first|omega|exact zF rfl|exact zG rfl|exact fun h=>h|(simp only[zA,zB,zC,zD,bytesW];omega)) only[go_sem,c128D1]
  rw [e2,e0,e1]
  refine ⟨by constructor <;> omega,by omega,by omega,copyB (sz:=1) (k:=l.length) (ys:=l.flatMap strE) ty22mkI hg2 (by omega) hfl hc2 (strE_ones7 l) (by rw [hfl]; omega) ?_⟩
  intro w3 B3 c3
  have hl3:(overL cur.toList 1 (l.flatMap strE)).length=cap * 1:=by rw [overL_length (by rw [hclen,hfl]; omega),hclen]
  have hvc3:∀ j u,(strE x)[j]?=some u→w3.cell? ((⟨vb,0,none⟩:Addr).add j)=some u:=fun j u hu=>by
   have:w3.cell? ((⟨vb,0,none⟩:Addr).add j)=w.cell? ((⟨vb,0,none⟩:Addr).add j):=World.cell?_of_block (by rw [add_block]; exact c3.block vb hv.lt (fun e=>hgv e.symm))
   rw [this]; exact hvcells j u hu
  simp (disch:=first|omega|exact zF rfl|exact zG rfl|exact fun h=>h|(simp only[zA,zB,zC,zD,bytesW];omega)) only[go_sem]
  rw [e0]
  refine ⟨by omega,copyB (sz:=1) (k:=1) (ys:=strE x) ty22mkI B3 (by omega) rfl hvc3 (strE_one1 x) (by rw [List.size_toArray,hl3,strE_len1]; omega) ?_⟩
  intro w5 B5 c5
  simp only [List.toList_toArray] at B5
  simp (disch:=first|omega|exact zF rfl|exact zG rfl|exact fun h=>h|(simp only[zA,zB,zC,zD,bytesW];omega)) only[go_sem]
  have hl5:(overL (overL cur.toList 1 (l.flatMap strE)) 0 (strE x)).length=cap * 1:=by rw [overL_length (by rw [hl3,strE_len1]; omega),hl3]
  have ht:(overL (overL cur.toList 1 (l.flatMap strE)) 0 (strE x)).take ((l.length+1) * 1)=(x::l).flatMap strE:=by
   rw [overL_head (by rw [strE_len1]; omega),overL_take (by rw [hfl]; omega) (by rw [hclen]; omega),strE_len1,List.drop_append,List.drop_of_length_le (by rw [List.length_take]; omega),List.nil_append,List.length_take,Nat.min_eq_left (by omega),Nat.sub_self,List.drop_zero,List.flatMap_cons]
  have hc:Chg (fun k=>(Res.row (.slice (some ⟨g,0,none⟩) l.length cap) 9 1 l.length (l.flatMap strE)).own=some k) w w5 :=
   (((Chg.refl (fun k=>k=g) w).drew.trans c3).trans c5).mono fun k _ hk=>by subst hk; rfl
  exact h.upd 0 rfl hc (.row (.slice (some ⟨g,0,none⟩) (l.length+1) cap) 9 1 (l.length+1) ((x::l).flatMap strE)) ⟨by rw [strs_len1,List.length_cons],.inr ⟨g,cap,_,rfl,hb,B5,by omega,hcm,by rw [List.size_toArray,hl5],ht⟩⟩ fun k hk=>.inl hk
end
open Go Go.Ann Go.RowKit Go.WideShapes Go.Shelf
theorem growB2{P:Program}{t e sz bytes:Nat}{z:Value}{w:World}{K:Value→World→Prop}{tn ty s m cap:Nat}{a:Addr}{xs:List Value}{kq kn:IntKind}{cs:Array Bool}(hm:mkI P t=some (e,sz,bytes,z))(htn:P.underlying tn=some (.int kn))(hzs:z.cells.size=sz)(hsz:0<sz)(h0:0<m)
  (hl:xs.length=s * sz) (hr:∀ j u,xs[j]?=some u→w.cell? (a.add j)=some u) (hg:cap<s+m) (h63:s+m≤9223372036854775807) (hb:(s+m) * bytes≤140737488355328)
  (hK:∀ G Z,s+m≤G→G≤maxLen→Z.size=G * sz→Z.toList.take (s * sz)=xs→K (.slice (some ⟨w.heap.size,0,none⟩) (s+m) G) (w.drew.alloc (.cells Z e))) :
  rawB P .append #[t,tn] ty cs [.slice (some a) s cap,.int kq m] w K:=by
 obtain ⟨i,hu,hi,hzz,hsi,hby⟩:=mkI_some hm
 have hold:(Builtin.firstCells i.size s (.slice (some a) s cap)).run P w.drew=.ok xs.toArray w.drew:=by
  have:=run_loadCells_list (P:=P) w.drew a xs hr
  rw [hl,hsi] at this
  simp only [Builtin.firstCells]
  exact this
 have hmb:m * bytes≤(s+m) * bytes:=Nat.mul_le_mul_right _ (Nat.le_add_left _ _)
 have h:=Lib.run_append_grow_zeros w t tn ty e i z kq kn hu htn hi hzz (some a) s cap xs hold m h0 (by omega) (by omega) (by omega) (by rw [← hby]; omega) (by rw [← hby]; exact growslice_fits hg hb)
 refine ⟨_,_,?_,hK (grownCap w (s+m) cap e) (xs.toArray++Builtin.zeroCells z.cells m++Builtin.zeroCells z.cells (grownCap w (s+m) cap e - (s+m))) (grownCap_ge w (s+m) cap e) (grownCap_le_maxLen w (s+m) cap e (by simp only [maxLen]; omega)) ?_ ?_⟩
 ·simp [builtin,h]
 ·have:=grownCap_ge w (s+m) cap e
  simp only [Array.size_append,size_zeroCells,hzs,List.size_toArray,hl,← Nat.add_mul]
  congr 1
  omega
 ·simp only [Array.toList_append,List.append_assoc]
  rw [← hl,List.take_left]
theorem nat_len1(x:Nat):(natE x).length=1:=rfl
theorem nats_len1(l:List Nat):(l.flatMap natE).length=l.length * 1:=by rw [nats_len]; omega
theorem nats_ones(l:List Nat):∀ u∈l.flatMap natE,u.oneCell'=true:=fun u hu=>by
 obtain ⟨x,_,hx⟩:=List.mem_flatMap.1 hu
 exact nat_one x u hx
theorem offA_zero(g cap:Nat):offA (some (⟨g,0,none⟩:Addr)) cap 0 1=some ⟨g,0,none⟩:=by unfold offA; split <;> rfl
theorem offA_in{g cap k:Nat}(h:k<cap):offA (some (⟨g,0,none⟩:Addr)) cap k 1=some ⟨g,k,none⟩:=by
 unfold offA
 rw [if_neg (by omega),Option.map_some]
 simp [Addr.add]
 try omega
@[go_sem] theorem goOverlapsI:goFunc Tryz.prog 167=false:=by kernel_rfl
section
variable {W0 w:World} {F:Nat→Prop} {L:List Res} {I:List Inv} {rv:Value}
theorem insS_ok{l:List (List UInt8)}{i:Nat}{x:(List UInt8)}{vb:Nat}(h:St W0 w F (.row rv 9 1 l.length (l.flatMap strE)::.blk vb (strE x).toArray 9::L) I)(hl:l.length≤1000000)(hi:i≤l.length) :
  Ret Tryz.prog 128 [rv,.int .i64 i,.slice (some ⟨vb,0,none⟩) 1 1] w fun u w'=>St W0 w' F (.row u 9 1 (l.length+1) ((l.take i++x::l.drop i).flatMap strE)::.blk vb (strE x).toArray 9::L) I:=by
 have hr:=h.row 0 rfl
 have hv:=h.blk 1 rfl
 obtain ⟨a,cap,rfl,hnc⟩:=own_slice hr
 have hx:Rd w 1 (.slice (some ⟨vb,0,none⟩) 1 1) 1 (strE x):=by
  refine ⟨rfl,_,_,rfl,Nat.le_refl _,fun _=>⟨_,rfl,fun j u hu=>?_⟩⟩
  rw [Addr.add_lit,Nat.zero_add,hv.cell,List.getElem?_toArray]
  exact hu
 refine ent128 _ _ _ _ _ ?_
 have hi':(i:Int)≤l.length:=by omega
 by_cases hn:i=l.length
 ·subst hn
  simp (disch:=first|omega|exact zF rfl|exact zG rfl|exact fun h=>h|(simp only[zA,zB,zC,zD,bytesW];omega)) only[go_sem]
  refine ⟨by omega,h.append 0 rfl ty22mkI rfl (by decide) hx (strE_one1 x) (by omega) (by omega) ?_⟩
  intro v2 w2 s2 _
  simp (disch:=first|omega|exact zF rfl|exact zG rfl|exact fun h=>h|(simp only[zA,zB,zC,zD,bytesW];omega)) only[go_sem]
  rw [List.take_length,List.drop_length]
  have el:l.flatMap strE++strE x=(l++[x]).flatMap strE:=by rw [List.flatMap_append]; simp
  rw [el] at s2
  exact s2
 have hil:i<l.length:=by omega
 have hn':¬ (i:Int)=l.length:=by omega
 rcases hr.2 with ⟨_,h0⟩ | ⟨g,cap',cur,hv',hb,hg,hnc',hcm,hcs,htake⟩
 ·omega
 simp only [Value.slice.injEq,true_and] at hv'
 obtain ⟨rfl,rfl⟩:=hv'
 have hclen:cur.toList.length=cap * 1:=by rw [Array.length_toList,hcs]
 have hcells:∀ j u,(l.flatMap strE)[j]?=some u→w.cell? ((⟨g,0,none⟩:Addr).add j)=some u:=fun j u hu=>by
  have hj:j<l.length * 1:=by
   have:=(List.getElem?_eq_some_iff.1 hu).1
   rwa [strs_len1] at this
  rw [Addr.add_lit,Nat.zero_add,hr.cellAt _ hj,hu]
 have hvcells:∀ j u,(strE x)[j]?=some u→w.cell? ((⟨vb,0,none⟩:Addr).add j)=some u:=fun j u hu=>by
  rw [Addr.add_lit,Nat.zero_add,hv.cell,List.getElem?_toArray]; exact hu
 have hgv:g≠vb:=fun e=>h.ne 0 1 rfl rfl (by decide) (k:=g) rfl (by rw [e]; rfl)
 have hfl:=strs_len1 l
 have hsp:l.flatMap strE=(l.take i).flatMap strE++(l.drop i).flatMap strE:=by rw [← List.flatMap_append,List.take_append_drop]
 have hft:((l.take i).flatMap strE).length=i:=by rw [strs_len1,List.length_take]; omega
 have hfd:((l.drop i).flatMap strE).length=(l.length - i) * 1:=by rw [strs_len1,List.length_drop]
 have hctk:∀ j u,((l.take i).flatMap strE)[j]?=some u→w.cell? ((⟨g,0,none⟩:Addr).add j)=some u:=fun j u hu=>hcells j u (by rw [hsp,List.getElem?_append_left (List.getElem?_eq_some_iff.1 hu).1]; exact hu)
 have hcdr:∀ j u,((l.drop i).flatMap strE)[j]?=some u→w.cell? ((⟨g,i,none⟩:Addr).add j)=some u:=fun j u hu=>by
  have:=hcells (i+j) u (by rw [hsp,List.getElem?_append_right (by omega),hft,Nat.add_sub_cancel_left]; exact hu)
  rw [Addr.add_lit,Nat.zero_add] at this
  rw [Addr.add_lit]
  exact this
 have hres:(l.take i++x::l.drop i).flatMap strE=(l.take i).flatMap strE++(strE x++(l.drop i).flatMap strE):=by rw [List.flatMap_append,List.flatMap_cons]
 have hreslen:(l.take i++x::l.drop i).length=l.length+1:=by rw [List.length_append,List.length_cons,List.length_take,List.length_drop]; omega
 by_cases hc:cap<l.length+1
 ·have hc':(cap:Int)<l.length+1:=by omega
  simp (disch:=first|omega|exact zF rfl|exact zG rfl|exact fun h=>h|(simp only[zA,zB,zC,zD,bytesW];omega)) only[go_sem,hn',hc']
  refine ⟨⟨by omega,by omega⟩,⟨by omega,by omega⟩,capB ty22mkI ?_⟩
  simp (disch:=first|omega|exact zF rfl|exact zG rfl|exact fun h=>h|(simp only[zA,zB,zC,zD,bytesW];omega)) only[go_sem,hc']
  rw [offA_zero,show ((l.length:Int)+1 - i)=((l.length+1 - i:Nat):Int) by omega]
  refine ⟨⟨by omega,by omega⟩,⟨by omega,by omega⟩,⟨by omega,by omega⟩,growB2 (a:=⟨g,0,none⟩) ty22mkI Tryz.underlying3 rfl (by decide) (by omega) (show _=i * 1 by omega) hctk (by omega) (by omega) (by omega) ?_⟩
  intro G Z hG1 hG2 hZ hZt
  rw [show i+(l.length+1 - i)=l.length+1 by omega] at hG1 ⊢
  have b1:Below w.heap.size w (w.drew.alloc (.cells Z 9)):=((Below.refl _ w).drew).alloc (Nat.le_refl _) _
  have B1:Blk (w.drew.alloc (.cells Z 9)) w.heap.size Z 9:=Blk.new (w:=w.drew)
  have hlt:=hr.lt g rfl
  have hltv:=hv.lt
  generalize w.drew.alloc (.cells Z 9)=w1 at b1 B1 ⊢
  generalize hy:w.heap.size=y at b1 B1 hlt hltv ⊢
  simp (disch:=first|omega|exact zF rfl|exact zG rfl|exact fun h=>h|(simp only[zA,zB,zC,zD,bytesW];omega)) only[go_sem]
  have hZl:Z.toList.length=G * 1:=by rw [Array.length_toList,hZ]
  have old1:∀ p:Addr,p.block<y→w1.cell? p=w.cell? p:=fun p hp=>World.cell?_of_block (b1.block _ hp)
  rw [offA_in (by omega)]
  refine ⟨⟨by omega,by omega⟩,copyB (sz:=1) (k:=1) (ys:=strE x) ty22mkI B1 (by omega) rfl (fun j u hu=>by rw [old1 _ (by rw [add_block]; exact hltv)]; exact hvcells j u hu) (strE_one1 x) (by rw [hZ,strE_len1]; omega) ?_⟩
  intro w2 B2 c2
  have b2:Below y w w2:=b1.trans (c2.below (hy ▸ b1.size) fun k hk e=>by omega)
  simp (disch:=first|omega|exact zF rfl|exact zG rfl|exact fun h=>h|(simp only[zA,zB,zC,zD,bytesW];omega)) only[go_sem]
  refine c128draw0 ?_
  have b3:Below y w w2.drew:=b2.drew
  have B3:Blk w2.drew y (overL Z.toList i (strE x)).toArray 9:=B2
  have old3:∀ p:Addr,p.block<y→w2.drew.cell? p=w.cell? p:=fun p hp=>World.cell?_of_block (b3.block _ hp)
  generalize w2.drew=w3 at b3 B3 old3 ⊢
  have hl3:(overL Z.toList i (strE x)).length=G * 1:=by rw [overL_length (by rw [hZl,strE_len1]; omega),hZl]
  simp (disch:=first|omega|exact zF rfl|exact zG rfl|exact fun h=>h|(simp only[zA,zB,zC,zD,bytesW];omega)) only[go_sem,c128D0]
  rw [show ((i:Int)+1).toNat=i+1 by omega,offA_in (by omega),offA_in (by omega)]
  refine ⟨⟨by omega,by omega⟩,⟨by omega,by omega⟩,⟨by omega,by omega⟩,copyB (sz:=1) (k:=l.length - i) (ys:=(l.drop i).flatMap strE) ty22mkI B3 (by omega) hfd (fun j u hu=>by rw [old3 _ (by rw [add_block]; exact hlt.2)]; exact hcdr j u hu) (strE_ones7 _) (by rw [List.size_toArray,hl3,hfd]; omega) ?_⟩
  intro w5 B5 c5
  simp only [List.toList_toArray] at B5
  have b5:Below w.heap.size w w5:=by
   rw [hy]
   exact b3.trans (c5.below (hy ▸ b3.size) fun k hk e=>by omega)
  simp (disch:=first|omega|exact zF rfl|exact zG rfl|exact fun h=>h|(simp only[zA,zB,zC,zD,bytesW];omega)) only[go_sem]
  have hl5:(overL (overL Z.toList i (strE x)) (i+1) ((l.drop i).flatMap strE)).length=G * 1:=by rw [overL_length (by rw [hl3,hfd]; omega),hl3]
  have ht:(overL (overL Z.toList i (strE x)) (i+1) ((l.drop i).flatMap strE)).take ((l.length+1) * 1)=(l.take i++x::l.drop i).flatMap strE:=by
   rw [overL_take (by rw [hfd]; omega) (by rw [hl3]; omega),overL_take (by rw [strE_len1]) (by omega),hres,← List.append_assoc]
   rw [Nat.mul_one] at hZt
   rw [hZt]
  have hnew:(Res.row (.slice (some ⟨y,0,none⟩) (l.length+1) G) 9 1 (l.length+1) ((l.take i++x::l.drop i).flatMap strE)).ok w5 W0.heap.size :=
   ⟨by rw [strs_len1,hreslen],.inr ⟨y,G,_,rfl,by rw [← hy]; exact h.size,B5,hG1,hG2,by rw [List.size_toArray,hl5],ht⟩⟩
  have s5:=h.add b5 _ hnew fun k hk=>by
   simp only [Res.own,Value.ownBlock,Option.some.injEq] at hk; omega
  exact s5.sub (List.Sublist.cons_cons _ (List.sublist_cons_self _ _))
 ·have hc':¬ (cap:Int)<l.length+1:=by omega
  simp (disch:=first|omega|exact zF rfl|exact zG rfl|exact fun h=>h|(simp only[zA,zB,zC,zD,bytesW];omega)) only[go_sem,hn',hc']
  refine ⟨⟨by omega,by omega⟩,⟨by omega,by omega⟩,capB ty22mkI ?_⟩
  simp (disch:=first|omega|exact zF rfl|exact zG rfl|exact fun h=>h|(simp only[zA,zB,zC,zD,bytesW];omega)) only[go_sem,hc']
  rw [offA_zero,show ((l.length:Int)+1).toNat=l.length+1 by omega,show ((i:Int)+1).toNat=i+1 by omega,offA_in (by omega)]
  refine ⟨⟨by omega,by omega⟩,⟨by omega,by omega⟩,⟨by omega,by omega⟩,⟨by omega,by omega⟩,overlapsW (t:=22) (tR:=4) Tryz.func163 (by kernel_rfl) (by kernel_rfl) (by kernel_rfl) (by kernel_rfl) ty22mkI (fun e=>hgv e.symm) hv hg (by omega) ?_⟩
  simp (disch:=first|omega|exact zF rfl|exact zG rfl|exact fun h=>h|(simp only[zA,zB,zC,zD,bytesW];omega)) only[go_sem]
  refine c128draw1 ?_
  have hg2:Blk w.drew g cur 9:=hg
  have hc2:∀ j u,((l.drop i).flatMap strE)[j]?=some u→w.drew.cell? ((⟨g,i,none⟩:Addr).add j)=some u:=hcdr
  simp (disch:=first|omega|exact zF rfl|exact zG rfl|exact fun h=>h|(simp only[zA,zB,zC,zD,bytesW];omega)) only[go_sem,c128D1]
  rw [show ((i:Int)+1).toNat=i+1 by omega,offA_in (by omega),offA_in (by omega)]
  refine ⟨⟨by omega,by omega⟩,⟨by omega,by omega⟩,⟨by omega,by omega⟩,copyB (sz:=1) (k:=l.length - i) (ys:=(l.drop i).flatMap strE) ty22mkI hg2 (by omega) hfd hc2 (strE_ones7 _) (by rw [hfd,hcs]; omega) ?_⟩
  intro w3 B3 c3
  have hl3:(overL cur.toList (i+1) ((l.drop i).flatMap strE)).length=cap * 1:=by rw [overL_length (by rw [hclen,hfd]; omega),hclen]
  have hvc3:∀ j u,(strE x)[j]?=some u→w3.cell? ((⟨vb,0,none⟩:Addr).add j)=some u:=fun j u hu=>by
   have:w3.cell? ((⟨vb,0,none⟩:Addr).add j)=w.cell? ((⟨vb,0,none⟩:Addr).add j):=World.cell?_of_block (by rw [add_block]; exact c3.block vb hv.lt (fun e=>hgv e.symm))
   rw [this]; exact hvcells j u hu
  simp (disch:=first|omega|exact zF rfl|exact zG rfl|exact fun h=>h|(simp only[zA,zB,zC,zD,bytesW];omega)) only[go_sem]
  rw [offA_in (by omega)]
  refine ⟨⟨by omega,by omega⟩,copyB (sz:=1) (k:=1) (ys:=strE x) ty22mkI B3 (by omega) rfl hvc3 (strE_one1 x) (by rw [List.size_toArray,hl3,strE_len1]; omega) ?_⟩
  intro w5 B5 c5
  simp only [List.toList_toArray] at B5
  simp (disch:=first|omega|exact zF rfl|exact zG rfl|exact fun h=>h|(simp only[zA,zB,zC,zD,bytesW];omega)) only[go_sem]
  have hl5:(overL (overL cur.toList (i+1) ((l.drop i).flatMap strE)) i (strE x)).length=cap * 1:=by rw [overL_length (by rw [hl3,strE_len1]; omega),hl3]
  have htk2:cur.toList.take i=(l.take i).flatMap strE:=by
   have h1:cur.toList.take i=(cur.toList.take (l.length * 1)).take i:=by rw [List.take_take,Nat.min_eq_left (by omega)]
   rw [h1,htake,hsp]
   exact List.take_left' hft
  have ht:(overL (overL cur.toList (i+1) ((l.drop i).flatMap strE)) i (strE x)).take ((l.length+1) * 1)=(l.take i++x::l.drop i).flatMap strE:=by
   have e1:(cur.toList.take (i+1)).length=i+1:=by rw [List.length_take]; omega
   have e2:(overL cur.toList (i+1) ((l.drop i).flatMap strE)).take i=(l.take i).flatMap strE:=by
    unfold overL
    rw [List.append_assoc,List.take_append_of_le_length (by omega),List.take_take,Nat.min_eq_left (by omega),htk2]
   have e3:(overL cur.toList (i+1) ((l.drop i).flatMap strE)).drop (i+1)=(l.drop i).flatMap strE++cur.toList.drop (i+1+((l.drop i).flatMap strE).length):=by
    unfold overL
    rw [List.append_assoc]
    exact List.drop_left' e1
   rw [hres,← List.append_assoc]
   rw [show overL (overL cur.toList (i+1) ((l.drop i).flatMap strE)) i (strE x)=(l.take i).flatMap strE++strE x++(l.drop i).flatMap strE++cur.toList.drop (i+1+((l.drop i).flatMap strE).length) by
    rw [overL,e2,strE_len1,e3,List.append_assoc,List.append_assoc,List.append_assoc]]
   exact List.take_left' (by rw [List.length_append,List.length_append,hft,strE_len1,hfd]; omega)
  have hc:Chg (fun k=>(Res.row (.slice (some ⟨g,0,none⟩) l.length cap) 9 1 l.length (l.flatMap strE)).own=some k) w w5 :=
   (((Chg.refl (fun k=>k=g) w).drew.trans c3).trans c5).mono fun k _ hk=>by subst hk; rfl
  exact h.upd 0 rfl hc (.row (.slice (some ⟨g,0,none⟩) (l.length+1) cap) 9 1 (l.length+1) ((l.take i++x::l.drop i).flatMap strE)) ⟨by rw [strs_len1,hreslen],.inr ⟨g,cap,_,rfl,hb,B5,by omega,hcm,by rw [List.size_toArray,hl5],ht⟩⟩ fun k hk=>.inl hk
theorem insN_ok{l:List Nat}{i:Nat}{x:Nat}{vb:Nat}(h:St W0 w F (.row rv 3 1 l.length (l.flatMap natE)::.blk vb (natE x).toArray 3::L) I)(hl:l.length≤1000000)(hi:i≤l.length) :
  Ret Tryz.prog 130 [rv,.int .i64 i,.slice (some ⟨vb,0,none⟩) 1 1] w fun u w'=>St W0 w' F (.row u 3 1 (l.length+1) ((l.take i++x::l.drop i).flatMap natE)::.blk vb (natE x).toArray 3::L) I:=by
 have hr:=h.row 0 rfl
 have hv:=h.blk 1 rfl
 obtain ⟨a,cap,rfl,hnc⟩:=own_slice hr
 have hx:Rd w 1 (.slice (some ⟨vb,0,none⟩) 1 1) 1 (natE x):=by
  refine ⟨rfl,_,_,rfl,Nat.le_refl _,fun _=>⟨_,rfl,fun j u hu=>?_⟩⟩
  rw [Addr.add_lit,Nat.zero_add,hv.cell,List.getElem?_toArray]
  exact hu
 refine ent130 _ _ _ _ _ ?_
 have hi':(i:Int)≤l.length:=by omega
 by_cases hn:i=l.length
 ·subst hn
  simp (disch:=first|omega|exact zF rfl|exact zG rfl|exact fun h=>h|(simp only[zA,zB,zC,zD,bytesW];omega)) only[go_sem]
  refine ⟨by omega,h.append 0 rfl ty48mkI rfl (by decide) hx (nat_one x) (by omega) (by omega) ?_⟩
  intro v2 w2 s2 _
  simp (disch:=first|omega|exact zF rfl|exact zG rfl|exact fun h=>h|(simp only[zA,zB,zC,zD,bytesW];omega)) only[go_sem]
  rw [List.take_length,List.drop_length]
  have el:l.flatMap natE++natE x=(l++[x]).flatMap natE:=by rw [List.flatMap_append]; simp
  rw [el] at s2
  exact s2
 have hil:i<l.length:=by omega
 have hn':¬ (i:Int)=l.length:=by omega
 rcases hr.2 with ⟨_,h0⟩ | ⟨g,cap',cur,hv',hb,hg,hnc',hcm,hcs,htake⟩
 ·omega
 simp only [Value.slice.injEq,true_and] at hv'
 obtain ⟨rfl,rfl⟩:=hv'
 have hclen:cur.toList.length=cap * 1:=by rw [Array.length_toList,hcs]
 have hcells:∀ j u,(l.flatMap natE)[j]?=some u→w.cell? ((⟨g,0,none⟩:Addr).add j)=some u:=fun j u hu=>by
  have hj:j<l.length * 1:=by
   have:=(List.getElem?_eq_some_iff.1 hu).1
   rwa [nats_len1] at this
  rw [Addr.add_lit,Nat.zero_add,hr.cellAt _ hj,hu]
 have hvcells:∀ j u,(natE x)[j]?=some u→w.cell? ((⟨vb,0,none⟩:Addr).add j)=some u:=fun j u hu=>by
  rw [Addr.add_lit,Nat.zero_add,hv.cell,List.getElem?_toArray]; exact hu
 have hgv:g≠vb:=fun e=>h.ne 0 1 rfl rfl (by decide) (k:=g) rfl (by rw [e]; rfl)
 have hfl:=nats_len1 l
 have hsp:l.flatMap natE=(l.take i).flatMap natE++(l.drop i).flatMap natE:=by rw [← List.flatMap_append,List.take_append_drop]
 have hft:((l.take i).flatMap natE).length=i:=by rw [nats_len1,List.length_take]; omega
 have hfd:((l.drop i).flatMap natE).length=(l.length - i) * 1:=by rw [nats_len1,List.length_drop]
 have hctk:∀ j u,((l.take i).flatMap natE)[j]?=some u→w.cell? ((⟨g,0,none⟩:Addr).add j)=some u:=fun j u hu=>hcells j u (by rw [hsp,List.getElem?_append_left (List.getElem?_eq_some_iff.1 hu).1]; exact hu)
 have hcdr:∀ j u,((l.drop i).flatMap natE)[j]?=some u→w.cell? ((⟨g,i,none⟩:Addr).add j)=some u:=fun j u hu=>by
  have:=hcells (i+j) u (by rw [hsp,List.getElem?_append_right (by omega),hft,Nat.add_sub_cancel_left]; exact hu)
  rw [Addr.add_lit,Nat.zero_add] at this
  rw [Addr.add_lit]
  exact this
 have hres:(l.take i++x::l.drop i).flatMap natE=(l.take i).flatMap natE++(natE x++(l.drop i).flatMap natE):=by rw [List.flatMap_append,List.flatMap_cons]
 have hreslen:(l.take i++x::l.drop i).length=l.length+1:=by rw [List.length_append,List.length_cons,List.length_take,List.length_drop]; omega
 by_cases hc:cap<l.length+1
 ·have hc':(cap:Int)<l.length+1:=by omega
  simp (disch:=first|omega|exact zF rfl|exact zG rfl|exact fun h=>h|(simp only[zA,zB,zC,zD,bytesW];omega)) only[go_sem,hn',hc']
  refine ⟨⟨by omega,by omega⟩,⟨by omega,by omega⟩,capB ty48mkI ?_⟩
  simp (disch:=first|omega|exact zF rfl|exact zG rfl|exact fun h=>h|(simp only[zA,zB,zC,zD,bytesW];omega)) only[go_sem,hc']
  rw [offA_zero,show ((l.length:Int)+1 - i)=((l.length+1 - i:Nat):Int) by omega]
  refine ⟨⟨by omega,by omega⟩,⟨by omega,by omega⟩,⟨by omega,by omega⟩,growB2 (a:=⟨g,0,none⟩) ty48mkI Tryz.underlying3 rfl (by decide) (by omega) (show _=i * 1 by omega) hctk (by omega) (by omega) (by omega) ?_⟩
  intro G Z hG1 hG2 hZ hZt
  rw [show i+(l.length+1 - i)=l.length+1 by omega] at hG1 ⊢
  have b1:Below w.heap.size w (w.drew.alloc (.cells Z 3)):=((Below.refl _ w).drew).alloc (Nat.le_refl _) _
  have B1:Blk (w.drew.alloc (.cells Z 3)) w.heap.size Z 3:=Blk.new (w:=w.drew)
  have hlt:=hr.lt g rfl
  have hltv:=hv.lt
  generalize w.drew.alloc (.cells Z 3)=w1 at b1 B1 ⊢
  generalize hy:w.heap.size=y at b1 B1 hlt hltv ⊢
  simp (disch:=first|omega|exact zF rfl|exact zG rfl|exact fun h=>h|(simp only[zA,zB,zC,zD,bytesW];omega)) only[go_sem]
  have hZl:Z.toList.length=G * 1:=by rw [Array.length_toList,hZ]
  have old1:∀ p:Addr,p.block<y→w1.cell? p=w.cell? p:=fun p hp=>World.cell?_of_block (b1.block _ hp)
  rw [offA_in (by omega)]
  refine ⟨⟨by omega,by omega⟩,copyB (sz:=1) (k:=1) (ys:=natE x) ty48mkI B1 (by omega) rfl (fun j u hu=>by rw [old1 _ (by rw [add_block]; exact hltv)]; exact hvcells j u hu) (nat_one x) (by rw [hZ,nat_len1]; omega) ?_⟩
  intro w2 B2 c2
  have b2:Below y w w2:=b1.trans (c2.below (hy ▸ b1.size) fun k hk e=>by omega)
  simp (disch:=first|omega|exact zF rfl|exact zG rfl|exact fun h=>h|(simp only[zA,zB,zC,zD,bytesW];omega)) only[go_sem]
  refine c130draw0 ?_
  have b3:Below y w w2.drew:=b2.drew
  have B3:Blk w2.drew y (overL Z.toList i (natE x)).toArray 3:=B2
  have old3:∀ p:Addr,p.block<y→w2.drew.cell? p=w.cell? p:=fun p hp=>World.cell?_of_block (b3.block _ hp)
  generalize w2.drew=w3 at b3 B3 old3 ⊢
  have hl3:(overL Z.toList i (natE x)).length=G * 1:=by rw [overL_length (by rw [hZl,nat_len1]; omega),hZl]
  simp (disch:=first|omega|exact zF rfl|exact zG rfl|exact fun h=>h|(simp only[zA,zB,zC,zD,bytesW];omega)) only[go_sem,c130D0]
  rw [show ((i:Int)+1).toNat=i+1 by omega,offA_in (by omega),offA_in (by omega)]
  refine ⟨⟨by omega,by omega⟩,⟨by omega,by omega⟩,⟨by omega,by omega⟩,copyB (sz:=1) (k:=l.length - i) (ys:=(l.drop i).flatMap natE) ty48mkI B3 (by omega) hfd (fun j u hu=>by rw [old3 _ (by rw [add_block]; exact hlt.2)]; exact hcdr j u hu) (nats_ones _) (by rw [List.size_toArray,hl3,hfd]; omega) ?_⟩
  intro w5 B5 c5
  simp only [List.toList_toArray] at B5
  have b5:Below w.heap.size w w5:=by
   rw [hy]
   exact b3.trans (c5.below (hy ▸ b3.size) fun k hk e=>by omega)
  simp (disch:=first|omega|exact zF rfl|exact zG rfl|exact fun h=>h|(simp only[zA,zB,zC,zD,bytesW];omega)) only[go_sem]
  have hl5:(overL (overL Z.toList i (natE x)) (i+1) ((l.drop i).flatMap natE)).length=G * 1:=by rw [overL_length (by rw [hl3,hfd]; omega),hl3]
  have ht:(overL (overL Z.toList i (natE x)) (i+1) ((l.drop i).flatMap natE)).take ((l.length+1) * 1)=(l.take i++x::l.drop i).flatMap natE:=by
   rw [overL_take (by rw [hfd]; omega) (by rw [hl3]; omega),overL_take (by rw [nat_len1]) (by omega),hres,← List.append_assoc]
   rw [Nat.mul_one] at hZt
   rw [hZt]
  have hnew:(Res.row (.slice (some ⟨y,0,none⟩) (l.length+1) G) 3 1 (l.length+1) ((l.take i++x::l.drop i).flatMap natE)).ok w5 W0.heap.size :=
   ⟨by rw [nats_len1,hreslen],.inr ⟨y,G,_,rfl,by rw [← hy]; exact h.size,B5,hG1,hG2,by rw [List.size_toArray,hl5],ht⟩⟩
  have s5:=h.add b5 _ hnew fun k hk=>by
   simp only [Res.own,Value.ownBlock,Option.some.injEq] at hk; omega
  exact s5.sub (List.Sublist.cons_cons _ (List.sublist_cons_self _ _))
 ·have hc':¬ (cap:Int)<l.length+1:=by omega
  simp (disch:=first|omega|exact zF rfl|exact zG rfl|exact fun h=>h|(simp only[zA,zB,zC,zD,bytesW];omega)) only[go_sem,hn',hc']
  refine ⟨⟨by omega,by omega⟩,⟨by omega,by omega⟩,capB ty48mkI ?_⟩
  simp (disch:=first|omega|exact zF rfl|exact zG rfl|exact fun h=>h|(simp only[zA,zB,zC,zD,bytesW];omega)) only[go_sem,hc']
  rw [offA_zero,show ((l.length:Int)+1).toNat=l.length+1 by omega,show ((i:Int)+1).toNat=i+1 by omega,offA_in (by omega)]
  refine ⟨⟨by omega,by omega⟩,⟨by omega,by omega⟩,⟨by omega,by omega⟩,⟨by omega,by omega⟩,overlapsW (t:=48) (tR:=4) Tryz.func167 (by kernel_rfl) (by kernel_rfl) (by kernel_rfl) (by kernel_rfl) ty48mkI (fun e=>hgv e.symm) hv hg (by omega) ?_⟩
  simp (disch:=first|omega|exact zF rfl|exact zG rfl|exact fun h=>h|(simp only[zA,zB,zC,zD,bytesW];omega)) only[go_sem]
  refine c130draw1 ?_
  have hg2:Blk w.drew g cur 3:=hg
  have hc2:∀ j u,((l.drop i).flatMap natE)[j]?=some u→w.drew.cell? ((⟨g,i,none⟩:Addr).add j)=some u:=hcdr
  simp (disch:=first|omega|exact zF rfl|exact zG rfl|exact fun h=>h|(simp only[zA,zB,zC,zD,bytesW];omega)) only[go_sem,c130D1]
  rw [show ((i:Int)+1).toNat=i+1 by omega,offA_in (by omega),offA_in (by omega)]
  refine ⟨⟨by omega,by omega⟩,⟨by omega,by omega⟩,⟨by omega,by omega⟩,copyB (sz:=1) (k:=l.length - i) (ys:=(l.drop i).flatMap natE) ty48mkI hg2 (by omega) hfd hc2 (nats_ones _) (by rw [hfd,hcs]; omega) ?_⟩
  intro w3 B3 c3
  have hl3:(overL cur.toList (i+1) ((l.drop i).flatMap natE)).length=cap * 1:=by rw [overL_length (by rw [hclen,hfd]; omega),hclen]
  have hvc3:∀ j u,(natE x)[j]?=some u→w3.cell? ((⟨vb,0,none⟩:Addr).add j)=some u:=fun j u hu=>by
   have:w3.cell? ((⟨vb,0,none⟩:Addr).add j)=w.cell? ((⟨vb,0,none⟩:Addr).add j):=World.cell?_of_block (by rw [add_block]; exact c3.block vb hv.lt (fun e=>hgv e.symm))
   rw [this]; exact hvcells j u hu
  simp (disch:=first|omega|exact zF rfl|exact zG rfl|exact fun h=>h|(simp only[zA,zB,zC,zD,bytesW];omega)) only[go_sem]
  rw [offA_in (by omega)]
  refine ⟨⟨by omega,by omega⟩,copyB (sz:=1) (k:=1) (ys:=natE x) ty48mkI B3 (by omega) rfl hvc3 (nat_one x) (by rw [List.size_toArray,hl3,nat_len1]; omega) ?_⟩
  intro w5 B5 c5
  simp only [List.toList_toArray] at B5
  simp (disch:=first|omega|exact zF rfl|exact zG rfl|exact fun h=>h|(simp only[zA,zB,zC,zD,bytesW];omega)) only[go_sem]
  have hl5:(overL (overL cur.toList (i+1) ((l.drop i).flatMap natE)) i (natE x)).length=cap * 1:=by rw [overL_length (by rw [hl3,nat_len1]; omega),hl3]
  have htk2:cur.toList.take i=(l.take i).flatMap natE:=by
   have h1:cur.toList.take i=(cur.toList.take (l.length * 1)).take i:=by rw [List.take_take,Nat.min_eq_left (by omega)]
   rw [h1,htake,hsp]
   exact List.take_left' hft
  have ht:(overL (overL cur.toList (i+1) ((l.drop i).flatMap natE)) i (natE x)).take ((l.length+1) * 1)=(l.take i++x::l.drop i).flatMap natE:=by
   have e1:(cur.toList.take (i+1)).length=i+1:=by rw [List.length_take]; omega
   have e2:(overL cur.toList (i+1) ((l.drop i).flatMap natE)).take i=(l.take i).flatMap natE:=by
    unfold overL
    rw [List.append_assoc,List.take_append_of_le_length (by omega),List.take_take,Nat.min_eq_left (by omega),htk2]
   have e3:(overL cur.toList (i+1) ((l.drop i).flatMap natE)).drop (i+1)=(l.drop i).flatMap natE++cur.toList.drop (i+1+((l.drop i).flatMap natE).length):=by
    unfold overL
    rw [List.append_assoc]
    exact List.drop_left' e1
   rw [hres,← List.append_assoc]
   rw [show overL (overL cur.toList (i+1) ((l.drop i).flatMap natE)) i (natE x)=(l.take i).flatMap natE++natE x++(l.drop i).flatMap natE++cur.toList.drop (i+1+((l.drop i).flatMap natE).length) by
    rw [overL,e2,nat_len1,e3,List.append_assoc,List.append_assoc,List.append_assoc]]
   exact List.take_left' (by rw [List.length_append,List.length_append,hft,nat_len1,hfd]; omega)
  have hc:Chg (fun k=>(Res.row (.slice (some ⟨g,0,none⟩) l.length cap) 3 1 l.length (l.flatMap natE)).own=some k) w w5 :=
   (((Chg.refl (fun k=>k=g) w).drew.trans c3).trans c5).mono fun k _ hk=>by subst hk; rfl
  exact h.upd 0 rfl hc (.row (.slice (some ⟨g,0,none⟩) (l.length+1) cap) 3 1 (l.length+1) ((l.take i++x::l.drop i).flatMap natE)) ⟨by rw [nats_len1,hreslen],.inr ⟨g,cap,_,rfl,hb,B5,by omega,hcm,by rw [List.size_toArray,hl5],ht⟩⟩ fun k hk=>.inl hk
end
open Go Go.Ann Go.RowKit Go.WideShapes Go.Shelf
def ksum(l:List (List UInt8)):Nat:=(l.map fun x=>1+x.length).sum
theorem ksum_snoc(l:List (List UInt8))(x:List UInt8):ksum (l++[x])=ksum l+(1+x.length):=by
 unfold ksum
 rw [List.map_append,List.sum_append]; simp
theorem ksum_le{l:List (List UInt8)}(h:∀ x∈l,x.length≤255):ksum l≤256 * l.length:=by
 induction l with
 | nil=>exact Nat.le_refl _
 | cons x l ih =>
  have h1:=h x List.mem_cons_self
  have h2:=ih fun y hy=>h y (List.mem_cons_of_mem _ hy)
  unfold ksum at h2 ⊢
  rw [List.map_cons,List.sum_cons,List.length_cons]
  omega
theorem leafB_len(l:List (List UInt8 × List UInt8)):(leafB l).length=2+ksum (l.map Prod.fst)+ksum (l.map Prod.snd):=by
 unfold leafB
 rw [List.length_cons,List.length_cons]
 induction l with
 | nil=>rfl
 | cons x l ih =>
  rw [List.flatMap_cons,List.length_append]
  unfold ksum at ih ⊢
  simp only [List.map_cons,List.sum_cons,entB,List.length_cons,List.length_append] at ih ⊢
  omega
section
variable {W0 w:World} {F:Nat→Prop} {L:List Res} {I:List Inv} {e:En} {P:List (List UInt8)} {tb:Nat} {i:Int}
theorem size_ok{kv vv:Value}{ca:Option Addr}{cc:Nat}{lf:Bool}{ks vl:List (List UInt8)}(w:World)(hk:RdS w 1 strE kv ks)(hv:RdS w 1 strE vv vl)(hkl:ks.length≤1000)(hvl:vl.length≤1000)(hkb:∀ x∈ks,x.length≤255)(hvb:∀ x∈vl,x.length≤255) :
  Ret Tryz.prog 165 [.agg #[.bool lf,kv,vv,.slice ca 0 cc]] w fun u w'=>u=.int .i64 (2+ksum ks+ksum vl:Nat)∧Below w.heap.size w w':=by
 obtain ⟨ka,kc,rfl,_⟩:=hk.form
 obtain ⟨va,vc,rfl,_⟩:=hv.form
 refine ent165 _ _ _ ?_
 simp (disch:=first|omega|exact zF rfl|exact zG rfl|exact fun h=>h|(simp only[zA,zB,zC,zD,bytesW];omega)) only[go_sem,c165L1]
 have s1:=(St.start (W0:=w)).box #[.bool lf,.slice ka ks.length kc,.slice va vl.length vc,.slice ca 0 cc] 119
 obtain ⟨b,hbb⟩:∃ b,b=w.heap.size:=⟨_,rfl⟩
 rw [← hbb] at s1 ⊢
 generalize w.alloc (.cells #[.bool lf,.slice ka ks.length kc,.slice va vl.length vc,.slice ca 0 cc] 119)=w2 at s1 ⊢
 refine ⟨⟨by decide,by decide⟩,⟨by decide,by decide⟩,?_⟩
 have hkt:=ksum_le hkb
 have hvt:=ksum_le hvb
 refine W_loopU (fun j:Nat=>[(3,.int .i64 (2+ksum (ks.take j):Nat)),(16,.int .i64 j)]) (fun j w'=>j≤ks.length∧w'=w2) (fun j=>ks.length - j) 0 rfl ⟨Nat.zero_le _,rfl⟩ ?_
 rintro j w3 ⟨hj,rfl⟩
 by_cases hlt:j<ks.length
 case pos =>
  have hlt':(j:Int)<ks.length:=by omega
  obtain ⟨p,rfl⟩:=hk.ptr (by omega)
  have em:=RdS.at1 (e1:=fun r=>.string (ofL r)) (hk.below s1.bel (by decide)) hlt
  have es:=ksum_snoc (ks.take j) ks[j]
  rw [← List.take_succ_eq_append_getElem hlt] at es
  have hle:=ksum_le (l:=ks.take j) fun x hx=>hkb x (List.mem_of_mem_take hx)
  rw [List.length_take] at hle
  have hkj:=hkb _ (List.getElem_mem hlt)
  simp (disch:=first|omega|exact zF rfl|exact zG rfl|exact fun h=>h|(simp only[zA,zB,zC,zD,bytesW];omega)) only[go_sem,c165L0,c165L1,c165L0,hlt',em]
  refine ⟨by omega,⟨by omega,by omega⟩,⟨by omega,by omega⟩,⟨by omega,by omega⟩,j+1,?_,hlt,by omega⟩
  rw [es]
  have:((2+(ksum (ks.take j)+(1+ks[j].length)):Nat):Int)=2+(ksum (ks.take j):Int)+(1+(ks[j].length:Int)):=by omega
  simp
  omega
 case neg =>
  have hlt':¬ (j:Int)<ks.length:=by omega
  obtain rfl:j=ks.length:=by omega
  rw [List.take_length]
  have r1:=s1.rules 0 rfl
  simp (disch:=first|omega|exact zF rfl|exact zG rfl|exact fun h=>h|(simp only[zA,zB,zC,zD,bytesW];omega)) only[go_sem,c165L0,c165S3,c165L0,hlt',r1]
  refine W_loopU (fun j:Nat=>[(3,.int .i64 (2+ksum ks+ksum (vl.take j):Nat)),(29,.int .i64 j)]) (fun j w'=>j≤vl.length∧w'=w3) (fun j=>vl.length - j) 0 rfl ⟨Nat.zero_le _,rfl⟩ ?_
  rintro j _ ⟨hj,rfl⟩
  by_cases hlt:j<vl.length
  case pos =>
   have hlt':(j:Int)<vl.length:=by omega
   obtain ⟨p,rfl⟩:=hv.ptr (by omega)
   have em:=RdS.at1 (e1:=fun r=>.string (ofL r)) (hv.below s1.bel (by decide)) hlt
   have es:=ksum_snoc (vl.take j) vl[j]
   rw [← List.take_succ_eq_append_getElem hlt] at es
   have hle:=ksum_le (l:=vl.take j) fun x hx=>hvb x (List.mem_of_mem_take hx)
   rw [List.length_take] at hle
   have hkj:=hvb _ (List.getElem_mem hlt)
   simp (disch:=first|omega|exact zF rfl|exact zG rfl|exact fun h=>h|(simp only[zA,zB,zC,zD,bytesW];omega)) only[go_sem,c165L0,c165L1,c165S3,c165L1,hlt',em]
   refine ⟨by omega,⟨by omega,by omega⟩,⟨by omega,by omega⟩,⟨by omega,by omega⟩,j+1,?_,hlt,by omega⟩
   rw [es]
   have:((2+ksum ks+(ksum (vl.take j)+(1+vl[j].length)):Nat):Int)=2+(ksum ks:Int)+(ksum (vl.take j):Int)+(1+(vl[j].length:Int)):=by omega
   simp
   omega
  case neg =>
   have hlt':¬ (j:Int)<vl.length:=by omega
   obtain rfl:j=vl.length:=by omega
   rw [List.take_length]
   simp (disch:=first|omega|exact zF rfl|exact zG rfl|exact fun h=>h|(simp only[zA,zB,zC,zD,bytesW];omega)) only[go_sem,c165L0,c165L1,c165S3,c165L1,hlt']
   exact hbb ▸ s1.bel
end
open Go Go.Ann Go.RowKit Go.WideShapes Go.Shelf
section
variable {α:Type} {w:World} {sz n cap:Nat} {enc:α→List Value} {a:Option Addr} {xs:List α}
theorem flat_cut(hsz:∀ x,(enc x).length=sz):∀ (xs:List α) (k:Nat),(xs.flatMap enc).take (k * sz)=(xs.take k).flatMap enc∧(xs.flatMap enc).drop (k * sz)=(xs.drop k).flatMap enc
 | [],k=>by simp
 | x::xs,0=>by simp
 | x::xs,k+1=>by
  have h:=flat_cut hsz xs k
  have e:(k+1) * sz=(enc x).length+k * sz:=by rw [hsz,Nat.add_mul,Nat.one_mul,Nat.add_comm]
  rw [List.flatMap_cons,e,List.take_length_add_append,List.drop_length_add_append,h.1,h.2,List.take_succ_cons,List.flatMap_cons,List.drop_succ_cons]
  exact ⟨rfl,rfl⟩
theorem RdS.takeN(h:RdS w sz enc (.slice a n cap) xs)(hsz:∀ x,(enc x).length=sz){k:Nat}(hk:k≤xs.length):RdS w sz enc (.slice a k cap) (xs.take k):=by
 obtain ⟨hl,a',c',hv,hc,hr⟩:=h
 simp only [Value.slice.injEq] at hv
 obtain ⟨rfl,rfl,rfl⟩:=hv
 have e:(xs.take k).length=k:=by rw [List.length_take]; omega
 refine ⟨?_,a,cap,by rw [e],by omega,fun h0=>?_⟩
 ·rw [← (flat_cut hsz xs k).1,List.length_take,hl,e]
  exact Nat.min_eq_left (Nat.mul_le_mul_right _ hk)
 ·rw [e] at h0
  obtain ⟨ad,rfl,hcell⟩:=hr (by omega)
  refine ⟨ad,rfl,fun j u hu=>hcell j u ?_⟩
  rw [← (flat_cut hsz xs k).1] at hu
  rw [List.getElem?_take] at hu
  split at hu
  ·exact hu
  ·cases hu
theorem RdS.dropN(h:RdS w sz enc (.slice a n cap) xs)(hsz:∀ x,(enc x).length=sz){k:Nat}(hk:k≤xs.length):RdS w sz enc (.slice (offA a cap k sz) (n - k) (cap - k)) (xs.drop k):=by
 obtain ⟨hl,a',c',hv,hc,hr⟩:=h
 simp only [Value.slice.injEq] at hv
 obtain ⟨rfl,rfl,rfl⟩:=hv
 refine ⟨?_,offA a cap k sz,cap - k,by rw [List.length_drop],by rw [List.length_drop]; omega,fun h0=>?_⟩
 ·rw [← (flat_cut hsz xs k).2,List.length_drop,hl,List.length_drop,Nat.sub_mul]
 ·rw [List.length_drop] at h0
  obtain ⟨ad,rfl,hcell⟩:=hr (by omega)
  refine ⟨ad.add (k * sz),by unfold offA; rw [if_neg (by omega)]; rfl,fun j u hu=>?_⟩
  rw [← (flat_cut hsz xs k).2,List.getElem?_drop] at hu
  have:=hcell (k * sz+j) u hu
  rw [add_add]
  exact this
end
theorem gsize_ok{kv vv:Value}{ca:Option Addr}{nc cc:Nat}{lf:Bool}{ks vl:List (List UInt8)}(w:World)(hk:RdS w 1 strE kv ks)(hv:RdS w 1 strE vv vl)(hkl:ks.length≤1000)(hvl:vl.length≤1000)(hcl:nc≤1000)(hkb:∀ x∈ks,x.length≤255)(hvb:∀ x∈vl,x.length≤255) :
  Ret Tryz.prog 165 [.agg #[.bool lf,kv,vv,.slice ca nc cc]] w fun u w'=>u=.int .i64 (2+2 * nc+ksum ks+ksum vl:Nat)∧Below w.heap.size w w':=by
 obtain ⟨ka,kc,rfl,_⟩:=hk.form
 obtain ⟨va,vc,rfl,_⟩:=hv.form
 refine ent165 _ _ _ ?_
 simp (disch:=first|omega|exact zF rfl|exact zG rfl|exact fun h=>h|(simp only[zA,zB,zC,zD,bytesW];omega)) only[go_sem,c165L1]
 have s1:=(St.start (W0:=w)).box #[.bool lf,.slice ka ks.length kc,.slice va vl.length vc,.slice ca nc cc] 119
 obtain ⟨b,hbb⟩:∃ b,b=w.heap.size:=⟨_,rfl⟩
 rw [← hbb] at s1 ⊢
 generalize w.alloc (.cells #[.bool lf,.slice ka ks.length kc,.slice va vl.length vc,.slice ca nc cc] 119)=w2 at s1 ⊢
 refine ⟨⟨by omega,by omega⟩,⟨by omega,by omega⟩,?_⟩
 have hkt:=ksum_le hkb
 have hvt:=ksum_le hvb
 refine W_loopU (fun j:Nat=>[(3,.int .i64 (2+2 * nc+ksum (ks.take j):Nat)),(16,.int .i64 j)]) (fun j w'=>j≤ks.length∧w'=w2) (fun j=>ks.length - j) 0 rfl ⟨Nat.zero_le _,rfl⟩ ?_
 rintro j w3 ⟨hj,rfl⟩
 by_cases hlt:j<ks.length
 case pos =>
  have hlt':(j:Int)<ks.length:=by omega
  obtain ⟨p,rfl⟩:=hk.ptr (by omega)
  have em:=RdS.at1 (e1:=fun r=>.string (ofL r)) (hk.below s1.bel (by decide)) hlt
  have es:=ksum_snoc (ks.take j) ks[j]
  rw [← List.take_succ_eq_append_getElem hlt] at es
  have hle:=ksum_le (l:=ks.take j) fun x hx=>hkb x (List.mem_of_mem_take hx)
  rw [List.length_take] at hle
  have hkj:=hkb _ (List.getElem_mem hlt)
  simp (disch:=first|omega|exact zF rfl|exact zG rfl|exact fun h=>h|(simp only[zA,zB,zC,zD,bytesW];omega)) only[go_sem,c165L0,c165L1,c165L0,hlt',em]
  refine ⟨by omega,⟨by omega,by omega⟩,⟨by omega,by omega⟩,⟨by omega,by omega⟩,j+1,?_,hlt,by omega⟩
  rw [es]
  have:((2+2 * nc+(ksum (ks.take j)+(1+ks[j].length)):Nat):Int)=2+2 * nc+(ksum (ks.take j):Int)+(1+(ks[j].length:Int)):=by omega
  simp
  omega
 case neg =>
  have hlt':¬ (j:Int)<ks.length:=by omega
  obtain rfl:j=ks.length:=by omega
  rw [List.take_length]
  have r1:=s1.rules 0 rfl
  simp (disch:=first|omega|exact zF rfl|exact zG rfl|exact fun h=>h|(simp only[zA,zB,zC,zD,bytesW];omega)) only[go_sem,c165L0,c165S3,c165L0,hlt',r1]
  refine W_loopU (fun j:Nat=>[(3,.int .i64 (2+2 * nc+ksum ks+ksum (vl.take j):Nat)),(29,.int .i64 j)]) (fun j w'=>j≤vl.length∧w'=w3) (fun j=>vl.length - j) 0 rfl ⟨Nat.zero_le _,rfl⟩ ?_
  rintro j _ ⟨hj,rfl⟩
  by_cases hlt:j<vl.length
  case pos =>
   have hlt':(j:Int)<vl.length:=by omega
   obtain ⟨p,rfl⟩:=hv.ptr (by omega)
   have em:=RdS.at1 (e1:=fun r=>.string (ofL r)) (hv.below s1.bel (by decide)) hlt
   have es:=ksum_snoc (vl.take j) vl[j]
   rw [← List.take_succ_eq_append_getElem hlt] at es
   have hle:=ksum_le (l:=vl.take j) fun x hx=>hvb x (List.mem_of_mem_take hx)
   rw [List.length_take] at hle
   have hkj:=hvb _ (List.getElem_mem hlt)
   simp (disch:=first|omega|exact zF rfl|exact zG rfl|exact fun h=>h|(simp only[zA,zB,zC,zD,bytesW];omega)) only[go_sem,c165L0,c165L1,c165S3,c165L1,hlt',em]
   refine ⟨by omega,⟨by omega,by omega⟩,⟨by omega,by omega⟩,⟨by omega,by omega⟩,j+1,?_,hlt,by omega⟩
   rw [es]
   have:((2+2 * nc+ksum ks+(ksum (vl.take j)+(1+vl[j].length)):Nat):Int)=2+2 * nc+(ksum ks:Int)+(ksum (vl.take j):Int)+(1+(vl[j].length:Int)):=by omega
   simp
   omega
  case neg =>
   have hlt':¬ (j:Int)<vl.length:=by omega
   obtain rfl:j=vl.length:=by omega
   rw [List.take_length]
   simp (disch:=first|omega|exact zF rfl|exact zG rfl|exact fun h=>h|(simp only[zA,zB,zC,zD,bytesW];omega)) only[go_sem,c165L0,c165L1,c165S3,c165L1,hlt']
   exact hbb ▸ s1.bel
open Go Go.Ann Go.RowKit Go.WideShapes Go.Shelf
def NdAt(w:World)(nd:Nd)(u:Value):Prop:=∃ kv vv ca cc,u=.agg #[.bool nd.leaf,kv,vv,.slice ca nd.kids.length cc]∧RdS w 1 strE kv nd.keys∧RdS w 1 strE vv nd.vals∧RdS w 1 natE (.slice ca nd.kids.length cc) nd.kids
theorem NdAt.parts{w:World}{nd:Nd}{kv vv:Value}{ca:Option Addr}{cc:Nat}(h:NdAt w nd (.agg #[.bool nd.leaf,kv,vv,.slice ca nd.kids.length cc])):RdS w 1 strE kv nd.keys∧RdS w 1 strE vv nd.vals∧RdS w 1 natE (.slice ca nd.kids.length cc) nd.kids:=by
 obtain ⟨kv',vv',ca',cc',he,h1,h2,h3⟩:=h
 simp only [Value.agg.injEq,Array.mk.injEq,List.cons.injEq,Value.slice.injEq,true_and,and_true] at he
 obtain ⟨rfl,rfl,rfl,rfl⟩:=he
 exact ⟨h1,h2,h3⟩
structure NdMade(nd:Nd):Prop where
 lf:nd.leaf=true→nd.vals.length=nd.keys.length∧nd.kids=[]
 nl:nd.leaf=false→nd.vals=[]∧nd.kids.length=nd.keys.length+1
 few:nd.keys.length≤256
 key:∀ k∈nd.keys,k.length≤32
 val:∀ v∈nd.vals,v.length≤80
 kid:∀ c∈nd.kids,c≤4294967296
theorem offA_z(a:Addr)(c:Nat):offA (some a) c 0 1=some a:=by
 unfold offA
 split
 ·rfl
 ·simp [Addr.add]
section
variable {w:World}
set_option maxHeartbeats 2000000 in
theorem halfN_ok{nd:Nd}{u:Value}(h:NdAt w nd u)(form:NdMade nd)(h2:2 ≤ nd.keys.length)(hlf:nd.leaf = false) :
    Ret Tryz.prog 166 [u] w fun v w' => (∃ a b mid ua ub,v = .tuple #[ua,ub,.string (ofL mid)] ∧ (∀ w',NdAt w' nd u → NdAt w' a ua ∧ NdAt w' b ub) ∧ NdMade a ∧ NdMade b ∧ mid.length ≤ 32) ∧ Below w.heap.size w w':=by
  obtain ⟨kv,vv,ca,cc,rfl,hk,hv,hc⟩:=h
  obtain ⟨ka,kc,rfl,hkc⟩:=hk.form
  obtain ⟨va,vc,rfl,hvc⟩:=hv.form
  have hfew:=form.few
  generalize hK:(fun (v:Value) w' => (∃ a b mid ua ub,v = Value.tuple #[ua,ub,.string (ofL mid)] ∧ (∀ w',NdAt w' nd (.agg #[.bool nd.leaf,.slice ka nd.keys.length kc,.slice va nd.vals.length vc,.slice ca nd.kids.length cc]) → NdAt w' a ua ∧ NdAt w' b ub) ∧ NdMade a ∧ NdMade b ∧ mid.length ≤ 32) ∧ Below w.heap.size w w') = K
  refine ent166 _ _ _ ?_
  simp (disch:=first|omega|exact zF rfl|exact zG rfl|exact fun h=>h|(simp only[zA,zB,zC,zD,bytesW];omega)) only[go_sem,c166L0,c166S3,c166S4,c166S5,c166L1,c166L2,c166S12,c166S13,c166S14,c166S15]
  have s1:=(((St.start (W0:=w)).box #[.bool nd.leaf,.slice ka nd.keys.length kc,.slice va nd.vals.length vc,.slice ca nd.kids.length cc] 119).box ndZ 119).box ndZ 119
  simp only [World.size_alloc] at s1
  obtain ⟨n,hn⟩:∃ n,n = w.heap.size:=⟨_,rfl⟩
  rw [← hn] at s1 ⊢
  generalize ((w.alloc (.cells #[.bool nd.leaf,.slice ka nd.keys.length kc,.slice va nd.vals.length vc,.slice ca nd.kids.length cc] 119)).alloc (.cells ndZ 119)).alloc (.cells ndZ 119) = w1 at s1 ⊢
  obtain ⟨p1,rfl⟩:=hk.ptr (by omega)
  obtain ⟨hvn,hcl⟩:=form.nl hlf
  rw [hlf] at s1
  have r:=s1.rules 2 rfl
  simp (disch:=first|omega|exact zF rfl|exact zG rfl|exact fun h=>h|(simp only[zA,zB,zC,zD,bytesW];omega)) only[go_sem,c166S3,c166S4,c166S5,c166L1,c166L2,c166S12,c166S13,c166S14,c166S15,r,hlf]
  obtain ⟨pc,rfl⟩:=hc.ptr (by omega)
  have hcc:nd.kids.length ≤ cc:=by
    obtain ⟨_,_,he,hle⟩:=hc.form
    simp only [Value.slice.injEq] at he
    omega
  have tail:∀ (m:Nat) (w3:World),1 ≤ m → m < nd.keys.length → St w w3 (fun _ => False) [.blk (n + 1 + 1) ndZ 119,.blk (n + 1) ndZ 119,.blk n #[.bool false,.slice (some p1) nd.keys.length kc,.slice va nd.vals.length vc,.slice (some pc) nd.kids.length cc] 119] [] →
      W Tryz.prog (c166S5 ()) [(1,Value.pointer (some ⟨n,0,none⟩)),(2,Value.pointer (some ⟨n + 1,0,none⟩)),(3,Value.pointer (some ⟨n + 1 + 1,0,none⟩)),(5,Value.int .i64 m)] w3 (thenQ Tryz.prog (sg c166S16) (finQ Tryz.prog [.cell 2 119,.cell 3 119,.tmp 4] K)):=by
    intro m w3 hm1 hml s3
    simp (disch:=first|omega|exact zF rfl|exact zG rfl|exact fun h=>h|(simp only[zA,zB,zC,zD,bytesW];omega)) only[go_sem,c166L0,c166S3,c166S5,c166L1,c166L2,c166S12,c166S13,c166S14,c166S15]
    refine c166draw1 (Same (fun b => b = n) _) (Same.refl _ _) ?_
    have s4:=s3.drew
    generalize w3.drew = w4 at s4 ⊢
    have r:=s4.rules 2 rfl
    have ekt:((m:Int) + 1).toNat = m + 1:=by omega
    simp (disch:=first|omega|exact zF rfl|exact zG rfl|exact fun h=>h|(simp only[zA,zB,zC,zD,bytesW];omega)) only[go_sem,c166L0,c166S3,c166S5,c166L1,c166L2,c166S12,c166S13,c166S14,c166S15,c166D1,r,offA_z,ekt]
    obtain ⟨A,hA⟩:∃ A:Array Value,A = #[.bool false,.slice (some p1) m kc,.slice none 0 0,.slice (some pc) (m + 1) cc]:=⟨_,rfl⟩
    have hb:Tryz.prog.built 119 (zipP [1,3] [.slice (some p1) m kc,.slice (some pc) (m + 1) cc]) = some A:=by subst hA; kernel_rfl
    have sameA:∀ o,Same (fun b => b = n) w4 (w4.alloc o):=by
      rintro o b rfl
      exact ((s4.alloc' o).blk 2 rfl).trans (s4.blk 2 rfl).symm
    have tail2:∀ (b6:Nat) (w5:World),St w w5 (fun _ => False) (.blk b6 A 119 :: [.blk (n + 1 + 1) ndZ 119,.blk (n + 1) ndZ 119,.blk n #[.bool false,.slice (some p1) nd.keys.length kc,.slice va nd.vals.length vc,.slice (some pc) nd.kids.length cc] 119]) [] →
        W Tryz.prog (c166S4 ()) [(1,Value.pointer (some ⟨n,0,none⟩)),(2,Value.pointer (some ⟨n + 1,0,none⟩)),(3,Value.pointer (some ⟨n + 1 + 1,0,none⟩)),(5,Value.int .i64 m),(6,Value.pointer (some ⟨b6,0,none⟩))] w5 (thenQ Tryz.prog (sg c166S16) (finQ Tryz.prog [.cell 2 119,.cell 3 119,.tmp 4] K)):=by
      intro b6 w5 s5
      simp (disch:=first|omega|exact zF rfl|exact zG rfl|exact fun h=>h|(simp only[zA,zB,zC,zD,bytesW];omega)) only[go_sem,c166L0,c166S4,c166S5,c166L1,c166L2,c166S12,c166S13,c166S14,c166S15]
      refine c166draw2 (Same (fun b => b = n) _) (Same.refl _ _) ?_
      have s6:=s5.drew
      generalize w5.drew = w6 at s6 ⊢
      have r:=s6.rules 3 rfl
      simp (disch:=first|omega|exact zF rfl|exact zG rfl|exact fun h=>h|(simp only[zA,zB,zC,zD,bytesW];omega)) only[go_sem,c166L0,c166S4,c166S5,c166L1,c166L2,c166S12,c166S13,c166S14,c166S15,c166D2,r,offA_z,ekt]
      obtain ⟨B,hB⟩:∃ B:Array Value,B = #[.bool false,.slice (offA (some p1) kc (m + 1) 1) (nd.keys.length - (m + 1)) (kc - (m + 1)),.slice none 0 0,.slice (offA (some pc) cc (m + 1) 1) (nd.kids.length - (m + 1)) (cc - (m + 1))]:=⟨_,rfl⟩
      have hb2:Tryz.prog.built 119 (zipP [1,3] [.slice (offA (some p1) kc (m + 1) 1) (nd.keys.length - (m + 1)) (kc - (m + 1)),.slice (offA (some pc) cc (m + 1) 1) (nd.kids.length - (m + 1)) (cc - (m + 1))]) = some B:=by subst hB; kernel_rfl
      have sameB:∀ o,Same (fun b => b = n) w6 (w6.alloc o):=by
        rintro o b rfl
        exact ((s6.alloc' o).blk 3 rfl).trans (s6.blk 3 rfl).symm
      have tail3:∀ (b7:Nat) (w7:World),St w w7 (fun _ => False) (.blk b7 B 119 :: .blk b6 A 119 :: [.blk (n + 1 + 1) ndZ 119,.blk (n + 1) ndZ 119,.blk n #[.bool false,.slice (some p1) nd.keys.length kc,.slice va nd.vals.length vc,.slice (some pc) nd.kids.length cc] 119]) [] →
          W Tryz.prog (c166S3 ()) [(1,Value.pointer (some ⟨n,0,none⟩)),(2,Value.pointer (some ⟨n + 1,0,none⟩)),(3,Value.pointer (some ⟨n + 1 + 1,0,none⟩)),(5,Value.int .i64 m),(6,Value.pointer (some ⟨b6,0,none⟩)),(7,Value.pointer (some ⟨b7,0,none⟩))] w7 (thenQ Tryz.prog (sg c166S16) (finQ Tryz.prog [.cell 2 119,.cell 3 119,.tmp 4] K)):=by
        intro b7 w7 s7
        subst hA hB
        simp (disch:=first|omega|exact zF rfl|exact zG rfl|exact fun h=>h|(simp only[zA,zB,zC,zD,bytesW];omega)) only[go_sem,c166L0,c166S3,c166S4,c166S5,c166L1,c166L2,c166S12,c166S13,c166S14,c166S15]
        refine c166draw3 (Same (fun b => b = n ∨ b = b6 ∨ b = b7 ∨ b = p1.block) _) (Same.refl _ _) ?_
        have s8:=s7.drew
        generalize w7.drew = w8 at s8 ⊢
        have r7:=s8.rules 0 rfl
        have r6:=s8.rules 1 rfl
        have r:=s8.rules 4 rfl
        have ek:=RdS.at1 (e1:=fun r => .string (ofL r)) (hk.below s8.bel (by decide)) hml
        have r3:=s8.rules 2 rfl
        have r2:=s8.rules 3 rfl
        have hpl:=hk.blt strE_len1 (by decide) (by omega)
        have sm:∀ (w9:World) (X1 X2:Res),St w w9 (fun _ => False) [.blk b7 #[.bool false,.slice (offA (some p1) kc (m + 1) 1) (nd.keys.length - (m + 1)) (kc - (m + 1)),.slice none 0 0,.slice (offA (some pc) cc (m + 1) 1) (nd.kids.length - (m + 1)) (cc - (m + 1))] 119,.blk b6 #[.bool false,.slice (some p1) m kc,.slice none 0 0,.slice (some pc) (m + 1) cc] 119,X1,X2,.blk n #[.bool false,.slice (some p1) nd.keys.length kc,.slice va nd.vals.length vc,.slice (some pc) nd.kids.length cc] 119] [] → Same (fun b => b = n ∨ b = b6 ∨ b = b7 ∨ b = p1.block) w8 w9:=by
          rintro w9 X1 X2 s9 b (rfl | rfl | rfl | rfl)
          · exact (s9.blk 4 rfl).trans (s8.blk 4 rfl).symm
          · exact (s9.blk 1 rfl).trans (s8.blk 1 rfl).symm
          · exact (s9.blk 0 rfl).trans (s8.blk 0 rfl).symm
          · exact (s9.bel.block _ hpl).trans (s8.bel.block _ hpl).symm
        have s9:=s8.fill 3 (cs:=#[.bool false,.slice (some p1) m kc,.slice none 0 0,.slice (some pc) (m + 1) cc]) rfl rfl
        have s10:=s9.fill 2 (cs:=#[.bool false,.slice (offA (some p1) kc (m + 1) 1) (nd.keys.length - (m + 1)) (kc - (m + 1)),.slice none 0 0,.slice (offA (some pc) cc (m + 1) 1) (nd.kids.length - (m + 1)) (cc - (m + 1))]) rfl rfl
        have hml':(m:Int) < nd.keys.length:=by omega
        simp (disch:=first|omega|exact zF rfl|exact zG rfl|exact fun h=>h|(simp only[zA,zB,zC,zD,bytesW];omega)) only[go_sem,c166L0,c166S3,c166S4,c166S5,c166L1,c166L2,c166S12,c166S13,c166S14,c166S15,c166D3,r,r6,r7,r2,r3,ek,hml']
        refine ⟨by omega,heldS_held (by rw [add_block]; exact .inr (.inr (.inr rfl))) ?_⟩
        simp (disch:=first|omega|exact zF rfl|exact zG rfl|exact fun h=>h|(simp only[zA,zB,zC,zD,bytesW];omega)) only[go_sem,c166L0,c166S3,c166S4,c166S5,c166L1,c166L2,c166S12,c166S13,c166S14,c166S15,ek,c166D3,r2,r3]
        refine ⟨sm _ _ _ s9,sm _ _ _ s10,?_⟩
        rw [← hK]
        have e1:(nd.kids.take (m + 1)).length = m + 1:=by rw [List.length_take]; omega
        have e2:(nd.kids.drop (m + 1)).length = nd.kids.length - (m + 1):=List.length_drop
        refine ⟨⟨⟨false,nd.keys.take m,[],nd.kids.take (m + 1)⟩,⟨false,nd.keys.drop (m + 1),[],nd.kids.drop (m + 1)⟩,nd.keys[m],_,_,rfl,fun w' hw => ?_,?_,?_,form.key _ (List.getElem_mem hml)⟩,hn ▸ s10.bel⟩
        · obtain ⟨hk,_,hc⟩:=hw.parts
          refine ⟨⟨_,_,some pc,cc,by simp only [e1],RdS.takeN hk strE_len1 (by omega),RdS.nil,?_⟩,⟨_,_,offA (some pc) cc (m + 1) 1,cc - (m + 1),by simp only [e2],RdS.dropN hk strE_len1 (by omega),RdS.nil,?_⟩⟩
          · simp only [e1]; exact RdS.takeN hc nat_len1 (by omega)
          · simp only [e2]; exact RdS.dropN hc nat_len1 (by omega)
        · exact ⟨(fun h => by cases h),fun _ => ⟨rfl,by simp only [e1,List.length_take]; omega⟩,by simp only [List.length_take]; omega,fun k hx => form.key k (List.mem_of_mem_take hx),(fun _ hx => by cases hx),fun k hx => form.kid k (List.mem_of_mem_take hx)⟩
        · exact ⟨(fun h => by cases h),fun _ => ⟨rfl,by simp only [List.length_drop]; omega⟩,by simp only [List.length_drop]; omega,fun k hx => form.key k (List.mem_of_mem_drop hx),(fun _ hx => by cases hx),fun k hx => form.kid k (List.mem_of_mem_drop hx)⟩
      refine ⟨⟨by omega,by omega⟩,⟨by omega,by omega⟩,⟨by omega,by omega⟩,⟨by omega,by omega⟩,bdW_built hb2 ?_,sameB _,bdW_built hb2 ?_⟩
      · rw [hB]
        simp (disch:=first|omega|exact zF rfl|exact zG rfl|exact fun h=>h|(simp only[zA,zB,zC,zD,bytesW];omega)) only[go_sem,c166L0,c166S4,c166S5,c166L1,c166L2,c166S12,c166S13,c166S14,c166S15]
        rw [← hB]
        exact ⟨Same.refl _ _,sameB _,sameB _,tail3 _ _ (s6.box B 119)⟩
      · rw [hB]
        simp (disch:=first|omega|exact zF rfl|exact zG rfl|exact fun h=>h|(simp only[zA,zB,zC,zD,bytesW];omega)) only[go_sem,c166L0,c166S4,c166S5,c166L1,c166L2,c166S12,c166S13,c166S14,c166S15]
        rw [← hB]
        exact ⟨sameB _,sameB _,tail3 _ _ (s6.box B 119)⟩
    refine ⟨⟨by omega,by omega⟩,⟨by omega,by omega⟩,⟨by omega,by omega⟩,bdW_built hb ?_,sameA _,bdW_built hb ?_⟩
    · rw [hA]
      simp (disch:=first|omega|exact zF rfl|exact zG rfl|exact fun h=>h|(simp only[zA,zB,zC,zD,bytesW];omega)) only[go_sem,c166L0,c166S3,c166S5,c166L1,c166L2,c166S12,c166S13,c166S14,c166S15]
      rw [← hA]
      exact ⟨Same.refl _ _,sameA _,sameA _,tail2 _ _ (s4.box A 119)⟩
    · rw [hA]
      simp (disch:=first|omega|exact zF rfl|exact zG rfl|exact fun h=>h|(simp only[zA,zB,zC,zD,bytesW];omega)) only[go_sem,c166L0,c166S3,c166S5,c166L1,c166L2,c166S12,c166S13,c166S14,c166S15]
      rw [← hA]
      exact ⟨sameA _,sameA _,tail2 _ _ (s4.box A 119)⟩
  refine W_loop (fun q:Nat × Bool => (1,Value.pointer (some ⟨n,0,none⟩)) :: (2,Value.pointer (some ⟨n + 1,0,none⟩)) :: (3,Value.pointer (some ⟨n + 1 + 1,0,none⟩)) :: (5,Value.int .i64 q.1) :: (if q.2 then [(12,Value.bool true)] else [])) (fun q w' => 1 ≤ q.1 ∧ q.1 < nd.keys.length ∧ St w w' (fun _ => False) [.blk (n + 1 + 1) ndZ 119,.blk (n + 1) ndZ 119,.blk n #[.bool false,.slice (some p1) nd.keys.length kc,.slice va nd.vals.length vc,.slice (some pc) nd.kids.length cc] 119] []) (fun q => nd.keys.length - q.1) (1,true) rfl ⟨Nat.le_refl _,by simp only; omega,s1⟩ ?_
  clear s1 r
  rintro ⟨m,fl⟩ w2 ⟨hm1,hml,s2⟩
  simp only at hm1 hml
  cases fl
  all_goals
   simp (disch:=first|omega|exact zF rfl|exact zG rfl|exact fun h=>h|(simp only[zA,zB,zC,zD,bytesW];omega)) only[go_sem,c166L0,c166S3,c166S4,c166S5,c166L1,c166L2,c166S12,c166S13,c166S14,c166S15,c166L0]
   refine c166draw0 (Same (fun b => b = n) _) (Same.refl _ _) ?_
   have s3:=s2.drew
   generalize w2.drew = w3 at s3 ⊢
   have r:=s3.rules 2 rfl
   by_cases hlt:(m:Int) < nd.keys.length - 2
   · have ekt:((m:Int) + 1).toNat = m + 1:=by omega
     simp (disch:=first|omega|exact zF rfl|exact zG rfl|exact fun h=>h|(simp only[zA,zB,zC,zD,bytesW];omega)) only[go_sem,c166L0,c166S3,c166S4,c166S5,c166L1,c166L2,c166S12,c166S13,c166S14,c166S15,c166D0,r,hlt,offA_z,ekt]
     refine ⟨Same.refl _ _,⟨by omega,by omega⟩,⟨by omega,by omega⟩,⟨by omega,by omega⟩,Same.refl _ _,⟨by omega,by omega⟩,bdW_built (cells:=#[.bool false,.slice (some p1) m kc,.slice none 0 0,.slice (some pc) (m + 1) cc]) (by kernel_rfl) ?_⟩
     simp (disch:=first|omega|exact zF rfl|exact zG rfl|exact fun h=>h|(simp only[zA,zB,zC,zD,bytesW];omega)) only[go_sem,c166L0,c166S3,c166S4,c166S5,c166L1,c166L2,c166S12,c166S13,c166S14,c166S15,c166D0]
     have hkt:=(RdS.takeN hk strE_len1 (k:=m) (by omega)).below s3.bel (by decide)
     have hkm:(nd.keys.take m).length = m:=by rw [List.length_take]; omega
     refine ⟨Same.refl _ _,?_⟩
     have key:=gsize_ok (lf:=false) (vl:=[]) (nc:=m + 1) (ca:=some pc) (cc:=cc) w3 hkt RdS.nil (by rw [hkm]; omega) (by simp) (by omega) (fun x hx => Nat.le_trans (form.key x (List.mem_of_mem_take hx)) (by decide)) (fun _ hx => by cases hx)
     refine Ret.mono key ?_
     rintro _ w4 ⟨rfl,b4⟩
     have s4:=s3.call b4
     generalize ksum (nd.keys.take m) = ks
     generalize ksum ([]:List (List UInt8)) = k0
     have same4:Same (fun b => b = n) w3 w4:=by
       rintro b rfl
       exact (s4.blk 2 rfl).trans (s3.blk 2 rfl).symm
     simp (disch:=first|omega|exact zF rfl|exact zG rfl|exact fun h=>h|(simp only[zA,zB,zC,zD,bytesW];omega)) only[go_sem,c166L0,c166S3,c166S4,c166L1,c166L2,c166S12,c166S13,c166S14,c166S15,c166D0]
     exact ⟨same4,fun _ => ⟨⟨by omega,by omega⟩,(m + 1,false),rfl,⟨by simp only; omega,by simp only; omega,s4⟩,by simp only; omega⟩,fun _ => tail m w4 hm1 hml s4⟩
   · simp (disch:=first|omega|exact zF rfl|exact zG rfl|exact fun h=>h|(simp only[zA,zB,zC,zD,bytesW];omega)) only[go_sem,c166L0,c166S3,c166S4,c166L1,c166L2,c166S12,c166S13,c166S14,c166S15,c166D0,r,hlt]
     exact ⟨Same.refl _ _,⟨by omega,by omega⟩,tail m w3 hm1 hml s3⟩
end
open Go Go.Ann Go.RowKit Go.WideShapes Go.Shelf
section
variable {w:World}
set_option maxHeartbeats 2000000 in
theorem halfL_ok{nd:Nd}{u:Value}(h:NdAt w nd u)(form:NdMade nd)(h2:2≤nd.keys.length)(hlf:nd.leaf=true) :
  Ret Tryz.prog 166 [u] w fun v w'=>(∃ a b mid ua ub,v=.tuple #[ua,ub,.string (ofL mid)]∧(∀ w',NdAt w' nd u→NdAt w' a ua∧NdAt w' b ub)∧NdMade a∧NdMade b∧mid.length≤32)∧Below w.heap.size w w':=by
 obtain ⟨kv,vv,ca,cc,rfl,hk,hv,hc⟩:=h
 obtain ⟨ka,kc,rfl,hkc⟩:=hk.form
 obtain ⟨va,vc,rfl,hvc⟩:=hv.form
 have hfew:=form.few
 generalize hK:(fun (v:Value) w'=>(∃ a b mid ua ub,v=Value.tuple #[ua,ub,.string (ofL mid)]∧(∀ w',NdAt w' nd (.agg #[.bool nd.leaf,.slice ka nd.keys.length kc,.slice va nd.vals.length vc,.slice ca nd.kids.length cc])→NdAt w' a ua∧NdAt w' b ub)∧NdMade a∧NdMade b∧mid.length≤32)∧Below w.heap.size w w')=K
 refine ent166 _ _ _ ?_
 simp (disch:=first|omega|exact zF rfl|exact zG rfl|exact fun h=>h|(simp only[zA,zB,zC,zD,bytesW];omega)) only[go_sem,c166L0,c166S3,c166S4,c166S5,c166L1,c166L2,c166S12,c166S13,c166S14,c166S15]
 have s1:=(((St.start (W0:=w)).box #[.bool nd.leaf,.slice ka nd.keys.length kc,.slice va nd.vals.length vc,.slice ca nd.kids.length cc] 119).box ndZ 119).box ndZ 119
 simp only [World.size_alloc] at s1
 obtain ⟨n,hn⟩:∃ n,n=w.heap.size:=⟨_,rfl⟩
 rw [← hn] at s1 ⊢
 generalize ((w.alloc (.cells #[.bool nd.leaf,.slice ka nd.keys.length kc,.slice va nd.vals.length vc,.slice ca nd.kids.length cc] 119)).alloc (.cells ndZ 119)).alloc (.cells ndZ 119)=w1 at s1 ⊢
 obtain ⟨p1,rfl⟩:=hk.ptr (by omega)
 obtain ⟨hvl,hcn⟩:=form.lf hlf
 rw [hlf] at s1
 have r:=s1.rules 2 rfl
 obtain ⟨p2,rfl⟩:=hv.ptr (by omega)
 simp (disch:=first|omega|exact zF rfl|exact zG rfl|exact fun h=>h|(simp only[zA,zB,zC,zD,bytesW];omega)) only[go_sem,c166L0,c166S3,c166S4,c166S5,c166L2,c166S12,c166S13,c166S14,c166S15,r,hlf]
 have size:∀ (m:Nat) (w3:World),m≤nd.keys.length→Below w.heap.size w w3→Ret Tryz.prog 165 [.agg #[.bool true,.slice (some p1) m kc,.slice (some p2) m vc,.slice none 0 0]] w3 fun u w'=>∃ z:Nat,u=.int .i64 z∧Below w3.heap.size w3 w':=by
  intro m w3 hm b3
  have hkm:(nd.keys.take m).length=m:=by rw [List.length_take]; omega
  have hvm:(nd.vals.take m).length=m:=by rw [List.length_take]; omega
  have key:=gsize_ok (lf:=true) (nc:=0) (ca:=none) (cc:=0) w3 ((RdS.takeN hk strE_len1 (k:=m) (by omega)).below b3 (by decide)) ((RdS.takeN hv strE_len1 (k:=m) (by omega)).below b3 (by decide)) (by omega) (by omega) (by decide) (fun x hx=>Nat.le_trans (form.key x (List.mem_of_mem_take hx)) (by decide)) (fun x hx=>Nat.le_trans (form.val x (List.mem_of_mem_take hx)) (by decide))
  exact Ret.mono key fun u w' h=>⟨_,h⟩
 have tail:∀ (m:Nat) (w3:World),1≤m→m<nd.keys.length→St w w3 (fun _=>False) [.blk (n+1+1) ndZ 119,.blk (n+1) ndZ 119,.blk n #[.bool true,.slice (some p1) nd.keys.length kc,.slice (some p2) nd.vals.length vc,.slice ca nd.kids.length cc] 119] [] →
   W Tryz.prog (c166S14 ()) [(1,Value.pointer (some ⟨n,0,none⟩)),(2,Value.pointer (some ⟨n+1,0,none⟩)),(3,Value.pointer (some ⟨n+1+1,0,none⟩)),(5,Value.int .i64 m)] w3 (finQ Tryz.prog [.cell 2 119,.cell 3 119,.tmp 4] K):=by
  intro m w3 hm1 hml s3
  simp (disch:=first|omega|exact zF rfl|exact zG rfl|exact fun h=>h|(simp only[zA,zB,zC,zD,bytesW];omega)) only[go_sem,c166L0,c166S3,c166S4,c166S5,c166L1,c166L2,c166S12,c166S14,c166S15]
  refine c166draw6 (Same (fun b=>b=n) _) (Same.refl _ _) ?_
  have s4:=s3.drew
  generalize w3.drew=w4 at s4 ⊢
  have r:=s4.rules 2 rfl
  simp (disch:=first|omega|exact zF rfl|exact zG rfl|exact fun h=>h|(simp only[zA,zB,zC,zD,bytesW];omega)) only[go_sem,c166L0,c166S3,c166S4,c166S5,c166L1,c166L2,c166S12,c166S14,c166S15,c166D6,r,offA_z]
  obtain ⟨A,hA⟩:∃ A:Array Value,A=#[.bool true,.slice (some p1) m kc,.slice (some p2) m vc,.slice none 0 0]:=⟨_,rfl⟩
  have hb:Tryz.prog.built 119 (zipP [0,1,2] [.bool true,.slice (some p1) m kc,.slice (some p2) m vc])=some A:=by subst hA; kernel_rfl
  have sameA:∀ o,Same (fun b=>b=n) w4 (w4.alloc o):=by
   rintro o b rfl
   exact ((s4.alloc' o).blk 2 rfl).trans (s4.blk 2 rfl).symm
  have tail2:∀ (b6:Nat) (w5:World),St w w5 (fun _=>False) (.blk b6 A 119::[.blk (n+1+1) ndZ 119,.blk (n+1) ndZ 119,.blk n #[.bool true,.slice (some p1) nd.keys.length kc,.slice (some p2) nd.vals.length vc,.slice ca nd.kids.length cc] 119]) [] →
    W Tryz.prog (c166S13 ()) [(1,Value.pointer (some ⟨n,0,none⟩)),(2,Value.pointer (some ⟨n+1,0,none⟩)),(3,Value.pointer (some ⟨n+1+1,0,none⟩)),(5,Value.int .i64 m),(8,Value.pointer (some ⟨b6,0,none⟩))] w5 (finQ Tryz.prog [.cell 2 119,.cell 3 119,.tmp 4] K):=by
   intro b6 w5 s5
   simp (disch:=first|omega|exact zF rfl|exact zG rfl|exact fun h=>h|(simp only[zA,zB,zC,zD,bytesW];omega)) only[go_sem,c166L0,c166S3,c166S4,c166S5,c166L1,c166L2,c166S13,c166S14,c166S15]
   refine c166draw7 (Same (fun b=>b=n) _) (Same.refl _ _) ?_
   have s6:=s5.drew
   generalize w5.drew=w6 at s6 ⊢
   have r:=s6.rules 3 rfl
   simp (disch:=first|omega|exact zF rfl|exact zG rfl|exact fun h=>h|(simp only[zA,zB,zC,zD,bytesW];omega)) only[go_sem,c166L0,c166S3,c166S4,c166S5,c166L1,c166L2,c166S13,c166S14,c166S15,c166D7,r,offA_z]
   obtain ⟨B,hB⟩:∃ B:Array Value,B=#[.bool true,.slice (offA (some p1) kc m 1) (nd.keys.length - m) (kc - m),.slice (offA (some p2) vc m 1) (nd.vals.length - m) (vc - m),.slice none 0 0]:=⟨_,rfl⟩
   have hb2:Tryz.prog.built 119 (zipP [0,1,2] [.bool true,.slice (offA (some p1) kc m 1) (nd.keys.length - m) (kc - m),.slice (offA (some p2) vc m 1) (nd.vals.length - m) (vc - m)])=some B:=by subst hB; kernel_rfl
   have sameB:∀ o,Same (fun b=>b=n) w6 (w6.alloc o):=by
    rintro o b rfl
    exact ((s6.alloc' o).blk 3 rfl).trans (s6.blk 3 rfl).symm
   have tail3:∀ (b7:Nat) (w7:World),St w w7 (fun _=>False) (.blk b7 B 119::.blk b6 A 119::[.blk (n+1+1) ndZ 119,.blk (n+1) ndZ 119,.blk n #[.bool true,.slice (some p1) nd.keys.length kc,.slice (some p2) nd.vals.length vc,.slice ca nd.kids.length cc] 119]) [] →
     W Tryz.prog (c166S12 ()) [(2,Value.pointer (some ⟨n+1,0,none⟩)),(3,Value.pointer (some ⟨n+1+1,0,none⟩)),(8,Value.pointer (some ⟨b6,0,none⟩)),(9,Value.pointer (some ⟨b7,0,none⟩))] w7 (finQ Tryz.prog [.cell 2 119,.cell 3 119,.tmp 4] K):=by
    intro b7 w7 s7
    subst hA hB
    have hkd:=RdS.dropN hk strE_len1 (k:=m) (by omega)
    obtain ⟨q,hq⟩:=hkd.ptr (by rw [List.length_drop]; omega)
    rw [hq] at s7 hkd
    have hql:q.block=p1.block:=by
     unfold offA at hq
     split at hq
     ·cases hq; rfl
     ·cases hq; exact add_block _ _
    simp (disch:=first|omega|exact zF rfl|exact zG rfl|exact fun h=>h|(simp only[zA,zB,zC,zD,bytesW];omega)) only[go_sem,c166L0,c166S3,c166S4,c166S5,c166L1,c166L2,c166S12,c166S13,c166S14,c166S15]
    refine c166draw8 (Same (fun b=>b=b6∨b=b7∨b=p1.block) _) (Same.refl _ _) ?_
    have s8:=s7.drew
    generalize w7.drew=w8 at s8 ⊢
    have r7:=s8.rules 0 rfl
    have r6:=s8.rules 1 rfl
    have ek:=RdS.at1 (e1:=fun r=>.string (ofL r)) (hkd.below s8.bel (by decide)) (k:=0) (by rw [List.length_drop]; omega)
    have r3:=s8.rules 2 rfl
    have r2:=s8.rules 3 rfl
    have hpl:=hk.blt strE_len1 (by decide) (by omega)
    have ek':w8.cell? q=some (.string (ofL nd.keys[m])):=by
     have e0:(nd.keys.drop m)[0]'(by rw [List.length_drop]; omega)=nd.keys[m]:=by rw [List.getElem_drop]; rfl
     rw [e0] at ek
     have e1:q.add 0=q:=by simp [Addr.add]
     rw [e1] at ek
     exact ek
    have sm:∀ (w9:World) (X1 X2:Res),St w w9 (fun _=>False) [.blk b7 #[.bool true,.slice (some q) (nd.keys.length - m) (kc - m),.slice (offA (some p2) vc m 1) (nd.vals.length - m) (vc - m),.slice none 0 0] 119,.blk b6 #[.bool true,.slice (some p1) m kc,.slice (some p2) m vc,.slice none 0 0] 119,X1,X2,.blk n #[.bool true,.slice (some p1) nd.keys.length kc,.slice (some p2) nd.vals.length vc,.slice ca nd.kids.length cc] 119] []→Same (fun b=>b=b6∨b=b7∨b=p1.block) w8 w9:=by
     rintro w9 X1 X2 s9 b (rfl | rfl | rfl)
     ·exact (s9.blk 1 rfl).trans (s8.blk 1 rfl).symm
     ·exact (s9.blk 0 rfl).trans (s8.blk 0 rfl).symm
     ·exact (s9.bel.block _ hpl).trans (s8.bel.block _ hpl).symm
    have s9:=s8.fill 3 (cs:=#[.bool true,.slice (some p1) m kc,.slice (some p2) m vc,.slice none 0 0]) rfl rfl
    have s10:=s9.fill 2 (cs:=#[.bool true,.slice (some q) (nd.keys.length - m) (kc - m),.slice (offA (some p2) vc m 1) (nd.vals.length - m) (vc - m),.slice none 0 0]) rfl rfl
    simp (disch:=first|omega|exact zF rfl|exact zG rfl|exact fun h=>h|(simp only[zA,zB,zC,zD,bytesW];omega)) only[go_sem,c166L0,c166S3,c166S4,c166S5,c166L1,c166L2,c166S12,c166S13,c166S14,c166S15,c166D8,r6,r7,r2,r3]
    refine ⟨by omega,heldS_held (by rw [hql]; exact .inr (.inr rfl)) ?_⟩
    simp (disch:=first|omega|exact zF rfl|exact zG rfl|exact fun h=>h|(simp only[zA,zB,zC,zD,bytesW];omega)) only[go_sem,c166L0,c166S3,c166S4,c166S5,c166L1,c166L2,c166S12,c166S13,c166S14,c166S15,ek',c166D8,r2,r3]
    refine ⟨sm _ _ _ s9,sm _ _ _ s10,?_⟩
    rw [← hK]
    have e1:(nd.vals.drop m).length=nd.vals.length - m:=List.length_drop
    refine ⟨⟨⟨true,nd.keys.take m,nd.vals.take m,[]⟩,⟨true,nd.keys.drop m,nd.vals.drop m,[]⟩,nd.keys[m],_,_,rfl,fun w' hw=>?_,?_,?_,form.key _ (List.getElem_mem hml)⟩,s10.bel⟩
    ·obtain ⟨hk,hv,_⟩:=hw.parts
     have hkd:=RdS.dropN hk strE_len1 (k:=m) (by omega)
     rw [hq] at hkd
     exact ⟨⟨_,_,none,0,rfl,RdS.takeN hk strE_len1 (by omega),RdS.takeN hv strE_len1 (by omega),RdS.nil⟩,⟨_,_,none,0,rfl,hkd,RdS.dropN hv strE_len1 (by omega),RdS.nil⟩⟩
    ·exact ⟨fun _=>⟨by simp only [List.length_take]; omega,rfl⟩,(fun h=>by cases h),by simp only [List.length_take]; omega,fun k hx=>form.key k (List.mem_of_mem_take hx),fun k hx=>form.val k (List.mem_of_mem_take hx),fun _ hx=>by cases hx⟩
    ·exact ⟨fun _=>⟨by simp only [List.length_drop]; omega,rfl⟩,(fun h=>by cases h),by simp only [List.length_drop]; omega,fun k hx=>form.key k (List.mem_of_mem_drop hx),fun k hx=>form.val k (List.mem_of_mem_drop hx),fun _ hx=>by cases hx⟩
   refine ⟨⟨by omega,by omega⟩,⟨by omega,by omega⟩,bdW_built hb2 ?_,sameB _,bdW_built hb2 ?_⟩
   ·rw [hB]
    simp (disch:=first|omega|exact zF rfl|exact zG rfl|exact fun h=>h|(simp only[zA,zB,zC,zD,bytesW];omega)) only[go_sem,c166L0,c166S3,c166S4,c166S5,c166L1,c166L2,c166S13,c166S14,c166S15]
    rw [← hB]
    exact ⟨Same.refl _ _,sameB _,sameB _,tail3 _ _ (s6.box B 119)⟩
   ·rw [hB]
    simp (disch:=first|omega|exact zF rfl|exact zG rfl|exact fun h=>h|(simp only[zA,zB,zC,zD,bytesW];omega)) only[go_sem,c166L0,c166S3,c166S4,c166S5,c166L1,c166L2,c166S13,c166S14,c166S15]
    rw [← hB]
    exact ⟨sameB _,sameB _,tail3 _ _ (s6.box B 119)⟩
  refine ⟨⟨by omega,by omega⟩,⟨by omega,by omega⟩,bdW_built hb ?_,sameA _,bdW_built hb ?_⟩
  ·rw [hA]
   simp (disch:=first|omega|exact zF rfl|exact zG rfl|exact fun h=>h|(simp only[zA,zB,zC,zD,bytesW];omega)) only[go_sem,c166L0,c166S3,c166S4,c166S5,c166L1,c166L2,c166S12,c166S14,c166S15]
   rw [← hA]
   exact ⟨Same.refl _ _,sameA _,sameA _,tail2 _ _ (s4.box A 119)⟩
  ·rw [hA]
   simp (disch:=first|omega|exact zF rfl|exact zG rfl|exact fun h=>h|(simp only[zA,zB,zC,zD,bytesW];omega)) only[go_sem,c166L0,c166S3,c166S4,c166S5,c166L1,c166L2,c166S12,c166S14,c166S15]
   rw [← hA]
   exact ⟨sameA _,sameA _,tail2 _ _ (s4.box A 119)⟩
 have tailL:∀ (m:Nat) (w3:World),1≤m→m<nd.keys.length→St w w3 (fun _=>False) [.blk (n+1+1) ndZ 119,.blk (n+1) ndZ 119,.blk n #[.bool true,.slice (some p1) nd.keys.length kc,.slice (some p2) nd.vals.length vc,.slice ca nd.kids.length cc] 119] [] →
   W Tryz.prog (c166S15 ()) [(1,Value.pointer (some ⟨n,0,none⟩)),(2,Value.pointer (some ⟨n+1,0,none⟩)),(3,Value.pointer (some ⟨n+1+1,0,none⟩)),(5,Value.int .i64 m)] w3 (finQ Tryz.prog [.cell 2 119,.cell 3 119,.tmp 4] K):=by
  intro m w3 hm1 hml s3
  simp (disch:=first|omega|exact zF rfl|exact zG rfl|exact fun h=>h|(simp only[zA,zB,zC,zD,bytesW];omega)) only[go_sem,c166L0,c166S3,c166S4,c166S5,c166L1,c166S12,c166S13,c166S14,c166S15]
  refine W_loopU (fun m:Nat=>[(5,.int .i64 m)]) (fun m w'=>1≤m∧m<nd.keys.length∧St w w' (fun _=>False) [.blk (n+1+1) ndZ 119,.blk (n+1) ndZ 119,.blk n #[.bool true,.slice (some p1) nd.keys.length kc,.slice (some p2) nd.vals.length vc,.slice ca nd.kids.length cc] 119] []) (fun m=>m) m rfl ⟨hm1,hml,s3⟩ ?_
  clear s3 hm1 hml
  rintro m w2 ⟨hm1,hml,s2⟩
  simp (disch:=first|omega|exact zF rfl|exact zG rfl|exact fun h=>h|(simp only[zA,zB,zC,zD,bytesW];omega)) only[go_sem,c166L0,c166S3,c166S4,c166S5,c166L1,c166L2,c166S12,c166S13,c166S14,c166S15,c166L2]
  refine c166draw5 (Same (fun b=>b=n) _) (Same.refl _ _) ?_
  have s3:=s2.drew
  generalize w2.drew=w3 at s3 ⊢
  have r:=s3.rules 2 rfl
  by_cases hlt:(1:Int)<m
  ·simp (disch:=first|omega|exact zF rfl|exact zG rfl|exact fun h=>h|(simp only[zA,zB,zC,zD,bytesW];omega)) only[go_sem,c166L0,c166S3,c166S4,c166S5,c166L1,c166L2,c166S12,c166S13,c166S14,c166S15,c166D5,r,hlt,offA_z]
   refine ⟨⟨by omega,by omega⟩,Same.refl _ _,⟨by omega,by omega⟩,bdW_built (cells:=#[.bool true,.slice (some p1) m kc,.slice (some p2) m vc,.slice none 0 0]) (by kernel_rfl) ?_⟩
   simp (disch:=first|omega|exact zF rfl|exact zG rfl|exact fun h=>h|(simp only[zA,zB,zC,zD,bytesW];omega)) only[go_sem,c166L0,c166S3,c166S4,c166S5,c166L1,c166L2,c166S12,c166S13,c166S14,c166S15,c166D5]
   refine ⟨Same.refl _ _,Ret.mono (size m w3 (by omega) s3.bel) ?_⟩
   rintro _ w4 ⟨z,rfl,b4⟩
   have s4:=s3.call b4
   have same4:Same (fun b=>b=n) w3 w4:=by
    rintro b rfl
    exact (s4.blk 2 rfl).trans (s3.blk 2 rfl).symm
   simp (disch:=first|omega|exact zF rfl|exact zG rfl|exact fun h=>h|(simp only[zA,zB,zC,zD,bytesW];omega)) only[go_sem,c166L0,c166S3,c166S4,c166S5,c166L1,c166L2,c166S12,c166S13,c166S15,c166D5]
   exact ⟨same4,fun _=>⟨⟨by omega,by omega⟩,m - 1,(by rw [show ((m:Int) - 1)=((m - 1:Nat):Int) by omega]),⟨by omega,by omega,s4⟩,by omega⟩,fun _=>tail m w4 hm1 hml s4⟩
  ·simp (disch:=first|omega|exact zF rfl|exact zG rfl|exact fun h=>h|(simp only[zA,zB,zC,zD,bytesW];omega)) only[go_sem,c166L0,c166S3,c166S4,c166S5,c166L1,c166L2,c166S12,c166S13,c166S15,c166D5,r,hlt]
   exact tail m w3 hm1 hml s3
 refine W_loopU (fun m:Nat=>[(5,.int .i64 m)]) (fun m w'=>1≤m∧m<nd.keys.length∧St w w' (fun _=>False) [.blk (n+1+1) ndZ 119,.blk (n+1) ndZ 119,.blk n #[.bool true,.slice (some p1) nd.keys.length kc,.slice (some p2) nd.vals.length vc,.slice ca nd.kids.length cc] 119] []) (fun m=>nd.keys.length - m) 1 rfl ⟨Nat.le_refl _,by omega,s1⟩ ?_
 clear s1 r
 rintro m w2 ⟨hm1,hml,s2⟩
 have r:=s2.rules 2 rfl
 by_cases hlt:(m:Int)<nd.keys.length - 1
 ·simp (disch:=first|omega|exact zF rfl|exact zG rfl|exact fun h=>h|(simp only[zA,zB,zC,zD,bytesW];omega)) only[go_sem,c166L0,c166S3,c166S4,c166S5,c166L1,c166L2,c166S12,c166S13,c166S14,c166L1,r,hlt]
  refine ⟨⟨by omega,by omega⟩,c166draw4 (Same (fun b=>b=n) _) (Same.refl _ _) ?_⟩
  have s3:=s2.drew
  generalize w2.drew=w3 at s3 ⊢
  have r:=s3.rules 2 rfl
  simp (disch:=first|omega|exact zF rfl|exact zG rfl|exact fun h=>h|(simp only[zA,zB,zC,zD,bytesW];omega)) only[go_sem,c166L0,c166S3,c166S4,c166S5,c166L1,c166L2,c166S12,c166S13,c166S14,c166S15,c166D4,r,offA_z]
  refine ⟨⟨by omega,by omega⟩,Same.refl _ _,⟨by omega,by omega⟩,bdW_built (cells:=#[.bool true,.slice (some p1) m kc,.slice (some p2) m vc,.slice none 0 0]) (by kernel_rfl) ?_⟩
  simp (disch:=first|omega|exact zF rfl|exact zG rfl|exact fun h=>h|(simp only[zA,zB,zC,zD,bytesW];omega)) only[go_sem,c166L0,c166S3,c166S4,c166S5,c166L1,c166L2,c166S12,c166S13,c166S14,c166S15,c166D4]
  refine ⟨Same.refl _ _,Ret.mono (size m w3 (by omega) s3.bel) ?_⟩
  rintro _ w4 ⟨z,rfl,b4⟩
  have s4:=s3.call b4
  have same4:Same (fun b=>b=n) w3 w4:=by
   rintro b rfl
   exact (s4.blk 2 rfl).trans (s3.blk 2 rfl).symm
  simp (disch:=first|omega|exact zF rfl|exact zG rfl|exact fun h=>h|(simp only[zA,zB,zC,zD,bytesW];omega)) only[go_sem,c166L0,c166S3,c166S4,c166S5,c166L1,c166L2,c166S12,c166S13,c166S14,c166D4]
  exact ⟨same4,fun _=>tailL m w4 hm1 hml s4,fun _=>⟨⟨by omega,by omega⟩,m+1,rfl,⟨by omega,by omega,s4⟩,by omega⟩⟩
 ·simp (disch:=first|omega|exact zF rfl|exact zG rfl|exact fun h=>h|(simp only[zA,zB,zC,zD,bytesW];omega)) only[go_sem,c166L0,c166S3,c166S4,c166S5,c166L1,c166L2,c166S12,c166S13,c166S14,c166L1,r,hlt]
  exact ⟨⟨by omega,by omega⟩,tailL m w2 hm1 hml s2⟩
theorem half_ok{nd:Nd}{u:Value}(h:NdAt w nd u)(form:NdMade nd)(h2:2≤nd.keys.length) :
  Ret Tryz.prog 166 [u] w fun v w'=>(∃ a b mid ua ub,v=.tuple #[ua,ub,.string (ofL mid)]∧(∀ w',NdAt w' nd u→NdAt w' a ua∧NdAt w' b ub)∧NdMade a∧NdMade b∧mid.length≤32)∧Below w.heap.size w w':=by
 cases hlf:nd.leaf with
 | true=>exact halfL_ok h form h2 hlf
 | false=>exact halfN_ok h form h2 hlf
end
open Go Go.Ann Go.RowKit Go.WideShapes Go.Shelf
def keyB(k:List UInt8):List UInt8:=u8N k.length::k
def kidB(c:Nat):List UInt8:=[u8N c,u8N (c / 256)]
def inB(ks:List (List UInt8))(cs:List Nat):List UInt8:=2::u8N ks.length::(ks.flatMap keyB++cs.flatMap kidB)
theorem keyB_len{l:List (List UInt8)}(h:∀ x∈l,x.length≤255):(l.flatMap keyB).length≤512 * l.length:=by
 induction l with
 | nil=>exact Nat.le_refl _
 | cons x l ih =>
  have h1:=h x List.mem_cons_self
  have h2:=ih fun y hy=>h y (List.mem_cons_of_mem _ hy)
  rw [List.flatMap_cons,List.length_append,List.length_cons]
  simp only [keyB,List.length_cons]
  omega
theorem kidB_len(l:List Nat):(l.flatMap kidB).length=2 * l.length:=by
 induction l with
 | nil=>rfl
 | cons x l ih=>rw [List.flatMap_cons,List.length_append,ih,List.length_cons]; simp only [kidB,List.length_cons,List.length_nil]; omega
section
variable {W0 w:World} {F:Nat→Prop} {L:List Res} {I:List Inv}
theorem writeIn_ok{kv vv cv:Value}{l:List (List UInt8)}{cs:List Nat}(w:World)(hk:RdS w 1 strE kv l)(hv:∃ va vn vc,vv=.slice va vn vc)(hc:RdS w 1 natE cv cs)(hl:l.length≤256)(hcl:cs.length≤300)(hcb:∀ c∈cs,c≤4294967296)(hb:∀ x∈l,x.length≤255) :
  Ret Tryz.prog 127 [.agg #[.bool false,kv,vv,cv]] w fun u w'=>u=.string (ofL (inB l cs))∧Below w.heap.size w w':=by
 obtain ⟨ka,kc,rfl,_⟩:=hk.form
 obtain ⟨va,vn,vc,rfl⟩:=hv
 obtain ⟨ca,cc,rfl,_⟩:=hc.form
 refine ent127 _ _ _ ?_
 simp (disch:=first|omega|exact zF rfl|exact zG rfl|exact fun h=>h|(simp only[zA,zB,zC,zD,bytesW];omega)) only[go_sem,c127S0,c127S1,c127S2,c127L0,c127S5,c127L1,c127S10,c127S11]
 have s1:=((St.start (W0:=w)).box #[.bool false,.slice ka l.length kc,.slice va vn vc,.slice ca cs.length cc] 119).box #[.pointer none,.slice none 0 0] 209
 rw [World.size_alloc] at s1
 generalize (w.alloc (.cells #[.bool false,.slice ka l.length kc,.slice va vn vc,.slice ca cs.length cc] 119)).alloc (.cells #[.pointer none,.slice none 0 0] 209)=w2 at s1 ⊢
 obtain ⟨b,hbb⟩:∃ b,b=w.heap.size:=⟨_,rfl⟩
 have fin:∀ {w'},Below w.heap.size w w'→Below b w w':=fun h=>hbb ▸ h
 rw [← hbb] at s1 ⊢
 have s2:St w w2 (fun _=>False) (BuL (b+1) (.pointer none) (.slice none 0 0) []++[.blk b #[.bool false,.slice ka l.length kc,.slice va vn vc,.slice ca cs.length cc] 119]) []:=(s1.nilRow 5 1).perm (List.Perm.swap _ _ _)
 refine Ret.mono (writeB_ok 2 s2 ⟨.inl rfl,fun _=>rfl⟩ (by decide)) ?_
 rintro _ w3 ⟨p3,v3,ok3,s3⟩
 have r3:=s3.rules 2 rfl
 simp (disch:=first|omega|exact zF rfl|exact zG rfl|exact fun h=>h|(simp only[zA,zB,zC,zD,bytesW];omega)) only[go_sem,c127S0,c127S1,c127S2,c127L0,c127S5,c127L1,c127S10,c127S12,r3,u8N_wrap]
 refine Ret.mono (writeB_ok (u8N l.length) s3 ok3 (by simp)) ?_
 rintro _ w4 ⟨p4,v4,ok4,s4⟩
 have r4:=s4.rules 2 rfl
 simp (disch:=first|omega|exact zF rfl|exact zG rfl|exact fun h=>h|(simp only[zA,zB,zC,zD,bytesW];omega)) only[go_sem,c127S0,c127S1,c127S2,c127S5,c127L1,c127S11,c127S12,r4]
 refine W_loopU (fun q:Nat × Value × Value=>[(21,.int .i64 q.1)]) (fun q w'=>q.1≤l.length∧BuOk (b+1) q.2.1 q.2.2 (2::u8N l.length::(l.take q.1).flatMap keyB)∧St w w' (fun _=>False) (BuL (b+1) q.2.1 q.2.2 (2::u8N l.length::(l.take q.1).flatMap keyB)++[.blk b #[.bool false,.slice ka l.length kc,.slice va vn vc,.slice ca cs.length cc] 119]) []) (fun q=>l.length - q.1) (0,p4,v4) rfl ⟨Nat.zero_le _,ok4,s4⟩ ?_
 clear r3 r4 s3 s4 s2 s1
 rintro ⟨k,p5,v5⟩ w5 ⟨hkl,ok5,s5⟩
 simp only at hkl ok5 s5
 have r5:=s5.rules 2 rfl
 by_cases hlt:k<l.length
 case neg =>
  have hlt':¬ (k:Int)<l.length:=by omega
  obtain rfl:k=l.length:=by omega
  rw [List.take_length] at s5 ok5
  simp (disch:=first|omega|exact zF rfl|exact zG rfl|exact fun h=>h|(simp only[zA,zB,zC,zD,bytesW];omega)) only[go_sem,c127S0,c127S1,c127S2,c127L0,c127S5,c127S10,c127S11,c127S12,c127L0,hlt',r5]
  have hel:=keyB_len hb
  obtain ⟨B,hB⟩:∃ B,B=2::u8N l.length::l.flatMap keyB:=⟨_,rfl⟩
  have hBl:B.length≤512 * 256+2:=by rw [hB,List.length_cons,List.length_cons]; omega
  rw [← hB] at s5 ok5
  have s5':St w w5 (fun _=>False) (BuL (b+1) p5 v5 (B++(cs.take 0).flatMap kidB)++[.blk b #[.bool false,.slice ka l.length kc,.slice va vn vc,.slice ca cs.length cc] 119]) []:=by
   rw [List.take_zero,List.flatMap_nil,List.append_nil]; exact s5
  have ok5':BuOk (b+1) p5 v5 (B++(cs.take 0).flatMap kidB):=by rw [List.take_zero,List.flatMap_nil,List.append_nil]; exact ok5
  refine W_loopU (fun q:Nat × Value × Value=>[(52,.int .i64 q.1)]) (fun q w'=>q.1≤cs.length∧BuOk (b+1) q.2.1 q.2.2 (B++(cs.take q.1).flatMap kidB)∧St w w' (fun _=>False) (BuL (b+1) q.2.1 q.2.2 (B++(cs.take q.1).flatMap kidB)++[.blk b #[.bool false,.slice ka l.length kc,.slice va vn vc,.slice ca cs.length cc] 119]) []) (fun q=>cs.length - q.1) (0,p5,v5) rfl ⟨Nat.zero_le _,ok5',s5'⟩ ?_
  clear s5 ok5 s5' ok5'
  rintro ⟨j,p6,v6⟩ w6 ⟨hj,ok6,s6⟩
  simp only at hj ok6 s6
  have hkd:=kidB_len (cs.take j)
  rw [List.length_take] at hkd
  by_cases hjl:j<cs.length
  case neg =>
   have hjl':¬ (j:Int)<cs.length:=by omega
   obtain rfl:j=cs.length:=by omega
   rw [List.take_length] at s6 ok6 hkd
   simp (disch:=first|omega|exact zF rfl|exact zG rfl|exact fun h=>h|(simp only[zA,zB,zC,zD,bytesW];omega)) only[go_sem,c127S0,c127S1,c127S2,c127L0,c127S5,c127L1,c127S10,c127S11,c127S12,c127L1,hjl']
   refine Ret.mono (stringS_ok s6 ok6 (by rw [List.length_append]; omega)) ?_
   rintro _ w7 ⟨rfl,s7⟩
   simp (disch:=first|omega|exact zF rfl|exact zG rfl|exact fun h=>h|(simp only[zA,zB,zC,zD,bytesW];omega)) only[go_sem,c127S0,c127S1,c127S2,c127L0,c127S5,c127L1,c127S10,c127S11,c127S12]
   refine ⟨?_,fin s7.bel⟩
   rw [hB]
   simp [inB]
  have hjl':(j:Int)<cs.length:=by omega
  obtain ⟨q1,rfl⟩:=hc.ptr (by omega)
  have ec:=RdS.at1 (e1:=fun r:Nat=>.int .i64 r) (hc.below s6.bel (by decide)) hjl
  obtain ⟨D,hD⟩:∃ D,D=B++(cs.take j).flatMap kidB:=⟨_,rfl⟩
  have hDl:D.length≤512 * 256+2+600:=by rw [hD,List.length_append]; omega
  rw [← hD] at s6 ok6
  have en:B++(cs.take (j+1)).flatMap kidB=D++[u8N cs[j]]++[u8N (cs[j] / 256)]:=by
   rw [List.take_succ_eq_append_getElem hjl,List.flatMap_append,hD]
   simp [kidB]
  have hcj:=hcb _ (List.getElem_mem hjl)
  simp (disch:=first|omega|exact zF rfl|exact zG rfl|exact fun h=>h|(simp only[zA,zB,zC,zD,bytesW];omega)) only[go_sem,c127S0,c127S1,c127S2,c127L0,c127L1,c127S10,c127S11,c127S12,c127L1,hjl',ec,u8N_wrap]
  refine ⟨by omega,Ret.mono (writeB_ok (u8N cs[j]) s6 ok6 (by omega)) ?_⟩
  rintro _ w7 ⟨p7,v7,ok7,s7⟩
  have hl7:(D++[u8N cs[j]]).length=D.length+1:=by simp
  simp (disch:=first|omega|exact zF rfl|exact zG rfl|exact fun h=>h|(simp only[zA,zB,zC,zD,bytesW];omega)) only[go_sem,c127S0,c127S1,c127S2,c127L0,c127S5,c127L1,c127S10,c127S11,c127S12]
  have e8:(cs[j]:Int) / 2 ^ min 8 64=((cs[j] / 256:Nat):Int):=by
   show (cs[j]:Int) / 256=_
   omega
  rw [e8,u8N_wrap]
  refine Ret.mono (writeB_ok (u8N (cs[j] / 256)) s7 ok7 (by omega)) ?_
  rintro _ w8 ⟨p8,v8,ok8,s8⟩
  simp (disch:=first|omega|exact zF rfl|exact zG rfl|exact fun h=>h|(simp only[zA,zB,zC,zD,bytesW];omega)) only[go_sem,c127S0,c127S1,c127S2,c127L0,c127S5,c127L1,c127S10,c127S11,c127S12]
  rw [← en] at s8 ok8
  exact ⟨⟨by omega,by omega⟩,(j+1,p8,v8),rfl,⟨hjl,ok8,s8⟩,by simp only; omega⟩
 have hlt':(k:Int)<l.length:=by omega
 obtain ⟨q1,rfl⟩:=hk.ptr (by omega)
 have ek:=RdS.at1 (e1:=fun r=>.string (ofL r)) (hk.below s5.bel (by decide)) hlt
 have hbk:=hb _ (List.getElem_mem hlt)
 have hel:=keyB_len (l:=l.take k) fun x hx=>hb x (List.mem_of_mem_take hx)
 rw [List.length_take] at hel
 obtain ⟨B,hB⟩:∃ B,B=2::u8N l.length::(l.take k).flatMap keyB:=⟨_,rfl⟩
 have hBl:B.length≤512 * 256+2:=by rw [hB,List.length_cons,List.length_cons]; omega
 rw [← hB] at s5 ok5
 have en:2::u8N l.length::(l.take (k+1)).flatMap keyB=B++[u8N l[k].length]++l[k]:=by
  rw [List.take_succ_eq_append_getElem hlt,List.flatMap_append,hB]
  simp [keyB]
 simp (disch:=first|omega|exact zF rfl|exact zG rfl|exact fun h=>h|(simp only[zA,zB,zC,zD,bytesW];omega)) only[go_sem,c127S0,c127S1,c127L0,c127S5,c127L1,c127S11,c127S12,c127L0,hlt',ek,u8N_wrap]
 refine ⟨by omega,Ret.mono (writeB_ok (u8N l[k].length) s5 ok5 (by omega)) ?_⟩
 rintro _ w6 ⟨p6,v6,ok6,s6⟩
 have hl6:(B++[u8N l[k].length]).length=B.length+1:=by simp
 simp (disch:=first|omega|exact zF rfl|exact zG rfl|exact fun h=>h|(simp only[zA,zB,zC,zD,bytesW];omega)) only[go_sem,c127S0,c127S2,c127L0,c127S5,c127L1,c127S11,c127S12]
 refine Ret.mono (writeS_ok l[k] s6 ok6 (by omega)) ?_
 rintro _ w7 ⟨p7,v7,ok7,s7⟩
 have r7:=s7.rules 2 rfl
 simp (disch:=first|omega|exact zF rfl|exact zG rfl|exact fun h=>h|(simp only[zA,zB,zC,zD,bytesW];omega)) only[go_sem,c127S0,c127S1,c127S2,c127L0,c127S5,c127L1,c127S11,c127S12,r7]
 rw [← en] at s7 ok7
 exact ⟨⟨by omega,by omega⟩,(k+1,p7,v7),rfl,⟨hlt,ok7,s7⟩,by simp only; omega⟩
end
def ndB(nd:Nd):List UInt8:=if nd.leaf=true then leafB (nd.keys.zip nd.vals) else inB nd.keys nd.kids
def GoodP(P:List Txt):Prop:=∀ a,2≤a→∀ nd,parseP (P.getD a [])=some nd→(∀ k∈nd.keys,k.length≤32)∧(∀ v∈nd.vals,v.length≤80)
theorem entsP_in:∀ (l:List Txt) (rest:Txt) (ks vs:List Txt),(∀ x∈l,x.length≤255)→entsP false l.length (l.flatMap keyB++rest) ks vs=some (ks++l,vs,rest)
 | [],rest,ks,vs,_=>by simp [entsP]
 | x::l,rest,ks,vs,h=>by
  have h1:=h x List.mem_cons_self
  have ih:=entsP_in l rest (ks++[x]) vs fun y hy=>h y (List.mem_cons_of_mem _ hy)
  have e1:(x::l).flatMap keyB++rest=u8N x.length::(x++(l.flatMap keyB++rest)):=by simp [keyB]
  rw [e1,List.length_cons,entsP,textP_own h1]
  simp only [Bool.false_eq_true,if_false]
  rw [ih]
  simp
theorem map_zip{α β:Type}:∀ (a:List α) (b:List β),b.length=a.length→(a.zip b).map Prod.fst=a∧(a.zip b).map Prod.snd=b
 | [],[],_=>⟨rfl,rfl⟩
 | [],_::_,h=>by cases h
 | _::_,[],h=>by cases h
 | x::a,y::b,h=>by
  have ih:=map_zip a b (by simpa using h)
  rw [List.zip_cons_cons,List.map_cons,List.map_cons,ih.1,ih.2]
  exact ⟨rfl,rfl⟩
theorem ksum_ge(l:List Txt):l.length≤ksum l:=by
 induction l with
 | nil=>exact Nat.zero_le _
 | cons x l ih =>
  unfold ksum at ih ⊢
  rw [List.map_cons,List.sum_cons,List.length_cons]
  omega
theorem keyB_sum(l:List Txt):(l.flatMap keyB).length=ksum l:=by
 induction l with
 | nil=>rfl
 | cons x l ih =>
  rw [List.flatMap_cons,List.length_append,ih]
  unfold ksum
  rw [List.map_cons,List.sum_cons]
  simp only [keyB,List.length_cons]
  omega
theorem ndB_read{nd:Nd}(form:NdMade nd)(hs:(ndB nd).length≤256)(r:Txt){n2:Nd}(h:parseP (ndB nd++r)=some n2):n2.keys=nd.keys∧n2.vals=nd.vals:=by
 unfold ndB at hs h
 cases hlf:nd.leaf with
 | true =>
  rw [hlf,if_pos rfl] at hs h
  obtain ⟨hvl,_⟩:=form.lf hlf
  obtain ⟨e1,e2⟩:=map_zip nd.keys nd.vals hvl
  rw [leafB_len,e1,e2] at hs
  have hk:=ksum_ge nd.keys
  rw [parseP_own r (by rw [List.length_zip]; omega) (fun x hx=>?_)] at h
  ·simp only [Option.some.injEq] at h
   subst h
   exact ⟨e1,e2⟩
  ·have hx1:x.1∈nd.keys:=by rw [← e1]; exact List.mem_map_of_mem hx
   have hx2:x.2∈nd.vals:=by rw [← e2]; exact List.mem_map_of_mem hx
   exact ⟨Nat.le_trans (form.key _ hx1) (by decide),Nat.le_trans (form.val _ hx2) (by decide)⟩
 | false =>
  rw [hlf,if_neg (by decide)] at hs h
  obtain ⟨hvn,_⟩:=form.nl hlf
  have hk:=ksum_ge nd.keys
  have hl:nd.keys.length≤255:=by
   unfold inB at hs
   rw [List.length_cons,List.length_cons,List.length_append,keyB_sum] at hs
   omega
  have e1:inB nd.keys nd.kids++r=2::u8N nd.keys.length::(nd.keys.flatMap keyB++(nd.kids.flatMap kidB++r)):=by simp [inB]
  rw [e1,parseP,if_neg (by simp),u8N_nat hl] at h
  have e2:decide ((2:UInt8)=1)=false:=rfl
  rw [e2,entsP_in nd.keys _ [] [] (fun x hx=>Nat.le_trans (form.key _ hx) (by decide))] at h
  simp only [List.nil_append] at h
  rw [if_neg (by decide)] at h
  split at h
  ·cases h
  ·simp only [Option.some.injEq] at h
   subst h
   exact ⟨rfl,hvn.symm⟩
theorem good_set{P:List Txt}{nd:Nd}{a:Nat}(h:GoodP P)(form:NdMade nd)(hs:(ndB nd).length≤256):GoodP (P.set a (filledL (ndB nd))):=by
 intro b hb n2 hn
 rw [List.getD_eq_getElem?_getD,List.getElem?_set] at hn
 split at hn
 ·split at hn
  ·obtain ⟨r,er⟩:=filledL_app (ndB nd)
   rw [Option.getD_some,er] at hn
   obtain ⟨e1,e2⟩:=ndB_read form hs r hn
   rw [e1,e2]
   exact ⟨form.key,form.val⟩
  ·cases hn
 ·rw [← List.getD_eq_getElem?_getD] at hn
  exact h b hb n2 hn
theorem good_low{P:List Txt}{a:Nat}{l:Txt}(h:GoodP P)(ha:a<2):GoodP (P.set a l):=by
 intro b hb n2 hn
 rw [List.getD_eq_getElem?_getD,List.getElem?_set_ne (by omega),← List.getD_eq_getElem?_getD] at hn
 exact h b hb n2 hn
theorem good_empty{P:List Txt}{a:Nat}(h:GoodP P):GoodP (P.set a (filledL [])):=by
 intro b hb n2 hn
 rw [List.getD_eq_getElem?_getD,List.getElem?_set] at hn
 split at hn
 ·split at hn
  ·rw [Option.getD_some] at hn
   exfalso
   have e:filledL []=0::0::List.replicate 254 0:=by decide
   rw [e,parseP,if_pos ⟨by decide,by decide⟩] at hn
   cases hn
  ·cases hn
 ·rw [← List.getD_eq_getElem?_getD] at hn
  exact h b hb n2 hn
open Go Go.Ann Go.RowKit Go.WideShapes Go.Shelf
theorem NdAt.below{w w':World}{nd:Nd}{u:Value}(h:NdAt w nd u)(hb:Below w.heap.size w w'):NdAt w' nd u:=by
 obtain ⟨kv,vv,ca,cc,rfl,h1,h2,h3⟩:=h
 exact ⟨kv,vv,ca,cc,rfl,h1.below hb (by decide),h2.below hb (by decide),h3.below hb (by decide)⟩
theorem ksum_mul{l:List Txt}{m:Nat}(h:∀ x∈l,x.length≤m):ksum l≤(m+1) * l.length:=by
 induction l with
 | nil=>exact Nat.le_refl _
 | cons x l ih =>
  have h1:=h x List.mem_cons_self
  have h2:=ih fun y hy=>h y (List.mem_cons_of_mem _ hy)
  unfold ksum at h2 ⊢
  rw [List.map_cons,List.sum_cons,List.length_cons,Nat.mul_succ]
  omega
theorem low_lt{P:List Txt}{k:Nat}(h:lowP P=some k):2≤k∧k<P.length:=by
 unfold lowP at h
 rw [List.find?_range_eq_some] at h
 obtain ⟨h1,h2,_⟩:=h
 simp only [Bool.and_eq_true,decide_eq_true_eq] at h1
 exact ⟨h1.1,List.mem_range.1 h2⟩
theorem good_alloc{P:List Txt}(h:GoodP P):GoodP (allocN P).1:=by
 unfold allocN
 split
 ·rename_i k hk
  rw [show emptyP (markP P k true) k=(markP P k true).set k (filledL []) by unfold emptyP; rw [Int.toNat_natCast]]
  exact good_empty (good_low h (by decide))
 ·exact h
section
variable {W0 w:World} {F:Nat→Prop} {L:List Res} {I:List Inv} {e:En} {P:List (List UInt8)} {tb:Nat} {i:Int}
theorem gwrite_ok{nd:Nd}{u:Value}(w:World)(hn:NdAt w nd u)(form:NdMade nd) :
  Ret Tryz.prog 127 [u] w fun v w'=>v=.string (ofL (ndB nd))∧Below w.heap.size w w':=by
 obtain ⟨kv,vv,ca,cc,rfl,hk,hv,hc⟩:=hn
 unfold ndB
 cases hlf:nd.leaf with
 | true =>
  obtain ⟨hvl,hcn⟩:=form.lf hlf
  obtain ⟨e1,e2⟩:=map_zip nd.keys nd.vals hvl
  have hc0:nd.kids.length=0:=by rw [hcn]; rfl
  rw [if_pos rfl,hc0]
  refine writeLeaf_ok (l:=nd.keys.zip nd.vals) w (by rw [e1]; exact hk) (by rw [e2]; exact hv) (by rw [List.length_zip]; have:=form.few; omega) fun x hx=>?_
  have hx1:x.1∈nd.keys:=by rw [← e1]; exact List.mem_map_of_mem hx
  have hx2:x.2∈nd.vals:=by rw [← e2]; exact List.mem_map_of_mem hx
  exact ⟨Nat.le_trans (form.key _ hx1) (by decide),Nat.le_trans (form.val _ hx2) (by decide)⟩
 | false =>
  obtain ⟨hvn,hcl⟩:=form.nl hlf
  rw [if_neg (by decide)]
  obtain ⟨va,vc,rfl,_⟩:=hv.form
  have:=form.few
  exact writeIn_ok w hk ⟨_,_,_,rfl⟩ hc form.few (by omega) form.kid (fun x hx=>Nat.le_trans (form.key _ hx) (by decide))
theorem glay_ok{a:Nat}{nd:Nd}{u:Value}(h:Pgr e P W0 w F (trB tb e i::L) I)(h3:3≤P.length)(hmx:P.length≤e.mx)(ha:a≤4294967296)(hn:NdAt w nd u)(form:NdMade nd)(hg:GoodP P) :
  Ret Tryz.prog 65 [.pointer (some ⟨tb,0,none⟩),.int .i64 a,u] w fun v w'=>∃ er:Int,v=.int .i64 er∧∃ P',GoodP P'∧Pgr e P' W0 w' F (trB tb e i::L) I:=by
 obtain ⟨kv,vv,ca,cc,rfl,hk,hv,hc⟩:=hn
 obtain ⟨ka,kc,rfl,_⟩:=hk.form
 obtain ⟨va,vc,rfl,_⟩:=hv.form
 have hn:NdAt w nd (.agg #[.bool nd.leaf,.slice ka nd.keys.length kc,.slice va nd.vals.length vc,.slice ca nd.kids.length cc]):=⟨_,_,ca,cc,rfl,hk,hv,hc⟩
 clear hk hv hc
 have h2:=h.box #[.bool nd.leaf,.slice ka nd.keys.length kc,.slice va nd.vals.length vc,.slice ca nd.kids.length cc] 119
 have hn2:=hn.below ((Below.refl _ w).alloc (Nat.le_refl _) (.cells #[.bool nd.leaf,.slice ka nd.keys.length kc,.slice va nd.vals.length vc,.slice ca nd.kids.length cc] 119))
 refine ent65 _ _ _ _ _ ?_
 simp (disch:=first|omega|exact zF rfl|exact zG rfl|exact fun h=>h|(simp only[zA,zB,zC,zD,bytesW];omega)) only[go_sem]
 generalize w.heap.size=b at h2 ⊢
 generalize w.alloc (.cells #[.bool nd.leaf,.slice ka nd.keys.length kc,.slice va nd.vals.length vc,.slice ca nd.kids.length cc] 119)=w2 at h2 hn2 ⊢
 refine c65draw0 (Same (fun k=>k=tb) _) (Same.refl _ _) ?_
 have h3':=h2.drew
 have hn3:=hn2.below (Below.refl _ w2).drew
 generalize w2.drew=w3 at h3' hn3 ⊢
 have r0:=h3'.rules 0 rfl
 have r1:=h3'.rules 1 rfl
 simp (disch:=first|omega|exact zF rfl|exact zG rfl|exact fun h=>h|(simp only[zA,zB,zC,zD,bytesW];omega)) only[go_sem,c65D0,r0,r1]
 refine ⟨Same.refl _ _,Ret.mono (gwrite_ok w3 hn3 form) ?_⟩
 rintro _ w4 ⟨rfl,b4⟩
 have h4:=h3'.below b4
 simp (disch:=first|omega|exact zF rfl|exact zG rfl|exact fun h=>h|(simp only[zA,zB,zC,zD,bytesW];omega)) only[go_sem,c65D0]
 refine ⟨?_,Ret.mono (pset_ok (a:Nat) (ndB nd) h4 h3 ⟨by omega,by omega⟩ (fun hc=>by have:=(chk_in hc).2; omega)) ?_⟩
 ·rintro k rfl
  exact (h4.bk 1 rfl).trans (h3'.bk 1 rfl).symm
 rintro _ w5 ⟨rfl,h5⟩
 simp (disch:=first|omega|exact zF rfl|exact zG rfl|exact fun h=>h|(simp only[zA,zB,zC,zD,bytesW];omega)) only[go_sem]
 refine ⟨(setPN P (a:Nat) (ndB nd)).1,?_,h5.sub (List.sublist_cons_self ..)⟩
 unfold setPN
 split
 ·exact hg
 split
 ·exact hg
 ·rename_i hs
  rw [Int.toNat_natCast]
  exact good_set hg form (by omega)
def PutR(e:En)(W0:World)(F:Nat→Prop)(L:List Res)(I:List Inv)(u:Value)(w':World):Prop:=∃ (mid:Txt) (right:Nat) (er:Int) (P':List Txt),u=.tuple #[.string (ofL mid),.int .i64 right,.int .i64 er]∧mid.length≤32∧right≤65535∧GoodP P'∧Pgr e P' W0 w' F L I
theorem Pgr.rdI{α:Type}{sz:Nat}{enc:α→List Value}{v:Value}{xs:List α}(h:Pgr e P W0 w F L I)(i:Nat)(hi:I[i]?=some (Inv.rd sz enc v xs)):RdS w sz enc v xs:=by
 obtain ⟨A,st,back⟩:=h.lift
 exact st.rd i hi
theorem Pgr.noI{a:Inv}(h:Pgr e P W0 w F L (a::I)):Pgr e P W0 w F L I:=by
 obtain ⟨A,st,back⟩:=h.lift
 exact back _ L _ (st.inv_sub fun x hx=>List.mem_cons_of_mem _ hx)
theorem Pgr.seal{α:Type}{sz t n:Nat}{enc:α→List Value}{v:Value}{xs:List α}{ys:List Value}(h:Pgr e P W0 w F (.row v t sz n ys::L) I)(hr:RdS w sz enc v xs):Pgr e P W0 w F L (Inv.rd sz enc v xs::I):=by
 obtain ⟨A,st,back⟩:=h.lift
 exact back _ L _ (St.seal (r:=.row v t sz n ys) st _ hr fun k hk=>slFoot_own hk)
set_option maxHeartbeats 1000000 in
theorem gcut_ok{a:Nat}{nd:Nd}{kv vv:Value}{ca:Option Addr}{cc:Nat}(h:Pgr e P W0 w F (trB tb e i::L) (Inv.rd 1 strE kv nd.keys::Inv.rd 1 strE vv nd.vals::Inv.rd 1 natE (.slice ca nd.kids.length cc) nd.kids::I))(h3:3≤P.length)(hmx:P.length≤e.mx)(ha:a≤4294967296)(form:NdMade nd)(hg:GoodP P) :
  Ret Tryz.prog 129 [.pointer (some ⟨tb,0,none⟩),.int .i64 a,.agg #[.bool nd.leaf,kv,vv,.slice ca nd.kids.length cc]] w (PutR e W0 F (trB tb e i::L) (Inv.rd 1 strE kv nd.keys::Inv.rd 1 strE vv nd.vals::Inv.rd 1 natE (.slice ca nd.kids.length cc) nd.kids::I)):=by
 have hk:=h.rdI 0 rfl
 have hv:=h.rdI 1 rfl
 have hc:=h.rdI 2 rfl
 obtain ⟨ka,kc,rfl,_⟩:=hk.form
 obtain ⟨va,vc,rfl,_⟩:=hv.form
 obtain ⟨IN,hIN⟩:∃ IN,IN=(Inv.rd 1 strE (.slice ka nd.keys.length kc) nd.keys::Inv.rd 1 strE (.slice va nd.vals.length vc) nd.vals::Inv.rd 1 natE (.slice ca nd.kids.length cc) nd.kids::I):=⟨_,rfl⟩
 rw [← hIN] at h ⊢
 have node:∀ {P':List Txt} {L':List Res} {w':World},Pgr e P' W0 w' F L' IN→NdAt w' nd (.agg #[.bool nd.leaf,.slice ka nd.keys.length kc,.slice va nd.vals.length vc,.slice ca nd.kids.length cc]):=fun h'=>by
  subst hIN
  exact ⟨_,_,ca,cc,rfl,h'.rdI 0 rfl,h'.rdI 1 rfl,h'.rdI 2 rfl⟩
 have h2:=h.box #[.bool nd.leaf,.slice ka nd.keys.length kc,.slice va nd.vals.length vc,.slice ca nd.kids.length cc] 119
 clear hk hv hc
 refine ent129 _ _ _ _ _ ?_
 simp (disch:=first|omega|exact zF rfl|exact zG rfl|exact fun h=>h|(simp only[zA,zB,zC,zD,bytesW];omega)) only[go_sem,c129S4,c129S5,c129S6,c129S7]
 generalize w.heap.size=b at h2 ⊢
 generalize w.alloc (.cells #[.bool nd.leaf,.slice ka nd.keys.length kc,.slice va nd.vals.length vc,.slice ca nd.kids.length cc] 119)=w2 at h2 ⊢
 obtain ⟨hk2,hv2,_⟩:=(node h2).parts
 have hfew:=form.few
 have hvf:nd.vals.length≤256:=by
  cases hlf:nd.leaf with
  | true=>rw [(form.lf hlf).1]; exact hfew
  | false=>rw [(form.nl hlf).1]; exact Nat.zero_le _
 have hcf:nd.kids.length≤257:=by
  cases hlf:nd.leaf with
  | true=>rw [(form.lf hlf).2]; exact Nat.zero_le _
  | false=>rw [(form.nl hlf).2]; omega
 refine Ret.mono (gsize_ok (lf:=nd.leaf) (nc:=nd.kids.length) (ca:=ca) (cc:=cc) w2 hk2 hv2 (by omega) (by omega) (by omega) (fun x hx=>Nat.le_trans (form.key _ hx) (by decide)) (fun x hx=>Nat.le_trans (form.val _ hx) (by decide))) ?_
 rintro _ w3 ⟨rfl,b3⟩
 have h3':=h2.below b3
 have hn3:=node h3'
 obtain ⟨z,hz⟩:∃ z:Nat,z=2+2 * nd.kids.length+ksum nd.keys+ksum nd.vals:=⟨_,rfl⟩
 rw [← hz]
 have r0:=h3'.rules 0 rfl
 by_cases hle:(z:Int)≤256
 ·simp (disch:=first|omega|exact zF rfl|exact zG rfl|exact fun h=>h|(simp only[zA,zB,zC,zD,bytesW];omega)) only[go_sem,c129S4,c129S5,c129S6,c129S7,hle,r0]
  refine Ret.mono (glay_ok (h3'.sub (List.sublist_cons_self ..)) h3 hmx ha hn3 form hg) ?_
  rintro _ w4 ⟨er,rfl,P',g4,h4⟩
  simp (disch:=first|omega|exact zF rfl|exact zG rfl|exact fun h=>h|(simp only[zA,zB,zC,zD,bytesW];omega)) only[go_sem,c129S4,c129S5,c129S6,c129S7]
  exact ⟨[],0,er,P',rfl,by decide,by decide,g4,h4⟩
 ·have h2k:2≤nd.keys.length:=by
   have hk1:=ksum_mul form.key
   have hv1:=ksum_mul form.val
   cases hlf:nd.leaf with
   | true =>
    obtain ⟨e1,e2⟩:=form.lf hlf
    rw [e2,List.length_nil] at hz
    rw [e1] at hv1
    omega
   | false =>
    obtain ⟨e1,e2⟩:=form.nl hlf
    rw [e1] at hv1 hz
    have:ksum ([]:List Txt)=0:=rfl
    omega
  simp (disch:=first|omega|exact zF rfl|exact zG rfl|exact fun h=>h|(simp only[zA,zB,zC,zD,bytesW];omega)) only[go_sem,c129S4,c129S5,c129S6,c129S8,hle,r0]
  refine Ret.mono (half_ok hn3 form h2k) ?_
  rintro _ w4 ⟨⟨na,nb,mid,ua,ub,rfl,hab,fa,fb,hmid⟩,b4⟩
  have h4:=h3'.below b4
  obtain ⟨⟨k1,v1,a1,c1,rfl,x1,x2,_⟩,⟨k2,v2,a2,c2,rfl,y1,y2,_⟩⟩:=hab w4 (node h4)
  obtain ⟨k1a,k1c,rfl,_⟩:=x1.form
  obtain ⟨v1a,v1c,rfl,_⟩:=x2.form
  obtain ⟨k2a,k2c,rfl,_⟩:=y1.form
  obtain ⟨v2a,v2c,rfl,_⟩:=y2.form
  clear x1 x2 y1 y2
  simp (disch:=first|omega|exact zF rfl|exact zG rfl|exact fun h=>h|(simp only[zA,zB,zC,zD,bytesW];omega)) only[go_sem,c129S4,c129S5,c129S6,c129S8]
  have h6:Pgr e P W0 ((((w4.alloc (.cells ndZ 119)).alloc (.cells ndZ 119)).fill w4.heap.size #[.bool na.leaf,.slice k1a na.keys.length k1c,.slice v1a na.vals.length v1c,.slice a1 na.kids.length c1]).fill (w4.heap.size+1) #[.bool nb.leaf,.slice k2a nb.keys.length k2c,.slice v2a nb.vals.length v2c,.slice a2 nb.kids.length c2]) F (.blk (w4.heap.size+1) #[.bool nb.leaf,.slice k2a nb.keys.length k2c,.slice v2a nb.vals.length v2c,.slice a2 nb.kids.length c2] 119::.blk w4.heap.size #[.bool na.leaf,.slice k1a na.keys.length k1c,.slice v1a na.vals.length v1c,.slice a1 na.kids.length c1] 119::trB tb e i::L) IN:=by
   have h5:=(h4.box ndZ 119).box ndZ 119
   rw [World.size_alloc] at h5
   obtain ⟨A,st,back⟩:=h5.lift
   have s6:=(st.fill 1 (cs:=#[.bool na.leaf,.slice k1a na.keys.length k1c,.slice v1a na.vals.length v1c,.slice a1 na.kids.length c1]) rfl rfl).fill 0 (cs:=#[.bool nb.leaf,.slice k2a nb.keys.length k2c,.slice v2a nb.vals.length v2c,.slice a2 nb.kids.length c2]) rfl rfl
   have q6:=back _ (.blk (w4.heap.size+1) #[.bool nb.leaf,.slice k2a nb.keys.length k2c,.slice v2a nb.vals.length v2c,.slice a2 nb.kids.length c2] 119::.blk w4.heap.size #[.bool na.leaf,.slice k1a na.keys.length k1c,.slice v1a na.vals.length v1c,.slice a1 na.kids.length c1] 119::.blk b #[.bool nd.leaf,.slice ka nd.keys.length kc,.slice va nd.vals.length vc,.slice ca nd.kids.length cc] 119::trB tb e i::L) _ s6
   exact q6.sub (.cons_cons _ (.cons_cons _ (.cons _ (List.Sublist.refl _))))
  generalize w4.heap.size=b9 at h6 ⊢
  generalize ((((w4.alloc (.cells ndZ 119)).alloc (.cells ndZ 119)).fill b9 #[.bool na.leaf,.slice k1a na.keys.length k1c,.slice v1a na.vals.length v1c,.slice a1 na.kids.length c1]).fill (b9+1) #[.bool nb.leaf,.slice k2a nb.keys.length k2c,.slice v2a nb.vals.length v2c,.slice a2 nb.kids.length c2])=w6 at h6 ⊢
  have r0:=h6.rules 2 rfl
  simp (disch:=first|omega|exact zF rfl|exact zG rfl|exact fun h=>h|(simp only[zA,zB,zC,zD,bytesW];omega)) only[go_sem,c129S4,c129S5,c129S7,c129S8,r0]
  refine Ret.mono (palloc_ok h6 h3 (fun k hk=>by have:=(low_lt hk).2; omega)) ?_
  have hga:=good_alloc hg
  have hal:(∃ k:Nat,(allocN P).2=((k:Int),0)∧k≤65535)∨(allocN P).2=(0,13):=by
   have hlen:=h.len.2
   unfold allocN
   split
   ·rename_i k hk
    exact .inl ⟨k,rfl,by have:=(low_lt hk).2; omega⟩
   ·exact .inr rfl
  rintro _ w7 ⟨rfl,h7⟩
  rcases hal with ⟨k,ek,hk5⟩ | ek
  ·rw [ek]
   have hl7:(allocN P).1.length=P.length:=h7.len.1.trans h6.len.1.symm
   generalize (allocN P).1=P7 at h7 hga hl7
   have r1:=h7.rules 1 rfl
   simp (disch:=first|omega|exact zF rfl|exact zG rfl|exact fun h=>h|(simp only[zA,zB,zC,zD,bytesW];omega)) only[go_sem,c129S5,c129S6,c129S7,c129S8,r1]
   have nab:=hab w7 (node h7)
   refine Ret.mono (glay_ok (nd:=na) (h7.perm (List.perm_middle (l₁:=[_,_]))) (by omega) (by omega) ha nab.1 fa hga) ?_
   rintro _ w8 ⟨er,rfl,P8,g8,h8⟩
   have hl8:P8.length=P7.length:=h8.len.1.trans h7.len.1.symm
   by_cases her:er=0
   ·subst her
    have r1:=h8.rules 1 rfl
    simp (disch:=first|omega|exact zF rfl|exact zG rfl|exact fun h=>h|(simp only[zA,zB,zC,zD,bytesW];omega)) only[go_sem,c129S4,c129S5,c129S6,c129S7,c129S8,r1]
    have nab:=hab w8 (node h8)
    refine Ret.mono (glay_ok (a:=k) (nd:=nb) h8 (by omega) (by omega) (by omega) nab.2 fb g8) ?_
    rintro _ w9 ⟨er,rfl,P9,g9,h9⟩
    simp (disch:=first|omega|exact zF rfl|exact zG rfl|exact fun h=>h|(simp only[zA,zB,zC,zD,bytesW];omega)) only[go_sem,c129S4,c129S5,c129S6,c129S7,c129S8]
    exact ⟨mid,k,er,P9,rfl,hmid,hk5,g9,h9.sub (.cons_cons _ (.cons _ (.cons _ (List.Sublist.refl _))))⟩
   ·simp (disch:=first|omega|exact zF rfl|exact zG rfl|exact fun h=>h|(simp only[zA,zB,zC,zD,bytesW];omega)) only[go_sem,c129S4,c129S5,c129S6,c129S7,c129S8,her]
    exact ⟨[],0,er,P8,rfl,by decide,by decide,g8,h8.sub (.cons_cons _ (.cons _ (.cons _ (List.Sublist.refl _))))⟩
  ·rw [ek]
   simp (disch:=first|omega|exact zF rfl|exact zG rfl|exact fun h=>h|(simp only[zA,zB,zC,zD,bytesW];omega)) only[go_sem,c129S4,c129S6,c129S7,c129S8]
   exact ⟨[],0,13,_,rfl,by decide,by decide,hga,h7.sub (.cons _ (.cons _ (List.Sublist.refl _)))⟩
end
open Go Go.Ann Go.RowKit Go.WideShapes Go.Shelf
section
variable {W0 w:World} {F:Nat→Prop} {L:List Res} {I:List Inv} {e:En} {P:List (List UInt8)} {tb:Nat} {i:Int}
theorem ndP_good{P:List Txt}{a:Nat}{nd:Nd}(h:ndP P a=some nd)(hg:GoodP P):NdMade nd:=by
 obtain ⟨f,hc⟩:=ndP_form h
 have h2:=(chk_in hc).1
 unfold ndP at h
 rw [if_pos hc] at h
 obtain ⟨h3,h4⟩:=hg a (by omega) nd h
 exact ⟨f.lf,f.nl,Nat.le_succ_of_le f.few,h3,h4,fun c hc=>Nat.le_trans (f.kid c hc) (by decide)⟩
theorem groom_ok{a:Nat}(h:Pgr e P W0 w F (trB tb e i::L) I)(h3:3≤P.length)(ha:a≤4294967296) :
  Ret Tryz.prog 67 [.pointer (some ⟨tb,0,none⟩),.int .i64 a] w fun u w'=>(∃ er:Int,u=.int .i64 er)∧Pgr e P W0 w' F (trB tb e i::L) I:=by
 refine ent67 _ _ _ _ ?_
 simp (disch:=first|omega|exact zF rfl|exact zG rfl|exact fun h=>h|(simp only[zA,zB,zC,zD,bytesW];omega)) only[go_sem,c67S2]
 have tail:∀ (dp:Nat) (w3:World),dp≤40→Pgr e P W0 w3 F (trB tb e i::L) I→W Tryz.prog (c67S7 ()) [(0,.pointer (some ⟨tb,0,none⟩)),(5,.int .i64 dp)] w3 (finQ Tryz.prog [.tmp 4] fun u w'=>(∃ er:Int,u=.int .i64 er)∧Pgr e P W0 w' F (trB tb e i::L) I):=by
  intro dp w3 hdp h3'
  have r0:=h3'.rules 0 rfl
  simp (disch:=first|omega|exact zF rfl|exact zG rfl|exact fun h=>h|(simp only[zA,zB,zC,zD,bytesW];omega)) only[go_sem,c67S2,c67L0,c67S7,r0]
  refine Ret.mono (proom_ok h3' h3) ?_
  rintro _ w5 ⟨rfl,h5⟩
  have hl:=h5.len.2
  have hr:roomN P≤P.length:=Nat.sub_le _ _
  by_cases hlt:(roomN P:Int)<(dp:Int)+1
  ·simp (disch:=first|omega|exact zF rfl|exact zG rfl|exact fun h=>h|(simp only[zA,zB,zC,zD,bytesW];omega)) only[go_sem,c67S2,c67L0,c67S7,hlt]
   exact ⟨⟨by omega,by omega⟩,h5⟩
  ·simp (disch:=first|omega|exact zF rfl|exact zG rfl|exact fun h=>h|(simp only[zA,zB,zC,zD,bytesW];omega)) only[go_sem,c67S2,c67L0,c67S7,hlt]
   exact ⟨⟨by omega,by omega⟩,h5⟩
 refine W_loopU (fun q:Nat × Nat × Nat=>[(1,.int .i64 q.2.1),(5,.int .i64 q.2.2),(8,.int .i64 q.1)]) (fun q w'=>q.1≤32∧q.2.1≤4294967296∧q.2.2≤q.1+1∧Pgr e P W0 w' F (trB tb e i::L) I) (fun q=>32 - q.1) (0,a,1) rfl ⟨Nat.zero_le _,ha,Nat.le_refl _,h⟩ ?_
 clear h ha
 rintro ⟨k,a,dp⟩ w2 ⟨hk,ha,hdp,h2⟩
 simp only at hk ha hdp
 by_cases hlt:(k:Int)<32
 case neg =>
  simp (disch:=first|omega|exact zF rfl|exact zG rfl|exact fun h=>h|(simp only[zA,zB,zC,zD,bytesW];omega)) only[go_sem,c67S2,c67L0,c67L0,hlt]
  exact tail dp w2 (by omega) h2
 simp (disch:=first|omega|exact zF rfl|exact zG rfl|exact fun h=>h|(simp only[zA,zB,zC,zD,bytesW];omega)) only[go_sem,c67L0,c67L0,hlt]
 refine Ret.mono (gload_ok h2 h3 ha) ?_
 cases hnd:ndP P a with
 | none =>
  rintro _ w3 ⟨er,her,rfl,h3'⟩
  simp (disch:=first|omega|exact zF rfl|exact zG rfl|exact fun h=>h|(simp only[zA,zB,zC,zD,bytesW];omega)) only[go_sem,c67S2,c67L0,her]
  exact (h3'.box _ _).sub (List.sublist_cons_self ..)
 | some nd =>
 rintro _ w3 ⟨kv,vv,cv,rfl,h3'⟩
 have form:=(ndP_form hnd).1
 obtain ⟨ka,kc,rfl,_⟩:=own_slice (h3'.row 0 rfl)
 obtain ⟨va,vc,rfl,_⟩:=own_slice (h3'.row 1 rfl)
 obtain ⟨ca,cc,rfl,_⟩:=own_slice (h3'.row 2 rfl)
 simp (disch:=first|omega|exact zF rfl|exact zG rfl|exact fun h=>h|(simp only[zA,zB,zC,zD,bytesW];omega)) only[go_sem,c67L0]
 have h4:=h3'.box #[.bool nd.leaf,.slice ka nd.keys.length kc,.slice va nd.vals.length vc,.slice ca nd.kids.length cc] 119
 generalize w3.heap.size=nb at h4 ⊢
 generalize w3.alloc (.cells #[.bool nd.leaf,.slice ka nd.keys.length kc,.slice va nd.vals.length vc,.slice ca nd.kids.length cc] 119)=w4 at h4 ⊢
 have rn:=h4.rules 0 rfl
 have hdrop:=h4.sub (L':=trB tb e i::L) (.cons _ (.cons _ (.cons _ (.cons _ (List.Sublist.refl _)))))
 cases hlf:nd.leaf with
 | true =>
  rw [hlf] at rn
  simp (disch:=first|omega|exact zF rfl|exact zG rfl|exact fun h=>h|(simp only[zA,zB,zC,zD,bytesW];omega)) only[go_sem,c67S2,c67L0,rn]
  exact tail dp w4 (by omega) hdrop
 | false =>
  rw [hlf] at rn
  obtain ⟨_,hcl⟩:=form.nl hlf
  have hrc:RdS w4 1 natE (.slice ca nd.kids.length cc) nd.kids:=RdS.of_own' (h4.row 3 rfl) nd.kids rfl rfl
  obtain ⟨p1,rfl⟩:=hrc.ptr (by omega)
  have ec:=RdS.at1 (e1:=fun r:Nat=>.int .i64 r) hrc (k:=0) (by omega)
  have e1:p1.add 0=p1:=by simp [Addr.add]
  rw [e1] at ec
  have hkb:=form.kid _ (List.getElem_mem (show 0<nd.kids.length by omega))
  simp (disch:=first|omega|exact zF rfl|exact zG rfl|exact fun h=>h|(simp only[zA,zB,zC,zD,bytesW];omega)) only[go_sem,c67S2,c67L0,rn,ec]
  exact ⟨by omega,⟨by omega,by omega⟩,⟨by omega,by omega⟩,(k+1,nd.kids[0],dp+1),rfl,⟨by simp only; omega,by simp only; omega,by simp only; omega,hdrop⟩,by simp only; omega⟩
theorem pinS_ok{ks:List Txt}{rv:Value}{x:Txt}{vb j:Nat}(h:Pgr e P W0 w F (.row rv 9 1 ks.length (ks.flatMap strE)::.blk vb #[.string (ofL x)] 9::L) I)(hl:ks.length≤1000000)(hj:j≤ks.length) :
  Ret Tryz.prog 128 [rv,.int .i64 j,.slice (some ⟨vb,0,none⟩) 1 1] w fun u w'=>Pgr e P W0 w' F (.row u 9 1 (ks.length+1) ((ks.take j++x::ks.drop j).flatMap strE)::.blk vb #[.string (ofL x)] 9::L) I:=by
 obtain ⟨A,st,back⟩:=h.lift
 refine Ret.mono (insS_ok (L:=L++A) st hl hj) ?_
 intro u w' s'
 exact back _ (_::_::L) _ s'
theorem pinN_ok{ks:List Nat}{rv:Value}{x vb j:Nat}(h:Pgr e P W0 w F (.row rv 3 1 ks.length (ks.flatMap natE)::.blk vb #[.int .i64 (x:Nat)] 3::L) I)(hl:ks.length≤1000000)(hj:j≤ks.length) :
  Ret Tryz.prog 130 [rv,.int .i64 j,.slice (some ⟨vb,0,none⟩) 1 1] w fun u w'=>Pgr e P W0 w' F (.row u 3 1 (ks.length+1) ((ks.take j++x::ks.drop j).flatMap natE)::.blk vb #[.int .i64 (x:Nat)] 3::L) I:=by
 obtain ⟨A,st,back⟩:=h.lift
 refine Ret.mono (insN_ok (L:=L++A) st hl hj) ?_
 intro u w' s'
 exact back _ (_::_::L) _ s'
theorem PutR.noI{a:Inv}{u:Value}{w':World}(h:PutR e W0 F L (a::I) u w'):PutR e W0 F L I u w':=by
 obtain ⟨mid,right,er,P',h1,h2,h3,h4,h5⟩:=h
 exact ⟨mid,right,er,P',h1,h2,h3,h4,h5.noI⟩
theorem gcutL_ok{a:Nat}{nd:Nd}{kv vv:Value}{ca:Option Addr}{cc:Nat}(h:Pgr e P W0 w F (.row kv 9 1 nd.keys.length (nd.keys.flatMap strE)::.row vv 9 1 nd.vals.length (nd.vals.flatMap strE)::.row (.slice ca nd.kids.length cc) 3 1 nd.kids.length (nd.kids.flatMap natE)::trB tb e i::L) I)(h3:3≤P.length)(hmx:P.length≤e.mx)(ha:a≤4294967296)(form:NdMade nd)(hg:GoodP P) :
  Ret Tryz.prog 129 [.pointer (some ⟨tb,0,none⟩),.int .i64 a,.agg #[.bool nd.leaf,kv,vv,.slice ca nd.kids.length cc]] w (PutR e W0 F (trB tb e i::L) I):=by
 have h1:=h.perm (L':=.row (.slice ca nd.kids.length cc) 3 1 nd.kids.length (nd.kids.flatMap natE)::.row vv 9 1 nd.vals.length (nd.vals.flatMap strE)::.row kv 9 1 nd.keys.length (nd.keys.flatMap strE)::trB tb e i::L) ((List.reverse_perm [Res.row kv 9 1 nd.keys.length (nd.keys.flatMap strE),.row vv 9 1 nd.vals.length (nd.vals.flatMap strE),.row (.slice ca nd.kids.length cc) 3 1 nd.kids.length (nd.kids.flatMap natE)]).symm.append_right _)
 have h2:=h1.seal (xs:=nd.kids) (RdS.of_own' (h1.row 0 rfl) nd.kids rfl rfl)
 have h3':=h2.seal (xs:=nd.vals) (RdS.of_own' (h2.row 0 rfl) nd.vals rfl rfl)
 have h4:=h3'.seal (xs:=nd.keys) (RdS.of_own' (h3'.row 0 rfl) nd.keys rfl rfl)
 exact Ret.mono (gcut_ok h4 h3 hmx ha form hg) fun u w' hp=>hp.noI.noI.noI
set_option maxHeartbeats 1000000 in
theorem gput_ok(key val:Txt)(hkv:key.length≤32∧val.length≤80):∀ (d a:Nat) (P:List Txt) (L:List Res) (w:World),d≤32→a≤4294967296→3≤P.length→P.length≤e.mx→GoodP P→Pgr e P W0 w F (trB tb e i::L) I →
  Ret Tryz.prog 68 [.pointer (some ⟨tb,0,none⟩),.int .i64 a,.int .i64 d,.string (ofL key),.string (ofL val)] w (PutR e W0 F (trB tb e i::L) I):=by
 intro d
 induction d with
 | zero =>
  intro a P L w hd ha h3 hmx hg h
  refine ent68 _ _ _ _ _ _ _ ?_
  simp (disch:=first|omega|exact zF rfl|exact zG rfl|exact fun h=>h|(simp only[zA,zB,zC,zD,bytesW];omega)) only[go_sem,c68S0,c68S2,c68S3,c68S5,c68S6,c68S8,c68S10,c68S11]
  refine Ret.mono (gload_ok h h3 ha) ?_
  cases hnd:ndP P a with
  | none =>
   rintro _ w3 ⟨er,her,rfl,h3'⟩
   simp (disch:=first|omega|exact zF rfl|exact zG rfl|exact fun h=>h|(simp only[zA,zB,zC,zD,bytesW];omega)) only[go_sem,c68S0,c68S2,c68S3,c68S5,c68S6,c68S8,c68S10,c68S11,c68S13,her]
   exact ⟨[],0,er,P,rfl,by decide,by decide,hg,(h3'.box _ _).sub (List.sublist_cons_self ..)⟩
  | some nd =>
   rintro _ w3 ⟨kv,vv,cv,rfl,h3'⟩
   obtain ⟨ka,kc,rfl,_⟩:=own_slice (h3'.row 0 rfl)
   obtain ⟨va,vc,rfl,_⟩:=own_slice (h3'.row 1 rfl)
   obtain ⟨ca,cc,rfl,_⟩:=own_slice (h3'.row 2 rfl)
   simp (disch:=first|omega|exact zF rfl|exact zG rfl|exact fun h=>h|(simp only[zA,zB,zC,zD,bytesW];omega)) only[go_sem,c68S0,c68S2,c68S3,c68S5,c68S6,c68S8,c68S10,c68S11,c68S13]
   exact ⟨[],0,14,P,rfl,by decide,by decide,hg,(h3'.box _ _).sub (L':=trB tb e i::L) (.cons _ (.cons _ (.cons _ (.cons _ (List.Sublist.refl _)))))⟩
 | succ d ih =>
 intro a P L w hd ha h3 hmx hgd h
 refine ent68 _ _ _ _ _ _ _ ?_
 simp (disch:=first|omega|exact zF rfl|exact zG rfl|exact fun h=>h|(simp only[zA,zB,zC,zD,bytesW];omega)) only[go_sem,c68S0,c68S2,c68S3,c68S5,c68S6,c68S8,c68S10,c68S11]
 refine Ret.mono (gload_ok h h3 ha) ?_
 cases hnd:ndP P a with
 | none =>
  rintro _ w3 ⟨er,her,rfl,h3'⟩
  simp (disch:=first|omega|exact zF rfl|exact zG rfl|exact fun h=>h|(simp only[zA,zB,zC,zD,bytesW];omega)) only[go_sem,c68S0,c68S2,c68S3,c68S5,c68S6,c68S8,c68S10,c68S11,c68S13,her]
  exact ⟨[],0,er,P,rfl,by decide,by decide,hgd,(h3'.box _ _).sub (List.sublist_cons_self ..)⟩
 | some nd =>
 have made:=ndP_good hnd hgd
 have form:=(ndP_form hnd).1
 have hkl:=form.few
 rintro _ w3 ⟨kv,vv,cv,rfl,h3'⟩
 obtain ⟨ka,kc,rfl,_⟩:=own_slice (h3'.row 0 rfl)
 obtain ⟨va,vc,rfl,_⟩:=own_slice (h3'.row 1 rfl)
 obtain ⟨ca,cc,rfl,_⟩:=own_slice (h3'.row 2 rfl)
 simp (disch:=first|omega|exact zF rfl|exact zG rfl|exact fun h=>h|(simp only[zA,zB,zC,zD,bytesW];omega)) only[go_sem,c68S0,c68S2,c68S3,c68S5,c68S6,c68S8,c68S10,c68S13]
 have h4:=h3'.box #[.bool nd.leaf,.slice ka nd.keys.length kc,.slice va nd.vals.length vc,.slice ca nd.kids.length cc] 119
 generalize w3.heap.size=b at h4 ⊢
 generalize w3.alloc (.cells #[.bool nd.leaf,.slice ka nd.keys.length kc,.slice va nd.vals.length vc,.slice ca nd.kids.length cc] 119)=w4 at h4 ⊢
 have hd1:¬ ((d:Int)+1=0):=by omega
 cases hlf:nd.leaf with
 | true =>
  rw [hlf] at h4
  have r0:=h4.rules 0 rfl
  simp (disch:=first|omega|exact zF rfl|exact zG rfl|exact fun h=>h|(simp only[zA,zB,zC,zD,bytesW];omega)) only[go_sem,c68S0,c68S2,c68S5,c68S6,c68S8,c68S11,c68S13,r0,hd1]
  obtain ⟨hvl,hcn⟩:=form.lf hlf
  have hrk:RdS w4 1 strE (.slice ka nd.keys.length kc) nd.keys:=RdS.of_own' (h4.row 1 rfl) nd.keys rfl rfl
  refine Ret.mono (gbsearch_ok key w4 hrk (by omega)) ?_
  rintro _ w5 ⟨rfl,b5⟩
  have h5:=h4.below b5
  have hjl:=(bsP_spec nd.keys key).1
  generalize bsP nd.keys key=j at hjl ⊢
  have r0:=h5.rules 0 rfl
  by_cases hf:nd.keys[j]?=some key
  ·have hjk:=(List.getElem?_eq_some_iff.1 hf).1
   rw [decide_eq_true hf]
   rcases (h5.row 2 rfl).2 with ⟨hv',h0⟩ | ⟨g,cap',cur,hv',_,hg,_⟩
   ·simp only [Value.slice.injEq] at hv'
    omega
   simp only [Value.slice.injEq,true_and] at hv'
   obtain ⟨rfl,rfl⟩:=hv'
   have hjv:(j:Int)<nd.vals.length:=by omega
   have hrv:RdS w5 1 strE (.slice (some ⟨g,0,none⟩) nd.vals.length vc) nd.vals:=RdS.of_own' (h5.row 2 rfl) nd.vals rfl rfl
   have ev:=RdS.at1 (e1:=fun r=>.string (ofL r)) hrv (k:=j) (by omega)
   simp (disch:=first|omega|exact zF rfl|exact zG rfl|exact fun h=>h|(simp only[zA,zB,zC,zD,bytesW];omega)) only[go_sem,c68S0,c68S3,c68S5,c68S6,c68S8,c68S11,c68S13,r0,hjv,ev]
   have hg:Blk w5 g cur 9:=hg
   refine ⟨by omega,⟨_,(by have:=ev; rw [Addr.add_lit,Nat.zero_add] at this; exact this)⟩,hg.frozen j,?_⟩
   obtain ⟨vl,hvle⟩:∃ vl,vl=nd.vals.set j val:=⟨_,rfl⟩
   have hvll:vl.length=nd.vals.length:=by rw [hvle,List.length_set]
   have q6:Pgr e P W0 (w5.setCell ⟨g,j,none⟩ (.string (ofL val))) F (.blk b #[.bool true,.slice ka nd.keys.length kc,.slice (some ⟨g,0,none⟩) nd.vals.length vc,.slice ca nd.kids.length cc] 119::.row (.slice ka nd.keys.length kc) 9 1 nd.keys.length (nd.keys.flatMap strE)::.row (.slice (some ⟨g,0,none⟩) nd.vals.length vc) 9 1 nd.vals.length (vl.flatMap strE)::.row (.slice ca nd.kids.length cc) 3 1 nd.kids.length (nd.kids.flatMap natE)::trB tb e i::L) I:=by
    obtain ⟨A,st,back⟩:=h5.lift
    rw [hvle,strs_set]
    exact back _ (_::_::_::_::trB tb e i::L) _ (st.put 2 rfl j (.string (ofL val)))
   generalize w5.setCell ⟨g,j,none⟩ (.string (ofL val))=w6 at q6 ⊢
   have r0:=q6.rules 0 rfl
   simp (disch:=first|omega|exact zF rfl|exact zG rfl|exact fun h=>h|(simp only[zA,zB,zC,zD,bytesW];omega)) only[go_sem,c68S0,c68S2,c68S3,c68S5,c68S6,c68S8,c68S11,c68S13,r0]
   rw [← hvll] at q6 ⊢
   have made':NdMade ⟨true,nd.keys,vl,nd.kids⟩:=by
    refine ⟨fun _=>⟨by simp only; omega,hcn⟩,(fun h=>by cases h),made.few,made.key,fun v hv=>?_,made.kid⟩
    simp only [hvle] at hv
    rcases List.mem_or_eq_of_mem_set hv with hv | rfl
    ·exact made.val v hv
    ·exact hkv.2
   refine Ret.mono (gcutL_ok (nd:=⟨true,nd.keys,vl,nd.kids⟩) (q6.sub (List.sublist_cons_self ..)) h3 hmx ha made' hgd) ?_
   rintro _ w7 ⟨mid,right,er,P7,rfl,g1,g2,g3,h7⟩
   simp (disch:=first|omega|exact zF rfl|exact zG rfl|exact fun h=>h|(simp only[zA,zB,zC,zD,bytesW];omega)) only[go_sem,c68S0,c68S2,c68S3,c68S5,c68S6,c68S8,c68S11,c68S13]
   exact ⟨mid,right,er,P7,rfl,g1,g2,g3,h7⟩
  ·rw [decide_eq_false hf]
   simp (disch:=first|omega|exact zF rfl|exact zG rfl|exact fun h=>h|(simp only[zA,zB,zC,zD,bytesW];omega)) only[go_sem,c68S3,c68S5,c68S6,c68S8,c68S11,c68S13,r0]
   refine bsW_ones ty22mkI rfl rfl (by decide) (by decide) (str_one' key) ?_
   simp (disch:=first|omega|exact zF rfl|exact zG rfl|exact fun h=>h|(simp only[zA,zB,zC,zD,bytesW];omega)) only[go_sem,c68S3,c68S5,c68S6,c68S8,c68S11,c68S13]
   have q6:=(h5.box #[.string (ofL key)] 9).perm (List.perm_middle (l₁:=[_,_]))
   generalize w5.heap.size=kb at q6 ⊢
   generalize w5.alloc (.cells #[.string (ofL key)] 9)=w6 at q6 ⊢
   refine Ret.mono (pinS_ok q6 (by omega) hjl) ?_
   rintro u w7 q7
   obtain ⟨ks,hks⟩:∃ ks,ks=nd.keys.take j++key::nd.keys.drop j:=⟨_,rfl⟩
   have hksl:nd.keys.length+1=ks.length:=by rw [hks,List.length_append,List.length_cons,List.length_take,List.length_drop]; omega
   rw [← hks,hksl] at q7
   obtain ⟨ua,uc,rfl,_⟩:=own_slice (q7.row 0 rfl)
   have r0:=q7.rules 2 rfl
   simp (disch:=first|omega|exact zF rfl|exact zG rfl|exact fun h=>h|(simp only[zA,zB,zC,zD,bytesW];omega)) only[go_sem,c68S3,c68S5,c68S6,c68S8,c68S11,c68S13,r0]
   have q8:=q7.set 2 rfl 1 (.slice ua ks.length uc)
   generalize w7.setCell ⟨b,1,none⟩ (.slice ua ks.length uc)=w8 at q8 ⊢
   have r0:=q8.rules 2 rfl
   simp (disch:=first|omega|exact zF rfl|exact zG rfl|exact fun h=>h|(simp only[zA,zB,zC,zD,bytesW];omega)) only[go_sem,c68S0,c68S3,c68S5,c68S6,c68S8,c68S11,c68S13,r0]
   refine bsW_ones ty22mkI rfl rfl (by decide) (by decide) (str_one' val) ?_
   simp (disch:=first|omega|exact zF rfl|exact zG rfl|exact fun h=>h|(simp only[zA,zB,zC,zD,bytesW];omega)) only[go_sem,c68S0,c68S3,c68S5,c68S6,c68S8,c68S11,c68S13]
   have q9:=(q8.box #[.string (ofL val)] 9).perm (List.perm_middle (l₁:=[_,_,_,_]))
   generalize w8.heap.size=vb at q9 ⊢
   generalize w8.alloc (.cells #[.string (ofL val)] 9)=w9 at q9 ⊢
   refine Ret.mono (pinS_ok (ks:=nd.vals) q9 (by omega) (by omega)) ?_
   rintro u w10 q10
   obtain ⟨vl,hvle⟩:∃ vl,vl=nd.vals.take j++val::nd.vals.drop j:=⟨_,rfl⟩
   have hvll:nd.vals.length+1=vl.length:=by rw [hvle,List.length_append,List.length_cons,List.length_take,List.length_drop]; omega
   rw [← hvle,hvll] at q10
   obtain ⟨xa,xc,rfl,_⟩:=own_slice (q10.row 0 rfl)
   have r0:=q10.rules 4 rfl
   simp (disch:=first|omega|exact zF rfl|exact zG rfl|exact fun h=>h|(simp only[zA,zB,zC,zD,bytesW];omega)) only[go_sem,c68S0,c68S3,c68S5,c68S6,c68S8,c68S11,c68S13,r0]
   have q11:=q10.set 4 rfl 2 (.slice xa vl.length xc)
   generalize w10.setCell ⟨b,2,none⟩ (.slice xa vl.length xc)=w11 at q11 ⊢
   have r0:=q11.rules 4 rfl
   simp (disch:=first|omega|exact zF rfl|exact zG rfl|exact fun h=>h|(simp only[zA,zB,zC,zD,bytesW];omega)) only[go_sem,c68S0,c68S2,c68S3,c68S5,c68S6,c68S8,c68S11,c68S13,r0]
   have made':NdMade ⟨true,ks,vl,nd.kids⟩:=by
    refine ⟨fun _=>⟨by simp only; omega,hcn⟩,(fun h=>by cases h),by simp only; omega,fun k hk=>?_,fun v hv=>?_,made.kid⟩
    ·simp only [hks] at hk
     rcases List.mem_append.1 hk with hk | hk
     ·exact made.key k (List.mem_of_mem_take hk)
     ·rcases List.mem_cons.1 hk with rfl | hk
      ·exact hkv.1
      ·exact made.key k (List.mem_of_mem_drop hk)
    ·simp only [hvle] at hv
     rcases List.mem_append.1 hv with hv | hv
     ·exact made.val v (List.mem_of_mem_take hv)
     ·rcases List.mem_cons.1 hv with rfl | hv
      ·exact hkv.2
      ·exact made.val v (List.mem_of_mem_drop hv)
   have q12:Pgr e P W0 w11 F (.row (.slice ua ks.length uc) 9 1 ks.length (ks.flatMap strE)::.row (.slice xa vl.length xc) 9 1 vl.length (vl.flatMap strE)::.row (.slice ca nd.kids.length cc) 3 1 nd.kids.length (nd.kids.flatMap natE)::trB tb e i::L) I :=
    Pgr.perm (q11.sub (L':=.row (.slice xa vl.length xc) 9 1 vl.length (vl.flatMap strE)::.row (.slice ua ks.length uc) 9 1 ks.length (ks.flatMap strE)::.row (.slice ca nd.kids.length cc) 3 1 nd.kids.length (nd.kids.flatMap natE)::trB tb e i::L) (.cons_cons _ (.cons _ (.cons_cons _ (.cons _ (.cons _ (List.Sublist.refl _))))))) (List.Perm.swap _ _ _)
   refine Ret.mono (gcutL_ok (nd:=⟨true,ks,vl,nd.kids⟩) q12 h3 hmx ha made' hgd) ?_
   rintro _ w12 ⟨mid,right,er,P12,rfl,g1,g2,g3,h12⟩
   simp (disch:=first|omega|exact zF rfl|exact zG rfl|exact fun h=>h|(simp only[zA,zB,zC,zD,bytesW];omega)) only[go_sem,c68S0,c68S2,c68S3,c68S5,c68S6,c68S8,c68S11,c68S13]
   exact ⟨mid,right,er,P12,rfl,g1,g2,g3,h12⟩
 | false =>
  rw [hlf] at h4
  have r0:=h4.rules 0 rfl
  simp (disch:=first|omega|exact zF rfl|exact zG rfl|exact fun h=>h|(simp only[zA,zB,zC,zD,bytesW];omega)) only[go_sem,c68S0,c68S2,c68S3,c68S5,c68S6,c68S10,c68S11,c68S13,r0,hd1]
  obtain ⟨hvn,hcl⟩:=form.nl hlf
  have hrk:RdS w4 1 strE (.slice ka nd.keys.length kc) nd.keys:=RdS.of_own' (h4.row 1 rfl) nd.keys rfl rfl
  rw [← hlf]
  refine Ret.mono (down_ok key w4 hrk (by omega)) ?_
  rintro _ w5 ⟨rfl,b5⟩
  have h5:=h4.below b5
  have hdn:=downP_le nd key
  generalize downP nd key=dn at hdn ⊢
  have hdl:dn<nd.kids.length:=by omega
  have hdl':(dn:Int)<nd.kids.length:=by omega
  have hrc:RdS w5 1 natE (.slice ca nd.kids.length cc) nd.kids:=RdS.of_own' (h5.row 3 rfl) nd.kids rfl rfl
  obtain ⟨p1,rfl⟩:=hrc.ptr (by omega)
  have ec:=RdS.at1 (e1:=fun r:Nat=>.int .i64 r) hrc hdl
  have hkb:=form.kid _ (List.getElem_mem hdl)
  have r0:=h5.rules 0 rfl
  have ed:(d:Int)+1 - 1=d:=by omega
  simp (disch:=first|omega|exact zF rfl|exact zG rfl|exact fun h=>h|(simp only[zA,zB,zC,zD,bytesW];omega)) only[go_sem,c68S0,c68S2,c68S3,c68S5,c68S6,c68S10,c68S11,c68S13,r0,ec,hdl',ed]
  refine ⟨by omega,⟨by omega,by omega⟩,Ret.mono (ih nd.kids[dn] P _ w5 (by omega) (by omega) h3 hmx hgd (h5.perm (List.perm_middle (l₁:=[_,_,_,_])))) ?_⟩
  rintro _ w6 ⟨mid,right,er,P6,rfl,hmid,hright,hg6,h6⟩
  have hl6:P6.length=P.length:=h6.len.1.trans h5.len.1.symm
  by_cases her:er=0
  case neg =>
   simp (disch:=first|omega|exact zF rfl|exact zG rfl|exact fun h=>h|(simp only[zA,zB,zC,zD,bytesW];omega)) only[go_sem,c68S0,c68S2,c68S3,c68S5,c68S6,c68S8,c68S10,c68S11,c68S13,her]
   exact ⟨[],0,er,P6,rfl,by decide,by decide,hg6,h6.sub (L':=trB tb e i::L) (.cons_cons _ (.cons _ (.cons _ (.cons _ (.cons _ (List.Sublist.refl _))))))⟩
  subst her
  by_cases hr0:right=0
  ·subst hr0
   simp (disch:=first|omega|exact zF rfl|exact zG rfl|exact fun h=>h|(simp only[zA,zB,zC,zD,bytesW];omega)) only[go_sem,c68S0,c68S2,c68S3,c68S5,c68S6,c68S8,c68S10,c68S11,c68S13]
   exact ⟨[],0,0,P6,rfl,by decide,by decide,hg6,h6.sub (L':=trB tb e i::L) (.cons_cons _ (.cons _ (.cons _ (.cons _ (.cons _ (List.Sublist.refl _))))))⟩
  have hr0':¬ (right:Int)=0:=by omega
  have r0:=h6.rules 1 rfl
  simp (disch:=first|omega|exact zF rfl|exact zG rfl|exact fun h=>h|(simp only[zA,zB,zC,zD,bytesW];omega)) only[go_sem,c68S0,c68S2,c68S3,c68S5,c68S8,c68S10,c68S11,c68S13,r0,hr0']
  refine bsW_ones ty22mkI rfl rfl (by decide) (by decide) (str_one' mid) ?_
  simp (disch:=first|omega|exact zF rfl|exact zG rfl|exact fun h=>h|(simp only[zA,zB,zC,zD,bytesW];omega)) only[go_sem,c68S0,c68S2,c68S3,c68S5,c68S8,c68S10,c68S11,c68S13]
  have q6:=(h6.box #[.string (ofL mid)] 9).perm (List.perm_middle (l₁:=[_,_,_]))
  generalize w6.heap.size=kb at q6 ⊢
  generalize w6.alloc (.cells #[.string (ofL mid)] 9)=w7 at q6 ⊢
  refine Ret.mono (pinS_ok (ks:=nd.keys) q6 (by omega) hdn) ?_
  rintro u w8 q7
  obtain ⟨ks,hks⟩:∃ ks,ks=nd.keys.take dn++mid::nd.keys.drop dn:=⟨_,rfl⟩
  have hksl:nd.keys.length+1=ks.length:=by rw [hks,List.length_append,List.length_cons,List.length_take,List.length_drop]; omega
  rw [← hks,hksl] at q7
  obtain ⟨ua,uc,rfl,_⟩:=own_slice (q7.row 0 rfl)
  have r0:=q7.rules 3 rfl
  simp (disch:=first|omega|exact zF rfl|exact zG rfl|exact fun h=>h|(simp only[zA,zB,zC,zD,bytesW];omega)) only[go_sem,c68S0,c68S2,c68S3,c68S5,c68S8,c68S10,c68S11,c68S13,r0]
  have q8:=q7.set 3 rfl 1 (.slice ua ks.length uc)
  generalize w8.setCell ⟨b,1,none⟩ (.slice ua ks.length uc)=w9 at q8 ⊢
  have r0:=q8.rules 3 rfl
  simp (disch:=first|omega|exact zF rfl|exact zG rfl|exact fun h=>h|(simp only[zA,zB,zC,zD,bytesW];omega)) only[go_sem,c68S0,c68S2,c68S3,c68S6,c68S8,c68S10,c68S11,c68S13,r0]
  refine ⟨⟨by omega,by omega⟩,bsW_ones ty48mkI rfl rfl (by decide) (by decide) (by intro v hv; rw [List.mem_singleton] at hv; subst hv; rfl) ?_⟩
  simp (disch:=first|omega|exact zF rfl|exact zG rfl|exact fun h=>h|(simp only[zA,zB,zC,zD,bytesW];omega)) only[go_sem,c68S0,c68S2,c68S3,c68S6,c68S8,c68S10,c68S11,c68S13]
  have q9:=(q8.box #[.int .i64 (right:Nat)] 3).perm (List.perm_middle (l₁:=[_,_,_,_,_,_]))
  generalize w9.heap.size=vb at q9 ⊢
  generalize w9.alloc (.cells #[.int .i64 (right:Nat)] 3)=w10 at q9 ⊢
  have edn:(dn:Int)+1=((dn+1:Nat):Int):=by omega
  rw [edn]
  refine Ret.mono (pinN_ok (ks:=nd.kids) q9 (by omega) (by omega)) ?_
  rintro u w11 q10
  obtain ⟨cl,hcle⟩:∃ cl,cl=nd.kids.take (dn+1)++right::nd.kids.drop (dn+1):=⟨_,rfl⟩
  have hcll:nd.kids.length+1=cl.length:=by rw [hcle,List.length_append,List.length_cons,List.length_take,List.length_drop]; omega
  rw [← hcle,hcll] at q10
  obtain ⟨xa,xc,rfl,_⟩:=own_slice (q10.row 0 rfl)
  have r0:=q10.rules 5 rfl
  simp (disch:=first|omega|exact zF rfl|exact zG rfl|exact fun h=>h|(simp only[zA,zB,zC,zD,bytesW];omega)) only[go_sem,c68S0,c68S2,c68S3,c68S6,c68S8,c68S10,c68S11,c68S13,r0]
  have q11:=q10.set 5 rfl 3 (.slice xa cl.length xc)
  generalize w11.setCell ⟨b,3,none⟩ (.slice xa cl.length xc)=w12 at q11 ⊢
  have r0:=q11.rules 5 rfl
  simp (disch:=first|omega|exact zF rfl|exact zG rfl|exact fun h=>h|(simp only[zA,zB,zC,zD,bytesW];omega)) only[go_sem,c68S0,c68S2,c68S3,c68S5,c68S6,c68S8,c68S10,c68S11,c68S13,r0]
  have made':NdMade ⟨false,ks,nd.vals,cl⟩:=by
   refine ⟨(fun h=>by cases h),fun _=>⟨hvn,by simp only; omega⟩,by simp only; omega,fun k hk=>?_,made.val,fun c hc=>?_⟩
   ·simp only [hks] at hk
    rcases List.mem_append.1 hk with hk | hk
    ·exact made.key k (List.mem_of_mem_take hk)
    ·rcases List.mem_cons.1 hk with rfl | hk
     ·exact hmid
     ·exact made.key k (List.mem_of_mem_drop hk)
   ·simp only [hcle] at hc
    rcases List.mem_append.1 hc with hc | hc
    ·exact made.kid c (List.mem_of_mem_take hc)
    ·rcases List.mem_cons.1 hc with rfl | hc
     ·exact Nat.le_trans hright (by decide)
     ·exact made.kid c (List.mem_of_mem_drop hc)
  have q12:=q11.sub (L':=.row (.slice xa cl.length xc) 3 1 cl.length (cl.flatMap natE)::.row (.slice ua ks.length uc) 9 1 ks.length (ks.flatMap strE)::trB tb e i::.row (.slice va nd.vals.length vc) 9 1 nd.vals.length (nd.vals.flatMap strE)::L) (.cons_cons _ (.cons _ (.cons_cons _ (.cons _ (.cons_cons _ (.cons _ (.cons_cons _ (List.Sublist.refl _))))))))
  have q13:Pgr e P6 W0 w12 F (.row (.slice ua ks.length uc) 9 1 ks.length (ks.flatMap strE)::.row (.slice va nd.vals.length vc) 9 1 nd.vals.length (nd.vals.flatMap strE)::.row (.slice xa cl.length xc) 3 1 cl.length (cl.flatMap natE)::trB tb e i::L) I:=q12.perm ((List.Perm.swap _ _ _).trans ((List.perm_middle (l₁:=[.row (.slice xa cl.length xc) 3 1 cl.length (cl.flatMap natE),trB tb e i])).cons _))
  refine Ret.mono (gcutL_ok (nd:=⟨false,ks,nd.vals,cl⟩) q13 (by omega) (by omega) ha made' hg6) ?_
  rintro _ w13 ⟨mid,right,er,P13,rfl,g1,g2,g3,h13⟩
  simp (disch:=first|omega|exact zF rfl|exact zG rfl|exact fun h=>h|(simp only[zA,zB,zC,zD,bytesW];omega)) only[go_sem,c68S0,c68S2,c68S3,c68S5,c68S6,c68S8,c68S10,c68S11,c68S13]
  exact ⟨mid,right,er,P13,rfl,g1,g2,g3,h13⟩
end
open Go Go.Ann Go.RowKit Go.WideShapes Go.Shelf
theorem good_root{P:List Txt}{i j:Int}(h:GoodP P):GoodP (setRootN P i j).1:=by
 unfold setRootN
 split
 ·exact h
 split
 ·exact h
 ·exact good_low h (by decide)
theorem alloc_two{P:List Txt}(hl:P.length≤500):(∃ k:Nat,(allocN P).2=((k:Int),0)∧k≤65535)∨(allocN P).2=(0,13):=by
 unfold allocN
 split
 ·rename_i k hk
  exact .inl ⟨k,rfl,by have:=(low_lt hk).2; omega⟩
 ·exact .inr rfl
section
variable {W0 w:World} {F:Nat→Prop} {L:List Res} {I:List Inv} {e:En} {P:List (List UInt8)} {tb:Nat}
def PutE(e:En)(W0:World)(F:Nat→Prop)(L:List Res)(I:List Inv)(u:Value)(w':World):Prop:=(∃ er:Int,u=.int .i64 er)∧∃ P':List Txt,GoodP P'∧Pgr e P' W0 w' F L I
theorem Pgr.same{P':List Txt}{w':World}{L':List Res}{I':List Inv}(h:Pgr e P' W0 w' F L' I')(h0:Pgr e P W0 w F L I):P'.length=P.length:=h.len.1.trans h0.len.1.symm
theorem gPut_ok(key val:Txt)(h:Pgr e P W0 w F (trB tb e 0::L) I)(h3:3≤P.length)(hmx:P.length≤e.mx)(hg:GoodP P) :
  Ret Tryz.prog 18 [.pointer (some ⟨tb,0,none⟩),.string (ofL key),.string (ofL val)] w (PutE e W0 F (trB tb e 0::L) I):=by
 refine ent18 _ _ _ _ _ ?_
 simp (disch:=first|omega|exact zF rfl|exact zG rfl|exact fun h=>h|(simp only[zA,zB,zC,zD,bytesW];omega)) only[go_sem,c18S3,c18S4,c18S10,c18S11,c18S13,c18S14]
 refine Ret.mono (troot_ok h h3) ?_
 rintro _ w2 ⟨rfl,h2⟩
 have hrl:=rootM_lt P 0
 generalize rootM P 0=rt at hrl ⊢
 by_cases hk0:key=[]
 ·simp (disch:=first|omega|exact zF rfl|exact zG rfl|exact fun h=>h|(simp only[zA,zB,zC,zD,bytesW];omega)) only[go_sem,c18S3,c18S4,c18S10,c18S11,c18S13,c18S14,c18S15,hk0]
  exact ⟨⟨_,rfl⟩,P,hg,h2⟩
 by_cases hk1:(32:Int)<key.length
 ·simp (disch:=first|omega|exact zF rfl|exact zG rfl|exact fun h=>h|(simp only[zA,zB,zC,zD,bytesW];omega)) only[go_sem,c18S3,c18S4,c18S10,c18S11,c18S13,c18S14,c18S15,hk0,hk1]
  exact ⟨⟨_,rfl⟩,P,hg,h2⟩
 by_cases hv1:(80:Int)<val.length
 ·simp (disch:=first|omega|exact zF rfl|exact zG rfl|exact fun h=>h|(simp only[zA,zB,zC,zD,bytesW];omega)) only[go_sem,c18S3,c18S4,c18S10,c18S11,c18S13,c18S14,c18S15,hk0,hk1,hv1]
  exact ⟨⟨_,rfl⟩,P,hg,h2⟩
 have r:=h2.rules 0 rfl
 by_cases hr0:rt=0
 ·have hr0':(rt:Int)=0:=by omega
  simp (disch:=first|omega|exact zF rfl|exact zG rfl|exact fun h=>h|(simp only[zA,zB,zC,zD,bytesW];omega)) only[go_sem,c18S3,c18S10,c18S11,c18S13,c18S15,hk0,hk1,hv1,hr0',r]
  refine Ret.mono (palloc_ok h2 h3 (fun k hk=>by have:=(low_lt hk).2; omega)) ?_
  have hga:=good_alloc hg
  have hal:=alloc_two h2.len.2
  rintro _ w3 ⟨rfl,h3'⟩
  rcases hal with ⟨k,ek,hk5⟩ | ek
  case inr =>
   rw [ek]
   simp (disch:=first|omega|exact zF rfl|exact zG rfl|exact fun h=>h|(simp only[zA,zB,zC,zD,bytesW];omega)) only[go_sem,c18S3,c18S10,c18S11,c18S13,c18S15]
   exact ⟨⟨_,rfl⟩,_,hga,h3'⟩
  rw [ek]
  have hl3:=Pgr.same h3' h2
  generalize (allocN P).1=P3 at h3' hga hl3
  simp (disch:=first|omega|exact zF rfl|exact zG rfl|exact fun h=>h|(simp only[zA,zB,zC,zD,bytesW];omega)) only[go_sem,c18S3,c18S4,c18S10,c18S11,c18S13,c18S15]
  refine bsW_ones ty22mkI rfl rfl (by decide) (by decide) (str_one' key) ?_
  simp (disch:=first|omega|exact zF rfl|exact zG rfl|exact fun h=>h|(simp only[zA,zB,zC,zD,bytesW];omega)) only[go_sem,c18S3,c18S4,c18S10,c18S11,c18S13,c18S15]
  have hxr:RdS (w3.alloc (.cells #[.string (ofL key)] 9)) 1 strE (.slice (some ⟨w3.heap.size,0,none⟩) 1 1) [key]:=rd_new (n:=1) (cs:=#[.string (ofL key)]) rfl
  have h4:=h3'.box #[.string (ofL key)] 9
  generalize w3.heap.size=kb at h4 hxr ⊢
  generalize w3.alloc (.cells #[.string (ofL key)] 9)=w4 at h4 hxr ⊢
  refine bsW_ones ty22mkI rfl rfl (by decide) (by decide) (str_one' val) ?_
  simp (disch:=first|omega|exact zF rfl|exact zG rfl|exact fun h=>h|(simp only[zA,zB,zC,zD,bytesW];omega)) only[go_sem,c18S3,c18S4,c18S10,c18S11,c18S13,c18S15]
  have hyr:RdS (w4.alloc (.cells #[.string (ofL val)] 9)) 1 strE (.slice (some ⟨w4.heap.size,0,none⟩) 1 1) [val]:=rd_new (n:=1) (cs:=#[.string (ofL val)]) rfl
  have hxr2:=hxr.below ((Below.refl _ w4).alloc (Nat.le_refl _) (.cells #[.string (ofL val)] 9)) (by decide)
  have h5:=h4.box #[.string (ofL val)] 9
  generalize w4.heap.size=vb at h5 hyr ⊢
  generalize w4.alloc (.cells #[.string (ofL val)] 9)=w5 at h5 hyr hxr2 ⊢
  refine bdW_built (cells:=#[.bool true,.slice (some ⟨kb,0,none⟩) 1 1,.slice (some ⟨vb,0,none⟩) 1 1,.slice none 0 0]) (by kernel_rfl) ?_
  simp (disch:=first|omega|exact zF rfl|exact zG rfl|exact fun h=>h|(simp only[zA,zB,zC,zD,bytesW];omega)) only[go_sem,c18S4,c18S10,c18S11,c18S13,c18S15]
  have made:NdMade ⟨true,[key],[val],[]⟩:=⟨fun _=>⟨rfl,rfl⟩,(fun h=>by cases h),by simp,fun x hx=>by rw [List.mem_singleton] at hx; subst hx; omega,fun x hx=>by rw [List.mem_singleton] at hx; subst hx; omega,fun _ h=>by cases h⟩
  refine Ret.mono (glay_ok (a:=k) (nd:=⟨true,[key],[val],[]⟩) (h5.sub (L':=trB tb e 0::L) (.cons _ (.cons _ (List.Sublist.refl _)))) (by omega) (by omega) (by omega) ⟨_,_,none,0,rfl,hxr2,hyr,RdS.nil⟩ made hga) ?_
  rintro _ w6 ⟨er,rfl,P6,g6,h6⟩
  have hl6:=Pgr.same h6 h5
  by_cases her:er=0
  case neg =>
   simp (disch:=first|omega|exact zF rfl|exact zG rfl|exact fun h=>h|(simp only[zA,zB,zC,zD,bytesW];omega)) only[go_sem,c18S3,c18S4,c18S10,c18S11,c18S13,c18S15,her]
   exact ⟨⟨_,rfl⟩,P6,g6,h6⟩
  subst her
  simp (disch:=first|omega|exact zF rfl|exact zG rfl|exact fun h=>h|(simp only[zA,zB,zC,zD,bytesW];omega)) only[go_sem,c18S3,c18S4,c18S10,c18S11,c18S13,c18S15]
  refine c18draw0 (Same (fun k=>k=tb) _) (Same.refl _ _) ?_
  have h7:=h6.drew
  generalize w6.drew=w7 at h7 ⊢
  have r:=h7.rules 0 rfl
  simp (disch:=first|omega|exact zF rfl|exact zG rfl|exact fun h=>h|(simp only[zA,zB,zC,zD,bytesW];omega)) only[go_sem,c18S3,c18S4,c18S10,c18S11,c18S13,c18S15,c18D0,r]
  refine ⟨Same.refl _ _,Ret.mono (psetRoot_ok 0 (k:Nat) h7 (by omega) ⟨by decide,by decide⟩ ⟨by omega,by omega⟩) ?_⟩
  rintro _ w8 ⟨rfl,h8⟩
  simp (disch:=first|omega|exact zF rfl|exact zG rfl|exact fun h=>h|(simp only[zA,zB,zC,zD,bytesW];omega)) only[go_sem,c18S3,c18S4,c18S10,c18S11,c18S13,c18S15,c18D0]
  exact ⟨⟨_,rfl⟩,_,good_root g6,h8⟩
 ·have hr0':¬ (rt:Int)=0:=by omega
  simp (disch:=first|omega|exact zF rfl|exact zG rfl|exact fun h=>h|(simp only[zA,zB,zC,zD,bytesW];omega)) only[go_sem,c18S3,c18S4,c18S10,c18S11,c18S14,c18S15,hk0,hk1,hv1,hr0',r]
  refine Ret.mono (groom_ok h2 h3 (by omega)) ?_
  rintro _ w3 ⟨⟨er,rfl⟩,h3'⟩
  by_cases her:er=0
  case neg =>
   simp (disch:=first|omega|exact zF rfl|exact zG rfl|exact fun h=>h|(simp only[zA,zB,zC,zD,bytesW];omega)) only[go_sem,c18S3,c18S4,c18S10,c18S11,c18S13,c18S14,c18S15,her]
   exact ⟨⟨_,rfl⟩,P,hg,h3'⟩
  subst her
  simp (disch:=first|omega|exact zF rfl|exact zG rfl|exact fun h=>h|(simp only[zA,zB,zC,zD,bytesW];omega)) only[go_sem,c18S3,c18S4,c18S10,c18S13,c18S14,c18S15]
  refine Ret.mono (gput_ok key val ⟨by omega,by omega⟩ 32 rt P L w3 (by decide) (by omega) h3 hmx hg h3') ?_
  rintro _ w4 ⟨mid,right,er,P4,rfl,hmid,hright,g4,h4⟩
  have hl4:=Pgr.same h4 h3'
  by_cases her:er=0
  case neg =>
   simp (disch:=first|omega|exact zF rfl|exact zG rfl|exact fun h=>h|(simp only[zA,zB,zC,zD,bytesW];omega)) only[go_sem,c18S3,c18S4,c18S10,c18S11,c18S13,c18S14,c18S15,her]
   exact ⟨⟨_,rfl⟩,P4,g4,h4⟩
  subst her
  by_cases hr1:right=0
  ·subst hr1
   simp (disch:=first|omega|exact zF rfl|exact zG rfl|exact fun h=>h|(simp only[zA,zB,zC,zD,bytesW];omega)) only[go_sem,c18S3,c18S4,c18S10,c18S11,c18S13,c18S14,c18S15]
   exact ⟨⟨_,rfl⟩,P4,g4,h4⟩
  have hr1':¬ (right:Int)=0:=by omega
  have r:=h4.rules 0 rfl
  simp (disch:=first|omega|exact zF rfl|exact zG rfl|exact fun h=>h|(simp only[zA,zB,zC,zD,bytesW];omega)) only[go_sem,c18S3,c18S4,c18S11,c18S13,c18S14,c18S15,hr1',r]
  refine Ret.mono (palloc_ok h4 (by omega) (fun k hk=>by have:=(low_lt hk).2; omega)) ?_
  have hga:=good_alloc g4
  have hal:=alloc_two h4.len.2
  rintro _ w5 ⟨rfl,h5⟩
  rcases hal with ⟨k,ek,hk5⟩ | ek
  case inr =>
   rw [ek]
   simp (disch:=first|omega|exact zF rfl|exact zG rfl|exact fun h=>h|(simp only[zA,zB,zC,zD,bytesW];omega)) only[go_sem,c18S3,c18S4,c18S10,c18S11,c18S13,c18S14,c18S15]
   exact ⟨⟨_,rfl⟩,_,hga,h5⟩
  rw [ek]
  have hl5:=Pgr.same h5 h4
  generalize (allocN P4).1=P5 at h5 hga hl5
  simp (disch:=first|omega|exact zF rfl|exact zG rfl|exact fun h=>h|(simp only[zA,zB,zC,zD,bytesW];omega)) only[go_sem,c18S3,c18S4,c18S10,c18S11,c18S13,c18S14,c18S15]
  refine bsW_ones ty22mkI rfl rfl (by decide) (by decide) (str_one' mid) ?_
  simp (disch:=first|omega|exact zF rfl|exact zG rfl|exact fun h=>h|(simp only[zA,zB,zC,zD,bytesW];omega)) only[go_sem,c18S3,c18S4,c18S10,c18S11,c18S13,c18S14,c18S15]
  have hxr:RdS (w5.alloc (.cells #[.string (ofL mid)] 9)) 1 strE (.slice (some ⟨w5.heap.size,0,none⟩) 1 1) [mid]:=rd_new (n:=1) (cs:=#[.string (ofL mid)]) rfl
  have h6:=h5.box #[.string (ofL mid)] 9
  generalize w5.heap.size=kb at h6 hxr ⊢
  generalize w5.alloc (.cells #[.string (ofL mid)] 9)=w6 at h6 hxr ⊢
  refine bsW_ones ty48mkI rfl rfl (by decide) (by decide) (by intro v hv; simp only [List.mem_cons,List.not_mem_nil,or_false] at hv; rcases hv with rfl | rfl <;> rfl) ?_
  simp (disch:=first|omega|exact zF rfl|exact zG rfl|exact fun h=>h|(simp only[zA,zB,zC,zD,bytesW];omega)) only[go_sem,c18S3,c18S4,c18S10,c18S11,c18S13,c18S14,c18S15]
  have hyr:RdS (w6.alloc (.cells #[.int .i64 (rt:Nat),.int .i64 (right:Nat)] 3)) 1 natE (.slice (some ⟨w6.heap.size,0,none⟩) 2 2) [rt,right]:=rd_new (n:=2) (cs:=#[.int .i64 (rt:Nat),.int .i64 (right:Nat)]) rfl
  have hxr2:=hxr.below ((Below.refl _ w6).alloc (Nat.le_refl _) (.cells #[.int .i64 (rt:Nat),.int .i64 (right:Nat)] 3)) (by decide)
  have h7:=h6.box #[.int .i64 (rt:Nat),.int .i64 (right:Nat)] 3
  generalize w6.heap.size=cb at h7 hyr ⊢
  generalize w6.alloc (.cells #[.int .i64 (rt:Nat),.int .i64 (right:Nat)] 3)=w7 at h7 hyr hxr2 ⊢
  refine bdW_built (cells:=#[.bool false,.slice (some ⟨kb,0,none⟩) 1 1,.slice none 0 0,.slice (some ⟨cb,0,none⟩) 2 2]) (by kernel_rfl) ?_
  simp (disch:=first|omega|exact zF rfl|exact zG rfl|exact fun h=>h|(simp only[zA,zB,zC,zD,bytesW];omega)) only[go_sem,c18S3,c18S4,c18S10,c18S11,c18S13,c18S14,c18S15]
  have made:NdMade ⟨false,[mid],[],[rt,right]⟩:=⟨(fun h=>by cases h),fun _=>⟨rfl,rfl⟩,by simp,fun x hx=>by rw [List.mem_singleton] at hx; subst hx; omega,(fun _ h=>by cases h),fun x hx=>by simp only [List.mem_cons,List.not_mem_nil,or_false] at hx; rcases hx with rfl | rfl <;> omega⟩
  refine Ret.mono (glay_ok (a:=k) (nd:=⟨false,[mid],[],[rt,right]⟩) (h7.sub (L':=trB tb e 0::L) (.cons _ (.cons _ (List.Sublist.refl _)))) (by omega) (by omega) (by omega) ⟨_,_,some ⟨cb,0,none⟩,2,rfl,hxr2,RdS.nil,hyr⟩ made hga) ?_
  rintro _ w8 ⟨er,rfl,P8,g8,h8⟩
  have hl8:=Pgr.same h8 h7
  by_cases her:er=0
  case neg =>
   simp (disch:=first|omega|exact zF rfl|exact zG rfl|exact fun h=>h|(simp only[zA,zB,zC,zD,bytesW];omega)) only[go_sem,c18S3,c18S4,c18S10,c18S11,c18S13,c18S14,c18S15,her]
   exact ⟨⟨_,rfl⟩,P8,g8,h8⟩
  subst her
  simp (disch:=first|omega|exact zF rfl|exact zG rfl|exact fun h=>h|(simp only[zA,zB,zC,zD,bytesW];omega)) only[go_sem,c18S3,c18S4,c18S10,c18S11,c18S13,c18S14,c18S15]
  refine c18draw1 (Same (fun k=>k=tb) _) (Same.refl _ _) ?_
  have h9:=h8.drew
  generalize w8.drew=w9 at h9 ⊢
  have r:=h9.rules 0 rfl
  simp (disch:=first|omega|exact zF rfl|exact zG rfl|exact fun h=>h|(simp only[zA,zB,zC,zD,bytesW];omega)) only[go_sem,c18S3,c18S4,c18S10,c18S11,c18S13,c18S14,c18S15,c18D1,r]
  refine ⟨Same.refl _ _,Ret.mono (psetRoot_ok 0 (k:Nat) h9 (by omega) ⟨by decide,by decide⟩ ⟨by omega,by omega⟩) ?_⟩
  rintro _ w10 ⟨rfl,h10⟩
  simp (disch:=first|omega|exact zF rfl|exact zG rfl|exact fun h=>h|(simp only[zA,zB,zC,zD,bytesW];omega)) only[go_sem,c18S3,c18S4,c18S10,c18S11,c18S13,c18S14,c18S15,c18D1]
  exact ⟨⟨_,rfl⟩,_,good_root g8,h10⟩
end
open Go Go.Ann Go.RowKit Go.WideShapes Go.Shelf
section
variable {W0 w:World} {F:Nat→Prop} {L:List Res} {I:List Inv} {e:En} {P:List (List UInt8)} {tb:Nat} {i:Int}
theorem cut_ok{a:Nat}{l:List (List UInt8 × List UInt8)}{kv vv:Value}{ca:Option Addr}{cc:Nat}(h:Pgr e P W0 w F (trB tb e i::L) I)(h3:3≤P.length)(ha:a≤100000)(hok:chkN P a=0)(hm:a<e.mx)(hk:RdS w 1 strE kv (l.map Prod.fst))(hv:RdS w 1 strE vv (l.map Prod.snd))(hl:l.length≤255)(hb:∀ x∈l,x.1.length≤255∧x.2.length≤255)(hs:(leafB l).length≤256) :
  Ret Tryz.prog 129 [.pointer (some ⟨tb,0,none⟩),.int .i64 a,.agg #[.bool true,kv,vv,.slice ca 0 cc]] w fun u w'=>u=.tuple #[.string (ofL []),.int .i64 0,.int .i64 0]∧Pgr e (P.set a (filledL (leafB l))) W0 w' F (trB tb e i::L) I:=by
 obtain ⟨ka,kc,rfl,_⟩:=hk.form
 obtain ⟨va,vc,rfl,_⟩:=hv.form
 simp only [List.length_map] at *
 have h2:=h.box #[.bool true,.slice ka l.length kc,.slice va l.length vc,.slice ca 0 cc] 119
 have hb2:=((Below.refl _ w).alloc (Nat.le_refl _) (.cells #[.bool true,.slice ka l.length kc,.slice va l.length vc,.slice ca 0 cc] 119))
 have hk2:=hk.below hb2 (by decide)
 have hv2:=hv.below hb2 (by decide)
 clear hb2
 refine ent129 _ _ _ _ _ ?_
 simp (disch:=first|omega|exact zF rfl|exact zG rfl|exact fun h=>h|(simp only[zA,zB,zC,zD,bytesW];omega)) only[go_sem,c129S4,c129S5,c129S6,c129S7]
 generalize w.heap.size=b at h2 ⊢
 generalize w.alloc (.cells #[.bool true,.slice ka l.length kc,.slice va l.length vc,.slice ca 0 cc] 119)=w2 at h2 hk2 hv2 ⊢
 have hkb:∀ x∈l.map Prod.fst,x.length≤255:=fun x hx=>by
  obtain ⟨y,hy,rfl⟩:=List.mem_map.1 hx
  exact (hb y hy).1
 have hvb:∀ x∈l.map Prod.snd,x.length≤255:=fun x hx=>by
  obtain ⟨y,hy,rfl⟩:=List.mem_map.1 hx
  exact (hb y hy).2
 refine Ret.mono (size_ok w2 hk2 hv2 (by rw [List.length_map]; omega) (by rw [List.length_map]; omega) hkb hvb) ?_
 rintro _ w3 ⟨rfl,b3⟩
 have h3':=h2.below b3
 rw [leafB_len] at hs
 have hs':((2+ksum (l.map Prod.fst)+ksum (l.map Prod.snd):Nat):Int)≤256:=by omega
 rw [← leafB_len] at hs hs' ⊢
 have r0:=h3'.rules 0 rfl
 simp (disch:=first|omega|exact zF rfl|exact zG rfl|exact fun h=>h|(simp only[zA,zB,zC,zD,bytesW];omega)) only[go_sem,c129S4,c129S5,c129S6,c129S7,hs',r0]
 refine Ret.mono (lay_ok (h3'.sub (List.sublist_cons_self ..)) h3 ha hok hm (hk2.below b3 (by decide)) (hv2.below b3 (by decide)) hl hb hs) ?_
 rintro _ w4 ⟨rfl,h4⟩
 simp (disch:=first|omega|exact zF rfl|exact zG rfl|exact fun h=>h|(simp only[zA,zB,zC,zD,bytesW];omega)) only[go_sem,c129S4,c129S5,c129S6,c129S7]
 exact h4
theorem room_ok{a:Nat}{l:List (List UInt8 × List UInt8)}(h:Pgr e P W0 w F (trB tb e i::L) I)(h3:3≤P.length)(hP:P.length≤2000)(ha:a≤100000)(hok:chkN P a=0)(hl:LeafAt P a l)(hlen:(P.getD a []).length≤1000)(hrm:2≤roomN P)(hrm2:roomN P≤100000) :
  Ret Tryz.prog 67 [.pointer (some ⟨tb,0,none⟩),.int .i64 a] w fun u w'=>u=.int .i64 0∧Pgr e P W0 w' F (trB tb e i::L) I:=by
 refine ent67 _ _ _ _ ?_
 simp (disch:=first|omega|exact zF rfl|exact zG rfl|exact fun h=>h|(simp only[zA,zB,zC,zD,bytesW];omega)) only[go_sem,c67S2]
 refine W_loopU (fun _:Unit=>[]) (fun _ w'=>w'=w) (fun _=>0) () rfl rfl ?_
 rintro _ _ rfl
 simp (disch:=first|omega|exact zF rfl|exact zG rfl|exact fun h=>h|(simp only[zA,zB,zC,zD,bytesW];omega)) only[go_sem,c67S2,c67L0,c67L0]
 refine Ret.mono (load_ok h h3 ha hok hl hlen) ?_
 rintro _ w2 ⟨kv,vv,ca,cc,rfl,h2⟩
 obtain ⟨ka,kc,rfl,_⟩:=own_slice (h2.row 0 rfl)
 obtain ⟨va,vc,rfl,_⟩:=own_slice (h2.row 1 rfl)
 simp (disch:=first|omega|exact zF rfl|exact zG rfl|exact fun h=>h|(simp only[zA,zB,zC,zD,bytesW];omega)) only[go_sem,c67S2,c67L0]
 have h4:=(h2.box #[.bool true,.slice ka l.length kc,.slice va l.length vc,.slice ca 0 cc] 119).sub (L':=trB tb e i::L) (.cons _ (.cons _ (.cons _ (List.Sublist.refl _))))
 generalize w2.alloc (.cells #[.bool true,.slice ka l.length kc,.slice va l.length vc,.slice ca 0 cc] 119)=w4 at h4 ⊢
 have r0:=h4.rules 0 rfl
 simp (disch:=first|omega|exact zF rfl|exact zG rfl|exact fun h=>h|(simp only[zA,zB,zC,zD,bytesW];omega)) only[go_sem,c67S2,c67L0,c67S7,r0]
 refine Ret.mono (proom_ok h4 (by omega)) ?_
 rintro _ w5 ⟨rfl,h5⟩
 have hr:¬ (roomN P:Int)<2:=by omega
 simp (disch:=first|omega|exact zF rfl|exact zG rfl|exact fun h=>h|(simp only[zA,zB,zC,zD,bytesW];omega)) only[go_sem,c67S2,c67L0,c67S7,hr]
 exact ⟨⟨by decide,by decide⟩,h5⟩
end
open Go Go.Ann Go.RowKit Go.WideShapes Go.Shelf
section
variable {W0 w:World} {F:Nat→Prop} {L:List Res} {I:List Inv} {e:En} {P:List (List UInt8)} {tb:Nat} {i:Int}
theorem pins_ok{ks:List (List UInt8)}{rv:Value}{x:List UInt8}{vb n:Nat}(h:Pgr e P W0 w F (.row rv 9 1 n (ks.flatMap strE)::.blk vb #[.string (ofL x)] 9::L) I)(hn:n=ks.length)(hl:n≤1000000) :
  Ret Tryz.prog 128 [rv,.int .i64 0,.slice (some ⟨vb,0,none⟩) 1 1] w fun u w'=>Pgr e P W0 w' F (.row u 9 1 (n+1) ((x::ks).flatMap strE)::.blk vb #[.string (ofL x)] 9::L) I:=by
 subst hn
 obtain ⟨A,st,back⟩:=h.lift
 refine Ret.mono (insertS_ok (L:=L++A) st hl) ?_
 intro u w' s'
 exact back _ (_::_::L) _ s'
def PlaceK(ks:List (List UInt8))(key:List UInt8)(n:Nat):Prop:=∀ j,j≤ks.length→(∀ x,0<j→ks[j - 1]?=some x→Op.bytesLess x key=true)→(∀ x,ks[j]?=some x→Op.bytesLess x key=false)→j=n
theorem put_new{a:Nat}{l:List (List UInt8 × List UInt8)}(key val:List UInt8)(h:Pgr e P W0 w F (trB tb e i::L) I)(h3:3≤P.length)(ha:a≤100000)(hok:chkN P a=0)(hm:a<e.mx)(hl:LeafAt P a l)(hlen:(P.getD a []).length≤1000)(hp:PlaceK (l.map Prod.fst) key 0)(hno:(l.map Prod.fst)[0]?≠some key)(hl':l.length≤200)(hkv:key.length≤255∧val.length≤255)(hs:(leafB ((key,val)::l)).length≤256) :
  Ret Tryz.prog 68 [.pointer (some ⟨tb,0,none⟩),.int .i64 a,.int .i64 32,.string (ofL key),.string (ofL val)] w fun u w'=>u=.tuple #[.string (ofL []),.int .i64 0,.int .i64 0]∧Pgr e (P.set a (filledL (leafB ((key,val)::l)))) W0 w' F (trB tb e i::L) I:=by
 refine ent68 _ _ _ _ _ _ _ ?_
 simp (disch:=first|omega|exact zF rfl|exact zG rfl|exact fun h=>h|(simp only[zA,zB,zC,zD,bytesW];omega)) only[go_sem,c68S0,c68S2,c68S3,c68S5,c68S6,c68S8,c68S10,c68S11]
 refine Ret.mono (load_ok h h3 ha hok hl hlen) ?_
 rintro _ w2 ⟨kv,vv,ca,cc,rfl,h2⟩
 obtain ⟨ka,kc,rfl,_⟩:=own_slice (h2.row 0 rfl)
 obtain ⟨va,vc,rfl,_⟩:=own_slice (h2.row 1 rfl)
 simp (disch:=first|omega|exact zF rfl|exact zG rfl|exact fun h=>h|(simp only[zA,zB,zC,zD,bytesW];omega)) only[go_sem,c68S0,c68S2,c68S3,c68S5,c68S6,c68S8,c68S10,c68S13]
 have h4:=h2.box #[.bool true,.slice ka l.length kc,.slice va l.length vc,.slice ca 0 cc] 119
 generalize w2.heap.size=b at h4 ⊢
 generalize w2.alloc (.cells #[.bool true,.slice ka l.length kc,.slice va l.length vc,.slice ca 0 cc] 119)=w4 at h4 ⊢
 have r0:=h4.rules 0 rfl
 simp (disch:=first|omega|exact zF rfl|exact zG rfl|exact fun h=>h|(simp only[zA,zB,zC,zD,bytesW];omega)) only[go_sem,c68S0,c68S2,c68S5,c68S6,c68S8,c68S11,c68S13,r0]
 have hrk:RdS w4 1 strE (.slice ka l.length kc) (l.map Prod.fst):=RdS.of_own' (h4.row 1 rfl) (l.map Prod.fst) (by rw [List.length_map]) rfl
 refine Ret.mono (bsearch_ok key w4 hrk (by rw [List.length_map]; omega)) ?_
 rintro _ w5 ⟨j,rfl,hj,hlo,hhi,b5⟩
 obtain rfl:=hp j hj hlo hhi
 have h5:=h4.below b5
 have r0:=h5.rules 0 rfl
 rw [decide_eq_false hno]
 simp (disch:=first|omega|exact zF rfl|exact zG rfl|exact fun h=>h|(simp only[zA,zB,zC,zD,bytesW];omega)) only[go_sem,c68S3,c68S5,c68S6,c68S8,c68S11,c68S13,r0]
 refine bsW_ones ty22mkI rfl rfl (by decide) (by decide) (str_one' key) ?_
 simp (disch:=first|omega|exact zF rfl|exact zG rfl|exact fun h=>h|(simp only[zA,zB,zC,zD,bytesW];omega)) only[go_sem,c68S3,c68S5,c68S6,c68S8,c68S11,c68S13]
 have q6:=(h5.box #[.string (ofL key)] 9).perm (List.perm_middle (l₁:=[_,_]))
 generalize w5.heap.size=kb at q6 ⊢
 generalize w5.alloc (.cells #[.string (ofL key)] 9)=w6 at q6 ⊢
 refine Ret.mono (pins_ok (ks:=l.map Prod.fst) q6 (List.length_map _).symm (by omega)) ?_
 rintro u w7 q7
 obtain ⟨ua,uc,rfl,_⟩:=own_slice (q7.row 0 rfl)
 have r0:=q7.rules 2 rfl
 simp (disch:=first|omega|exact zF rfl|exact zG rfl|exact fun h=>h|(simp only[zA,zB,zC,zD,bytesW];omega)) only[go_sem,c68S3,c68S5,c68S6,c68S8,c68S11,c68S13,r0]
 have q8:=q7.set 2 rfl 1 (.slice ua (l.length+1) uc)
 generalize w7.setCell ⟨b,1,none⟩ (.slice ua (l.length+1) uc)=w8 at q8 ⊢
 have r0:=q8.rules 2 rfl
 simp (disch:=first|omega|exact zF rfl|exact zG rfl|exact fun h=>h|(simp only[zA,zB,zC,zD,bytesW];omega)) only[go_sem,c68S0,c68S3,c68S5,c68S6,c68S8,c68S11,c68S13,r0]
 refine bsW_ones ty22mkI rfl rfl (by decide) (by decide) (str_one' val) ?_
 simp (disch:=first|omega|exact zF rfl|exact zG rfl|exact fun h=>h|(simp only[zA,zB,zC,zD,bytesW];omega)) only[go_sem,c68S0,c68S3,c68S5,c68S6,c68S8,c68S11,c68S13]
 have q9:=(q8.box #[.string (ofL val)] 9).perm (List.perm_middle (l₁:=[_,_,_,_]))
 generalize w8.heap.size=vb at q9 ⊢
 generalize w8.alloc (.cells #[.string (ofL val)] 9)=w9 at q9 ⊢
 refine Ret.mono (pins_ok (ks:=l.map Prod.snd) q9 (List.length_map _).symm (by omega)) ?_
 rintro u w10 q10
 obtain ⟨xa,xc,rfl,_⟩:=own_slice (q10.row 0 rfl)
 have r0:=q10.rules 4 rfl
 simp (disch:=first|omega|exact zF rfl|exact zG rfl|exact fun h=>h|(simp only[zA,zB,zC,zD,bytesW];omega)) only[go_sem,c68S0,c68S3,c68S5,c68S6,c68S8,c68S11,c68S13,r0]
 have q11:=q10.set 4 rfl 2 (.slice xa (l.length+1) xc)
 generalize w10.setCell ⟨b,2,none⟩ (.slice xa (l.length+1) xc)=w11 at q11 ⊢
 have r0:=q11.rules 4 rfl
 simp (disch:=first|omega|exact zF rfl|exact zG rfl|exact fun h=>h|(simp only[zA,zB,zC,zD,bytesW];omega)) only[go_sem,c68S0,c68S2,c68S3,c68S5,c68S6,c68S8,c68S11,c68S13,r0]
 have hk:RdS w11 1 strE (.slice ua (l.length+1) uc) (((key,val)::l).map Prod.fst):=RdS.of_own' (q11.row 2 rfl) (((key,val)::l).map Prod.fst) (by simp) rfl
 have hv:RdS w11 1 strE (.slice xa (l.length+1) xc) (((key,val)::l).map Prod.snd):=RdS.of_own' (q11.row 0 rfl) (((key,val)::l).map Prod.snd) (by simp) rfl
 obtain ⟨hb,_,_⟩:=hl
 refine Ret.mono (cut_ok (l:=(key,val)::l) (q11.sub (L':=trB tb e i::L) (.cons _ (.cons _ (.cons _ (.cons _ (.cons _ (List.Sublist.refl _))))))) h3 ha hok hm hk hv (by rw [List.length_cons]; omega) (fun x hx=>?_) hs) ?_
 ·rcases List.mem_cons.1 hx with rfl | hx
  ·exact hkv
  ·exact hb x hx
 rintro _ w12 ⟨rfl,h12⟩
 simp (disch:=first|omega|exact zF rfl|exact zG rfl|exact fun h=>h|(simp only[zA,zB,zC,zD,bytesW];omega)) only[go_sem,c68S0,c68S2,c68S3,c68S5,c68S6,c68S8,c68S11,c68S13]
 exact h12
end
open Go Go.Ann Go.RowKit Go.WideShapes Go.Shelf
section
variable {W0 w:World} {F:Nat→Prop} {L:List Res} {I:List Inv} {e:En} {P:List (List UInt8)} {tb:Nat} {i:Int}
theorem put_old{a n:Nat}{l:List (List UInt8 × List UInt8)}(key val:List UInt8)(h:Pgr e P W0 w F (trB tb e i::L) I)(h3:3≤P.length)(ha:a≤100000)(hok:chkN P a=0)(hm:a<e.mx)(hl:LeafAt P a l)(hlen:(P.getD a []).length≤1000)(hp:PlaceK (l.map Prod.fst) key n)(hn:n<l.length)(hno:l[n].1=key)(hl':l.length≤200)(hkv:key.length≤255∧val.length≤255)(hs:(leafB (l.set n (key,val))).length≤256) :
  Ret Tryz.prog 68 [.pointer (some ⟨tb,0,none⟩),.int .i64 a,.int .i64 32,.string (ofL key),.string (ofL val)] w fun u w'=>u=.tuple #[.string (ofL []),.int .i64 0,.int .i64 0]∧Pgr e (P.set a (filledL (leafB (l.set n (key,val))))) W0 w' F (trB tb e i::L) I:=by
 refine ent68 _ _ _ _ _ _ _ ?_
 simp (disch:=first|omega|exact zF rfl|exact zG rfl|exact fun h=>h|(simp only[zA,zB,zC,zD,bytesW];omega)) only[go_sem,c68S0,c68S2,c68S3,c68S5,c68S6,c68S8,c68S10,c68S11]
 refine Ret.mono (load_ok h h3 ha hok hl hlen) ?_
 rintro _ w2 ⟨kv,vv,ca,cc,rfl,h2⟩
 obtain ⟨ka,kc,rfl,_⟩:=own_slice (h2.row 0 rfl)
 obtain ⟨va,vc,rfl,_⟩:=own_slice (h2.row 1 rfl)
 simp (disch:=first|omega|exact zF rfl|exact zG rfl|exact fun h=>h|(simp only[zA,zB,zC,zD,bytesW];omega)) only[go_sem,c68S0,c68S2,c68S3,c68S5,c68S6,c68S8,c68S10,c68S13]
 have h4:=h2.box #[.bool true,.slice ka l.length kc,.slice va l.length vc,.slice ca 0 cc] 119
 generalize w2.heap.size=b at h4 ⊢
 generalize w2.alloc (.cells #[.bool true,.slice ka l.length kc,.slice va l.length vc,.slice ca 0 cc] 119)=w4 at h4 ⊢
 have r0:=h4.rules 0 rfl
 simp (disch:=first|omega|exact zF rfl|exact zG rfl|exact fun h=>h|(simp only[zA,zB,zC,zD,bytesW];omega)) only[go_sem,c68S0,c68S2,c68S5,c68S6,c68S8,c68S11,c68S13,r0]
 have hrk:RdS w4 1 strE (.slice ka l.length kc) (l.map Prod.fst):=RdS.of_own' (h4.row 1 rfl) (l.map Prod.fst) (by rw [List.length_map]) rfl
 refine Ret.mono (bsearch_ok key w4 hrk (by rw [List.length_map]; omega)) ?_
 rintro _ w5 ⟨j,rfl,hj,hlo,hhi,b5⟩
 obtain rfl:=hp j hj hlo hhi
 have h5:=h4.below b5
 have r0:=h5.rules 0 rfl
 have hfd:(l.map Prod.fst)[j]?=some key:=by rw [List.getElem?_map,List.getElem?_eq_getElem hn,Option.map_some,hno]
 rw [decide_eq_true hfd]
 rcases (h5.row 2 rfl).2 with ⟨hv',h0⟩ | ⟨g,cap',cur,hv',_,hg,_⟩
 ·simp only [Value.slice.injEq] at hv'
  omega
 simp only [Value.slice.injEq,true_and] at hv'
 obtain ⟨rfl,rfl⟩:=hv'
 have hjl:(j:Int)<l.length:=by omega
 have hrv:RdS w5 1 strE (.slice (some ⟨g,0,none⟩) l.length vc) (l.map Prod.snd):=RdS.of_own' (h5.row 2 rfl) (l.map Prod.snd) (by rw [List.length_map]) rfl
 have ev:=RdS.at1 (e1:=fun r=>.string (ofL r)) hrv (k:=j) (by rw [List.length_map]; omega)
 simp (disch:=first|omega|exact zF rfl|exact zG rfl|exact fun h=>h|(simp only[zA,zB,zC,zD,bytesW];omega)) only[go_sem,c68S0,c68S3,c68S5,c68S6,c68S8,c68S11,c68S13,r0,hjl,ev]
 have hg:Blk w5 g cur 9:=hg
 refine ⟨by omega,⟨_,(by have:=ev; rw [Addr.add_lit,Nat.zero_add] at this; exact this)⟩,hg.frozen j,?_⟩
 have q6:Pgr e P W0 (w5.setCell ⟨g,j,none⟩ (.string (ofL val))) F (.blk b #[.bool true,.slice ka l.length kc,.slice (some ⟨g,0,none⟩) l.length vc,.slice ca 0 cc] 119::.row (.slice ka l.length kc) 9 1 l.length ((l.map Prod.fst).flatMap strE)::.row (.slice (some ⟨g,0,none⟩) l.length vc) 9 1 l.length (((l.map Prod.snd).set j val).flatMap strE)::trB tb e i::L) I:=by
  obtain ⟨A,st,back⟩:=h5.lift
  rw [strs_set]
  exact back _ (_::_::_::_::_) _ (st.put 2 rfl j (.string (ofL val)))
 generalize w5.setCell ⟨g,j,none⟩ (.string (ofL val))=w6 at q6 ⊢
 have r0:=q6.rules 0 rfl
 simp (disch:=first|omega|exact zF rfl|exact zG rfl|exact fun h=>h|(simp only[zA,zB,zC,zD,bytesW];omega)) only[go_sem,c68S0,c68S2,c68S3,c68S5,c68S6,c68S8,c68S11,c68S13,r0]
 obtain ⟨hb,_,_⟩:=hl
 have ek:(l.set j (key,val)).map Prod.fst=l.map Prod.fst:=by
  rw [List.map_set]
  refine List.ext_getElem? fun m=>?_
  rw [List.getElem?_set]
  split
  ·rename_i hc; subst hc; rw [List.length_map,if_pos hn,hfd]
  ·rfl
 have ev2:(l.set j (key,val)).map Prod.snd=(l.map Prod.snd).set j val:=List.map_set
 have hk:RdS w6 1 strE (.slice ka l.length kc) ((l.set j (key,val)).map Prod.fst):=by
  rw [ek]; exact RdS.of_own' (q6.row 1 rfl) (l.map Prod.fst) (by rw [List.length_map]) rfl
 have hv:RdS w6 1 strE (.slice (some ⟨g,0,none⟩) l.length vc) ((l.set j (key,val)).map Prod.snd):=by
  rw [ev2]; exact RdS.of_own' (q6.row 2 rfl) ((l.map Prod.snd).set j val) (by rw [List.length_set,List.length_map]) rfl
 refine Ret.mono (cut_ok (l:=l.set j (key,val)) (q6.sub (L':=trB tb e i::L) (.cons _ (.cons _ (.cons _ (List.Sublist.refl _))))) h3 ha hok hm hk hv (by rw [List.length_set]; omega) (fun x hx=>?_) hs) ?_
 ·rcases List.mem_or_eq_of_mem_set hx with hx | rfl
  ·exact hb x hx
  ·exact hkv
 rintro _ w12 ⟨rfl,h12⟩
 simp (disch:=first|omega|exact zF rfl|exact zG rfl|exact fun h=>h|(simp only[zA,zB,zC,zD,bytesW];omega)) only[go_sem,c68S0,c68S2,c68S3,c68S5,c68S6,c68S8,c68S11,c68S13]
 exact h12
end
open Go Go.Ann Go.RowKit Go.WideShapes Go.Shelf
structure Tr(n:Nat)(P:List (List UInt8))(l:List (List UInt8 × List UInt8)):Prop where
 given:Given n P fun j=>decide (j<3)
 leaf:LeafAt P 2 l
 root:rootM P 0=2
 big:5≤n∧n≤400
section
variable {W0 w:World} {F:Nat→Prop} {L:List Res} {I:List Inv} {e:En} {P:List (List UInt8)} {tb n:Nat} {i:Int}
theorem tput_first(key val:List UInt8)(h:Pgr e P W0 w F (trB tb e 0::L) I)(hg:Given n P fun j=>decide (j<2))(hr:rootM P 0=0)(hn:5≤n∧n≤400)(hmx:3≤e.mx)(hk:key≠[]∧key.length≤32)(hv:val.length≤80) :
  Ret Tryz.prog 18 [.pointer (some ⟨tb,0,none⟩),.string (ofL key),.string (ofL val)] w fun u w'=>u=.int .i64 0∧∃ P',Pgr e P' W0 w' F (trB tb e 0::L) I∧Tr n P' [(key,val)]:=by
 have hlen:=hg.len
 refine ent18 _ _ _ _ _ ?_
 simp (disch:=first|omega|exact zF rfl|exact zG rfl|exact fun h=>h|(simp only[zA,zB,zC,zD,bytesW];omega)) only[go_sem,c18S3,c18S4,c18S10,c18S11,c18S13,c18S14]
 refine Ret.mono (troot_ok h (by omega)) ?_
 rintro _ w2 ⟨rfl,h2⟩
 rw [hr]
 have hk0:=hk.1
 have hk1:¬ (32:Int)<key.length:=by omega
 have hv1:¬ (80:Int)<val.length:=by omega
 have r:=h2.rules 0 rfl
 simp (disch:=first|omega|exact zF rfl|exact zG rfl|exact fun h=>h|(simp only[zA,zB,zC,zD,bytesW];omega)) only[go_sem,c18S3,c18S10,c18S11,c18S13,c18S15,hk0,hk1,hv1,r]
 obtain ⟨ea,hlow,hg2⟩:=hg.alloc (k:=2) (by omega) (by decide) (by omega) (by decide) (fun j h1 h2=>by omega)
 refine Ret.mono (palloc_ok h2 (by omega) (fun k hk=>by rw [hlow] at hk; cases hk; omega)) ?_
 rw [ea]
 rintro _ w3 ⟨rfl,h3⟩
 have h3:Pgr e (emptyP (markP P 2 true) 2) W0 w3 F (trB tb e 0::L) I:=h3
 have hr3:rootM (emptyP (markP P 2 true) 2) 0=rootM P 0:=by
  unfold rootM rootB emptyP markP
  rw [List.getD_eq_getElem?_getD,List.getElem?_set_ne (by decide),List.getElem?_set_ne (by decide),← List.getD_eq_getElem?_getD]
 generalize emptyP (markP P 2 true) 2=P3 at h3 hg2 hr3 ⊢
 have hg3:Given n P3 fun j=>decide (j<3):=hg2.ext fun j _=>by
  by_cases hj:j=2
  ·subst hj; rfl
  ·rw [if_neg hj]; congr 1; simp; omega
 have hl3:=hg3.len
 have hok:chkN P3 (2:Nat)=0:=by rw [hg3.chk (by decide) (by omega)]; rfl
 simp (disch:=first|omega|exact zF rfl|exact zG rfl|exact fun h=>h|(simp only[zA,zB,zC,zD,bytesW];omega)) only[go_sem,c18S3,c18S4,c18S10,c18S11,c18S13,c18S15]
 refine bsW_ones ty22mkI rfl rfl (by decide) (by decide) (str_one' key) ?_
 simp (disch:=first|omega|exact zF rfl|exact zG rfl|exact fun h=>h|(simp only[zA,zB,zC,zD,bytesW];omega)) only[go_sem,c18S3,c18S4,c18S10,c18S11,c18S13,c18S15]
 have hxr:RdS (w3.alloc (.cells #[.string (ofL key)] 9)) 1 strE (.slice (some ⟨w3.heap.size,0,none⟩) 1 1) [key]:=rd_new (n:=1) (cs:=#[.string (ofL key)]) rfl
 have h4:=h3.box #[.string (ofL key)] 9
 generalize w3.heap.size=kb at h4 hxr ⊢
 generalize w3.alloc (.cells #[.string (ofL key)] 9)=w4 at h4 hxr ⊢
 refine bsW_ones ty22mkI rfl rfl (by decide) (by decide) (str_one' val) ?_
 simp (disch:=first|omega|exact zF rfl|exact zG rfl|exact fun h=>h|(simp only[zA,zB,zC,zD,bytesW];omega)) only[go_sem,c18S3,c18S4,c18S10,c18S11,c18S13,c18S15]
 have hyr:RdS (w4.alloc (.cells #[.string (ofL val)] 9)) 1 strE (.slice (some ⟨w4.heap.size,0,none⟩) 1 1) [val]:=rd_new (n:=1) (cs:=#[.string (ofL val)]) rfl
 have hxr2:=hxr.below ((Below.refl _ w4).alloc (Nat.le_refl _) (.cells #[.string (ofL val)] 9)) (by decide)
 have h5:=h4.box #[.string (ofL val)] 9
 generalize w4.heap.size=vb at h5 hyr ⊢
 generalize w4.alloc (.cells #[.string (ofL val)] 9)=w5 at h5 hyr hxr2 ⊢
 refine bdW_built (cells:=#[.bool true,.slice (some ⟨kb,0,none⟩) 1 1,.slice (some ⟨vb,0,none⟩) 1 1,.slice none 0 0]) (by kernel_rfl) ?_
 simp (disch:=first|omega|exact zF rfl|exact zG rfl|exact fun h=>h|(simp only[zA,zB,zC,zD,bytesW];omega)) only[go_sem,c18S4,c18S10,c18S11,c18S13,c18S15]
 have hsz:(leafB [(key,val)]).length≤256:=by
  rw [leafB_len]
  simp [ksum]
  omega
 refine Ret.mono (lay_ok (a:=2) (l:=[(key,val)]) (h5.sub (L':=trB tb e 0::L) (.cons _ (.cons _ (List.Sublist.refl _)))) (by omega) (by decide) hok (by omega) hxr2 hyr (by simp) (fun x hx=>by rw [List.mem_singleton] at hx; subst hx; exact ⟨by simp only; omega,by simp only; omega⟩) hsz) ?_
 rintro _ w6 ⟨rfl,h6⟩
 simp (disch:=first|omega|exact zF rfl|exact zG rfl|exact fun h=>h|(simp only[zA,zB,zC,zD,bytesW];omega)) only[go_sem,c18S3,c18S4,c18S10,c18S11,c18S13,c18S15]
 refine c18draw0 (Same (fun k=>k=tb) _) (Same.refl _ _) ?_
 have h7:=h6.drew
 generalize w6.drew=w7 at h7 ⊢
 have r:=h7.rules 0 rfl
 simp (disch:=first|omega|exact zF rfl|exact zG rfl|exact fun h=>h|(simp only[zA,zB,zC,zD,bytesW];omega)) only[go_sem,c18S3,c18S4,c18S10,c18S11,c18S13,c18S15,c18D0,r]
 have hg7:Given n (P3.set 2 (filledL (leafB [(key,val)]))) fun j=>decide (j<3):=hg3.set (by decide) _
 have hok7:chkN (P3.set 2 (filledL (leafB [(key,val)]))) (2:Nat)=0:=by rw [hg7.chk (by decide) (by omega)]; rfl
 have hr7:=h7.root256 (by rw [List.length_set]; omega)
 have hl7:=hg7.len
 have hd7:(P3.set 2 (filledL (leafB [(key,val)]))).getD 2 []=filledL (leafB [(key,val)]):=by
  rw [List.getD_eq_getElem?_getD,List.getElem?_set_self (by omega)]; rfl
 generalize P3.set 2 (filledL (leafB [(key,val)]))=P7 at h7 hg7 hok7 hr7 hl7 hd7 ⊢
 refine ⟨Same.refl _ _,Ret.mono (psetRoot_ok 0 (2:Nat) h7 (by omega) ⟨by decide,by decide⟩ ⟨by decide,by decide⟩) ?_⟩
 rw [setRootN_in (by decide) hr7 (.inr hok7) (by decide)]
 rintro _ w8 ⟨rfl,h8⟩
 simp (disch:=first|omega|exact zF rfl|exact zG rfl|exact fun h=>h|(simp only[zA,zB,zC,zD,bytesW];omega)) only[go_sem,c18S3,c18S4,c18S10,c18S11,c18S13,c18S15,c18D0]
 refine ⟨_,h8,hg7.set (by decide) _,⟨fun x hx=>by rw [List.mem_singleton] at hx; subst hx; exact ⟨by simp only; omega,by simp only; omega⟩,by simp,?_⟩,rootM_set (by decide) hr7 (by omega) (by decide),hn⟩
 obtain ⟨r2,e2⟩:=filledL_app (leafB [(key,val)])
 refine ⟨r2,?_⟩
 rw [List.getD_eq_getElem?_getD,List.getElem?_set_ne (by decide),← List.getD_eq_getElem?_getD,hd7,e2]
theorem tput_more{l l':List (List UInt8 × List UInt8)}(key val:List UInt8)(h:Pgr e P W0 w F (trB tb e 0::L) I)(t:Tr n P l)(hk:key≠[]∧key.length≤32)(hv:val.length≤80)(hl':(∀ x∈l',x.1.length≤255∧x.2.length≤255)∧l'.length≤255)
  (hput:∀ w2,Pgr e P W0 w2 F (trB tb e 0::L) I→Ret Tryz.prog 68 [.pointer (some ⟨tb,0,none⟩),.int .i64 (2:Nat),.int .i64 32,.string (ofL key),.string (ofL val)] w2 fun u w'=>u=.tuple #[.string (ofL []),.int .i64 0,.int .i64 0]∧Pgr e (P.set 2 (filledL (leafB l'))) W0 w' F (trB tb e 0::L) I) :
  Ret Tryz.prog 18 [.pointer (some ⟨tb,0,none⟩),.string (ofL key),.string (ofL val)] w fun u w'=>u=.int .i64 0∧∃ P',Pgr e P' W0 w' F (trB tb e 0::L) I∧Tr n P' l':=by
 have hlen:=t.given.len
 have hn:=t.big
 have hok:chkN P (2:Nat)=0:=by rw [t.given.chk (by decide) (by omega)]; rfl
 have hrm:roomN P=n - 3:=by
  rw [t.given.room]
  congr 1
  have e1:=count_given (n:=n) (l:=[2]) (by omega) (fun a ha=>by rw [List.mem_singleton] at ha; subst ha; omega) (List.pairwise_singleton _ _)
  have e2:(List.range n).filter (fun j=>decide (j<3))=(List.range n).filter fun j=>decide (j<2∨j∈[2]):=List.filter_congr fun j _=>by
   congr 1
   simp only [List.mem_singleton,eq_iff_iff]
   omega
  rw [e2,e1]; rfl
 refine ent18 _ _ _ _ _ ?_
 simp (disch:=first|omega|exact zF rfl|exact zG rfl|exact fun h=>h|(simp only[zA,zB,zC,zD,bytesW];omega)) only[go_sem,c18S3,c18S4,c18S10,c18S11,c18S13,c18S14]
 refine Ret.mono (troot_ok h (by omega)) ?_
 rintro _ w2 ⟨rfl,h2⟩
 rw [t.root]
 have hk0:=hk.1
 have hk1:¬ (32:Int)<key.length:=by omega
 have hv1:¬ (80:Int)<val.length:=by omega
 simp (disch:=first|omega|exact zF rfl|exact zG rfl|exact fun h=>h|(simp only[zA,zB,zC,zD,bytesW];omega)) only[go_sem,c18S3,c18S4,c18S10,c18S11,c18S14,c18S15,hk0,hk1,hv1]
 have hf:=h2.full (P.getD 2 []) (by rw [List.getD_eq_getElem?_getD,List.getElem?_eq_getElem (by omega)]; exact List.getElem_mem _)
 refine Ret.mono (room_ok (a:=2) h2 (by omega) (by omega) (by decide) hok t.leaf (by omega) (by omega) (by omega)) ?_
 rintro _ w3 ⟨rfl,h3⟩
 simp (disch:=first|omega|exact zF rfl|exact zG rfl|exact fun h=>h|(simp only[zA,zB,zC,zD,bytesW];omega)) only[go_sem,c18S3,c18S4,c18S10,c18S13,c18S14,c18S15]
 refine Ret.mono (hput w3 h3) ?_
 rintro _ w4 ⟨rfl,h4⟩
 simp (disch:=first|omega|exact zF rfl|exact zG rfl|exact fun h=>h|(simp only[zA,zB,zC,zD,bytesW];omega)) only[go_sem,c18S3,c18S4,c18S10,c18S11,c18S13,c18S14,c18S15]
 refine ⟨_,h4,t.given.set (by decide) _,⟨hl'.1,hl'.2,?_⟩,?_,hn⟩
 ·obtain ⟨r2,e2⟩:=filledL_app (leafB l')
  refine ⟨r2,?_⟩
  rw [List.getD_eq_getElem?_getD,List.getElem?_set_self (by omega),Option.getD_some,e2]
 ·refine Eq.trans ?_ t.root
  unfold rootM rootB
  rw [List.getD_eq_getElem?_getD,List.getElem?_set_ne (by decide),← List.getD_eq_getElem?_getD]
end
open Go Go.Ann Go.RowKit Go.WideShapes Go.Shelf
def fromK(key:List UInt8)(l:List (List UInt8 × List UInt8)):List (List UInt8 × List UInt8):=l.filter fun x=>!Op.bytesLess x.1 key
theorem fromK_nil(l:List (List UInt8 × List UInt8)):fromK [] l=l:=by
 unfold fromK
 refine List.filter_eq_self.2 fun x _=>?_
 cases x.1 <;> rfl
theorem recs_from{σ:Type}(f:σ→Rec→Bool × σ)(key:Txt):∀ (l:List Rec) (s:σ),recsGo f key l s=foldGo f (fromK key l) s
 | [],_=>rfl
 | x::r,s=>by
  rw [recsGo]
  unfold fromK
  rw [List.filter_cons]
  cases h:Op.bytesLess x.1 key with
  | true=>rw [if_pos rfl]; exact recs_from f key r s
  | false =>
   rw [if_neg (by decide)]
   simp only [Bool.not_false,if_true,foldGo]
   split
   ·exact recs_from f key r _
   ·rfl
theorem fold_take{most:Nat}:∀ (l pre:List Rec),pre.length<most→(foldGo (takeF most) l pre).2=(pre++l).take most
 | [],pre,h=>by rw [foldGo,List.append_nil,List.take_of_length_le (by omega)]
 | x::r,pre,h=>by
  have e:pre++x::r=pre++[x]++r:=by simp
  rw [foldGo,e]
  by_cases hc:pre.length+1<most
  ·rw [if_pos (show (takeF most pre x).1=true from decide_eq_true hc)]
   exact fold_take r (pre++[x]) (by rw [List.length_append,List.length_singleton]; exact hc)
  ·rw [if_neg (by show ¬ (decide _=true); simpa using Nat.le_of_not_lt hc)]
   have hl:(pre++[x]).length=most:=by rw [List.length_append,List.length_singleton]; omega
   show pre++[x]=_
   rw [← hl,List.take_left]
theorem fold_cnt:∀ (l:List Rec) (n:Nat),(foldGo cntF l n).2=n+l.length
 | [],n=>rfl
 | x::r,n=>by
  show (foldGo cntF r (n+1)).2=_
  rw [fold_cnt r,List.length_cons]
  omega
theorem zip_own(l:List Rec):(l.map Prod.fst).zip (l.map Prod.snd)=l:=by
 induction l with
 | nil=>rfl
 | cons x l ih=>rw [List.map_cons,List.map_cons,List.zip_cons_cons,ih]
section
variable {W0 w:World} {F:Nat→Prop} {L:List Res} {I:List Inv} {e:En} {P:List (List UInt8)} {tb n:Nat} {i:Int}
theorem leaf_from{l:List Rec}{σ:Type}(f:σ→Rec→Bool × σ)(key:Txt)(s:σ)(t:Tr n P l):fromP P f key s=(foldGo f (fromK key l) s).2:=by
 have hn:=t.big
 have hok:chkN P (2:Nat)=0:=by rw [t.given.chk (by decide) (by omega)]; rfl
 obtain ⟨h1,h2,r,h3⟩:=t.leaf
 unfold fromP
 rw [t.root,if_neg (by decide),walkP]
 have e:ndP P 2=some ⟨true,l.map Prod.fst,l.map Prod.snd,[]⟩:=by
  unfold ndP
  rw [if_pos hok,h3,parseP_own r h2 h1]
 rw [e]
 simp only
 rw [if_neg (by decide),if_pos trivial,zip_own,recs_from]
theorem leaf_take{l:List Rec}{most:Nat}(key:Txt)(t:Tr n P l)(h:l.length≤most)(h0:0<most):fromP P (takeF most) key []=fromK key l:=by
 rw [leaf_from _ key [] t,fold_take _ _ h0,List.nil_append,List.take_of_length_le (show (fromK key l).length≤most from Nat.le_trans (List.length_filter_le _ _) h)]
theorem leaf_cnt{l:List Rec}(t:Tr n P l):fromP P cntF [] 0=l.length:=by
 rw [leaf_from _ [] 0 t,fold_cnt,fromK_nil,Nat.zero_add]
theorem same_ok{u v:Value}{l:List (List UInt8 × List UInt8)}(w:World)(h:RdS w 2 prE u l)(h':RdS w 2 prE v l)(hl:l.length≤100000) :
  Ret Tryz.prog 74 [u,v] w fun u w'=>u=.bool true∧Below w.heap.size w w':=by
 obtain ⟨ua,uc,rfl,_⟩:=h.form
 obtain ⟨va,vc,rfl,_⟩:=h'.form
 refine ent74 _ _ _ _ ?_
 simp (disch:=first|omega|exact zF rfl|exact zG rfl|exact fun h=>h|(simp only[zA,zB,zC,zD,bytesW];omega)) only[go_sem]
 refine W_loopU (fun k:Nat=>[(5,.int .i64 k)]) (fun k w'=>k≤l.length∧Below w.heap.size w w') (fun k=>l.length - k) 0 rfl ⟨Nat.zero_le _,Below.refl _ _⟩ ?_
 rintro k w2 ⟨hk,b2⟩
 by_cases hlt:k<l.length
 case neg =>
  have hlt':¬ (k:Int)<l.length:=by omega
  simp (disch:=first|omega|exact zF rfl|exact zG rfl|exact fun h=>h|(simp only[zA,zB,zC,zD,bytesW];omega)) only[go_sem,c74L0,c74L0,hlt']
  exact b2
 have hlt':(k:Int)<l.length:=by omega
 obtain ⟨p,rfl⟩:=h.ptr (by omega)
 obtain ⟨q,rfl⟩:=h'.ptr (by omega)
 simp (disch:=first|omega|exact zF rfl|exact zG rfl|exact fun h=>h|(simp only[zA,zB,zC,zD,bytesW];omega)) only[go_sem,c74L0,c74L0,hlt']
 refine c74draw0 ?_
 have b3:=b2.drew
 generalize w2.drew=w3 at b3 ⊢
 have e1:=(h.below b3 (by decide)).at (fun _=>rfl) hlt
 have e2:=(h'.below b3 (by decide)).at (fun _=>rfl) hlt
 have hlen:(prE l[k]).length=2:=rfl
 generalize l[k]=x at *
 have e3:aggEq [FK.str,FK.str] (prE x) (prE x)=some true:=by simp [aggEq,prE,vEq,andO]
 simp (disch:=first|omega|exact zF rfl|exact zG rfl|exact fun h=>h|(simp only[zA,zB,zC,zD,bytesW];omega)) only[go_sem,c74L0,c74D0,e1,e2,hlt',e3]
 exact ⟨by omega,by omega,⟨by omega,by omega⟩,k+1,rfl,⟨hlt,b3⟩,by omega⟩
end
open Go Go.Ann Go.RowKit Go.WideShapes Go.Shelf
theorem kidsV_chk{P:List Txt}{g:Nat→Txt→Txt→Bool→Vis→Vis}(hb:∀ a b c d v,(g a b c d v).bad=false→v.bad=false)(hg:∀ a b c d v,(g a b c d v).bad=false→(∀ x∈v.pages,chkN P (x:Nat)=0)→∀ x∈(g a b c d v).pages,chkN P (x:Nat)=0)(keys:List Txt)(low high:Txt)(bound:Bool) :
  ∀ (ks:List Nat) (i:Nat) (v:Vis),(kidsV g keys low high bound i ks v).bad=false→(∀ x∈v.pages,chkN P (x:Nat)=0)→∀ x∈(kidsV g keys low high bound i ks v).pages,chkN P (x:Nat)=0
 | [],_,_,_,h=>h
 | k::ks,i,v,hv,h=>by
  rw [kidsV] at hv ⊢
  exact kidsV_chk hb hg keys low high bound ks _ _ hv (hg _ _ _ _ _ (kidsV_bad hb keys low high bound _ _ _ hv) h)
theorem visit_chk(P:List Txt):∀ (g a:Nat) (low high:Txt) (bound:Bool) (v:Vis),(visitP P g a low high bound v).bad=false→(∀ x∈v.pages,chkN P (x:Nat)=0)→∀ x∈(visitP P g a low high bound v).pages,chkN P (x:Nat)=0
 | 0,a,low,high,bound,v,_,h=>h
 | g+1,a,low,high,bound,v,hv,h=>by
  rw [visitP] at hv ⊢
  split at hv
  ·have:=(spoil_bad hv).2; cases this
  rename_i hm
  rw [if_neg hm]
  split at hv
  ·have:=(spoil_bad hv).2; cases this
  rename_i n hn
  have h1:∀ x∈v.pages++[a],chkN P (x:Nat)=0:=fun x hx=>by
   rcases List.mem_append.1 hx with hx | hx
   ·exact h x hx
   ·rw [List.mem_singleton] at hx; subst hx; exact (ndP_form hn).2
  split at hv
  ·rename_i hl
   simp only [hl,if_true]
   unfold leafV
   rw [(leafGo_pages _ _).1]
   exact h1
  ·rename_i hl
   simp only [hl]
   exact kidsV_chk (fun a b c d v=>visit_bad P g a b c d v) (fun a b c d v=>visit_chk P g a b c d v) _ _ _ _ _ _ _ hv h1
structure RawL(P:List Txt)(l:List Rec):Prop where
 root:l≠[]→rootM P 0≠0
 got:∀ x∈l,getP P x.1 1024 (rootM P 0)=some x.2
 fit:∀ x∈l,x.1≠[]∧x.1.length≤32∧x.2.length≤80
 ups:l.Pairwise fun x y=>Op.bytesLess x.1 y.1=true
 few:l.length≤3000
theorem sound_raw{P:List Txt}(hP:P.length≤500)(h:(lookP P).bad=false):RawL P (fromP P (takeF 3000) [] []):=by
 unfold lookP at h
 unfold fromP
 by_cases hr:rootM P 0=0
 ·rw [if_pos hr]
  exact ⟨fun h=>(h rfl).elim,fun _ h=>(by cases h),fun _ h=>(by cases h),.nil,by decide⟩
 ·rw [if_neg hr] at h ⊢
  have hs:=visit_seen P 32 _ _ _ _ _ h
  have hpg:=(visit_pg P 32 (rootM P 0) [] [] false vis0 (by decide) (by have:=rootM_lt P 0; omega) ⟨⟨.nil,fun _ h=>by cases h⟩,by decide⟩).1
  have hck:=visit_chk P 32 _ _ _ _ _ h (fun _ h=>by cases h)
  generalize visitP P 32 (rootM P 0) [] [] false vis0=v at h hs hpg hck
  have hlen:v.pages.length≤P.length:=by
   have:=nodup_few P.length (v.pages.map fun n:Nat=>(n:Int)) (List.Pairwise.map _ (fun a b hab hc=>hab (by omega)) hpg.1) fun x hx=>by
    obtain ⟨y,hy,rfl⟩:=List.mem_map.1 hx
    have:=(chk_in (hck y hy)).2
    omega
   rwa [List.length_map] at this
  obtain ⟨_,w2,_⟩:=hs.walk (takeF 3000) 1024 [] (by simp only [vis0,List.length_nil]; omega)
  rw [w2,fold_take _ _ (by decide),List.nil_append]
  refine ⟨fun _=>hr,fun x hx=>?_,fun x hx=>?_,hs.gave.ups.sublist (List.take_sublist _ _),by rw [List.length_take]; omega⟩
  ·exact getP_more P x.1 x.2 32 1024 _ (by decide) (hs.got x (List.mem_of_mem_take hx))
  ·have hx:=List.mem_of_mem_take hx
   exact ⟨(hs.gave.fit x hx).1,hs.fit x hx,(hs.gave.fit x hx).2⟩
open Go Go.Ann Go.RowKit Go.WideShapes Go.Shelf
theorem place_a:PlaceK [[98]] [97] 0:=by
 intro j hj h1 h2
 match j,hj with
 | 0,_=>rfl
 | 1,_=>exact absurd (h1 [98] (by decide) rfl) (by decide)
theorem place_b:PlaceK [[97],[98]] [98] 1:=by
 intro j hj h1 h2
 match j,hj with
 | 0,_=>exact absurd (h2 [97] rfl) (by decide)
 | 1,_=>rfl
 | 2,_=>exact absurd (h1 [98] (by decide) rfl) (by decide)
theorem tawake_ok(w:World):Ret Tryz.prog 24 [] w fun u w'=>u=.bool true∧Below w.heap.size w w':=by
 refine ent24 _ _ ?_
 simp (disch:=first|omega|exact zF rfl|exact zG rfl|exact fun h=>h|(simp only[zA,zB,zC,zD,bytesW];omega)) only[go_sem]
 refine Ret.mono (begun08_ok (n:=40) 40 (St.start (W0:=w)) (by decide) (by decide) (by decide)) ?_
 rintro _ w2 ⟨e,rfl,_,_,hmx,h2⟩
 have hg2:=fmt_given (P:=List.replicate 40 zeroB) (n:=40) List.length_replicate (by decide) (by decide)
 have hp2:=hpN_start (mx:=40) (n:=40) (i:=0) (by decide) (by decide) (by decide) (by decide)
 have hr2:rootM (fmtP (List.replicate 40 zeroB)) 0=0:=hp2.root
 generalize fmtP (List.replicate 40 zeroB)=P2 at h2 hg2 hr2
 clear hp2
 have hl2:=hg2.len
 simp (disch:=first|omega|exact zF rfl|exact zG rfl|exact fun h=>h|(simp only[zA,zB,zC,zD,bytesW];omega)) only[go_sem]
 refine Ret.mono (topened_ok h2 (by omega) (by decide)) ?_
 rintro _ w3 ⟨tb,rfl,h3⟩
 simp (disch:=first|omega|exact zF rfl|exact zG rfl|exact fun h=>h|(simp only[zA,zB,zC,zD,bytesW];omega)) only[go_sem]
 refine Ret.mono (tput_first [98] [49] h3 hg2 hr2 (by decide) (by omega) (by decide) (by decide)) ?_
 rintro _ w4 ⟨rfl,P4,h4,t4⟩
 have hl4:=t4.given.len
 have hok4:chkN P4 (2:Nat)=0:=by rw [t4.given.chk (by decide) (by decide)]; rfl
 have hf4:=h4.full (P4.getD 2 []) (by rw [List.getD_eq_getElem?_getD,List.getElem?_eq_getElem (by omega)]; exact List.getElem_mem _)
 simp (disch:=first|omega|exact zF rfl|exact zG rfl|exact fun h=>h|(simp only[zA,zB,zC,zD,bytesW];omega)) only[go_sem]
 refine Ret.mono (tput_more (l':=[([97],[50]),([98],[49])]) [97] [50] h4 t4 (by decide) (by decide) (by decide) fun wz hz=>put_new [97] [50] hz (by omega) (by decide) hok4 (by omega) t4.leaf (by omega) place_a (by decide) (by decide) (by decide) (by decide)) ?_
 rintro _ w5 ⟨rfl,P5,h5,t5⟩
 have hl5:=t5.given.len
 have hok5:chkN P5 (2:Nat)=0:=by rw [t5.given.chk (by decide) (by decide)]; rfl
 have hf5:=h5.full (P5.getD 2 []) (by rw [List.getD_eq_getElem?_getD,List.getElem?_eq_getElem (by omega)]; exact List.getElem_mem _)
 simp (disch:=first|omega|exact zF rfl|exact zG rfl|exact fun h=>h|(simp only[zA,zB,zC,zD,bytesW];omega)) only[go_sem]
 refine Ret.mono (tput_more (l':=[([97],[50]),([98],[51])]) [98] [51] h5 t5 (by decide) (by decide) (by decide) fun wz hz=>put_old (n:=1) [98] [51] hz (by omega) (by decide) hok5 (by omega) t5.leaf (by omega) place_b (by decide) rfl (by decide) (by decide) (by decide)) ?_
 rintro _ w6 ⟨rfl,P6,h6,t6⟩
 simp (disch:=first|omega|exact zF rfl|exact zG rfl|exact fun h=>h|(simp only[zA,zB,zC,zD,bytesW];omega)) only[go_sem]
 obtain ⟨l6,hl6⟩:∃ l,l=[(([97]:List UInt8),([50]:List UInt8)),([98],[51])]:=⟨_,rfl⟩
 rw [← hl6] at t6
 have hl6':=t6.given.len
 have hl6n:=t6.big
 refine Ret.mono (all_ok h6 (by omega)) ?_
 rw [leaf_take [] t6 (by rw [hl6]; decide) (by decide),fromK_nil]
 rintro ua w7 h7
 obtain ⟨va,vc,rfl,_⟩:=own_slice (h7.row 0 rfl)
 simp (disch:=first|omega|exact zF rfl|exact zG rfl|exact fun h=>h|(simp only[zA,zB,zC,zD,bytesW];omega)) only[go_sem]
 refine bdW_built (cells:=(prE ([97],[50])).toArray) (by kernel_rfl) ?_
 simp (disch:=first|omega|exact zF rfl|exact zG rfl|exact fun h=>h|(simp only[zA,zB,zC,zD,bytesW];omega)) only[go_sem]
 refine bdW_built (cells:=(prE ([98],[51])).toArray) (by kernel_rfl) ?_
 simp (disch:=first|omega|exact zF rfl|exact zG rfl|exact fun h=>h|(simp only[zA,zB,zC,zD,bytesW];omega)) only[go_sem]
 refine bsW_cells (cells:=([(([97]:List UInt8),([50]:List UInt8)),([98],[51])].flatMap prE).toArray) ty46mkI (by decide) (by decide) (by kernel_rfl) ?_
 rw [← hl6]
 have h8:=h7.box (l6.flatMap prE).toArray 53
 have hr8:RdS (w7.alloc (.cells (l6.flatMap prE).toArray 53)) 2 prE (.slice (some ⟨w7.heap.size,0,none⟩) 2 2) l6:=by
  rw [hl6]; exact rd_new (n:=2) (cs:=([(([97]:List UInt8),([50]:List UInt8)),([98],[51])].flatMap prE).toArray) rfl
 generalize w7.heap.size=b8 at h8 hr8 ⊢
 generalize w7.alloc (.cells (l6.flatMap prE).toArray 53)=w8 at h8 hr8 ⊢
 have hra:RdS w8 2 prE (.slice va l6.length vc) l6:=RdS.of_own' (h8.row 1 rfl) l6 rfl rfl
 simp (disch:=first|omega|exact zF rfl|exact zG rfl|exact fun h=>h|(simp only[zA,zB,zC,zD,bytesW];omega)) only[go_sem]
 refine Ret.mono (same_ok w8 hra hr8 (by rw [hl6]; decide)) ?_
 rintro _ w9 ⟨rfl,b9⟩
 have h9:=(h8.below b9).sub (L':=[trB tb e 0]) (.cons _ (.cons _ (List.Sublist.refl _)))
 simp (disch:=first|omega|exact zF rfl|exact zG rfl|exact fun h=>h|(simp only[zA,zB,zC,zD,bytesW];omega)) only[go_sem]
 refine Ret.mono (some_ok [97,97] 9 h9 (by omega) (by decide)) ?_
 rw [leaf_take [97,97] t6 (by rw [hl6]; decide) (by decide)]
 have ef:fromK [97,97] l6=[(([98]:List UInt8),([51]:List UInt8))]:=by rw [hl6]; decide
 rw [ef]
 rintro ub w10 h10
 obtain ⟨va2,vc2,rfl,_⟩:=own_slice (h10.row 0 rfl)
 simp (disch:=first|omega|exact zF rfl|exact zG rfl|exact fun h=>h|(simp only[zA,zB,zC,zD,bytesW];omega)) only[go_sem]
 obtain ⟨lm,hlm⟩:∃ l,l=[(([98]:List UInt8),([51]:List UInt8))]:=⟨_,rfl⟩
 have elm:lm.length=1:=by rw [hlm]; rfl
 have h10:Pgr e P6 w w10 (fun _=>False) [.row (.slice va2 lm.length vc2) 53 2 lm.length (lm.flatMap prE),trB tb e 0] []:=by rw [hlm]; exact h10
 refine bdW_built (cells:=(prE ([98],[51])).toArray) (by kernel_rfl) ?_
 simp (disch:=first|omega|exact zF rfl|exact zG rfl|exact fun h=>h|(simp only[zA,zB,zC,zD,bytesW];omega)) only[go_sem]
 refine bsW_cells (cells:=(lm.flatMap prE).toArray) ty46mkI (by decide) (by decide) (by rw [hlm]; kernel_rfl) ?_
 have h11:=h10.box (lm.flatMap prE).toArray 53
 have hr11:RdS (w10.alloc (.cells (lm.flatMap prE).toArray 53)) 2 prE (.slice (some ⟨w10.heap.size,0,none⟩) 1 1) lm:=by
  rw [hlm]; exact rd_new (n:=1) (cs:=([(([98]:List UInt8),([51]:List UInt8))].flatMap prE).toArray) rfl
 generalize w10.heap.size=b11 at h11 hr11 ⊢
 generalize w10.alloc (.cells (lm.flatMap prE).toArray 53)=w11 at h11 hr11 ⊢
 have hra:RdS w11 2 prE (.slice va2 lm.length vc2) lm:=RdS.of_own' (h11.row 1 rfl) lm rfl rfl
 rw [elm] at hra
 simp (disch:=first|omega|exact zF rfl|exact zG rfl|exact fun h=>h|(simp only[zA,zB,zC,zD,bytesW];omega)) only[go_sem]
 refine Ret.mono (same_ok w11 hra hr11 (by omega)) ?_
 rintro _ w12 ⟨rfl,b12⟩
 have h12:=(h11.below b12).sub (L':=[trB tb e 0]) (.cons _ (.cons _ (List.Sublist.refl _)))
 simp (disch:=first|omega|exact zF rfl|exact zG rfl|exact fun h=>h|(simp only[zA,zB,zC,zD,bytesW];omega)) only[go_sem]
 have e2:l6.length=2:=by rw [hl6]; rfl
 refine Ret.mono (tcount_ok h12 (by omega)) ?_
 rw [leaf_cnt t6]
 rintro _ w13 ⟨rfl,h13⟩
 rw [e2]
 simp (disch:=first|omega|exact zF rfl|exact zG rfl|exact fun h=>h|(simp only[zA,zB,zC,zD,bytesW];omega)) only[go_sem]
 exact ⟨by decide,h13.bel⟩
open Go Go.Ann Go.RowKit Go.WideShapes Go.Shelf
structure BActT where
 Kind:Int
 Key:List UInt8
 Val:List UInt8
deriving DecidableEq
def BActT.enc(a:BActT):List Value:=[.int .i64 a.Kind,.string (ofL a.Key),.string (ofL a.Val)]
def BActT.wf(a:BActT):Prop:=kOk .i64 a.Kind∧(a.Key.length:Int)≤9223372036854775807∧(a.Val.length:Int)≤9223372036854775807
theorem BActT.len(a:BActT):a.enc.length=3:=rfl
theorem BActT.at(a:BActT):a.enc[0]?=some (.int .i64 a.Kind)∧a.enc[1]?=some (.string (ofL a.Key))∧a.enc[2]?=some (.string (ofL a.Val)):=⟨rfl,rfl,rfl⟩
theorem opens_BActT:Opens Tryz.prog 40 (fun _ (a:BActT) cs=>cs=a.enc∧a.wf):=by
 intro H enc w base sp hd fuel cs x hx
 obtain ⟨hl,hf⟩:=opens_fields Tryz.underlying40 hx
 rw [show Tryz.prog.cellsOf 40=3 by kernel_rfl] at hl
 have c_0:Tryz.prog.cellsOf 3=1:=by kernel_rfl
 have c_1:Tryz.prog.cellsOf 9=1:=by kernel_rfl
 match cs,hl with
 | [v0,v1,v2],_ =>
  obtain ⟨n0,y0,g0⟩:=hf 0 _ rfl
  have h0:DataW.trod enc Tryz.prog w base sp hd n0 3 (List.take (Tryz.prog.cellsOf 3) [v0,v1,v2])=some y0:=g0
  rw [c_0] at h0
  obtain ⟨a0,e0⟩:=opens_int Tryz.underlying3 enc w base sp hd n0 [v0] y0 h0
  have r0:v0=_:=(List.cons.inj e0.1).1
  obtain ⟨n1,y1,g1⟩:=hf 1 _ rfl
  have h1:DataW.trod enc Tryz.prog w base sp hd n1 9 (List.take (Tryz.prog.cellsOf 9) [v1,v2])=some y1:=g1
  rw [c_1] at h1
  obtain ⟨a1,e1⟩:=opens_str Tryz.underlying9 enc w base sp hd n1 [v1] y1 h1
  have r1:v1=_:=(List.cons.inj e1.1).1
  obtain ⟨n2,y2,g2⟩:=hf 2 _ rfl
  have h2:DataW.trod enc Tryz.prog w base sp hd n2 9 (List.take (Tryz.prog.cellsOf 9) [v2])=some y2:=g2
  rw [c_1] at h2
  obtain ⟨a2,e2⟩:=opens_str Tryz.underlying9 enc w base sp hd n2 [v2] y2 h2
  have r2:v2=_:=(List.cons.inj e2.1).1
  exact ⟨⟨a0,a1,a2⟩,by rw [r0,r1,r2]; rfl,e0.2,e1.2,e2.2⟩
open Go Go.Ann Go.RowKit Go.WideShapes Go.Shelf
structure BPageT where
 At:Int
 Data:List UInt8
deriving DecidableEq
def BPageT.enc(a:BPageT):List Value:=[.int .i64 a.At,.string (ofL a.Data)]
def BPageT.wf(a:BPageT):Prop:=kOk .i64 a.At∧(a.Data.length:Int)≤9223372036854775807
theorem BPageT.len(a:BPageT):a.enc.length=2:=rfl
theorem BPageT.at(a:BPageT):a.enc[0]?=some (.int .i64 a.At)∧a.enc[1]?=some (.string (ofL a.Data)):=⟨rfl,rfl⟩
theorem opens_BPageT:Opens Tryz.prog 44 (fun _ (a:BPageT) cs=>cs=a.enc∧a.wf):=by
 intro H enc w base sp hd fuel cs x hx
 obtain ⟨hl,hf⟩:=opens_fields Tryz.underlying44 hx
 rw [show Tryz.prog.cellsOf 44=2 by kernel_rfl] at hl
 have c_0:Tryz.prog.cellsOf 3=1:=by kernel_rfl
 have c_1:Tryz.prog.cellsOf 9=1:=by kernel_rfl
 match cs,hl with
 | [v0,v1],_ =>
  obtain ⟨n0,y0,g0⟩:=hf 0 _ rfl
  have h0:DataW.trod enc Tryz.prog w base sp hd n0 3 (List.take (Tryz.prog.cellsOf 3) [v0,v1])=some y0:=g0
  rw [c_0] at h0
  obtain ⟨a0,e0⟩:=opens_int Tryz.underlying3 enc w base sp hd n0 [v0] y0 h0
  have r0:v0=_:=(List.cons.inj e0.1).1
  obtain ⟨n1,y1,g1⟩:=hf 1 _ rfl
  have h1:DataW.trod enc Tryz.prog w base sp hd n1 9 (List.take (Tryz.prog.cellsOf 9) [v1])=some y1:=g1
  rw [c_1] at h1
  obtain ⟨a1,e1⟩:=opens_str Tryz.underlying9 enc w base sp hd n1 [v1] y1 h1
  have r1:v1=_:=(List.cons.inj e1.1).1
  exact ⟨⟨a0,a1⟩,by rw [r0,r1]; rfl,e0.2,e1.2⟩
theorem bkOk_i64{n:Int}(h:kOk .i64 n):I64 n:=by
 unfold kOk Lit.wf at h
 simp [IntKind.min,IntKind.max,IntKind.signed,IntKind.bits] at h
 exact ⟨by omega,by omega⟩
theorem BPageT.ints(a:BPageT)(h:a.wf):I64 a.At∧I64 a.Data.length:=by
 obtain ⟨h1,h2⟩:=h
 exact ⟨bkOk_i64 h1,⟨by omega,by omega⟩⟩
theorem blong_ok(a:BActT)(h:a.wf)(w:World):Ret Tryz.prog 17 [.agg a.enc.toArray] w fun u w'=>(∃ b,u=.bool b)∧Below w.heap.size w w':=by
 have b1:=(Below.refl _ w).alloc (Nat.le_refl _) (.cells a.enc.toArray 40)
 refine ent17 _ _ _ ?_
 simp (disch:=first|omega|exact zF rfl|exact zG rfl|exact fun h=>h|(simp only[zA,zB,zC,zD,bytesW];omega)) only[go_sem,BActT.enc]
 exact b1
theorem good_zero(n:Nat):GoodP (List.replicate n zeroB):=by
 intro a _ nd h
 rw [List.getD_eq_getElem?_getD,List.getElem?_replicate] at h
 split at h
 ·rw [Option.getD_some] at h
  have e:zeroB=0::0::List.replicate 254 0:=by decide
  rw [e,parseP,if_pos ⟨by decide,by decide⟩] at h
  cases h
 ·cases h
set_option maxHeartbeats 1000000 in
theorem raw_ok{va vp:Value}{acts:List BActT}{pgs:List BPageT}(w:World)(ha:RdS w 3 BActT.enc va acts)(hwa:∀ a∈acts,a.wf)(hal:(acts.length:Int)≤9223372036854775807)(hp:RdS w 2 BPageT.enc vp pgs)(hwp:∀ a∈pgs,a.wf)(hpl:(pgs.length:Int)≤9223372036854775807) :
  Ret Tryz.prog 4 [va,vp] w fun u w'=>u=.bool true∧Below w.heap.size w w':=by
 obtain ⟨a,c,rfl,_⟩:=ha.form
 obtain ⟨pa,pc,rfl,_⟩:=hp.form
 refine ent4 _ _ _ _ ?_
 simp (disch:=first|omega|exact zF rfl|exact zG rfl|exact fun h=>h|(simp only[zA,zB,zC,zD,bytesW];omega)) only[go_sem,c4L0,c4L1,c4L2,c4S11,c4S17,c4S18]
 refine Ret.mono (begun08_ok (n:=60) 60 (St.start (W0:=w)) (by decide) (by decide) (by decide)) ?_
 rintro _ w2 ⟨e,rfl,_,_,hmx,h2⟩
 have hg0:GoodP (fmtP (List.replicate 60 zeroB)):=good_low (good_low (good_zero 60) (by decide)) (by decide)
 have hlen0:(fmtP (List.replicate 60 zeroB)).length=60:=by unfold fmtP; rw [List.length_set,List.length_set,List.length_replicate]
 generalize fmtP (List.replicate 60 zeroB)=P2 at h2 hg0 hlen0
 simp (disch:=first|omega|exact zF rfl|exact zG rfl|exact fun h=>h|(simp only[zA,zB,zC,zD,bytesW];omega)) only[go_sem,c4L0,c4L1,c4L2,c4S11,c4S17,c4S18]
 refine Ret.mono (topened_ok h2 (by omega) (by decide)) ?_
 rintro _ w3 ⟨tb,rfl,h3⟩
 simp (disch:=first|omega|exact zF rfl|exact zG rfl|exact fun h=>h|(simp only[zA,zB,zC,zD,bytesW];omega)) only[go_sem,c4L1,c4L2,c4S11,c4S17,c4S19]
 -- the end
 have fin:∀ w',Below w.heap.size w w'→Ret Tryz.prog 24 [] w' fun u w''=>u=.bool true∧Below w.heap.size w w'':=fun w' hb=>Ret.mono (tawake_ok w') fun u w'' h=>⟨h.1,Below.next hb h.2⟩
 have tail2:∀ (P:List Txt) (w4:World),P.length=60→Pgr e P w w4 (fun _=>False) [trB tb e 0] []→W Tryz.prog (c4S17 ()) [(7,Value.pointer (some ⟨tb,0,none⟩))] w4 (finQ Tryz.prog [.tmp 4] fun u w'=>u=.bool true∧Below w.heap.size w w'):=by
  intro P w4 hl h4
  simp (disch:=first|omega|exact zF rfl|exact zG rfl|exact fun h=>h|(simp only[zA,zB,zC,zD,bytesW];omega)) only[go_sem,c4L0,c4L1,c4L2,c4S11,c4S17,c4S18,c4S19]
  refine Ret.mono (sound_ok h4 (by omega)) ?_
  rintro _ w5 ⟨rfl,h5⟩
  simp (disch:=first|omega|exact zF rfl|exact zG rfl|exact fun h=>h|(simp only[zA,zB,zC,zD,bytesW];omega)) only[go_sem,c4L0,c4L1,c4L2,c4S11,c4S17,c4S18,c4S19]
  refine Ret.mono (some_ok [] 3000 h5 (by omega) (by decide)) ?_
  rintro u w6 h6
  have raw:=fun h=>sound_raw (P:=P) (by omega) h
  generalize fromP P (takeF 3000) [] []=l at h6 raw
  obtain ⟨ua,uc,rfl,_⟩:=own_slice (h6.row 0 rfl)
  simp (disch:=first|omega|exact zF rfl|exact zG rfl|exact fun h=>h|(simp only[zA,zB,zC,zD,bytesW];omega)) only[go_sem,c4L0,c4L1,c4L2,c4S11,c4S17,c4S18,c4S19]
  refine Ret.mono (pages_ok (h6.perm (List.Perm.swap _ _ _)) (by omega)) ?_
  rintro _ w7 h7
  simp (disch:=first|omega|exact zF rfl|exact zG rfl|exact fun h=>h|(simp only[zA,zB,zC,zD,bytesW];omega)) only[go_sem,c4L0,c4L1,c4L2,c4S11,c4S17,c4S18,c4S19]
  refine Ret.mono (depth_ok h7 (by omega)) ?_
  rintro _ w8 h8
  cases hb:(lookP P).bad with
  | true =>
   simp (disch:=first|omega|exact zF rfl|exact zG rfl|exact fun h=>h|(simp only[zA,zB,zC,zD,bytesW];omega)) only[go_sem,c4L0,c4L1,c4L2,c4S11,c4S17,c4S18,c4S19]
   refine Ret.mono (fin w8 h8.bel) ?_
   rintro _ w9 ⟨rfl,b9⟩
   simp (disch:=first|omega|exact zF rfl|exact zG rfl|exact fun h=>h|(simp only[zA,zB,zC,zD,bytesW];omega)) only[go_sem,c4L0,c4L1,c4L2,c4S11,c4S17,c4S18,c4S19]
   exact b9
  | false =>
   have raw:=raw hb
   have hfew:=raw.few
   simp (disch:=first|omega|exact zF rfl|exact zG rfl|exact fun h=>h|(simp only[zA,zB,zC,zD,bytesW];omega)) only[go_sem,c4L0,c4L1,c4S11,c4S17,c4S18,c4S19]
   have h9:=h8
   clear h6 h7 h8
   refine W_loopU (fun k:Nat=>[(12,.int .i64 k)]) (fun k w'=>k≤l.length∧Pgr e P w w' (fun _=>False) [trB tb e 0,.row (.slice ua l.length uc) 53 2 l.length (l.flatMap prE)] []) (fun k=>l.length - k) 0 rfl ⟨Nat.zero_le _,h9⟩ ?_
   clear h9
   rintro k w9 ⟨hk,h9⟩
   by_cases hlt:k<l.length
   case neg =>
    have hlt':¬ (k:Int)<l.length:=by omega
    simp (disch:=first|omega|exact zF rfl|exact zG rfl|exact fun h=>h|(simp only[zA,zB,zC,zD,bytesW];omega)) only[go_sem,c4L0,c4L1,c4L2,c4S11,c4S17,c4S18,c4S19,c4L2,hlt']
    refine Ret.mono (fin w9 h9.bel) ?_
    rintro _ w10 ⟨rfl,b10⟩
    simp (disch:=first|omega|exact zF rfl|exact zG rfl|exact fun h=>h|(simp only[zA,zB,zC,zD,bytesW];omega)) only[go_sem,c4L0,c4L1,c4L2,c4S11,c4S17,c4S18,c4S19]
    exact b10
   have hlt':(k:Int)<l.length:=by omega
   have hrl:RdS w9 2 prE (.slice ua l.length uc) l:=RdS.of_own' (h9.row 1 rfl) l rfl rfl
   obtain ⟨up,rfl⟩:=hrl.ptr (by omega)
   have prl:∀ x:Rec,(prE x).length=2:=fun _=>rfl
   have pat:∀ x:Rec,(prE x)[0]?=some (.string (ofL x.1))∧(prE x)[1]?=some (.string (ofL x.2)):=fun _=>⟨rfl,rfl⟩
   have el:=hrl.eltB (Below.refl _ _) prl (by decide) hlt
   have rv:=pat l[k]
   simp (disch:=first|omega|exact zF rfl|exact zG rfl|exact fun h=>h|(simp only[zA,zB,zC,zD,bytesW];omega)) only[go_sem,c4L0,c4L1,c4L2,c4S11,c4S17,c4S18,c4S19,c4L2,hlt',el,rv]
   have hmem:=List.getElem_mem hlt
   have hne:l≠[]:=fun h=>by rw [h] at hlt; simp at hlt
   refine ⟨by omega,Ret.mono (tget_ok l[k].1 l[k].2 h9 (by omega) (raw.root hne) (raw.got _ hmem)) ?_⟩
   rintro _ w10 ⟨rfl,h10⟩
   simp (disch:=first|omega|exact zF rfl|exact zG rfl|exact fun h=>h|(simp only[zA,zB,zC,zD,bytesW];omega)) only[go_sem,c4L0,c4L1,c4L2,c4S17,c4S18,c4S19]
   refine c4draw2 ?_
   have h11:=h10.drew
   generalize w10.drew=w11 at h11 ⊢
   have hrl:RdS w11 2 prE (.slice (some up) l.length uc) l:=RdS.of_own' (h11.row 1 rfl) l rfl rfl
   have el:=hrl.eltB (Below.refl _ _) prl (by decide) hlt
   obtain ⟨f1,f2,f3⟩:=raw.fit _ hmem
   have f2':¬ (32:Int)<l[k].1.length:=by omega
   have f3':¬ (80:Int)<l[k].2.length:=by omega
   by_cases hk0:k=0
   ·have hk0':¬ (0:Int)<k:=by omega
    simp (disch:=first|omega|exact zF rfl|exact zG rfl|exact fun h=>h|(simp only[zA,zB,zC,zD,bytesW];omega)) only[go_sem,c4L0,c4L1,c4L2,c4S17,c4S18,c4S19,c4D2,el,rv,hlt',hk0',f1,f2',f3']
    exact ⟨by omega,by omega,by omega,by omega,⟨by omega,by omega⟩,k+1,rfl,⟨hlt,h11⟩,by omega⟩
   ·have hk0':(0:Int)<k:=by omega
    have hj:k - 1<l.length:=by omega
    have ej:w11.cell? (up.add (((k:Int) - 1).toNat * 2))=some (.string (ofL l[k - 1].1)):=by
     rw [show ((k:Int) - 1).toNat=k - 1 by omega]
     exact (hrl.eltB (Below.refl _ _) prl (by decide) hj).1
    have hless:=List.pairwise_iff_getElem.1 raw.ups (k - 1) k hj hlt (by omega)
    simp (disch:=first|omega|exact zF rfl|exact zG rfl|exact fun h=>h|(simp only[zA,zB,zC,zD,bytesW];omega)) only[go_sem,c4L0,c4L1,c4L2,c4S17,c4S18,c4S19,c4D2,el,rv,hlt',hk0',f1,f2',f3',ej,hless]
    exact ⟨by omega,⟨by omega,by omega⟩,⟨by omega,by omega⟩,by omega,by omega,by omega,by omega,⟨by omega,by omega⟩,k+1,rfl,⟨hlt,h11⟩,by omega⟩
 have tail1:∀ (P:List Txt) (w4:World),P.length=60→Pgr e P w w4 (fun _=>False) [trB tb e 0] []→W Tryz.prog (c4S18 ()) [(1,Value.slice pa pgs.length pc),(6,Value.pointer (some ⟨e.p,0,none⟩)),(7,Value.pointer (some ⟨tb,0,none⟩))] w4 (finQ Tryz.prog [.tmp 4] fun u w'=>u=.bool true∧Below w.heap.size w w'):=by
  intro P w4 hl h4
  simp (disch:=first|omega|exact zF rfl|exact zG rfl|exact fun h=>h|(simp only[zA,zB,zC,zD,bytesW];omega)) only[go_sem,c4L0,c4L2,c4S11,c4S18,c4S19]
  refine W_loopU (fun k:Nat=>[(9,.int .i64 k)]) (fun k w'=>k≤pgs.length∧∃ P,P.length=60∧Pgr e P w w' (fun _=>False) [trB tb e 0] []) (fun k=>pgs.length - k) 0 rfl ⟨Nat.zero_le _,P,hl,h4⟩ ?_
  clear h4 hl
  rintro k w5 ⟨hk,P5,l5,h5⟩
  by_cases hlt:k<pgs.length
  case neg =>
   have hlt':¬ (k:Int)<pgs.length:=by omega
   simp (disch:=first|omega|exact zF rfl|exact zG rfl|exact fun h=>h|(simp only[zA,zB,zC,zD,bytesW];omega)) only[go_sem,c4L0,c4L1,c4L2,c4S11,c4S18,c4S19,c4L1,hlt']
   exact tail2 P5 w5 l5 h5
  have hlt':(k:Int)<pgs.length:=by omega
  by_cases hk10:(k:Int)<10
  case neg =>
   simp (disch:=first|omega|exact zF rfl|exact zG rfl|exact fun h=>h|(simp only[zA,zB,zC,zD,bytesW];omega)) only[go_sem,c4L0,c4L1,c4L2,c4S11,c4S18,c4S19,c4L1,hlt',hk10]
   exact tail2 P5 w5 l5 h5
  obtain ⟨pp,rfl⟩:=hp.ptr (by omega)
  have el:=hp.eltB h5.bel BPageT.len (by decide) hlt
  have rv:=BPageT.at pgs[k]
  have hw:=BPageT.ints _ (hwp _ (List.getElem_mem hlt))
  have cap:=fun w' (hb:Below w.heap.size w w')=>hp.eltB hb BPageT.len (by decide) hlt
  generalize pgs[k]=g at *
  simp (disch:=first|omega|exact zF rfl|exact zG rfl|exact fun h=>h|(simp only[zA,zB,zC,zD,bytesW];omega)) only[go_sem,c4L0,c4L1,c4L2,c4S11,c4S18,c4S19,c4L1,hlt',hk10,el,rv]
  have next:∀ (P':List Txt) (w':World),P'.length=60→Pgr e P' w w' (fun _=>False) [trB tb e 0] []→(k+1≤pgs.length∧∃ P,P.length=60∧Pgr e P w w' (fun _=>False) [trB tb e 0] []):=fun P' w' l h=>⟨hlt,P',l,h⟩
  refine ⟨by omega,fun _=>?_,fun _=>⟨⟨by omega,by omega⟩,k+1,rfl,next P5 w5 l5 h5,by omega⟩⟩
  refine c4draw1 (Same (fun b=>b=pp.block) _) (Same.refl _ _) ?_
  have h6:=h5.drew
  generalize w5.drew=w6 at h6 ⊢
  have el:=cap w6 h6.bel
  simp (disch:=first|omega|exact zF rfl|exact zG rfl|exact fun h=>h|(simp only[zA,zB,zC,zD,bytesW];omega)) only[go_sem,c4L0,c4L1,c4L2,c4S11,c4S17,c4S18,c4S19,c4D1,hlt']
  refine ⟨by omega,by omega,heldS_held (add_block _ _) ?_⟩
  simp (disch:=first|omega|exact zF rfl|exact zG rfl|exact fun h=>h|(simp only[zA,zB,zC,zD,bytesW];omega)) only[go_sem,c4L0,c4L1,c4L2,c4S11,c4S17,c4S18,c4S19,c4D1,el,rv]
  refine ⟨Same.refl _ _,Ret.mono (pset_ok g.At g.Data h6 (by omega) hw.1 (fun hc=>by have:=(chk_in hc).2; omega)) ?_⟩
  rintro _ w7 ⟨rfl,h7⟩
  simp (disch:=first|omega|exact zF rfl|exact zG rfl|exact fun h=>h|(simp only[zA,zB,zC,zD,bytesW];omega)) only[go_sem,c4L0,c4L1,c4L2,c4S11,c4S18,c4S19]
  exact ⟨⟨by omega,by omega⟩,k+1,rfl,next _ w7 ((Pgr.same h7 h6).trans l5) h7,by omega⟩
 refine W_loopU (fun k:Nat=>[(8,.int .i64 k)]) (fun k w'=>k≤acts.length∧∃ P,GoodP P∧P.length=60∧Pgr e P w w' (fun _=>False) [trB tb e 0] []) (fun k=>acts.length - k) 0 rfl ⟨Nat.zero_le _,P2,hg0,hlen0,h3⟩ ?_
 clear h2 h3 hg0 hlen0
 rintro k w4 ⟨hk,P4,g4,l4,h4⟩
 by_cases hlt:k<acts.length
 case neg =>
  have hlt':¬ (k:Int)<acts.length:=by omega
  simp (disch:=first|omega|exact zF rfl|exact zG rfl|exact fun h=>h|(simp only[zA,zB,zC,zD,bytesW];omega)) only[go_sem,c4L0,c4L1,c4L2,c4S11,c4S17,c4S19,c4L0,hlt']
  exact tail1 P4 w4 l4 h4
 have hlt':(k:Int)<acts.length:=by omega
 by_cases hk40:(k:Int)<40
 case neg =>
  simp (disch:=first|omega|exact zF rfl|exact zG rfl|exact fun h=>h|(simp only[zA,zB,zC,zD,bytesW];omega)) only[go_sem,c4L0,c4L1,c4L2,c4S11,c4S17,c4S19,c4L0,hlt',hk40]
  exact tail1 P4 w4 l4 h4
 obtain ⟨ap,rfl⟩:=ha.ptr (by omega)
 have el:=ha.eltB h4.bel BActT.len (by decide) hlt
 have ea:=(ha.below h4.bel (by decide)).at BActT.len hlt
 have rv:=BActT.at acts[k]
 have hw:=hwa _ (List.getElem_mem hlt)
 have hlen:=BActT.len acts[k]
 have cap:=fun w' (hb:Below w.heap.size w w')=>ha.eltB hb BActT.len (by decide) hlt
 generalize acts[k]=a at *
 simp (disch:=first|omega|exact zF rfl|exact zG rfl|exact fun h=>h|(simp only[zA,zB,zC,zD,bytesW];omega)) only[go_sem,c4L0,c4L1,c4L2,c4S11,c4S17,c4S19,c4L0,hlt',hk40,el,ea,rv]
 have next:∀ (P':List Txt) (w':World),GoodP P'→P'.length=60→Pgr e P' w w' (fun _=>False) [trB tb e 0] []→(k+1≤acts.length∧∃ P,GoodP P∧P.length=60∧Pgr e P w w' (fun _=>False) [trB tb e 0] []):=fun P' w' g l h=>⟨hlt,P',g,l,h⟩
 refine ⟨by omega,fun _=>⟨by omega,Ret.mono (blong_ok a hw w4) ?_⟩,fun _=>⟨⟨by omega,by omega⟩,k+1,rfl,next P4 w4 g4 l4 h4,by omega⟩⟩
 rintro _ w5 ⟨⟨b,rfl⟩,b5⟩
 have h5:=h4.below b5
 cases b with
 | true =>
  simp (disch:=first|omega|exact zF rfl|exact zG rfl|exact fun h=>h|(simp only[zA,zB,zC,zD,bytesW];omega)) only[go_sem,c4L0,c4L1,c4L2,c4S11,c4S17,c4S19]
  exact ⟨⟨by omega,by omega⟩,k+1,rfl,next P4 w5 g4 l4 h5,by omega⟩
 | false =>
  simp (disch:=first|omega|exact zF rfl|exact zG rfl|exact fun h=>h|(simp only[zA,zB,zC,zD,bytesW];omega)) only[go_sem,c4L0,c4L1,c4L2,c4S11,c4S17,c4S19]
  refine c4draw0 (Same (fun b=>b=ap.block) _) (Same.refl _ _) ?_
  have h6:=h5.drew
  generalize w5.drew=w6 at h6 ⊢
  have el:=cap w6 h6.bel
  simp (disch:=first|omega|exact zF rfl|exact zG rfl|exact fun h=>h|(simp only[zA,zB,zC,zD,bytesW];omega)) only[go_sem,c4L0,c4L1,c4L2,c4S11,c4S17,c4S18,c4S19,c4D0,el,rv,hlt']
  refine ⟨by omega,by omega,Same.refl _ _,Ret.mono (gPut_ok a.Key a.Val h6 (by omega) (by omega) g4) ?_⟩
  rintro _ w7 ⟨⟨er,rfl⟩,P7,g7,h7⟩
  simp (disch:=first|omega|exact zF rfl|exact zG rfl|exact fun h=>h|(simp only[zA,zB,zC,zD,bytesW];omega)) only[go_sem,c4L0,c4L1,c4L2,c4S11,c4S17,c4S19]
  exact ⟨⟨by omega,by omega⟩,k+1,rfl,next P7 w7 g7 ((Pgr.same h7 h6).trans l4) h7,by omega⟩
theorem opens_BActs:Opens Tryz.prog 35 (fun w (xs:List BActT) cs=>∃ v,cs=[v]∧RdS w 3 BActT.enc v xs∧(∀ x∈xs,x.wf)∧(xs.length:Int)≤9223372036854775807) :=
 Opens.mono (opens_slice opens_BActT Tryz.underlying35 (by kernel_rfl)) fun w xs cs ⟨v,h1,h2,h3⟩ =>
  have h:=h2.plain (enc:=BActT.enc) (ok:=BActT.wf) fun _ _ h=>h
  ⟨xs,v,h1,h.1,h.2,h3⟩
theorem opens_BPages:Opens Tryz.prog 36 (fun w (xs:List BPageT) cs=>∃ v,cs=[v]∧RdS w 2 BPageT.enc v xs∧(∀ x∈xs,x.wf)∧(xs.length:Int)≤9223372036854775807) :=
 Opens.mono (opens_slice opens_BPageT Tryz.underlying36 (by kernel_rfl)) fun w xs cs ⟨v,h1,h2,h3⟩ =>
  have h:=h2.plain (enc:=BPageT.enc) (ok:=BPageT.wf) fun _ _ h=>h
  ⟨xs,v,h1,h.1,h.2,h3⟩
theorem btreeRaw_law{H:Type}{enc:TypeId × Value→H}{w:World}{r r1:Reach}{b b1 base base1:Nat}{sp sp1:Nat→Bool}{hd hd1:Bool}{v v1:Value}{d d1:DataW H}{p p1:List MemPlace}
  (h0:Value.okWide Tryz.prog w r b 35 v) (k0:DataW.Trod enc Tryz.prog w base sp hd 35 v d p)
  (h1:Value.okWide Tryz.prog w r1 b1 36 v1) (k1:DataW.Trod enc Tryz.prog w base1 sp1 hd1 36 v1 d1 p1) :
  Ret Tryz.prog 4 [v,v1] w fun u w'=>u=.bool true∧Below w.heap.size w w':=by
 obtain ⟨xs,q1,q2,q3⟩:=Opens.slice_arg opens_BActs Tryz.underlying35 h0 k0
 obtain ⟨ys,q4,q5,q6⟩:=Opens.slice_arg opens_BPages Tryz.underlying36 h1 k1
 exact raw_ok w q1 q2 q3 q4 q5 q6
end Go.Proofs.YtkmjkmjpejmlnaaGreat

end
