/- Texts put together by program. -/
import Derived.Test.YteiciplnfjnfjaaGreatQA6
namespace Go.Proofs.YteiciplnfjnfjaaGreat
set_option linter.unusedSimpArgs false
set_option linter.unusedVariables false
set_option maxRecDepth 100000
open Go Go.Ann Go.RowKit
theorem pure_nodup {l:List OpT} (h:(l.map OpT.ID).Nodup):Cut.Pure l:=by
  induction l with
  | nil => exact fun a ha => by cases ha
  | cons x r ih =>
    rw [List.map_cons,List.nodup_cons] at h
    intro a ha b hb e
    rcases List.mem_cons.1 ha with e1 | ha1
    · rcases List.mem_cons.1 hb with e2 | hb1
      · rw [e1,e2]
      · exact absurd (by rw [← e1,e]; exact List.mem_map_of_mem hb1) h.1
    · rcases List.mem_cons.1 hb with e2 | hb1
      · exact absurd (by rw [← e2,← e]; exact List.mem_map_of_mem ha1) h.1
      · exact ih h.2 a ha1 b hb1 e
theorem pure_set {l:List OpT} (hp:Cut.Pure l) (o:OpT) (n:Int):Cut.Pure (wo l o.ID ++ [setR o n]):=by
  have hne:∀ x ∈ wo l o.ID,x.ID ≠ o.ID:=fun x hx => by
    have:=(List.mem_filter.1 hx).2
    simpa using this
  intro a ha b hb e
  rcases List.mem_append.1 ha with ha | ha
  · rcases List.mem_append.1 hb with hb | hb
    · exact Pure.wo hp _ a ha b hb e
    · rw [List.mem_singleton] at hb
      subst hb
      exact absurd e (hne a ha)
  · rw [List.mem_singleton] at ha
    subst ha
    rcases List.mem_append.1 hb with hb | hb
    · exact absurd e.symm (hne b hb)
    · rw [List.mem_singleton] at hb
      exact hb.symm
theorem MendR.one {ob kd left:Int} {l:List OpT} {r:List (OpT × Int)} {acc:List (Int × Int)} {x y:List (Int × Int) × Int} (hp:Cut.Pure l) (h:MendR ob kd l r left acc x) (k:MendR ob kd l r left acc y):x = y:=by
  induction h with
  | nil => cases k; rfl
  | same h _ ih =>
    cases k with
    | same _ k => exact ih k
    | no h' => exact absurd h h'
    | yes h' => exact absurd h h'
    | err h' => exact absurd h h'
  | no h ha _ ih =>
    cases k with
    | same h' => exact absurd h' h
    | no _ ha' k => cases ha.one (pure_set hp _ _) ha'; exact ih k
    | yes _ ha' => cases ha.one (pure_set hp _ _) ha'
    | err _ ha' he => cases ha.one (pure_set hp _ _) ha'; exact absurd rfl he
  | yes h ha _ ih =>
    cases k with
    | same h' => exact absurd h' h
    | no _ ha' => cases ha.one (pure_set hp _ _) ha'
    | yes _ ha' k => cases ha.one (pure_set hp _ _) ha'; exact ih k
    | err _ ha' he => cases ha.one (pure_set hp _ _) ha'; exact absurd rfl he
  | err h ha he =>
    cases k with
    | same h' => exact absurd h' h
    | no _ ha' => cases ha.one (pure_set hp _ _) ha'; exact absurd rfl he
    | yes _ ha' => cases ha.one (pure_set hp _ _) ha'; exact absurd rfl he
    | err _ ha' => cases ha.one (pure_set hp _ _) ha'; rfl
theorem MendO.one {ob kd bud:Int} {l:List OpT} {x y:List (Int × Int) × Int} (hp:Cut.Pure l) (h:MendO ob kd l bud x) (k:MendO ob kd l bud y):x = y:=by
  cases h with
  | err h he =>
    cases k with
    | err h' => cases h.one hp h'; rfl
    | ok h' => cases h.one hp h'; exact absurd rfl he
    | mend h' => cases h.one hp h'; exact absurd rfl he
  | ok h =>
    cases k with
    | err h' he' => cases h.one hp h'; exact absurd rfl he'
    | ok h' => rfl
    | mend h' => cases h.one hp h'
  | mend h hL hv k1 =>
    cases k with
    | err h' he' => cases h.one hp h'; exact absurd rfl he'
    | ok h' => cases h.one hp h'
    | mend h' hL' hv' k' => cases h.one hp h'; cases hL.one hL'; cases hv.one hv'; exact k1.one hp k'
end Go.Proofs.YteiciplnfjnfjaaGreat

namespace Go.Proofs.YteiciplnfjnfjaaGreat
set_option linter.unusedSimpArgs false
set_option linter.unusedVariables false
set_option maxRecDepth 100000
open Go Go.Ann Go.RowKit
theorem opsEq_ok (va vb:Value) (a b:List OpT) (w:World) (ha:RdS w 11 OpT.enc va a) (hb:RdS w 11 OpT.enc vb b) (hl:(a.length:Int) ≤ 9223372036854775806) :
    Ret Tryz.prog 26 [va,vb] w fun v w' => v = .bool (decide (a = b)) ∧ Below w.heap.size w w':=by
  obtain ⟨pa,ca,rfl,_⟩:=ha.form
  obtain ⟨pb,cb,rfl,_⟩:=hb.form
  refine ent26 _ _ _ _ ?_
  simp (disch:=first|omega|exact okFill_t rfl|exact okSize_t rfl|exact fun h=>h|(simp only[World.size_alloc,World.size_drew,World.size_setCell,size_fill,bytesW];omega)) only [go_sem,c26,c26S0,c26S1,c26S2,c26L0,c26S3,c26S4]
  refine ⟨fun h => ⟨(decide_eq_false fun e => h (by rw [e])).symm,Below.refl _ _⟩,fun h => ?_⟩
  refine W_loopU (fun k:Nat => [(5,.int .i64 k)]) (fun k w' => Below w.heap.size w w' ∧ k ≤ a.length ∧ ∀ j,(h1:j < a.length) → (h2:j < b.length) → j < k → a[j] = b[j]) (fun k => a.length - k) 0 rfl ⟨Below.refl _ _,Nat.zero_le _,fun j _ _ h => by omega⟩ ?_
  rintro k w1 ⟨hw,hk,he⟩
  by_cases hlt:k < a.length
  · obtain ⟨p,rfl⟩:=ha.ptr (by omega)
    obtain ⟨q,rfl⟩:=hb.ptr (by omega)
    have ea:=cellsO_below hw (ha.at OpT.len hlt)
    have eb:=cellsO_below hw (hb.at OpT.len (show k < b.length by omega))
    have hlt':(k:Int) < a.length:=by omega
    have hltb:(k:Int) < b.length:=by omega
    have hq:=OpT.eqs a[k] b[k]
    simp (disch:=first|omega|exact okFill_t rfl|exact okSize_t rfl|exact fun h=>h|(simp only[World.size_alloc,World.size_drew,World.size_setCell,size_fill,bytesW];omega)) only [go_sem,c26,c26S0,c26S1,c26S2,c26L0,c26S3,c26S4,hlt',hltb]
    refine c26draw0 ?_
    simp (disch:=first|omega|exact okFill_t rfl|exact okSize_t rfl|exact fun h=>h|(simp only[World.size_alloc,World.size_drew,World.size_setCell,size_fill,bytesW];omega)) only [go_sem,c26,c26S0,c26S1,c26S2,c26L0,c26S3,c26S4,c26D0,ea,eb,hlt',hltb,hq]
    refine ⟨by omega,by omega,fun hne => ⟨(decide_eq_false fun e => hne (by simp only [e])).symm,by (repeat' (first | with_reducible exact Below.refl _ _ | with_reducible assumption | (with_reducible refine Below.drew ?_) | (with_reducible refine Below.alloc ?_ ?_ _) | (with_reducible refine Below.setCell ?_ ?_ _) | (with_reducible refine Below.fill ?_ ?_) | (with_reducible refine Below.via (by assumption) ?_ ?_) | omega | (simp only [World.size_alloc,World.size_drew,World.size_setCell,size_fill,bytesW]; omega)))⟩,fun heq => ⟨⟨by omega,by omega⟩,k + 1,rfl,⟨by (repeat' (first | with_reducible exact Below.refl _ _ | with_reducible assumption | (with_reducible refine Below.drew ?_) | (with_reducible refine Below.alloc ?_ ?_ _) | (with_reducible refine Below.setCell ?_ ?_ _) | (with_reducible refine Below.fill ?_ ?_) | (with_reducible refine Below.via (by assumption) ?_ ?_) | omega | (simp only [World.size_alloc,World.size_drew,World.size_setCell,size_fill,bytesW]; omega))),by omega,fun j h1 h2 h3 => ?_⟩,by omega⟩⟩
    rcases Nat.lt_or_ge j k with h' | h'
    · exact he j h1 h2 h'
    · obtain rfl:j = k:=by omega
      exact heq
  · have hlt':¬ (k:Int) < a.length:=by omega
    simp (disch:=first|omega|exact okFill_t rfl|exact okSize_t rfl|exact fun h=>h|(simp only[World.size_alloc,World.size_drew,World.size_setCell,size_fill,bytesW];omega)) only [go_sem,c26,c26S0,c26S1,c26S2,c26L0,c26S3,c26S4,hlt']
    exact ⟨(decide_eq_true (Cut.take_all_eq (by omega) fun j h1 h2 => he j h1 h2 (by omega))).symm,hw⟩
theorem rfind_ok {w:World} {lv:Value} {l:List OpT} (id:Int) (h:RdS w 11 OpT.enc lv l) (hl:(l.length:Int) ≤ 9223372036854775806) :
    Ret Tryz.prog 34 [lv,.int .i64 id] w fun u w' => u = .int .i64 (Cut.firstI (fun o => decide (o.ID = id)) l) ∧ w' = w:=by
  obtain ⟨la,lc,rfl,_⟩:=h.form
  refine ent34 _ _ _ _ ?_
  simp (disch:=first|omega|exact okFill_t rfl|exact okSize_t rfl|exact fun h=>h|(simp only[World.size_alloc,World.size_drew,World.size_setCell,size_fill,bytesW];omega)) only [go_sem,c34,c34S0,c34S1,c34L0,c34S2]
  refine W_loopU (fun k:Nat => [(5,.int .i64 k)]) (fun k w' => w' = w ∧ k ≤ l.length ∧ ∀ j,(h:j < l.length) → j < k → ¬ l[j].ID = id) (fun k => l.length - k) 0 rfl ⟨rfl,Nat.zero_le _,fun j _ h => by omega⟩ ?_
  rintro k w2 ⟨e2,hk,hinv⟩
  subst w2
  by_cases hlt:k < l.length
  · have hlt':(k:Int) < l.length:=by omega
    obtain ⟨p,rfl⟩:=h.ptr (by omega)
    have eo:=h.eltB (Below.refl _ _) OpT.len (by decide) hlt
    have ao:=l[k].at
    simp (disch:=first|omega|exact okFill_t rfl|exact okSize_t rfl|exact fun h=>h|(simp only[World.size_alloc,World.size_drew,World.size_setCell,size_fill,bytesW];omega)) only [go_sem,c34,c34S0,c34S1,c34L0,c34S2,c34L0,hlt',eo,ao]
    refine ⟨by omega,fun he => ?_,fun he => ⟨⟨by omega,by omega⟩,k + 1,rfl,⟨by omega,fun j hj hjk => ?_⟩,by omega⟩⟩
    · exact (Cut.firstI_at hlt (by simpa using he) fun j hj hjk => by simpa using hinv j hj hjk).symm
    · rcases Nat.lt_or_ge j k with h' | h'
      · exact hinv j hj h'
      · obtain rfl:j = k:=by omega
        exact he
  · have hlt':¬ (k:Int) < l.length:=by omega
    simp (disch:=first|omega|exact okFill_t rfl|exact okSize_t rfl|exact fun h=>h|(simp only[World.size_alloc,World.size_drew,World.size_setCell,size_fill,bytesW];omega)) only [go_sem,c34,c34S0,c34S1,c34L0,c34S2,c34L0,hlt']
    exact (Cut.firstI_none fun j hj => by simpa using hinv j hj (by omega)).symm
theorem rapart_ok {w:World} {lv:Value} {l:List OpT} (h:RdS w 11 OpT.enc lv l) (hl:(l.length:Int) ≤ 9223372036854775806) :
    Ret Tryz.prog 20 [lv] w fun u w' => Tells u ((l.map OpT.ID).Nodup) ∧ Below w.heap.size w w':=by
  obtain ⟨la,lc,rfl,_⟩:=h.form
  refine ent20 _ _ _ ?_
  simp (disch:=first|omega|exact okFill_t rfl|exact okSize_t rfl|exact fun h=>h|(simp only[World.size_alloc,World.size_drew,World.size_setCell,size_fill,bytesW];omega)) only [go_sem,c20,c20S0,c20S1,c20S2,c20L0,c20S3]
  refine W_loopU (fun k:Nat => [(3,.int .i64 k)]) (fun k w' => Below w.heap.size w w' ∧ k ≤ l.length ∧ ((l.take k).map OpT.ID).Nodup) (fun k => l.length - k) 0 rfl ⟨Below.refl _ _,Nat.zero_le _,by simp⟩ ?_
  rintro k w2 ⟨b2,hk,hinv⟩
  by_cases hlt:k < l.length
  · have hlt':(k:Int) < l.length:=by omega
    obtain ⟨p,rfl⟩:=h.ptr (by omega)
    have h2:=h.below b2 (by decide)
    have eo:=h2.eltB (Below.refl _ _) OpT.len (by decide) hlt
    have ao:=l[k].at
    simp (disch:=first|omega|exact okFill_t rfl|exact okSize_t rfl|exact fun h=>h|(simp only[World.size_alloc,World.size_drew,World.size_setCell,size_fill,bytesW];omega)) only [go_sem,c20,c20S0,c20S1,c20S2,c20L0,c20S3,c20L0,hlt']
    refine c20draw0 ?_
    simp (disch:=first|omega|exact okFill_t rfl|exact okSize_t rfl|exact fun h=>h|(simp only[World.size_alloc,World.size_drew,World.size_setCell,size_fill,bytesW];omega)) only [go_sem,c20,c20S0,c20S1,c20S2,c20L0,c20S3,c20D0,hlt',eo,ao]
    have bd:Below w2.heap.size w2 w2.drew:=(Below.refl _ _).drew
    have hle:lc = lc:=rfl
    obtain ⟨_,_,ecap,hcap⟩:=h.form
    simp only [Value.slice.injEq,true_and] at ecap
    obtain ⟨_,rfl⟩:=ecap
    have hpre:RdS w2.drew 11 OpT.enc (.slice (offA (some p) lc 0 11) k lc) (l.take k):=by
      have h3:=Cut.rd_take (h2.below bd (by decide)) (show k ≤ l.length by omega)
      rw [Cut.take_flat] at h3
      have e:(l.take k).length = k:=by rw [List.length_take]; omega
      unfold RdS
      rw [e]
      exact h3
    refine ⟨⟨by omega,by omega⟩,by omega,Ret.mono (rfind_ok l[k].ID hpre (by rw [List.length_take]; omega)) ?_⟩
    rintro _ w3 ⟨rfl,e3⟩
    subst w3
    have any:=Cut.firstI_any (p:=fun o:OpT => decide (o.ID = l[k].ID)) (l:=l.take k)
    simp (disch:=first|omega|exact okFill_t rfl|exact okSize_t rfl|exact fun h=>h|(simp only[World.size_alloc,World.size_drew,World.size_setCell,size_fill,bytesW];omega)) only [go_sem,c20,c20S0,c20S1,c20S2,c20L0,c20S3,c20D0]
    refine ⟨fun _ => ⟨tells_f,b2.drew⟩,fun hlt0 => ⟨⟨by omega,by omega⟩,k + 1,rfl,⟨b2.drew,by omega,?_⟩,by omega⟩⟩
    rw [decide_eq_false (by omega)] at any
    rw [List.take_succ_eq_append_getElem hlt,List.map_append]
    refine List.nodup_append.2 ⟨hinv,by simp,fun a ha b hb e => ?_⟩
    simp only [List.map_cons,List.map_nil,List.mem_singleton] at hb
    subst hb e
    obtain ⟨o,ho,e⟩:=List.mem_map.1 ha
    have:=(List.any_eq_true (p:=fun o:OpT => decide (o.ID = l[k].ID))).2 ⟨o,ho,by simpa using e⟩
    rw [← any] at this
    cases this
  · have hlt':¬ (k:Int) < l.length:=by omega
    simp (disch:=first|omega|exact okFill_t rfl|exact okSize_t rfl|exact fun h=>h|(simp only[World.size_alloc,World.size_drew,World.size_setCell,size_fill,bytesW];omega)) only [go_sem,c20,c20S0,c20S1,c20S2,c20L0,c20S3,c20L0,hlt']
    rw [List.take_of_length_le (by omega)] at hinv
    exact ⟨tells_t hinv,b2⟩
theorem small_ok' {w:World} {ob kd most:Int} {v:Value} {l:List OpT} (h:RdS w 11 OpT.enc v l) (hl:(l.length:Int) ≤ 9223372036854775807) (hm:most ≤ 1000) :
    Ret Tryz.prog 7 [.agg #[.int .i64 ob,.int .i64 kd,v],.int .i64 most] w fun u w' => Tells u ((l.length:Int) ≤ most ∧ (∀ o ∈ l,o.Kind = kd) ∧ (l.map OpT.ID).Nodup) ∧ Below w.heap.size w w':=by
  obtain ⟨a,c,rfl,_⟩:=h.form
  refine ent7 _ _ _ _ ?_
  have s1:=(St.start (W0:=w)).box #[.int .i64 ob,.int .i64 kd,.slice a l.length c] 24
  have h1:=h.below s1.bel (by decide)
  by_cases hle:(l.length:Int) ≤ most
  · simp (disch:=first|omega|exact okFill_t rfl|exact okSize_t rfl|exact fun h=>h|(simp only[World.size_alloc,World.size_drew,World.size_setCell,size_fill,bytesW];omega)) only [go_sem,c7,c7S0,hle]
    generalize w.alloc (.cells #[.int .i64 ob,.int .i64 kd,.slice a l.length c] 24) = w1 at s1 h1 ⊢
    refine Ret.mono (alike_ok (ob:=ob) (kd:=kd) h1 (by omega)) ?_
    rintro _ w2 ⟨⟨b,rfl,hb⟩,b2⟩
    have s2:=s1.call b2
    have q2:=s2.rules 0 rfl
    cases b with
    | false =>
      simp (disch:=first|omega|exact okFill_t rfl|exact okSize_t rfl|exact fun h=>h|(simp only[World.size_alloc,World.size_drew,World.size_setCell,size_fill,bytesW];omega)) only [go_sem,c7,c7S0,q2]
      exact ⟨tells_f,s2.bel⟩
    | true =>
      simp (disch:=first|omega|exact okFill_t rfl|exact okSize_t rfl|exact fun h=>h|(simp only[World.size_alloc,World.size_drew,World.size_setCell,size_fill,bytesW];omega)) only [go_sem,c7,c7S0,q2]
      refine Ret.mono (rapart_ok (h1.below b2 (by decide)) (by omega)) ?_
      rintro _ w3 ⟨⟨b',rfl,hb'⟩,b3⟩
      have s3:=s2.call b3
      simp (disch:=first|omega|exact okFill_t rfl|exact okSize_t rfl|exact fun h=>h|(simp only[World.size_alloc,World.size_drew,World.size_setCell,size_fill,bytesW];omega)) only [go_sem,c7,c7S0]
      exact ⟨⟨b',rfl,fun h => ⟨hb rfl,hb' h⟩⟩,s3.bel⟩
  · simp (disch:=first|omega|exact okFill_t rfl|exact okSize_t rfl|exact fun h=>h|(simp only[World.size_alloc,World.size_drew,World.size_setCell,size_fill,bytesW];omega)) only [go_sem,c7,c7S0,hle]
    exact ⟨tells_f,s1.bel⟩
theorem core_ok {w:World} {ob n:Int} {va vb:Value} {L:List OpT} (ha:RdS w 11 OpT.enc va L) (hb:RdS w 11 OpT.enc vb L) (hl:L.length ≤ 1000) :
    Ret Tryz.prog 11 [.agg #[.int .i64 ob,va,.int .i64 n],.agg #[.int .i64 ob,vb,.int .i64 n]] w fun u w' => u = .bool true ∧ Below w.heap.size w w':=by
  obtain ⟨a,c,rfl,_⟩:=ha.form
  obtain ⟨a',c',rfl,_⟩:=hb.form
  refine ent11 _ _ _ _ ?_
  have s1:=((St.start (W0:=w)).box #[.int .i64 ob,.slice a L.length c,.int .i64 n] 28).box #[.int .i64 ob,.slice a' L.length c',.int .i64 n] 32
  rw [World.size_alloc] at s1
  have ha1:=ha.below s1.bel (by decide)
  have hb1:=hb.below s1.bel (by decide)
  simp (disch:=first|omega|exact okFill_t rfl|exact okSize_t rfl|exact fun h=>h|(simp only[World.size_alloc,World.size_drew,World.size_setCell,size_fill,bytesW];omega)) only [go_sem,c11,c11S0]
  generalize (w.alloc (.cells #[.int .i64 ob,.slice a L.length c,.int .i64 n] 28)).alloc (.cells #[.int .i64 ob,.slice a' L.length c',.int .i64 n] 32) = w1 at s1 ha1 hb1 ⊢
  refine Ret.mono (opsEq_ok _ _ L L w1 ha1 hb1 (by omega)) ?_
  rintro _ w2 ⟨rfl,b2⟩
  have s2:=s1.call b2
  have q0:=s2.rules 0 rfl
  have q1:=s2.rules 1 rfl
  rw [decide_eq_true rfl]
  simp (disch:=first|omega|exact okFill_t rfl|exact okSize_t rfl|exact fun h=>h|(simp only[World.size_alloc,World.size_drew,World.size_setCell,size_fill,bytesW];omega)) only [go_sem,c11,c11S0,q0,q1]
  exact s2.bel
theorem shawake_ok (w:World):Ret Tryz.prog 8 [] w fun u w' => u = .bool true ∧ Below w.heap.size w w':=by
  refine ent8 _ _ ?_
  simp (disch:=first|omega|exact okFill_t rfl|exact okSize_t rfl|exact fun h=>h|(simp only[World.size_alloc,World.size_drew,World.size_setCell,size_fill,bytesW];omega)) only [go_sem,c8,c8S0,c8S1]
  refine bdW_built (cells:=e1.enc.toArray) (by kernel_rfl) ?_
  simp (disch:=first|omega|exact okFill_t rfl|exact okSize_t rfl|exact fun h=>h|(simp only[World.size_alloc,World.size_drew,World.size_setCell,size_fill,bytesW];omega)) only [go_sem,c8,c8S0,c8S1]
  refine bdW_built (cells:=e2.enc.toArray) (by kernel_rfl) ?_
  simp (disch:=first|omega|exact okFill_t rfl|exact okSize_t rfl|exact fun h=>h|(simp only[World.size_alloc,World.size_drew,World.size_setCell,size_fill,bytesW];omega)) only [go_sem,c8,c8S0,c8S1]
  refine bdW_built (cells:=(e3 1).enc.toArray) (by kernel_rfl) ?_
  simp (disch:=first|omega|exact okFill_t rfl|exact okSize_t rfl|exact fun h=>h|(simp only[World.size_alloc,World.size_drew,World.size_setCell,size_fill,bytesW];omega)) only [go_sem,c8,c8S0,c8S1]
  refine bsW_cells (cells:=([e1,e2,e3 1].flatMap OpT.enc).toArray) ty22mkI (by decide) (by decide) (by kernel_rfl) ?_
  have hr:RdS (w.alloc (.cells ([e1,e2,e3 1].flatMap OpT.enc).toArray 38)) 11 OpT.enc (.slice (some ⟨w.heap.size,0,none⟩) 3 3) [e1,e2,e3 1]:=rd_new (sz:=11) (n:=3) rfl
  have b1:Below w.heap.size w (w.alloc (.cells ([e1,e2,e3 1].flatMap OpT.enc).toArray 38)):=(Below.refl _ _).alloc (Nat.le_refl _) _
  have hK:∀ o ∈ [e1,e2,e3 1],o.Kind = 1:=by
    intro o ho
    simp only [List.mem_cons,List.not_mem_nil,or_false] at ho
    rcases ho with rfl | rfl | rfl <;> rfl
  have hw:∀ o ∈ [e1,e2,e3 1],o.wf:=by
    intro o ho
    simp only [List.mem_cons,List.not_mem_nil,or_false] at ho
    rcases ho with rfl | rfl | rfl <;> (refine ⟨?_,?_,?_,?_,?_,?_,?_,?_,?_,?_⟩ <;> exact kOk_small (by decide))
  have hn:([e1,e2,e3 1].map OpT.ID).Nodup:=by decide
  generalize w.alloc (.cells ([e1,e2,e3 1].flatMap OpT.enc).toArray 38) = w1 at hr b1 ⊢
  simp (disch:=first|omega|exact okFill_t rfl|exact okSize_t rfl|exact fun h=>h|(simp only[World.size_alloc,World.size_drew,World.size_setCell,size_fill,bytesW];omega)) only [go_sem,c8,c8S0]
  refine bdW_built (cells:=#[.int .i64 0,.int .i64 1,.slice (some ⟨w.heap.size,0,none⟩) 3 3]) (by kernel_rfl) ?_
  simp (disch:=first|omega|exact okFill_t rfl|exact okSize_t rfl|exact fun h=>h|(simp only[World.size_alloc,World.size_drew,World.size_setCell,size_fill,bytesW];omega)) only [go_sem,c8,c8S0]
  have s2:=(St.start (W0:=w1)).box #[.int .i64 0,.int .i64 1,.slice (some ⟨w.heap.size,0,none⟩) 3 3] 24
  have r2:=s2.rules 0 rfl
  have h2:=hr.below s2.bel (by decide)
  generalize w1.alloc (.cells #[.int .i64 0,.int .i64 1,.slice (some ⟨w.heap.size,0,none⟩) 3 3] 24) = w2 at s2 r2 h2 ⊢
  refine Ret.mono (object_ok (ob:=0) (kd:=1) h2 (by decide) hn hK hw ⟨by decide,by decide⟩) ?_
  rintro u w3 ⟨⟨r,hr3,hv⟩,b3⟩
  have e:=hr3.one aw_pure aw_obj
  subst e
  obtain ⟨vv,rfl,g3⟩:=hv
  obtain ⟨xa,xc,rfl,_⟩:=g3.form
  have s3:=s2.call b3
  have h3:=h2.below b3 (by decide)
  simp (disch:=first|omega|exact okFill_t rfl|exact okSize_t rfl|exact fun h=>h|(simp only[World.size_alloc,World.size_drew,World.size_setCell,size_fill,bytesW];omega)) only [go_sem,c8,c8S0]
  have s4:=s3.box #[.int .i64 0,.slice xa 1 xc,.int .i64 6] 28
  have b4:Below w3.heap.size w3 (w3.alloc (.cells #[.int .i64 0,.slice xa 1 xc,.int .i64 6] 28)):=(Below.refl _ _).alloc (Nat.le_refl _) _
  have g4:=g3.below b4 (by decide)
  have h4:=h3.below b4 (by decide)
  generalize w3.alloc (.cells #[.int .i64 0,.slice xa 1 xc,.int .i64 6] 28) = w4 at s4 b4 g4 h4 ⊢
  have r4:=s4.rules 1 rfl
  simp (disch:=first|omega|exact okFill_t rfl|exact okSize_t rfl|exact fun h=>h|(simp only[World.size_alloc,World.size_drew,World.size_setCell,size_fill,bytesW];omega)) only [go_sem,c8,c8S1,r4]
  refine Ret.mono (mends_ok (ob:=0) (kd:=1) h4 (by decide) hn hK hw ⟨by decide,by decide⟩) ?_
  rintro u w5 ⟨⟨r,hr5,hv⟩,b5⟩
  have e:=hr5.one aw_pure aw_mends
  subst e
  obtain ⟨vv,rfl,g5,_⟩:=hv
  obtain ⟨ya,yc,rfl,_⟩:=g5.form
  obtain ⟨yp,rfl⟩:=g5.ptr (show 0 < 1 by decide)
  have s5:=s4.call b5
  have f5:=g4.below b5 (by decide)
  obtain ⟨xp,rfl⟩:=f5.ptr (show 0 < 1 by decide)
  have r5:=s5.rules 0 rfl
  have k1:=f5.eltB (Below.refl _ _) OpT.len (by decide) (show 0 < [e3 1].length by decide)
  have k2:=g5.eltB (Below.refl _ _) pairE_len (by decide) (show 0 < [((3:Int),(2:Int))].length by decide)
  have a1:=(e3 1).at
  have z:∀ a:Addr,a.add 0 = a:=fun a => by unfold Addr.add; rw [if_pos rfl]
  rw [Nat.zero_mul,z] at k1 k2
  have k1':w5.cell? xp = some (.int .i64 3):=k1.1
  have k2':w5.cell? yp = some (.int .i64 3):=k2.1
  have k3':w5.cell? ⟨yp.block,yp.off + 1,none⟩ = some (.int .i64 2):=k2.2 1 (by decide) (by decide)
  have c2:=g5.at pairE_len (show 0 < [((3:Int),(2:Int))].length by decide)
  rw [Nat.zero_mul,z] at c2
  simp (disch:=first|omega|exact okFill_t rfl|exact okSize_t rfl|exact fun h=>h|(simp only[World.size_alloc,World.size_drew,World.size_setCell,size_fill,bytesW];omega)) only [go_sem,c8,c8S0,c8S1,r5,k1',c2]
  refine bdW_built (cells:=#[.int .i64 3,.int .i64 2]) (by kernel_rfl) ?_
  have ee:aggEq [FK.int,FK.int] (pairE (3,2)) [Value.int IntKind.i64 3,Value.int IntKind.i64 2] = some true:=by kernel_rfl
  simp (disch:=first|omega|exact okFill_t rfl|exact okSize_t rfl|exact fun h=>h|(simp only[World.size_alloc,World.size_drew,World.size_setCell,size_fill,bytesW];omega)) only [go_sem,c8,c8S0,c8S1,r5,k1',ee]
  exact Below.next b1 s5.bel
end Go.Proofs.YteiciplnfjnfjaaGreat

namespace Go.Proofs.YteiciplnfjnfjaaGreat
set_option linter.unusedSimpArgs false
set_option linter.unusedVariables false
set_option maxRecDepth 100000
open Go Go.Ann Go.RowKit
theorem CoreR.len {ob kd:Int} {l:List OpT} {left n:Int} {x:List OpT × Int × Int} (h:CoreR ob kd l left n x):x.1.length ≤ l.length:=by
  induction h with
  | err => exact Nat.zero_le _
  | done hL => rw [hL.1.length_eq]; exact Nat.le_refl _
  | more hL h he k ih => exact Nat.le_trans ih h.sub.length_le
def coreL (r:Option (List OpT × Int) × Int):List OpT:=match r.1 with | some x => x.1 | none => []
def coreN (r:Option (List OpT × Int) × Int):Int:=match r.1 with | some x => x.2 | none => 0
def coreO (ob:Int) (r:Option (List OpT × Int) × Int):Int:=if r.1.isSome then ob else 0
theorem ObjR.len {ob kd bud:Int} {l:List OpT} {r:Option (List OpT × Int) × Int} (h:ObjR ob kd l bud r):(coreL r).length ≤ l.length:=by
  cases h with
  | err => exact Nat.zero_le _
  | ok => exact Nat.zero_le _
  | fail => exact Nat.zero_le _
  | core _ k => exact k.len
theorem ObjR.zero {ob kd bud:Int} {l:List OpT} {r:Option (List OpT × Int) × Int} (h:ObjR ob kd l bud r):r.1.isSome = true → r.2 = 0:=by
  cases h with
  | err => intro h; cases h
  | ok => intro h; cases h
  | fail => intro h; cases h
  | core _ k => exact fun _ => rfl
theorem objV_form {w:World} {ob:Int} {r:Option (List OpT × Int) × Int} {u:Value} (h:ObjV w ob r u) (h0:r.1.isSome = true → r.2 = 0):∃ vv,u = .tuple #[.agg #[.int .i64 (coreO ob r),vv,.int .i64 (coreN r)],.bool r.1.isSome,.int .i64 r.2] ∧ RdS w 11 OpT.enc vv (coreL r):=by
  obtain ⟨x,e⟩:=r
  cases x with
  | none => exact ⟨_,h,rd_nil11 _⟩
  | some x =>
    obtain ⟨L,n⟩:=x
    obtain ⟨vv,hu,hr⟩:=h
    have:e = 0:=h0 rfl
    subst this
    exact ⟨vv,hu,hr⟩
theorem shrinkObjects_ok {w:World} {ob kd bud:Int} {v:Value} {l:List OpT} (h:RdS w 11 OpT.enc v l) (hl:(l.length:Int) ≤ 9223372036854775807) (hw:∀ o ∈ l,o.wf) (hb:I64 bud) :
    Ret Tryz.prog 3 [.agg #[.int .i64 ob,.int .i64 kd,v],.int .i64 bud] w fun u w' => u = .bool true ∧ Below w.heap.size w w':=by
  obtain ⟨a,c,rfl,_⟩:=h.form
  refine ent3 _ _ _ _ ?_
  have s1:=(St.start (W0:=w)).box #[.int .i64 ob,.int .i64 kd,.slice a l.length c] 24
  have h1:=h.below s1.bel (by decide)
  simp (disch:=first|omega|exact okFill_t rfl|exact okSize_t rfl|exact fun h=>h|(simp only[World.size_alloc,World.size_drew,World.size_setCell,size_fill,bytesW];omega)) only [go_sem,c3,c3S0,c3S1,c3S2,c3S3,c3S4]
  generalize w.alloc (.cells #[.int .i64 ob,.int .i64 kd,.slice a l.length c] 24) = w1 at s1 h1 ⊢
  refine Ret.mono (small_ok' h1 hl (by decide)) ?_
  rintro _ w2 ⟨⟨b,rfl,hb'⟩,b2⟩
  have s2:=s1.call b2
  cases b with
  | false =>
    simp (disch:=first|omega|exact okFill_t rfl|exact okSize_t rfl|exact fun h=>h|(simp only[World.size_alloc,World.size_drew,World.size_setCell,size_fill,bytesW];omega)) only [go_sem,c3,c3S0,c3S1,c3S2,c3S3,c3S4,c3S5]
    refine Ret.mono (shawake_ok _) ?_
    rintro _ w3 ⟨rfl,b3⟩
    simp (disch:=first|omega|exact okFill_t rfl|exact okSize_t rfl|exact fun h=>h|(simp only[World.size_alloc,World.size_drew,World.size_setCell,size_fill,bytesW];omega)) only [go_sem,c3,c3S0,c3S1,c3S2,c3S3,c3S4,c3S5]
    exact (s2.call b3).bel
  | true =>
    obtain ⟨hle,hK,hn⟩:=hb' rfl
    have h2:=h1.below b2 (by decide)
    have r2:=s2.rules 0 rfl
    simp (disch:=first|omega|exact okFill_t rfl|exact okSize_t rfl|exact fun h=>h|(simp only[World.size_alloc,World.size_drew,World.size_setCell,size_fill,bytesW];omega)) only [go_sem,c3,c3S0,c3S1,c3S2,c3S3,c3S5,r2]
    refine Ret.mono (object_ok h2 (by omega) hn hK hw hb) ?_
    rintro u w3 ⟨⟨r,hr,hv⟩,b3⟩
    have s3:=s2.call b3
    have h3:=h2.below b3 (by decide)
    obtain ⟨v1,rfl,g1⟩:=objV_form hv hr.zero
    obtain ⟨x1,y1,rfl,_⟩:=g1.form
    simp (disch:=first|omega|exact okFill_t rfl|exact okSize_t rfl|exact fun h=>h|(simp only[World.size_alloc,World.size_drew,World.size_setCell,size_fill,bytesW];omega)) only [go_sem,c3,c3S0,c3S1,c3S2,c3S3,c3S5]
    have s4:=s3.box #[.int .i64 (coreO ob r),.slice x1 (coreL r).length y1,.int .i64 (coreN r)] 28
    have b4:Below w3.heap.size w3 (w3.alloc (.cells #[.int .i64 (coreO ob r),.slice x1 (coreL r).length y1,.int .i64 (coreN r)] 28)):=(Below.refl _ _).alloc (Nat.le_refl _) _
    generalize w3.alloc (.cells #[.int .i64 (coreO ob r),.slice x1 (coreL r).length y1,.int .i64 (coreN r)] 28) = w4 at s4 b4 ⊢
    have h4:=h3.below b4 (by decide)
    have r4:=s4.rules 1 rfl
    simp (disch:=first|omega|exact okFill_t rfl|exact okSize_t rfl|exact fun h=>h|(simp only[World.size_alloc,World.size_drew,World.size_setCell,size_fill,bytesW];omega)) only [go_sem,c3,c3S0,c3S1,c3S2,c3S4,c3S5,r4]
    refine Ret.mono (robject_ok h4 (by omega) hn hK hw hb) ?_
    rintro u w5 ⟨⟨r',hr',hv'⟩,b5⟩
    have s5:=s4.call b5
    have e:=hr.one (pure_nodup hn) hr'
    subst e
    have b35:=Below.next b4 b5
    obtain ⟨v2,rfl,g2⟩:=objV_form hv' hr.zero
    obtain ⟨x2,y2,rfl,_⟩:=g2.form
    simp (disch:=first|omega|exact okFill_t rfl|exact okSize_t rfl|exact fun h=>h|(simp only[World.size_alloc,World.size_drew,World.size_setCell,size_fill,bytesW];omega)) only [go_sem,c3,c3S0,c3S1,c3S2,c3S4,c3S5]
    have s6:=s5.box #[.int .i64 (coreO ob r),.slice x2 (coreL r).length y2,.int .i64 (coreN r)] 32
    have b6:Below w5.heap.size w5 (w5.alloc (.cells #[.int .i64 (coreO ob r),.slice x2 (coreL r).length y2,.int .i64 (coreN r)] 32)):=(Below.refl _ _).alloc (Nat.le_refl _) _
    generalize w5.alloc (.cells #[.int .i64 (coreO ob r),.slice x2 (coreL r).length y2,.int .i64 (coreN r)] 32) = w6 at s6 b6 ⊢
    have r6:=s6.rules 0 rfl
    have q6:=s6.rules 1 rfl
    have f1:=g1.below (Below.next b4 (Below.next b5 b6)) (by decide)
    have f2:=g2.below b6 (by decide)
    have hL:=hr.len
    simp (disch:=first|omega|exact okFill_t rfl|exact okSize_t rfl|exact fun h=>h|(simp only[World.size_alloc,World.size_drew,World.size_setCell,size_fill,bytesW];omega)) only [go_sem,c3,c3S0,c3S1,c3S2,c3S3,c3S4,c3S5,r6,q6]
    refine Ret.mono (core_ok f1 f2 (by omega)) ?_
    rintro _ w7 ⟨rfl,b7⟩
    have s7:=s6.call b7
    simp (disch:=first|omega|exact okFill_t rfl|exact okSize_t rfl|exact fun h=>h|(simp only[World.size_alloc,World.size_drew,World.size_setCell,size_fill,bytesW];omega)) only [go_sem,c3,c3S0,c3S1,c3S2,c3S3,c3S4,c3S5]
    refine Ret.mono (shawake_ok _) ?_
    rintro _ w8 ⟨rfl,b8⟩
    simp (disch:=first|omega|exact okFill_t rfl|exact okSize_t rfl|exact fun h=>h|(simp only[World.size_alloc,World.size_drew,World.size_setCell,size_fill,bytesW];omega)) only [go_sem,c3,c3S0,c3S1,c3S2,c3S3,c3S4,c3S5]
    exact (s7.call b8).bel
set_option maxRecDepth 100000 in
theorem shrinkObjects_law {H:Type} {enc:TypeId × Value → H} {w:World} {r:Reach} {b base:Nat} {sp:Nat → Bool} {hd:Bool} {v:Value} {d:DataW H} {p:List MemPlace} {budget:Int}
    (h:Value.okWide Tryz.prog w r b 24 v) (k:DataW.Trod enc Tryz.prog w base sp hd 24 v d p) (hb:I64 budget) :
    Ret Tryz.prog 3 [v,.int .i64 budget] w fun u w' => u = .bool true ∧ Below w.heap.size w w':=by
  obtain ⟨a,cs,rfl,lv,rfl,q1,q2,q3⟩:=Opens.struct_arg opens_Seg Tryz.underlying24 h k
  exact shrinkObjects_ok q1 q3 q2 hb
end Go.Proofs.YteiciplnfjnfjaaGreat
