/- Texts put together by program. -/
import Derived.Test.YteiciplnfjnfjaaGreatQB6
namespace Go.Proofs.YteiciplnfjnfjaaGreat
set_option linter.unusedSimpArgs false
set_option linter.unusedVariables false
set_option maxRecDepth 100000
open Go Go.Ann Go.RowKit
theorem lawExp_ok {w:World} {ob kd:Int} {b:Bool} {v:Value} {l:List OpT} (hr:RdS w 11 OpT.enc v l) (hl:l.length ≤ 10) (hK:∀ o ∈ l,o.Kind = kd) (hw:∀ o ∈ l,o.wf) (hp:Cut.Pure l) (ha:∃ m,Ask ob kd l 32768 (b,m,0)) :
    Ret Tryz.prog 12 [.agg #[.int .i64 ob,.int .i64 kd,v]] w fun u w' => u = .bool b ∧ Below w.heap.size w w':=by
  obtain ⟨a,c,rfl,_⟩:=hr.form
  refine ent12 _ _ _ ?_
  have s1:=(St.start (W0:=w)).box #[.int .i64 ob,.int .i64 kd,.slice a l.length c] 24
  have h1:=hr.below s1.bel (by decide)
  simp (disch:=first|omega|exact okFill_t rfl|exact okSize_t rfl|exact fun h=>h|(simp only[World.size_alloc,World.size_drew,World.size_setCell,size_fill,bytesW];omega)) only [go_sem,c12,c12S0]
  generalize w.alloc (.cells #[.int .i64 ob,.int .i64 kd,.slice a l.length c] 24) = w1 at s1 h1 ⊢
  refine Ret.mono (rask_ok (ob:=ob) h1 hl hK hw (by decide)) ?_
  rintro u w2 ⟨⟨r,hr2,rfl⟩,b2⟩
  obtain ⟨m,ha⟩:=ha
  have e:=hr2.one hp ha
  subst e
  unfold askV
  simp (disch:=first|omega|exact okFill_t rfl|exact okSize_t rfl|exact fun h=>h|(simp only[World.size_alloc,World.size_drew,World.size_setCell,size_fill,bytesW];omega)) only [go_sem,c12,c12S0]
  exact (s1.call b2).bel
theorem ObjR.err35 {ob kd bud:Int} {l:List OpT} {r:Option (List OpT × Int) × Int} (h:ObjR ob kd l bud r):r.2 = 0 ∨ r.2 = 35:=by
  cases h with
  | err h he => exact h.err.imp id fun h => h.1
  | ok => exact .inl rfl
  | fail _ k => exact k.err35
  | core _ k => exact .inl rfl
theorem ObjR.asked {ob kd:Int} {l:List OpT} {r:Option (List OpT × Int) × Int} (h:ObjR ob kd l 32768 r) (h0:r.2 = 0):∃ m,Ask ob kd l 32768 (!r.1.isSome,m,0):=by
  have e:min (32768:Int) 32768 = 32768:=rfl
  cases h with
  | err h he => exact absurd h0 he
  | ok h => rw [e] at h; exact ⟨_,h⟩
  | fail _ k he => exact absurd h0 he
  | core h => rw [e] at h; exact ⟨_,h⟩
theorem find_pure {l:List OpT} {o:OpT} (hp:Cut.Pure l) (h:o ∈ l):l.find? (fun x => decide (x.ID = o.ID)) = some o:=by
  cases e:l.find? (fun x => decide (x.ID = o.ID)) with
  | none => exact absurd (List.find?_eq_none.1 e o h) (by simp)
  | some x =>
    have h1:=List.mem_of_find?_eq_some e
    have h2:=List.find?_some e
    rw [hp x h1 o h (by simpa using h2)]
theorem least_tail {W0 wN:World} {F:Nat → Prop} {p1 p3 p6 g y1 ln lc:Nat} {la:Option Addr} {k:Nat} {ob kd n:Int} {L:List OpT} {xp:Addr} {Q:Post} (hlt:k < L.length)
    (s:St W0 wN F [.blk g L[k].enc.toArray 38,.blk p6 #[.int .i64 ob,.int .i64 kd,.slice (some xp) L.length y1] 24,.blk p3 #[.int .i64 ob,.slice (some xp) L.length y1,.int .i64 n] 28,.blk p1 #[.int .i64 ob,.int .i64 kd,.slice la ln lc] 24] [])
    (hr:RdS wN 11 OpT.enc (.slice (some xp) L.length y1) L) (hl:L.length ≤ 10) (hKL:∀ o ∈ L,o.Kind = kd) (hwL:∀ o ∈ L,o.wf) (hpL:Cut.Pure L) (hup:L.Pairwise fun a b => a.ID < b.ID) (hwo:∀ o ∈ L,∃ m,Ask ob kd (wo L o.ID) 32768 (true,m,0))
    (hQ:∀ w',Below wN.heap.size wN w' → Q .normal [(1,.pointer (some ⟨p1,0,none⟩)),(3,.pointer (some ⟨p3,0,none⟩)),(6,.pointer (some ⟨p6,0,none⟩)),(7,.int .i64 k)] w') :
    W Tryz.prog (c4S8 ()) [(1,.pointer (some ⟨p1,0,none⟩)),(3,.pointer (some ⟨p3,0,none⟩)),(6,.pointer (some ⟨p6,0,none⟩)),(7,.int .i64 k),(8,.pointer (some ⟨g,0,none⟩)),(9,.bool true)] wN Q:=by
  have B6:=s.blk 1 rfl
  have B3:=s.blk 2 rfl
  have B8:=s.blk 0 rfl
  have r6:=B6.rules
  have hlt':(k:Int) < L.length:=by omega
  simp (disch:=first|omega|exact okFill_t rfl|exact okSize_t rfl|exact fun h=>h|(simp only[World.size_alloc,World.size_drew,World.size_setCell,size_fill,bytesW];omega)) only [go_sem,c4,c4S0,c4S1,c4S2,c4S3,c4S4,c4S5,c4S6,c4S8,c4S9,c4S10,c4L0,c4S11,c4S12,c4S13,c4S14,c4S15,c4S16,c4S17,c4S18,r6]
  have s1:=(St.start (W0:=wN)).box #[.int .i64 ob,.int .i64 kd,.slice (some xp) L.length y1] 24
  have b1:=s1.bel
  have h1:=hr.below b1 (by decide)
  generalize wN.alloc (.cells #[.int .i64 ob,.int .i64 kd,.slice (some xp) L.length y1] 24) = w1 at s1 b1 h1 ⊢
  have ek:=h1.eltB (Below.refl _ _) OpT.len (by decide) hlt
  have ak:=L[k].at
  have C3:=B3.below b1 B3.lt
  have r3:=C3.rules
  have l3:=C3.lt
  have hd1:w1.drew.heap.size = w1.heap.size:=rfl
  have hp1:=h1.blt OpT.len (by decide) (by omega)
  refine c4draw1 (Chg (fun _ => False) _) (Chg.refl _ _) ?_
  simp (disch:=first|omega|exact okFill_t rfl|exact okSize_t rfl|exact fun h=>h|(simp only[World.size_alloc,World.size_drew,World.size_setCell,size_fill,bytesW];omega)) only [go_sem,c4,c4S0,c4S1,c4S2,c4S3,c4S4,c4S5,c4S6,c4S8,c4S9,c4S10,c4L0,c4S11,c4S12,c4S13,c4S14,c4S15,c4S16,c4S17,c4S18,c4D1,hlt',r3,ek,ak]
  have bd:Below w1.heap.size w1 w1.drew:=(Below.refl _ _).drew
  refine ⟨by omega,Ret.mono (without_ref L[k].ID (h1.below bd (by decide)) (by omega)) ?_⟩
  rintro u w2 ⟨own,b2⟩
  have s2:=newRow s1.drew b2 own
  obtain ⟨ua,uc,rfl,_⟩:=own_slice own
  have q2:=s2.rules 1 rfl
  simp (disch:=first|omega|exact okFill_t rfl|exact okSize_t rfl|exact fun h=>h|(simp only[World.size_alloc,World.size_drew,World.size_setCell,size_fill,bytesW];omega)) only [go_sem,c4,c4S0,c4S1,c4S2,c4S3,c4S4,c4S5,c4S6,c4S8,c4S9,c4S10,c4L0,c4S11,c4S12,c4S13,c4S14,c4S15,c4S16,c4S17,c4S18,c4D1,q2]
  have s3:=s2.set 1 rfl 2 (.slice ua (wo L L[k].ID).length uc)
  generalize w2.setCell ⟨wN.heap.size,2,none⟩ (.slice ua (wo L L[k].ID).length uc) = w3 at s3 ⊢
  have b3:=s3.bel
  have h3:=hr.below b3 (by decide)
  have D3:=(B3.below b3 B3.lt)
  have D8:=(B8.below b3 B8.lt)
  have v3:=D3.rules
  have v8:=D8.rules
  have v10:=s3.rules 1 rfl
  have ek3:=h3.eltB (Below.refl _ _) OpT.len (by decide) hlt
  have ck3:=h3.at OpT.len hlt
  have hd3:w3.drew.heap.size = w3.heap.size:=rfl
  have hp3:=h3.blt OpT.len (by decide) (by omega)
  have l3':=D3.lt
  have l8':=D8.lt
  have heq:=OpT.eqs L[k] L[k]
  rw [decide_eq_true rfl] at heq
  have hmem:L[k] ∈ L:=List.getElem_mem hlt
  have hry:RdS w3.drew 11 OpT.enc (.slice ua (wo L L[k].ID).length uc) (wo L L[k].ID):=RdS.of_own (s3.drew.row 0 rfl)
  have hwl:=wo_len_le L L[k].ID
  have hexp:=lawExp_ok (ob:=ob) hry (by omega) (fun o ho => hKL o (List.mem_filter.1 ho).1) (fun o ho => hwL o (List.mem_filter.1 ho).1) (Pure.wo hpL _) (hwo _ hmem)
  simp (disch:=first|omega|exact okFill_t rfl|exact okSize_t rfl|exact fun h=>h|(simp only[World.size_alloc,World.size_drew,World.size_setCell,size_fill,bytesW];omega)) only [go_sem,c4,c4S0,c4S1,c4S2,c4S3,c4S4,c4S5,c4S6,c4S7,c4S8,c4S9,c4S10,c4L0,c4S11,c4S12,c4S13,c4S14,c4S15,c4S16,c4S17,c4S18]
  refine c4draw2 (Chg (fun _ => False) _) (Chg.refl _ _) ?_
  rcases Nat.eq_zero_or_pos k with hk0 | hk0
  · have hk2:¬ 0 < (k:Int):=by omega
    simp (disch:=first|omega|exact okFill_t rfl|exact okSize_t rfl|exact fun h=>h|(simp only[World.size_alloc,World.size_drew,World.size_setCell,size_fill,bytesW];omega)) only [go_sem,c4,c4S0,c4S1,c4S2,c4S3,c4S4,c4S5,c4S6,c4S7,c4S8,c4S9,c4S10,c4L0,c4S11,c4S12,c4S13,c4S14,c4S15,c4S16,c4S17,c4S18,c4D2,hlt',v3,v8,v10,ek3,ck3,ak,heq,hk2]
    refine ⟨by omega,Ret.mono hexp ?_⟩
    rintro _ w4 ⟨rfl,b4⟩
    simp (disch:=first|omega|exact okFill_t rfl|exact okSize_t rfl|exact fun h=>h|(simp only[World.size_alloc,World.size_drew,World.size_setCell,size_fill,bytesW];omega)) only [go_sem,c4,c4S0,c4S1,c4S2,c4S3,c4S4,c4S5,c4S6,c4S7,c4S8,c4S9,c4S10,c4L0,c4S11,c4S12,c4S13,c4S14,c4S15,c4S16,c4S17,c4S18,c4D2]
    exact ⟨Chg.of_below b4,hQ _ (s3.drew.call b4).bel⟩
  · have ej3:=h3.eltB (Below.refl _ _) OpT.len (by decide) (show k - 1 < L.length by omega)
    have aj:=L[k - 1].at
    have hk1:(k:Int) - 1 = (k - 1:Nat):=by omega
    have hk2:0 < (k:Int):=by omega
    have e1:¬ L[k].ID ≤ L[k - 1].ID:=by
      have:=List.pairwise_iff_getElem.1 hup (k - 1) k (by omega) hlt (by omega)
      omega
    simp (disch:=first|omega|exact okFill_t rfl|exact okSize_t rfl|exact fun h=>h|(simp only[World.size_alloc,World.size_drew,World.size_setCell,size_fill,bytesW];omega)) only [go_sem,c4,c4S0,c4S1,c4S2,c4S3,c4S4,c4S5,c4S6,c4S7,c4S8,c4S9,c4S10,c4L0,c4S11,c4S12,c4S13,c4S14,c4S15,c4S16,c4S17,c4S18,c4D2,hlt',v3,v8,v10,ek3,ck3,ak,heq,hk1,hk2,ej3,aj,e1]
    refine ⟨by omega,⟨by omega,by omega⟩,⟨by omega,by omega⟩,by omega,Ret.mono hexp ?_⟩
    rintro _ w4 ⟨rfl,b4⟩
    simp (disch:=first|omega|exact okFill_t rfl|exact okSize_t rfl|exact fun h=>h|(simp only[World.size_alloc,World.size_drew,World.size_setCell,size_fill,bytesW];omega)) only [go_sem,c4,c4S0,c4S1,c4S2,c4S3,c4S4,c4S5,c4S6,c4S7,c4S8,c4S9,c4S10,c4L0,c4S11,c4S12,c4S13,c4S14,c4S15,c4S16,c4S17,c4S18,c4D2]
    exact ⟨Chg.of_below b4,hQ _ (s3.drew.call b4).bel⟩
theorem shrinkLeast_ok {w:World} {ob kd:Int} {v:Value} {l:List OpT} (h:RdS w 11 OpT.enc v l) (hl:(l.length:Int) ≤ 9223372036854775807) (hw:∀ o ∈ l,o.wf) :
    Ret Tryz.prog 4 [.agg #[.int .i64 ob,.int .i64 kd,v]] w fun u w' => u = .bool true ∧ Below w.heap.size w w':=by
  obtain ⟨a,c,rfl,_⟩:=h.form
  refine ent4 _ _ _ ?_
  have s1:=(St.start (W0:=w)).box #[.int .i64 ob,.int .i64 kd,.slice a l.length c] 24
  have h1:=h.below s1.bel (by decide)
  simp (disch:=first|omega|exact okFill_t rfl|exact okSize_t rfl|exact fun h=>h|(simp only[World.size_alloc,World.size_drew,World.size_setCell,size_fill,bytesW];omega)) only [go_sem,c4,c4S0,c4S1,c4S2,c4S3,c4S4,c4S5,c4S6,c4S7,c4S8,c4S9,c4S10,c4L0,c4S11,c4S12,c4S13,c4S14,c4S15,c4S16,c4S17]
  generalize w.alloc (.cells #[.int .i64 ob,.int .i64 kd,.slice a l.length c] 24) = w1 at s1 h1 ⊢
  refine Ret.mono (small_ok' h1 hl (by decide)) ?_
  rintro _ w2 ⟨⟨b,rfl,hb'⟩,b2⟩
  have s2:=s1.call b2
  cases b with
  | false =>
    simp (disch:=first|omega|exact okFill_t rfl|exact okSize_t rfl|exact fun h=>h|(simp only[World.size_alloc,World.size_drew,World.size_setCell,size_fill,bytesW];omega)) only [go_sem,c4,c4S0,c4S1,c4S2,c4S3,c4S4,c4S5,c4S6,c4S7,c4S8,c4S9,c4S10,c4L0,c4S11,c4S12,c4S13,c4S14,c4S15,c4S16,c4S17,c4S18]
    refine Ret.mono (shawake_ok _) ?_
    rintro _ w3 ⟨rfl,b3⟩
    simp (disch:=first|omega|exact okFill_t rfl|exact okSize_t rfl|exact fun h=>h|(simp only[World.size_alloc,World.size_drew,World.size_setCell,size_fill,bytesW];omega)) only [go_sem,c4,c4S0,c4S1,c4S2,c4S3,c4S4,c4S5,c4S6,c4S7,c4S8,c4S9,c4S10,c4L0,c4S11,c4S12,c4S13,c4S14,c4S15,c4S16,c4S17,c4S18]
    exact (s2.call b3).bel
  | true =>
    obtain ⟨hle,hK,hn⟩:=hb' rfl
    have hp:=pure_nodup hn
    have h2:=h1.below b2 (by decide)
    have r2:=s2.rules 0 rfl
    simp (disch:=first|omega|exact okFill_t rfl|exact okSize_t rfl|exact fun h=>h|(simp only[World.size_alloc,World.size_drew,World.size_setCell,size_fill,bytesW];omega)) only [go_sem,c4,c4S0,c4S1,c4S2,c4S3,c4S4,c4S5,c4S6,c4S7,c4S8,c4S9,c4S10,c4L0,c4S11,c4S12,c4S13,c4S14,c4S15,c4S16,c4S18,r2]
    refine Ret.mono (object_ok h2 (by omega) hn hK hw ⟨by decide,by decide⟩) ?_
    rintro u w3 ⟨⟨r,hr,hv⟩,b3⟩
    have s3:=s2.call b3
    have h3:=h2.below b3 (by decide)
    obtain ⟨v1,rfl,g1⟩:=objV_form hv hr.zero
    obtain ⟨x1,y1,rfl,_⟩:=g1.form
    simp (disch:=first|omega|exact okFill_t rfl|exact okSize_t rfl|exact fun h=>h|(simp only[World.size_alloc,World.size_drew,World.size_setCell,size_fill,bytesW];omega)) only [go_sem,c4,c4S0,c4S1,c4S2,c4S3,c4S4,c4S5,c4S6,c4S7,c4S8,c4S9,c4S10,c4L0,c4S11,c4S12,c4S13,c4S14,c4S15,c4S16,c4S18]
    have s4:=s3.box #[.int .i64 (coreO ob r),.slice x1 (coreL r).length y1,.int .i64 (coreN r)] 28
    have b4:Below w3.heap.size w3 (w3.alloc (.cells #[.int .i64 (coreO ob r),.slice x1 (coreL r).length y1,.int .i64 (coreN r)] 28)):=(Below.refl _ _).alloc (Nat.le_refl _) _
    generalize w3.alloc (.cells #[.int .i64 (coreO ob r),.slice x1 (coreL r).length y1,.int .i64 (coreN r)] 28) = w4 at s4 b4 ⊢
    have h4:=h3.below b4 (by decide)
    have g4:=g1.below b4 (by decide)
    by_cases he:r.2 = 0
    · simp (disch:=first|omega|exact okFill_t rfl|exact okSize_t rfl|exact fun h=>h|(simp only[World.size_alloc,World.size_drew,World.size_setCell,size_fill,bytesW];omega)) only [go_sem,c4,c4S0,c4S1,c4S2,c4S3,c4S4,c4S5,c4S6,c4S7,c4S8,c4S9,c4S10,c4L0,c4S11,c4S12,c4S13,c4S14,c4S15,c4S17,c4S18,he]
      have r4:=s4.rules 1 rfl
      simp (disch:=first|omega|exact okFill_t rfl|exact okSize_t rfl|exact fun h=>h|(simp only[World.size_alloc,World.size_drew,World.size_setCell,size_fill,bytesW];omega)) only [go_sem,c4,c4S0,c4S1,c4S2,c4S3,c4S4,c4S5,c4S6,c4S7,c4S8,c4S9,c4S10,c4L0,c4S11,c4S12,c4S13,c4S14,c4S16,c4S17,c4S18,r4]
      refine Ret.mono (lawExp_ok h4 (by omega) hK hw hp (hr.asked he)) ?_
      rintro _ w5 ⟨rfl,b5⟩
      have s5:=s4.call b5
      have q5:=s5.rules 0 rfl
      have p5:=s5.rules 1 rfl
      have h5:=h4.below b5 (by decide)
      have g5:=g4.below b5 (by decide)
      obtain ⟨x,e⟩:=r
      simp only at he
      subst he
      cases x with
      | none =>
        simp only [Option.isSome_none,Bool.not_false] at s5 q5 ⊢
        simp (disch:=first|omega|exact okFill_t rfl|exact okSize_t rfl|exact fun h=>h|(simp only[World.size_alloc,World.size_drew,World.size_setCell,size_fill,bytesW];omega)) only [go_sem,c4,c4S0,c4S1,c4S2,c4S3,c4S4,c4S5,c4S6,c4S7,c4S8,c4S9,c4S10,c4L0,c4S11,c4S12,c4S13,c4S14,c4S15,c4S16,c4S17,c4S18,q5,coreL,show (false == true) = false from rfl]
        refine Ret.mono (shawake_ok _) ?_
        rintro _ w6 ⟨rfl,b6⟩
        simp (disch:=first|omega|exact okFill_t rfl|exact okSize_t rfl|exact fun h=>h|(simp only[World.size_alloc,World.size_drew,World.size_setCell,size_fill,bytesW];omega)) only [go_sem,c4,c4S0,c4S1,c4S2,c4S3,c4S4,c4S5,c4S6,c4S7,c4S8,c4S9,c4S10,c4L0,c4S11,c4S12,c4S13,c4S14,c4S15,c4S16,c4S17,c4S18]
        exact (s5.call b6).bel
      | some x =>
        obtain ⟨L,n⟩:=x
        simp only [coreO,coreL,coreN,Option.isSome_some,Bool.not_true,if_true] at s5 q5 p5 g5 ⊢
        obtain ⟨_,hsub,hup,hnot,hwo⟩:=hr.good
        have hLl:=hr.len
        simp only [coreL] at hLl
        have hKL:∀ o ∈ L,o.Kind = kd:=fun o ho => hK o (hsub o ho)
        have hwL:∀ o ∈ L,o.wf:=fun o ho => hw o (hsub o ho)
        have hpL:Cut.Pure L:=fun a ha b hb e => hp a (hsub a ha) b (hsub b hb) e
        simp (disch:=first|omega|exact okFill_t rfl|exact okSize_t rfl|exact fun h=>h|(simp only[World.size_alloc,World.size_drew,World.size_setCell,size_fill,bytesW];omega)) only [go_sem,c4,c4S0,c4S1,c4S2,c4S3,c4S4,c4S6,c4S7,c4S8,c4S9,c4S10,c4L0,c4S11,c4S12,c4S13,c4S14,c4S15,c4S16,c4S17,c4S18,q5,p5,show (true == false) = false from rfl]
        refine bdW_built (cells:=#[.int .i64 ob,.int .i64 kd,.slice x1 L.length y1]) (by kernel_rfl) ?_
        simp (disch:=first|omega|exact okFill_t rfl|exact okSize_t rfl|exact fun h=>h|(simp only[World.size_alloc,World.size_drew,World.size_setCell,size_fill,bytesW];omega)) only [go_sem,c4,c4S0,c4S1,c4S2,c4S3,c4S4,c4S6,c4S7,c4S8,c4S9,c4S10,c4L0,c4S11,c4S12,c4S13,c4S14,c4S15,c4S16,c4S17,c4S18]
        have s6:=s5.box #[.int .i64 ob,.int .i64 kd,.slice x1 L.length y1] 24
        have b6:Below w5.heap.size w5 (w5.alloc (.cells #[.int .i64 ob,.int .i64 kd,.slice x1 L.length y1] 24)):=(Below.refl _ _).alloc (Nat.le_refl _) _
        generalize w5.alloc (.cells #[.int .i64 ob,.int .i64 kd,.slice x1 L.length y1] 24) = w6 at s6 b6 ⊢
        have q6:=s6.rules 0 rfl
        have g6:=g5.below b6 (by decide)
        have h6:=h5.below b6 (by decide)
        refine Ret.mono (lawExp_ok g6 (by omega) hKL hwL hpL hnot) ?_
        rintro _ w7 ⟨rfl,b7⟩
        have s7:=s6.call b7
        have q7:=s7.rules 1 rfl
        have p7:=s7.rules 2 rfl
        have g7:=g6.below b7 (by decide)
        have h7:=h6.below b7 (by decide)
        simp (disch:=first|omega|exact okFill_t rfl|exact okSize_t rfl|exact fun h=>h|(simp only[World.size_alloc,World.size_drew,World.size_setCell,size_fill,bytesW];omega)) only [go_sem,c4,c4S0,c4S1,c4S2,c4S3,c4S4,c4S5,c4S6,c4S7,c4S8,c4S9,c4S10,c4L0,c4S11,c4S13,c4S14,c4S15,c4S16,c4S17,c4S18,q7,p7]
        refine W_loopU (fun k:Nat => [(7,.int .i64 k)]) (fun k w' => Below w7.heap.size w7 w' ∧ k ≤ L.length) (fun k => L.length - k) 0 rfl ⟨Below.refl _ _,Nat.zero_le _⟩ ?_
        rintro k w8 ⟨b8,hk⟩
        have s8:=s7.call b8
        have x8:=s8.rules 0 rfl
        have q8:=s8.rules 1 rfl
        have p8:=s8.rules 2 rfl
        have g8:=g7.below b8 (by decide)
        have h8:=h7.below b8 (by decide)
        clear s1 s2 s3 s4 s5 s6 h1 h2 h3 h4 h5 h6 g4 g5 g6 b2 b3 b4 b5 b6 q6 q5 p5
        by_cases hlt:k < L.length
        · have hlt':(k:Int) < L.length:=by omega
          obtain ⟨xp,rfl⟩:=g8.ptr (by omega)
          have ek:=g8.eltB (Below.refl _ _) OpT.len (by decide) hlt
          have ak:=L[k].at
          simp (disch:=first|omega|exact okFill_t rfl|exact okSize_t rfl|exact fun h=>h|(simp only[World.size_alloc,World.size_drew,World.size_setCell,size_fill,bytesW];omega)) only [go_sem,c4,c4S0,c4S1,c4S2,c4S3,c4S4,c4S5,c4S6,c4S7,c4S8,c4S9,c4S10,c4L0,c4S11,c4S12,c4S13,c4S14,c4S15,c4S16,c4S17,c4S18,c4L0,hlt',q8]
          have lx:=s8.low 0 rfl
          have lq:=s8.low 1 rfl
          have lp:=s8.low 2 rfl
          have hd8:w8.drew.heap.size = w8.heap.size:=rfl
          have hp8:=g8.blt OpT.len (by decide) (by omega)
          refine c4draw0 (Chg (fun _ => False) _) (Chg.refl _ _) ?_
          simp (disch:=first|omega|exact okFill_t rfl|exact okSize_t rfl|exact fun h=>h|(simp only[World.size_alloc,World.size_drew,World.size_setCell,size_fill,bytesW];omega)) only [go_sem,c4,c4S0,c4S1,c4S2,c4S3,c4S4,c4S5,c4S6,c4S7,c4S8,c4S9,c4S10,c4L0,c4S11,c4S12,c4S13,c4S14,c4S15,c4S16,c4S17,c4S18,c4D0,hlt',q8,p8,ek,ak]
          have hmem:L[k] ∈ L:=List.getElem_mem hlt
          have hfind:=find_pure hp (hsub _ hmem)
          have bd:Below w8.heap.size w8 w8.drew:=(Below.refl _ _).drew
          have one:∀ {u:Value},((∃ o,l.find? (fun x => decide (x.ID = L[k].ID)) = some o ∧ u = .tuple #[.agg o.enc.toArray,.bool true]) ∨ (l.find? (fun x => decide (x.ID = L[k].ID)) = none ∧ ∃ o:OpT,u = .tuple #[.agg o.enc.toArray,.bool false])) → u = .tuple #[.agg L[k].enc.toArray,.bool true]:=by
            rintro u (⟨o,h1,h2⟩ | ⟨h1,_⟩)
            · rw [hfind] at h1
              cases h1
              exact h2
            · rw [hfind] at h1
              cases h1
          have za:=(s8.box #[.int .i64 0,.int .i64 0,.int .i64 0,.int .i64 0,.int .i64 0,.int .i64 0,.int .i64 0,.bool false,.int .i64 0,.int .i64 0,.int .i64 0] 38).drew
          have ta:=((St.start (W0:=w8)).box #[.int .i64 0,.int .i64 0,.int .i64 0,.int .i64 0,.int .i64 0,.int .i64 0,.int .i64 0,.bool false,.int .i64 0,.int .i64 0,.int .i64 0] 38).drew
          have ca:Chg (fun _ => False) w8.drew (w8.alloc (.cells #[.int .i64 0,.int .i64 0,.int .i64 0,.int .i64 0,.int .i64 0,.int .i64 0,.int .i64 0,.bool false,.int .i64 0,.int .i64 0,.int .i64 0] 38)).drew:=(Chg.refl (fun _ => False) w8.drew).alloc (.cells #[.int .i64 0,.int .i64 0,.int .i64 0,.int .i64 0,.int .i64 0,.int .i64 0,.int .i64 0,.bool false,.int .i64 0,.int .i64 0,.int .i64 0] 38)
          refine ⟨by omega,Ret.mono (get_ok _ l L[k].ID w8.drew (h8.below bd (by decide)) (by omega)) ?_,ca,Ret.mono (get_ok _ l L[k].ID _ (h8.below ta.bel (by decide)) (by omega)) ?_⟩
          · rintro u w9 ⟨hu,b9⟩
            obtain rfl:=one hu
            have s9:=(s8.drew.call b9).box L[k].enc.toArray 38
            have t9:=(((St.start (W0:=w8)).drew.call b9).box L[k].enc.toArray 38).bel
            simp (disch:=first|omega|exact okFill_t rfl|exact okSize_t rfl|exact fun h=>h|(simp only[World.size_alloc,World.size_drew,World.size_setCell,size_fill,bytesW];omega)) only [go_sem,c4,c4S0,c4S1,c4S2,c4S3,c4S4,c4S5,c4S6,c4S7,c4S9,c4S10,c4L0,c4S11,c4S12,c4S13,c4S14,c4S15,c4S16,c4S17,c4S18,c4D0]
            refine ⟨Chg.of_below b9,(Chg.of_below b9).alloc _,(OpT.len _).symm,(Chg.of_below b9).alloc _,?_⟩
            refine least_tail hlt s9 (g8.below t9 (by decide)) (by omega) hKL hwL hpL hup hwo fun w' b' => ?_
            simp (disch:=first|omega|exact okFill_t rfl|exact okSize_t rfl|exact fun h=>h|(simp only[World.size_alloc,World.size_drew,World.size_setCell,size_fill,bytesW];omega)) only [go_sem,c4,c4S0,c4S1,c4S2,c4S3,c4S4,c4S5,c4S6,c4S7,c4S8,c4S9,c4S10,c4L0,c4S11,c4S12,c4S13,c4S14,c4S15,c4S16,c4S17,c4S18]
            exact ⟨⟨by omega,by omega⟩,k + 1,rfl,⟨Below.next b8 (Below.next t9 b'),by omega⟩,by omega⟩
          · rintro u w9 ⟨hu,b9⟩
            obtain rfl:=one hu
            have z9:=za.call b9
            have t9:=ta.call b9
            have y9:=z9.fill 0 rfl (cs:=L[k].enc.toArray) rfl
            have x9:=(t9.fill 0 rfl (cs:=L[k].enc.toArray) rfl).bel
            simp (disch:=first|omega|exact okFill_t rfl|exact okSize_t rfl|exact fun h=>h|(simp only[World.size_alloc,World.size_drew,World.size_setCell,size_fill,bytesW];omega)) only [go_sem,c4,c4S0,c4S1,c4S2,c4S3,c4S4,c4S5,c4S6,c4S7,c4S9,c4S10,c4L0,c4S11,c4S12,c4S13,c4S14,c4S15,c4S16,c4S17,c4S18,c4D0]
            refine ⟨ca.trans (Chg.of_below b9),(OpT.len _).symm,blk_okSt (z9.blk 0 rfl) L[k].one (Nat.le_refl _),?_,?_⟩
            · exact (ca.trans (Chg.of_below b9)).fill fun h => by omega
            refine least_tail hlt y9 (g8.below x9 (by decide)) (by omega) hKL hwL hpL hup hwo fun w' b' => ?_
            simp (disch:=first|omega|exact okFill_t rfl|exact okSize_t rfl|exact fun h=>h|(simp only[World.size_alloc,World.size_drew,World.size_setCell,size_fill,bytesW];omega)) only [go_sem,c4,c4S0,c4S1,c4S2,c4S3,c4S4,c4S5,c4S6,c4S7,c4S8,c4S9,c4S10,c4L0,c4S11,c4S12,c4S13,c4S14,c4S15,c4S16,c4S17,c4S18]
            exact ⟨⟨by omega,by omega⟩,k + 1,rfl,⟨Below.next b8 (Below.next x9 b'),by omega⟩,by omega⟩
        · have hlt':¬ (k:Int) < L.length:=by omega
          simp (disch:=first|omega|exact okFill_t rfl|exact okSize_t rfl|exact fun h=>h|(simp only[World.size_alloc,World.size_drew,World.size_setCell,size_fill,bytesW];omega)) only [go_sem,c4,c4S0,c4S1,c4S2,c4S3,c4S4,c4S5,c4S6,c4S7,c4S8,c4S9,c4S10,c4L0,c4S11,c4S12,c4S13,c4S14,c4S15,c4S16,c4S17,c4S18,c4L0,hlt',q8]
          refine Ret.mono (shawake_ok _) ?_
          rintro _ w9 ⟨rfl,b9⟩
          simp (disch:=first|omega|exact okFill_t rfl|exact okSize_t rfl|exact fun h=>h|(simp only[World.size_alloc,World.size_drew,World.size_setCell,size_fill,bytesW];omega)) only [go_sem,c4,c4S0,c4S1,c4S2,c4S3,c4S4,c4S5,c4S6,c4S7,c4S8,c4S9,c4S10,c4L0,c4S11,c4S12,c4S13,c4S14,c4S15,c4S16,c4S17,c4S18]
          exact (s8.call b9).bel
    · have he':=hr.err35.resolve_left he
      simp (disch:=first|omega|exact okFill_t rfl|exact okSize_t rfl|exact fun h=>h|(simp only[World.size_alloc,World.size_drew,World.size_setCell,size_fill,bytesW];omega)) only [go_sem,c4,c4S0,c4S1,c4S2,c4S3,c4S4,c4S5,c4S6,c4S7,c4S8,c4S9,c4S10,c4L0,c4S11,c4S12,c4S13,c4S14,c4S15,c4S16,c4S17,c4S18,he']
      refine Ret.mono (shawake_ok _) ?_
      rintro _ w6 ⟨rfl,b6⟩
      simp (disch:=first|omega|exact okFill_t rfl|exact okSize_t rfl|exact fun h=>h|(simp only[World.size_alloc,World.size_drew,World.size_setCell,size_fill,bytesW];omega)) only [go_sem,c4,c4S0,c4S1,c4S2,c4S3,c4S4,c4S5,c4S6,c4S7,c4S8,c4S9,c4S10,c4L0,c4S11,c4S12,c4S13,c4S14,c4S15,c4S16,c4S17,c4S18]
      exact (s4.call b6).bel
set_option maxRecDepth 100000 in
theorem shrinkLeast_law {H:Type} {enc:TypeId × Value → H} {w:World} {r:Reach} {b base:Nat} {sp:Nat → Bool} {hd:Bool} {v:Value} {d:DataW H} {p:List MemPlace}
    (h:Value.okWide Tryz.prog w r b 24 v) (k:DataW.Trod enc Tryz.prog w base sp hd 24 v d p) :
    Ret Tryz.prog 4 [v] w fun u w' => u = .bool true ∧ Below w.heap.size w w':=by
  obtain ⟨a,cs,rfl,lv,rfl,q1,q2,q3⟩:=Opens.struct_arg opens_Seg Tryz.underlying24 h k
  exact shrinkLeast_ok q1 q3 q2
end Go.Proofs.YteiciplnfjnfjaaGreat
