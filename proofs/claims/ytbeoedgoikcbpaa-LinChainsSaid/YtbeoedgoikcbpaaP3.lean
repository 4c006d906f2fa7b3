/- Texts put together by program: L25, L26, L27, L28. -/
import Derived.Test.YtbeoedgoikcbpaaP2
import Derived.Test.YtbeoedgoikcbpaaE2
namespace Go.Proofs.Ytbeoedgoikcbpaa
set_option linter.unusedSimpArgs false
set_option linter.unusedVariables false
set_option maxRecDepth 100000
open Go Go.Ann Go.RowKit
theorem own_mono {w : World} {B B' e sz n : Nat} {v : Value} {xs : List Value} (h : w.ownsRow B e sz v n xs) (hb : B' ≤ B) : w.ownsRow B' e sz v n xs := by
  refine ⟨h.1, ?_⟩
  rcases h.2 with h | ⟨g, c, cur, e1, hg, h2⟩
  · exact .inl h
  · exact .inr ⟨g, c, cur, e1, Nat.le_trans hb hg, h2⟩
theorem res_mono {w : World} {B B' : Nat} {r : Res} (h : r.ok w B) (hb : B' ≤ B) : r.ok w B' := by
  cases r with
  | blk b cs t => exact ⟨h.1, Nat.le_trans hb h.2⟩
  | row v e sz n xs => exact own_mono h hb
  | obj b o => exact ⟨h.1, Nat.le_trans hb h.2⟩
/-- What a call has made comes to what is there. -/
theorem St.join {W0 w w' : World} {F : Nat → Prop} {L L' : List Res} {I : List Inv} (h : St W0 w F L I) (k : St w w' (fun _ => False) L' []) : St W0 w' F (L' ++ L) I := by
  have h' := h.call k.bel
  refine ⟨h'.bel, h'.foot, fun r hr => ?_, ?_, fun a ha => ⟨(h'.inv a ha).1, fun j hj => ⟨((h'.inv a ha).2 j hj).1, ((h'.inv a ha).2 j hj).2.1, fun r hr e => ?_⟩⟩⟩
  · rcases List.mem_append.1 hr with hr | hr
    · refine ⟨res_mono (k.res r hr).1 h.size, fun j hj hF => ?_⟩
      have := ((k.res r hr).1.lt j hj).1
      have := (h.foot j hF).2
      omega
    · exact h'.res r hr
  · rw [List.filterMap_append]
    refine List.nodup_append.2 ⟨k.nd, h.nd, fun a ha b hb e => ?_⟩
    subst e
    obtain ⟨r, hr, hra⟩ := List.mem_filterMap.1 ha
    obtain ⟨q, hq, hqa⟩ := List.mem_filterMap.1 hb
    have := ((k.res r hr).1.lt a hra).1
    have := ((h.res q hq).1.lt a hqa).2
    omega
  · rcases List.mem_append.1 hr with hr | hr
    · have := ((k.res r hr).1.lt j e).1
      have := ((h.inv a ha).2 j hj).1
      omega
    · exact ((h'.inv a ha).2 j hj).2.2 r hr e
/-- States that can be read. -/
def Inv.vs (D : List VS) : Inv := ⟨fun w => ∀ p ∈ D, RdS w 1 intE p.1 p.2, fun k => ∃ p ∈ D, slFoot p.1 k, fun w w' h hk p hp => RdS.loc (h p hp) fun k hf => hk k ⟨p, hp, hf⟩⟩
theorem vs_add {W0 w w' : World} {F : Nat → Prop} {L : List Res} {I : List Inv} {D : List VS} {v : Value} {s : List Int} (h : St W0 w F L (Inv.vs D :: I)) (hb : Below w.heap.size w w') (hr : RdS w' 1 intE v s) (hf : ∀ k, slFoot v k → w.heap.size ≤ k) : St W0 w' F L (Inv.vs ((v, s) :: D) :: I) := by
  have h' := h.call hb
  have hD := h'.inv _ (List.mem_cons_self ..)
  refine (h'.inv_sub (I' := I) fun a ha => List.mem_cons_of_mem _ ha).keep (Inv.vs ((v, s) :: D)) (fun p hp => ?_) fun k hk => ?_
  · rcases List.mem_cons.1 hp with rfl | hp
    · exact hr
    · exact hD.1 p hp
  · obtain ⟨p, hp, hk⟩ := hk
    rcases List.mem_cons.1 hp with rfl | hp
    · have h1 := hf k hk
      refine ⟨hr.footLt (by decide) hk, fun hF => ?_, fun r hr' e => ?_⟩
      · have := (h.foot k hF).2; omega
      · have := ((h.res r hr').1.lt k e).2; omega
    · exact hD.2 k ⟨p, hp, hk⟩
/-- A place: its state's value, the mask, the state. -/
abbrev PS := Value × Nat × List Int
def plE (p : PS) : List Value := [.int .u32 p.2.1, .string (ofL (txt p.2.2)), p.1]
abbrev Key := Nat × List UInt8
def spE (k : Key) : List Value := [.int .u32 k.1, .string (ofL k.2)]
def keyOf (p : PS) : Key := (p.2.1, txt p.2.2)
theorem keyT_sp : ∃ d, KeyT Try.prog 70 (fun k : Key => .agg (spE k).toArray) d := by
  refine ⟨_, keyT_flat ty70flat Try.underlying70 (fun a b => ?_) fun a i f h => ?_⟩
  · simp only [aggEq, spE, vEq, andO, if_true, toL_ofL, Option.some.injEq]
    rw [Bool.eq_iff_iff, decide_eq_true_eq]
    obtain ⟨a1, a2⟩ := a
    obtain ⟨b1, b2⟩ := b
    simp only [Bool.and_eq_true, decide_eq_true_eq, Bool.and_true, Prod.mk.injEq]
    constructor
    · rintro ⟨h1, h2⟩; exact ⟨by omega, of_decide_eq_true h2⟩
    · rintro ⟨h1, h2⟩; exact ⟨by omega, decide_eq_true h2⟩
  · match i, h with
    | 0, h => simp at h; subst h; exact ⟨_, rfl⟩
    | 1, h => simp at h; subst h; exact ⟨_, rfl⟩
    | i + 2, h => simp at h
def SL (x m : Nat) (lv av : Value) (mu : Nat) (tv : Value) (T : List PS) : List Res :=
  [.blk x #[lv, av, .int .u32 mu, .map (some m), tv] 68, .row tv 72 3 T.length (T.flatMap plE), .obj m (mapO (fun k => .agg (spE k).toArray) (T.map keyOf))]
theorem add_ok {W0 w : World} {F : Nat → Prop} {L : List Res} {I : List Inv} {x m mu d : Nat} {lv av tv sv : Value} {T : List PS} {s : List Int} (h : St W0 w F (SL x m lv av mu tv T ++ L) I) (hs : RdS w 1 intE sv s) (ok : OkS s) (hT : T.length ≤ 1000000) :
    Ret Try.prog 31 [.pointer (some ⟨x, 0, none⟩), .int .u32 d, sv] w fun _ w' => ∃ tv', St W0 w' F (SL x m lv av mu tv' (if keyOf (sv, d, s) ∈ T.map keyOf then T else T ++ [(sv, d, s)]) ++ L) I := by
  obtain ⟨sa, sc, rfl, _⟩ := hs.form
  obtain ⟨ta, tc, rfl, _⟩ := own_slice (h.row 1 rfl)
  refine ent31 _ _ _ _ _ ?_
  simp (disch := first | omega | exact okFill_t rfl | exact okSize_t rfl | exact fun h => h | (simp only [World.size_alloc, World.size_drew, World.size_setCell, size_fill, bytesW]; omega)) only [go_sem, ↓reduceIte, reduceCtorEq, Nat.reduceBEq, Nat.reduceEqDiff, Nat.reduceAdd, Nat.reduceMul, Int.reduceNe, Int.reduceEq, Int.reduceLT, Int.reduceLE, Int.reduceNeg, Int.reduceAdd, Int.reduceSub, Int.reduceMul, Int.reduceToNat, beq_self_eq_true, c31, c31S0, c31S1, c31S2]
  refine Ret.mono (text_ok _ s w hs ok.1 ok.2) ?_
  rintro _ w1 ⟨rfl, g1⟩
  have s1 := h.call g1.below
  simp (disch := first | omega | exact okFill_t rfl | exact okSize_t rfl | exact fun h => h | (simp only [World.size_alloc, World.size_drew, World.size_setCell, size_fill, bytesW]; omega)) only [go_sem, ↓reduceIte, reduceCtorEq, Nat.reduceBEq, Nat.reduceEqDiff, Nat.reduceAdd, Nat.reduceMul, Int.reduceNe, Int.reduceEq, Int.reduceLT, Int.reduceLE, Int.reduceNeg, Int.reduceAdd, Int.reduceSub, Int.reduceMul, Int.reduceToNat, beq_self_eq_true, c31, c31S0, c31S1, c31S2]
  refine bdW_built (cells := #[.int .u32 d, .string (ofL (txt s))]) (by kernel_rfl) ?_
  simp (disch := first | omega | exact okFill_t rfl | exact okSize_t rfl | exact fun h => h | (simp only [World.size_alloc, World.size_drew, World.size_setCell, size_fill, bytesW]; omega)) only [go_sem, ↓reduceIte, reduceCtorEq, Nat.reduceBEq, Nat.reduceEqDiff, Nat.reduceAdd, Nat.reduceMul, Int.reduceNe, Int.reduceEq, Int.reduceLT, Int.reduceLE, Int.reduceNeg, Int.reduceAdd, Int.reduceSub, Int.reduceMul, Int.reduceToNat, beq_self_eq_true, c31, c31S0, c31S1, c31S2]
  refine bdW_built (cells := #[.int .u32 d, .string (ofL (txt s)), .slice sa s.length sc]) (by kernel_rfl) ?_
  simp (disch := first | omega | exact okFill_t rfl | exact okSize_t rfl | exact fun h => h | (simp only [World.size_alloc, World.size_drew, World.size_setCell, size_fill, bytesW]; omega)) only [go_sem, ↓reduceIte, reduceCtorEq, Nat.reduceBEq, Nat.reduceEqDiff, Nat.reduceAdd, Nat.reduceMul, Int.reduceNe, Int.reduceEq, Int.reduceLT, Int.reduceLE, Int.reduceNeg, Int.reduceAdd, Int.reduceSub, Int.reduceMul, Int.reduceToNat, beq_self_eq_true, c31, c31S0, c31S1, c31S2]
  have b1 := s1.rules 0 rfl
  have l1 := s1.low 0 rfl
  have s2 := s1.box #[.int .u32 d, .string (ofL (txt s)), .slice sa s.length sc] 72
  generalize w1.alloc (.cells #[.int .u32 d, .string (ofL (txt s)), .slice sa s.length sc] 72) = w2 at s2 ⊢
  generalize w1.heap.size = y at s2 ⊢
  have s3 := s2.drew
  have r3 := s2.rules 0 rfl
  have q3 := s2.rules 1 rfl
  have k3 := s3.low 0 rfl
  have m3 := s3.low 1 rfl
  simp only [World.size_drew] at k3 m3
  refine c31draw0 (Chg (fun _ => False) _) (Chg.refl _ _) ?_
  simp (disch := first | omega | exact okFill_t rfl | exact okSize_t rfl | exact fun h => h | (simp only [World.size_alloc, World.size_drew, World.size_setCell, size_fill, bytesW]; omega)) only [go_sem, ↓reduceIte, reduceCtorEq, Nat.reduceBEq, Nat.reduceEqDiff, Nat.reduceAdd, Nat.reduceMul, Int.reduceNe, Int.reduceEq, Int.reduceLT, Int.reduceLE, Int.reduceNeg, Int.reduceAdd, Int.reduceSub, Int.reduceMul, Int.reduceToNat, beq_self_eq_true, c31, c31S0, c31S1, c31S2, c31D0, r3, q3]
  obtain ⟨kd, hk⟩ := keyT_sp
  refine luW_map hk Try.underlying65 (s3.obj 3 rfl) (d, txt s) (Try.zeroValue4 _) ?_
  simp (disch := first | omega | exact okFill_t rfl | exact okSize_t rfl | exact fun h => h | (simp only [World.size_alloc, World.size_drew, World.size_setCell, size_fill, bytesW]; omega)) only [go_sem, ↓reduceIte, reduceCtorEq, Nat.reduceBEq, Nat.reduceEqDiff, Nat.reduceAdd, Nat.reduceMul, Int.reduceNe, Int.reduceEq, Int.reduceLT, Int.reduceLE, Int.reduceNeg, Int.reduceAdd, Int.reduceSub, Int.reduceMul, Int.reduceToNat, beq_self_eq_true, c31, c31S0, c31S1, c31S2]
  refine ⟨fun hmem => ?_, fun hmem => ⟨.slice ta T.length tc, by rw [if_pos (show keyOf (Value.slice sa s.length sc, d, s) ∈ T.map keyOf from hmem)]; exact s3.sub (List.sublist_cons_self _ _)⟩⟩
  have s4 := s3.drew
  have r4 := s3.rules 0 rfl
  have q4 := s3.rules 1 rfl
  simp only [World.cell?_drew] at r4 q4
  refine c31draw1 (Chg (fun _ => False) _) (Chg.refl _ _) ?_
  simp (disch := first | omega | exact okFill_t rfl | exact okSize_t rfl | exact fun h => h | (simp only [World.size_alloc, World.size_drew, World.size_setCell, size_fill, bytesW]; omega)) only [go_sem, ↓reduceIte, reduceCtorEq, Nat.reduceBEq, Nat.reduceEqDiff, Nat.reduceAdd, Nat.reduceMul, Int.reduceNe, Int.reduceEq, Int.reduceLT, Int.reduceLE, Int.reduceNeg, Int.reduceAdd, Int.reduceSub, Int.reduceMul, Int.reduceToNat, beq_self_eq_true, c31, c31S0, c31S1, c31S2, c31D1, r4, q4]
  refine muW_map hk Try.underlying65 (s4.obj 3 rfl) (d, txt s) hmem ?_
  have s5 := s4.putObj 3 rfl (mapO (fun k => .agg (spE k).toArray) (T.map keyOf ++ [(d, txt s)]))
  generalize w2.drew.drew.putObj m (mapO (fun k => Value.agg (spE k).toArray) (T.map keyOf ++ [(d, txt s)])) = w5 at s5 ⊢
  simp only [List.set_cons_zero, List.set_cons_succ] at s5
  simp (disch := first | omega | exact okFill_t rfl | exact okSize_t rfl | exact fun h => h | (simp only [World.size_alloc, World.size_drew, World.size_setCell, size_fill, bytesW]; omega)) only [go_sem, ↓reduceIte, reduceCtorEq, Nat.reduceBEq, Nat.reduceEqDiff, Nat.reduceAdd, Nat.reduceMul, Int.reduceNe, Int.reduceEq, Int.reduceLT, Int.reduceLE, Int.reduceNeg, Int.reduceAdd, Int.reduceSub, Int.reduceMul, Int.reduceToNat, beq_self_eq_true, c31, c31S0, c31S1, c31S2, c31D1]
  have r5 := s5.rules 0 rfl
  have q5 := s5.rules 1 rfl
  have k5 := s5.low 0 rfl
  have m5 := s5.low 1 rfl
  have s6 := s5.drew
  refine c31draw2 (Chg (fun _ => False) _) (Chg.refl _ _) ?_
  simp (disch := first | omega | exact okFill_t rfl | exact okSize_t rfl | exact fun h => h | (simp only [World.size_alloc, World.size_drew, World.size_setCell, size_fill, bytesW]; omega)) only [go_sem, ↓reduceIte, reduceCtorEq, Nat.reduceBEq, Nat.reduceEqDiff, Nat.reduceAdd, Nat.reduceMul, Int.reduceNe, Int.reduceEq, Int.reduceLT, Int.reduceLE, Int.reduceNeg, Int.reduceAdd, Int.reduceSub, Int.reduceMul, Int.reduceToNat, beq_self_eq_true, c31, c31S0, c31S1, c31S2, c31D2, r5, q5]
  refine bsW_agg ty66mkI rfl (by decide) (by decide) ?_
  simp (disch := first | omega | exact okFill_t rfl | exact okSize_t rfl | exact fun h => h | (simp only [World.size_alloc, World.size_drew, World.size_setCell, size_fill, bytesW]; omega)) only [go_sem, ↓reduceIte, reduceCtorEq, Nat.reduceBEq, Nat.reduceEqDiff, Nat.reduceAdd, Nat.reduceMul, Int.reduceNe, Int.reduceEq, Int.reduceLT, Int.reduceLE, Int.reduceNeg, Int.reduceAdd, Int.reduceSub, Int.reduceMul, Int.reduceToNat, beq_self_eq_true, c31, c31S0, c31S1, c31S2, c31D2]
  have s7 := s6.alloc' (.cells #[.int .u32 d, .string (ofL (txt s)), .slice sa s.length sc] 72)
  have hx : Rd (w5.drew.alloc (.cells #[.int .u32 d, .string (ofL (txt s)), .slice sa s.length sc] 72)) 3 (.slice (some ⟨w5.drew.heap.size, 0, none⟩) 1 1) 1 (plE (.slice sa s.length sc, d, s)) := rd_new (n := 1) (cs := #[.int .u32 d, .string (ofL (txt s)), .slice sa s.length sc]) rfl
  refine ⟨Chg.of_below ((Below.refl _ _).alloc (Nat.le_refl _) _), s7.append 2 rfl ty66mkI rfl (by decide) hx (by intro u hu; simp only [plE, List.mem_cons, List.not_mem_nil, or_false] at hu; rcases hu with rfl | rfl | rfl <;> rfl) (by omega) (by omega) ?_⟩
  intro v8 w8 s8 c8
  simp only [List.set_cons_zero, List.set_cons_succ] at s8
  obtain ⟨a8, d8, rfl, _⟩ := own_slice (s8.row 2 rfl)
  have r8 := s8.rules 1 rfl
  simp (disch := first | omega | exact okFill_t rfl | exact okSize_t rfl | exact fun h => h | (simp only [World.size_alloc, World.size_drew, World.size_setCell, size_fill, bytesW]; omega)) only [go_sem, ↓reduceIte, reduceCtorEq, Nat.reduceBEq, Nat.reduceEqDiff, Nat.reduceAdd, Nat.reduceMul, Int.reduceNe, Int.reduceEq, Int.reduceLT, Int.reduceLE, Int.reduceNeg, Int.reduceAdd, Int.reduceSub, Int.reduceMul, Int.reduceToNat, beq_self_eq_true, c31, c31S0, c31S1, c31S2, c31D2, r8]
  have s9 := (s8.set 1 rfl 4 (.slice a8 (T.length + 1) d8)).sub (L' := SL x m lv av mu (.slice a8 (T.length + 1) d8) (T ++ [(.slice sa s.length sc, d, s)]) ++ L) (by
    unfold SL
    rw [List.length_append, List.flatMap_append, List.map_append]
    simp only [List.set_cons_zero, List.set_cons_succ, List.flatMap_cons, List.flatMap_nil, List.append_nil, List.map_cons, List.map_nil, List.length_cons, List.length_nil]
    exact List.sublist_cons_self _ _)
  refine ⟨.slice a8 (T.length + 1) d8, ?_⟩
  rw [if_neg (show ¬ keyOf (Value.slice sa s.length sc, d, s) ∈ T.map keyOf from hmem)]
  exact s9
end Go.Proofs.Ytbeoedgoikcbpaa
namespace Go.Proofs.Ytbeoedgoikcbpaa
set_option linter.unusedSimpArgs false
set_option linter.unusedVariables false
set_option maxRecDepth 100000
open Go Go.Ann Go.RowKit
def uV (n : Nat) : Value := .int .u32 n
def u32E (n : Nat) : List Value := [uV n]
/-- Which operations are before one. -/
def preL (l : List OpT) (o : OpT) : List Bool := l.map fun p => before p o
def afterL (l : List OpT) : List Nat := l.map fun o => maskN (preL l o)
def doneL (l : List OpT) : List Bool := l.map fun o => o.Done
theorem maskN_or (l : List Bool) : maskN l ||| 2 ^ l.length = maskN (l ++ [true]) := by
  refine Nat.eq_of_testBit_eq fun j => ?_
  rw [Nat.testBit_or, maskN_bit, maskN_bit, Nat.testBit_two_pow]
  simp only [List.getD_eq_getElem?_getD]
  rcases Nat.lt_trichotomy j l.length with h | h | h
  · rw [List.getElem?_append_left h]; simp; omega
  · subst h; simp
  · rw [List.getElem?_append_right (by omega), List.getElem?_eq_none (by omega), List.getElem?_eq_none (by simp; omega)]; simp; omega
theorem maskN_no (l : List Bool) : maskN (l ++ [false]) = maskN l := by rw [maskN_app]; simp
theorem pow_le {i : Nat} (h : i ≤ 16) : 2 ^ i < 4294967296 := by
  have h2 : 2 ^ i ≤ 2 ^ 16 := Nat.pow_le_pow_right (by decide) (by omega)
  have h3 : (2 : Nat) ^ 16 = 65536 := by decide
  omega
theorem mask_le {l : List Bool} (h : l.length ≤ 16) : maskN l < 4294967296 := by
  have h1 := maskN_lt l
  have h2 := pow_le h
  omega
theorem pow_u32 {i : Nat} (hi : i ≤ 16) : IntKind.u32.wrap (1 * 2 ^ min i 32) = ((2 ^ i : Nat) : Int) := by
  have h := pow_le hi
  rw [Nat.min_eq_left (by omega), wrap_u32, Int.one_mul]
  have e : ((2 : Int) ^ i) = ((2 ^ i : Nat) : Int) := by norm_cast
  rw [e]
  exact Int.emod_eq_of_lt (Int.natCast_nonneg _) (Int.ofNat_lt.2 h)
theorem wrap_u64_nat {n : Nat} (h : n < 18446744073709551616) : IntKind.u64.wrap (n : Int) = n := wrap_u64_id _ (by omega) (by omega)
theorem may_ok {w : World} {x i : Nat} {A : List Nat} {av lv mv tv : Value} {mu : Int} {a d : List Bool} (hB : Blk w x #[lv, av, .int .u32 mu, mv, tv] 68) (hA : RdS w 1 u32E av A) (hi : i < A.length) (ha : A[i] = maskN a) (hl : a.length = d.length) (h32 : d.length ≤ 16) (hid : A.length ≤ 16) :
    Ret Try.prog 32 [.pointer (some ⟨x, 0, none⟩), .int .u32 (maskN d), .int .i64 i] w fun u w' => u = .bool (!(d.getD i false) && (a.zip d).all (fun p => p.2 || !p.1)) ∧ w' = w := by
  obtain ⟨ad, cc, rfl, _⟩ := hA.form
  obtain ⟨p, rfl⟩ := hA.ptr (by omega)
  refine ent32 _ _ _ _ _ ?_
  have r := hB.rules
  have ep : w.cell? (p.add i) = some (.int .u32 (maskN a)) := by
    have := RdS.at1 (e1 := uV) hA hi
    rw [ha] at this; exact this
  have e1 := wrap_u64_nat (show i < 18446744073709551616 by omega)
  have e2 : bits .and .u32 ((maskN d : Int) / 2 ^ min i 32) 1 = if d.getD i false = true then 1 else 0 := by
    rw [Nat.min_eq_left (by omega)]; exact mask_bit (by omega)
  have e3 := mask_in hl (by omega)
  simp (disch := first | omega | exact okFill_t rfl | exact okSize_t rfl | exact fun h => h | (simp only [World.size_alloc, World.size_drew, World.size_setCell, size_fill, bytesW]; omega)) only [go_sem, ↓reduceIte, reduceCtorEq, Nat.reduceBEq, Nat.reduceEqDiff, Nat.reduceAdd, Nat.reduceMul, Int.reduceNe, Int.reduceEq, Int.reduceLT, Int.reduceLE, Int.reduceNeg, Int.reduceAdd, Int.reduceSub, Int.reduceMul, Int.reduceToNat, beq_self_eq_true, c32, r, ep, e1]
  rw [e2]
  cases hd : d.getD i false with
  | true => exact ⟨by omega, fun h => by simp at h, fun _ => by simp⟩
  | false =>
    refine ⟨by omega, fun _ => ⟨⟨by omega, by omega⟩, ?_⟩, fun h => by simp at h⟩
    rw [Bool.eq_iff_iff, decide_eq_true_eq, e3]
    simp
theorem begin_in {w w4 : World} {x m a y i lc : Nat} {p : Addr} {l : List OpT} {o : OpT} {mu : Value} {Q : Post} (h : RdS w 11 OpT.enc (.slice (some p) l.length lc) l) (hn : l.length ≤ 16) (hi : i < l.length) (A B : List Nat) (hA : A.length = i)
    (s4 : St w w4 (fun _ => False) [.blk y o.enc.toArray 58, .blk x #[.slice (some p) l.length lc, .slice (some ⟨a, 0, none⟩) l.length l.length, mu, .map (some m), .slice none 0 0] 68, .obj m (mapO (κ := Key) (fun k => .agg (spE k).toArray) []), .blk a ((A ++ 0 :: B).map uV).toArray 63] [])
    (hQ : ∀ w5, St w w5 (fun _ => False) [.blk y o.enc.toArray 58, .blk x #[.slice (some p) l.length lc, .slice (some ⟨a, 0, none⟩) l.length l.length, mu, .map (some m), .slice none 0 0] 68, .obj m (mapO (κ := Key) (fun k => .agg (spE k).toArray) []), .blk a ((A ++ maskN (preL l o) :: B).map uV).toArray 63] [] →
      Q .normal [(0, .slice (some p) l.length lc), (3, .pointer (some ⟨x, 0, none⟩)), (15, .slice (some p) l.length lc), (16, .int .i64 l.length), (17, .int .i64 i)] w5) :
    W Try.prog (sg c30S3) [(0, .slice (some p) l.length lc), (3, .pointer (some ⟨x, 0, none⟩)), (4, .int .i64 i), (5, .pointer (some ⟨y, 0, none⟩)), (15, .slice (some p) l.length lc), (16, .int .i64 l.length), (17, .int .i64 i)] w4 Q := by
  simp (disch := first | omega | exact okFill_t rfl | exact okSize_t rfl | exact fun h => h | (simp only [World.size_alloc, World.size_drew, World.size_setCell, size_fill, bytesW]; omega)) only [go_sem, ↓reduceIte, reduceCtorEq, Nat.reduceBEq, Nat.reduceEqDiff, Nat.reduceAdd, Nat.reduceMul, Int.reduceNe, Int.reduceEq, Int.reduceLT, Int.reduceLE, Int.reduceNeg, Int.reduceAdd, Int.reduceSub, Int.reduceMul, Int.reduceToNat, beq_self_eq_true, c30, c30S0, c30S1, c30S2, c30L0, c30S3, c30S4, c30S5, c30L1, c30S6]
  have ph : (preL l o).length = l.length := by simp [preL]
  refine W_loopU (fun k : Nat => [(36, .int .i64 k)]) (fun k w' => St w w' (fun _ => False) [.blk y o.enc.toArray 58, .blk x #[.slice (some p) l.length lc, .slice (some ⟨a, 0, none⟩) l.length l.length, mu, .map (some m), .slice none 0 0] 68, .obj m (mapO (κ := Key) (fun k => .agg (spE k).toArray) []), .blk a ((A ++ maskN ((preL l o).take k) :: B).map uV).toArray 63] [] ∧ k ≤ l.length) (fun k => l.length - k) 0 rfl ⟨s4, Nat.zero_le _⟩ ?_
  rintro k w5 ⟨s5, hk⟩
  by_cases hlt : k < l.length
  · have hlt' : (k : Int) < l.length := by omega
    have eo := (h.below s5.bel (by decide)).at OpT.len hlt
    have r5 := s5.rules 0 rfl
    have l5 := s5.low 0 rfl
    simp (disch := first | omega | exact okFill_t rfl | exact okSize_t rfl | exact fun h => h | (simp only [World.size_alloc, World.size_drew, World.size_setCell, size_fill, bytesW]; omega)) only [go_sem, ↓reduceIte, reduceCtorEq, Nat.reduceBEq, Nat.reduceEqDiff, Nat.reduceAdd, Nat.reduceMul, Int.reduceNe, Int.reduceEq, Int.reduceLT, Int.reduceLE, Int.reduceNeg, Int.reduceAdd, Int.reduceSub, Int.reduceMul, Int.reduceToNat, beq_self_eq_true, c30, c30S0, c30S1, c30S2, c30L0, c30S3, c30S4, c30S5, c30L1, c30S6, c30L0, hlt', eo, OpT.len, r5]
    refine ⟨by omega, Ret.mono (before_ok l[k] o _) ?_⟩
    rintro _ w6 ⟨rfl, b6⟩
    have s6 := (s5.alloc' (.cells l[k].enc.toArray 58)).call b6
    have r6 := s6.rules 1 rfl
    have q6 := s6.rules 3 rfl
    have l6 := s6.low 1 rfl
    have m6 := s6.low 3 rfl
    have et : (preL l o).take (k + 1) = (preL l o).take k ++ [before l[k] o] := by
      rw [List.take_succ_eq_append_getElem (by omega)]
      simp [preL]
    have htl : ((preL l o).take k).length = k := by rw [List.length_take]; omega
    have e1 := wrap_u64_nat (show k < 18446744073709551616 by omega)
    have e2 := pow_u32 (show k ≤ 16 by omega)
    cases hb : before l[k] o with
    | true =>
      have ec : ((A ++ maskN ((preL l o).take k) :: B).map uV)[i]? = some (.int .u32 (maskN ((preL l o).take k))) := by
        rw [List.getElem?_map, List.getElem?_append_right (by omega), hA, Nat.sub_self]; rfl
      have e3 := or_u32 (mask_le (l := (preL l o).take k) (by omega)) (pow_le (show k ≤ 16 by omega))
      have e4 := maskN_or ((preL l o).take k)
      rw [htl] at e4
      rw [e4, ← hb, ← et] at e3
      simp (disch := first | omega | exact okFill_t rfl | exact okSize_t rfl | exact fun h => h | (simp only [World.size_alloc, World.size_drew, World.size_setCell, size_fill, bytesW]; omega)) only [go_sem, ↓reduceIte, reduceCtorEq, Nat.reduceBEq, Nat.reduceEqDiff, Nat.reduceAdd, Nat.reduceMul, Int.reduceNe, Int.reduceEq, Int.reduceLT, Int.reduceLE, Int.reduceNeg, Int.reduceAdd, Int.reduceSub, Int.reduceMul, Int.reduceToNat, beq_self_eq_true, c30, c30S0, c30S1, c30S2, c30L0, c30S3, c30S4, c30S5, c30L1, c30S6, r6, q6, e1, ec]
      refine ⟨⟨by omega, by omega⟩, by omega, ⟨by omega, by omega⟩, ⟨by omega, by omega⟩, k + 1, rfl, ⟨?_, by omega⟩, by omega⟩
      rw [e2, e3]
      have s7 := s6.set 3 rfl i (.int .u32 (maskN ((preL l o).take (k + 1))))
      have e7 : ((A ++ maskN ((preL l o).take k) :: B).map uV).toArray.setIfInBounds i (.int .u32 (maskN ((preL l o).take (k + 1)))) = ((A ++ maskN ((preL l o).take (k + 1)) :: B).map uV).toArray := by
        rw [List.setIfInBounds_toArray, List.map_append, List.set_append_right _ _ (by simp; omega)]
        simp [hA, uV]
      rw [e7] at s7
      exact s7
    | false =>
      simp (disch := first | omega | exact okFill_t rfl | exact okSize_t rfl | exact fun h => h | (simp only [World.size_alloc, World.size_drew, World.size_setCell, size_fill, bytesW]; omega)) only [go_sem, ↓reduceIte, reduceCtorEq, Nat.reduceBEq, Nat.reduceEqDiff, Nat.reduceAdd, Nat.reduceMul, Int.reduceNe, Int.reduceEq, Int.reduceLT, Int.reduceLE, Int.reduceNeg, Int.reduceAdd, Int.reduceSub, Int.reduceMul, Int.reduceToNat, beq_self_eq_true, c30, c30S0, c30S1, c30S2, c30L0, c30S3, c30S4, c30S5, c30L1, c30S6]
      refine ⟨⟨by omega, by omega⟩, k + 1, rfl, ⟨?_, by omega⟩, by omega⟩
      rw [et, hb, maskN_no]; exact s6
  · have hlt' : ¬ (k : Int) < l.length := by omega
    simp (disch := first | omega | exact okFill_t rfl | exact okSize_t rfl | exact fun h => h | (simp only [World.size_alloc, World.size_drew, World.size_setCell, size_fill, bytesW]; omega)) only [go_sem, ↓reduceIte, reduceCtorEq, Nat.reduceBEq, Nat.reduceEqDiff, Nat.reduceAdd, Nat.reduceMul, Int.reduceNe, Int.reduceEq, Int.reduceLT, Int.reduceLE, Int.reduceNeg, Int.reduceAdd, Int.reduceSub, Int.reduceMul, Int.reduceToNat, beq_self_eq_true, c30, c30S0, c30S1, c30S2, c30L0, c30S3, c30S4, c30S5, c30L1, c30S6, c30L0, hlt']
    rw [List.take_of_length_le (by omega)] at s5
    exact hQ _ s5
theorem begin_ok (lv : Value) (l : List OpT) (w : World) (h : RdS w 11 OpT.enc lv l) (hn : l.length ≤ 16) :
    Ret Try.prog 30 [lv] w fun u w' => ∃ x m a, u = .pointer (some ⟨x, 0, none⟩) ∧ St w w' (fun _ => False)
      [.blk x #[lv, .slice (some ⟨a, 0, none⟩) l.length l.length, .int .u32 (maskN (doneL l)), .map (some m), .slice none 0 0] 68, .blk a ((afterL l).map uV).toArray 63, .obj m (mapO (fun k => .agg (spE k).toArray) [])] [] := by
  obtain ⟨la, lc, rfl, _⟩ := h.form
  refine ent30 _ _ _ ?_
  simp (disch := first | omega | exact okFill_t rfl | exact okSize_t rfl | exact fun h => h | (simp only [World.size_alloc, World.size_drew, World.size_setCell, size_fill, bytesW]; omega)) only [go_sem, ↓reduceIte, reduceCtorEq, Nat.reduceBEq, Nat.reduceEqDiff, Nat.reduceAdd, Nat.reduceMul, Int.reduceNe, Int.reduceEq, Int.reduceLT, Int.reduceLE, Int.reduceNeg, Int.reduceAdd, Int.reduceSub, Int.reduceMul, Int.reduceToNat, beq_self_eq_true, c30, c30S0, c30S1, c30S2, c30L0, c30S3, c30S4, c30S5, c30S6]
  refine msW_one ty64mkI rfl (by omega) (by omega) (by omega) (by omega) ?_
  simp (disch := first | omega | exact okFill_t rfl | exact okSize_t rfl | exact fun h => h | (simp only [World.size_alloc, World.size_drew, World.size_setCell, size_fill, bytesW]; omega)) only [go_sem, ↓reduceIte, reduceCtorEq, Nat.reduceBEq, Nat.reduceEqDiff, Nat.reduceAdd, Nat.reduceMul, Int.reduceNe, Int.reduceEq, Int.reduceLT, Int.reduceLE, Int.reduceNeg, Int.reduceAdd, Int.reduceSub, Int.reduceMul, Int.reduceToNat, beq_self_eq_true, c30, c30S0, c30S1, c30S2, c30L0, c30S3, c30S4, c30S5, c30S6]
  have s1 := (St.start (W0 := w)).box (zerosA (Value.int IntKind.u32 0) l.length) 63
  generalize hb : w.alloc (.cells (zerosA (Value.int IntKind.u32 0) l.length) 63) = w1 at s1 ⊢
  have e1 : w1.heap.size = w.heap.size + 1 := by rw [← hb]; simp
  refine mmW_map (κ := Key) (enc := fun k => .agg (spE k).toArray) ?_
  simp (disch := first | omega | exact okFill_t rfl | exact okSize_t rfl | exact fun h => h | (simp only [World.size_alloc, World.size_drew, World.size_setCell, size_fill, bytesW]; omega)) only [go_sem, ↓reduceIte, reduceCtorEq, Nat.reduceBEq, Nat.reduceEqDiff, Nat.reduceAdd, Nat.reduceMul, Int.reduceNe, Int.reduceEq, Int.reduceLT, Int.reduceLE, Int.reduceNeg, Int.reduceAdd, Int.reduceSub, Int.reduceMul, Int.reduceToNat, beq_self_eq_true, c30, c30S0, c30S1, c30S2, c30L0, c30S3, c30S4, c30S5, c30S6]
  refine bdW_built (cells := #[.slice la l.length lc, .slice (some ⟨w.heap.size, 0, none⟩) l.length l.length, .int .u32 0, .map (some w1.heap.size), .slice none 0 0]) (by kernel_rfl) ?_
  simp (disch := first | omega | exact okFill_t rfl | exact okSize_t rfl | exact fun h => h | (simp only [World.size_alloc, World.size_drew, World.size_setCell, size_fill, bytesW]; omega)) only [go_sem, ↓reduceIte, reduceCtorEq, Nat.reduceBEq, Nat.reduceEqDiff, Nat.reduceAdd, Nat.reduceMul, Int.reduceNe, Int.reduceEq, Int.reduceLT, Int.reduceLE, Int.reduceNeg, Int.reduceAdd, Int.reduceSub, Int.reduceMul, Int.reduceToNat, beq_self_eq_true, c30, c30S0, c30S1, c30S2, c30L0, c30S3, c30S4, c30S5, c30S6]
  have s2 := (s1.lay (mapO (κ := Key) (fun k => .agg (spE k).toArray) [])).box #[.slice la l.length lc, .slice (some ⟨w.heap.size, 0, none⟩) l.length l.length, .int .u32 0, .map (some w1.heap.size), .slice none 0 0] 68
  rw [World.size_alloc] at s2
  generalize (w1.alloc (mapO (κ := Key) (fun k => .agg (spE k).toArray) [])).alloc (.cells #[.slice la l.length lc, .slice (some ⟨w.heap.size, 0, none⟩) l.length l.length, .int .u32 0, .map (some w1.heap.size), .slice none 0 0] 68) = w2 at s2 ⊢
  have hz : (zerosA (Value.int IntKind.u32 0) l.length) = ((List.replicate l.length 0).map uV).toArray := by
    apply Array.ext'
    simp [zerosA, uV]
  rw [hz] at s2
  generalize w1.heap.size = m at s2 ⊢
  generalize w.heap.size = a at s2 ⊢
  have ah : (afterL l).length = l.length := by simp [afterL]
  have dh : (doneL l).length = l.length := by simp [doneL]
  refine W_loopU (fun i : Nat => [(17, .int .i64 i)]) (fun i w' => St w w' (fun _ => False) [.blk (m + 1) #[.slice la l.length lc, .slice (some ⟨a, 0, none⟩) l.length l.length, .int .u32 (maskN ((doneL l).take i)), .map (some m), .slice none 0 0] 68, .obj m (mapO (κ := Key) (fun k => .agg (spE k).toArray) []), .blk a (((afterL l).take i ++ List.replicate (l.length - i) 0).map uV).toArray 63] [] ∧ i ≤ l.length) (fun i => l.length - i) 0 rfl ⟨by simpa [maskN] using s2, Nat.zero_le _⟩ ?_
  rintro i w3 ⟨s3, hi⟩
  by_cases hlt : i < l.length
  · have hlt' : (i : Int) < l.length := by omega
    obtain ⟨p, rfl⟩ := h.ptr (by omega)
    have eo := (h.below s3.bel (by decide)).at OpT.len hlt
    have ho := l[i].at
    have r3 := s3.rules 0 rfl
    have l3 := s3.low 0 rfl
    simp (disch := first | omega | exact okFill_t rfl | exact okSize_t rfl | exact fun h => h | (simp only [World.size_alloc, World.size_drew, World.size_setCell, size_fill, bytesW]; omega)) only [go_sem, ↓reduceIte, reduceCtorEq, Nat.reduceBEq, Nat.reduceEqDiff, Nat.reduceAdd, Nat.reduceMul, Int.reduceNe, Int.reduceEq, Int.reduceLT, Int.reduceLE, Int.reduceNeg, Int.reduceAdd, Int.reduceSub, Int.reduceMul, Int.reduceToNat, beq_self_eq_true, c30, c30S0, c30S1, c30S2, c30L0, c30S4, c30S5, c30L1, c30S6, c30L1, hlt', eo, OpT.len, ho]
    refine ⟨by omega, ?_⟩
    have s4 := s3.box l[i].enc.toArray 58
    have r4 := s4.rules 1 rfl
    have l4 := s4.low 1 rfl
    have e1 := wrap_u64_nat (show i < 18446744073709551616 by omega)
    have e2 := pow_u32 (show i ≤ 16 by omega)
    have dt : (doneL l).take (i + 1) = (doneL l).take i ++ [l[i].Done] := by
      rw [List.take_succ_eq_append_getElem (by omega)]
      simp [doneL]
    have dl : ((doneL l).take i).length = i := by rw [List.length_take]; omega
    have at' : (afterL l).take (i + 1) = (afterL l).take i ++ [maskN (preL l l[i])] := by
      rw [List.take_succ_eq_append_getElem (by omega)]
      simp [afterL]
    have rep : List.replicate (l.length - i) 0 = 0 :: List.replicate (l.length - (i + 1)) 0 := by
      rw [show l.length - i = (l.length - (i + 1)) + 1 by omega, List.replicate_succ]
    have al : ((afterL l).take i).length = i := by rw [List.length_take]; omega
    rw [rep] at s4
    have nxt : ∀ {mu : Value} {w5 : World}, mu = .int .u32 (maskN ((doneL l).take (i + 1))) → St w w5 (fun _ => False) [.blk w3.heap.size l[i].enc.toArray 58, .blk (m + 1) #[.slice (some p) l.length lc, .slice (some ⟨a, 0, none⟩) l.length l.length, mu, .map (some m), .slice none 0 0] 68, .obj m (mapO (κ := Key) (fun k => .agg (spE k).toArray) []), .blk a (((afterL l).take i ++ maskN (preL l l[i]) :: List.replicate (l.length - (i + 1)) 0).map uV).toArray 63] [] →
        St w w5 (fun _ => False) [.blk (m + 1) #[.slice (some p) l.length lc, .slice (some ⟨a, 0, none⟩) l.length l.length, .int .u32 (maskN ((doneL l).take (i + 1))), .map (some m), .slice none 0 0] 68, .obj m (mapO (κ := Key) (fun k => .agg (spE k).toArray) []), .blk a (((afterL l).take (i + 1) ++ List.replicate (l.length - (i + 1)) 0).map uV).toArray 63] [] ∧ i + 1 ≤ l.length := by
      rintro mu w5 rfl s5
      refine ⟨?_, by omega⟩
      rw [at', List.append_assoc]
      exact s5.sub (List.sublist_cons_self _ _)
    cases hdn : l[i].Done with
    | true =>
      have e3 := or_u32 (mask_le (l := (doneL l).take i) (by omega)) (pow_le (show i ≤ 16 by omega))
      have e4 := maskN_or ((doneL l).take i)
      rw [dl] at e4
      rw [e4, ← hdn, ← dt] at e3
      simp (disch := first | omega | exact okFill_t rfl | exact okSize_t rfl | exact fun h => h | (simp only [World.size_alloc, World.size_drew, World.size_setCell, size_fill, bytesW]; omega)) only [go_sem, ↓reduceIte, reduceCtorEq, Nat.reduceBEq, Nat.reduceEqDiff, Nat.reduceAdd, Nat.reduceMul, Int.reduceNe, Int.reduceEq, Int.reduceLT, Int.reduceLE, Int.reduceNeg, Int.reduceAdd, Int.reduceSub, Int.reduceMul, Int.reduceToNat, beq_self_eq_true, c30, c30S0, c30S1, c30S2, c30L0, c30S4, c30S5, c30L1, c30S6, r4, r3, e1]
      refine ⟨by omega, ?_⟩
      rw [e2, e3]
      have s5 := s4.set 1 rfl 2 (.int .u32 (maskN ((doneL l).take (i + 1))))
      simp only [List.set_cons_zero, List.set_cons_succ] at s5
      rw [World.setCell_alloc_past _ _ _ _ l3.2] at s5
      refine begin_in h hn hlt _ _ al s5 ?_
      intro w6 s6
      simp (disch := first | omega | exact okFill_t rfl | exact okSize_t rfl | exact fun h => h | (simp only [World.size_alloc, World.size_drew, World.size_setCell, size_fill, bytesW]; omega)) only [go_sem, ↓reduceIte, reduceCtorEq, Nat.reduceBEq, Nat.reduceEqDiff, Nat.reduceAdd, Nat.reduceMul, Int.reduceNe, Int.reduceEq, Int.reduceLT, Int.reduceLE, Int.reduceNeg, Int.reduceAdd, Int.reduceSub, Int.reduceMul, Int.reduceToNat, beq_self_eq_true, c30, c30S0, c30S1, c30S2, c30L0, c30S3, c30S4, c30S5, c30L1, c30S6]
      exact ⟨⟨by omega, by omega⟩, i + 1, rfl, nxt rfl s6, by omega⟩
    | false =>
      simp (disch := first | omega | exact okFill_t rfl | exact okSize_t rfl | exact fun h => h | (simp only [World.size_alloc, World.size_drew, World.size_setCell, size_fill, bytesW]; omega)) only [go_sem, ↓reduceIte, reduceCtorEq, Nat.reduceBEq, Nat.reduceEqDiff, Nat.reduceAdd, Nat.reduceMul, Int.reduceNe, Int.reduceEq, Int.reduceLT, Int.reduceLE, Int.reduceNeg, Int.reduceAdd, Int.reduceSub, Int.reduceMul, Int.reduceToNat, beq_self_eq_true, c30, c30S0, c30S1, c30S2, c30L0, c30S4, c30S5, c30L1, c30S6]
      refine begin_in h hn hlt _ _ al s4 ?_
      intro w6 s6
      simp (disch := first | omega | exact okFill_t rfl | exact okSize_t rfl | exact fun h => h | (simp only [World.size_alloc, World.size_drew, World.size_setCell, size_fill, bytesW]; omega)) only [go_sem, ↓reduceIte, reduceCtorEq, Nat.reduceBEq, Nat.reduceEqDiff, Nat.reduceAdd, Nat.reduceMul, Int.reduceNe, Int.reduceEq, Int.reduceLT, Int.reduceLE, Int.reduceNeg, Int.reduceAdd, Int.reduceSub, Int.reduceMul, Int.reduceToNat, beq_self_eq_true, c30, c30S0, c30S1, c30S2, c30L0, c30S3, c30S4, c30S5, c30L1, c30S6]
      exact ⟨⟨by omega, by omega⟩, i + 1, rfl, nxt (by rw [dt, hdn, maskN_no]) s6, by omega⟩
  · have hlt' : ¬ (i : Int) < l.length := by omega
    simp (disch := first | omega | exact okFill_t rfl | exact okSize_t rfl | exact fun h => h | (simp only [World.size_alloc, World.size_drew, World.size_setCell, size_fill, bytesW]; omega)) only [go_sem, ↓reduceIte, reduceCtorEq, Nat.reduceBEq, Nat.reduceEqDiff, Nat.reduceAdd, Nat.reduceMul, Int.reduceNe, Int.reduceEq, Int.reduceLT, Int.reduceLE, Int.reduceNeg, Int.reduceAdd, Int.reduceSub, Int.reduceMul, Int.reduceToNat, beq_self_eq_true, c30, c30S0, c30S1, c30S2, c30L0, c30S3, c30S4, c30S5, c30L1, c30S6, c30L1, hlt']
    have e : l.length - i = 0 := by omega
    rw [List.take_of_length_le (by omega), List.take_of_length_le (by omega), e, List.replicate_zero, List.append_nil] at s3
    refine ⟨m + 1, m, a, rfl, s3.perm ?_⟩
    exact (List.Perm.swap _ _ _).cons _
end Go.Proofs.Ytbeoedgoikcbpaa
namespace Go.Proofs.Ytbeoedgoikcbpaa
set_option linter.unusedSimpArgs false
set_option linter.unusedVariables false
set_option maxRecDepth 100000
open Go Go.Ann Go.RowKit
/-- A spot with its state's value, as a place. -/
abbrev VSpot := Value × Spot
def ps (q : VSpot) : PS := (q.1, maskN q.2.1, q.2.2)
def addQ (Q : List VSpot) (q : VSpot) : List VSpot := if q.2 ∈ Q.map Prod.snd then Q else Q ++ [q]
theorem addQ_snd (Q : List VSpot) (q : VSpot) : (addQ Q q).map Prod.snd = addP (Q.map Prod.snd) q.2 := by
  unfold addQ addP
  split
  · rfl
  · simp
theorem addQ_mem {Q : List VSpot} {q p : VSpot} (h : p ∈ addQ Q q) : p ∈ Q ∨ p = q := by
  unfold addQ at h
  split at h
  · exact .inl h
  · rcases List.mem_append.1 h with h | h
    · exact .inl h
    · exact .inr (List.mem_singleton.1 h)
theorem addQ_len (Q : List VSpot) (q : VSpot) : (addQ Q q).length ≤ Q.length + 1 := by
  unfold addQ; split <;> simp
theorem key_iff {K : Int} {M n : Nat} {Q : List VSpot} {q : VSpot} (hM : M + n ≤ 1000000) (hQ : ∀ p ∈ Q, Good K M n p.2) (hq : Good K M n q.2) : keyOf (ps q) ∈ (Q.map ps).map keyOf ↔ q.2 ∈ Q.map Prod.snd := by
  constructor
  · intro h
    obtain ⟨p, hp, e⟩ := List.mem_map.1 h
    obtain ⟨r, hr, rfl⟩ := List.mem_map.1 hp
    have g := hQ r hr
    simp only [keyOf, ps, Prod.mk.injEq] at e
    have e1 := maskN_inj (g.len.trans hq.len.symm) e.1
    have e2 := (g.okS hM).inj (hq.okS hM) e.2
    exact List.mem_map.2 ⟨r, hr, Prod.ext e1 e2⟩
  · intro h
    obtain ⟨r, hr, e⟩ := List.mem_map.1 h
    refine List.mem_map.2 ⟨ps r, List.mem_map.2 ⟨r, hr, rfl⟩, ?_⟩
    simp only [keyOf, ps, e]
theorem add_map {K : Int} {M n : Nat} {Q : List VSpot} {q : VSpot} (hM : M + n ≤ 1000000) (hQ : ∀ p ∈ Q, Good K M n p.2) (hq : Good K M n q.2) :
    (if keyOf (q.1, maskN q.2.1, q.2.2) ∈ (Q.map ps).map keyOf then Q.map ps else Q.map ps ++ [(q.1, maskN q.2.1, q.2.2)]) = (addQ Q q).map ps := by
  have h := key_iff hM hQ hq
  unfold addQ
  by_cases hm : q.2 ∈ Q.map Prod.snd
  · rw [if_pos hm]
    exact if_pos (h.2 hm)
  · rw [if_neg hm, List.map_append]
    exact if_neg (fun h' => hm (h.1 h'))
theorem u32_map (A : List Nat) : A.flatMap u32E = A.map uV := by
  induction A with
  | nil => rfl
  | cons x A ih => rw [List.flatMap_cons, ih]; rfl
theorem rdU_of_blk {w : World} {g : Nat} {A : List Nat} {t : TypeId} (hB : Blk w g (A.map uV).toArray t) {n : Nat} (hn : n = A.length) : RdS w 1 u32E (.slice (some ⟨g, 0, none⟩) n n) A := by
  subst hn
  have e := u32_map A
  refine ⟨by rw [e]; simp, _, _, rfl, Nat.le_refl _, fun _ => ⟨_, rfl, fun j u hu => ?_⟩⟩
  rw [e] at hu
  rw [Addr.add_lit, Nat.zero_add, hB.cell, List.getElem?_toArray]
  exact hu
theorem sr_in {W0 w : World} {F : Nat → Prop} {L : List Res} {I : List Inv} {x m a y lc i M : Nat} {la : Option Addr} {tv pv v6 v9 : Value} {l : List OpT} {d : List Bool} {s : List Int} {Q : List VSpot} {D : List VS} {b K : Int} {P : Post}
    (h : St W0 w F (SL x m (.slice la l.length lc) (.slice (some ⟨a, 0, none⟩) l.length l.length) (maskN (doneL l)) tv (Q.map ps) ++ (.blk y (plE (pv, maskN d, s)).toArray 72 :: .blk a ((afterL l).map uV).toArray 63 :: L)) (Inv.vs D :: Inv.rd 11 OpT.enc (.slice la l.length lc) l :: I))
    (hn : l.length ≤ 16) (hK : ∀ o ∈ l, o.Kind = K) (hw : ∀ o ∈ l, o.wf) (hM : M ≤ 100000) (hQ : ∀ q ∈ Q, Good K M l.length q.2) (hp : Good K M l.length (d, s)) (hD : ∀ q ∈ Q, (q.1, q.2.2) ∈ D) (hpD : (pv, s) ∈ D) (hlen : Q.length ≤ 200000)
    (hP : ∀ (w' : World) (Q' : List VSpot) (D' : List VS) (tv' : Value), St W0 w' F (SL x m (.slice la l.length lc) (.slice (some ⟨a, 0, none⟩) l.length l.length) (maskN (doneL l)) tv' (Q'.map ps) ++ (.blk y (plE (pv, maskN d, s)).toArray 72 :: .blk a ((afterL l).map uV).toArray 63 :: L)) (Inv.vs D' :: Inv.rd 11 OpT.enc (.slice la l.length lc) l :: I) →
      (∀ q ∈ Q', Good K M l.length q.2) → (∀ q ∈ Q', (q.1, q.2.2) ∈ D') → Q'.map Prod.snd = roundK l (d, s) (Q.map Prod.snd) l.length → (∀ p ∈ D, p ∈ D') →
      P .normal [(2, .int .i64 b), (6, v6), (8, .pointer (some ⟨x, 0, none⟩)), (9, v9), (12, .int .i64 i)] w') :
    W Try.prog (sg c12S8) [(2, .int .i64 b), (6, v6), (8, .pointer (some ⟨x, 0, none⟩)), (9, v9), (12, .int .i64 i), (13, .pointer (some ⟨y, 0, none⟩))] w P := by
  have r0 := h.rules 0 rfl
  simp (disch := first | omega | exact okFill_t rfl | exact okSize_t rfl | exact fun h => h | (simp only [World.size_alloc, World.size_drew, World.size_setCell, size_fill, bytesW]; omega)) only [go_sem, ↓reduceIte, reduceCtorEq, Nat.reduceBEq, Nat.reduceEqDiff, Nat.reduceAdd, Nat.reduceMul, Int.reduceNe, Int.reduceEq, Int.reduceLT, Int.reduceLE, Int.reduceNeg, Int.reduceAdd, Int.reduceSub, Int.reduceMul, Int.reduceToNat, beq_self_eq_true, c12, c12S0, c12S1, c12L0, c12S2, c12S3, c12S4, c12S5, c12S6, c12S7, c12L1, c12S8, c12S9, c12S10, c12S11, c12L2, c12S12, c12S13, c12S14, c12S15, c12S16, c12S17, c12S18, c12S19, r0]
  refine W_loopU (fun x : Nat × Value × List VSpot × List VS => [(87, .int .i64 x.1)]) (fun z w' => St W0 w' F (SL x m (.slice la l.length lc) (.slice (some ⟨a, 0, none⟩) l.length l.length) (maskN (doneL l)) z.2.1 (z.2.2.1.map ps) ++ (.blk y (plE (pv, maskN d, s)).toArray 72 :: .blk a ((afterL l).map uV).toArray 63 :: L)) (Inv.vs z.2.2.2 :: Inv.rd 11 OpT.enc (.slice la l.length lc) l :: I) ∧ z.1 ≤ l.length ∧
    (∀ q ∈ z.2.2.1, Good K M l.length q.2) ∧ (∀ q ∈ z.2.2.1, (q.1, q.2.2) ∈ z.2.2.2) ∧ z.2.2.1.map Prod.snd = roundK l (d, s) (Q.map Prod.snd) z.1 ∧ ∀ p ∈ D, p ∈ z.2.2.2) (fun z => l.length - z.1) (0, tv, Q, D) rfl ⟨h, Nat.zero_le _, hQ, hD, rfl, fun p hp => hp⟩ ?_
  rintro ⟨k, tk, R, E⟩ w2 ⟨s2, hk, gR, dR, eR, sub⟩
  simp only at s2 hk gR dR eR sub
  have hRl : R.length ≤ Q.length + k := by
    have := congrArg List.length eR
    have h2 := roundK_len l (d, s) (Q.map Prod.snd) k
    simp only [List.length_map] at this h2
    omega
  by_cases hlt : k < l.length
  · have hlt' : (k : Int) < l.length := by omega
    have hrd := s2.rd 1 rfl
    obtain ⟨p, rfl⟩ := hrd.ptr (by omega)
    have eo := hrd.at OpT.len hlt
    have r2 := s2.rules 3 rfl
    have l2 := s2.low 3 rfl
    have hDr := s2.inv _ (List.mem_cons_self ..)
    have hpr : RdS w2 1 intE pv s := hDr.1 _ (sub _ hpD)
    obtain ⟨pa, pc, rfl, _⟩ := hpr.form
    have pe : (plE (.slice pa s.length pc, maskN d, s))[0]? = some (.int .u32 (maskN d)) ∧ (plE (.slice pa s.length pc, maskN d, s))[2]? = some (.slice pa s.length pc) := ⟨rfl, rfl⟩
    have s3 := s2.box l[k].enc.toArray 58
    have lx := s2.low 0 rfl
    have ah : (afterL l).length = l.length := by simp [afterL]
    have dl : d.length = l.length := hp.len
    have hmem := List.getElem_mem hlt
    simp (disch := first | omega | exact okFill_t rfl | exact okSize_t rfl | exact fun h => h | (simp only [World.size_alloc, World.size_drew, World.size_setCell, size_fill, bytesW]; omega)) only [go_sem, ↓reduceIte, reduceCtorEq, Nat.reduceBEq, Nat.reduceEqDiff, Nat.reduceAdd, Nat.reduceMul, Int.reduceNe, Int.reduceEq, Int.reduceLT, Int.reduceLE, Int.reduceNeg, Int.reduceAdd, Int.reduceSub, Int.reduceMul, Int.reduceToNat, beq_self_eq_true, c12, c12S0, c12S1, c12L0, c12S2, c12S3, c12S4, c12S5, c12S6, c12S7, c12L1, c12S8, c12S9, c12S10, c12S11, c12L2, c12S12, c12S13, c12S14, c12S15, c12S16, c12S17, c12S18, c12S19, c12L1, hlt', eo, OpT.len, r2, pe]
    refine ⟨by omega, ?_⟩
    refine Ret.mono (may_ok (a := preL l l[k]) (d := d) (s3.blk 1 rfl) (rdU_of_blk (s3.blk 5 rfl) ah.symm) (by omega) (by simp [afterL]) (by simp [preL, dl]) (by omega) (by omega)) ?_
    rintro _ _ ⟨rfl, rfl⟩
    have hmay : (!(d.getD k false) && ((preL l l[k]).zip d).all (fun p => p.2 || !p.1)) = mayP l d k l[k] := rfl
    rw [hmay]
    have go1 : roundK l (d, s) (Q.map Prod.snd) (k + 1) = goP l (d, s) (R.map Prod.snd) k := by rw [roundK, ← eR]
    have lk : l[k]? = some l[k] := List.getElem?_eq_getElem hlt
    cases hmy : mayP l d k l[k] with
    | false =>
      simp (disch := first | omega | exact okFill_t rfl | exact okSize_t rfl | exact fun h => h | (simp only [World.size_alloc, World.size_drew, World.size_setCell, size_fill, bytesW]; omega)) only [go_sem, ↓reduceIte, reduceCtorEq, Nat.reduceBEq, Nat.reduceEqDiff, Nat.reduceAdd, Nat.reduceMul, Int.reduceNe, Int.reduceEq, Int.reduceLT, Int.reduceLE, Int.reduceNeg, Int.reduceAdd, Int.reduceSub, Int.reduceMul, Int.reduceToNat, beq_self_eq_true, c12, c12S0, c12S1, c12L0, c12S2, c12S3, c12S4, c12S5, c12S6, c12S7, c12L1, c12S8, c12S9, c12S10, c12S11, c12L2, c12S12, c12S13, c12S14, c12S15, c12S16, c12S17, c12S18, c12S19]
      refine ⟨⟨by omega, by omega⟩, (k + 1, tk, R, E), rfl, ⟨s3.sub (List.sublist_cons_self _ _), by simp only; omega, gR, dR, ?_, sub⟩, by simp only; omega⟩
      simp only
      rw [go1]; unfold goP; rw [lk]; simp [hmy]
    | true =>
      have r3 := s3.rules 4 rfl
      have q3 := s3.rules 0 rfl
      simp (disch := first | omega | exact okFill_t rfl | exact okSize_t rfl | exact fun h => h | (simp only [World.size_alloc, World.size_drew, World.size_setCell, size_fill, bytesW]; omega)) only [go_sem, ↓reduceIte, reduceCtorEq, Nat.reduceBEq, Nat.reduceEqDiff, Nat.reduceAdd, Nat.reduceMul, Int.reduceNe, Int.reduceEq, Int.reduceLT, Int.reduceLE, Int.reduceNeg, Int.reduceAdd, Int.reduceSub, Int.reduceMul, Int.reduceToNat, beq_self_eq_true, c12, c12S0, c12S1, c12L0, c12S2, c12S3, c12S4, c12S5, c12S6, c12S7, c12L1, c12S8, c12S9, c12S10, c12S11, c12L2, c12S12, c12S13, c12S14, c12S15, c12S16, c12S17, c12S18, c12S19, r2, r3, q3, pe]
      have hp3 : RdS (w2.alloc (.cells l[k].enc.toArray 58)) 1 intE (.slice pa s.length pc) s := hpr.below ((Below.refl _ w2).alloc (Nat.le_refl _) _) (by decide)
      have hsl : s.length ≤ 1000000 := (hp.okS (by omega)).2
      refine Ret.mono (step_ok _ s l[k] _ hp3 hsl (fun e => hp.ris ((hK _ hmem).symm.trans e))) ?_
      rintro _ w4 ⟨⟨t, ok, rfl, hm⟩, b4⟩
      cases hst : stepP s l[k] with
      | none =>
        rw [hst] at hm
        have hm : ok = false := hm
        subst hm
        have s4 := s3.call b4
        simp (disch := first | omega | exact okFill_t rfl | exact okSize_t rfl | exact fun h => h | (simp only [World.size_alloc, World.size_drew, World.size_setCell, size_fill, bytesW]; omega)) only [go_sem, ↓reduceIte, reduceCtorEq, Nat.reduceBEq, Nat.reduceEqDiff, Nat.reduceAdd, Nat.reduceMul, Int.reduceNe, Int.reduceEq, Int.reduceLT, Int.reduceLE, Int.reduceNeg, Int.reduceAdd, Int.reduceSub, Int.reduceMul, Int.reduceToNat, beq_self_eq_true, c12, c12S0, c12S1, c12L0, c12S2, c12S3, c12S4, c12S5, c12S6, c12S7, c12L1, c12S8, c12S9, c12S10, c12S11, c12L2, c12S12, c12S13, c12S14, c12S15, c12S16, c12S17, c12S18, c12S19]
        refine ⟨⟨by omega, by omega⟩, (k + 1, tk, R, E), rfl, ⟨s4.sub (List.sublist_cons_self _ _), by simp only; omega, gR, dR, ?_, sub⟩, by simp only; omega⟩
        simp only
        rw [go1]; unfold goP; rw [lk]; simp [hmy, hst]
      | some s' =>
        rw [hst] at hm
        obtain ⟨rfl, h4, f4⟩ := hm
        have s4 := (vs_add s3 b4 h4 f4).sub (List.sublist_cons_self _ _)
        have gN : Good K M l.length (d.set k true, s') := hp.go hlt hK hw hmy hst
        have r4 := s4.rules 3 rfl
        have e1 := wrap_u64_nat (show k < 18446744073709551616 by omega)
        have e2 := pow_u32 (show k ≤ 16 by omega)
        have e3 := or_u32 (mask_le (l := d) (by omega)) (pow_le (show k ≤ 16 by omega))
        rw [maskN_set (by omega)] at e3
        simp (disch := first | omega | exact okFill_t rfl | exact okSize_t rfl | exact fun h => h | (simp only [World.size_alloc, World.size_drew, World.size_setCell, size_fill, bytesW]; omega)) only [go_sem, ↓reduceIte, reduceCtorEq, Nat.reduceBEq, Nat.reduceEqDiff, Nat.reduceAdd, Nat.reduceMul, Int.reduceNe, Int.reduceEq, Int.reduceLT, Int.reduceLE, Int.reduceNeg, Int.reduceAdd, Int.reduceSub, Int.reduceMul, Int.reduceToNat, beq_self_eq_true, c12, c12S0, c12S1, c12L0, c12S2, c12S3, c12S4, c12S5, c12S6, c12S7, c12L1, c12S8, c12S9, c12S10, c12S11, c12L2, c12S12, c12S13, c12S14, c12S15, c12S16, c12S17, c12S18, c12S19, r4, e1, pe]
        refine ⟨by omega, ?_⟩
        rw [e2, e3]
        refine Ret.mono (add_ok (d := maskN (d.set k true)) (s := s') s4 h4 (gN.okS (by omega)) (by simp; omega)) ?_
        rintro _ w5 ⟨tv5, s5⟩
        rw [add_map (q := (t, (d.set k true, s'))) (by omega) gR gN] at s5
        simp (disch := first | omega | exact okFill_t rfl | exact okSize_t rfl | exact fun h => h | (simp only [World.size_alloc, World.size_drew, World.size_setCell, size_fill, bytesW]; omega)) only [go_sem, ↓reduceIte, reduceCtorEq, Nat.reduceBEq, Nat.reduceEqDiff, Nat.reduceAdd, Nat.reduceMul, Int.reduceNe, Int.reduceEq, Int.reduceLT, Int.reduceLE, Int.reduceNeg, Int.reduceAdd, Int.reduceSub, Int.reduceMul, Int.reduceToNat, beq_self_eq_true, c12, c12S0, c12S1, c12L0, c12S2, c12S3, c12S4, c12S5, c12S6, c12S7, c12L1, c12S8, c12S9, c12S10, c12S11, c12L2, c12S12, c12S13, c12S14, c12S15, c12S16, c12S17, c12S18, c12S19]
        refine ⟨⟨by omega, by omega⟩, (k + 1, tv5, addQ R (t, (d.set k true, s')), (t, s') :: E), rfl, ⟨s5, by simp only; omega, fun q hq => ?_, fun q hq => ?_, ?_, fun p hp => List.mem_cons_of_mem _ (sub p hp)⟩, by simp only; omega⟩
        · rcases addQ_mem hq with hq | rfl
          · exact gR q hq
          · exact gN
        · rcases addQ_mem hq with hq | rfl
          · exact List.mem_cons_of_mem _ (dR q hq)
          · exact List.mem_cons_self ..
        · simp only
          rw [go1, addQ_snd]; unfold goP; rw [lk]; simp [hmy, hst]
  · have hlt' : ¬ (k : Int) < l.length := by omega
    simp (disch := first | omega | exact okFill_t rfl | exact okSize_t rfl | exact fun h => h | (simp only [World.size_alloc, World.size_drew, World.size_setCell, size_fill, bytesW]; omega)) only [go_sem, ↓reduceIte, reduceCtorEq, Nat.reduceBEq, Nat.reduceEqDiff, Nat.reduceAdd, Nat.reduceMul, Int.reduceNe, Int.reduceEq, Int.reduceLT, Int.reduceLE, Int.reduceNeg, Int.reduceAdd, Int.reduceSub, Int.reduceMul, Int.reduceToNat, beq_self_eq_true, c12, c12S0, c12S1, c12L0, c12S2, c12S3, c12S4, c12S5, c12S6, c12S7, c12L1, c12S8, c12S9, c12S10, c12S11, c12L2, c12S12, c12S13, c12S14, c12S15, c12S16, c12S17, c12S18, c12S19, c12L1, hlt']
    have e : k = l.length := by omega
    subst e
    exact hP _ _ _ _ s2 gR dR eR sub
end Go.Proofs.Ytbeoedgoikcbpaa
namespace Go.Proofs.Ytbeoedgoikcbpaa
set_option linter.unusedSimpArgs false
set_option linter.unusedVariables false
set_option maxRecDepth 100000
open Go Go.Ann Go.RowKit
/-- The spots that a search begins at. -/
def startQ (n : Nat) (U : List VS) : List VSpot := U.map fun p => (p.1, (List.replicate n false, p.2))
def startP (n : Nat) (U : List (List Int)) : List Spot := U.map fun s => (List.replicate n false, s)
theorem startQ_snd (n : Nat) (U : List VS) : (startQ n U).map Prod.snd = startP n (U.map Prod.snd) := by
  unfold startQ startP
  rw [List.map_map, List.map_map]; rfl
theorem own_ptr {w : World} {B e sz n m c : Nat} {a : Option Addr} {xs : List Value} (h : w.ownsRow B e sz (.slice a n c) m xs) (h0 : 0 < m) : ∃ g, a = some ⟨g, 0, none⟩ := by
  rcases h.2 with ⟨_, h1⟩ | ⟨g, cap, cur, e, _⟩
  · omega
  · simp only [Value.slice.injEq] at e
    exact ⟨g, e.1⟩
theorem St.keepSub {W0 w : World} {F : Nat → Prop} {L : List Res} {I : List Inv} (h : St W0 w F L I) {b : Inv} (hb : b ∈ I) (a : Inv) (ha : a.holds w) (hf : ∀ k, a.foot k → b.foot k) : St W0 w F L (a :: I) :=
  h.keep a ha fun k hk => (h.inv b hb).2 k (hf k hk)
/-- What a search hands back. -/
def SearchV (w' : World) (l : List OpT) (E : List (List Int)) (U0 : List (List Int)) (r : Option (List Spot)) (u : Value) : Prop :=
  match r with
  | none => u = .tuple #[.agg #[.slice none 0 0, .slice none 0 0, .int .i64 0], .int .i64 35]
  | some T => ∃ uv xv U X, u = .tuple #[.agg #[uv, xv, .int .i64 T.length], .int .i64 0] ∧ RowS w' uv U ∧ U.map Prod.snd = U0 ∧ RowS w' xv X ∧ Uniq ((T.filter fun p => fullP l p.1).map Prod.snd) (X.map Prod.snd)
theorem sr_loop {W0 w : World} {F : Nat → Prop} {Ls : List Res} {Is : List Inv} {x m a z rr lc M : Nat} {la : Option Addr} {tv uv : Value} {l : List OpT} {Q : List VSpot} {D : List VS} {b K : Int} {P : Value → World → Prop}
    (h : St W0 w F (SL x m (.slice la l.length lc) (.slice (some ⟨a, 0, none⟩) l.length l.length) (maskN (doneL l)) tv (Q.map ps) ++ (.blk a ((afterL l).map uV).toArray 63 :: .blk z #[uv, .slice none 0 0, .int .i64 0] 27 :: .row (.slice none 0 0) 36 1 0 [] :: .blk rr #[.slice none 0 0, .slice none 0 0, .int .i64 0] 27 :: Ls)) (Inv.vs D :: Inv.rd 11 OpT.enc (.slice la l.length lc) l :: Is))
    (hn : l.length ≤ 16) (hK : ∀ o ∈ l, o.Kind = K) (hw : ∀ o ∈ l, o.wf) (hM : M ≤ 100000) (hQ : ∀ q ∈ Q, Good K M l.length q.2) (hD : ∀ q ∈ Q, (q.1, q.2.2) ∈ D) (hlen : Q.length ≤ 60000) (hb : b ≤ 32768)
    (hOver : ∀ w' : World, Below W0.heap.size W0 w' → (∃ N, b < ((bfsN l (Q.map Prod.snd) N).length : Int)) → P (.tuple #[.agg #[.slice none 0 0, .slice none 0 0, .int .i64 0], .int .i64 35]) w')
    (hDone : ∀ (w' : World) (Q' : List VSpot) (D' : List VS) (tv' xv' : Value) (X' : List VS), St W0 w' F (SL x m (.slice la l.length lc) (.slice (some ⟨a, 0, none⟩) l.length l.length) (maskN (doneL l)) tv' (Q'.map ps) ++ (.blk a ((afterL l).map uV).toArray 63 :: .blk z #[uv, xv', .int .i64 0] 27 :: .row xv' 36 1 X'.length (X'.map Prod.fst) :: .blk rr #[.slice none 0 0, .slice none 0 0, .int .i64 0] 27 :: Ls)) (Inv.vs D' :: Inv.rd 11 OpT.enc (.slice la l.length lc) l :: Is) →
      (∀ p ∈ X', p ∈ D') → (∀ q ∈ Q', Good K M l.length q.2) → (∃ N, bfsN l (Q.map Prod.snd) N = Q'.map Prod.snd ∧ Q'.length ≤ N) → (Q'.length : Int) ≤ b → X'.map Prod.snd = ((Q'.map Prod.snd).filter fun p => fullP l p.1).map Prod.snd → (∀ p ∈ D, p ∈ D') →
      W Try.prog (sg c12S13) [(6, .pointer (some ⟨rr, 0, none⟩)), (8, .pointer (some ⟨x, 0, none⟩)), (9, .pointer (some ⟨z, 0, none⟩))] w' (finQ Try.prog [.cell 6 27, .tmp 7] P)) :
    W Try.prog (sg c12S15) [(2, .int .i64 b), (6, .pointer (some ⟨rr, 0, none⟩)), (8, .pointer (some ⟨x, 0, none⟩)), (9, .pointer (some ⟨z, 0, none⟩))] w (finQ Try.prog [.cell 6 27, .tmp 7] P) := by
  simp (disch := first | omega | exact okFill_t rfl | exact okSize_t rfl | exact fun h => h | (simp only [World.size_alloc, World.size_drew, World.size_setCell, size_fill, bytesW]; omega)) only [go_sem, ↓reduceIte, reduceCtorEq, Nat.reduceBEq, Nat.reduceEqDiff, Nat.reduceAdd, Nat.reduceMul, Int.reduceNe, Int.reduceEq, Int.reduceLT, Int.reduceLE, Int.reduceNeg, Int.reduceAdd, Int.reduceSub, Int.reduceMul, Int.reduceToNat, beq_self_eq_true, c12, c12S0, c12S1, c12L0, c12S2, c12S3, c12S4, c12S5, c12S6, c12S7, c12L1, c12S8, c12S9, c12S10, c12S11, c12L2, c12S12, c12S13, c12S14, c12S15, c12S16, c12S17, c12S18, c12S19]
  refine W_loopU (fun q : Nat × Value × List VSpot × List VS × Value × List VS => [(12, .int .i64 q.1)]) (fun q w' => St W0 w' F (SL x m (.slice la l.length lc) (.slice (some ⟨a, 0, none⟩) l.length l.length) (maskN (doneL l)) q.2.1 (q.2.2.1.map ps) ++ (.blk a ((afterL l).map uV).toArray 63 :: .blk z #[uv, q.2.2.2.2.1, .int .i64 0] 27 :: .row q.2.2.2.2.1 36 1 q.2.2.2.2.2.length (q.2.2.2.2.2.map Prod.fst) :: .blk rr #[.slice none 0 0, .slice none 0 0, .int .i64 0] 27 :: Ls)) (Inv.vs q.2.2.2.1 :: Inv.rd 11 OpT.enc (.slice la l.length lc) l :: Is) ∧
      q.1 ≤ 32768 ∧ q.1 ≤ q.2.2.1.length ∧ q.2.2.1.length ≤ 60100 ∧ (∀ p ∈ q.2.2.2.2.2, p ∈ q.2.2.2.1) ∧ (∀ p ∈ q.2.2.1, Good K M l.length p.2) ∧ (∀ p ∈ q.2.2.1, (p.1, p.2.2) ∈ q.2.2.2.1) ∧ q.2.2.1.map Prod.snd = bfsN l (Q.map Prod.snd) q.1 ∧ q.2.2.2.2.2.map Prod.snd = (((q.2.2.1.map Prod.snd).take q.1).filter fun p => fullP l p.1).map Prod.snd ∧ ∀ p ∈ D, p ∈ q.2.2.2.1) (fun q => 32769 - q.1) (0, tv, Q, D, .slice none 0 0, []) rfl ⟨h, by omega, Nat.zero_le _, by simp only; omega, (fun p hp => by cases hp), hQ, hD, rfl, by simp, fun p hp => hp⟩ ?_
  rintro ⟨i, tk, R, E, xk, X⟩ w2 ⟨s2, h32, hi, hRl, hX, gR, dR, eR, eX, sub⟩
  simp only at s2 h32 hi hRl hX gR dR eR eX sub
  obtain ⟨ta, tc, rfl, _⟩ := own_slice (s2.row 1 rfl)
  obtain ⟨xa, xc, rfl, _⟩ := own_slice (s2.row 5 rfl)
  have r2 := s2.rules 0 rfl
  have l2 := s2.low 0 rfl
  have hXl : X.length ≤ i := by
    have e1 := congrArg List.length eX
    have e2 := List.length_filter_le (fun p : Spot => fullP l p.1) ((R.map Prod.snd).take i)
    simp only [List.length_map, List.length_take] at e1 e2
    omega
  rw [List.length_map] at *
  by_cases hlt : i < R.length
  · have hlt' : (i : Int) < R.length := by omega
    by_cases hov : b < (R.length : Int)
    · simp (disch := first | omega | exact okFill_t rfl | exact okSize_t rfl | exact fun h => h | (simp only [World.size_alloc, World.size_drew, World.size_setCell, size_fill, bytesW]; omega)) only [go_sem, ↓reduceIte, reduceCtorEq, Nat.reduceBEq, Nat.reduceEqDiff, Nat.reduceAdd, Nat.reduceMul, Int.reduceNe, Int.reduceEq, Int.reduceLT, Int.reduceLE, Int.reduceNeg, Int.reduceAdd, Int.reduceSub, Int.reduceMul, Int.reduceToNat, beq_self_eq_true, c12, c12S0, c12S1, c12L0, c12S2, c12S3, c12S4, c12S5, c12S6, c12S7, c12L1, c12S8, c12S9, c12S10, c12S11, c12L2, c12S12, c12S13, c12S14, c12S15, c12S16, c12S17, c12S18, c12S19, c12L2, r2, hlt', hov]
      refine bdW_built (cells := #[.slice none 0 0, .slice none 0 0, .int .i64 0]) (by kernel_rfl) ?_
      have q2 := s2.rules 6 rfl
      simp (disch := first | omega | exact okFill_t rfl | exact okSize_t rfl | exact fun h => h | (simp only [World.size_alloc, World.size_drew, World.size_setCell, size_fill, bytesW]; omega)) only [go_sem, ↓reduceIte, reduceCtorEq, Nat.reduceBEq, Nat.reduceEqDiff, Nat.reduceAdd, Nat.reduceMul, Int.reduceNe, Int.reduceEq, Int.reduceLT, Int.reduceLE, Int.reduceNeg, Int.reduceAdd, Int.reduceSub, Int.reduceMul, Int.reduceToNat, beq_self_eq_true, c12, c12S0, c12S1, c12L0, c12S2, c12S3, c12S4, c12S5, c12S6, c12S7, c12L1, c12S8, c12S9, c12S10, c12S11, c12L2, c12S12, c12S13, c12S14, c12S15, c12S16, c12S17, c12S18, c12S19, q2]
      refine hOver _ (s2.fill 6 rfl (cs := #[.slice none 0 0, .slice none 0 0, .int .i64 0]) rfl).bel ⟨i, ?_⟩
      rw [← eR, List.length_map]; exact hov
    · have hov' : (R.length : Int) ≤ b := by omega
      obtain ⟨g, rfl⟩ := own_ptr (s2.row 1 rfl) (by rw [List.length_map]; omega)
      have et := (RdS.of_own' (enc := plE) (s2.row 1 rfl) (R.map ps) rfl rfl).at (fun _ => rfl) (k := i) (by simpa using hlt)
      rw [Addr.add_lit, Nat.zero_add, List.getElem_map] at et
      have gi := gR _ (List.getElem_mem hlt)
      have di := dR _ (List.getElem_mem hlt)
      obtain ⟨⟨pv, d, s⟩, hri⟩ : ∃ q, R[i] = q := ⟨_, rfl⟩
      rw [hri] at et gi di
      have hpr : RdS w2 1 intE pv s := (s2.inv _ (List.mem_cons_self ..)).1 _ di
      obtain ⟨pa, pc, rfl, _⟩ := hpr.form
      have et : cellsO w2 ⟨g, i * 3, none⟩ 0 3 = some [.int .u32 (maskN d), .string (ofL (txt s)), .slice pa s.length pc] := et
      simp (disch := first | omega | exact okFill_t rfl | exact okSize_t rfl | exact fun h => h | (simp only [World.size_alloc, World.size_drew, World.size_setCell, size_fill, bytesW]; omega)) only [go_sem, ↓reduceIte, reduceCtorEq, Nat.reduceBEq, Nat.reduceEqDiff, Nat.reduceAdd, Nat.reduceMul, Int.reduceNe, Int.reduceEq, Int.reduceLT, Int.reduceLE, Int.reduceNeg, Int.reduceAdd, Int.reduceSub, Int.reduceMul, Int.reduceToNat, beq_self_eq_true, c12, c12S0, c12S1, c12L0, c12S2, c12S3, c12S4, c12S5, c12S6, c12S7, c12L1, c12S8, c12S9, c12S10, c12S11, c12L2, c12S12, c12S13, c12S14, c12S15, c12S16, c12S17, c12S18, c12S19, c12L2, r2, hlt', hov, et]
      refine ⟨by omega, ?_⟩
      have s3 := s2.box (plE (.slice pa s.length pc, maskN d, s)).toArray 72
      have e3 : w2.alloc (.cells #[.int .u32 (maskN d), .string (ofL (txt s)), .slice pa s.length pc] 72) = w2.alloc (.cells (plE (.slice pa s.length pc, maskN d, s)).toArray 72) := rfl
      rw [e3]
      have pe : (plE (.slice pa s.length pc, maskN d, s))[0]? = some (.int .u32 (maskN d)) ∧ (plE (.slice pa s.length pc, maskN d, s))[2]? = some (.slice pa s.length pc) := ⟨rfl, rfl⟩
      have s4 := s3.drew
      have r3 := s3.rules 1 rfl
      have q3 := s3.rules 0 rfl
      generalize w2.alloc (.cells (plE (.slice pa s.length pc, maskN d, s)).toArray 72) = w3 at s3 s4 r3 q3 ⊢
      generalize w2.heap.size = y at s3 s4 q3 ⊢
      have z3 := s3.rules 5 rfl
      have hin := mask_in (a := doneL l) (d := d) (by simp [doneL]; exact gi.len.symm) (by simp [doneL]; omega)
      have lz := s3.low 5 rfl
      refine c12draw0 ?_
      simp (disch := first | omega | exact okFill_t rfl | exact okSize_t rfl | exact fun h => h | (simp only [World.size_alloc, World.size_drew, World.size_setCell, size_fill, bytesW]; omega)) only [go_sem, ↓reduceIte, reduceCtorEq, Nat.reduceBEq, Nat.reduceEqDiff, Nat.reduceAdd, Nat.reduceMul, Int.reduceNe, Int.reduceEq, Int.reduceLT, Int.reduceLE, Int.reduceNeg, Int.reduceAdd, Int.reduceSub, Int.reduceMul, Int.reduceToNat, beq_self_eq_true, c12, c12S0, c12S1, c12L0, c12S2, c12S3, c12S4, c12S5, c12S6, c12S7, c12L1, c12S9, c12S10, c12S11, c12L2, c12S12, c12S13, c12S14, c12S15, c12S16, c12S17, c12S18, c12S19, c12D0, r3, q3, pe, z3]
      refine ⟨fun hf => ?_, fun hf => ?_⟩
      · have hfull : fullP l d = true := hin.1 hf
        refine bsW_ones ty25mkI rfl rfl (by decide) (by decide) (by intro v hv; rw [List.mem_singleton] at hv; subst hv; rfl) ?_
        simp (disch := first | omega | exact okFill_t rfl | exact okSize_t rfl | exact fun h => h | (simp only [World.size_alloc, World.size_drew, World.size_setCell, size_fill, bytesW]; omega)) only [go_sem, ↓reduceIte, reduceCtorEq, Nat.reduceBEq, Nat.reduceEqDiff, Nat.reduceAdd, Nat.reduceMul, Int.reduceNe, Int.reduceEq, Int.reduceLT, Int.reduceLE, Int.reduceNeg, Int.reduceAdd, Int.reduceSub, Int.reduceMul, Int.reduceToNat, beq_self_eq_true, c12, c12S0, c12S1, c12L0, c12S2, c12S3, c12S4, c12S5, c12S6, c12S7, c12L1, c12S8, c12S9, c12S10, c12S11, c12L2, c12S12, c12S13, c12S14, c12S15, c12S16, c12S17, c12S18, c12S19]
        have hx : Rd (w3.drew.alloc (.cells #[.slice pa s.length pc] 36)) 1 (.slice (some ⟨w3.drew.heap.size, 0, none⟩) 1 1) 1 [.slice pa s.length pc] := rd_new (n := 1) (cs := #[.slice pa s.length pc]) rfl
        refine (s4.alloc' (.cells #[.slice pa s.length pc] 36)).append 6 rfl ty25mkI rfl (by decide) hx (by intro v hv; rw [List.mem_singleton] at hv; subst hv; rfl) (by omega) (by omega) ?_
        intro v5 w5 s5 c5
        simp only [List.set_cons_zero, List.set_cons_succ, SL, List.cons_append, List.nil_append] at s5
        obtain ⟨a5, d5, rfl, _⟩ := own_slice (s5.row 6 rfl)
        have z5 := s5.rules 5 rfl
        simp (disch := first | omega | exact okFill_t rfl | exact okSize_t rfl | exact fun h => h | (simp only [World.size_alloc, World.size_drew, World.size_setCell, size_fill, bytesW]; omega)) only [go_sem, ↓reduceIte, reduceCtorEq, Nat.reduceBEq, Nat.reduceEqDiff, Nat.reduceAdd, Nat.reduceMul, Int.reduceNe, Int.reduceEq, Int.reduceLT, Int.reduceLE, Int.reduceNeg, Int.reduceAdd, Int.reduceSub, Int.reduceMul, Int.reduceToNat, beq_self_eq_true, c12, c12S0, c12S1, c12L0, c12S2, c12S3, c12S4, c12S5, c12S6, c12S7, c12L1, c12S9, c12S10, c12S11, c12L2, c12S12, c12S13, c12S14, c12S15, c12S16, c12S17, c12S18, c12S19, z5]
        have s6 := s5.set 5 rfl 1 (.slice a5 (X.length + 1) d5)
        simp only [List.set_cons_zero, List.set_cons_succ] at s6
        have ex : X.length + 1 = (X ++ [((Value.slice pa s.length pc : Value), s)]).length := by simp
        have ey : X.map Prod.fst ++ [Value.slice pa s.length pc] = (X ++ [((Value.slice pa s.length pc : Value), s)]).map Prod.fst := by simp
        rw [ex, ey] at s6
        rw [ex]
        refine sr_in (K := K) (M := M) (D := E) (Q := R) (s6.perm List.perm_middle) hn hK hw hM gR gi dR di (by omega) ?_
        intro w7 R7 E7 tv7 s7 g7 d7 e7 sub7
        simp (disch := first | omega | exact okFill_t rfl | exact okSize_t rfl | exact fun h => h | (simp only [World.size_alloc, World.size_drew, World.size_setCell, size_fill, bytesW]; omega)) only [go_sem, ↓reduceIte, reduceCtorEq, Nat.reduceBEq, Nat.reduceEqDiff, Nat.reduceAdd, Nat.reduceMul, Int.reduceNe, Int.reduceEq, Int.reduceLT, Int.reduceLE, Int.reduceNeg, Int.reduceAdd, Int.reduceSub, Int.reduceMul, Int.reduceToNat, beq_self_eq_true, c12, c12S0, c12S1, c12L0, c12S2, c12S3, c12S4, c12S5, c12S6, c12S7, c12L1, c12S8, c12S9, c12S10, c12S11, c12L2, c12S12, c12S13, c12S14, c12S15, c12S16, c12S17, c12S18, c12S19]
        have b7 : (i : Int) < R.length := hlt'
        have len7 : R7.length ≤ R.length + l.length := by
          have := congrArg List.length e7
          have h2 := roundK_len l (d, s) (R.map Prod.snd) l.length
          simp only [List.length_map] at this h2
          omega
        have bf : bfsN l (Q.map Prod.snd) (i + 1) = R7.map Prod.snd := by
          rw [bfsN, ← eR, List.getElem?_map, List.getElem?_eq_getElem hlt, hri]
          exact e7.symm
        have pre7 : R.map Prod.snd <+: R7.map Prod.snd := by rw [e7]; exact roundK_pre _ _ _ _
        have tk7 : (R7.map Prod.snd).take (i + 1) = (R.map Prod.snd).take i ++ [(d, s)] := by
          have e1 : (R7.map Prod.snd).take (i + 1) = (R.map Prod.snd).take (i + 1) := by
            obtain ⟨t, ht⟩ := pre7
            rw [← ht, List.take_append_of_le_length (by rw [List.length_map]; omega)]
          rw [e1, List.take_succ_eq_append_getElem (by rw [List.length_map]; exact hlt), List.getElem_map, hri]
        have le7 : R.length ≤ R7.length := by have := pre7.length_le; simpa using this
        refine ⟨⟨by omega, by omega⟩, (i + 1, tv7, R7, E7, .slice a5 (X ++ [((Value.slice pa s.length pc : Value), s)]).length d5, X ++ [((Value.slice pa s.length pc : Value), s)]), rfl, ⟨s7.sub ((List.Sublist.refl _).append (List.sublist_cons_self _ _)), by simp only; omega, by simp only; omega, by simp only; omega, fun p hp => ?_, g7, d7, bf.symm, ?_, fun p hp => sub7 _ (sub p hp)⟩, by simp only; omega⟩
        · rcases List.mem_append.1 hp with hp | hp
          · exact sub7 _ (hX p hp)
          · rw [List.mem_singleton] at hp; subst hp; exact sub7 _ di
        · simp only
          rw [tk7, List.filter_append, List.map_append, List.map_append, eX]
          simp [hfull]
      · have hfull : fullP l d = false := by
          cases hc : fullP l d with
          | false => rfl
          | true => exact absurd (hin.2 hc) hf
        have s6 := s4
        refine sr_in (K := K) (M := M) (D := E) (Q := R) (s6.perm List.perm_middle) hn hK hw hM gR gi dR di (by omega) ?_
        intro w7 R7 E7 tv7 s7 g7 d7 e7 sub7
        simp (disch := first | omega | exact okFill_t rfl | exact okSize_t rfl | exact fun h => h | (simp only [World.size_alloc, World.size_drew, World.size_setCell, size_fill, bytesW]; omega)) only [go_sem, ↓reduceIte, reduceCtorEq, Nat.reduceBEq, Nat.reduceEqDiff, Nat.reduceAdd, Nat.reduceMul, Int.reduceNe, Int.reduceEq, Int.reduceLT, Int.reduceLE, Int.reduceNeg, Int.reduceAdd, Int.reduceSub, Int.reduceMul, Int.reduceToNat, beq_self_eq_true, c12, c12S0, c12S1, c12L0, c12S2, c12S3, c12S4, c12S5, c12S6, c12S7, c12L1, c12S8, c12S9, c12S10, c12S11, c12L2, c12S12, c12S13, c12S14, c12S15, c12S16, c12S17, c12S18, c12S19]
        have b7 : (i : Int) < R.length := hlt'
        have len7 : R7.length ≤ R.length + l.length := by
          have := congrArg List.length e7
          have h2 := roundK_len l (d, s) (R.map Prod.snd) l.length
          simp only [List.length_map] at this h2
          omega
        have bf : bfsN l (Q.map Prod.snd) (i + 1) = R7.map Prod.snd := by
          rw [bfsN, ← eR, List.getElem?_map, List.getElem?_eq_getElem hlt, hri]
          exact e7.symm
        have pre7 : R.map Prod.snd <+: R7.map Prod.snd := by rw [e7]; exact roundK_pre _ _ _ _
        have tk7 : (R7.map Prod.snd).take (i + 1) = (R.map Prod.snd).take i ++ [(d, s)] := by
          have e1 : (R7.map Prod.snd).take (i + 1) = (R.map Prod.snd).take (i + 1) := by
            obtain ⟨t, ht⟩ := pre7
            rw [← ht, List.take_append_of_le_length (by rw [List.length_map]; omega)]
          rw [e1, List.take_succ_eq_append_getElem (by rw [List.length_map]; exact hlt), List.getElem_map, hri]
        have le7 : R.length ≤ R7.length := by have := pre7.length_le; simpa using this
        refine ⟨⟨by omega, by omega⟩, (i + 1, tv7, R7, E7, .slice xa X.length xc, X), rfl, ⟨s7.sub ((List.Sublist.refl _).append (List.sublist_cons_self _ _)), by simp only; omega, by simp only; omega, by simp only; omega, fun p hp => ?_, g7, d7, bf.symm, ?_, fun p hp => sub7 _ (sub p hp)⟩, by simp only; omega⟩
        · exact sub7 _ (hX p hp)
        · simp only
          rw [tk7, List.filter_append, List.map_append, eX]
          simp [hfull]
  · have hlt' : ¬ (i : Int) < R.length := by omega
    simp (disch := first | omega | exact okFill_t rfl | exact okSize_t rfl | exact fun h => h | (simp only [World.size_alloc, World.size_drew, World.size_setCell, size_fill, bytesW]; omega)) only [go_sem, ↓reduceIte, reduceCtorEq, Nat.reduceBEq, Nat.reduceEqDiff, Nat.reduceAdd, Nat.reduceMul, Int.reduceNe, Int.reduceEq, Int.reduceLT, Int.reduceLE, Int.reduceNeg, Int.reduceAdd, Int.reduceSub, Int.reduceMul, Int.reduceToNat, beq_self_eq_true, c12, c12S0, c12S1, c12L0, c12S2, c12S3, c12S4, c12S5, c12S6, c12S7, c12L1, c12S8, c12S9, c12S10, c12S11, c12L2, c12S12, c12S14, c12S15, c12S16, c12S17, c12S18, c12S19, c12L2, r2, hlt']
    refine ⟨fun hov => ?_, fun hov => ?_⟩
    · refine bdW_built (cells := #[.slice none 0 0, .slice none 0 0, .int .i64 0]) (by kernel_rfl) ?_
      have q2 := s2.rules 6 rfl
      simp (disch := first | omega | exact okFill_t rfl | exact okSize_t rfl | exact fun h => h | (simp only [World.size_alloc, World.size_drew, World.size_setCell, size_fill, bytesW]; omega)) only [go_sem, ↓reduceIte, reduceCtorEq, Nat.reduceBEq, Nat.reduceEqDiff, Nat.reduceAdd, Nat.reduceMul, Int.reduceNe, Int.reduceEq, Int.reduceLT, Int.reduceLE, Int.reduceNeg, Int.reduceAdd, Int.reduceSub, Int.reduceMul, Int.reduceToNat, beq_self_eq_true, c12, c12S0, c12S1, c12L0, c12S2, c12S3, c12S4, c12S5, c12S6, c12S7, c12L1, c12S8, c12S9, c12S10, c12S11, c12L2, c12S12, c12S13, c12S14, c12S15, c12S16, c12S17, c12S18, c12S19, q2]
      refine hOver _ (s2.fill 6 rfl (cs := #[.slice none 0 0, .slice none 0 0, .int .i64 0]) rfl).bel ⟨i, ?_⟩
      rw [← eR, List.length_map]; exact hov
    · refine hDone _ R E _ _ X s2 hX gR ⟨i, eR.symm, by omega⟩ hov ?_ sub
      rw [eX, List.take_of_length_le (by rw [List.length_map]; omega)]
theorem perm_of8 {α : Type} (t0 x1 z2 x3 a4 m5 r6 g7 : α) : List.Perm [x3, t0, m5, a4, z2, x1, r6, g7] [t0, x1, z2, x3, a4, m5, r6, g7] := by
  have h := (show List.Perm [3, 0, 5, 4, 2, 1, 6, 7] [0, 1, 2, 3, 4, 5, 6, 7] by decide).map fun i : Nat => if i = 0 then t0 else if i = 1 then x1 else if i = 2 then z2 else if i = 3 then x3 else if i = 4 then a4 else if i = 5 then m5 else if i = 6 then r6 else g7
  simpa using h
theorem nodup_le {α : Type} [DecidableEq α] : ∀ {u l : List α}, u.Nodup → (∀ x ∈ u, x ∈ l) → u.length ≤ l.length
  | [], l, _, _ => by simp
  | x :: u, l, hn, h => by
    obtain ⟨h1, h2⟩ := List.nodup_cons.1 hn
    have hx := h x (List.mem_cons_self ..)
    have := nodup_le (l := l.erase x) h2 fun y hy => (List.mem_erase_of_ne (fun e => h1 (by rw [← e]; exact hy))).2 (h y (List.mem_cons_of_mem _ hy))
    rw [List.length_erase_of_mem hx] at this
    have hp : 0 < l.length := List.length_pos_of_mem hx
    rw [List.length_cons]; omega
theorem uniq_nodup {l u : List (List Int)} (h : Uniq l u) : u.Nodup := h.1.imp fun {a b} hab e => by subst e; rw [ltS_irr] at hab; cases hab
theorem uniq_le {l u : List (List Int)} (h : Uniq l u) : u.length ≤ l.length := nodup_le (uniq_nodup h) fun x hx => (h.2 x).1 hx
/-- What a search gives, and that its lists are new. -/
def SearchF (b : Nat) (w' : World) (l : List OpT) (E : List (List Int)) (U0 : List (List Int)) (r : Option (List Spot)) (u : Value) : Prop :=
  match r with
  | none => u = .tuple #[.agg #[.slice none 0 0, .slice none 0 0, .int .i64 0], .int .i64 35]
  | some T => ∃ uv xv U X, u = .tuple #[.agg #[uv, xv, .int .i64 T.length], .int .i64 0] ∧ RowS w' uv U ∧ U.map Prod.snd = U0 ∧ RowS w' xv X ∧ Uniq ((T.filter fun p => fullP l p.1).map Prod.snd) (X.map Prod.snd) ∧ (∀ k, RowS.foot uv U k → b ≤ k) ∧ ∀ k, RowS.foot xv X k → b ≤ k
theorem SearchF.v {b : Nat} {w' : World} {l : List OpT} {E U0 : List (List Int)} {r : Option (List Spot)} {u : Value} (h : SearchF b w' l E U0 r u) : SearchV w' l E U0 r u := by
  cases r with
  | none => exact h
  | some T =>
    obtain ⟨uv, xv, U, X, h1, h2, h3, h4, h5, _, _⟩ := h
    exact ⟨uv, xv, U, X, h1, h2, h3, h4, h5⟩
theorem search_okF {w : World} {l : List OpT} {lv ev : Value} {ob kd budget K : Int} {E : List VS} {M : Nat} (h : RdS w 11 OpT.enc lv l) (hn : l.length ≤ 16) (hK : ∀ o ∈ l, o.Kind = K) (hw : ∀ o ∈ l, o.wf) (hE : RowS w ev E) (hEl : E.length ≤ 60000) (hM : M ≤ 100000)
    (hEo : ∀ p ∈ E, Ok64 p.2 ∧ p.2.length ≤ M ∧ (K = 5 → p.2.Pairwise (· < ·))) (hb : I64 budget) :
    Ret Try.prog 12 [.agg #[.int .i64 ob, .int .i64 kd, lv], ev, .int .i64 budget] w fun u w' => (∃ U0 r, Uniq (E.map Prod.snd) U0 ∧ SearchR l (startP l.length U0) (min budget 32768) r ∧ SearchF w.heap.size w' l (E.map Prod.snd) U0 r u) ∧ Below w.heap.size w w' := by
  obtain ⟨la, lc, rfl, _⟩ := h.form
  refine ent12 _ _ _ _ _ ?_
  have s2 := ((St.start (W0 := w)).box #[.int .i64 ob, .int .i64 kd, .slice la l.length lc] 24).box #[.slice none 0 0, .slice none 0 0, .int .i64 0] 27
  rw [World.size_alloc] at s2
  have hn' : ¬ (16 : Int) < l.length := by omega
  simp (disch := first | omega | exact okFill_t rfl | exact okSize_t rfl | exact fun h => h | (simp only [World.size_alloc, World.size_drew, World.size_setCell, size_fill, bytesW]; omega)) only [go_sem, ↓reduceIte, reduceCtorEq, Nat.reduceBEq, Nat.reduceEqDiff, Nat.reduceAdd, Nat.reduceMul, Int.reduceNe, Int.reduceEq, Int.reduceLT, Int.reduceLE, Int.reduceNeg, Int.reduceAdd, Int.reduceSub, Int.reduceMul, Int.reduceToNat, beq_self_eq_true, c12, c12S0, c12S1, c12L0, c12S2, c12S3, c12S4, c12S5, c12S6, c12S7, c12L1, c12S8, c12S9, c12S10, c12S11, c12L2, c12S12, c12S13, c12S14, c12S15, c12S16, c12S17, c12S19, hn']
  generalize (w.alloc (.cells #[.int .i64 ob, .int .i64 kd, .slice la l.length lc] 24)).alloc (.cells #[.slice none 0 0, .slice none 0 0, .int .i64 0] 27) = w2 at s2 ⊢
  generalize hrr : w.heap.size + 1 = rr at s2 ⊢
  have r2 := s2.rules 1 rfl
  simp (disch := first | omega | exact okFill_t rfl | exact okSize_t rfl | exact fun h => h | (simp only [World.size_alloc, World.size_drew, World.size_setCell, size_fill, bytesW]; omega)) only [go_sem, ↓reduceIte, reduceCtorEq, Nat.reduceBEq, Nat.reduceEqDiff, Nat.reduceAdd, Nat.reduceMul, Int.reduceNe, Int.reduceEq, Int.reduceLT, Int.reduceLE, Int.reduceNeg, Int.reduceAdd, Int.reduceSub, Int.reduceMul, Int.reduceToNat, beq_self_eq_true, c12, c12S0, c12S1, c12L0, c12S2, c12S3, c12S4, c12S5, c12S6, c12S7, c12L1, c12S8, c12S9, c12S10, c12S11, c12L2, c12S12, c12S13, c12S14, c12S15, c12S16, c12S18, c12S19, r2]
  refine Ret.mono (begin_ok _ l w2 (h.below s2.bel (by decide)) hn) ?_
  rintro _ w3 ⟨x, m, a, rfl, t3⟩
  have s3 := St.join s2 t3
  simp (disch := first | omega | exact okFill_t rfl | exact okSize_t rfl | exact fun h => h | (simp only [World.size_alloc, World.size_drew, World.size_setCell, size_fill, bytesW]; omega)) only [go_sem, ↓reduceIte, reduceCtorEq, Nat.reduceBEq, Nat.reduceEqDiff, Nat.reduceAdd, Nat.reduceMul, Int.reduceNe, Int.reduceEq, Int.reduceLT, Int.reduceLE, Int.reduceNeg, Int.reduceAdd, Int.reduceSub, Int.reduceMul, Int.reduceToNat, beq_self_eq_true, c12, c12S0, c12S1, c12L0, c12S2, c12S3, c12S4, c12S5, c12S6, c12S7, c12L1, c12S8, c12S9, c12S10, c12S11, c12L2, c12S12, c12S13, c12S14, c12S15, c12S16, c12S17, c12S18, c12S19]
  refine Ret.mono (unique_ok _ E w3 (hE.below s3.bel) (fun p hp => ⟨(hEo p hp).1, by have := (hEo p hp).2.1; omega⟩) (by omega)) ?_
  rintro uv w4 ⟨⟨U, hU, hR, hf⟩, b4⟩
  have s4 := St.keepSub ((s3.made b4 (Inv.rows uv U) hR hf).old h (by decide)) (b := Inv.rows uv U) (by simp) (Inv.vs U) hR.rd (fun k hk => .inr hk)
  obtain ⟨ua, uc, rfl, _⟩ := hR.form
  simp (disch := first | omega | exact okFill_t rfl | exact okSize_t rfl | exact fun h => h | (simp only [World.size_alloc, World.size_drew, World.size_setCell, size_fill, bytesW]; omega)) only [go_sem, ↓reduceIte, reduceCtorEq, Nat.reduceBEq, Nat.reduceEqDiff, Nat.reduceAdd, Nat.reduceMul, Int.reduceNe, Int.reduceEq, Int.reduceLT, Int.reduceLE, Int.reduceNeg, Int.reduceAdd, Int.reduceSub, Int.reduceMul, Int.reduceToNat, beq_self_eq_true, c12, c12S0, c12S1, c12L0, c12S2, c12S3, c12S4, c12S5, c12S6, c12S7, c12L1, c12S8, c12S9, c12S10, c12S11, c12L2, c12S12, c12S13, c12S14, c12S15, c12S16, c12S17, c12S18, c12S19]
  refine bdW_built (cells := #[.slice ua U.length uc, .slice none 0 0, .int .i64 0]) (by kernel_rfl) ?_
  simp (disch := first | omega | exact okFill_t rfl | exact okSize_t rfl | exact fun h => h | (simp only [World.size_alloc, World.size_drew, World.size_setCell, size_fill, bytesW]; omega)) only [go_sem, ↓reduceIte, reduceCtorEq, Nat.reduceBEq, Nat.reduceEqDiff, Nat.reduceAdd, Nat.reduceMul, Int.reduceNe, Int.reduceEq, Int.reduceLT, Int.reduceLE, Int.reduceNeg, Int.reduceAdd, Int.reduceSub, Int.reduceMul, Int.reduceToNat, beq_self_eq_true, c12, c12S0, c12S1, c12S2, c12S3, c12S4, c12S5, c12S6, c12S7, c12L1, c12S8, c12S9, c12S10, c12S11, c12L2, c12S12, c12S13, c12S14, c12S16, c12S17, c12S18, c12S19]
  have s5 := ((s4.box #[.slice ua U.length uc, .slice none 0 0, .int .i64 0] 27).nilRow 36 1).nilRow 72 3
  generalize w4.alloc (.cells #[.slice ua U.length uc, .slice none 0 0, .int .i64 0] 27) = w5 at s5 ⊢
  generalize w4.heap.size = z at s5 ⊢
  have s6 := s5.perm (L' := SL x m (.slice la l.length lc) (.slice (some ⟨a, 0, none⟩) l.length l.length) (maskN (doneL l)) (.slice none 0 0) ((startQ l.length (U.take 0)).map ps) ++ (.blk a ((afterL l).map uV).toArray 63 :: .blk z #[.slice ua U.length uc, .slice none 0 0, .int .i64 0] 27 :: .row (.slice none 0 0) 36 1 0 [] :: .blk rr #[.slice none 0 0, .slice none 0 0, .int .i64 0] 27 :: [.blk w.heap.size #[.int .i64 ob, .int .i64 kd, .slice la l.length lc] 24])) (perm_of8 _ _ _ _ _ _ _ _)
  have gU : ∀ p ∈ U, Good K M l.length (List.replicate l.length false, p.2) := fun p hp => by
    obtain ⟨e, he, e2⟩ := List.mem_map.1 ((hU.2 p.2).1 (List.mem_map.2 ⟨p, hp, rfl⟩))
    obtain ⟨h1, h2, h3⟩ := hEo e he
    rw [e2] at h1 h2 h3
    exact ⟨by simp, h1, by simp only; omega, h3⟩
  have gS : ∀ k, ∀ q ∈ startQ l.length (U.take k), Good K M l.length q.2 := fun k q hq => by
    obtain ⟨p, hp, rfl⟩ := List.mem_map.1 hq
    exact gU p (List.mem_of_mem_take hp)
  have hUl : U.length ≤ 60000 := by
    have := uniq_le hU
    simp only [List.length_map] at this
    omega
  refine W_loopU (fun q : Nat × Value => [(34, .int .i64 q.1)]) (fun q w' => St w w' (fun _ => False) (SL x m (.slice la l.length lc) (.slice (some ⟨a, 0, none⟩) l.length l.length) (maskN (doneL l)) q.2 ((startQ l.length (U.take q.1)).map ps) ++ (.blk a ((afterL l).map uV).toArray 63 :: .blk z #[.slice ua U.length uc, .slice none 0 0, .int .i64 0] 27 :: .row (.slice none 0 0) 36 1 0 [] :: .blk rr #[.slice none 0 0, .slice none 0 0, .int .i64 0] 27 :: [.blk w.heap.size #[.int .i64 ob, .int .i64 kd, .slice la l.length lc] 24])) [Inv.vs U, Inv.rd 11 OpT.enc (.slice la l.length lc) l, Inv.rows (.slice ua U.length uc) U] ∧ q.1 ≤ U.length) (fun q => U.length - q.1) (0, .slice none 0 0) rfl ⟨s6, Nat.zero_le _⟩ ?_
  rintro ⟨k, tk⟩ w7 ⟨s7, hk⟩
  simp only at s7 hk
  by_cases hlt : k < U.length
  · have hlt' : (k : Int) < U.length := by omega
    have hr7 : RowS w7 (.slice ua U.length uc) U := s7.get 2 rfl
    obtain ⟨p, rfl⟩ := hr7.ptr (by omega)
    have ek := hr7.at hlt
    have rk := hr7.rd _ (List.getElem_mem hlt)
    obtain ⟨va, vc, hva, _⟩ := rk.form
    simp (disch := first | omega | exact okFill_t rfl | exact okSize_t rfl | exact fun h => h | (simp only [World.size_alloc, World.size_drew, World.size_setCell, size_fill, bytesW]; omega)) only [go_sem, ↓reduceIte, reduceCtorEq, Nat.reduceBEq, Nat.reduceEqDiff, Nat.reduceAdd, Nat.reduceMul, Int.reduceNe, Int.reduceEq, Int.reduceLT, Int.reduceLE, Int.reduceNeg, Int.reduceAdd, Int.reduceSub, Int.reduceMul, Int.reduceToNat, beq_self_eq_true, c12, c12S0, c12S1, c12L0, c12S2, c12S3, c12S4, c12S5, c12S6, c12S7, c12L1, c12S8, c12S9, c12S10, c12S11, c12L2, c12S12, c12S13, c12S14, c12S15, c12S16, c12S17, c12S18, c12S19, c12L0, hlt', ek, hva]
    rw [hva] at rk
    refine ⟨by omega, ?_⟩
    have gk := gU _ (List.getElem_mem hlt)
    have m0 : maskN (List.replicate l.length false) = 0 := maskN_none _
    have hA := add_ok (d := 0) (s := U[k].2) s7 rk (gk.okS (by omega)) (by simp [startQ]; omega)
    refine Ret.mono hA ?_
    rintro _ w8 ⟨tv8, s8⟩
    have eA := add_map (q := ((Value.slice va U[k].2.length vc : Value), (List.replicate l.length false, U[k].2))) (by omega) (gS k) gk
    simp only [m0] at eA
    rw [eA] at s8
    have eQ : addQ (startQ l.length (U.take k)) ((Value.slice va U[k].2.length vc : Value), (List.replicate l.length false, U[k].2)) = startQ l.length (U.take (k + 1)) := by
      unfold addQ
      rw [if_neg]
      · rw [List.take_succ_eq_append_getElem hlt]
        unfold startQ
        rw [List.map_append]
        simp [hva]
      · intro hm
        rw [startQ_snd] at hm
        obtain ⟨t, ht, e⟩ := List.mem_map.1 hm
        simp only [Prod.mk.injEq, true_and] at e
        subst e
        have hnd := uniq_nodup hU
        rw [← List.take_append_drop k U, List.map_append, List.nodup_append] at hnd
        refine hnd.2.2 _ ht _ (List.mem_map.2 ⟨U[k], ?_, rfl⟩) rfl
        rw [List.drop_eq_getElem_cons hlt]; exact List.mem_cons_self ..
    rw [eQ] at s8
    simp (disch := first | omega | exact okFill_t rfl | exact okSize_t rfl | exact fun h => h | (simp only [World.size_alloc, World.size_drew, World.size_setCell, size_fill, bytesW]; omega)) only [go_sem, ↓reduceIte, reduceCtorEq, Nat.reduceBEq, Nat.reduceEqDiff, Nat.reduceAdd, Nat.reduceMul, Int.reduceNe, Int.reduceEq, Int.reduceLT, Int.reduceLE, Int.reduceNeg, Int.reduceAdd, Int.reduceSub, Int.reduceMul, Int.reduceToNat, beq_self_eq_true, c12, c12S0, c12S1, c12L0, c12S2, c12S3, c12S4, c12S5, c12S6, c12S7, c12L1, c12S8, c12S9, c12S10, c12S11, c12L2, c12S12, c12S13, c12S14, c12S15, c12S16, c12S17, c12S18, c12S19]
    exact ⟨⟨by omega, by omega⟩, (k + 1, tv8), rfl, ⟨s8, by simp only; omega⟩, by simp only; omega⟩
  · have hlt' : ¬ (k : Int) < U.length := by omega
    simp (disch := first | omega | exact okFill_t rfl | exact okSize_t rfl | exact fun h => h | (simp only [World.size_alloc, World.size_drew, World.size_setCell, size_fill, bytesW]; omega)) only [go_sem, ↓reduceIte, reduceCtorEq, Nat.reduceBEq, Nat.reduceEqDiff, Nat.reduceAdd, Nat.reduceMul, Int.reduceNe, Int.reduceEq, Int.reduceLT, Int.reduceLE, Int.reduceNeg, Int.reduceAdd, Int.reduceSub, Int.reduceMul, Int.reduceToNat, beq_self_eq_true, c12, c12S0, c12S1, c12L0, c12S2, c12S3, c12S4, c12S5, c12S6, c12S7, c12L1, c12S8, c12S9, c12S10, c12S11, c12L2, c12S12, c12S13, c12S14, c12S16, c12S17, c12S18, c12S19, c12L0, hlt']
    have e : U.take k = U := List.take_of_length_le (by omega)
    rw [e] at s7
    have q0 : (startQ l.length U).map Prod.snd = startP l.length (U.map Prod.snd) := startQ_snd _ _
    refine sr_loop (K := K) (M := M) s7 hn hK hw hM (fun q hq => gS U.length q (by rw [List.take_length]; exact hq)) (fun q hq => ?_) (by simp [startQ]; exact hUl) (by omega) ?_ ?_
    · obtain ⟨p, hp, rfl⟩ := List.mem_map.1 hq
      exact hp
    · intro w8 b8 ho
      rw [q0] at ho
      exact ⟨⟨_, none, hU, ho, rfl⟩, b8⟩
    · intro w8 Q8 D8 tv8 xv8 X8 s8 hX8 g8 n8 c8 e8 sub8
      rw [q0] at n8
      obtain ⟨ta, tc, rfl, _⟩ := own_slice (s8.row 1 rfl)
      obtain ⟨xa, xc, rfl, _⟩ := own_slice (s8.row 5 rfl)
      have hxr : RowS w8 (.slice xa X8.length xc) X8 := ⟨Rd.of_own (s8.row 5 rfl), fun p hp => (s8.inv _ (List.mem_cons_self ..)).1 p (hX8 p hp)⟩
      have hXl : X8.length ≤ Q8.length := by
        have := congrArg List.length e8
        have h2 := List.length_filter_le (fun p : Spot => fullP l p.1) (Q8.map Prod.snd)
        simp only [List.length_map] at this h2
        omega
      have r8 := s8.rules 4 rfl
      have hXo : ∀ p ∈ X8, OkS p.2 := fun p hp => by
        have : p.2 ∈ X8.map Prod.snd := List.mem_map.2 ⟨p, hp, rfl⟩
        rw [e8] at this
        obtain ⟨q, hq, e⟩ := List.mem_map.1 this
        obtain ⟨t, ht, rfl⟩ := List.mem_map.1 (List.mem_filter.1 hq).1
        rw [← e]
        exact (g8 t ht).okS (by omega)
      simp (disch := first | omega | exact okFill_t rfl | exact okSize_t rfl | exact fun h => h | (simp only [World.size_alloc, World.size_drew, World.size_setCell, size_fill, bytesW]; omega)) only [go_sem, ↓reduceIte, reduceCtorEq, Nat.reduceBEq, Nat.reduceEqDiff, Nat.reduceAdd, Nat.reduceMul, Int.reduceNe, Int.reduceEq, Int.reduceLT, Int.reduceLE, Int.reduceNeg, Int.reduceAdd, Int.reduceSub, Int.reduceMul, Int.reduceToNat, beq_self_eq_true, c12, c12S0, c12S1, c12L0, c12S2, c12S3, c12S4, c12S5, c12S6, c12S7, c12L1, c12S8, c12S9, c12S10, c12S11, c12L2, c12S12, c12S13, c12S14, c12S15, c12S16, c12S17, c12S18, c12S19, r8]
      refine Ret.mono (unique_ok _ X8 w8 hxr hXo (by omega)) ?_
      rintro xv w9 ⟨⟨V, hV, hVR, hVf⟩, b9⟩
      have s9 := s8.call b9
      obtain ⟨va, vc, rfl, _⟩ := hVR.form
      have r9 := s9.rules 0 rfl
      have z9 := s9.rules 4 rfl
      have q9 := s9.rules 6 rfl
      have lz := s9.low 4 rfl
      have lx := s9.low 0 rfl
      simp (disch := first | omega | exact okFill_t rfl | exact okSize_t rfl | exact fun h => h | (simp only [World.size_alloc, World.size_drew, World.size_setCell, size_fill, bytesW]; omega)) only [go_sem, ↓reduceIte, reduceCtorEq, Nat.reduceBEq, Nat.reduceEqDiff, Nat.reduceAdd, Nat.reduceMul, Int.reduceNe, Int.reduceEq, Int.reduceLT, Int.reduceLE, Int.reduceNeg, Int.reduceAdd, Int.reduceSub, Int.reduceMul, Int.reduceToNat, beq_self_eq_true, c12, c12S0, c12S1, c12L0, c12S2, c12S3, c12S4, c12S5, c12S6, c12S7, c12L1, c12S8, c12S9, c12S10, c12S11, c12L2, c12S13, c12S14, c12S15, c12S16, c12S17, c12S18, c12S19, r9, z9, q9]
      have s10 := s9.set 4 rfl 1 (.slice va V.length vc)
      simp only [List.set_cons_zero, List.set_cons_succ, SL, List.cons_append, List.nil_append] at s10
      have lz' := s9.low 4 rfl
      have hVl : ∀ k, RowS.foot (.slice va V.length vc) V k → k < (w9.setCell ⟨z, 1, none⟩ (.slice va V.length vc)).heap.size := fun k hk => by rw [World.size_setCell]; exact (hVf k hk).2
      have hV10 : RowS (w9.setCell ⟨z, 1, none⟩ (.slice va V.length vc)) (.slice va V.length vc) V := hVR.loc fun k hk => by
        have h1 := (hVf k hk).1
        exact ((Chg.refl (fun k => k = z) w9).setCell ⟨z, 1, none⟩ (.slice va V.length vc) fun _ => rfl).block k (hVf k hk).2 (fun e => by have := (s8.low 4 rfl).2; omega)
      have hU10 : RowS (w9.setCell ⟨z, 1, none⟩ (.slice va V.length vc)) (.slice ua U.length uc) U := s10.get 2 rfl
      have hzz : ∀ k, RowS.foot (.slice va V.length vc) V k → w8.heap.size ≤ k := fun k hk => (hVf k hk).1
      have z8 := (s8.low 4 rfl).2
      have r8' := (s8.low 6 rfl).2
      generalize w9.setCell ⟨z, 1, none⟩ (.slice va V.length vc) = w10 at s10 hV10 hU10 hVl ⊢
      have x10 := s10.rules 0 rfl
      have z10 := s10.rules 4 rfl
      have q10 := s10.rules 6 rfl
      have lx := s10.low 0 rfl
      have lzr : z ≠ rr := fun e => by
        have := s10.ne 4 6 rfl rfl (by decide) (k := z) rfl
        exact this (by rw [e]; rfl)
      simp (disch := first | omega | exact okFill_t rfl | exact okSize_t rfl | exact fun h => h | (simp only [World.size_alloc, World.size_drew, World.size_setCell, size_fill, bytesW]; omega)) only [go_sem, ↓reduceIte, reduceCtorEq, Nat.reduceBEq, Nat.reduceEqDiff, Nat.reduceAdd, Nat.reduceMul, Int.reduceNe, Int.reduceEq, Int.reduceLT, Int.reduceLE, Int.reduceNeg, Int.reduceAdd, Int.reduceSub, Int.reduceMul, Int.reduceToNat, beq_self_eq_true, c12, c12S0, c12S1, c12L0, c12S2, c12S3, c12S4, c12S5, c12S6, c12S7, c12L1, c12S8, c12S9, c12S10, c12S11, c12L2, c12S12, c12S13, c12S14, c12S15, c12S16, c12S17, c12S18, c12S19, x10, z10, q10]
      have eQ : (Q8.map ps).length = (Q8.map Prod.snd).length := by simp
      have s11 := (s10.set 4 rfl 2 (.int .i64 (Q8.map ps).length)).fill 6 rfl (cs := #[.slice ua U.length uc, .slice va V.length vc, .int .i64 (Q8.map ps).length]) rfl
      have hV11 := hV10.loc (w' := (w10.setCell ⟨z, 2, none⟩ (.int .i64 (Q8.map ps).length)).fill rr #[.slice ua U.length uc, .slice va V.length vc, .int .i64 (Q8.map ps).length]) fun k hk => by
        have h1 := hzz k hk
        exact (((Chg.refl (fun k => k = z ∨ k = rr) w10).setCell ⟨z, 2, none⟩ (.int .i64 (Q8.map ps).length) fun _ => .inl rfl).fill (b := rr) (cs := #[.slice ua U.length uc, .slice va V.length vc, .int .i64 (Q8.map ps).length]) fun _ => .inr rfl).block k (hVl k hk) (fun e => by rcases e with e | e <;> omega)
      refine ⟨⟨U.map Prod.snd, some (Q8.map Prod.snd), hU, ⟨?_, by rw [List.length_map]; exact c8⟩, .slice ua U.length uc, .slice va V.length vc, U, V, by rw [eQ], s11.get 2 rfl, rfl, hV11, ?_, (fun k hk => by have h1 := (hf k hk).1; have h2 := s3.bel.size; omega), fun k hk => by have h1 := hzz k hk; have h2 := s8.bel.size; omega⟩, s11.bel⟩
      · obtain ⟨N, h1, h2⟩ := n8
        exact ⟨N, h1, by rw [List.length_map]; exact h2⟩
      · rw [← e8]; exact hV
theorem search_ok {w : World} {l : List OpT} {lv ev : Value} {ob kd budget K : Int} {E : List VS} {M : Nat} (h : RdS w 11 OpT.enc lv l) (hn : l.length ≤ 16) (hK : ∀ o ∈ l, o.Kind = K) (hw : ∀ o ∈ l, o.wf) (hE : RowS w ev E) (hEl : E.length ≤ 60000) (hM : M ≤ 100000)
    (hEo : ∀ p ∈ E, Ok64 p.2 ∧ p.2.length ≤ M ∧ (K = 5 → p.2.Pairwise (· < ·))) (hb : I64 budget) :
    Ret Try.prog 12 [.agg #[.int .i64 ob, .int .i64 kd, lv], ev, .int .i64 budget] w fun u w' => (∃ U0 r, Uniq (E.map Prod.snd) U0 ∧ SearchR l (startP l.length U0) (min budget 32768) r ∧ SearchV w' l (E.map Prod.snd) U0 r u) ∧ Below w.heap.size w w' := by
  refine Ret.mono (search_okF (ob := ob) (kd := kd) h hn hK hw hE hEl hM hEo hb) ?_
  rintro u w' ⟨⟨U0, r, h1, h2, h3⟩, hb'⟩
  exact ⟨⟨U0, r, h1, h2, h3.v⟩, hb'⟩
end Go.Proofs.Ytbeoedgoikcbpaa
