/- Texts put together by program. -/
import Derived.Test.YtmdhcpghofadcaaQB3
namespace Go.Proofs.Ytmdhcpghofadcaa
set_option linter.unusedSimpArgs false
set_option linter.unusedVariables false
set_option maxRecDepth 100000
open Go Go.Ann Go.RowKit
theorem beside_ok (va : Value) (l : List OpT) (o : OpT) (w : World) (ha : RdS w 11 OpT.enc va l) (hl : (l.length : Int) ≤ 9223372036854775806) :
    Ret Try.prog 35 [va, .agg o.enc.toArray] w fun v w' => (∃ e, v = .int .i64 e ∧ (e = 0 → ∀ x ∈ l, x.ID ≠ o.ID → x.Object = o.Object → x.Kind = o.Kind)) ∧ Below w.heap.size w w' := by
  obtain ⟨pa, ca, rfl, _⟩ := ha.form
  refine ent35 _ _ _ _ ?_
  simp (disch := first | omega | exact okFill_t rfl | exact okSize_t rfl | exact fun h => h | (simp only [World.size_alloc, World.size_drew, World.size_setCell, size_fill, bytesW]; omega)) only [go_sem, c35, c35S0, c35S1, c35S2, c35L0, c35S3, c35S4, c35S5, c35L1, c35S6, c35S7]
  have s1 := (St.start (W0 := w)).box o.enc.toArray 23
  have h1 := ha.below s1.bel (by decide)
  generalize w.alloc (.cells o.enc.toArray 23) = w1 at s1 h1 ⊢
  obtain ⟨b0, hb0⟩ : ∃ b, b = w.heap.size := ⟨_, rfl⟩
  have hbb : ∀ w', Below w.heap.size w w' → Below b0 w w' := fun _ h => by rw [hb0]; exact h
  rw [← hb0] at s1 ⊢
  have ao := o.at
  refine W_loopU (fun k : Nat => [(5, .int .i64 k)]) (fun k w' => Below w1.heap.size w1 w' ∧ k ≤ l.length ∧ ∀ j, (h : j < l.length) → j < k → l[j].ID ≠ o.ID → l[j].Object = o.Object → l[j].Kind = o.Kind) (fun k => l.length - k) 0 rfl ⟨Below.refl _ _, Nat.zero_le _, fun j _ h => by omega⟩ ?_
  rintro k w2 ⟨b2, hk, he⟩
  have s2 := s1.call b2
  have r2 := s2.rules 0 rfl
  have h2 := h1.below b2 (by decide)
  by_cases hlt : k < l.length
  · have hlt' : (k : Int) < l.length := by omega
    obtain ⟨p, rfl⟩ := ha.ptr (by omega)
    have ek := h2.eltB (Below.refl _ _) OpT.len (by decide) hlt
    have ak := l[k].at
    simp (disch := first | omega | exact okFill_t rfl | exact okSize_t rfl | exact fun h => h | (simp only [World.size_alloc, World.size_drew, World.size_setCell, size_fill, bytesW]; omega)) only [go_sem, c35, c35S0, c35S1, c35S2, c35L0, c35S3, c35S4, c35S5, c35L1, c35S6, c35S7, hlt']
    refine c35draw0 ?_
    simp (disch := first | omega | exact okFill_t rfl | exact okSize_t rfl | exact fun h => h | (simp only [World.size_alloc, World.size_drew, World.size_setCell, size_fill, bytesW]; omega)) only [go_sem, c35, c35S0, c35S1, c35S2, c35L0, c35S3, c35S4, c35S5, c35L1, c35S6, c35S7, c35D0, r2, ek, ak, ao]
    have b02 : Below w.heap.size w w2.drew := (s1.bel.trans (b2.mono s1.size)).drew
    have go : (l[k].ID ≠ o.ID → l[k].Object = o.Object → l[k].Kind = o.Kind) → ∀ j, (h : j < l.length) → j < k + 1 → l[j].ID ≠ o.ID → l[j].Object = o.Object → l[j].Kind = o.Kind := fun hx j h1 h3 => by
      rcases Nat.lt_or_ge j k with h' | h'
      · exact he j h1 h'
      · obtain rfl : j = k := by omega
        exact hx
    refine ⟨⟨by omega, by omega⟩, fun e1 => ⟨⟨by omega, by omega⟩, fun e2 => ⟨⟨by omega, by omega⟩, fun e3 => hbb _ (b02), fun e3 => ⟨⟨by omega, by omega⟩, k + 1, rfl, ⟨b2.drew, by omega, go fun _ _ => e3⟩, by omega⟩⟩, fun e2 => ⟨⟨by omega, by omega⟩, k + 1, rfl, ⟨b2.drew, by omega, go fun _ h => absurd h e2⟩, by omega⟩⟩, fun e1 => ⟨⟨by omega, by omega⟩, k + 1, rfl, ⟨b2.drew, by omega, go fun h => absurd e1 h⟩, by omega⟩⟩
  · have hlt' : ¬ (k : Int) < l.length := by omega
    simp (disch := first | omega | exact okFill_t rfl | exact okSize_t rfl | exact fun h => h | (simp only [World.size_alloc, World.size_drew, World.size_setCell, size_fill, bytesW]; omega)) only [go_sem, c35, c35S0, c35S1, c35S2, c35L0, c35S3, c35S4, c35S5, c35L1, c35S6, c35S7, hlt']
    have hall : ∀ x ∈ l, x.ID ≠ o.ID → x.Object = o.Object → x.Kind = o.Kind := fun x hx => by
      obtain ⟨j, hj, rfl⟩ := List.mem_iff_getElem.1 hx
      exact he j hj (by omega)
    clear he
    refine W_loopU (fun k : Nat => [(6, .int .i64 k)]) (fun k w' => Below w1.heap.size w1 w' ∧ k ≤ l.length) (fun k => l.length - k) 0 rfl ⟨b2, Nat.zero_le _⟩ ?_
    clear r2 h2 s2 b2
    rintro k w3 ⟨b3, hk⟩
    have s3 := s1.call b3
    have r3 := s3.rules 0 rfl
    have h3 := h1.below b3 (by decide)
    by_cases hlt : k < l.length
    · have hlt' : (k : Int) < l.length := by omega
      obtain ⟨p, rfl⟩ := ha.ptr (by omega)
      have ek := h3.eltB (Below.refl _ _) OpT.len (by decide) hlt
      have ck := h3.at OpT.len hlt
      have ak := l[k].at
      simp (disch := first | omega | exact okFill_t rfl | exact okSize_t rfl | exact fun h => h | (simp only [World.size_alloc, World.size_drew, World.size_setCell, size_fill, bytesW]; omega)) only [go_sem, c35, c35S0, c35S1, c35S2, c35L0, c35S3, c35S4, c35S5, c35L1, c35S6, c35S7, hlt']
      have hp3 := h3.blt OpT.len (by decide) (by omega)
      have hb3 := s3.low 0 rfl
      have hd3 : w3.drew.heap.size = w3.heap.size := rfl
      refine c35draw1 (Chg (fun _ => False) _) (Chg.refl _ _) ?_
      simp (disch := first | omega | exact okFill_t rfl | exact okSize_t rfl | exact fun h => h | (simp only [World.size_alloc, World.size_drew, World.size_setCell, size_fill, bytesW]; omega)) only [go_sem, c35, c35S0, c35S1, c35S2, c35L0, c35S3, c35S4, c35S5, c35L1, c35S6, c35S7, c35D1, r3, ek, ak, ao, ck]
      have b03 : Below w1.heap.size w1 w3.drew := b3.drew
      refine ⟨⟨by omega, by omega⟩, fun e1 => ⟨⟨by omega, by omega⟩, fun e2 => ⟨⟨by omega, by omega⟩, Ret.mono (rbefore_ok _ _ _) ?_⟩, fun e2 => ⟨⟨by omega, by omega⟩, k + 1, rfl, ⟨b03, by omega⟩, by omega⟩⟩, fun e1 => ⟨⟨by omega, by omega⟩, k + 1, rfl, ⟨b03, by omega⟩, by omega⟩⟩
      rintro _ w4 ⟨rfl, b4⟩
      have b34 : Below w3.heap.size w3 w4 := (Below.refl _ w3).drew.trans b4
      have h4 := h3.below b34 (by decide)
      have ck4 := h4.at OpT.len hlt
      have s4 := s3.call b34
      have r4 := s4.rules 0 rfl
      have b04 : Below w1.heap.size w1 w4 := b3.trans (b34.mono b3.size)
      simp (disch := first | omega | exact okFill_t rfl | exact okSize_t rfl | exact fun h => h | (simp only [World.size_alloc, World.size_drew, World.size_setCell, size_fill, bytesW]; omega)) only [go_sem, c35, c35S0, c35S1, c35S2, c35L0, c35S3, c35S4, c35S5, c35L1, c35S6, c35S7, c35D1, r3, r4, ek, ak, ao, ck, ck4]
      refine ⟨Chg.of_below b4, fun e3 => ⟨⟨by omega, by omega⟩, Chg.of_below b4, Ret.mono (rbefore_ok _ _ _) ?_⟩, fun e3 => ⟨⟨by omega, by omega⟩, k + 1, rfl, ⟨b04, by omega⟩, by omega⟩⟩
      rintro _ w5 ⟨rfl, b5⟩
      have b05 : Below w1.heap.size w1 w5 := b04.trans (b5.mono b04.size)
      simp (disch := first | omega | exact okFill_t rfl | exact okSize_t rfl | exact fun h => h | (simp only [World.size_alloc, World.size_drew, World.size_setCell, size_fill, bytesW]; omega)) only [go_sem, c35, c35S0, c35S1, c35S2, c35L0, c35S3, c35S4, c35S5, c35L1, c35S6, c35S7, c35D1, r3, r4, ek, ak, ao, ck, ck4]
      exact ⟨(Chg.of_below b4).trans (Chg.of_below b5), fun _ => hbb _ (s1.bel.trans (b05.mono s1.size)), fun _ => ⟨⟨by omega, by omega⟩, k + 1, rfl, ⟨b05, by omega⟩, by omega⟩⟩
    · have hlt' : ¬ (k : Int) < l.length := by omega
      simp (disch := first | omega | exact okFill_t rfl | exact okSize_t rfl | exact fun h => h | (simp only [World.size_alloc, World.size_drew, World.size_setCell, size_fill, bytesW]; omega)) only [go_sem, c35, c35S0, c35S1, c35S2, c35L0, c35S3, c35S4, c35S5, c35L1, c35S6, c35S7, hlt']
      exact ⟨hall, hbb _ ((s1.bel.trans (b3.mono s1.size)))⟩
theorem rising_pairwise {l : List OpT} (h : ∀ j, (h : j + 1 < l.length) → l[j].ID < l[j + 1].ID) : l.Pairwise fun a b => a.ID < b.ID := by
  rw [List.pairwise_iff_getElem]
  intro i j hi hj hij
  induction j with
  | zero => omega
  | succ j ih =>
    rcases Nat.lt_or_ge i j with h1 | h1
    · exact Int.lt_trans (ih (by omega) h1) (h j hj)
    · obtain rfl : i = j := by omega
      exact h i hj
theorem pair_id {l : List OpT} (hp : l.Pairwise fun a b => a.ID < b.ID) : Pure l := fun a ha b hb e => by
  obtain ⟨i, hi, rfl⟩ := List.mem_iff_getElem.1 ha
  obtain ⟨j, hj, rfl⟩ := List.mem_iff_getElem.1 hb
  rw [List.pairwise_iff_getElem] at hp
  rcases Nat.lt_trichotomy i j with h | rfl | h
  · have := hp i j hi hj h; omega
  · rfl
  · have := hp j i hj hi h; omega
def Hist (l : List OpT) : Prop := l.Pairwise (fun a b => a.ID < b.ID) ∧ ∀ a ∈ l, ∀ b ∈ l, a.Object = b.Object → a.Kind = b.Kind
def ChkL (l : List OpT) (v : Value) : Prop := ∃ e, v = .int .i64 e ∧ (e = 0 → (Hist l ∧ l.length ≤ 64) ∧ ∀ o ∈ l, OpG o)
theorem ChkL.bad (l : List OpT) {e : Int} (h : e ≠ 0) : ChkL l (.int .i64 e) := ⟨e, rfl, fun h' => absurd h' h⟩
theorem check_ok (va : Value) (l : List OpT) (w : World) (ha : RdS w 11 OpT.enc va l) (hl : (l.length : Int) ≤ 9223372036854775806) :
    Ret Try.prog 22 [va] w fun v w' => ChkL l v ∧ Below w.heap.size w w' := by
  obtain ⟨pa, ca, rfl, _⟩ := ha.form
  refine ent22 _ _ _ ?_
  simp (disch := first | omega | exact okFill_t rfl | exact okSize_t rfl | exact fun h => h | (simp only [World.size_alloc, World.size_drew, World.size_setCell, size_fill, bytesW]; omega)) only [go_sem, c22, c22S0, c22S1, c22S2, c22S3, c22S4, c22L0, c22S5, c22S6, c22S7, c22L1, c22S8, c22S9, c22S10]
  refine ⟨fun _ => ⟨.bad l (by decide), Below.refl _ _⟩, fun h64 => ?_⟩
  refine W_loopU (fun k : Nat => [(3, .int .i64 k)]) (fun k w' => Below w.heap.size w w' ∧ k ≤ l.length ∧ (∀ j, (h : j < l.length) → j < k → OpG l[j]) ∧ ∀ j, (h : j + 1 < l.length) → j + 1 < k → l[j].ID < l[j + 1].ID) (fun k => l.length - k) 0 rfl ⟨Below.refl _ _, Nat.zero_le _, (fun j _ h => by omega), fun j _ h => by omega⟩ ?_
  rintro k w2 ⟨b2, hk, hg, he⟩
  have h2 := ha.below b2 (by decide)
  by_cases hlt : k < l.length
  · have hlt' : (k : Int) < l.length := by omega
    obtain ⟨p, rfl⟩ := ha.ptr (by omega)
    have ek := h2.at OpT.len hlt
    simp (disch := first | omega | exact okFill_t rfl | exact okSize_t rfl | exact fun h => h | (simp only [World.size_alloc, World.size_drew, World.size_setCell, size_fill, bytesW]; omega)) only [go_sem, c22, c22S0, c22S1, c22S2, c22S3, c22S4, c22L0, c22S5, c22S6, c22S7, c22L1, c22S8, c22S9, c22S10, hlt', ek]
    refine ⟨by omega, Ret.mono (checkOp_ok _ _) ?_⟩
    rintro _ w3 ⟨⟨e, rfl, hge⟩, b3⟩
    have b03 := b2.trans (b3.mono b2.size)
    simp (disch := first | omega | exact okFill_t rfl | exact okSize_t rfl | exact fun h => h | (simp only [World.size_alloc, World.size_drew, World.size_setCell, size_fill, bytesW]; omega)) only [go_sem, c22, c22S0, c22S1, c22S2, c22S3, c22S4, c22L0, c22S5, c22S6, c22S7, c22L1, c22S8, c22S9, c22S10]
    refine ⟨fun e0 => ⟨.bad l e0, b03⟩, fun e0 => ?_⟩
    have hg2 : ∀ j, (h : j < l.length) → j < k + 1 → OpG l[j] := fun j h1 h2 => by
      rcases Nat.lt_or_ge j k with h' | h'
      · exact hg j h1 h'
      · obtain rfl : j = k := by omega
        exact hge e0
    have h3 := ha.below b03 (by decide)
    have ek3 := h3.eltB (Below.refl _ _) OpT.len (by decide) hlt
    have ak := l[k].at
    rcases Nat.eq_zero_or_pos k with rfl | hk0
    · refine c22draw0 ?_
      simp (disch := first | omega | exact okFill_t rfl | exact okSize_t rfl | exact fun h => h | (simp only [World.size_alloc, World.size_drew, World.size_setCell, size_fill, bytesW]; omega)) only [go_sem, c22, c22S0, c22S1, c22S2, c22S3, c22S4, c22L0, c22S5, c22S6, c22S7, c22L1, c22S8, c22S9, c22S10, c22D0, hlt', ek3, ak]
      exact ⟨⟨by omega, by omega⟩, 1, rfl, ⟨b03.drew, by omega, hg2, fun j _ h => by omega⟩, by omega⟩
    · have ej3 := h3.eltB (Below.refl _ _) OpT.len (by decide) (show k - 1 < l.length by omega)
      have aj := l[k - 1].at
      have hk1 : (k : Int) - 1 = (k - 1 : Nat) := by omega
      refine c22draw0 ?_
      simp (disch := first | omega | exact okFill_t rfl | exact okSize_t rfl | exact fun h => h | (simp only [World.size_alloc, World.size_drew, World.size_setCell, size_fill, bytesW]; omega)) only [go_sem, c22, c22S0, c22S1, c22S2, c22S3, c22S4, c22L0, c22S5, c22S6, c22S7, c22L1, c22S8, c22S9, c22S10, c22D0, hlt', ek3, ak, hk1, ej3, aj]
      refine ⟨fun _ => ⟨by omega, ⟨by omega, by omega⟩, ⟨by omega, by omega⟩, fun _ => ⟨.bad l (by decide), b03.drew⟩, fun e1 => ⟨⟨by omega, by omega⟩, k + 1, rfl, ⟨b03.drew, by omega, hg2, fun j h1 h3 => ?_⟩, by omega⟩⟩, fun h => by omega⟩
      rcases Nat.lt_or_ge (j + 1) k with h' | h'
      · exact he j h1 h'
      · have h4 : j = k - 1 := by omega
        subst h4
        have h5 : l[k - 1 + 1] = l[k] := by congr 1; omega
        rw [h5]; exact e1
  · have hlt' : ¬ (k : Int) < l.length := by omega
    simp (disch := first | omega | exact okFill_t rfl | exact okSize_t rfl | exact fun h => h | (simp only [World.size_alloc, World.size_drew, World.size_setCell, size_fill, bytesW]; omega)) only [go_sem, c22, c22S0, c22S1, c22S2, c22S3, c22S4, c22L0, c22S5, c22S6, c22S7, c22L1, c22S8, c22S9, c22S10, hlt']
    have hp : l.Pairwise fun a b => a.ID < b.ID := rising_pairwise fun j h => he j h (by omega)
    clear he
    refine W_loopU (fun k : Nat => [(5, .int .i64 k)]) (fun k w' => Below w.heap.size w w' ∧ k ≤ l.length ∧ ∀ j, (h : j < l.length) → j < k → ∀ x ∈ l, x.ID ≠ l[j].ID → x.Object = l[j].Object → x.Kind = l[j].Kind) (fun k => l.length - k) 0 rfl ⟨b2, Nat.zero_le _, fun j _ h => by omega⟩ ?_
    clear h2 b2
    rintro k w3 ⟨b3, hk, he⟩
    have h3 := ha.below b3 (by decide)
    by_cases hlt : k < l.length
    · have hlt' : (k : Int) < l.length := by omega
      obtain ⟨p, rfl⟩ := ha.ptr (by omega)
      have ek := h3.at OpT.len hlt
      simp (disch := first | omega | exact okFill_t rfl | exact okSize_t rfl | exact fun h => h | (simp only [World.size_alloc, World.size_drew, World.size_setCell, size_fill, bytesW]; omega)) only [go_sem, c22, c22S0, c22S1, c22S2, c22S3, c22S4, c22L0, c22S5, c22S6, c22S7, c22L1, c22S8, c22S9, c22S10, hlt', ek]
      refine ⟨by omega, Ret.mono (beside_ok _ _ _ _ h3 hl) ?_⟩
      rintro _ w4 ⟨⟨e, rfl, hee⟩, b4⟩
      simp (disch := first | omega | exact okFill_t rfl | exact okSize_t rfl | exact fun h => h | (simp only [World.size_alloc, World.size_drew, World.size_setCell, size_fill, bytesW]; omega)) only [go_sem, c22, c22S0, c22S1, c22S2, c22S3, c22S4, c22L0, c22S5, c22S6, c22S7, c22L1, c22S8, c22S9, c22S10]
      have b04 := b3.trans (b4.mono b3.size)
      refine ⟨fun e0 => ⟨.bad l e0, b04⟩, fun e0 => ⟨⟨by omega, by omega⟩, k + 1, rfl, ⟨b04, by omega, fun j h1 h3 => ?_⟩, by omega⟩⟩
      rcases Nat.lt_or_ge j k with h' | h'
      · exact he j h1 h'
      · obtain rfl : j = k := by omega
        exact hee e0
    · have hlt' : ¬ (k : Int) < l.length := by omega
      simp (disch := first | omega | exact okFill_t rfl | exact okSize_t rfl | exact fun h => h | (simp only [World.size_alloc, World.size_drew, World.size_setCell, size_fill, bytesW]; omega)) only [go_sem, c22, c22S0, c22S1, c22S2, c22S3, c22S4, c22L0, c22S5, c22S6, c22S7, c22L1, c22S8, c22S9, c22S10, hlt']
      refine ⟨⟨0, rfl, fun _ => ⟨⟨⟨hp, fun a h1 b h2 e => ?_⟩, by omega⟩, fun o ho => by obtain ⟨j, hj, rfl⟩ := List.mem_iff_getElem.1 ho; exact hg j hj (by omega)⟩⟩, b3⟩
      by_cases hid : a.ID = b.ID
      · rw [pair_id hp a h1 b h2 hid]
      · obtain ⟨j, hj, rfl⟩ := List.mem_iff_getElem.1 h2
        exact he j hj (by omega) a h1 hid e
structure Good (l : List OpT) : Prop where
  h : HistG l
  id : l.Pairwise fun a b => a.ID < b.ID
  kind : ∀ a ∈ l, ∀ b ∈ l, a.Object = b.Object → a.Kind = b.Kind
  few : l.length ≤ 64
theorem Good.pure {l : List OpT} (h : Good l) : Pure l := pair_id h.id
def GoodR (l : List OpT) (v : Value) : Prop := ∃ b, v = .bool b ∧ (b = true → Good l)
theorem good_ok (va : Value) (l : List OpT) (w : World) (ha : RdS w 11 OpT.enc va l) (hw : ∀ o ∈ l, o.wf) (hl : (l.length : Int) ≤ 9223372036854775807) : Ret Try.prog 11 [va] w fun v w' => GoodR l v ∧ Below w.heap.size w w' := by
  obtain ⟨pa, ca, rfl, _⟩ := ha.form
  refine ent11 _ _ _ ?_
  simp (disch := first | omega | exact okFill_t rfl | exact okSize_t rfl | exact fun h => h | (simp only [World.size_alloc, World.size_drew, World.size_setCell, size_fill, bytesW]; omega)) only [go_sem, c11, c11S0]
  refine ⟨fun h64 => Ret.mono (check_ok _ l w ha (by omega)) ?_, fun h64 => ⟨⟨false, rfl, fun h => by cases h⟩, Below.refl _ _⟩⟩
  rintro _ w2 ⟨⟨e, rfl, he⟩, b2⟩
  simp (disch := first | omega | exact okFill_t rfl | exact okSize_t rfl | exact fun h => h | (simp only [World.size_alloc, World.size_drew, World.size_setCell, size_fill, bytesW]; omega)) only [go_sem, c11, c11S0]
  refine ⟨⟨decide (e = 0), rfl, fun h => ?_⟩, b2⟩
  obtain ⟨⟨⟨h1, h2⟩, h3⟩, h4⟩ := he (by simpa using h)
  exact ⟨⟨by omega, hw, h4⟩, h1, h2, h3⟩
end Go.Proofs.Ytmdhcpghofadcaa

namespace Go.Proofs.Ytmdhcpghofadcaa
set_option linter.unusedSimpArgs false
set_option linter.unusedVariables false
set_option maxRecDepth 100000
open Go Go.Ann Go.RowKit Go.WideShapes Go.Shelf
def awO : OpT := ⟨1, 1, 0, 3, 6, 5, 0, true, 0, 0, 10⟩
theorem aw_label : labelL awO = [101, 110, 113, 53] := by
  have h : numL 5 = [53] := by unfold numL; rw [if_neg (by decide)]; show decL 5 = _; rw [decL_small (by decide)]; rfl
  unfold labelL argL resL
  show nameL 6 ++ (if _ then numL 5 else _) ++ _ = _
  rw [if_pos (by decide), if_neg (by decide), h]
  rfl
theorem aw_row : rowL (scOf [awO] 12) [awO] = [91, 101, 110, 113, 53, 45, 45, 45, 45, 45, 45, 93] := by
  have ha : (scOf [awO] 12).a awO = 0 := by decide
  have hb : (scOf [awO] 12).b awO = 11 := by decide
  unfold rowL rowF
  simp only [List.foldl_cons, List.foldl_nil]
  unfold barF signB
  rw [ha, hb, aw_label]
  decide
theorem aw_good : Good [awO] where
  h := ⟨by decide, fun o ho => by rw [List.mem_singleton] at ho; subst ho; unfold OpT.wf awO kOk; decide, fun o ho => by rw [List.mem_singleton] at ho; subst ho; exact ⟨by decide, by decide, by decide, by decide, by decide, by decide, fun _ => by decide, fun h => by cases h⟩⟩
  id := List.pairwise_singleton _ _
  kind := fun a ha b hb _ => by rw [List.mem_singleton] at ha hb; rw [ha, hb]
  few := by decide
theorem aw_by {acc : List Seg} (h : ByProc [awO] acc) : acc = [⟨1, 3, [awO]⟩] := by
  refine byProc_unique aw_good.pure h ⟨List.pairwise_singleton _ _, fun s hs => ?_, fun s hs => ?_, fun o ho => ?_⟩
  · rw [List.mem_singleton] at hs; subst hs
    exact ⟨List.Perm.refl _, List.pairwise_singleton _ _⟩
  · rw [List.mem_singleton] at hs; subst hs
    exact ⟨awO, [], rfl, rfl⟩
  · rw [List.mem_singleton] at ho; subst ho
    exact ⟨_, List.mem_singleton_self _, rfl⟩
theorem aw_lines : linesL (scOf [awO] 12) ([⟨1, 3, [awO]⟩].map Seg.ops) = [112, 49, 32, 32, 32, 32, 32, 91, 101, 110, 113, 53, 45, 45, 45, 45, 45, 45, 93, 10] := by
  have h : numL 1 = [49] := by unfold numL; rw [if_neg (by decide)]; show decL 1 = _; rw [decL_small (by decide)]; rfl
  show (lineL (scOf [awO] 12) [awO]) ++ [] = _
  unfold lineL
  rw [aw_row, show procOf [awO] = 1 from rfl, h]
  rfl
theorem awake_ok (w : World) : Ret Try.prog 10 [] w fun u w' => u = .bool true ∧ Below w.heap.size w w' := by
  refine ent10 _ _ ?_
  simp (disch := first | omega | exact okFill_t rfl | exact okSize_t rfl | exact fun h => h | (simp only [World.size_alloc, World.size_drew, World.size_setCell, size_fill, bytesW]; omega)) only [go_sem, c10, c10S0]
  refine bdW_built (cells := awO.enc.toArray) (by kernel_rfl) ?_
  simp (disch := first | omega | exact okFill_t rfl | exact okSize_t rfl | exact fun h => h | (simp only [World.size_alloc, World.size_drew, World.size_setCell, size_fill, bytesW]; omega)) only [go_sem, c10, c10S0]
  refine bsW_agg ty27mkI rfl (by decide) (by decide) ?_
  have hrd : RdS (w.alloc (.cells awO.enc.toArray 23)) 11 OpT.enc (.slice (some ⟨w.heap.size, 0, none⟩) 1 1) [awO] := rd_new (t := 23) (sz := 11) (n := 1) (cs := awO.enc.toArray) rfl
  have b1 : Below w.heap.size w (w.alloc (.cells awO.enc.toArray 23)) := (Below.refl _ _).alloc (Nat.le_refl _) _
  generalize w.alloc (.cells awO.enc.toArray 23) = w1 at hrd b1 ⊢
  simp (disch := first | omega | exact okFill_t rfl | exact okSize_t rfl | exact fun h => h | (simp only [World.size_alloc, World.size_drew, World.size_setCell, size_fill, bytesW]; omega)) only [go_sem, c10, c10S0]
  refine Ret.mono (draw_ok hrd aw_good.h 12) ?_
  rintro u w2 ⟨hu, b2⟩
  have b02 := b1.trans (b2.mono b1.size)
  rcases hu with ⟨h, _⟩ | ⟨_, acc, hacc, rfl⟩
  · exact absurd ⟨by decide, by decide⟩ h
  rw [aw_by hacc, show (12 : Int).toNat = 12 from rfl, aw_lines]
  simp (disch := first | omega | exact okFill_t rfl | exact okSize_t rfl | exact fun h => h | (simp only [World.size_alloc, World.size_drew, World.size_setCell, size_fill, bytesW]; omega)) only [go_sem, c10, c10S0]
  exact ⟨by kernel_rfl, b02⟩
section
variable {va : Value} {l : List OpT} {w : World} {o : OpT}
theorem drawR_one (hp : Pure l) {width : Int} {u v : Value} (hu : DrawR l width u) (hv : DrawR l width v) : u = v := by
  rcases hu with ⟨h1, rfl⟩ | ⟨h1, acc, ha, rfl⟩
  · rcases hv with ⟨_, rfl⟩ | ⟨h2, _⟩
    · rfl
    · exact absurd h2 h1
  · rcases hv with ⟨h2, _⟩ | ⟨_, acc', hb, rfl⟩
    · exact absurd h1 h2
    · rw [byProc_unique hp ha hb]
theorem draws_ok (h : RdS w 11 OpT.enc va l) (hl : (l.length : Int) ≤ 9223372036854775807) (hw : ∀ o ∈ l, o.wf) (width : Int) : Ret Try.prog 4 [va, .int .i64 width] w fun u w' => u = .bool true ∧ Below w.heap.size w w' := by
  obtain ⟨pa, ca, rfl, _⟩ := h.form
  refine ent4 _ _ _ _ ?_
  simp (disch := first | omega | exact okFill_t rfl | exact okSize_t rfl | exact fun h => h | (simp only [World.size_alloc, World.size_drew, World.size_setCell, size_fill, bytesW]; omega)) only [go_sem, c4, c4S0, c4S1, c4S2, c4S3, c4S4, c4S5]
  refine Ret.mono (good_ok _ l w h hw hl) ?_
  rintro _ w2 ⟨⟨b, rfl, hb⟩, b2⟩
  cases b with
  | false =>
    simp (disch := first | omega | exact okFill_t rfl | exact okSize_t rfl | exact fun h => h | (simp only [World.size_alloc, World.size_drew, World.size_setCell, size_fill, bytesW]; omega)) only [go_sem, c4, c4S0, c4S1, c4S2, c4S3, c4S4, c4S5]
    refine Ret.mono (awake_ok w2) ?_
    rintro _ w3 ⟨rfl, b3⟩
    simp (disch := first | omega | exact okFill_t rfl | exact okSize_t rfl | exact fun h => h | (simp only [World.size_alloc, World.size_drew, World.size_setCell, size_fill, bytesW]; omega)) only [go_sem, c4, c4S0, c4S1, c4S2, c4S3, c4S4, c4S5]
    exact b2.trans (b3.mono b2.size)
  | true =>
    have hG := hb rfl
    simp (disch := first | omega | exact okFill_t rfl | exact okSize_t rfl | exact fun h => h | (simp only [World.size_alloc, World.size_drew, World.size_setCell, size_fill, bytesW]; omega)) only [go_sem, c4, c4S0, c4S1, c4S2, c4S3, c4S4, c4S5]
    refine Ret.mono (draw_ok (h.below b2 (by decide)) hG.h width) ?_
    rintro u w3 ⟨hu, b3⟩
    have b03 := b2.trans (b3.mono b2.size)
    obtain ⟨us, ue, rfl⟩ : ∃ us ue, u = .tuple #[.string (ofL us), .int .i64 ue] := by
      rcases hu with ⟨_, rfl⟩ | ⟨_, acc, _, rfl⟩ <;> exact ⟨_, _, rfl⟩
    simp (disch := first | omega | exact okFill_t rfl | exact okSize_t rfl | exact fun h => h | (simp only [World.size_alloc, World.size_drew, World.size_setCell, size_fill, bytesW]; omega)) only [go_sem, c4, c4S0, c4S1, c4S2, c4S3, c4S4, c4S5]
    refine Ret.mono (rdraw_ok (h.below b03 (by decide)) hG.h width) ?_
    rintro v w4 ⟨hv, b4⟩
    have b04 := b03.trans (b4.mono b03.size)
    have := drawR_one hG.pure hu hv
    subst this
    simp (disch := first | omega | exact okFill_t rfl | exact okSize_t rfl | exact fun h => h | (simp only [World.size_alloc, World.size_drew, World.size_setCell, size_fill, bytesW]; omega)) only [go_sem, c4, c4S0, c4S1, c4S2, c4S3, c4S4, c4S5]
    refine Ret.mono (awake_ok w4) ?_
    rintro _ w5 ⟨rfl, b5⟩
    simp (disch := first | omega | exact okFill_t rfl | exact okSize_t rfl | exact fun h => h | (simp only [World.size_alloc, World.size_drew, World.size_setCell, size_fill, bytesW]; omega)) only [go_sem, c4, c4S0, c4S1, c4S2, c4S3, c4S4, c4S5]
    exact b04.trans (b5.mono b04.size)
end
set_option maxRecDepth 100000 in
theorem draws_law {H : Type} {enc : TypeId × Value → H} {w : World} {r : Reach} {b base : Nat} {sp : Nat → Bool} {hd : Bool} {v : Value} {d : DataW H} {p : List MemPlace}
    (h : Value.okWide Try.prog w r b 27 v) (k : DataW.Trod enc Try.prog w base sp hd 27 v d p) (n : Int) :
    Ret Try.prog 4 [v, .int .i64 n] w fun u w' => u = .bool true ∧ Below w.heap.size w w' := by
  obtain ⟨xs, q1, q3, q2⟩ := Opens.slice_arg opens_Ops Try.underlying27 h k
  exact draws_ok q1 q2 q3 n
end Go.Proofs.Ytmdhcpghofadcaa
