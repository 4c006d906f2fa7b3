/- Contracts over the bitmap's functions: the numbers of a set, in order. -/
import Derived.Test.YtnhgafpoonnamaaP4
import Derived.Test.YtnhgafpoonnamaaAnn15
import Derived.Test.YtnhgafpoonnamaaAnn16
namespace Go.Proofs.Ytnhgafpoonnamaa
set_option linter.unusedSimpArgs false
set_option linter.unusedVariables false
open Go Go.Ann Go.RowKit

/-- The bits of a byte, in order. -/
def bitsL (c : Int) : List Nat := (List.range 8).filter (bitOf c)
/-- Integers, as values. -/
def intsV (xs : List Int) : List Value := xs.map (Value.int .i64)
/-- The numbers that a byte stands for. -/
def numsL (c : Int) (i : Nat) : List Int := (bitsL c).map fun j => 8 * (i : Int) + (j : Nat)
/-- The numbers of a set's first bytes; of a set. -/
def allT (l : List UInt8) (i : Nat) : List Int := (List.range i).flatMap fun (k : Nat) => numsL (bN l (k : Int)) k
def allL (l : List UInt8) : List Int := allT l l.length
theorem allT_succ (l : List UInt8) (i : Nat) : allT l (i + 1) = allT l i ++ numsL (bN l (i : Int)) i := by
  unfold allT; rw [List.range_succ, List.flatMap_append]; simp
theorem allT_length (l : List UInt8) : ∀ i, i ≤ l.length → (allT l i).length = countL (l.take i)
  | 0, _ => by simp [allT, countL]
  | i + 1, h => by
    rw [allT_succ, List.length_append, allT_length l i (by omega), countL_take l i (by omega)]
    simp [numsL, popN, bitsL]
theorem allL_length (l : List UInt8) : (allL l).length = countL l := by
  unfold allL; rw [allT_length l _ (Nat.le_refl _), List.take_length]
theorem allT_pre (l : List UInt8) (i : Nat) : ∀ d, ∃ r, allT l (i + d) = allT l i ++ r
  | 0 => ⟨[], by simp⟩
  | d + 1 => by
    obtain ⟨r, hr⟩ := allT_pre l i d
    exact ⟨r ++ numsL (bN l ((i + d : Nat) : Int)) (i + d), by rw [← Nat.add_assoc, allT_succ, hr, List.append_assoc]⟩
theorem numsL_bd (c : Int) (i : Nat) : ∀ x ∈ numsL c i, 0 ≤ x ∧ x < 8 * i + 8 := by
  intro x hx
  unfold numsL bitsL at hx
  rw [List.mem_map] at hx
  obtain ⟨j, hj, rfl⟩ := hx
  have := List.mem_range.1 (List.mem_filter.1 hj).1
  omega

theorem trail_ok (c : Int) (w : World) (h0 : 0 ≤ c) (h1 : c ≤ 255) :
    Ret Try.prog 26 [.int .u8 c] w fun v w' => v = .int .i64 (bN str256x339595612 c) ∧ w' = w := by
  refine ent26 _ _ _ ?_
  simp only [go_sem, ↓reduceIte, reduceCtorEq, Nat.reduceBEq, Nat.reduceEqDiff, Nat.reduceAdd, Nat.reduceMul, Int.reduceNe, Int.reduceEq, Int.reduceLT, Int.reduceLE, Int.reduceNeg, Int.reduceAdd, Int.reduceSub, Int.reduceMul, Int.reduceToNat, beq_self_eq_true, c26]
  have len : str256x339595612.length = 256 := by decide +kernel
  have := bN_bd str256x339595612 c
  refine ⟨⟨h0, by omega⟩, ?_⟩
  exact ⟨by omega, by omega⟩
theorem bits_next (c : Int) (h0 : 0 < c) (h1 : c ≤ 255) : ∃ t : Nat, bN str256x339595612 c = (t : Int) ∧ t < 8 ∧ bitsL c = t :: bitsL (bits .and .u8 c (c - 1)) ∧ 0 ≤ bits .and .u8 c (c - 1) ∧ bits .and .u8 c (c - 1) < c := by
  have all : ∀ m : Fin 255, (fun c : Int => bN str256x339595612 c < 8 ∧ bitsL c = (bN str256x339595612 c).toNat :: bitsL (bits .and .u8 c (c - 1)) ∧ 0 ≤ bits .and .u8 c (c - 1) ∧ bits .and .u8 c (c - 1) < c) ((m.val : Int) + 1) := by decide +kernel
  have h := all ⟨(c - 1).toNat, by omega⟩
  simp only [show (((c - 1).toNat : Nat) : Int) + 1 = c by omega] at h
  have := bN_bd str256x339595612 c
  exact ⟨(bN str256x339595612 c).toNat, by omega, by omega, h.2.1, h.2.2.1, h.2.2.2⟩

/-- The numbers of a byte's first bits. -/
def numsT (c : Int) (i k : Nat) : List Int := ((List.range k).filter (bitOf c)).map fun (j : Nat) => 8 * (i : Int) + (j : Int)
theorem numsT_succ (c : Int) (i k : Nat) : numsT c i (k + 1) = numsT c i k ++ if bitOf c k then [8 * (i : Int) + (k : Int)] else [] := by
  unfold numsT
  rw [List.range_succ, List.filter_append, List.map_append]
  congr 1
  by_cases h : bitOf c k <;> simp [h]
theorem intsV_append (a b : List Int) : intsV (a ++ b) = intsV a ++ intsV b := List.map_append ..
theorem allT_len (l : List UInt8) (i k : Nat) (h : i ≤ l.length) (hk : k ≤ 8) (c : Int) : (allT l i).length ≤ 8 * i ∧ (numsT c i k).length ≤ 8 := by
  constructor
  · rw [allT_length l i h]
    have := countL_le (l.take i)
    rw [List.length_take] at this
    omega
  · unfold numsT
    rw [List.length_map]
    exact Nat.le_trans (List.length_filter_le _ _) (by simpa using hk)
theorem rbit_ok (c k : Int) (w : World) (h0 : 0 ≤ c) (h1 : c ≤ 255) (hk0 : 0 ≤ k) (hk : k < 8) :
    Ret Try.prog 21 [.int .u8 c, .int .i64 k] w fun v w' => v = .bool (bitOf c k.toNat) ∧ w' = w := by
  exact bit_ok _ _ _ h0 h1 hk0 (by omega)
theorem all_ok (l : List UInt8) (w : World) (hl : (l.length : Int) ≤ 1000) :
    Ret Try.prog 18 [.string (ofL l)] w fun v w' => w'.ownsRow w.heap.size 3 1 v (allL l).length (intsV (allL l)) ∧ Below w.heap.size w w' := by
  refine ent18 _ _ _ ?_
  simp only [go_sem, ↓reduceIte, reduceCtorEq, Nat.reduceBEq, Nat.reduceEqDiff, Nat.reduceAdd, Nat.reduceMul, Int.reduceNe, Int.reduceEq, Int.reduceLT, Int.reduceLE, Int.reduceNeg, Int.reduceAdd, Int.reduceSub, Int.reduceMul, Int.reduceToNat, beq_self_eq_true, c18, c18S0, c18S1, c18S2, c18S3, c18S4, c18S5]
  refine W_loop (fun s : Nat × Value => [(0, Value.string (ofL l)), (3, s.2), (4, .int .i64 (s.1 : Int))])
    (fun s w' => s.1 ≤ l.length ∧ w'.ownsRow w.heap.size 3 1 s.2 (allT l s.1).length (intsV (allT l s.1)) ∧ Below w.heap.size w w') (fun s => l.length - s.1) (0, .slice none 0 0) (by rfl) ⟨Nat.zero_le _, World.ownsRow_nil _ _ _ _, Below.refl _ _⟩ ?_
  rintro ⟨i, v⟩ w1 ⟨hi, hown, hb⟩
  simp only at hi hown hb ⊢
  simp only [go_sem, ↓reduceIte, reduceCtorEq, Nat.reduceBEq, Nat.reduceEqDiff, Nat.reduceAdd, Nat.reduceMul, Int.reduceNe, Int.reduceEq, Int.reduceLT, Int.reduceLE, Int.reduceNeg, Int.reduceAdd, Int.reduceSub, Int.reduceMul, Int.reduceToNat, beq_self_eq_true, c18, c18S0, c18S1, c18S2, c18S3, c18S4, c18S5, c18L1]
  refine ⟨fun h => ?_, fun h => ?_⟩
  · have bd := bN_bd l (i : Int)
    refine W_loop (fun s : Nat × Value => [(0, Value.string (ofL l)), (3, s.2), (4, .int .i64 (i : Int)), (5, .int .i64 (s.1 : Int))])
      (fun s w' => s.1 ≤ 8 ∧ w'.ownsRow w.heap.size 3 1 s.2 (allT l i ++ numsT (bN l (i : Int)) i s.1).length (intsV (allT l i ++ numsT (bN l (i : Int)) i s.1)) ∧ Below w.heap.size w w') (fun s => 8 - s.1) (0, v) (by rfl) ⟨Nat.zero_le _, by simpa [numsT] using hown, hb⟩ ?_
    rintro ⟨k, v⟩ w2 ⟨hk, hown, hb⟩
    simp only at hk hown hb ⊢
    simp only [go_sem, ↓reduceIte, reduceCtorEq, Nat.reduceBEq, Nat.reduceEqDiff, Nat.reduceAdd, Nat.reduceMul, Int.reduceNe, Int.reduceEq, Int.reduceLT, Int.reduceLE, Int.reduceNeg, Int.reduceAdd, Int.reduceSub, Int.reduceMul, Int.reduceToNat, beq_self_eq_true, c18, c18S0, c18S1, c18S2, c18S3, c18S4, c18S5, c18L0]
    refine ⟨fun h8 => ⟨⟨by omega, h⟩, ?_⟩, fun h8 => ?_⟩
    · refine Ret.mono (rbit_ok (bN l (i : Int)) k w2 bd.1 bd.2 (by omega) (by omega)) ?_
      rintro _ w3 ⟨rfl, rfl⟩
      simp only [go_sem, ↓reduceIte, reduceCtorEq, Nat.reduceBEq, Nat.reduceEqDiff, Nat.reduceAdd, Nat.reduceMul, Int.reduceNe, Int.reduceEq, Int.reduceLT, Int.reduceLE, Int.reduceNeg, Int.reduceAdd, Int.reduceSub, Int.reduceMul, Int.reduceToNat, beq_self_eq_true, c18, c18S0, c18S1, c18S2, c18S3, c18S4, c18S5]
      have al := allT_len l i k hi hk (bN l (i : Int))
      refine ⟨fun hbit => ?_, fun hbit => ?_⟩
      · refine ⟨⟨by omega, by omega⟩, ⟨by omega, by omega⟩, ?_⟩
        refine bsW_ones ty34mkI rfl rfl (by decide) (by decide) (by intro v hv; simp only [List.mem_singleton] at hv; subst hv; rfl) ?_
        simp only [go_sem, ↓reduceIte, reduceCtorEq, Nat.reduceBEq, Nat.reduceEqDiff, Nat.reduceAdd, Nat.reduceMul, Int.reduceNe, Int.reduceEq, Int.reduceLT, Int.reduceLE, Int.reduceNeg, Int.reduceAdd, Int.reduceSub, Int.reduceMul, Int.reduceToNat, beq_self_eq_true, c18, c18S0, c18S1, c18S2, c18S3, c18S4, c18S5]
        refine rawB_append (base := w.heap.size) (news := [.int .i64 (8 * (i : Int) + (k : Int))]) ty34mkI rfl (by decide) (hown.alloc _) rfl ?_ ?_ (by decide) ?_ ?_ ?_ ?_
        · intro j u hu
          match j, hu with
          | 0, hu =>
            simp only [List.getElem?_cons_zero, Option.some.injEq] at hu; subst hu
            rw [Addr.add_lit, World.cell?_alloc_at _ _ _ _ rfl]; simp
          | j + 1, hu => simp at hu
        · intro v hv; simp only [List.mem_singleton] at hv; subst hv; rfl
        · rw [List.length_append]; omega
        · rw [List.length_append]; omega
        · have := hb.size; simp; omega
        intro g cap w4 hown4 hgr hg hlt
        simp only [go_sem, ↓reduceIte, reduceCtorEq, Nat.reduceBEq, Nat.reduceEqDiff, Nat.reduceAdd, Nat.reduceMul, Int.reduceNe, Int.reduceEq, Int.reduceLT, Int.reduceLE, Int.reduceNeg, Int.reduceAdd, Int.reduceSub, Int.reduceMul, Int.reduceToNat, beq_self_eq_true, c18, c18S0, c18S1, c18S2, c18S3, c18S4, c18S5]
        have hsz := hb.size
        refine ⟨⟨by omega, by omega⟩, (k + 1, _), rfl, ⟨by omega, ?_, ?_⟩, by omega⟩
        · rw [Int.toNat_natCast] at hbit
          simp only [numsT_succ, hbit, if_true]
          rw [← List.append_assoc, List.length_append (bs := [_]), intsV_append]
          exact hown4
        · refine (hb.alloc hb.size _).grown hgr ?_ ?_
          · simp; omega
          · intro k' hk'
            exact (hown.lt k' hk').1
      · refine ⟨⟨by omega, by omega⟩, (k + 1, v), rfl, ⟨by omega, ?_, hb⟩, by omega⟩
        rw [Int.toNat_natCast] at hbit
        simp only [numsT_succ, hbit, Bool.false_eq_true, if_false, List.append_nil]
        exact hown
    · have hk8 : k = 8 := by omega
      subst hk8
      refine ⟨⟨by omega, by omega⟩, (i + 1, v), rfl, ⟨by omega, ?_, hb⟩, by omega⟩
      simp only [allT_succ]
      exact hown
  · obtain rfl : i = l.length := by omega
    exact ⟨hown, hb⟩
theorem ints_ok (a b : Value) (n m : Nat) (xs ys : List Int) (w : World) (ha : Rd w 1 a n (intsV xs)) (hb : Rd w 1 b m (intsV ys)) (hn : (n : Int) ≤ 9223372036854775807) :
    Ret Try.prog 19 [a, b] w fun v w' => v = .bool (decide (xs = ys)) ∧ Still w w' := by
  obtain ⟨hx, a, ca, rfl, hca, hxa⟩ := ha
  obtain ⟨hy, b, cb, rfl, hcb, hyb⟩ := hb
  unfold intsV at hx hy hxa hyb
  rw [List.length_map, Nat.mul_one] at hx hy
  subst hx hy
  refine ent19 _ _ _ _ ?_
  simp only [go_sem, ↓reduceIte, reduceCtorEq, Nat.reduceBEq, Nat.reduceEqDiff, Nat.reduceAdd, Nat.reduceMul, Int.reduceNe, Int.reduceEq, Int.reduceLT, Int.reduceLE, Int.reduceNeg, Int.reduceAdd, Int.reduceSub, Int.reduceMul, Int.reduceToNat, beq_self_eq_true, c19, c19S0, c19S1, c19S2, c19S3, c19S4]
  refine ⟨fun hne => ?_, fun he => ?_⟩
  · rw [decide_eq_false (by rintro rfl; exact hne rfl)]
    exact ⟨rfl, Still.refl _⟩
  have he : xs.length = ys.length := by omega
  refine W_loop (fun k : Nat => [(0, Value.slice a xs.length ca), (1, Value.slice b ys.length cb), (5, .int .i64 (k : Int))])
    (fun k w' => k ≤ xs.length ∧ xs.take k = ys.take k ∧ Still w w') (fun k => xs.length - k) 0 (by rfl) ⟨Nat.zero_le _, by simp, Still.refl _⟩ ?_
  rintro k w' ⟨hk, ht, hst⟩
  by_cases h : k < xs.length
  · obtain ⟨a, rfl, hxc⟩ := hxa (by omega)
    obtain ⟨b, rfl, hyc⟩ := hyb (by omega)
    simp only [go_sem, ↓reduceIte, reduceCtorEq, Nat.reduceBEq, Nat.reduceEqDiff, Nat.reduceAdd, Nat.reduceMul, Int.reduceNe, Int.reduceEq, Int.reduceLT, Int.reduceLE, Int.reduceNeg, Int.reduceAdd, Int.reduceSub, Int.reduceMul, Int.reduceToNat, beq_self_eq_true, c19, c19S0, c19S1, c19S2, c19S3, c19S4, c19L0]
    refine ⟨fun _ => ?_, fun h => by omega⟩
    refine c19draw0 ?_
    simp only [go_sem, ↓reduceIte, reduceCtorEq, Nat.reduceBEq, Nat.reduceEqDiff, Nat.reduceAdd, Nat.reduceMul, Int.reduceNe, Int.reduceEq, Int.reduceLT, Int.reduceLE, Int.reduceNeg, Int.reduceAdd, Int.reduceSub, Int.reduceMul, Int.reduceToNat, beq_self_eq_true, c19, c19S0, c19S1, c19S2, c19S3, c19S4, c19D0]
    have h' : k < ys.length := by omega
    have gx : xs[k]? = some xs[k] := List.getElem?_eq_getElem h
    have gy : ys[k]? = some ys[k] := List.getElem?_eq_getElem h'
    refine ⟨⟨by omega, by omega⟩, xs[k], ?_, ⟨by omega, by omega⟩, ys[k], ?_, ?_, ?_⟩
    · rw [World.cell?_drew, hst.cell]
      exact hxc _ _ (by simp [gx])
    · rw [World.cell?_drew, hst.cell]
      exact hyc _ _ (by simp [gy])
    · intro hne
      refine ⟨?_, hst.drew⟩
      rw [decide_eq_false (by rintro rfl; exact hne rfl)]
    · intro heq
      have heq : xs[k] = ys[k] := Decidable.not_not.1 heq
      refine ⟨⟨by omega, by omega⟩, k + 1, rfl, ⟨by omega, ?_, hst.drew⟩, by omega⟩
      rw [List.take_succ_eq_append_getElem h, List.take_succ_eq_append_getElem h', ht, heq]
  · simp only [go_sem, ↓reduceIte, reduceCtorEq, Nat.reduceBEq, Nat.reduceEqDiff, Nat.reduceAdd, Nat.reduceMul, Int.reduceNe, Int.reduceEq, Int.reduceLT, Int.reduceLE, Int.reduceNeg, Int.reduceAdd, Int.reduceSub, Int.reduceMul, Int.reduceToNat, beq_self_eq_true, c19, c19S0, c19S1, c19S2, c19S3, c19S4, c19L0]
    refine ⟨fun h => by omega, fun h => ⟨?_, hst⟩⟩
    rw [List.take_of_length_le (by omega), List.take_of_length_le (by omega)] at ht
    rw [decide_eq_true ht]
theorem Each_ok (l : List UInt8) (w : World) :
    Ret Try.prog 23 [.string (ofL l)] w fun v w' => v = .func (.func 25) #[] #[.pointer (some ⟨w.heap.size, 0, none⟩)] ∧ w' = w.alloc (.cells #[.string (ofL l)] 9) := by
  refine ent23 _ _ _ ?_
  simp only [go_sem, ↓reduceIte, reduceCtorEq, Nat.reduceBEq, Nat.reduceEqDiff, Nat.reduceAdd, Nat.reduceMul, Int.reduceNe, Int.reduceEq, Int.reduceLT, Int.reduceLE, Int.reduceNeg, Int.reduceAdd, Int.reduceSub, Int.reduceMul, Int.reduceToNat, beq_self_eq_true, c23]
theorem eachd_ok (x m : Int) (v : Value) (xs : List Int) (B : Nat) (p q : Addr) (w : World) (hp : w.cell? p = some v) (hpf : w.frozen? p = false) (hq : w.cell? q = some (.int .i64 m))
    (hv : w.ownsRow B 3 1 v xs.length (intsV xs)) (hpB : p.block < B) (hqB : q.block < B) (hpq : p.block ≠ q.block) (hn : xs.length ≤ 100000) (hB : B ≤ w.heap.size) :
    Ret Try.prog 24 [.int .i64 x, .pointer (some p), .pointer (some q)] w fun v w' => v = .bool (decide ((xs.length : Int) + 1 < m)) ∧
      ∃ v, w'.cell? p = some v ∧ w'.frozen? p = false ∧ w'.ownsRow B 3 1 v (xs ++ [x]).length (intsV (xs ++ [x])) ∧ Chg (fun k => k = p.block ∨ B ≤ k) w w' := by
  refine ent24 _ _ _ _ _ ?_
  simp only [go_sem, ↓reduceIte, reduceCtorEq, Nat.reduceBEq, Nat.reduceEqDiff, Nat.reduceAdd, Nat.reduceMul, Int.reduceNe, Int.reduceEq, Int.reduceLT, Int.reduceLE, Int.reduceNeg, Int.reduceAdd, Int.reduceSub, Int.reduceMul, Int.reduceToNat, beq_self_eq_true, c24, c24S0]
  obtain ⟨a, cap, hv', hle⟩ : ∃ a cap, v = .slice a xs.length cap ∧ xs.length ≤ cap := by
    obtain ⟨_, a, cap, h, h2, _⟩ := Rd.of_own hv
    exact ⟨a, cap, h, h2⟩
  refine ⟨a, xs.length, cap, by rw [hp, hv'], ?_⟩
  rw [← hv']
  refine bsW_ones ty34mkI rfl rfl (by decide) (by decide) (by intro v hv; simp only [List.mem_singleton] at hv; subst hv; rfl) ?_
  simp only [go_sem, ↓reduceIte, reduceCtorEq, Nat.reduceBEq, Nat.reduceEqDiff, Nat.reduceAdd, Nat.reduceMul, Int.reduceNe, Int.reduceEq, Int.reduceLT, Int.reduceLE, Int.reduceNeg, Int.reduceAdd, Int.reduceSub, Int.reduceMul, Int.reduceToNat, beq_self_eq_true, c24, c24S0]
  refine rawB_append (base := B) (news := [.int .i64 x]) ty34mkI rfl (by decide) (hv.alloc _) rfl ?_ ?_ (by decide) ?_ ?_ ?_ ?_
  · intro j u hu
    match j, hu with
    | 0, hu =>
      simp only [List.getElem?_cons_zero, Option.some.injEq] at hu; subst hu
      rw [Addr.add_lit, World.cell?_alloc_at _ _ _ _ rfl]; simp
    | j + 1, hu => simp at hu
  · intro v hv; simp only [List.mem_singleton] at hv; subst hv; rfl
  · omega
  · omega
  · simp; omega
  intro g cap w4 hown4 hgr hg hlt
  simp only [go_sem, ↓reduceIte, reduceCtorEq, Nat.reduceBEq, Nat.reduceEqDiff, Nat.reduceAdd, Nat.reduceMul, Int.reduceNe, Int.reduceEq, Int.reduceLT, Int.reduceLE, Int.reduceNeg, Int.reduceAdd, Int.reduceSub, Int.reduceMul, Int.reduceToNat, beq_self_eq_true, c24, c24S0]
  have ch : Chg (fun k => k = p.block ∨ B ≤ k) w w4 := ((Chg.refl _ _).alloc _).grown hgr (fun k hk _ => .inr (hv.lt k hk).1)
  have hpl := World.block_lt_of_cell? w p hp
  have c4 : w4.heap[p.block]? = w.heap[p.block]? := by
    rw [hgr.block p.block (by simp; omega) (fun e => by have := (hv.lt _ e.symm).1; omega)]
    exact Below.heap_alloc w _ _ hpl
  have cp : w4.cell? p = some v := (World.cell?_of_block c4).trans hp
  have cs := World.cell?_setCell_same (w := w4) (a := p) (v := .slice (some ⟨g, 0, none⟩) (xs.length + 1) cap) (h := cp)
  have cq : w4.cell? q = some (.int .i64 m) := by
    refine hgr.cell ((World.cell?_of_block (Below.heap_alloc w _ _ (World.block_lt_of_cell? w q hq : q.block < w.heap.size))).trans hq) (fun e => ?_)
    have := (hv.lt _ e.symm).1; omega
  have fp : w4.frozen? p = false := (World.frozen?_of_block c4).trans hpf
  refine ⟨⟨v, cp⟩, fp, _, _, _, cs, m, ?_, ?_, _, cs, ?_, ?_, ch.setCell p _ (fun _ => .inl rfl)⟩
  · rw [World.cell?_setCell_other (h := fun e => hpq (by rw [e]))]; exact cq
  · simp
  · rw [World.frozen?_setCell]; exact fp
  · rw [intsV_append, List.length_append]
    exact ownsRow_setCell_below hown4 hpB _
/-- Each, over any function: it is called with each number in order, until it answers no. -/
theorem Eachd_ok (l : List UInt8) (fn : Value) (p : Addr) (J : List Int → World → Prop) (R : World → Prop) (w : World) (hl : (l.length : Int) ≤ 1000)
    (hJs : ∀ done w, J done w → w.cell? p = some (.string (ofL l)))
    (hf : ∀ done x rest w, allL l = done ++ x :: rest → J done w → callW Try.prog fn [.int .i64 x] w fun v w' => ∃ b, v = .bool b ∧ (b = true → J (done ++ [x]) w') ∧ (b = false → R w'))
    (h0 : J [] w) :
    Ret Try.prog 25 [fn, .pointer (some p)] w fun _ w' => J (allL l) w' ∨ R w' := by
  refine ent25 _ _ _ _ ?_
  simp only [go_sem, ↓reduceIte, reduceCtorEq, Nat.reduceBEq, Nat.reduceEqDiff, Nat.reduceAdd, Nat.reduceMul, Int.reduceNe, Int.reduceEq, Int.reduceLT, Int.reduceLE, Int.reduceNeg, Int.reduceAdd, Int.reduceSub, Int.reduceMul, Int.reduceToNat, beq_self_eq_true, c25, c25S0, c25S1, c25S2, c25S3, c25S4]
  refine ⟨_, hJs _ _ h0, ?_⟩
  refine W_loop (fun k : Nat => [(0, fn), (1, .pointer (some p)), (6, .int .i64 l.length), (7, .int .i64 (k : Int))])
    (fun k w' => k ≤ l.length ∧ J (allT l k) w') (fun k => l.length - k) 0 (by rfl) ⟨Nat.zero_le _, by simpa [allT] using h0⟩ ?_
  rintro k w1 ⟨hk, hJ⟩
  simp only [go_sem, ↓reduceIte, reduceCtorEq, Nat.reduceBEq, Nat.reduceEqDiff, Nat.reduceAdd, Nat.reduceMul, Int.reduceNe, Int.reduceEq, Int.reduceLT, Int.reduceLE, Int.reduceNeg, Int.reduceAdd, Int.reduceSub, Int.reduceMul, Int.reduceToNat, beq_self_eq_true, c25, c25S0, c25S1, c25S2, c25S3, c25S4, c25L1]
  refine ⟨fun h => ⟨_, hJs _ _ hJ, ⟨by omega, h⟩, ?_⟩, fun h => ?_⟩
  · have hk' : k < l.length := by omega
    have bd := bN_bd l (k : Int)
    refine W_loop (fun s : Int × List Int => [(0, fn), (1, .pointer (some p)), (3, .int .i64 (k : Int)), (4, .int .u8 s.1), (6, .int .i64 l.length), (7, .int .i64 (k : Int))])
      (fun s w' => 0 ≤ s.1 ∧ s.1 ≤ 255 ∧ allT l (k + 1) = s.2 ++ numsL s.1 k ∧ J s.2 w') (fun s => s.1.toNat) (bN l (k : Int), allT l k) (by rfl) ⟨bd.1, bd.2, allT_succ l k, hJ⟩ ?_
    rintro ⟨c, done⟩ w2 ⟨hc0, hc1, hall, hJ⟩
    simp only at hc0 hc1 hall hJ ⊢
    simp only [go_sem, ↓reduceIte, reduceCtorEq, Nat.reduceBEq, Nat.reduceEqDiff, Nat.reduceAdd, Nat.reduceMul, Int.reduceNe, Int.reduceEq, Int.reduceLT, Int.reduceLE, Int.reduceNeg, Int.reduceAdd, Int.reduceSub, Int.reduceMul, Int.reduceToNat, beq_self_eq_true, c25, c25S0, c25S1, c25S2, c25S3, c25S4, c25L0]
    refine ⟨fun hne => ⟨⟨by omega, by omega⟩, ?_⟩, fun he => ?_⟩
    · refine Ret.mono (trail_ok c w2 hc0 hc1) ?_
      rintro _ w3 ⟨rfl, rfl⟩
      obtain ⟨t, ht, ht8, hbits, hn0, hn1⟩ := bits_next c (by omega) hc1
      rw [ht]
      simp only [go_sem, ↓reduceIte, reduceCtorEq, Nat.reduceBEq, Nat.reduceEqDiff, Nat.reduceAdd, Nat.reduceMul, Int.reduceNe, Int.reduceEq, Int.reduceLT, Int.reduceLE, Int.reduceNeg, Int.reduceAdd, Int.reduceSub, Int.reduceMul, Int.reduceToNat, beq_self_eq_true, c25, c25S0, c25S1, c25S2, c25S3, c25S4]
      refine ⟨⟨by omega, by omega⟩, ?_⟩
      have hn : numsL c k = (8 * (k : Int) + (t : Int)) :: numsL (bits .and .u8 c (c - 1)) k := by
        unfold numsL; rw [hbits]; rfl
      have hrest : ∃ rest, allL l = done ++ (8 * (k : Int) + (t : Int)) :: rest := by
        obtain ⟨r, hr⟩ := allT_pre l (k + 1) (l.length - (k + 1))
        rw [show k + 1 + (l.length - (k + 1)) = l.length by omega, hall, hn] at hr
        exact ⟨numsL (bits .and .u8 c (c - 1)) k ++ r, by rw [allL, hr]; simp⟩
      obtain ⟨rest, hrest⟩ := hrest
      refine callW_mono (hf done _ rest w3 hrest hJ) ?_
      rintro _ w4 ⟨b, rfl, hy, hno⟩
      simp only [go_sem, ↓reduceIte, reduceCtorEq, Nat.reduceBEq, Nat.reduceEqDiff, Nat.reduceAdd, Nat.reduceMul, Int.reduceNe, Int.reduceEq, Int.reduceLT, Int.reduceLE, Int.reduceNeg, Int.reduceAdd, Int.reduceSub, Int.reduceMul, Int.reduceToNat, beq_self_eq_true, c25, c25S0, c25S1, c25S2, c25S3, c25S4]
      refine ⟨fun hb => .inr (hno hb), fun hb => ⟨(bits .and .u8 c (c - 1), done ++ [8 * (k : Int) + (t : Int)]), ?_, ⟨hn0, by omega, ?_, hy hb⟩, ?_⟩⟩
      · rw [wrap_u8_id _ (by omega) (by omega)]
      · rw [hall, hn]; simp
      · simp only; omega
    · have he : c = 0 := Decidable.not_not.1 he
      subst he
      refine ⟨⟨by omega, by omega⟩, k + 1, rfl, ⟨by omega, ?_⟩, by omega⟩
      have e0 : numsL 0 k = [] := by
        unfold numsL
        rw [show bitsL 0 = [] by decide]; rfl
      rw [hall, e0, List.append_nil]
      exact hJ
  · obtain rfl : k = l.length := by omega
    exact .inl hJ

theorem each_ok (l : List UInt8) (m : Int) (w : World) (hl : (l.length : Int) ≤ 1000) :
    Ret Try.prog 20 [.string (ofL l), .int .i64 m] w fun v w' => ∃ n, Rd w' 1 v n (intsV ((allL l).take m.toNat)) ∧ n = ((allL l).take m.toNat).length ∧ Below w.heap.size w w' := by
  refine ent20 _ _ _ _ ?_
  simp only [go_sem, ↓reduceIte, reduceCtorEq, Nat.reduceBEq, Nat.reduceEqDiff, Nat.reduceAdd, Nat.reduceMul, Int.reduceNe, Int.reduceEq, Int.reduceLT, Int.reduceLE, Int.reduceNeg, Int.reduceAdd, Int.reduceSub, Int.reduceMul, Int.reduceToNat, beq_self_eq_true, c20, c20S0, c20S1, c20S2, c20S3]
  refine ⟨m, rfl, fun h => ?_, fun h => ?_⟩
  · have e : m.toNat = 0 := by omega
    rw [e]
    exact ⟨0, Rd.of_own (World.ownsRow_nil _ 0 0 1), rfl, ((Below.refl _ _).alloc (Nat.le_refl _) _).alloc (by simp) _⟩
  refine Ret.mono (Each_ok l _) ?_
  rintro _ w2 ⟨rfl, hw2⟩
  simp only [go_sem, ↓reduceIte, reduceCtorEq, Nat.reduceBEq, Nat.reduceEqDiff, Nat.reduceAdd, Nat.reduceMul, Int.reduceNe, Int.reduceEq, Int.reduceLT, Int.reduceLE, Int.reduceNeg, Int.reduceAdd, Int.reduceSub, Int.reduceMul, Int.reduceToNat, beq_self_eq_true, c20, c20S0, c20S1, c20S2, c20S3]
  have sz2 : w2.heap.size = w.heap.size + 3 := by rw [hw2]; simp
  have low : Below w.heap.size w w2 := by
    rw [hw2]
    exact (((Below.refl _ _).alloc (Nat.le_refl _) _).alloc (by simp) _).alloc (by simp; omega) _
  rw [show ((w.alloc (Obj.cells #[Value.int IntKind.i64 m] 3)).alloc (Obj.cells #[Value.slice none 0 0] 34)).heap.size = w.heap.size + 2 by simp,
    show (w.alloc (Obj.cells #[Value.int IntKind.i64 m] 3)).heap.size = w.heap.size + 1 by simp]
  let J : List Int → World → Prop := fun done w' => ∃ v, w'.cell? ⟨w.heap.size + 1, 0, none⟩ = some v ∧ w'.frozen? ⟨w.heap.size + 1, 0, none⟩ = false ∧
    w'.ownsRow (w.heap.size + 3) 3 1 v done.length (intsV done) ∧ w'.cell? ⟨w.heap.size, 0, none⟩ = some (.int .i64 m) ∧ w'.cell? ⟨w.heap.size + 2, 0, none⟩ = some (.string (ofL l)) ∧
    (done.length : Int) < m ∧ Below w.heap.size w w' ∧ w.heap.size + 3 ≤ w'.heap.size
  let R : World → Prop := fun w' => ∃ v, w'.cell? ⟨w.heap.size + 1, 0, none⟩ = some v ∧
    w'.ownsRow (w.heap.size + 3) 3 1 v ((allL l).take m.toNat).length (intsV ((allL l).take m.toNat)) ∧ Below w.heap.size w w'
  have hlen : (allL l).length ≤ 8000 := by
    rw [allL_length]
    have := countL_le l
    omega
  refine ⟨go25, Ret.mono (Eachd_ok l _ ⟨w.heap.size + 2, 0, none⟩ J R w2 hl ?_ ?_ ?_) ?_⟩
  · rintro done w' ⟨v, _, _, _, _, h5, _⟩; exact h5
  · rintro done x rest w' hall ⟨v, h1, h2, h3, h4, h5, h6, h7, h8⟩
    have hd : done.length < (allL l).length := by rw [hall]; simp
    refine ⟨go24, Ret.mono (eachd_ok x m v done (w.heap.size + 3) _ _ w' h1 h2 h4 h3 (by simp) (by simp) (by simp) (by omega) h8) ?_⟩
    rintro _ w3 ⟨rfl, v', g1, g2, g3, g4⟩
    have hbel : Below w.heap.size w w3 := h7.trans (g4.below (by omega) (fun k hk => by simp only; omega))
    refine ⟨_, rfl, fun hb => ?_, fun hb => ?_⟩
    · have hb := of_decide_eq_true hb
      refine ⟨v', g1, g2, g3, g4.cell h4 (by simp only; omega), g4.cell h5 (by simp only; omega), by rw [List.length_append]; simp only [List.length_singleton]; omega, hbel, Nat.le_trans h8 g4.size⟩
    · have hb := of_decide_eq_false hb
      have e : (allL l).take m.toNat = done ++ [x] := by
        rw [hall, show m.toNat = (done ++ [x]).length by rw [List.length_append]; simp only [List.length_singleton]; omega, show done ++ x :: rest = (done ++ [x]) ++ rest by simp, List.take_left']
        rfl
      refine ⟨v', g1, ?_, hbel⟩
      rw [e]; exact g3
  · refine ⟨.slice none 0 0, ?_, ?_, World.ownsRow_nil _ _ _ _, ?_, ?_, by simpa using h, low, by omega⟩
    · rw [hw2, World.cell?_alloc_past (hn := by simp), World.cell?_alloc_at (hn := by simp)]; rfl
    · rw [hw2, World.frozen?_alloc_past (hn := by simp), World.frozen?_alloc_at (hn := by simp)]
    · rw [hw2, World.cell?_alloc_past (hn := by simp; omega), World.cell?_alloc_past (hn := by simp), World.cell?_alloc_at (hn := rfl)]; rfl
    · rw [hw2, World.cell?_alloc_at (hn := by simp)]; rfl
  · rintro _ w3 hJR
    have hR : R w3 := by
      rcases hJR with ⟨v, h1, h2, h3, h4, h5, h6, h7, h8⟩ | hR
      · refine ⟨v, h1, ?_, h7⟩
        rw [List.take_of_length_le (by omega)]; exact h3
      · exact hR
    obtain ⟨v, h1, h3, h7⟩ := hR
    simp only [go_sem, ↓reduceIte, reduceCtorEq, Nat.reduceBEq, Nat.reduceEqDiff, Nat.reduceAdd, Nat.reduceMul, Int.reduceNe, Int.reduceEq, Int.reduceLT, Int.reduceLE, Int.reduceNeg, Int.reduceAdd, Int.reduceSub, Int.reduceMul, Int.reduceToNat, beq_self_eq_true, c20, c20S0, c20S1, c20S2, c20S3]
    obtain ⟨hl3, a, cap, rfl, hcap, hrd⟩ := Rd.of_own h3
    exact ⟨a, _, cap, h1, _, Rd.of_own h3, rfl, h7⟩
theorem beach_ok (l : List UInt8) (m : Int) (w : World) (hm : I64 m) :
    Ret Try.prog 7 [.string (ofL l), .int .i64 m] w fun v w' => v = .bool true ∧ Below w.heap.size w w' := by
  refine ent7 _ _ _ _ ?_
  simp only [go_sem, ↓reduceIte, reduceCtorEq, Nat.reduceBEq, Nat.reduceEqDiff, Nat.reduceAdd, Nat.reduceMul, Int.reduceNe, Int.reduceEq, Int.reduceLT, Int.reduceLE, Int.reduceNeg, Int.reduceAdd, Int.reduceSub, Int.reduceMul, Int.reduceToNat, beq_self_eq_true, c7, c7S0, c7S1, c7S2, c7S3, c7S4, c7S5, c7S6, c7S7]
  refine ⟨fun h => ?_, fun h => ?_⟩
  · refine Ret.mono (awake_ok w) ?_
    rintro _ w2 ⟨rfl, h2⟩
    simp only [go_sem, ↓reduceIte, reduceCtorEq, Nat.reduceBEq, Nat.reduceEqDiff, Nat.reduceAdd, Nat.reduceMul, Int.reduceNe, Int.reduceEq, Int.reduceLT, Int.reduceLE, Int.reduceNeg, Int.reduceAdd, Int.reduceSub, Int.reduceMul, Int.reduceToNat, beq_self_eq_true, c7, c7S0, c7S1, c7S2, c7S3, c7S4, c7S5, c7S6, c7S7]
    exact h2
  refine Ret.mono (all_ok l w (by omega)) ?_
  rintro v w2 ⟨hv, h2⟩
  simp only [go_sem, ↓reduceIte, reduceCtorEq, Nat.reduceBEq, Nat.reduceEqDiff, Nat.reduceAdd, Nat.reduceMul, Int.reduceNe, Int.reduceEq, Int.reduceLT, Int.reduceLE, Int.reduceNeg, Int.reduceAdd, Int.reduceSub, Int.reduceMul, Int.reduceToNat, beq_self_eq_true, c7, c7S0, c7S1, c7S2, c7S3, c7S4, c7S5, c7S6, c7S7]
  refine Ret.mono (count_ok l w2 (by omega)) ?_
  rintro _ w3 ⟨rfl, rfl⟩
  have hrd := Rd.of_own hv
  obtain ⟨_, a, cap, rfl, hcap, _⟩ := id hrd
  have hlen : (allL l).length ≤ 8000 := by
    rw [allL_length]
    have := countL_le l
    omega
  simp only [go_sem, ↓reduceIte, reduceCtorEq, Nat.reduceBEq, Nat.reduceEqDiff, Nat.reduceAdd, Nat.reduceMul, Int.reduceNe, Int.reduceEq, Int.reduceLT, Int.reduceLE, Int.reduceNeg, Int.reduceAdd, Int.reduceSub, Int.reduceMul, Int.reduceToNat, beq_self_eq_true, c7, c7S0, c7S1, c7S2, c7S3, c7S4, c7S5, c7S6, c7S7]
  rw [allL_length]
  refine ⟨fun _ => ?_, fun h => absurd rfl h⟩
  refine Ret.mono (each_ok l 10000 w3 (by omega)) ?_
  rintro v4 w4 ⟨n4, hr4, hn4, h4⟩
  simp only [go_sem, ↓reduceIte, reduceCtorEq, Nat.reduceBEq, Nat.reduceEqDiff, Nat.reduceAdd, Nat.reduceMul, Int.reduceNe, Int.reduceEq, Int.reduceLT, Int.reduceLE, Int.reduceNeg, Int.reduceAdd, Int.reduceSub, Int.reduceMul, Int.reduceToNat, beq_self_eq_true, c7, c7S0, c7S1, c7S2, c7S3, c7S4, c7S5, c7S6, c7S7]
  rw [List.take_of_length_le (by omega)] at hr4 hn4
  have hrd4 := hrd.below h4 (by decide)
  rw [allL_length] at hrd4 hn4 hlen
  refine Ret.mono (ints_ok _ _ _ _ (allL l) (allL l) w4 hr4 hrd4 (by omega)) ?_
  rintro _ w5 ⟨rfl, h5⟩
  rw [decide_eq_true rfl]
  simp only [go_sem, ↓reduceIte, reduceCtorEq, Nat.reduceBEq, Nat.reduceEqDiff, Nat.reduceAdd, Nat.reduceMul, Int.reduceNe, Int.reduceEq, Int.reduceLT, Int.reduceLE, Int.reduceNeg, Int.reduceAdd, Int.reduceSub, Int.reduceMul, Int.reduceToNat, beq_self_eq_true, c7, c7S0, c7S1, c7S2, c7S3, c7S4, c7S5, c7S6, c7S7]
  have b5 : Below w.heap.size w w5 := (bnext h2 h4).trans (h5 _)
  have fin : ∀ w6, Below w.heap.size w w6 → ∀ K : Value → World → Prop, (∀ w7, Below w.heap.size w w7 → K (.bool true) w7) → Ret Try.prog 12 [] w6 K := by
    intro w6 h6 K hK
    refine Ret.mono (awake_ok w6) ?_
    rintro _ w7 ⟨rfl, h7⟩
    exact hK _ (bnext h6 h7)
  refine ⟨fun h0 => ⟨fun h1 => ?_, fun h1 => fin _ b5 _ fun w7 h7 => ?_⟩, fun h0 => fin _ b5 _ fun w7 h7 => ?_⟩
  · refine c7draw0 ?_
    simp only [go_sem, ↓reduceIte, reduceCtorEq, Nat.reduceBEq, Nat.reduceEqDiff, Nat.reduceAdd, Nat.reduceMul, Int.reduceNe, Int.reduceEq, Int.reduceLT, Int.reduceLE, Int.reduceNeg, Int.reduceAdd, Int.reduceSub, Int.reduceMul, Int.reduceToNat, beq_self_eq_true, c7, c7S0, c7S1, c7S2, c7S3, c7S4, c7S5, c7S6, c7S7, c7D0]
    rw [allL_length] at hcap
    refine ⟨⟨h0, by omega⟩, ?_⟩
    refine Ret.mono (each_ok l m w5.drew (by omega)) ?_
    rintro v6 w6 ⟨n6, hr6, hn6, h6⟩
    simp only [go_sem, ↓reduceIte, reduceCtorEq, Nat.reduceBEq, Nat.reduceEqDiff, Nat.reduceAdd, Nat.reduceMul, Int.reduceNe, Int.reduceEq, Int.reduceLT, Int.reduceLE, Int.reduceNeg, Int.reduceAdd, Int.reduceSub, Int.reduceMul, Int.reduceToNat, beq_self_eq_true, c7, c7S0, c7S1, c7S2, c7S3, c7S4, c7S5, c7S6, c7S7, c7D0]
    have b56 : Below w5.heap.size w5 w6 := (Below.refl _ _).drew.trans h6
    have hr7 := ((h5.rd hrd4).below b56 (by decide)).take (k := m.toNat) (by omega)
    have e0 : offA a cap 0 1 = a := by
      unfold offA
      cases a <;> simp [Addr.add]
    rw [e0]
    refine Ret.mono (ints_ok _ _ _ _ ((allL l).take m.toNat) ((allL l).take m.toNat) w6 hr6 (by rw [Nat.mul_one] at hr7; unfold intsV at hr7 ⊢; rw [List.map_take]; exact hr7) (by rw [hn6, List.length_take]; omega)) ?_
    rintro _ w7 ⟨rfl, h7⟩
    rw [decide_eq_true rfl]
    simp only [go_sem, ↓reduceIte, reduceCtorEq, Nat.reduceBEq, Nat.reduceEqDiff, Nat.reduceAdd, Nat.reduceMul, Int.reduceNe, Int.reduceEq, Int.reduceLT, Int.reduceLE, Int.reduceNeg, Int.reduceAdd, Int.reduceSub, Int.reduceMul, Int.reduceToNat, beq_self_eq_true, c7, c7S0, c7S1, c7S2, c7S3, c7S4, c7S5, c7S6, c7S7, c7D0]
    refine fin w7 ((bnext b5 b56).trans (h7 _)) _ fun w8 h8 => ?_
    simp only [go_sem, ↓reduceIte, reduceCtorEq, Nat.reduceBEq, Nat.reduceEqDiff, Nat.reduceAdd, Nat.reduceMul, Int.reduceNe, Int.reduceEq, Int.reduceLT, Int.reduceLE, Int.reduceNeg, Int.reduceAdd, Int.reduceSub, Int.reduceMul, Int.reduceToNat, beq_self_eq_true, c7, c7S0, c7S1, c7S2, c7S3, c7S4, c7S5, c7S6, c7S7, c7D0]
    exact h8
  · simp only [go_sem, ↓reduceIte, reduceCtorEq, Nat.reduceBEq, Nat.reduceEqDiff, Nat.reduceAdd, Nat.reduceMul, Int.reduceNe, Int.reduceEq, Int.reduceLT, Int.reduceLE, Int.reduceNeg, Int.reduceAdd, Int.reduceSub, Int.reduceMul, Int.reduceToNat, beq_self_eq_true, c7, c7S0, c7S1, c7S2, c7S3, c7S4, c7S5, c7S6, c7S7]
    exact h7
  · simp only [go_sem, ↓reduceIte, reduceCtorEq, Nat.reduceBEq, Nat.reduceEqDiff, Nat.reduceAdd, Nat.reduceMul, Int.reduceNe, Int.reduceEq, Int.reduceLT, Int.reduceLE, Int.reduceNeg, Int.reduceAdd, Int.reduceSub, Int.reduceMul, Int.reduceToNat, beq_self_eq_true, c7, c7S0, c7S1, c7S2, c7S3, c7S4, c7S5, c7S6, c7S7]
    exact h7
end Go.Proofs.Ytnhgafpoonnamaa
