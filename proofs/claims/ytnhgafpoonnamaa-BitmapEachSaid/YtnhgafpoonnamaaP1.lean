/- Contracts over the bitmap's functions: has a bit, of a byte and of a text. -/
import Derived.Test.YtnhgafpoonnamaaCode
namespace Go.Proofs.Ytnhgafpoonnamaa
set_option linter.unusedSimpArgs false
set_option linter.unusedVariables false
open Go Go.Ann Go.RowKit

/-- A bit of a number. -/
def bitOf (c : Int) (k : Nat) : Bool := decide (c / 2 ^ k % 2 = 1)
/-- Whether a number is in a set. -/
def hasL (l : List UInt8) (i : Int) : Bool := decide (0 ≤ i) && decide (i < 8 * l.length) && bitOf (bN l (i / 8)) (i % 8).toNat

theorem and_one_u8 (x : Int) (h0 : 0 ≤ x) (h1 : x ≤ 255) : bits BinOp.and IntKind.u8 x 1 = x % 2 := by
  obtain ⟨n, rfl⟩ := Int.eq_ofNat_of_zero_le h0
  have : ∀ m : Fin 256, bits BinOp.and IntKind.u8 ((m.val : Nat) : Int) 1 = (m.val : Int) % 2 := by decide +kernel
  exact this ⟨n, by omega⟩
theorem div_pow_succ (c : Int) (k : Nat) : c / 2 ^ k / 2 = c / 2 ^ (k + 1) := by
  rw [Int.pow_succ, Int.ediv_ediv_of_nonneg (Int.pow_nonneg (by decide))]
theorem div_pow_bd (c : Int) (k : Nat) (hc0 : 0 ≤ c) (hc : c ≤ 255) : 0 ≤ c / 2 ^ k ∧ c / 2 ^ k ≤ 255 := by
  have h1 : (0:Int) < 2 ^ k := Int.pow_pos (by decide)
  refine ⟨Int.ediv_nonneg hc0 (Int.le_of_lt h1), ?_⟩
  exact Int.le_trans (Int.ediv_le_self _ hc0) hc

theorem has_ok (l : List UInt8) (i : Int) (w : World) (hi : I64 i) :
    Ret Try.prog 10 [.string (ofL l), .int .i64 i] w fun v w' => v = .bool (hasL l i) ∧ w' = w := by
  refine ent10 _ _ _ _ ?_
  simp only [go_sem, ↓reduceIte, reduceCtorEq, Nat.reduceBEq, Nat.reduceEqDiff, Nat.reduceAdd, Nat.reduceMul, Int.reduceNe, Int.reduceEq, Int.reduceLT, Int.reduceLE, Int.reduceNeg, Int.reduceAdd, Int.reduceSub, Int.reduceMul, Int.reduceToNat, beq_self_eq_true, c10]
  refine ⟨fun h0 => ?_, fun h0 => ?_⟩
  · rw [Int.tdiv_eq_ediv_of_nonneg h0, Int.tmod_eq_emod_of_nonneg h0]
    refine ⟨hi, fun h1 => ⟨hi, ⟨by omega, h1⟩, ?_⟩, fun h1 => ?_⟩
    · have b := bN_bd l (i / 8)
      rw [wrap_u64_id _ (by omega) (by omega), show min (i % 8).toNat 8 = (i % 8).toNat by omega]
      have b' := div_pow_bd _ (i % 8).toNat b.1 b.2
      rw [and_one_u8 _ b'.1 b'.2]
      have e1 : decide (0 ≤ i) = true := by simpa using h0
      have e2 : decide (i < 8 * (l.length : Int)) = true := by simp; omega
      simp [hasL, e1, e2, bitOf]
    · have e2 : decide (i < 8 * (l.length : Int)) = false := by simp; omega
      simp [hasL, e2]
  · have e2 : decide (0 ≤ i) = false := by simp; omega
    simp [hasL, e2]

theorem bit_ok (c i : Int) (w : World) (hc0 : 0 ≤ c) (hc : c ≤ 255) (hi0 : 0 ≤ i) (hi : i ≤ 8) :
    Ret Try.prog 21 [.int .u8 c, .int .i64 i] w fun v w' => v = .bool (bitOf c i.toNat) ∧ w' = w := by
  refine ent21 _ _ _ _ ?_
  simp only [go_sem, ↓reduceIte, reduceCtorEq, Nat.reduceBEq, Nat.reduceEqDiff, Nat.reduceAdd, Nat.reduceMul, Int.reduceNe, Int.reduceEq, Int.reduceLT, Int.reduceLE, Int.reduceNeg, Int.reduceAdd, Int.reduceSub, Int.reduceMul, Int.reduceToNat, beq_self_eq_true, c21, c21S0, c21S1]
  refine W_loop (fun k : Nat => [(0, .int .u8 (c / 2 ^ k)), (1, .int .i64 i), (5, .int .i64 (k : Int))]) (fun k w' => (k : Int) ≤ i ∧ w' = w) (fun k => i.toNat - k) 0 (by simp) ⟨by omega, rfl⟩ ?_
  rintro k w' ⟨hk, rfl⟩
  obtain ⟨b0, b1⟩ := div_pow_bd c k hc0 hc
  simp only [go_sem, ↓reduceIte, reduceCtorEq, Nat.reduceBEq, Nat.reduceEqDiff, Nat.reduceAdd, Nat.reduceMul, Int.reduceNe, Int.reduceEq, Int.reduceLT, Int.reduceLE, Int.reduceNeg, Int.reduceAdd, Int.reduceSub, Int.reduceMul, Int.reduceToNat, beq_self_eq_true, c21, c21S0, c21S1, c21L0]
  refine ⟨fun h => ⟨⟨by omega, by omega⟩, k + 1, ?_, by omega, by omega⟩, fun h => ?_⟩
  · rw [Int.tdiv_eq_ediv_of_nonneg b0, wrap_u8_id _ (by omega) (by omega), div_pow_succ]; simp
  · rw [Int.tmod_eq_emod_of_nonneg b0, show i.toNat = k by omega]; simp [bitOf]

theorem rhas_ok (l : List UInt8) (i : Int) (w : World) (hi : I64 i) :
    Ret Try.prog 11 [.string (ofL l), .int .i64 i] w fun v w' => v = .bool (hasL l i) ∧ w' = w := by
  refine ent11 _ _ _ _ ?_
  simp only [go_sem, ↓reduceIte, reduceCtorEq, Nat.reduceBEq, Nat.reduceEqDiff, Nat.reduceAdd, Nat.reduceMul, Int.reduceNe, Int.reduceEq, Int.reduceLT, Int.reduceLE, Int.reduceNeg, Int.reduceAdd, Int.reduceSub, Int.reduceMul, Int.reduceToNat, beq_self_eq_true, c11, c11S0, c11S1]
  refine ⟨fun h0 => ?_, fun h0 => ?_⟩
  · rw [Int.tdiv_eq_ediv_of_nonneg h0, Int.tmod_eq_emod_of_nonneg h0]
    have e1 : decide (0 ≤ i) = true := by simpa using h0
    refine ⟨hi, fun h1 => ?_, fun h1 => ⟨hi, ⟨by omega, h1⟩, ?_⟩⟩
    · have e2 : decide (i < 8 * (l.length : Int)) = false := by simp; omega
      simp [hasL, e2]
    · have b := bN_bd l (i / 8)
      refine (bit_ok _ _ _ b.1 b.2 (by omega) (by omega)).mono ?_
      rintro _ _ ⟨rfl, rfl⟩
      have e2 : decide (i < 8 * (l.length : Int)) = true := by simp; omega
      simp only [go_sem, ↓reduceIte, reduceCtorEq, Nat.reduceBEq, Nat.reduceEqDiff, Nat.reduceAdd, Nat.reduceMul, Int.reduceNe, Int.reduceEq, Int.reduceLT, Int.reduceLE, Int.reduceNeg, Int.reduceAdd, Int.reduceSub, Int.reduceMul, Int.reduceToNat, beq_self_eq_true, c11, c11S0, c11S1]
      simp [hasL, e1, e2]
  · have e2 : decide (0 ≤ i) = false := by simp; omega
    simp [hasL, e2]

/-- A byte with a bit, or without it. -/
def setBit (c : Int) (k : Nat) (b : Bool) : Int := if b then (if bitOf c k then c else c + 2 ^ k) else (if bitOf c k then c - 2 ^ k else c)
theorem setBit_or (c : Int) (k : Nat) (h0 : 0 ≤ c) (h1 : c ≤ 255) (hk : k < 8) : bits .or .u8 c (IntKind.u8.wrap (1 * 2 ^ k)) = setBit c k true := by
  obtain ⟨n, rfl⟩ := Int.eq_ofNat_of_zero_le h0
  have : ∀ (m : Fin 256) (k : Fin 8), bits .or .u8 ((m.val : Nat) : Int) (IntKind.u8.wrap (1 * 2 ^ k.val)) = setBit (m.val : Int) k.val true := by decide +kernel
  exact this ⟨n, by omega⟩ ⟨k, hk⟩
theorem setBit_andNot (c : Int) (k : Nat) (h0 : 0 ≤ c) (h1 : c ≤ 255) (hk : k < 8) : bits .andNot .u8 c (IntKind.u8.wrap (1 * 2 ^ k)) = setBit c k false := by
  obtain ⟨n, rfl⟩ := Int.eq_ofNat_of_zero_le h0
  have : ∀ (m : Fin 256) (k : Fin 8), bits .andNot .u8 ((m.val : Nat) : Int) (IntKind.u8.wrap (1 * 2 ^ k.val)) = setBit (m.val : Int) k.val false := by decide +kernel
  exact this ⟨n, by omega⟩ ⟨k, hk⟩
theorem setBit_bd (c : Int) (k : Nat) (b : Bool) (h0 : 0 ≤ c) (h1 : c ≤ 255) (hk : k < 8) : 0 ≤ setBit c k b ∧ setBit c k b ≤ 255 := by
  obtain ⟨n, rfl⟩ := Int.eq_ofNat_of_zero_le h0
  have : ∀ (m : Fin 256) (k : Fin 8) (b : Bool), 0 ≤ setBit (m.val : Int) k.val b ∧ setBit (m.val : Int) k.val b ≤ 255 := by decide +kernel
  exact this ⟨n, by omega⟩ ⟨k, hk⟩ b
/-- A set with a number, or without it; whether there is room. -/
def withL (l : List UInt8) (i : Int) (b : Bool) : List UInt8 :=
  if 0 ≤ i ∧ i < 8 * l.length then l.set (i / 8).toNat (UInt8.ofNat (setBit (bN l (i / 8)) (i % 8).toNat b).toNat) else l
def fitsL (l : List UInt8) (i : Int) : Bool := decide (0 ≤ i ∧ i < 8 * l.length)

theorem with_ok (l : List UInt8) (i : Int) (b : Bool) (w : World) (hi : I64 i) :
    Ret Try.prog 8 [.string (ofL l), .int .i64 i, .bool b] w fun v w' => v = .tuple #[.string (ofL (withL l i b)), .bool (fitsL l i)] ∧ Below w.heap.size w w' := by
  refine ent8 _ _ _ _ _ ?_
  simp only [go_sem, ↓reduceIte, reduceCtorEq, Nat.reduceBEq, Nat.reduceEqDiff, Nat.reduceAdd, Nat.reduceMul, Int.reduceNe, Int.reduceEq, Int.reduceLT, Int.reduceLE, Int.reduceNeg, Int.reduceAdd, Int.reduceSub, Int.reduceMul, Int.reduceToNat, beq_self_eq_true, c8, c8S0, c8S1]
  refine ⟨fun h0 => ?_, fun h0 => ?_⟩
  · rw [Int.tdiv_eq_ediv_of_nonneg h0, Int.tmod_eq_emod_of_nonneg h0]
    refine ⟨hi, fun h1 => ?_, fun h1 c hc => ?_⟩
    · have h2 : ¬ (0 ≤ i ∧ i < 8 * (l.length : Int)) := by omega
      rw [withL, fitsL, if_neg h2, decide_eq_false h2]
      exact ⟨rfl, Below.refl _ _⟩
    · have h2 : (0 ≤ i ∧ i < 8 * (l.length : Int)) := by omega
      have h3 : 0 ≤ i / 8 := by omega
      have hlt : (i / 8).toNat < l.length := by omega
      have hg := List.getElem?_eq_getElem hlt
      have hcell := cell_bytesW w l c 5 _ _ hg
      have hfr := frozen_bytesW w l c 5 (i / 8).toNat (by omega)
      have hbn : bN l (i / 8) = (l[(i / 8).toNat].toNat : Int) := by
        rw [← bN_get l _ _ hg, Int.toNat_of_nonneg h3]
      have bd := bN_bd l (i / 8)
      have e5 : min (i % 8).toNat 8 = (i % 8).toNat := by omega
      rw [Nat.mul_one, hcell, hfr, wrap_u64_id _ (show 0 ≤ i % 8 by omega) (by omega), e5, ← hbn]
      have hat := bytesAt_bytesW w l c 5
      have key : ∀ bb, bytesAt ((bytesW w l c 5).setCell ⟨w.heap.size, (i / 8).toNat, none⟩ (.int .u8 (setBit (bN l (i / 8)) (i % 8).toNat bb))) (some ⟨w.heap.size, 0, none⟩) (withL l i bb) := by
        intro bb
        have bd2 := setBit_bd (bN l (i / 8)) (i % 8).toNat bb bd.1 bd.2 (by omega)
        have := bytesAt_set hat bd2.1 bd2.2 hlt
        rw [Nat.zero_add] at this
        rw [withL, if_pos h2]
        exact this
      have hlen : ∀ bb, (withL l i bb).length = l.length := fun bb => by rw [withL, if_pos h2, List.length_set]
      refine ⟨fun hb => ?_, fun hb => ?_⟩ <;> subst hb
      · refine ⟨hi, ⟨h3, h1⟩, _, rfl, ⟨h3, h1⟩, ⟨_, rfl⟩, rfl, withL l i true, hlen true, ?_, ?_, (below_bytesW _ _ _ _).setCell (Nat.le_refl _) _⟩
        · rw [setBit_or _ _ bd.1 bd.2 (by omega)]; exact key true
        · rw [fitsL, decide_eq_true h2]
      · refine ⟨hi, ⟨h3, h1⟩, _, rfl, ⟨h3, h1⟩, ⟨_, rfl⟩, rfl, withL l i false, hlen false, ?_, ?_, (below_bytesW _ _ _ _).setCell (Nat.le_refl _) _⟩
        · rw [setBit_andNot _ _ bd.1 bd.2 (by omega)]; exact key false
        · rw [fitsL, decide_eq_true h2]
  · have h2 : ¬ (0 ≤ i ∧ i < 8 * (l.length : Int)) := by omega
    rw [withL, fitsL, if_neg h2, decide_eq_false h2]
    exact ⟨rfl, Below.refl _ _⟩
end Go.Proofs.Ytnhgafpoonnamaa
