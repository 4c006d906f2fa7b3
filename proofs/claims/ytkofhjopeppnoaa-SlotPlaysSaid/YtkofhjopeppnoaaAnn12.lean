/- An engine for walks. Part 12: small facts on memory and numbers. -/
import Derived.Test.YtkofhjopeppnoaaAnn11
namespace Go.Ann
set_option linter.unusedVariables false
set_option linter.unusedSimpArgs false
open Go Go.RowKit

theorem wrap_u64_id (n : Int) (h0 : 0 ≤ n) (h1 : n ≤ 18446744073709551615) : IntKind.u64.wrap n = n := by
  simp [IntKind.wrap, IntKind.bits, IntKind.signed]; omega
theorem wrap_u32_id (n : Int) (h0 : 0 ≤ n) (h1 : n ≤ 4294967295) : IntKind.u32.wrap n = n := by
  simp [IntKind.wrap, IntKind.bits, IntKind.signed]; omega
theorem wrap_u8_id (n : Int) (h0 : 0 ≤ n) (h1 : n ≤ 255) : IntKind.u8.wrap n = n := by
  simp [IntKind.wrap, IntKind.bits, IntKind.signed]; omega
theorem wrap_u8_mod (n : Int) : IntKind.u8.wrap n = n % 256 := by
  simp [IntKind.wrap, IntKind.bits, IntKind.signed]
theorem wrap_u32_mod (n : Int) : IntKind.u32.wrap n = n % 4294967296 := by
  simp [IntKind.wrap, IntKind.bits, IntKind.signed]
theorem wrap_u64_mod (n : Int) : IntKind.u64.wrap n = n % 18446744073709551616 := by
  simp [IntKind.wrap, IntKind.bits, IntKind.signed]

theorem below_bytesW (w : World) (l : List UInt8) (c : Nat) (e : TypeId) : Below w.heap.size w (bytesW w l c e) := ((Below.refl _ _).alloc (Nat.le_refl _) _).drew
@[simp] theorem size_bytesW (w : World) (l : List UInt8) (c : Nat) (e : TypeId) : (bytesW w l c e).heap.size = w.heap.size + 1 := by simp [bytesW]
theorem heap_bytesW (w : World) (l : List UInt8) (c : Nat) (e : TypeId) : (bytesW w l c e).heap[w.heap.size]? = some (.cells (byteRow l c) e (c, c + 1)) := by
  show ((w.heap.push _))[w.heap.size]? = _
  simp
theorem cell_bytesW (w : World) (l : List UInt8) (c : Nat) (e : TypeId) (i : Nat) (b : UInt8) (h : l[i]? = some b) : (bytesW w l c e).cell? ⟨w.heap.size, i, none⟩ = some (.int .u8 b.toNat) := by
  have hlt := (List.getElem?_eq_some_iff.1 h).1
  simp only [World.cell?, heap_bytesW, Option.isSome, Bool.false_eq_true, if_false]
  unfold byteRow
  rw [Array.getElem?_append_left (by simpa using hlt)]
  simp [h]
theorem frozen_bytesW (w : World) (l : List UInt8) (c : Nat) (e : TypeId) (i : Nat) (h : i < c) : (bytesW w l c e).frozen? ⟨w.heap.size, i, none⟩ = false := by
  simp only [World.frozen?, heap_bytesW]
  simp; omega

theorem bN_get (l : List UInt8) (i : Nat) (b : UInt8) (h : l[i]? = some b) : bN l (i : Int) = (b.toNat : Int) := by
  unfold bN; rw [Int.toNat_natCast, List.getD_eq_getElem?_getD, h]; rfl

theorem bytesAt_set {w : World} {b o : Nat} {l : List UInt8} {j : Nat} {n : Int} (h : bytesAt w (some ⟨b, o, none⟩) l) (h0 : 0 ≤ n) (h1 : n ≤ 255) (hj : j < l.length) :
    bytesAt (w.setCell ⟨b, o + j, none⟩ (.int .u8 n)) (some ⟨b, o, none⟩) (l.set j (UInt8.ofNat n.toNat)) := by
  intro i c hc
  simp only [Addr.add_lit]
  by_cases hij : j = i
  · subst hij
    rw [List.getElem?_set_self hj] at hc
    simp only [Option.some.injEq] at hc; subst hc
    have := h j _ (List.getElem?_eq_getElem hj)
    simp only [Addr.add_lit] at this
    rw [World.cell?_setCell_same _ _ _ this]
    congr 2
    simp; omega
  · rw [List.getElem?_set_ne hij] at hc
    have := h i c hc
    simp only [Addr.add_lit] at this
    rw [World.cell?_setCell_other _ _ _ _ (by intro e; simp only [Addr.mk.injEq] at e; omega)]
    exact this
theorem bytesAt_bytesW (w : World) (l : List UInt8) (c : Nat) (e : TypeId) : bytesAt (bytesW w l c e) (some ⟨w.heap.size, 0, none⟩) l := by
  intro i b h
  simp only [Addr.add_lit, Nat.zero_add]
  exact cell_bytesW w l c e i b h
theorem length_ofL (l : List UInt8) : (toL (ofL l)).length = l.length := rfl

theorem bits_u8 (op : BinOp) (f : Nat → Nat → Nat) (h : ∀ m n : Fin 256, bits op IntKind.u8 ((m.val : Nat) : Int) ((n.val : Nat) : Int) = (f m.val n.val : Int)) (x y : Nat) (hx : x < 256) (hy : y < 256) : bits op IntKind.u8 (x : Int) (y : Int) = (f x y : Int) :=
  h ⟨x, hx⟩ ⟨y, hy⟩
end Go.Ann
