/- An engine for walks. Part 14: laws for operations that make or write memory. -/
import Derived.Test.YtkofhjopeppnoaaAnn13
namespace Go.Ann
set_option linter.unusedVariables false
set_option linter.unusedSimpArgs false
open Go Go.RowKit

/-- Of a slice's type: its elements' type, how many cells and bytes each has, its zero. -/
def mkI (P : Program) (t : TypeId) : Option (Nat × Nat × Nat × Value) :=
  match P.underlying t with
  | some (.slice e) => match P.info? e with
    | some i => match i.zero with
      | some z => some (e, i.size, i.bytes, z)
      | none => none
    | none => none
  | _ => none
theorem mkI_some {P : Program} {t e size bytes : Nat} {z : Value} (h : mkI P t = some (e, size, bytes, z)) :
    ∃ i, P.underlying t = some (.slice e) ∧ P.info? e = some i ∧ i.zero = some z ∧ size = i.size ∧ bytes = i.bytes := by
  unfold mkI at h
  split at h
  · rename_i e' hu
    split at h
    · rename_i i hi
      split at h
      · rename_i z' hz
        simp only [Option.some.injEq, Prod.mk.injEq] at h
        obtain ⟨rfl, rfl, rfl, rfl⟩ := h
        exact ⟨i, hu, hi, hz, rfl, rfl⟩
      · cases h
    · cases h
  · cases h

section
variable {P : Program} {w : World} {K : Value → World → Prop} {t : TypeId}

/-- The cells of n zeros. -/
def zerosA (z : Value) (n : Nat) : Array Value := Array.replicate n z
theorem madeCells_one {z : Value} (hz : z.oneCell' = true) (n : Nat) : madeCells z.cells n = zerosA z n := by
  have hc : z.cells = #[z] := by cases z <;> simp_all [Value.cells, Value.oneCell']
  rw [hc]
  unfold madeCells zerosA
  apply Array.ext
  · simp
  · intro j h1 h2
    simp [Nat.mod_one]

theorem msW_make {e size bytes : Nat} {z : Value} {k k' : IntKind} {n c : Int} (hm : mkI P t = some (e, size, bytes, z))
    (h0 : 0 ≤ n) (h1 : n ≤ c) (h2 : bytes * c ≤ 281474976710656) (h3 : c ≤ 9223372036854775807)
    (hK : K (.slice (some ⟨w.heap.size, 0, none⟩) n.toNat c.toNat) (w.alloc (.cells (madeCells z.cells (c.toNat * size)) e))) :
    msW P t (.int k n) (.int k' c) w K := by
  obtain ⟨i, hu, hi, hzz, rfl, rfl⟩ := mkI_some hm
  exact ⟨_, _, run_make w t e i z hu hi hzz k k' n c h0 h1 h2 h3, hK⟩

theorem msW_one {e bytes : Nat} {z : Value} {k k' : IntKind} {n c : Int} (hm : mkI P t = some (e, 1, bytes, z)) (hz : z.oneCell' = true)
    (h0 : 0 ≤ n) (h1 : n ≤ c) (h2 : bytes * c ≤ 281474976710656) (h3 : c ≤ 9223372036854775807)
    (hK : K (.slice (some ⟨w.heap.size, 0, none⟩) n.toNat c.toNat) (w.alloc (.cells (zerosA z c.toNat) e))) :
    msW P t (.int k n) (.int k' c) w K := by
  refine msW_make hm h0 h1 h2 h3 ?_
  rw [Nat.mul_one, madeCells_one hz]
  exact hK

theorem bsW_cells {e size bytes : Nat} {z : Value} {len : Nat} {is : List Nat} {vs : List Value} {cells : Array Value} (hm : mkI P t = some (e, size, bytes, z))
    (h0 : len * size ≤ 16777216) (h1 : len * size ≠ 0) (hf : Instr.fill (fun i => some (i * size, size)) (madeCells z.cells (len * size)) (zipP is vs) = some cells)
    (hK : K (.slice (some ⟨w.heap.size, 0, none⟩) len len) (w.alloc (.cells cells e))) :
    bsW P t len is vs w K := by
  obtain ⟨i, hu, hi, hzz, rfl, rfl⟩ := mkI_some hm
  refine ⟨_, _, ?_, hK⟩
  have e1 : ¬ (len * i.size > 2 ^ 24) := by omega
  unfold madeCells at hf
  simp only [Instr.buildSlice, Sem.run_bind, run_underlying hu, Result.andThen, run_sizeOf w hi, e1, if_false, h1, zeroValue, typeInfo, run_program, hi, hzz, Sem.run_pure, hf, newRow, run_newObj_alloc]

def setFrom : Array Value → Nat → List Value → Array Value
  | cs, _, [] => cs
  | cs, k, v :: vs => setFrom (cs.setIfInBounds k v) (k + 1) vs
theorem size_setFrom : ∀ (vs : List Value) (k : Nat) (cs : Array Value), (setFrom cs k vs).size = cs.size
  | [], _, _ => rfl
  | v :: vs, k, cs => by rw [setFrom, size_setFrom]; simp
theorem get_setFrom : ∀ (vs : List Value) (k : Nat) (cs : Array Value) (j : Nat), j < cs.size → (setFrom cs k vs)[j]? = if k ≤ j ∧ j < k + vs.length then vs[j - k]? else cs[j]?
  | [], k, cs, j, _ => by simp [setFrom]; intro h1 h2; omega
  | v :: vs, k, cs, j, hj => by
    rw [setFrom, get_setFrom vs (k + 1) _ j (by simpa using hj)]
    by_cases h1 : k + 1 ≤ j ∧ j < k + 1 + vs.length
    · rw [if_pos h1, if_pos ⟨by omega, by simp; omega⟩, show j - k = (j - (k + 1)) + 1 by omega]; simp
    · rw [if_neg h1, Array.getElem?_setIfInBounds]
      by_cases h2 : k = j
      · subst h2; simp [hj]
      · rw [if_neg h2, if_neg]
        simp only [List.length_cons]; omega
theorem fill_ones : ∀ (vs : List Value) (k : Nat) (cs : Array Value), (∀ v ∈ vs, v.oneCell' = true) → k + vs.length ≤ cs.size →
    Instr.fill (fun i => some (i * 1, 1)) cs (zipP (List.range' k vs.length) vs) = some (setFrom cs k vs)
  | [], k, cs, _, _ => rfl
  | v :: vs, k, cs, h1, h2 => by
    have hv := h1 v (by simp)
    have hc : v.cells = #[v] := by cases v <;> simp_all [Value.cells, Value.oneCell']
    simp only [List.length_cons] at h2
    simp only [List.length_cons, List.range'_succ, zipP, Instr.fill, hc, List.size_toArray, List.length_cons, List.length_nil]
    rw [if_neg (by simp; omega)]
    have := fill_ones vs (k + 1) (cs.setIfInBounds k v) (fun u hu => h1 u (by simp [hu])) (by simp; omega)
    simpa [setFrom] using this
theorem setFrom_all (vs : List Value) (cs : Array Value) (h : cs.size = vs.length) : setFrom cs 0 vs = vs.toArray := by
  apply Array.ext_getElem?
  intro j
  by_cases hj : j < cs.size
  · rw [get_setFrom vs 0 cs j hj, if_pos ⟨by omega, by omega⟩]; simp
  · rw [Array.getElem?_eq_none (by rw [size_setFrom]; omega), Array.getElem?_eq_none (by simp; omega)]

/-- A slice of values of one cell each, written out. -/
theorem bsW_ones {e bytes : Nat} {z : Value} {len : Nat} {is : List Nat} {vs : List Value} (hm : mkI P t = some (e, 1, bytes, z)) (hi : is = List.range' 0 vs.length) (hl : vs.length = len)
    (h0 : len ≤ 16777216) (h1 : len ≠ 0) (hv : ∀ v ∈ vs, v.oneCell' = true)
    (hK : K (.slice (some ⟨w.heap.size, 0, none⟩) len len) (w.alloc (.cells vs.toArray e))) : bsW P t len is vs w K := by
  subst hi
  refine bsW_cells hm (by omega) (by omega) ?_ hK
  have hsz : (madeCells z.cells (len * 1)).size = len := by simp [size_madeCells]
  rw [fill_ones vs 0 _ hv (by omega), setFrom_all _ _ (by omega)]
end
theorem zipP_nil : zipP [] [] = [] := rfl
theorem zipP_cons {i : Nat} {l : List Nat} {v : Value} {vs : List Value} : zipP (i :: l) (v :: vs) = (i, v) :: zipP l vs := rfl
attribute [go_sem] zipP_nil zipP_cons
end Go.Ann
