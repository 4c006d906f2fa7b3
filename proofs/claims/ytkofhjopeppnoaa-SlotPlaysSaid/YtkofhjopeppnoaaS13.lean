/- What was put can be deleted: plain. -/
import Derived.Test.YtkofhjopeppnoaaS12
namespace Go.Proofs.Ytkofhjopeppnoaa
set_option linter.unusedSimpArgs false
set_option linter.unusedVariables false
set_option maxRecDepth 100000
open Go Go.Ann Go.RowKit
theorem trimN_id {L : List (List UInt8)} (h : Trim L) : trimN L L.length = L.length := by
  cases hL : L.length with
  | zero => rfl
  | succ n =>
    rw [trimN]
    have hn : n < L.length := by omega
    have := h n hn hL.symm
    rw [List.getElem?_eq_getElem hn]
    split
    · rename_i e; exact absurd (Option.some.inj e) this
    · rfl
theorem trimP_id {L : List (List UInt8)} (h : Trim L) : trimP L = L := by unfold trimP; rw [trimN_id h, List.take_length]
theorem Pg.trim {s : List UInt8} {L : List (List UInt8)} (h : Pg s L) : Trim L := by
  intro i hi e hr
  have h1 := h.len hi
  rw [hr] at h1
  exact (h.free i hi (by simpa using h1.symm)).2 e
theorem Pg.one {s : List UInt8} {L M : List (List UInt8)} (h : Pg s L) (k : Pg s M) : L = M := by
  have hn : L.length = M.length := by have := h.n; have := k.n; omega
  refine List.ext_getElem hn fun i h1 h2 => ?_
  rw [h.recs i h1, k.recs i h2]
theorem Pg.fits {s : List UInt8} {L : List (List UInt8)} (h : Pg s L) : Fits s.length L := ⟨h.lo, h.hi, h.takes⟩
theorem trim_snoc {L : List (List UInt8)} {r : List UInt8} (hr : r ≠ []) : Trim (L ++ [r]) := by
  intro i hi e
  rw [List.length_append, List.length_singleton] at e
  obtain rfl : i = L.length := by omega
  simpa using hr
theorem trim_set {L : List (List UInt8)} {r : List UInt8} {k : Nat} (h : Trim L) (hr : r ≠ []) : Trim (L.set k r) := by
  intro i hi e
  rw [List.getElem_set]
  split
  · exact hr
  · rw [List.length_set] at hi e
    exact h i hi e
theorem vacant_le (L : List (List UInt8)) : vacantP L ≤ L.length := List.findIdx_le_length
/-- The records behind a record put. -/
theorem with_put {L : List (List UInt8)} {r : List UInt8} (h : Trim L) (hr : r ≠ []) : withP (vacantP L) r L = if vacantP L = L.length then L ++ [r] else L.set (vacantP L) r := by
  unfold withP
  split
  · exact trimP_id (trim_snoc hr)
  · exact trimP_id (trim_set h hr)
theorem put_lt {L : List (List UInt8)} {r : List UInt8} (h : Trim L) (hr : r ≠ []) : vacantP L < (withP (vacantP L) r L).length := by
  rw [with_put h hr]
  have := vacant_le L
  split
  · rename_i e; rw [e]; simp
  · rw [List.length_set]; omega
theorem put_at {L : List (List UInt8)} {r : List UInt8} (h : Trim L) (hr : r ≠ []) : (withP (vacantP L) r L)[vacantP L]? = some r := by
  rw [with_put h hr]
  have := vacant_le L
  split
  · rename_i e; rw [e]; simp
  · rw [List.getElem?_set_self (by omega)]
theorem put_other {L : List (List UInt8)} {r : List UInt8} (h : Trim L) (hr : r ≠ []) {k : Nat} (hk : k < L.length) (hne : k ≠ vacantP L) : (withP (vacantP L) r L)[k]? = L[k]? := by
  rw [with_put h hr]
  split
  · rw [List.getElem?_append_left hk]
  · rw [List.getElem?_set_ne (Ne.symm hne)]
theorem getP_at (L : List (List UInt8)) (k : Nat) : getP L k = match L[k]? with | some r => (r, decide (r ≠ [])) | none => ([], false) := by
  unfold getP
  rw [if_pos (by omega), Int.toNat_natCast]
  cases L[k]? <;> rfl
theorem put_get {L : List (List UInt8)} {r : List UInt8} (h : Trim L) (hr : r ≠ []) : getP (withP (vacantP L) r L) (vacantP L : Nat) = (r, true) := by
  rw [getP_at, put_at h hr]
  simp [hr]
theorem put_get_other {L : List (List UInt8)} {r : List UInt8} (h : Trim L) (hr : r ≠ []) {k : Nat} (hk : k < L.length) (hne : k ≠ vacantP L) : getP (withP (vacantP L) r L) k = getP L k := by
  rw [getP_at, getP_at, put_other h hr hk hne]
theorem trim_nils {L : List (List UInt8)} (h : Trim L) : trimP (L ++ [[]]) = L := by
  unfold trimP
  rw [List.length_append, List.length_singleton, trimN]
  rw [List.getElem?_append_right (Nat.le_refl _), Nat.sub_self]
  simp only [List.getElem?_cons_zero, if_true]
  have e : ∀ n, n ≤ L.length → trimN (L ++ [[]]) n = trimN L n := by
    intro n
    induction n with
    | zero => intro _; rfl
    | succ n ih =>
      intro hn
      rw [trimN, trimN, ih (by omega), List.getElem?_append_left (by omega)]
  rw [e _ (Nat.le_refl _), trimN_id h, List.take_append_of_le_length (Nat.le_refl _), List.take_length]
/-- Put and deleted: as before. -/
theorem put_del {L : List (List UInt8)} {r : List UInt8} (h : Trim L) (hr : r ≠ []) : trimP ((withP (vacantP L) r L).set (vacantP L) []) = L := by
  rw [with_put h hr]
  have hv := vacant_le L
  split
  · rename_i e
    rw [e, List.set_append_right _ _ (Nat.le_refl _), Nat.sub_self, List.set_cons_zero]
    exact trim_nils h
  · have hlt : vacantP L < L.length := by omega
    rw [List.set_set]
    have e2 : L.set (vacantP L) [] = L := by
      refine List.ext_getElem? fun j => ?_
      rw [List.getElem?_set]
      split
      · rename_i e; subst e
        exact (List.getElem?_eq_getElem hlt).symm ▸ congrArg some (vacant_nil hlt).symm
      · rfl
    rw [e2, trimP_id h]
end Go.Proofs.Ytkofhjopeppnoaa
