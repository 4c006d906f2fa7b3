/- A page that was laid can be read. -/
import Derived.Test.YtkofhjopeppnoaaS8
namespace Go.Proofs.Ytkofhjopeppnoaa
set_option linter.unusedSimpArgs false
set_option linter.unusedVariables false
set_option maxRecDepth 100000
open Go Go.Ann Go.RowKit
def endP (size : Nat) (L : List (List UInt8)) (j : Nat) : Nat := size - sumP (L.take j)
theorem putAt_get {b r : List UInt8} {e p : Nat} (h : e + r.length ≤ b.length) : (putAt b e r)[p]? = if p < e then b[p]? else if p < e + r.length then r[p - e]? else b[p]? := by
  unfold putAt putTo
  rw [List.take_length, List.append_assoc]
  by_cases h1 : p < e
  · rw [if_pos h1, List.getElem?_append_left (by simp; omega), List.getElem?_take, if_pos h1]
  · rw [if_neg h1, List.getElem?_append_right (by simp; omega)]
    have hl : (b.take e).length = e := by simp; omega
    rw [hl]
    by_cases h2 : p < e + r.length
    · rw [if_pos h2, List.getElem?_append_left (by omega)]
    · rw [if_neg h2, List.getElem?_append_right (by omega), List.getElem?_drop]
      congr 1; omega
structure Laid (size : Nat) (L : List (List UInt8)) (k : Nat) (b : List UInt8) : Prop where
  len : b.length = size
  zero : b[0]? = some (u8 L.length)
  siz : ∀ j, (h : j < L.length) → j < k → b[2 + 2 * j]? = some (u8 L[j].length)
  frm : ∀ j, (h : j < L.length) → j < k → b[1 + 2 * j]? = some (if L[j] = [] then 0 else u8 (endP size L (j + 1)))
  rest : ∀ j, k ≤ j → j < L.length → b[1 + 2 * j]? = some 0 ∧ b[2 + 2 * j]? = some 0
  recd : ∀ j t, (h : j < L.length) → j < k → (ht : t < L[j].length) → b[endP size L (j + 1) + t]? = some L[j][t]
theorem endP_succ {size : Nat} {L : List (List UInt8)} {j : Nat} (hf : Fits size L) (hj : j < L.length) : endP size L (j + 1) + L[j].length = endP size L j ∧ 1 + 2 * L.length ≤ endP size L (j + 1) := by
  have h1 := sumP_take hj
  have h2 := sumP_le (L := L) (j + 1)
  have h3 := hf.room
  unfold takesP at h3
  unfold endP
  omega
theorem endP_anti {size : Nat} {L : List (List UInt8)} {i j : Nat} (h : i ≤ j) : endP size L j ≤ endP size L i := by
  have : sumP (L.take i) ≤ sumP (L.take j) := by
    have e : L.take i = (L.take j).take i := by rw [List.take_take, Nat.min_eq_left h]
    rw [e]; exact sumP_le i
  unfold endP; omega
theorem laid {size : Nat} {L : List (List UInt8)} (hf : Fits size L) : ∀ {k : Nat}, k ≤ L.length → Laid size L k (layTo size L k).1
  | 0, _ => by
    have hroom := hf.room
    unfold takesP at hroom
    refine ⟨by simp [layTo], by rw [layTo]; exact List.getElem?_set_self (by rw [List.length_replicate]; omega), fun j _ h => by omega, fun j _ h => by omega, fun j _ hj => ?_, fun j t _ h => by omega⟩
    simp only [layTo]
    constructor
    · rw [List.getElem?_set_ne (by omega), List.getElem?_replicate, if_pos (by omega)]
    · rw [List.getElem?_set_ne (by omega), List.getElem?_replicate, if_pos (by omega)]
  | k + 1, hk => by
    have ih := laid hf (k := k) (by omega)
    have hkl : k < L.length := by omega
    have he := layTo_end hf (k := k) (by omega)
    have hend : (layTo size L k).2 = endP size L k := by unfold endP; omega
    obtain ⟨hs1, hs2⟩ := endP_succ hf hkl
    have hsub : (layTo size L k).2 - L[k].length = endP size L (k + 1) := by omega
    rw [layTo_succ hkl]
    unfold layS
    by_cases hr : L[k] = []
    · rw [if_pos hr]
      have h0 := ih.rest k (Nat.le_refl _) hkl
      refine ⟨ih.len, ih.zero, fun j h hj => ?_, fun j h hj => ?_, fun j h hj => ih.rest j (by omega) hj, fun j t h hj ht => ?_⟩
      · rcases Nat.lt_or_ge j k with h' | h'
        · exact ih.siz j h h'
        · obtain rfl : j = k := by omega
          rw [hr, h0.2]; rfl
      · rcases Nat.lt_or_ge j k with h' | h'
        · exact ih.frm j h h'
        · obtain rfl : j = k := by omega
          rw [if_pos hr, h0.1]
      · rcases Nat.lt_or_ge j k with h' | h'
        · exact ih.recd j t h h' ht
        · obtain rfl : j = k := by omega
          rw [hr] at ht; simp at ht
    · rw [if_neg hr, hsub]
      simp only
      have hlen : endP size L (k + 1) + L[k].length ≤ (((layTo size L k).1.set (1 + 2 * k) (u8 (endP size L (k + 1)))).set (2 + 2 * k) (u8 L[k].length)).length := by
        rw [List.length_set, List.length_set, ih.len, hs1]; unfold endP; omega
      have hin : endP size L k ≤ size := by unfold endP; omega
      have hl1 := ih.len
      have low : ∀ p, p < endP size L (k + 1) → p ≠ 2 + 2 * k → p ≠ 1 + 2 * k → (putAt (((layTo size L k).1.set (1 + 2 * k) (u8 (endP size L (k + 1)))).set (2 + 2 * k) (u8 L[k].length)) (endP size L (k + 1)) L[k])[p]? = (layTo size L k).1[p]? := fun p h1 h2 h3 => by
        rw [putAt_get hlen, if_pos h1, List.getElem?_set_ne (by omega), List.getElem?_set_ne (by omega)]
      refine ⟨?_, ?_, fun j h hj => ?_, fun j h hj => ?_, fun j h hj => ?_, fun j t h hj ht => ?_⟩
      · unfold putAt; rw [putTo_len hlen (Nat.le_refl _), List.length_set, List.length_set, ih.len]
      · rw [low 0 (by omega) (by omega) (by omega)]; exact ih.zero
      · rcases Nat.lt_or_ge j k with h' | h'
        · rw [low _ (by omega) (by omega) (by omega)]; exact ih.siz j h h'
        · obtain rfl : j = k := by omega
          rw [putAt_get hlen, if_pos (by omega), List.getElem?_set_self (by rw [List.length_set]; omega)]
      · rcases Nat.lt_or_ge j k with h' | h'
        · rw [low _ (by omega) (by omega) (by omega)]; exact ih.frm j h h'
        · obtain rfl : j = k := by omega
          rw [putAt_get hlen, if_pos (by omega), List.getElem?_set_ne (by omega), List.getElem?_set_self (by omega), if_neg hr]
      · rw [low _ (by omega) (by omega) (by omega), low _ (by omega) (by omega) (by omega)]; exact ih.rest j (by omega) hj
      · rcases Nat.lt_or_ge j k with h' | h'
        · have hanti := endP_anti (size := size) (L := L) (show j + 1 ≤ k by omega)
          rw [putAt_get hlen, if_neg (by omega), if_neg (by omega), List.getElem?_set_ne (by omega), List.getElem?_set_ne (by omega)]
          exact ih.recd j t h h' ht
        · obtain rfl : j = k := by omega
          rw [putAt_get hlen, if_neg (by omega), if_pos (by omega), Nat.add_sub_cancel_left]
          exact List.getElem?_eq_getElem ht
def Trim (L : List (List UInt8)) : Prop := ∀ i, (h : i < L.length) → i + 1 = L.length → L[i] ≠ []
theorem u8_nat {n : Nat} (h : n ≤ 255) : ((u8 n).toNat : Int) = n := by unfold u8; simp; omega
theorem text_pg {size : Nat} {L : List (List UInt8)} (hf : Fits size L) (ht : Trim L) : Pg (textP size L) L := by
  have hl := laid hf (k := L.length) (Nat.le_refl _)
  have hroom := hf.room
  have hhi := hf.hi
  have hlo := hf.lo
  unfold takesP at hroom
  have e : textP size L = (layTo size L L.length).1 := rfl
  rw [← e] at hl
  have hsz : ∀ i, (h : i < L.length) → L[i].length ≤ 253 := fun i h => by
    have h1 := sumP_take h
    have h2 := sumP_le (L := L) (i + 1)
    omega
  have hz : ∀ i, (h : i < L.length) → bN (textP size L) (2 + 2 * (i : Int)) = L[i].length := fun i h => by
    have := bN_get _ _ _ (hl.siz i h h)
    rw [u8_nat (by have := hsz i h; omega)] at this
    rw [← this]; rfl
  have hfr : ∀ i, (h : i < L.length) → L[i] ≠ [] → bN (textP size L) (1 + 2 * (i : Int)) = endP size L (i + 1) := fun i h hr => by
    have := bN_get _ _ _ (hl.frm i h h)
    rw [if_neg hr] at this
    have hp := List.length_pos_iff.2 hr
    have h1 := (endP_succ hf h).1
    have h2 : endP size L i ≤ size := by unfold endP; omega
    rw [u8_nat (by omega)] at this
    rw [← this]; rfl
  have hf0 : ∀ i, (h : i < L.length) → L[i] = [] → bN (textP size L) (1 + 2 * (i : Int)) = 0 := fun i h hr => by
    have := bN_get _ _ _ (hl.frm i h h)
    rw [if_pos hr] at this
    exact this
  have hnz : ∀ i, (h : i < L.length) → 0 < bN (textP size L) (2 + 2 * (i : Int)) → L[i] ≠ [] := fun i h hp e => by
    rw [hz i h, e] at hp; simp at hp
  refine ⟨by rw [hl.len]; exact hlo, by rw [hl.len]; exact hhi, ?_, by rw [hl.len]; omega, fun i h h0 => ?_, fun i h hp => ?_, fun i k h hk hp1 hp2 h3 h4 => ?_, fun i h => ?_⟩
  · have := bN_get _ 0 _ hl.zero
    rw [u8_nat (by omega)] at this
    exact this
  · have hr : L[i] = [] := by rw [hz i h] at h0; exact List.length_eq_zero_iff.1 (by omega)
    exact ⟨hf0 i h hr, fun e => ht i h e hr⟩
  · have hr := hnz i h hp
    rw [hfr i h hr, hz i h, hl.len]
    have h1 := endP_succ hf h
    have h2 : endP size L i ≤ size := by unfold endP; omega
    omega
  · have hr1 := hnz i h hp1
    have hr2 := hnz k (by omega) hp2
    rw [hfr i h hr1, hfr k (by omega) hr2] at h4
    rw [hz i h] at h4
    have h1 := endP_succ hf h
    have h2 := endP_anti (size := size) (L := L) (show k + 1 ≤ i by omega)
    omega
  · by_cases hr : L[i] = []
    · rw [hz i h, hr]
      unfold cutL
      simp
    · rw [hfr i h hr, hz i h]
      obtain ⟨h1, h2⟩ := endP_succ hf h
      have h3 : endP size L i ≤ size := by unfold endP; omega
      refine List.ext_getElem? fun t => ?_
      unfold cutL
      rw [Int.toNat_natCast, List.getElem?_drop, List.getElem?_take]
      by_cases htl : t < L[i].length
      · rw [if_pos (by omega), hl.recd i t h h htl]
        exact List.getElem?_eq_getElem htl
      · rw [if_neg (by omega), List.getElem?_eq_none (by omega)]
theorem trim_trim (L : List (List UInt8)) : Trim (trimP L) := by
  have key : ∀ n, n ≤ L.length → ∀ i, i + 1 = trimN L n → ∀ h : i < L.length, L[i] ≠ [] := by
    intro n
    induction n with
    | zero => intro _ i hi; simp [trimN] at hi
    | succ n ih =>
      intro hn i hi h
      rw [trimN] at hi
      split at hi
      · exact ih (by omega) i hi h
      · rename_i hne
        obtain rfl : i = n := by omega
        intro e
        exact hne (by rw [List.getElem?_eq_getElem h, e])
  intro i h hi
  unfold trimP at h hi ⊢
  rw [List.getElem_take]
  have hle := trimN_le L L.length
  rw [List.length_take] at h hi
  exact key L.length (Nat.le_refl _) i (by omega) (by omega)
end Go.Proofs.Ytkofhjopeppnoaa
