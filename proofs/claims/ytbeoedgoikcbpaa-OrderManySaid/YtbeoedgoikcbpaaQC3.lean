/- Texts put together by program. -/
import Derived.Test.YtbeoedgoikcbpaaQC2
namespace Go.Proofs.Ytbeoedgoikcbpaa.Cut
set_option linter.unusedSimpArgs false
set_option linter.unusedVariables false
set_option maxRecDepth 100000
open Go Go.Ann Go.RowKit
theorem blk_okSt {w : World} {b : Nat} {cs : Array Value} {t : TypeId} (h : Blk w b cs t) {vs : List Value} (h1 : ∀ u ∈ vs, u.oneCell' = true) (h2 : vs.length ≤ cs.size) : okSt w b 0 vs := by
  rw [okSt_iff]
  refine ⟨h1, fun j hj => ⟨⟨cs[j]'(by omega), ?_⟩, ?_⟩⟩
  · rw [h.rules.1, Nat.zero_add]; exact Array.getElem?_eq_getElem (by omega)
  · exact h.rules.2.1 _
theorem between_ok (a b c : Int) (w : World) : Ret Try.prog 77 [.int .i64 a, .int .i64 b, .int .i64 c] w fun v w' => (∃ r, v = .bool r) ∧ Below w.heap.size w w' := by
  refine ent77 _ _ _ _ _ ?_
  simp (disch := first | omega | exact okFill_t rfl | exact okSize_t rfl | exact fun h => h | (simp only [World.size_alloc, World.size_drew, World.size_setCell, size_fill, bytesW]; omega)) only [go_sem, c77]
  refine ⟨fun h => ?_, fun h => ?_⟩
  · (repeat' (first | with_reducible exact Below.refl _ _ | with_reducible assumption | (with_reducible refine Below.drew ?_) | (with_reducible refine Below.alloc ?_ ?_ _) | (with_reducible refine Below.setCell ?_ ?_ _) | (with_reducible refine Below.fill ?_ ?_) | (with_reducible refine Below.via (by assumption) ?_ ?_) | omega | (simp only [World.size_alloc, World.size_drew, World.size_setCell, size_fill, bytesW]; omega)))
  · (repeat' (first | with_reducible exact Below.refl _ _ | with_reducible assumption | (with_reducible refine Below.drew ?_) | (with_reducible refine Below.alloc ?_ ?_ _) | (with_reducible refine Below.setCell ?_ ?_ _) | (with_reducible refine Below.fill ?_ ?_) | (with_reducible refine Below.via (by assumption) ?_ ?_) | omega | (simp only [World.size_alloc, World.size_drew, World.size_setCell, size_fill, bytesW]; omega)))
theorem answer_ok (a b : Int) (w : World) : Ret Try.prog 79 [.int .i64 a, .int .i64 b] w fun v w' => (∃ r, v = .bool r) ∧ Below w.heap.size w w' := by
  refine ent79 _ _ _ _ ?_
  simp (disch := first | omega | exact okFill_t rfl | exact okSize_t rfl | exact fun h => h | (simp only [World.size_alloc, World.size_drew, World.size_setCell, size_fill, bytesW]; omega)) only [go_sem, c79, c79S0, c79S1, c79S2, c79S3, c79S4, c79S5, c79S6]
  refine ⟨fun _ => by (repeat' (first | with_reducible exact Below.refl _ _ | with_reducible assumption | (with_reducible refine Below.drew ?_) | (with_reducible refine Below.alloc ?_ ?_ _) | (with_reducible refine Below.setCell ?_ ?_ _) | (with_reducible refine Below.fill ?_ ?_) | (with_reducible refine Below.via (by assumption) ?_ ?_) | omega | (simp only [World.size_alloc, World.size_drew, World.size_setCell, size_fill, bytesW]; omega))), fun _ => ⟨fun _ => ⟨fun _ => by (repeat' (first | with_reducible exact Below.refl _ _ | with_reducible assumption | (with_reducible refine Below.drew ?_) | (with_reducible refine Below.alloc ?_ ?_ _) | (with_reducible refine Below.setCell ?_ ?_ _) | (with_reducible refine Below.fill ?_ ?_) | (with_reducible refine Below.via (by assumption) ?_ ?_) | omega | (simp only [World.size_alloc, World.size_drew, World.size_setCell, size_fill, bytesW]; omega))), fun _ => by (repeat' (first | with_reducible exact Below.refl _ _ | with_reducible assumption | (with_reducible refine Below.drew ?_) | (with_reducible refine Below.alloc ?_ ?_ _) | (with_reducible refine Below.setCell ?_ ?_ _) | (with_reducible refine Below.fill ?_ ?_) | (with_reducible refine Below.via (by assumption) ?_ ?_) | omega | (simp only [World.size_alloc, World.size_drew, World.size_setCell, size_fill, bytesW]; omega)))⟩, fun _ => ⟨fun _ => Ret.mono (between_ok _ _ _ _) ?_, fun _ => ⟨fun _ => Ret.mono (between_ok _ _ _ _) ?_, fun _ => Ret.mono (between_ok _ _ _ _) ?_⟩⟩⟩⟩
  all_goals
    rintro _ w2 ⟨⟨r, rfl⟩, b2⟩
    simp (disch := first | omega | exact okFill_t rfl | exact okSize_t rfl | exact fun h => h | (simp only [World.size_alloc, World.size_drew, World.size_setCell, size_fill, bytesW]; omega)) only [go_sem, c79, c79S0, c79S1, c79S2, c79S3, c79S4, c79S5, c79S6]
    exact b2
structure Row4 where
  kind : Int
  method : Int
  args : Int
  how : Int
def Row4.enc (r : Row4) : List Value := [.int .i64 r.kind, .int .i64 r.method, .int .i64 r.args, .int .i64 r.how]
theorem Row4.len (r : Row4) : r.enc.length = 4 := rfl
theorem Row4.one (r : Row4) : ∀ u ∈ r.enc, u.oneCell' = true := by intro u hu; simp only [Row4.enc, List.mem_cons, List.not_mem_nil, or_false] at hu; rcases hu with rfl | rfl | rfl | rfl <;> rfl
theorem Row4.at (r : Row4) : r.enc[0]? = some (.int .i64 r.kind) ∧ r.enc[1]? = some (.int .i64 r.method) ∧ r.enc[2]? = some (.int .i64 r.args) ∧ r.enc[3]? = some (.int .i64 r.how) := ⟨rfl, rfl, rfl, rfl⟩
def rowsTable : List Row4 := [⟨1, 1, 0, 2⟩, ⟨1, 2, 1, 0⟩, ⟨1, 3, 2, 1⟩, ⟨2, 1, 0, 3⟩, ⟨2, 4, 0, 0⟩, ⟨2, 5, 0, 0⟩, ⟨3, 6, 1, 0⟩, ⟨3, 7, 0, 4⟩, ⟨4, 8, 1, 0⟩, ⟨4, 9, 0, 4⟩, ⟨5, 10, 1, 1⟩, ⟨5, 11, 1, 1⟩, ⟨5, 12, 1, 1⟩, ⟨6, 13, 0, 0⟩, ⟨6, 14, 0, 0⟩]
set_option maxRecDepth 100000 in
theorem rows_ok (w : World) : Ret Try.prog 109 [] w fun v w' => RdS w' 4 Row4.enc v rowsTable ∧ Below w.heap.size w w' := by
  refine ent109 _ _ ?_
  simp (disch := first | omega | exact okFill_t rfl | exact okSize_t rfl | exact fun h => h | (simp only [World.size_alloc, World.size_drew, World.size_setCell, size_fill, bytesW]; omega)) only [go_sem, c109]
  refine bdW_built (cells := (Row4.enc ⟨1, 1, 0, 2⟩).toArray) (by kernel_rfl) ?_
  simp (disch := first | omega | exact okFill_t rfl | exact okSize_t rfl | exact fun h => h | (simp only [World.size_alloc, World.size_drew, World.size_setCell, size_fill, bytesW]; omega)) only [go_sem, c109]
  refine bdW_built (cells := (Row4.enc ⟨1, 2, 1, 0⟩).toArray) (by kernel_rfl) ?_
  simp (disch := first | omega | exact okFill_t rfl | exact okSize_t rfl | exact fun h => h | (simp only [World.size_alloc, World.size_drew, World.size_setCell, size_fill, bytesW]; omega)) only [go_sem, c109]
  refine bdW_built (cells := (Row4.enc ⟨1, 3, 2, 1⟩).toArray) (by kernel_rfl) ?_
  simp (disch := first | omega | exact okFill_t rfl | exact okSize_t rfl | exact fun h => h | (simp only [World.size_alloc, World.size_drew, World.size_setCell, size_fill, bytesW]; omega)) only [go_sem, c109]
  refine bdW_built (cells := (Row4.enc ⟨2, 1, 0, 3⟩).toArray) (by kernel_rfl) ?_
  simp (disch := first | omega | exact okFill_t rfl | exact okSize_t rfl | exact fun h => h | (simp only [World.size_alloc, World.size_drew, World.size_setCell, size_fill, bytesW]; omega)) only [go_sem, c109]
  refine bdW_built (cells := (Row4.enc ⟨2, 4, 0, 0⟩).toArray) (by kernel_rfl) ?_
  simp (disch := first | omega | exact okFill_t rfl | exact okSize_t rfl | exact fun h => h | (simp only [World.size_alloc, World.size_drew, World.size_setCell, size_fill, bytesW]; omega)) only [go_sem, c109]
  refine bdW_built (cells := (Row4.enc ⟨2, 5, 0, 0⟩).toArray) (by kernel_rfl) ?_
  simp (disch := first | omega | exact okFill_t rfl | exact okSize_t rfl | exact fun h => h | (simp only [World.size_alloc, World.size_drew, World.size_setCell, size_fill, bytesW]; omega)) only [go_sem, c109]
  refine bdW_built (cells := (Row4.enc ⟨3, 6, 1, 0⟩).toArray) (by kernel_rfl) ?_
  simp (disch := first | omega | exact okFill_t rfl | exact okSize_t rfl | exact fun h => h | (simp only [World.size_alloc, World.size_drew, World.size_setCell, size_fill, bytesW]; omega)) only [go_sem, c109]
  refine bdW_built (cells := (Row4.enc ⟨3, 7, 0, 4⟩).toArray) (by kernel_rfl) ?_
  simp (disch := first | omega | exact okFill_t rfl | exact okSize_t rfl | exact fun h => h | (simp only [World.size_alloc, World.size_drew, World.size_setCell, size_fill, bytesW]; omega)) only [go_sem, c109]
  refine bdW_built (cells := (Row4.enc ⟨4, 8, 1, 0⟩).toArray) (by kernel_rfl) ?_
  simp (disch := first | omega | exact okFill_t rfl | exact okSize_t rfl | exact fun h => h | (simp only [World.size_alloc, World.size_drew, World.size_setCell, size_fill, bytesW]; omega)) only [go_sem, c109]
  refine bdW_built (cells := (Row4.enc ⟨4, 9, 0, 4⟩).toArray) (by kernel_rfl) ?_
  simp (disch := first | omega | exact okFill_t rfl | exact okSize_t rfl | exact fun h => h | (simp only [World.size_alloc, World.size_drew, World.size_setCell, size_fill, bytesW]; omega)) only [go_sem, c109]
  refine bdW_built (cells := (Row4.enc ⟨5, 10, 1, 1⟩).toArray) (by kernel_rfl) ?_
  simp (disch := first | omega | exact okFill_t rfl | exact okSize_t rfl | exact fun h => h | (simp only [World.size_alloc, World.size_drew, World.size_setCell, size_fill, bytesW]; omega)) only [go_sem, c109]
  refine bdW_built (cells := (Row4.enc ⟨5, 11, 1, 1⟩).toArray) (by kernel_rfl) ?_
  simp (disch := first | omega | exact okFill_t rfl | exact okSize_t rfl | exact fun h => h | (simp only [World.size_alloc, World.size_drew, World.size_setCell, size_fill, bytesW]; omega)) only [go_sem, c109]
  refine bdW_built (cells := (Row4.enc ⟨5, 12, 1, 1⟩).toArray) (by kernel_rfl) ?_
  simp (disch := first | omega | exact okFill_t rfl | exact okSize_t rfl | exact fun h => h | (simp only [World.size_alloc, World.size_drew, World.size_setCell, size_fill, bytesW]; omega)) only [go_sem, c109]
  refine bdW_built (cells := (Row4.enc ⟨6, 13, 0, 0⟩).toArray) (by kernel_rfl) ?_
  simp (disch := first | omega | exact okFill_t rfl | exact okSize_t rfl | exact fun h => h | (simp only [World.size_alloc, World.size_drew, World.size_setCell, size_fill, bytesW]; omega)) only [go_sem, c109]
  refine bdW_built (cells := (Row4.enc ⟨6, 14, 0, 0⟩).toArray) (by kernel_rfl) ?_
  simp (disch := first | omega | exact okFill_t rfl | exact okSize_t rfl | exact fun h => h | (simp only [World.size_alloc, World.size_drew, World.size_setCell, size_fill, bytesW]; omega)) only [go_sem, c109]
  refine bsW_cells (cells := (rowsTable.flatMap Row4.enc).toArray) ty148mkI (by decide) (by decide) (by kernel_rfl) ?_
  simp (disch := first | omega | exact okFill_t rfl | exact okSize_t rfl | exact fun h => h | (simp only [World.size_alloc, World.size_drew, World.size_setCell, size_fill, bytesW]; omega)) only [go_sem, c109]
  exact ⟨rd_new (w := w) (sz := 4) (n := 15) (cs := (rowsTable.flatMap Row4.enc).toArray) rfl, by (repeat' (first | with_reducible exact Below.refl _ _ | with_reducible assumption | (with_reducible refine Below.drew ?_) | (with_reducible refine Below.alloc ?_ ?_ _) | (with_reducible refine Below.setCell ?_ ?_ _) | (with_reducible refine Below.fill ?_ ?_) | (with_reducible refine Below.via (by assumption) ?_ ?_) | omega | (simp only [World.size_alloc, World.size_drew, World.size_setCell, size_fill, bytesW]; omega)))⟩
theorem find_ok (a b : Int) (w : World) : Ret Try.prog 78 [.int .i64 a, .int .i64 b] w fun v w' => (∃ r : Row4, ∃ k, v = .tuple #[.agg r.enc.toArray, .bool k]) ∧ Below w.heap.size w w' := by
  refine ent78 _ _ _ _ ?_
  simp (disch := first | omega | exact okFill_t rfl | exact okSize_t rfl | exact fun h => h | (simp only [World.size_alloc, World.size_drew, World.size_setCell, size_fill, bytesW]; omega)) only [go_sem, c78, c78S0, c78S1, c78L0, c78S2, c78S3]
  obtain ⟨z, hz⟩ : ∃ z : Row4, z = ⟨0, 0, 0, 0⟩ := ⟨_, rfl⟩
  have s1 := (St.start (W0 := w)).box z.enc.toArray 121
  have hzz : #[Value.int .i64 0, .int .i64 0, .int .i64 0, .int .i64 0] = z.enc.toArray := by rw [hz]; rfl
  rw [hzz]
  generalize w.alloc (.cells z.enc.toArray 121) = w1 at s1 ⊢
  obtain ⟨b0, hb0⟩ : ∃ b, b = w.heap.size := ⟨_, rfl⟩
  have hbb : ∀ w', Below w.heap.size w w' → Below b0 w w' := fun _ h => by rw [hb0]; exact h
  rw [← hb0] at s1 ⊢
  have az := z.at
  refine Ret.mono (rows_ok _) ?_
  rintro vt w2 ⟨ht, b2⟩
  obtain ⟨pt, ct, rfl, _⟩ := ht.form
  have s2 := s1.call b2
  simp (disch := first | omega | exact okFill_t rfl | exact okSize_t rfl | exact fun h => h | (simp only [World.size_alloc, World.size_drew, World.size_setCell, size_fill, bytesW]; omega)) only [go_sem, c78, c78S0, c78S1, c78L0, c78S2, c78S3]
  refine W_loopU (fun k : Nat => [(7, .int .i64 k)]) (fun k w' => Below w2.heap.size w2 w' ∧ k ≤ rowsTable.length) (fun k => rowsTable.length - k) 0 rfl ⟨Below.refl _ _, Nat.zero_le _⟩ ?_
  rintro k w3 ⟨b3, hk⟩
  have s3 := s2.call b3
  have r3 := s3.rules 0 rfl
  have h3 := ht.below b3 (by decide)
  have b03 := s3.bel
  have hsz : rowsTable.length = 15 := rfl
  generalize rowsTable = tb at *
  by_cases hlt : k < tb.length
  · have hlt' : (k : Int) < tb.length := by omega
    obtain ⟨p, rfl⟩ := ht.ptr (by omega)
    have ek := h3.eltB (Below.refl _ _) Row4.len (by decide) hlt
    have ck := h3.at Row4.len hlt
    have ak := tb[k].at
    simp (disch := first | omega | exact okFill_t rfl | exact okSize_t rfl | exact fun h => h | (simp only [World.size_alloc, World.size_drew, World.size_setCell, size_fill, bytesW]; omega)) only [go_sem, c78, c78S0, c78S1, c78L0, c78S2, c78S3, hlt', ek, ak, ck, r3, az]
    refine ⟨by omega, fun e1 => ⟨by omega, fun e2 => ⟨by omega, tb[k].len.symm, blk_okSt (s3.blk 0 rfl) tb[k].one (Nat.le_refl _), ⟨tb[k], true, rfl⟩, hbb _ ((s3.fill 0 rfl (cs := tb[k].enc.toArray) rfl).bel)⟩, fun e2 => ⟨⟨by omega, by omega⟩, k + 1, rfl, ⟨b3, by omega⟩, by omega⟩⟩, fun e1 => ⟨⟨by omega, by omega⟩, k + 1, rfl, ⟨b3, by omega⟩, by omega⟩⟩
  · have hlt' : ¬ (k : Int) < tb.length := by omega
    simp (disch := first | omega | exact okFill_t rfl | exact okSize_t rfl | exact fun h => h | (simp only [World.size_alloc, World.size_drew, World.size_setCell, size_fill, bytesW]; omega)) only [go_sem, c78, c78S0, c78S1, c78L0, c78S2, c78S3, hlt', r3]
    refine bdW_built (cells := z.enc.toArray) (by rw [hz]; kernel_rfl) ?_
    simp (disch := first | omega | exact okFill_t rfl | exact okSize_t rfl | exact fun h => h | (simp only [World.size_alloc, World.size_drew, World.size_setCell, size_fill, bytesW]; omega)) only [go_sem, c78, c78S0, c78S1, c78L0, c78S2, c78S3, hlt', r3, az]
    exact ⟨z.len.symm, blk_okSt (s3.blk 0 rfl) z.one (Nat.le_refl _), ⟨z, false, rfl⟩, hbb _ ((s3.fill 0 rfl (cs := z.enc.toArray) rfl).bel)⟩
end Go.Proofs.Ytbeoedgoikcbpaa.Cut

namespace Go.Proofs.Ytbeoedgoikcbpaa.Cut
set_option linter.unusedSimpArgs false
set_option linter.unusedVariables false
set_option maxRecDepth 100000
open Go Go.Ann Go.RowKit
def NoCut (l : List OpT) : Prop := ∀ p o q, l = p ++ o :: q → p ≠ [] → p.all (fun x => before x o) = false
theorem noCut_fold {l : List OpT} (h : NoCut l) (p : Int × Int) : ∀ n, n < l.length → (l.take (n + 1)).foldl (cutStep segQ fun _ => p) [] = [⟨p.1, p.2, l.take (n + 1)⟩]
  | 0, hn => by
    rw [List.take_succ_eq_append_getElem hn, List.take_zero]; rfl
  | n + 1, hn => by
    rw [List.take_succ_eq_append_getElem hn, List.foldl_append, noCut_fold h p n (by omega)]
    have hq : segQ ⟨p.1, p.2, l.take (n + 1)⟩ l[n + 1] = false := by
      refine h (l.take (n + 1)) l[n + 1] (l.drop (n + 2)) ?_ ?_
      · rw [← List.drop_eq_getElem_cons hn, List.take_append_drop]
      · intro e
        have := congrArg List.length e
        rw [List.length_take, List.length_nil] at this
        omega
    exact cutStep_old (fun _ => p) [] hq
theorem noCut_one {l : List OpT} (h : NoCut l) (hl : l ≠ []) (p : Int × Int) : l.foldl (cutStep segQ fun _ => p) [] = [⟨p.1, p.2, l⟩] := by
  have := List.length_pos_iff.2 hl
  have e := noCut_fold h p (l.length - 1) (by omega)
  rw [show l.length - 1 + 1 = l.length by omega, List.take_length] at e
  exact e
end Go.Proofs.Ytbeoedgoikcbpaa.Cut

namespace Go.Proofs.Ytbeoedgoikcbpaa
set_option linter.unusedSimpArgs false
set_option linter.unusedVariables false
set_option maxRecDepth 100000
open Go Go.Ann Go.RowKit
def firstP (k : Int) : List Int := if k = 1 ∨ k = 2 then [0] else []
end Go.Proofs.Ytbeoedgoikcbpaa

namespace Go.Proofs.Ytbeoedgoikcbpaa
set_option linter.unusedSimpArgs false
set_option linter.unusedVariables false
set_option maxRecDepth 100000
open Go Go.Ann Go.RowKit
theorem zipAll {α : Type} (f : α → Bool) : ∀ (a : List α) (d : List Bool), d.length = a.length → (((a.map f).zip d).all (fun p => p.2 || !p.1) = true ↔ ∀ i (h : i < a.length) (h' : i < d.length), f a[i] = true → d[i] = true)
  | [], [], _ => by simp
  | [], _ :: _, h => by simp at h
  | _ :: _, [], h => by simp at h
  | x :: a, e :: d, h => by
    have ih := zipAll f a d (by simpa using h)
    rw [List.map_cons, List.zip_cons_cons, List.all_cons, Bool.and_eq_true, ih]
    constructor
    · rintro ⟨h1, h2⟩ i hi hi' hf
      cases i with
      | zero =>
        simp only [List.getElem_cons_zero] at hf ⊢
        rw [hf] at h1
        simpa using h1
      | succ i => exact h2 i (by simpa using hi) (by simpa using hi') hf
    · intro h0
      refine ⟨?_, fun i hi hi' hf => h0 (i + 1) (by simpa using hi) (by simpa using hi') hf⟩
      have h1 := h0 0 (by simp) (by simp)
      simp only [List.getElem_cons_zero] at h1
      cases hf : f x
      · simp
      · simp [h1 hf]
theorem fullP_iff {l : List OpT} {d : List Bool} (hd : d.length = l.length) : fullP l d = true ↔ ∀ i (h : i < l.length) (h' : i < d.length), l[i].Done = true → d[i] = true := zipAll (fun o : OpT => o.Done) l d hd
def Marks (l : List OpT) (d : List Bool) (L : List OpT) : Prop := d.length = l.length ∧ ∀ i (h : i < l.length) (h' : i < d.length), d[i] = true ↔ l[i] ∈ L
theorem Marks.full {l : List OpT} {d : List Bool} {L : List OpT} (h : Marks l d L) : fullP l d = true ↔ ∀ o ∈ l, o.Done = true → o ∈ L := by
  rw [fullP_iff h.1]
  refine ⟨fun h1 o ho hd => ?_, fun h1 i hi hi' hd => (h.2 i hi hi').2 (h1 _ (List.getElem_mem hi) hd)⟩
  obtain ⟨i, hi, rfl⟩ := List.mem_iff_getElem.1 ho
  have hi' : i < d.length := by rw [h.1]; exact hi
  exact (h.2 i hi hi').1 (h1 i hi hi' hd)
end Go.Proofs.Ytbeoedgoikcbpaa

namespace Go.Proofs.Ytbeoedgoikcbpaa
set_option linter.unusedSimpArgs false
set_option linter.unusedVariables false
set_option maxRecDepth 100000
open Go Go.Ann Go.RowKit
abbrev OSpot := Nat × List Bool × List Int
structure FS where
  dead : List OSpot
  ids : List Int
  left : Int
  seen : List OSpot
def loopP (g : List Bool → List Int → FS → Bool × FS) (l : List OpT) (d : List Bool) (s : List Int) : Nat → Nat → FS → Bool × FS
  | _, 0, f => (false, f)
  | i, n + 1, f => match l[i]? with
    | none => (false, f)
    | some o => if mayP l d i o then (match stepP s o with
      | none => loopP g l d s (i + 1) n f
      | some t =>
        let r := g (d.set i true) t { f with ids := f.ids ++ [o.ID] }
        if r.1 then r else loopP g l d s (i + 1) n { r.2 with ids := r.2.ids.dropLast }) else loopP g l d s (i + 1) n f
def nextD (ls : List (List OpT)) (g : Nat) : List Bool := List.replicate ((ls[g]?.getD []).length) false
def findP (ls : List (List OpT)) : Nat → Nat → List Bool → List Int → FS → Bool × FS
  | 0, _, _, _, f => (false, f)
  | k + 1, g, d, s, f => match ls[g]? with
    | none => (true, f)
    | some l => if fullP l d then findP ls k (g + 1) (nextD ls (g + 1)) s f
      else if (g, d, s) ∈ f.dead then (false, f)
      else if f.left - 1 < 0 then (false, { f with left := f.left - 1, seen := (g, d, s) :: f.seen })
      else
        let r := loopP (findP ls k g) l d s 0 l.length { f with left := f.left - 1, seen := (g, d, s) :: f.seen }
        if r.1 then r else (false, { r.2 with dead := (g, d, s) :: r.2.dead })
inductive Fin' (ls : List (List OpT)) : Nat → List Bool → List Int → Prop
  | out {g : Nat} {d : List Bool} {s : List Int} : ls[g]? = none → Fin' ls g d s
  | seg {g : Nat} {d : List Bool} {s : List Int} {l : List OpT} {e : List Bool} {t : List Int} : ls[g]? = some l → Rch l (d, s) (e, t) → fullP l e = true → Fin' ls (g + 1) (nextD ls (g + 1)) t → Fin' ls g d s
def work (ls : List (List OpT)) (g : Nat) (d : List Bool) : Nat := undone d + 1 + ((ls.drop (g + 1)).map fun l => l.length + 1).sum + if g < ls.length then 1 else 0
theorem loopP_left {g : List Bool → List Int → FS → Bool × FS} {l : List OpT} {d : List Bool} {s : List Int} (hg : ∀ d t f, (g d t f).2.left ≤ f.left) : ∀ n i f, (loopP g l d s i n f).2.left ≤ f.left
  | 0, i, f => Int.le_refl _
  | n + 1, i, f => by
    have ih := loopP_left (l := l) (d := d) (s := s) hg n (i + 1)
    rw [loopP]
    split
    · exact Int.le_refl _
    · split
      · split
        · exact ih f
        · simp only
          split
          · exact hg _ _ _
          · exact Int.le_trans (ih _) (hg _ _ _)
      · exact ih f
theorem findP_left {ls : List (List OpT)} : ∀ k g d s f, (findP ls k g d s f).2.left ≤ f.left
  | 0, g, d, s, f => Int.le_refl _
  | k + 1, g, d, s, f => by
    rw [findP]
    split
    · exact Int.le_refl _
    · rename_i l _
      split
      · exact findP_left k _ _ _ f
      · split
        · exact Int.le_refl _
        · split
          · simp only; omega
          · have h1 := loopP_left (l := l) (d := d) (s := s) (findP_left (ls := ls) k g) l.length 0 { f with left := f.left - 1, seen := (g, d, s) :: f.seen }
            simp only at h1 ⊢
            split
            · omega
            · simp only; omega
theorem Fin'.next {ls : List (List OpT)} {g : Nat} {d : List Bool} {s : List Int} {l : List OpT} (hl : ls[g]? = some l) (h : Fin' ls g d s) (hf : fullP l d = false) : ∃ k, k < l.length ∧ ∃ q ∈ newAt l (d, s) k, Fin' ls g q.1 q.2 := by
  cases h with
  | out h0 => rw [hl] at h0; cases h0
  | @seg _ _ _ l' e t h0 hr he hn =>
    rw [hl] at h0
    obtain rfl := Option.some.inj h0
    rcases hr.cases_head with h1 | ⟨q, hq, h1⟩
    · simp only [Prod.mk.injEq] at h1
      rw [h1.1, he] at hf
      cases hf
    · obtain ⟨k, hk, hq⟩ := nextL_iff.1 hq
      exact ⟨k, hk, q, hq, .seg hl h1 he hn⟩
theorem Fin'.go {ls : List (List OpT)} {g : Nat} {l : List OpT} (hl : ls[g]? = some l) {d : List Bool} {s : List Int} {q : Spot} {k : Nat} (hk : k < l.length) (hq : q ∈ newAt l (d, s) k) (h : Fin' ls g q.1 q.2) : Fin' ls g d s := by
  cases h with
  | out h0 => rw [hl] at h0; cases h0
  | @seg _ _ _ l' e t h0 hr he hn =>
    rw [hl] at h0
    obtain rfl := Option.some.inj h0
    exact .seg hl (.head (nextL_iff.2 ⟨k, hk, hq⟩) hr) he hn
theorem undone_rep (n : Nat) : undone (List.replicate n false) = n := by unfold undone; rw [List.count_replicate]; simp
theorem work_next {ls : List (List OpT)} {g : Nat} {d : List Bool} (hg : g < ls.length) : work ls (g + 1) (nextD ls (g + 1)) + 1 ≤ work ls g d := by
  unfold work nextD
  rw [undone_rep, if_pos hg]
  by_cases h : g + 1 < ls.length
  · rw [if_pos h, List.drop_eq_getElem_cons h, List.getElem?_eq_getElem h]
    simp only [Option.getD_some, List.map_cons, List.sum_cons]
    omega
  · rw [if_neg h, List.getElem?_eq_none (by omega), List.drop_eq_nil_of_le (by omega), List.drop_eq_nil_of_le (by omega)]
    simp
theorem work_go {ls : List (List OpT)} {g : Nat} {d d' : List Bool} (h : undone d' + 1 = undone d) : work ls g d' + 1 = work ls g d := by
  unfold work; omega
theorem nextD_len {ls : List (List OpT)} {g : Nat} {l : List OpT} (h : ls[g]? = some l) : (nextD ls g).length = l.length := by
  unfold nextD; rw [h]; simp
theorem loopP_ids {G : List Bool → List Int → FS → Bool × FS} {l : List OpT} {d : List Bool} {s : List Int} (hG : ∀ d t f, (G d t f).1 = false → (G d t f).2.ids = f.ids) : ∀ n i f, (loopP G l d s i n f).1 = false → (loopP G l d s i n f).2.ids = f.ids
  | 0, i, f, _ => rfl
  | n + 1, i, f, h => by
    have ih := loopP_ids (l := l) (d := d) (s := s) hG n (i + 1)
    rw [loopP] at h ⊢
    cases ho : l[i]? with
    | none => rfl
    | some o =>
      rw [ho] at h
      simp only at h ⊢
      cases hy : mayP l d i o with
      | false => rw [hy] at h; simp only [Bool.false_eq_true, if_false] at h ⊢; exact ih f h
      | true =>
        rw [hy] at h
        simp only [if_true] at h ⊢
        cases hs : stepP s o with
        | none => rw [hs] at h; exact ih f h
        | some t =>
          rw [hs] at h
          simp only at h ⊢
          have h2 := hG (d.set i true) t { f with ids := f.ids ++ [o.ID] }
          generalize G (d.set i true) t { f with ids := f.ids ++ [o.ID] } = r at h h2 ⊢
          cases h1 : r.1 with
          | true => rw [h1] at h; simp only [if_true] at h; rw [h1] at h; cases h
          | false =>
            rw [h1] at h
            simp only [Bool.false_eq_true, if_false] at h ⊢
            rw [ih _ h]
            have := h2 h1
            simp only at this ⊢
            rw [this]
            simp
theorem findP_ids {ls : List (List OpT)} : ∀ k g d s f, (findP ls k g d s f).1 = false → (findP ls k g d s f).2.ids = f.ids
  | 0, g, d, s, f => fun _ => rfl
  | k + 1, g, d, s, f => fun h => by
    rw [findP] at h ⊢
    cases hl : ls[g]? with
    | none => rfl
    | some l =>
      rw [hl] at h
      simp only at h ⊢
      cases hfu : fullP l d with
      | true => rw [hfu] at h; simp only [if_true] at h ⊢; exact findP_ids k _ _ _ f h
      | false =>
        rw [hfu] at h
        simp only [Bool.false_eq_true, if_false] at h ⊢
        by_cases hdd : (g, d, s) ∈ f.dead
        · rw [if_pos hdd]
        · rw [if_neg hdd] at h ⊢
          by_cases hz : f.left - 1 < 0
          · rw [if_pos hz]
          · rw [if_neg hz] at h ⊢
            have hL := loopP_ids (l := l) (d := d) (s := s) (G := findP ls k g) (fun d t f h => findP_ids k g d t f h) l.length 0 { f with left := f.left - 1, seen := (g, d, s) :: f.seen }
            generalize loopP (findP ls k g) l d s 0 l.length { f with left := f.left - 1, seen := (g, d, s) :: f.seen } = r at h hL ⊢
            cases h1 : r.1 with
            | true => rw [h1] at h; simp only [if_true] at h; rw [h1] at h; cases h
            | false => simp only [Bool.false_eq_true, if_false]; exact hL h1
end Go.Proofs.Ytbeoedgoikcbpaa

namespace Go.Proofs.Ytbeoedgoikcbpaa
open Go Go.Ann
noncomputable def c9code : Code := match Try.f9.body with | some c => c | none => .skip
noncomputable def c9S0 (_ : Unit) : Cmd := .ret
noncomputable def c9S1 (_ : Unit) : Cmd := (.cond (.tmp 13)
  (.seq (.ops [
  ⟨some 14, .call ⟨.value (.func 26), #[], #[]⟩, 4, none⟩,
  ⟨some 2, .assign (.tmp 14), 4, none⟩] [2]) (sg c9S0))
  (.skip [1]))
noncomputable def c9S2 (_ : Unit) : Cmd := .ret
noncomputable def c9S3 (_ : Unit) : Cmd := (.ops [
 ⟨some 39, .fieldAddr 27 (.tmp 6) 1, 0, none⟩,
 ⟨some 40, .load 25 (.tmp 39), 25, none⟩,
 ⟨some 3, .assign (.tmp 40), 25, none⟩] [1, 3, 4, 5])
noncomputable def c9S4 (_ : Unit) : Cmd := (.seq (.seq (.ops [
 ⟨some 36, .move (.tmp 7), 3, none⟩,
 ⟨some 37, .binOp .neq 3 (.tmp 36) (.const (.int .i64 0)) 3, 4, none⟩] [1, 4, 5, 6, 37])
 (.cond (.tmp 37)
  (.seq (.ops [
  ⟨some 38, .call ⟨.value (.func 26), #[], #[]⟩, 4, none⟩,
  ⟨some 2, .assign (.tmp 38), 4, none⟩] [2]) (sg c9S2))
  (.skip [1, 4, 5, 6]))) (sg c9S3))
noncomputable def c9S5 (_ : Unit) : Cmd := (.ops [
 ⟨some 25, .move (.tmp 5), 3, none⟩,
 ⟨some 26, .binOp .add 3 (.tmp 25) (.const (.int .i64 1)) 3, 3, none⟩,
 ⟨some 5, .assign (.tmp 26), 3, none⟩] [1, 3, 4, 5])
noncomputable def c9S6 (_ : Unit) : Cmd := (.seq (.block 1 (.seq (.ops [
 ⟨some 28, .move (.tmp 4), 47, none⟩,
 ⟨some 29, .move (.tmp 5), 3, none⟩,
 ⟨some 30, .indexAddr 47 (.tmp 28) (.tmp 29), 0, none⟩,
 ⟨some 31, .load 24 (.tmp 30), 24, none⟩,
 ⟨some 32, .move (.tmp 3), 25, none⟩,
 ⟨some 33, .call ⟨.value (.func 16), #[(.tmp 31), (.tmp 32), (.const (.int .i64 32768))], #[24, 25, 3]⟩, 34, none⟩,
 ⟨some 27, .move (.tmp 33), 34, none⟩,
 ⟨some 34, .extract (.tmp 27) 0, 27, none⟩,
 ⟨some 35, .extract (.tmp 27) 1, 3, none⟩,
 ⟨some 6, .alloc 27, 0, none⟩,
 ⟨none, .store 27 (.tmp 6) (.tmp 34), 0, none⟩,
 ⟨some 7, .assign (.tmp 35), 3, none⟩] [1, 4, 5, 6, 7]) (sg c9S4))) (sg c9S5))
noncomputable def c9L0 (_ : Unit) : Cmd := (.seq (.seq (.ops [
 ⟨some 21, .move (.tmp 5), 3, none⟩,
 ⟨some 22, .move (.tmp 4), 47, none⟩,
 ⟨some 23, .call ⟨.builtin .len, #[(.tmp 22)], #[47]⟩, 3, none⟩,
 ⟨some 24, .binOp .lss 3 (.tmp 21) (.tmp 23) 3, 4, none⟩] [1, 3, 4, 5, 24])
 (.cond (.tmp 24)
  (.skip [1, 3, 4, 5])
  (.exit 0 [1, 3]))) (sg c9S6))
noncomputable def c9S7 (_ : Unit) : Cmd := .ret
noncomputable def c9S8 (_ : Unit) : Cmd := (.seq (.ops [
 ⟨some 56, .move (.tmp 9), 4, none⟩,
 ⟨some 57, .unOp .not 4 (.tmp 56), 4, none⟩,
 ⟨some 58, .move (.tmp 57), 4, none⟩,
 ⟨some 59, .move (.tmp 8), 36, (some (58, true))⟩,
 ⟨some 60, .call ⟨.builtin .len, #[(.tmp 59)], #[36]⟩, 3, (some (58, true))⟩,
 ⟨some 61, .binOp .eql 3 (.tmp 60) (.const (.int .i64 0)) 3, 4, (some (58, true))⟩,
 ⟨some 62, .pick (.tmp 58) (.tmp 61) (.const (.bool false)), 4, none⟩,
 ⟨some 63, .move (.tmp 62), 4, none⟩,
 ⟨some 64, .move (.tmp 9), 4, (some (63, false))⟩,
 ⟨some 65, .move (.tmp 64), 4, (some (63, false))⟩,
 ⟨some 66, .load 24 (.tmp 1), 24, (some (65, true))⟩,
 ⟨some 67, .move (.tmp 8), 36, (some (65, true))⟩,
 ⟨some 68, .call ⟨.value (.func 28), #[(.tmp 66), (.tmp 67)], #[24, 36]⟩, 4, (some (65, true))⟩,
 ⟨some 69, .pick (.tmp 65) (.tmp 68) (.const (.bool false)), 4, (some (63, false))⟩,
 ⟨some 70, .pick (.tmp 63) (.const (.bool true)) (.tmp 69), 4, none⟩,
 ⟨some 71, .move (.tmp 70), 4, none⟩,
 ⟨some 72, .call ⟨.value (.func 26), #[], #[]⟩, 4, (some (71, true))⟩,
 ⟨some 73, .pick (.tmp 71) (.tmp 72) (.const (.bool false)), 4, none⟩,
 ⟨some 2, .assign (.tmp 73), 4, none⟩] [2]) (sg c9S7))
noncomputable def c9S9 (_ : Unit) : Cmd := (.seq (.seq (.ops [
 ⟨some 47, .move (.tmp 10), 28, none⟩,
 ⟨some 48, .binOp .neq 28 (.tmp 47) (.const (.int .i64 0)) 28, 4, none⟩,
 ⟨some 49, .move (.tmp 48), 4, none⟩,
 ⟨some 50, .move (.tmp 9), 4, (some (49, false))⟩,
 ⟨some 51, .move (.tmp 3), 25, (some (49, false))⟩,
 ⟨some 52, .call ⟨.builtin .len, #[(.tmp 51)], #[25]⟩, 3, (some (49, false))⟩,
 ⟨some 53, .binOp .gtr 3 (.tmp 52) (.const (.int .i64 0)) 3, 4, (some (49, false))⟩,
 ⟨some 54, .binOp .neq 4 (.tmp 50) (.tmp 53) 4, 4, (some (49, false))⟩,
 ⟨some 55, .pick (.tmp 49) (.const (.bool true)) (.tmp 54), 4, none⟩] [1, 8, 9, 55])
 (.cond (.tmp 55)
  (.seq (.ops [
  ⟨some 2, .assign (.const (.bool false)), 4, none⟩] [2])
  .ret)
  (.skip [1, 8, 9]))) (sg c9S8))
noncomputable def c9S10 (_ : Unit) : Cmd := (.seq (.ops [
 ⟨some 42, .load 24 (.tmp 1), 24, none⟩,
 ⟨some 43, .call ⟨.value (.func 27), #[(.tmp 42), (.const (.int .i64 32768))], #[24, 3]⟩, 53, none⟩,
 ⟨some 41, .move (.tmp 43), 53, none⟩,
 ⟨some 44, .extract (.tmp 41) 0, 36, none⟩,
 ⟨some 45, .extract (.tmp 41) 1, 4, none⟩,
 ⟨some 46, .extract (.tmp 41) 2, 28, none⟩,
 ⟨some 8, .assign (.tmp 44), 36, none⟩,
 ⟨some 9, .assign (.tmp 45), 4, none⟩,
 ⟨some 10, .assign (.tmp 46), 28, none⟩] [1, 3, 8, 9, 10]) (sg c9S9))
noncomputable def c9S11 (_ : Unit) : Cmd := (.seq (.seq (.ops [
 ⟨some 5, .assign (.const (.int .i64 0)), 3, none⟩] [1, 3, 4, 5])
 (.block 0 (.loop (sg c9L0)))) (sg c9S10))
noncomputable def c9S12 (_ : Unit) : Cmd := (.seq (.ops [
 ⟨some 19, .load 24 (.tmp 1), 24, none⟩,
 ⟨some 20, .call ⟨.value (.func 24), #[(.tmp 19)], #[24]⟩, 47, none⟩,
 ⟨some 4, .assign (.tmp 20), 47, none⟩] [1, 3, 4]) (sg c9S11))
noncomputable def c9S13 (_ : Unit) : Cmd := (.seq (.ops [
 ⟨some 15, .fieldAddr 24 (.tmp 1) 1, 0, none⟩,
 ⟨some 16, .load 3 (.tmp 15), 3, none⟩,
 ⟨some 17, .call ⟨.value (.func 23), #[(.tmp 16)], #[3]⟩, 36, none⟩,
 ⟨some 18, .buildSlice 25 1 #[(0, (.tmp 17))], 25, none⟩,
 ⟨some 3, .assign (.tmp 18), 25, none⟩] [1, 3]) (sg c9S12))
noncomputable def c9 : Cmd := (.seq (.ops [
 ⟨some 1, .box 24 (.tmp 0), 0, none⟩,
 ⟨some 2, .assign (.const (.bool false)), 4, none⟩] [1])
 (.seq (.seq (.ops [
 ⟨some 11, .load 24 (.tmp 1), 24, none⟩,
 ⟨some 12, .call ⟨.value (.func 25), #[(.tmp 11), (.const (.int .i64 7))], #[24, 3]⟩, 4, none⟩,
 ⟨some 13, .unOp .not 4 (.tmp 12), 4, none⟩] [1, 13]) (sg c9S1)) (sg c9S13)))
@[go_sem] theorem go9 : goFunc Try.prog 9 = true := by kernel_rfl
noncomputable def c10S0 (_ : Unit) : Cmd := .ret
noncomputable def c10S1 (_ : Unit) : Cmd := (.cond (.tmp 22)
  (.seq (.ops [
  ⟨some 23, .call ⟨.value (.func 26), #[], #[]⟩, 4, none⟩,
  ⟨some 4, .assign (.tmp 23), 4, none⟩] [4]) (sg c10S0))
  (.skip [1, 2]))
noncomputable def c10S2 (_ : Unit) : Cmd := .ret
noncomputable def c10S3 (_ : Unit) : Cmd := (.seq (.ops [
 ⟨some 48, .fieldAddr 27 (.tmp 9) 1, 0, none⟩,
 ⟨some 49, .load 25 (.tmp 48), 25, none⟩,
 ⟨some 5, .assign (.tmp 49), 25, none⟩] [1, 2, 5, 6, 7, 8, 9])
 (.ops [
 ⟨some 50, .move (.tmp 7), 3, none⟩,
 ⟨some 51, .fieldAddr 27 (.tmp 9) 2, 0, none⟩,
 ⟨some 52, .load 3 (.tmp 51), 3, none⟩,
 ⟨some 53, .binOp .add 3 (.tmp 50) (.tmp 52) 3, 3, none⟩,
 ⟨some 7, .assign (.tmp 53), 3, none⟩] [1, 2, 5, 6, 7, 8]))
noncomputable def c10S4 (_ : Unit) : Cmd := (.seq (.seq (.ops [
 ⟨some 45, .move (.tmp 10), 3, none⟩,
 ⟨some 46, .binOp .neq 3 (.tmp 45) (.const (.int .i64 0)) 3, 4, none⟩] [1, 2, 6, 7, 8, 9, 46])
 (.cond (.tmp 46)
  (.seq (.ops [
  ⟨some 47, .call ⟨.value (.func 26), #[], #[]⟩, 4, none⟩,
  ⟨some 4, .assign (.tmp 47), 4, none⟩] [4]) (sg c10S2))
  (.skip [1, 2, 6, 7, 8, 9]))) (sg c10S3))
noncomputable def c10S5 (_ : Unit) : Cmd := (.ops [
 ⟨some 34, .move (.tmp 8), 3, none⟩,
 ⟨some 35, .binOp .add 3 (.tmp 34) (.const (.int .i64 1)) 3, 3, none⟩,
 ⟨some 8, .assign (.tmp 35), 3, none⟩] [1, 2, 5, 6, 7, 8])
noncomputable def c10S6 (_ : Unit) : Cmd := (.seq (.block 1 (.seq (.ops [
 ⟨some 37, .move (.tmp 6), 47, none⟩,
 ⟨some 38, .move (.tmp 8), 3, none⟩,
 ⟨some 39, .indexAddr 47 (.tmp 37) (.tmp 38), 0, none⟩,
 ⟨some 40, .load 24 (.tmp 39), 24, none⟩,
 ⟨some 41, .move (.tmp 5), 25, none⟩,
 ⟨some 42, .call ⟨.value (.func 16), #[(.tmp 40), (.tmp 41), (.const (.int .i64 32768))], #[24, 25, 3]⟩, 34, none⟩,
 ⟨some 36, .move (.tmp 42), 34, none⟩,
 ⟨some 43, .extract (.tmp 36) 0, 27, none⟩,
 ⟨some 44, .extract (.tmp 36) 1, 3, none⟩,
 ⟨some 9, .alloc 27, 0, none⟩,
 ⟨none, .store 27 (.tmp 9) (.tmp 43), 0, none⟩,
 ⟨some 10, .assign (.tmp 44), 3, none⟩] [1, 2, 6, 7, 8, 9, 10]) (sg c10S4))) (sg c10S5))
noncomputable def c10L0 (_ : Unit) : Cmd := (.seq (.seq (.ops [
 ⟨some 30, .move (.tmp 8), 3, none⟩,
 ⟨some 31, .move (.tmp 6), 47, none⟩,
 ⟨some 32, .call ⟨.builtin .len, #[(.tmp 31)], #[47]⟩, 3, none⟩,
 ⟨some 33, .binOp .lss 3 (.tmp 30) (.tmp 32) 3, 4, none⟩] [1, 2, 5, 6, 7, 8, 33])
 (.cond (.tmp 33)
  (.skip [1, 2, 5, 6, 7, 8])
  (.exit 0 [1, 2, 7]))) (sg c10S6))
noncomputable def c10S7 (_ : Unit) : Cmd := .ret
noncomputable def c10S8 (_ : Unit) : Cmd := (.cond (.tmp 94)
  (.seq (.ops [
  ⟨some 4, .assign (.const (.bool false)), 4, none⟩] [4])
  .ret)
  (.skip [1, 7, 11, 12, 17, 18, 19]))
noncomputable def c10S9 (_ : Unit) : Cmd := .ret
noncomputable def c10S10 (_ : Unit) : Cmd := .ret
noncomputable def c10S11 (_ : Unit) : Cmd := (.seq (.ops [
 ⟨some 112, .move (.tmp 19), 28, none⟩,
 ⟨some 113, .binOp .eql 28 (.tmp 112) (.const (.int .i64 0)) 28, 4, none⟩,
 ⟨some 114, .move (.tmp 113), 4, none⟩,
 ⟨some 115, .move (.tmp 18), 4, (some (114, true))⟩,
 ⟨some 116, .move (.tmp 12), 4, (some (114, true))⟩,
 ⟨some 117, .binOp .eql 4 (.tmp 115) (.tmp 116) 4, 4, (some (114, true))⟩,
 ⟨some 118, .pick (.tmp 114) (.tmp 117) (.const (.bool false)), 4, none⟩,
 ⟨some 119, .move (.tmp 118), 4, none⟩,
 ⟨some 120, .move (.tmp 17), 36, (some (119, true))⟩,
 ⟨some 121, .move (.tmp 11), 36, (some (119, true))⟩,
 ⟨some 122, .call ⟨.value (.func 29), #[(.tmp 120), (.tmp 121)], #[36, 36]⟩, 4, (some (119, true))⟩,
 ⟨some 123, .pick (.tmp 119) (.tmp 122) (.const (.bool false)), 4, none⟩,
 ⟨some 124, .move (.tmp 123), 4, none⟩,
 ⟨some 125, .call ⟨.value (.func 26), #[], #[]⟩, 4, (some (124, true))⟩,
 ⟨some 126, .pick (.tmp 124) (.tmp 125) (.const (.bool false)), 4, none⟩,
 ⟨some 4, .assign (.tmp 126), 4, none⟩] [4]) (sg c10S10))
noncomputable def c10S12 (_ : Unit) : Cmd := (.seq (.seq (.ops [
 ⟨some 95, .move (.tmp 19), 28, none⟩,
 ⟨some 96, .binOp .eql 28 (.tmp 95) (.const (.int .i64 35)) 28, 4, none⟩] [1, 7, 11, 12, 17, 18, 19, 96])
 (.cond (.tmp 96)
  (.seq (.ops [
  ⟨some 97, .move (.tmp 17), 36, none⟩,
  ⟨some 98, .call ⟨.builtin .len, #[(.tmp 97)], #[36]⟩, 3, none⟩,
  ⟨some 99, .binOp .eql 3 (.tmp 98) (.const (.int .i64 0)) 3, 4, none⟩,
  ⟨some 100, .move (.tmp 99), 4, none⟩,
  ⟨some 101, .move (.tmp 18), 4, (some (100, true))⟩,
  ⟨some 102, .unOp .not 4 (.tmp 101), 4, (some (100, true))⟩,
  ⟨some 103, .pick (.tmp 100) (.tmp 102) (.const (.bool false)), 4, none⟩,
  ⟨some 104, .move (.tmp 103), 4, none⟩,
  ⟨some 105, .move (.tmp 1), 3, (some (104, true))⟩,
  ⟨some 106, .move (.tmp 7), 3, (some (104, true))⟩,
  ⟨some 107, .binOp .lss 3 (.tmp 105) (.tmp 106) 3, 4, (some (104, true))⟩,
  ⟨some 108, .pick (.tmp 104) (.tmp 107) (.const (.bool false)), 4, none⟩,
  ⟨some 109, .move (.tmp 108), 4, none⟩,
  ⟨some 110, .call ⟨.value (.func 26), #[], #[]⟩, 4, (some (109, true))⟩,
  ⟨some 111, .pick (.tmp 109) (.tmp 110) (.const (.bool false)), 4, none⟩,
  ⟨some 4, .assign (.tmp 111), 4, none⟩] [4]) (sg c10S9))
  (.skip [11, 12, 17, 18, 19]))) (sg c10S11))
noncomputable def c10S13 (_ : Unit) : Cmd := (.seq (.seq (.ops [
 ⟨some 77, .move (.tmp 13), 28, none⟩,
 ⟨some 78, .binOp .neq 28 (.tmp 77) (.const (.int .i64 0)) 28, 4, none⟩,
 ⟨some 79, .move (.tmp 78), 4, none⟩,
 ⟨some 80, .move (.tmp 16), 28, (some (79, false))⟩,
 ⟨some 81, .move (.tmp 13), 28, (some (79, false))⟩,
 ⟨some 82, .binOp .neq 28 (.tmp 80) (.tmp 81) 28, 4, (some (79, false))⟩,
 ⟨some 83, .pick (.tmp 79) (.const (.bool true)) (.tmp 82), 4, none⟩,
 ⟨some 84, .move (.tmp 83), 4, none⟩,
 ⟨some 85, .move (.tmp 11), 36, (some (84, false))⟩,
 ⟨some 86, .move (.tmp 14), 36, (some (84, false))⟩,
 ⟨some 87, .call ⟨.value (.func 29), #[(.tmp 85), (.tmp 86)], #[36, 36]⟩, 4, (some (84, false))⟩,
 ⟨some 88, .unOp .not 4 (.tmp 87), 4, (some (84, false))⟩,
 ⟨some 89, .pick (.tmp 84) (.const (.bool true)) (.tmp 88), 4, none⟩,
 ⟨some 90, .move (.tmp 89), 4, none⟩,
 ⟨some 91, .move (.tmp 12), 4, (some (90, false))⟩,
 ⟨some 92, .move (.tmp 15), 4, (some (90, false))⟩,
 ⟨some 93, .binOp .neq 4 (.tmp 91) (.tmp 92) 4, 4, (some (90, false))⟩,
 ⟨some 94, .pick (.tmp 90) (.const (.bool true)) (.tmp 93), 4, none⟩] [1, 7, 11, 12, 17, 18, 19, 94]) (sg c10S8)) (sg c10S12))
noncomputable def c10S14 (_ : Unit) : Cmd := (.seq (.ops [
 ⟨some 71, .load 24 (.tmp 2), 24, none⟩,
 ⟨some 72, .move (.tmp 1), 3, none⟩,
 ⟨some 73, .call ⟨.value (.func 27), #[(.tmp 71), (.tmp 72)], #[24, 3]⟩, 53, none⟩,
 ⟨some 70, .move (.tmp 73), 53, none⟩,
 ⟨some 74, .extract (.tmp 70) 0, 36, none⟩,
 ⟨some 75, .extract (.tmp 70) 1, 4, none⟩,
 ⟨some 76, .extract (.tmp 70) 2, 28, none⟩,
 ⟨some 17, .assign (.tmp 74), 36, none⟩,
 ⟨some 18, .assign (.tmp 75), 4, none⟩,
 ⟨some 19, .assign (.tmp 76), 28, none⟩] [1, 7, 11, 12, 13, 14, 15, 16, 17, 18, 19]) (sg c10S13))
noncomputable def c10S15 (_ : Unit) : Cmd := (.seq (.ops [
 ⟨some 64, .load 24 (.tmp 2), 24, none⟩,
 ⟨some 65, .move (.tmp 7), 3, none⟩,
 ⟨some 66, .call ⟨.value (.func 27), #[(.tmp 64), (.tmp 65)], #[24, 3]⟩, 53, none⟩,
 ⟨some 63, .move (.tmp 66), 53, none⟩,
 ⟨some 67, .extract (.tmp 63) 0, 36, none⟩,
 ⟨some 68, .extract (.tmp 63) 1, 4, none⟩,
 ⟨some 69, .extract (.tmp 63) 2, 28, none⟩,
 ⟨some 14, .assign (.tmp 67), 36, none⟩,
 ⟨some 15, .assign (.tmp 68), 4, none⟩,
 ⟨some 16, .assign (.tmp 69), 28, none⟩] [1, 2, 7, 11, 12, 13, 14, 15, 16]) (sg c10S14))
noncomputable def c10S16 (_ : Unit) : Cmd := (.seq (.ops [
 ⟨some 58, .load 24 (.tmp 2), 24, none⟩,
 ⟨some 59, .call ⟨.value (.func 27), #[(.tmp 58), (.const (.int .i64 32768))], #[24, 3]⟩, 53, none⟩,
 ⟨some 57, .move (.tmp 59), 53, none⟩,
 ⟨some 60, .extract (.tmp 57) 0, 36, none⟩,
 ⟨some 61, .extract (.tmp 57) 1, 4, none⟩,
 ⟨some 62, .extract (.tmp 57) 2, 28, none⟩,
 ⟨some 11, .assign (.tmp 60), 36, none⟩,
 ⟨some 12, .assign (.tmp 61), 4, none⟩,
 ⟨some 13, .assign (.tmp 62), 28, none⟩] [1, 2, 7, 11, 12, 13]) (sg c10S15))
noncomputable def c10S17 (_ : Unit) : Cmd := (.seq (.seq (.ops [
 ⟨some 54, .move (.tmp 7), 3, none⟩,
 ⟨some 55, .binOp .gtr 3 (.tmp 54) (.const (.int .i64 32768)) 3, 4, none⟩] [1, 2, 7, 55])
 (.cond (.tmp 55)
  (.seq (.ops [
  ⟨some 56, .call ⟨.value (.func 26), #[], #[]⟩, 4, none⟩,
  ⟨some 4, .assign (.tmp 56), 4, none⟩] [4]) (sg c10S7))
  (.skip [1, 2, 7]))) (sg c10S16))
noncomputable def c10S18 (_ : Unit) : Cmd := (.seq (.ops [
 ⟨some 7, .assign (.const (.int .i64 0)), 3, none⟩] [1, 2, 5, 6, 7])
 (.seq (.seq (.ops [
 ⟨some 8, .assign (.const (.int .i64 0)), 3, none⟩] [1, 2, 5, 6, 7, 8])
 (.block 0 (.loop (sg c10L0)))) (sg c10S17)))
noncomputable def c10S19 (_ : Unit) : Cmd := (.seq (.ops [
 ⟨some 28, .load 24 (.tmp 2), 24, none⟩,
 ⟨some 29, .call ⟨.value (.func 24), #[(.tmp 28)], #[24]⟩, 47, none⟩,
 ⟨some 6, .assign (.tmp 29), 47, none⟩] [1, 2, 5, 6]) (sg c10S18))
noncomputable def c10S20 (_ : Unit) : Cmd := (.seq (.ops [
 ⟨some 24, .fieldAddr 24 (.tmp 2) 1, 0, none⟩,
 ⟨some 25, .load 3 (.tmp 24), 3, none⟩,
 ⟨some 26, .call ⟨.value (.func 23), #[(.tmp 25)], #[3]⟩, 36, none⟩,
 ⟨some 27, .buildSlice 25 1 #[(0, (.tmp 26))], 25, none⟩,
 ⟨some 5, .assign (.tmp 27), 25, none⟩] [1, 2, 5]) (sg c10S19))
noncomputable def c10 : Cmd := (.seq (.ops [
 ⟨some 2, .box 24 (.tmp 0), 0, none⟩,
 ⟨some 4, .assign (.const (.bool false)), 4, none⟩] [1, 2])
 (.seq (.seq (.ops [
 ⟨some 20, .load 24 (.tmp 2), 24, none⟩,
 ⟨some 21, .call ⟨.value (.func 25), #[(.tmp 20), (.const (.int .i64 7))], #[24, 3]⟩, 4, none⟩,
 ⟨some 22, .unOp .not 4 (.tmp 21), 4, none⟩] [1, 2, 22]) (sg c10S1)) (sg c10S20)))
@[go_sem] theorem go10 : goFunc Try.prog 10 = true := by kernel_rfl
noncomputable def c11code : Code := match Try.f11.body with | some c => c | none => .skip
noncomputable def c11S0 (_ : Unit) : Cmd := (.ops [
 ⟨some 21, .move (.tmp 6), 3, none⟩,
 ⟨some 22, .binOp .add 3 (.tmp 21) (.const (.int .i64 1)) 3, 3, none⟩,
 ⟨some 6, .assign (.tmp 22), 3, none⟩] [1, 2, 5, 6])
noncomputable def c11S1 (_ : Unit) : Cmd := (.seq (.block 1 (.seq (.ops [
 ⟨some 23, .move (.tmp 6), 3, none⟩,
 ⟨some 24, .binOp .add 3 (.tmp 23) (.const (.int .i64 1)) 3, 3, none⟩,
 ⟨some 25, .fieldAddr 58 (.tmp 2) 0, 0, none⟩,
 ⟨none, .store 3 (.tmp 25) (.tmp 24), 0, none⟩] [1, 2, 5, 6])
 (.ops [
 ⟨some 26, .fieldAddr 24 (.tmp 5) 2, 0, none⟩,
 ⟨some 27, .load 22 (.tmp 26), 22, none⟩,
 ⟨some 28, .load 58 (.tmp 2), 58, none⟩,
 ⟨some 29, .buildSlice 22 1 #[(0, (.tmp 28))], 22, none⟩,
 ⟨some 30, .call ⟨.builtin .append, #[(.tmp 27), (.tmp 29)], #[22, 22]⟩, 22, none⟩,
 ⟨some 31, .fieldAddr 24 (.tmp 5) 2, 0, none⟩,
 ⟨none, .store 22 (.tmp 31) (.tmp 30), 0, none⟩] [1, 2, 5, 6]))) (sg c11S0))
noncomputable def c11L0 (_ : Unit) : Cmd := (.seq (.seq (.ops [
 ⟨some 16, .move (.tmp 6), 3, none⟩,
 ⟨some 17, .move (.tmp 1), 5, none⟩,
 ⟨some 18, .binOp .rem 5 (.tmp 17) (.const (.int .u8 40)) 5, 5, none⟩,
 ⟨some 19, .convert 5 3 (.tmp 18), 3, none⟩,
 ⟨some 20, .binOp .lss 3 (.tmp 16) (.tmp 19) 3, 4, none⟩] [1, 2, 5, 6, 20])
 (.cond (.tmp 20)
  (.skip [1, 2, 5, 6])
  (.exit 0 [5]))) (sg c11S1))
noncomputable def c11S2 (_ : Unit) : Cmd := .ret
noncomputable def c11S3 (_ : Unit) : Cmd := .ret
noncomputable def c11S4 (_ : Unit) : Cmd := (.seq (.ops [
 ⟨some 43, .move (.tmp 7), 36, none⟩,
 ⟨some 44, .call ⟨.builtin .len, #[(.tmp 43)], #[36]⟩, 3, none⟩,
 ⟨some 45, .binOp .eql 3 (.tmp 44) (.const (.int .i64 0)) 3, 4, none⟩,
 ⟨some 46, .move (.tmp 45), 4, none⟩,
 ⟨some 47, .move (.tmp 8), 4, (some (46, true))⟩,
 ⟨some 48, .unOp .not 4 (.tmp 47), 4, (some (46, true))⟩,
 ⟨some 49, .pick (.tmp 46) (.tmp 48) (.const (.bool false)), 4, none⟩,
 ⟨some 50, .move (.tmp 49), 4, none⟩,
 ⟨some 51, .move (.tmp 9), 28, (some (50, true))⟩,
 ⟨some 52, .binOp .eql 28 (.tmp 51) (.const (.int .i64 34)) 28, 4, (some (50, true))⟩,
 ⟨some 53, .pick (.tmp 50) (.tmp 52) (.const (.bool false)), 4, none⟩,
 ⟨some 54, .move (.tmp 53), 4, none⟩,
 ⟨some 55, .call ⟨.value (.func 26), #[], #[]⟩, 4, (some (54, true))⟩,
 ⟨some 56, .pick (.tmp 54) (.tmp 55) (.const (.bool false)), 4, none⟩,
 ⟨some 4, .assign (.tmp 56), 4, none⟩] [4]) (sg c11S3))
noncomputable def c11S5 (_ : Unit) : Cmd := (.seq (.ops [
 ⟨some 38, .load 24 (.tmp 5), 24, none⟩,
 ⟨some 39, .call ⟨.value (.func 27), #[(.tmp 38), (.const (.int .i64 9))], #[24, 3]⟩, 53, none⟩,
 ⟨some 37, .move (.tmp 39), 53, none⟩,
 ⟨some 40, .extract (.tmp 37) 0, 36, none⟩,
 ⟨some 41, .extract (.tmp 37) 1, 4, none⟩,
 ⟨some 42, .extract (.tmp 37) 2, 28, none⟩,
 ⟨some 7, .assign (.tmp 40), 36, none⟩,
 ⟨some 8, .assign (.tmp 41), 4, none⟩,
 ⟨some 9, .assign (.tmp 42), 28, none⟩] [7, 8, 9]) (sg c11S4))
noncomputable def c11S6 (_ : Unit) : Cmd := (.seq (.seq (.ops [
 ⟨some 32, .fieldAddr 24 (.tmp 5) 2, 0, none⟩,
 ⟨some 33, .load 22 (.tmp 32), 22, none⟩,
 ⟨some 34, .call ⟨.builtin .len, #[(.tmp 33)], #[22]⟩, 3, none⟩,
 ⟨some 35, .binOp .leq 3 (.tmp 34) (.const (.int .i64 16)) 3, 4, none⟩] [5, 35])
 (.cond (.tmp 35)
  (.seq (.ops [
  ⟨some 36, .call ⟨.value (.func 26), #[], #[]⟩, 4, none⟩,
  ⟨some 4, .assign (.tmp 36), 4, none⟩] [4]) (sg c11S2))
  (.skip [5]))) (sg c11S5))
noncomputable def c11 : Cmd := (.seq (.ops [
 ⟨some 2, .box 58 (.tmp 0), 0, none⟩,
 ⟨some 4, .assign (.const (.bool false)), 4, none⟩] [1, 2])
 (.seq (.ops [
 ⟨some 10, .fieldAddr 58 (.tmp 2) 3, 0, none⟩,
 ⟨some 11, .load 3 (.tmp 10), 3, none⟩,
 ⟨some 12, .build 24 #[(1, (.tmp 11))], 24, none⟩,
 ⟨some 5, .alloc 24, 0, none⟩,
 ⟨none, .store 24 (.tmp 5) (.tmp 12), 0, none⟩] [1, 2, 5])
 (.seq (.ops [
 ⟨some 13, .fieldAddr 58 (.tmp 2) 9, 0, none⟩,
 ⟨none, .store 3 (.tmp 13) (.const (.int .i64 1)), 0, none⟩,
 ⟨some 14, .fieldAddr 58 (.tmp 2) 7, 0, none⟩,
 ⟨none, .store 4 (.tmp 14) (.const (.bool true)), 0, none⟩,
 ⟨some 15, .fieldAddr 58 (.tmp 2) 10, 0, none⟩,
 ⟨none, .store 3 (.tmp 15) (.const (.int .i64 9)), 0, none⟩] [1, 2, 5])
 (.seq (.seq (.ops [
 ⟨some 6, .assign (.const (.int .i64 0)), 3, none⟩] [1, 2, 5, 6])
 (.block 0 (.loop (sg c11L0)))) (sg c11S6)))))
set_option maxRecDepth 100000 in
theorem ent11 (a0 a1 : Value) (w : World) (K : Value → World → Prop) (h : W Try.prog c11 [(0, a0), (1, a1)] w (finQ Try.prog [.tmp 4] K)) : Ret Try.prog 11 [a0, a1] w K :=
  Ret_of_W (code := c11code) Try.func11 (by kernel_rfl) (by kernel_rfl) (of_decide_eq_true (by kernel_rfl)) h
@[go_sem] theorem go11 : goFunc Try.prog 11 = true := by kernel_rfl
@[go_sem] theorem go25 : goFunc Try.prog 25 = true := by kernel_rfl
noncomputable def c26code : Code := match Try.f26.body with | some c => c | none => .skip
noncomputable def c26S0 (_ : Unit) : Cmd := .ret
noncomputable def c26S1 (_ : Unit) : Cmd := (.seq (.ops [
 ⟨some 15, .move (.tmp 4), 28, none⟩,
 ⟨some 16, .binOp .eql 28 (.tmp 15) (.const (.int .i64 0)) 28, 4, none⟩,
 ⟨some 17, .move (.tmp 16), 4, none⟩,
 ⟨some 18, .move (.tmp 3), 4, (some (17, true))⟩,
 ⟨some 19, .pick (.tmp 17) (.tmp 18) (.const (.bool false)), 4, none⟩,
 ⟨some 20, .move (.tmp 19), 4, none⟩,
 ⟨some 21, .move (.tmp 2), 36, (some (20, true))⟩,
 ⟨some 22, .buildSlice 36 2 #[(0, (.const (.int .i64 9))), (1, (.const (.int .i64 5)))], 36, (some (20, true))⟩,
 ⟨some 23, .call ⟨.value (.func 29), #[(.tmp 21), (.tmp 22)], #[36, 36]⟩, 4, (some (20, true))⟩,
 ⟨some 24, .pick (.tmp 20) (.tmp 23) (.const (.bool false)), 4, none⟩,
 ⟨some 25, .move (.tmp 24), 4, none⟩,
 ⟨some 26, .load 24 (.tmp 1), 24, (some (25, true))⟩,
 ⟨some 27, .move (.tmp 2), 36, (some (25, true))⟩,
 ⟨some 28, .call ⟨.value (.func 55), #[(.tmp 26), (.tmp 27)], #[24, 36]⟩, 4, (some (25, true))⟩,
 ⟨some 29, .pick (.tmp 25) (.tmp 28) (.const (.bool false)), 4, none⟩,
 ⟨some 30, .move (.tmp 29), 4, none⟩,
 ⟨some 31, .load 24 (.tmp 1), 24, (some (30, true))⟩,
 ⟨some 32, .buildSlice 36 2 #[(0, (.const (.int .i64 5))), (1, (.const (.int .i64 9)))], 36, (some (30, true))⟩,
 ⟨some 33, .call ⟨.value (.func 55), #[(.tmp 31), (.tmp 32)], #[24, 36]⟩, 4, (some (30, true))⟩,
 ⟨some 34, .unOp .not 4 (.tmp 33), 4, (some (30, true))⟩,
 ⟨some 35, .pick (.tmp 30) (.tmp 34) (.const (.bool false)), 4, none⟩,
 ⟨some 0, .assign (.tmp 35), 4, none⟩] [0]) (sg c26S0))
noncomputable def c26 : Cmd := (.seq (.ops [
 ⟨some 0, .assign (.const (.bool false)), 4, none⟩] [])
 (.seq (.ops [
 ⟨some 5, .build 58 #[(0, (.const (.int .i64 5))), (3, (.const (.int .i64 1))), (4, (.const (.int .i64 2))), (5, (.const (.int .i64 1))), (7, (.const (.bool true))), (10, (.const (.int .i64 9)))], 58, none⟩,
 ⟨some 6, .build 58 #[(0, (.const (.int .i64 9))), (3, (.const (.int .i64 1))), (4, (.const (.int .i64 1))), (7, (.const (.bool true))), (9, (.const (.int .i64 1))), (10, (.const (.int .i64 8)))], 58, none⟩,
 ⟨some 7, .buildSlice 22 2 #[(0, (.tmp 5)), (1, (.tmp 6))], 22, none⟩,
 ⟨some 8, .build 24 #[(1, (.const (.int .i64 1))), (2, (.tmp 7))], 24, none⟩,
 ⟨some 1, .alloc 24, 0, none⟩,
 ⟨none, .store 24 (.tmp 1) (.tmp 8), 0, none⟩] [1])
 (.seq (.ops [
 ⟨some 10, .load 24 (.tmp 1), 24, none⟩,
 ⟨some 11, .call ⟨.value (.func 27), #[(.tmp 10), (.const (.int .i64 99))], #[24, 3]⟩, 53, none⟩,
 ⟨some 9, .move (.tmp 11), 53, none⟩,
 ⟨some 12, .extract (.tmp 9) 0, 36, none⟩,
 ⟨some 13, .extract (.tmp 9) 1, 4, none⟩,
 ⟨some 14, .extract (.tmp 9) 2, 28, none⟩,
 ⟨some 2, .assign (.tmp 12), 36, none⟩,
 ⟨some 3, .assign (.tmp 13), 4, none⟩,
 ⟨some 4, .assign (.tmp 14), 28, none⟩] [1, 2, 3, 4]) (sg c26S1))))
set_option maxRecDepth 100000 in
theorem ent26 (w : World) (K : Value → World → Prop) (h : W Try.prog c26 [] w (finQ Try.prog [.tmp 0] K)) : Ret Try.prog 26 [] w K :=
  Ret_of_W (code := c26code) Try.func26 (by kernel_rfl) (by kernel_rfl) (of_decide_eq_true (by kernel_rfl)) h
@[go_sem] theorem go26 : goFunc Try.prog 26 = true := by kernel_rfl
noncomputable def c27code : Code := match Try.f27.body with | some c => c | none => .skip
noncomputable def c27S0 (_ : Unit) : Cmd := (.ops [
 ⟨some 33, .move (.tmp 7), 95, none⟩,
 ⟨some 34, .move (.tmp 7), 95, none⟩,
 ⟨some 35, .nilCheck (.tmp 34), 0, none⟩,
 ⟨some 36, .fieldAddr 99 (.tmp 35) 0, 0, none⟩,
 ⟨some 37, .load 97 (.tmp 36), 97, none⟩,
 ⟨some 38, .move (.tmp 10), 22, none⟩,
 ⟨some 39, .buildSlice 97 1 #[(0, (.tmp 38))], 97, none⟩,
 ⟨some 40, .call ⟨.builtin .append, #[(.tmp 37), (.tmp 39)], #[97, 97]⟩, 97, none⟩,
 ⟨some 41, .nilCheck (.tmp 33), 0, none⟩,
 ⟨some 42, .fieldAddr 99 (.tmp 41) 0, 0, none⟩,
 ⟨none, .store 97 (.tmp 42) (.tmp 40), 0, none⟩] [2, 7, 18, 19, 20])
noncomputable def c27S1 (_ : Unit) : Cmd := (.seq (.ops [
 ⟨some 31, .move (.tmp 10), 22, none⟩,
 ⟨some 32, .call ⟨.value (.func 58), #[(.tmp 31), (.func 59)], #[22, 102]⟩, 0, none⟩] [2, 7, 10, 18, 19, 20]) (sg c27S0))
noncomputable def c27S2 (_ : Unit) : Cmd := (.seq (.ops [
 ⟨some 28, .fieldAddr 24 (.tmp 9) 2, 0, none⟩,
 ⟨some 29, .load 22 (.tmp 28), 22, none⟩,
 ⟨some 30, .call ⟨.value (.func 57), #[(.tmp 29)], #[22]⟩, 22, none⟩,
 ⟨some 10, .assign (.tmp 30), 22, none⟩] [2, 7, 10, 18, 19, 20]) (sg c27S1))
noncomputable def c27S3 (_ : Unit) : Cmd := (.ops [
 ⟨some 43, .binOp .add 3 (.tmp 20) (.const (.int .i64 1)) 3, 3, none⟩,
 ⟨some 20, .move (.tmp 43), 3, none⟩] [2, 7, 18, 19, 20])
noncomputable def c27S4 (_ : Unit) : Cmd := (.seq (.block 1 (.seq (.ops [
 ⟨some 22, .indexAddr 47 (.tmp 18) (.tmp 20), 0, none⟩,
 ⟨some 23, .load 24 (.tmp 22), 24, none⟩,
 ⟨some 9, .alloc 24, 0, none⟩,
 ⟨none, .store 24 (.tmp 9) (.tmp 23), 0, none⟩] [2, 7, 9, 18, 19, 20])
 (.seq (.seq (.ops [
 ⟨some 24, .fieldAddr 24 (.tmp 9) 2, 0, none⟩,
 ⟨some 25, .load 22 (.tmp 24), 22, none⟩,
 ⟨some 26, .call ⟨.builtin .len, #[(.tmp 25)], #[22]⟩, 3, none⟩,
 ⟨some 27, .binOp .gtr 3 (.tmp 26) (.const (.int .i64 16)) 3, 4, none⟩] [2, 7, 9, 18, 19, 20, 27])
 (.cond (.tmp 27)
  (.seq (.ops [
  ⟨some 4, .assign (.const (.slice none 0 0)), 36, none⟩,
  ⟨some 5, .assign (.const (.bool false)), 4, none⟩,
  ⟨some 6, .assign (.const (.int .i64 34)), 28, none⟩] [4, 5, 6])
  .ret)
  (.skip [2, 7, 9, 18, 19, 20]))) (sg c27S2)))) (sg c27S3))
noncomputable def c27L0 (_ : Unit) : Cmd := (.seq (.ops [
 ⟨some 21, .binOp .lss 3 (.tmp 20) (.tmp 19) 3, 0, none⟩] [2, 7, 18, 19, 20, 21])
 (.seq (.cond (.tmp 21)
  (.skip [2, 7, 18, 19, 20])
  (.exit 0 [2, 7])) (sg c27S4)))
noncomputable def c27S5 (_ : Unit) : Cmd := (.block 0 (.loop (sg c27L0)))
noncomputable def c27S6 (_ : Unit) : Cmd := (.seq (.ops [
 ⟨some 56, .move (.tmp 7), 95, none⟩,
 ⟨some 57, .nilCheck (.tmp 56), 0, none⟩,
 ⟨some 58, .fieldAddr 99 (.tmp 57) 2, 0, none⟩,
 ⟨some 59, .load 36 (.tmp 58), 36, none⟩,
 ⟨some 4, .assign (.tmp 59), 36, none⟩,
 ⟨some 5, .assign (.const (.bool true)), 4, none⟩,
 ⟨some 6, .assign (.const (.int .i64 0)), 28, none⟩] [4, 5, 6])
 .ret)
noncomputable def c27S7 (_ : Unit) : Cmd := (.seq (.seq (.ops [
 ⟨some 54, .move (.tmp 11), 4, none⟩,
 ⟨some 55, .unOp .not 4 (.tmp 54), 4, none⟩] [7, 55])
 (.cond (.tmp 55)
  (.seq (.ops [
  ⟨some 4, .assign (.const (.slice none 0 0)), 36, none⟩,
  ⟨some 5, .assign (.const (.bool false)), 4, none⟩,
  ⟨some 6, .assign (.const (.int .i64 0)), 28, none⟩] [4, 5, 6])
  .ret)
  (.skip [7]))) (sg c27S6))
noncomputable def c27S8 (_ : Unit) : Cmd := (.seq (.seq (.ops [
 ⟨some 49, .move (.tmp 7), 95, none⟩,
 ⟨some 50, .nilCheck (.tmp 49), 0, none⟩,
 ⟨some 51, .fieldAddr 99 (.tmp 50) 3, 0, none⟩,
 ⟨some 52, .load 3 (.tmp 51), 3, none⟩,
 ⟨some 53, .binOp .lss 3 (.tmp 52) (.const (.int .i64 0)) 3, 4, none⟩] [7, 11, 53])
 (.cond (.tmp 53)
  (.seq (.ops [
  ⟨some 4, .assign (.const (.slice none 0 0)), 36, none⟩,
  ⟨some 5, .assign (.const (.bool false)), 4, none⟩,
  ⟨some 6, .assign (.const (.int .i64 35)), 28, none⟩] [4, 5, 6])
  .ret)
  (.skip [7, 11]))) (sg c27S7))
noncomputable def c27S9 (_ : Unit) : Cmd := (.seq (.ops [
 ⟨some 44, .move (.tmp 7), 95, none⟩,
 ⟨some 45, .fieldAddr 24 (.tmp 2) 1, 0, none⟩,
 ⟨some 46, .load 3 (.tmp 45), 3, none⟩,
 ⟨some 47, .call ⟨.value (.func 62), #[(.tmp 46)], #[3]⟩, 36, none⟩,
 ⟨some 48, .call ⟨.value (.func 61), #[(.tmp 44), (.const (.int .i64 0)), (.const (.int .u32 0)), (.tmp 47)], #[95, 3, 63, 36]⟩, 4, none⟩,
 ⟨some 11, .assign (.tmp 48), 4, none⟩] [7, 11]) (sg c27S8))
noncomputable def c27S10 (_ : Unit) : Cmd := (.seq (.seq (.ops [
 ⟨some 17, .load 24 (.tmp 2), 24, none⟩,
 ⟨some 18, .call ⟨.value (.func 56), #[(.tmp 17)], #[24]⟩, 47, none⟩,
 ⟨some 19, .call ⟨.builtin .len, #[(.tmp 18)], #[47]⟩, 3, none⟩,
 ⟨some 20, .move (.const (.int .i64 0)), 3, none⟩] [2, 7, 18, 19, 20]) (sg c27S5)) (sg c27S9))
noncomputable def c27 : Cmd := (.seq (.ops [
 ⟨some 2, .box 24 (.tmp 0), 0, none⟩,
 ⟨some 4, .assign (.const (.slice none 0 0)), 36, none⟩,
 ⟨some 5, .assign (.const (.bool false)), 4, none⟩,
 ⟨some 6, .assign (.const (.int .i64 0)), 28, none⟩] [1, 2])
 (.seq (.ops [
 ⟨some 12, .makeMap 96 none, 96, none⟩,
 ⟨some 13, .move (.tmp 1), 3, none⟩,
 ⟨some 14, .call ⟨.builtin .min, #[(.tmp 13), (.const (.int .i64 32768))], #[3, 3]⟩, 3, none⟩,
 ⟨some 15, .build 99 #[(1, (.tmp 12)), (3, (.tmp 14))], 99, none⟩,
 ⟨some 16, .box 99 (.tmp 15), 95, none⟩,
 ⟨some 7, .assign (.tmp 16), 95, none⟩] [2, 7]) (sg c27S10)))
set_option maxRecDepth 100000 in
theorem ent27 (a0 a1 : Value) (w : World) (K : Value → World → Prop) (h : W Try.prog c27 [(0, a0), (1, a1)] w (finQ Try.prog [.tmp 4, .tmp 5, .tmp 6] K)) : Ret Try.prog 27 [a0, a1] w K :=
  Ret_of_W (code := c27code) Try.func27 (by kernel_rfl) (by kernel_rfl) (of_decide_eq_true (by kernel_rfl)) h
@[go_sem] theorem go27 : goFunc Try.prog 27 = true := by kernel_rfl
@[go_sem] theorem go28 : goFunc Try.prog 28 = true := by kernel_rfl
@[go_sem] theorem go54 : goFunc Try.prog 54 = true := by kernel_rfl
noncomputable def c55code : Code := match Try.f55.body with | some c => c | none => .skip
noncomputable def c55S0 (_ : Unit) : Cmd := (.cond (.tmp 34)
  (.seq (.ops [
  ⟨some 4, .assign (.const (.bool false)), 4, none⟩] [4])
  .ret)
  (.skip [1, 2, 5, 8, 15, 16, 17]))
noncomputable def c55S1 (_ : Unit) : Cmd := (.ops [
 ⟨some 35, .move (.tmp 5), 22, none⟩,
 ⟨some 36, .fieldAddr 24 (.tmp 2) 2, 0, none⟩,
 ⟨some 37, .load 22 (.tmp 36), 22, none⟩,
 ⟨some 38, .move (.tmp 8), 3, none⟩,
 ⟨some 39, .indexAddr 22 (.tmp 37) (.tmp 38), 0, none⟩,
 ⟨some 40, .load 58 (.tmp 39), 58, none⟩,
 ⟨some 41, .buildSlice 22 1 #[(0, (.tmp 40))], 22, none⟩,
 ⟨some 42, .call ⟨.builtin .append, #[(.tmp 35), (.tmp 41)], #[22, 22]⟩, 22, none⟩,
 ⟨some 5, .assign (.tmp 42), 22, none⟩] [1, 2, 5, 15, 16, 17])
noncomputable def c55S2 (_ : Unit) : Cmd := (.seq (.seq (.draw (drawOps 0 c55code) [1, 2, 5, 8, 15, 16, 17, 34]) (sg c55S0)) (sg c55S1))
noncomputable def c55S3 (_ : Unit) : Cmd := (.ops [
 ⟨some 43, .binOp .add 3 (.tmp 17) (.const (.int .i64 1)) 3, 3, none⟩,
 ⟨some 17, .move (.tmp 43), 3, none⟩] [1, 2, 5, 15, 16, 17])
noncomputable def c55S4 (_ : Unit) : Cmd := (.seq (.block 1 (.seq (.ops [
 ⟨some 19, .move (.tmp 17), 3, none⟩,
 ⟨some 20, .indexAddr 36 (.tmp 15) (.tmp 17), 0, none⟩,
 ⟨some 21, .load 3 (.tmp 20), 3, none⟩,
 ⟨some 7, .alloc 3, 0, none⟩,
 ⟨some 6, .assign (.tmp 19), 3, none⟩,
 ⟨none, .store 3 (.tmp 7) (.tmp 21), 0, none⟩] [1, 2, 5, 6, 7, 15, 16, 17])
 (.seq (.ops [
 ⟨some 22, .fieldAddr 24 (.tmp 2) 2, 0, none⟩,
 ⟨some 23, .load 22 (.tmp 22), 22, none⟩,
 ⟨some 24, .makeFunc (.func 81) #[] #[(.tmp 7)], 126, none⟩,
 ⟨some 25, .call ⟨.value (.func 80), #[(.tmp 23), (.tmp 24)], #[22, 126]⟩, 3, none⟩,
 ⟨some 8, .assign (.tmp 25), 3, none⟩] [1, 2, 5, 6, 7, 8, 15, 16, 17]) (sg c55S2)))) (sg c55S3))
noncomputable def c55L0 (_ : Unit) : Cmd := (.seq (.ops [
 ⟨some 18, .binOp .lss 3 (.tmp 17) (.tmp 16) 3, 0, none⟩] [1, 2, 5, 15, 16, 17, 18])
 (.seq (.cond (.tmp 18)
  (.skip [1, 2, 5, 15, 16, 17])
  (.exit 0 [1, 2, 5])) (sg c55S4)))
noncomputable def c55S5 (_ : Unit) : Cmd := (.cond (.tmp 55)
  (.seq (.ops [
  ⟨some 4, .assign (.const (.bool false)), 4, none⟩] [4])
  .ret)
  (.skip [1, 2, 5, 44, 45, 46]))
noncomputable def c55S6 (_ : Unit) : Cmd := (.ops [
 ⟨some 56, .binOp .add 3 (.tmp 46) (.const (.int .i64 1)) 3, 3, none⟩,
 ⟨some 46, .move (.tmp 56), 3, none⟩] [1, 2, 5, 44, 45, 46])
noncomputable def c55S7 (_ : Unit) : Cmd := (.seq (.block 3 (.seq (.ops [
 ⟨some 48, .move (.tmp 46), 3, none⟩,
 ⟨some 49, .indexAddr 22 (.tmp 44) (.tmp 46), 0, none⟩,
 ⟨some 50, .load 58 (.tmp 49), 58, none⟩,
 ⟨some 10, .alloc 58, 0, none⟩,
 ⟨some 9, .assign (.tmp 48), 3, none⟩,
 ⟨none, .store 58 (.tmp 10) (.tmp 50), 0, none⟩] [1, 2, 5, 9, 10, 44, 45, 46])
 (.seq (.ops [
 ⟨some 51, .move (.tmp 5), 22, none⟩,
 ⟨some 52, .move (.tmp 9), 3, none⟩,
 ⟨some 53, .slice 22 (.tmp 51) none (some (.tmp 52)) none, 22, none⟩,
 ⟨some 54, .makeFunc (.func 84) #[] #[(.tmp 10)], 126, none⟩,
 ⟨some 55, .call ⟨.value (.func 83), #[(.tmp 53), (.tmp 54)], #[22, 126]⟩, 4, none⟩] [1, 2, 5, 44, 45, 46, 55]) (sg c55S5)))) (sg c55S6))
noncomputable def c55L1 (_ : Unit) : Cmd := (.seq (.ops [
 ⟨some 47, .binOp .lss 3 (.tmp 46) (.tmp 45) 3, 0, none⟩] [1, 2, 5, 44, 45, 46, 47])
 (.seq (.cond (.tmp 47)
  (.skip [1, 2, 5, 44, 45, 46])
  (.exit 2 [1, 2, 5])) (sg c55S7)))
noncomputable def c55S8 (_ : Unit) : Cmd := (.cond (.tmp 72)
  (.seq (.ops [
  ⟨some 4, .assign (.const (.bool false)), 4, none⟩] [4])
  .ret)
  (.skip [1, 2, 5, 58, 59, 60]))
noncomputable def c55S9 (_ : Unit) : Cmd := (.ops [
 ⟨some 73, .binOp .add 3 (.tmp 60) (.const (.int .i64 1)) 3, 3, none⟩,
 ⟨some 60, .move (.tmp 73), 3, none⟩] [1, 2, 5, 58, 59, 60])
noncomputable def c55S10 (_ : Unit) : Cmd := (.seq (.block 5 (.seq (.ops [
 ⟨some 62, .indexAddr 22 (.tmp 58) (.tmp 60), 0, none⟩,
 ⟨some 63, .load 58 (.tmp 62), 58, none⟩,
 ⟨some 12, .alloc 58, 0, none⟩,
 ⟨none, .store 58 (.tmp 12) (.tmp 63), 0, none⟩] [1, 2, 5, 12, 58, 59, 60])
 (.seq (.ops [
 ⟨some 64, .fieldAddr 58 (.tmp 12) 7, 0, none⟩,
 ⟨some 65, .load 4 (.tmp 64), 4, none⟩,
 ⟨some 66, .move (.tmp 65), 4, none⟩,
 ⟨some 67, .move (.tmp 1), 36, (some (66, true))⟩,
 ⟨some 68, .fieldAddr 58 (.tmp 12) 0, 0, (some (66, true))⟩,
 ⟨some 69, .load 3 (.tmp 68), 3, (some (66, true))⟩,
 ⟨some 70, .call ⟨.value (.func 82), #[(.tmp 67), (.tmp 69)], #[36, 3]⟩, 4, (some (66, true))⟩,
 ⟨some 71, .unOp .not 4 (.tmp 70), 4, (some (66, true))⟩,
 ⟨some 72, .pick (.tmp 66) (.tmp 71) (.const (.bool false)), 4, none⟩] [1, 2, 5, 58, 59, 60, 72]) (sg c55S8)))) (sg c55S9))
noncomputable def c55L2 (_ : Unit) : Cmd := (.seq (.ops [
 ⟨some 61, .binOp .lss 3 (.tmp 60) (.tmp 59) 3, 0, none⟩] [1, 2, 5, 58, 59, 60, 61])
 (.seq (.cond (.tmp 61)
  (.skip [1, 2, 5, 58, 59, 60])
  (.exit 4 [2, 5])) (sg c55S10)))
noncomputable def c55S11 (_ : Unit) : Cmd := (.seq (.ops [
 ⟨some 82, .move (.tmp 14), 4, none⟩,
 ⟨some 4, .assign (.tmp 82), 4, none⟩] [4])
 .ret)
noncomputable def c55S12 (_ : Unit) : Cmd := (.seq (.ops [
 ⟨some 75, .fieldAddr 24 (.tmp 2) 1, 0, none⟩,
 ⟨some 76, .load 3 (.tmp 75), 3, none⟩,
 ⟨some 77, .call ⟨.value (.func 62), #[(.tmp 76)], #[3]⟩, 36, none⟩,
 ⟨some 78, .move (.tmp 5), 22, none⟩,
 ⟨some 79, .call ⟨.value (.func 85), #[(.tmp 77), (.tmp 78)], #[36, 22]⟩, 74, none⟩,
 ⟨some 74, .move (.tmp 79), 74, none⟩,
 ⟨some 80, .extract (.tmp 74) 0, 36, none⟩,
 ⟨some 81, .extract (.tmp 74) 1, 4, none⟩,
 ⟨some 13, .assign (.tmp 80), 36, none⟩,
 ⟨some 14, .assign (.tmp 81), 4, none⟩] [14]) (sg c55S11))
noncomputable def c55S13 (_ : Unit) : Cmd := (.seq (.seq (.ops [
 ⟨some 57, .fieldAddr 24 (.tmp 2) 2, 0, none⟩,
 ⟨some 58, .load 22 (.tmp 57), 22, none⟩,
 ⟨some 59, .call ⟨.builtin .len, #[(.tmp 58)], #[22]⟩, 3, none⟩,
 ⟨some 60, .move (.const (.int .i64 0)), 3, none⟩] [1, 2, 5, 58, 59, 60])
 (.block 4 (.loop (sg c55L2)))) (sg c55S12))
noncomputable def c55S14 (_ : Unit) : Cmd := (.seq (.seq (.ops [
 ⟨some 44, .move (.tmp 5), 22, none⟩,
 ⟨some 45, .call ⟨.builtin .len, #[(.tmp 44)], #[22]⟩, 3, none⟩,
 ⟨some 46, .move (.const (.int .i64 0)), 3, none⟩] [1, 2, 5, 44, 45, 46])
 (.block 2 (.loop (sg c55L1)))) (sg c55S13))
noncomputable def c55 : Cmd := (.seq (.ops [
 ⟨some 2, .box 24 (.tmp 0), 0, none⟩,
 ⟨some 4, .assign (.const (.bool false)), 4, none⟩] [1, 2])
 (.seq (.ops [
 ⟨some 5, .assign (.const (.slice none 0 0)), 22, none⟩] [1, 2, 5])
 (.seq (.seq (.ops [
 ⟨some 15, .move (.tmp 1), 36, none⟩,
 ⟨some 16, .call ⟨.builtin .len, #[(.tmp 15)], #[36]⟩, 3, none⟩,
 ⟨some 17, .move (.const (.int .i64 0)), 3, none⟩] [1, 2, 5, 15, 16, 17])
 (.block 0 (.loop (sg c55L0)))) (sg c55S14))))
noncomputable def c55D0 : List (Bool × Ins) := [
 (true, ⟨some 26, .move (.tmp 8), 3, none⟩),
 (true, ⟨some 27, .binOp .lss 3 (.tmp 26) (.const (.int .i64 0)) 3, 4, none⟩),
 (true, ⟨some 28, .move (.tmp 27), 4, none⟩),
 (true, ⟨some 29, .move (.tmp 1), 36, (some (28, false))⟩),
 (true, ⟨some 30, .move (.tmp 6), 3, (some (28, false))⟩),
 (true, ⟨some 31, .slice 36 (.tmp 29) none (some (.tmp 30)) none, 36, (some (28, false))⟩),
 (false, ⟨some 32, .load 3 (.tmp 7), 3, (some (28, false))⟩),
 (false, ⟨some 33, .call ⟨.value (.func 82), #[(.tmp 31), (.tmp 32)], #[36, 3]⟩, 4, (some (28, false))⟩),
 (true, ⟨some 34, .pick (.tmp 28) (.const (.bool true)) (.tmp 33), 4, none⟩)]
theorem c55draw0 {L : List Nat} {ρ : Env} {w : World} {Q : Post} (h : DL Try.prog c55D0 L ρ w.drew Q) : drawW Try.prog (drawOps 0 c55code) L ρ w Q :=
  drawW_by [(true, 0), (true, 1), (true, 2), (true, 3), (true, 4), (true, 5), (false, 6), (false, 7), (true, 8)] c55D0 (by kernel_rfl) (by kernel_rfl) (by kernel_rfl) h
set_option maxRecDepth 100000 in
theorem ent55 (a0 a1 : Value) (w : World) (K : Value → World → Prop) (h : W Try.prog c55 [(0, a0), (1, a1)] w (finQ Try.prog [.tmp 4] K)) : Ret Try.prog 55 [a0, a1] w K :=
  Ret_of_W (code := c55code) Try.func55 (by kernel_rfl) (by kernel_rfl) (of_decide_eq_true (by kernel_rfl)) h
@[go_sem] theorem go55 : goFunc Try.prog 55 = true := by kernel_rfl
noncomputable def c56code : Code := match Try.f56.body with | some c => c | none => .skip
noncomputable def c56S0 (_ : Unit) : Cmd := (.ops [
  ⟨some 41, .move (.tmp 7), 3, none⟩,
  ⟨some 42, .binOp .add 3 (.tmp 41) (.const (.int .i64 1)) 3, 3, none⟩,
  ⟨some 7, .assign (.tmp 42), 3, none⟩] [1, 4, 6, 7, 13, 14, 15])
noncomputable def c56S1 (_ : Unit) : Cmd := (.cond (.tmp 32)
  (.seq (.ops [
  ⟨some 33, .move (.tmp 4), 47, none⟩,
  ⟨some 34, .fieldAddr 24 (.tmp 1) 0, 0, none⟩,
  ⟨some 35, .load 3 (.tmp 34), 3, none⟩,
  ⟨some 36, .fieldAddr 24 (.tmp 1) 1, 0, none⟩,
  ⟨some 37, .load 3 (.tmp 36), 3, none⟩,
  ⟨some 38, .build 24 #[(0, (.tmp 35)), (1, (.tmp 37))], 24, none⟩,
  ⟨some 39, .buildSlice 47 1 #[(0, (.tmp 38))], 47, none⟩,
  ⟨some 40, .call ⟨.builtin .append, #[(.tmp 33), (.tmp 39)], #[47, 47]⟩, 47, none⟩,
  ⟨some 4, .assign (.tmp 40), 47, none⟩] [1, 4, 6, 7, 13, 14, 15]) (sg c56S0))
  (.skip [1, 4, 6, 7, 13, 14, 15]))
noncomputable def c56S2 (_ : Unit) : Cmd := (.draw (drawOps 1 c56code) [1, 4, 13, 14, 15])
noncomputable def c56S3 (_ : Unit) : Cmd := (.ops [
 ⟨some 55, .binOp .add 3 (.tmp 15) (.const (.int .i64 1)) 3, 3, none⟩,
 ⟨some 15, .move (.tmp 55), 3, none⟩] [1, 4, 13, 14, 15])
noncomputable def c56S4 (_ : Unit) : Cmd := (.seq (.block 1 (.seq (.ops [
 ⟨some 17, .indexAddr 22 (.tmp 13) (.tmp 15), 0, none⟩,
 ⟨some 18, .load 58 (.tmp 17), 58, none⟩,
 ⟨some 6, .alloc 58, 0, none⟩,
 ⟨none, .store 58 (.tmp 6) (.tmp 18), 0, none⟩] [1, 4, 6, 13, 14, 15])
 (.seq (.ops [
 ⟨some 19, .move (.tmp 4), 47, none⟩,
 ⟨some 20, .call ⟨.builtin .len, #[(.tmp 19)], #[47]⟩, 3, none⟩,
 ⟨some 21, .binOp .sub 3 (.tmp 20) (.const (.int .i64 1)) 3, 3, none⟩,
 ⟨some 7, .assign (.tmp 21), 3, none⟩] [1, 4, 6, 7, 13, 14, 15])
 (.seq (.seq (.draw (drawOps 0 c56code) [1, 4, 6, 7, 13, 14, 15, 32]) (sg c56S1)) (sg c56S2))))) (sg c56S3))
noncomputable def c56L0 (_ : Unit) : Cmd := (.seq (.ops [
 ⟨some 16, .binOp .lss 3 (.tmp 15) (.tmp 14) 3, 0, none⟩] [1, 4, 13, 14, 15, 16])
 (.seq (.cond (.tmp 16)
  (.skip [1, 4, 13, 14, 15])
  (.exit 0 [4])) (sg c56S4)))
noncomputable def c56S5 (_ : Unit) : Cmd := (.seq (.ops [
 ⟨some 56, .move (.tmp 4), 47, none⟩,
 ⟨some 2, .assign (.tmp 56), 47, none⟩] [2])
 .ret)
noncomputable def c56S6 (_ : Unit) : Cmd := (.seq (.ops [
 ⟨some 4, .assign (.const (.slice none 0 0)), 47, none⟩] [1, 3, 4])
 (.seq (.seq (.ops [
 ⟨some 13, .move (.tmp 3), 22, none⟩,
 ⟨some 14, .call ⟨.builtin .len, #[(.tmp 13)], #[22]⟩, 3, none⟩,
 ⟨some 15, .move (.const (.int .i64 0)), 3, none⟩] [1, 4, 13, 14, 15])
 (.block 0 (.loop (sg c56L0)))) (sg c56S5)))
noncomputable def c56S7 (_ : Unit) : Cmd := (.seq (.ops [
 ⟨some 11, .move (.tmp 3), 22, none⟩,
 ⟨some 12, .call ⟨.value (.func 58), #[(.tmp 11), (.func 86)], #[22, 102]⟩, 0, none⟩] [1, 3]) (sg c56S6))
noncomputable def c56 : Cmd := (.seq (.ops [
 ⟨some 1, .box 24 (.tmp 0), 0, none⟩,
 ⟨some 2, .assign (.const (.slice none 0 0)), 47, none⟩] [1])
 (.seq (.ops [
 ⟨some 8, .fieldAddr 24 (.tmp 1) 2, 0, none⟩,
 ⟨some 9, .load 22 (.tmp 8), 22, none⟩,
 ⟨some 10, .call ⟨.value (.func 57), #[(.tmp 9)], #[22]⟩, 22, none⟩,
 ⟨some 3, .assign (.tmp 10), 22, none⟩] [1, 3]) (sg c56S7)))
noncomputable def c56D0 : List (Nat × Ins) := [
 (0, ⟨some 22, .move (.tmp 7), 3, none⟩),
 (0, ⟨some 23, .binOp .lss 3 (.tmp 22) (.const (.int .i64 0)) 3, 4, none⟩),
 (0, ⟨some 24, .move (.tmp 23), 4, none⟩),
 (0, ⟨some 25, .move (.tmp 4), 47, (some (24, false))⟩),
 (0, ⟨some 26, .move (.tmp 7), 3, (some (24, false))⟩),
 (0, ⟨some 27, .indexAddr 47 (.tmp 25) (.tmp 26), 0, (some (24, false))⟩),
 (0, ⟨some 28, .fieldAddr 24 (.tmp 27) 2, 0, (some (24, false))⟩),
 (1, ⟨some 29, .load 22 (.tmp 28), 22, (some (24, false))⟩),
 (2, ⟨some 30, .load 58 (.tmp 6), 58, (some (24, false))⟩),
 (3, ⟨some 31, .call ⟨.value (.func 87), #[(.tmp 29), (.tmp 30)], #[22, 58]⟩, 4, (some (24, false))⟩),
 (0, ⟨some 32, .pick (.tmp 24) (.const (.bool true)) (.tmp 31), 4, none⟩)]
theorem c56draw0 {L : List Nat} {ρ : Env} {w : World} {Q : Post} (S : World → Prop) (hS : S w.drew) (h : DG Try.prog S c56D0 L ρ w.drew Q) : drawW Try.prog (drawOps 0 c56code) L ρ w Q :=
  drawW_held [7] [(0, 0), (0, 1), (0, 2), (0, 3), (0, 4), (0, 5), (0, 6), (1, 7), (2, 8), (3, 9), (0, 10)] c56D0 (by kernel_rfl) (by kernel_rfl) (by kernel_rfl) S hS h
noncomputable def c56D1 : List (Nat × Ins) := [
 (0, ⟨some 43, .move (.tmp 4), 47, none⟩),
 (0, ⟨some 44, .move (.tmp 7), 3, none⟩),
 (0, ⟨some 45, .move (.tmp 4), 47, none⟩),
 (0, ⟨some 46, .move (.tmp 7), 3, none⟩),
 (0, ⟨some 47, .indexAddr 47 (.tmp 45) (.tmp 46), 0, none⟩),
 (0, ⟨some 48, .fieldAddr 24 (.tmp 47) 2, 0, none⟩),
 (1, ⟨some 49, .load 22 (.tmp 48), 22, none⟩),
 (2, ⟨some 50, .load 58 (.tmp 6), 58, none⟩),
 (2, ⟨some 51, .buildSlice 22 1 #[(0, (.tmp 50))], 22, none⟩),
 (3, ⟨some 52, .call ⟨.builtin .append, #[(.tmp 49), (.tmp 51)], #[22, 22]⟩, 22, none⟩),
 (0, ⟨some 53, .indexAddr 47 (.tmp 43) (.tmp 44), 0, none⟩),
 (0, ⟨some 54, .fieldAddr 24 (.tmp 53) 2, 0, none⟩),
 (3, ⟨none, .store 22 (.tmp 54) (.tmp 52), 0, none⟩)]
theorem c56draw1 {L : List Nat} {ρ : Env} {w : World} {Q : Post} (S : World → Prop) (hS : S w.drew) (h : DG Try.prog S c56D1 L ρ w.drew Q) : drawW Try.prog (drawOps 1 c56code) L ρ w Q :=
  drawW_held [6] [(0, 0), (0, 1), (0, 2), (0, 3), (0, 4), (0, 5), (1, 6), (2, 7), (2, 8), (3, 9), (0, 10), (0, 11), (3, 12)] c56D1 (by kernel_rfl) (by kernel_rfl) (by kernel_rfl) S hS h
set_option maxRecDepth 100000 in
theorem ent56 (a0 : Value) (w : World) (K : Value → World → Prop) (h : W Try.prog c56 [(0, a0)] w (finQ Try.prog [.tmp 2] K)) : Ret Try.prog 56 [a0] w K :=
  Ret_of_W (code := c56code) Try.func56 (by kernel_rfl) (by kernel_rfl) (of_decide_eq_true (by kernel_rfl)) h
@[go_sem] theorem go56 : goFunc Try.prog 56 = true := by kernel_rfl
noncomputable def c57code : Code := match Try.f57.body with | some c => c | none => .skip
noncomputable def c57S0 (_ : Unit) : Cmd := .ret
noncomputable def c57S1 (_ : Unit) : Cmd := (.seq (.ops [
 ⟨some 5, .buildSlice 22 0 #[], 22, none⟩,
 ⟨some 6, .move (.tmp 0), 22, none⟩,
 ⟨some 7, .call ⟨.builtin .append, #[(.tmp 5), (.tmp 6)], #[22, 22]⟩, 22, none⟩,
 ⟨some 2, .assign (.tmp 7), 22, none⟩] [2]) (sg c57S0))
noncomputable def c57 : Cmd := (.seq (.ops [
 ⟨some 2, .assign (.const (.slice none 0 0)), 22, none⟩] [0])
 (.seq (.seq (.ops [
 ⟨some 3, .move (.tmp 0), 22, none⟩,
 ⟨some 4, .binOp .eql 22 (.tmp 3) (.const (.slice none 0 0)) 22, 4, none⟩] [0, 4])
 (.cond (.tmp 4)
  (.seq (.ops [
  ⟨some 2, .assign (.const (.slice none 0 0)), 22, none⟩] [2])
  .ret)
  (.skip [0]))) (sg c57S1)))
set_option maxRecDepth 100000 in
theorem ent57 (a0 : Value) (w : World) (K : Value → World → Prop) (h : W Try.prog c57 [(0, a0)] w (finQ Try.prog [.tmp 2] K)) : Ret Try.prog 57 [a0] w K :=
  Ret_of_W (code := c57code) Try.func57 (by kernel_rfl) (by kernel_rfl) (of_decide_eq_true (by kernel_rfl)) h
@[go_sem] theorem go57 : goFunc Try.prog 57 = true := by kernel_rfl
noncomputable def c58code : Code := match Try.f58.body with | some c => c | none => .skip
noncomputable def c58 : Cmd := (.seq (.ops [
 ⟨some 5, .move (.tmp 0), 22, none⟩,
 ⟨some 6, .call ⟨.builtin .len, #[(.tmp 5)], #[22]⟩, 3, none⟩,
 ⟨some 4, .assign (.tmp 6), 3, none⟩] [0, 1, 4])
 (.ops [
 ⟨some 7, .move (.tmp 0), 22, none⟩,
 ⟨some 8, .move (.tmp 4), 3, none⟩,
 ⟨some 9, .move (.tmp 4), 3, none⟩,
 ⟨some 10, .convert 3 76 (.tmp 9), 76, none⟩,
 ⟨some 11, .call ⟨.value (.func 70), #[(.tmp 10)], #[76]⟩, 3, none⟩,
 ⟨some 12, .move (.tmp 1), 102, none⟩,
 ⟨some 13, .call ⟨.value (.func 88), #[(.tmp 7), (.const (.int .i64 0)), (.tmp 8), (.tmp 11), (.tmp 12)], #[22, 3, 3, 3, 102]⟩, 0, none⟩] []))
set_option maxRecDepth 100000 in
theorem ent58 (a0 a1 : Value) (w : World) (K : Value → World → Prop) (h : W Try.prog c58 [(0, a0), (1, a1)] w (finQ Try.prog [] K)) : Ret Try.prog 58 [a0, a1] w K :=
  Ret_of_W (code := c58code) Try.func58 (by kernel_rfl) (by kernel_rfl) (of_decide_eq_true (by kernel_rfl)) h
@[go_sem] theorem go58 : goFunc Try.prog 58 = true := by kernel_rfl
noncomputable def c59code : Code := match Try.f59.body with | some c => c | none => .skip
noncomputable def c59S0 (_ : Unit) : Cmd := .ret
noncomputable def c59 : Cmd := (.seq (.ops [
 ⟨some 2, .box 58 (.tmp 0), 0, none⟩,
 ⟨some 3, .box 58 (.tmp 1), 0, none⟩,
 ⟨some 4, .assign (.const (.int .i64 0)), 3, none⟩] [2, 3])
 (.seq (.ops [
 ⟨some 5, .fieldAddr 58 (.tmp 2) 0, 0, none⟩,
 ⟨some 6, .load 3 (.tmp 5), 3, none⟩,
 ⟨some 7, .fieldAddr 58 (.tmp 3) 0, 0, none⟩,
 ⟨some 8, .load 3 (.tmp 7), 3, none⟩,
 ⟨some 9, .call ⟨.value (.func 60), #[(.tmp 6), (.tmp 8)], #[3, 3]⟩, 3, none⟩,
 ⟨some 4, .assign (.tmp 9), 3, none⟩] [4]) (sg c59S0)))
set_option maxRecDepth 100000 in
theorem ent59 (a0 a1 : Value) (w : World) (K : Value → World → Prop) (h : W Try.prog c59 [(0, a0), (1, a1)] w (finQ Try.prog [.tmp 4] K)) : Ret Try.prog 59 [a0, a1] w K :=
  Ret_of_W (code := c59code) Try.func59 (by kernel_rfl) (by kernel_rfl) (of_decide_eq_true (by kernel_rfl)) h
@[go_sem] theorem go59 : goFunc Try.prog 59 = true := by kernel_rfl
noncomputable def c60code : Code := match Try.f60.body with | some c => c | none => .skip
noncomputable def c60S0 (_ : Unit) : Cmd := (.seq (.ops [
  ⟨some 4, .assign (.const (.int .i64 (-1))), 3, none⟩] [4])
  .ret)
noncomputable def c60S1 (_ : Unit) : Cmd := (.seq (.ops [
 ⟨some 4, .assign (.const (.int .i64 0)), 3, none⟩] [4])
 .ret)
noncomputable def c60S2 (_ : Unit) : Cmd := (.seq (.seq (.ops [
 ⟨some 17, .move (.tmp 0), 3, none⟩,
 ⟨some 18, .move (.tmp 1), 3, none⟩,
 ⟨some 19, .binOp .gtr 3 (.tmp 17) (.tmp 18) 3, 4, none⟩] [19])
 (.cond (.tmp 19)
  (.seq (.ops [
  ⟨some 4, .assign (.const (.int .i64 1)), 3, none⟩] [4])
  .ret)
  (.skip []))) (sg c60S1))
noncomputable def c60S3 (_ : Unit) : Cmd := (.seq (.seq (.ops [
 ⟨some 14, .move (.tmp 0), 3, none⟩,
 ⟨some 15, .move (.tmp 1), 3, none⟩,
 ⟨some 16, .binOp .lss 3 (.tmp 14) (.tmp 15) 3, 4, none⟩] [0, 1, 16])
 (.cond (.tmp 16)
  (.seq (.ops [
  ⟨some 4, .assign (.const (.int .i64 (-1))), 3, none⟩] [4])
  .ret)
  (.skip [0, 1]))) (sg c60S2))
noncomputable def c60S4 (_ : Unit) : Cmd := (.seq (.seq (.ops [
 ⟨some 13, .move (.tmp 6), 4, none⟩] [0, 1, 13])
 (.cond (.tmp 13)
  (.seq (.ops [
  ⟨some 4, .assign (.const (.int .i64 1)), 3, none⟩] [4])
  .ret)
  (.skip [0, 1]))) (sg c60S3))
noncomputable def c60S5 (_ : Unit) : Cmd := (.seq (.seq (.ops [
 ⟨some 11, .move (.tmp 5), 4, none⟩] [0, 1, 6, 11])
 (.cond (.tmp 11)
  (.seq (.seq (.ops [
  ⟨some 12, .move (.tmp 6), 4, none⟩] [12])
  (.cond (.tmp 12)
   (.seq (.ops [
   ⟨some 4, .assign (.const (.int .i64 0)), 3, none⟩] [4])
   .ret)
   (.skip []))) (sg c60S0))
  (.skip [0, 1, 6]))) (sg c60S4))
noncomputable def c60S6 (_ : Unit) : Cmd := (.seq (.ops [
 ⟨some 9, .move (.tmp 1), 3, none⟩,
 ⟨some 10, .call ⟨.value (.func 89), #[(.tmp 9)], #[3]⟩, 4, none⟩,
 ⟨some 6, .assign (.tmp 10), 4, none⟩] [0, 1, 5, 6]) (sg c60S5))
noncomputable def c60 : Cmd := (.seq (.ops [
 ⟨some 4, .assign (.const (.int .i64 0)), 3, none⟩] [0, 1])
 (.seq (.ops [
 ⟨some 7, .move (.tmp 0), 3, none⟩,
 ⟨some 8, .call ⟨.value (.func 89), #[(.tmp 7)], #[3]⟩, 4, none⟩,
 ⟨some 5, .assign (.tmp 8), 4, none⟩] [0, 1, 5]) (sg c60S6)))
set_option maxRecDepth 100000 in
theorem ent60 (a0 a1 : Value) (w : World) (K : Value → World → Prop) (h : W Try.prog c60 [(0, a0), (1, a1)] w (finQ Try.prog [.tmp 4] K)) : Ret Try.prog 60 [a0, a1] w K :=
  Ret_of_W (code := c60code) Try.func60 (by kernel_rfl) (by kernel_rfl) (of_decide_eq_true (by kernel_rfl)) h
@[go_sem] theorem go60 : goFunc Try.prog 60 = true := by kernel_rfl
noncomputable def c61code : Code := match Try.f61.body with | some c => c | none => .skip
noncomputable def c61S0 (_ : Unit) : Cmd := .ret
noncomputable def c61S1 (_ : Unit) : Cmd := (.cond (.tmp 31)
  (.seq (.opsX [
  ⟨some 32, .move (.tmp 0), 95, none⟩,
  ⟨some 33, .move (.tmp 1), 3, none⟩,
  ⟨some 34, .binOp .add 3 (.tmp 33) (.const (.int .i64 1)) 3, 3, none⟩,
  ⟨some 35, .move (.tmp 3), 36, none⟩,
  ⟨some 36, .call ⟨.value (.func 61), #[(.tmp 32), (.tmp 34), (.const (.int .u32 0)), (.tmp 35)], #[95, 3, 63, 36]⟩, 4, none⟩,
  ⟨some 8, .assign (.tmp 36), 4, none⟩] [8]) (sg c61S0))
  (.skip [0, 1, 2, 3, 9]))
noncomputable def c61S2 (_ : Unit) : Cmd := (.cond (.tmp 47)
  (.seq (.ops [
  ⟨some 8, .assign (.const (.bool false)), 4, none⟩] [8])
  .ret)
  (.skip [0, 1, 2, 3, 9, 10]))
noncomputable def c61S3 (_ : Unit) : Cmd := (.cond (.tmp 78)
  (.exit 1 [0, 1, 2, 3, 9, 10, 60, 61, 62])
  (.skip [0, 1, 2, 3, 9, 10, 11, 12, 60, 61, 62]))
noncomputable def c61S4 (_ : Unit) : Cmd := (.cond (.tmp 106)
  (.seq (.ops [
  ⟨some 8, .assign (.const (.bool true)), 4, none⟩] [8])
  .ret)
  (.skip [0, 1, 2, 3, 9, 10, 60, 61, 62]))
noncomputable def c61S5 (_ : Unit) : Cmd := (.draw (drawOps 2 c61code) [0, 1, 2, 3, 9, 10, 60, 61, 62])
noncomputable def c61S6 (_ : Unit) : Cmd := (.seq (.seq (.ops [
 ⟨some 98, .move (.tmp 0), 95, none⟩,
 ⟨some 99, .move (.tmp 1), 3, none⟩,
 ⟨some 100, .move (.tmp 2), 63, none⟩,
 ⟨some 101, .move (.tmp 11), 3, none⟩,
 ⟨some 102, .convert 3 76 (.tmp 101), 76, none⟩,
 ⟨some 103, .binOp .shl 63 (.const (.int .u32 1)) (.tmp 102) 76, 63, none⟩,
 ⟨some 104, .binOp .or 63 (.tmp 100) (.tmp 103) 63, 63, none⟩,
 ⟨some 105, .move (.tmp 13), 36, none⟩,
 ⟨some 106, .call ⟨.value (.func 61), #[(.tmp 98), (.tmp 99), (.tmp 104), (.tmp 105)], #[95, 3, 63, 36]⟩, 4, none⟩] [0, 1, 2, 3, 9, 10, 60, 61, 62, 106]) (sg c61S4)) (sg c61S5))
noncomputable def c61S7 (_ : Unit) : Cmd := (.seq (.draw (drawOps 1 c61code) [0, 1, 2, 3, 9, 10, 11, 13, 60, 61, 62]) (sg c61S6))
noncomputable def c61S8 (_ : Unit) : Cmd := (.seq (.seq (.ops [
 ⟨some 85, .move (.tmp 14), 4, none⟩,
 ⟨some 86, .unOp .not 4 (.tmp 85), 4, none⟩] [0, 1, 2, 3, 9, 10, 11, 12, 13, 60, 61, 62, 86])
 (.cond (.tmp 86)
  (.exit 1 [0, 1, 2, 3, 9, 10, 60, 61, 62])
  (.skip [0, 1, 2, 3, 9, 10, 11, 12, 13, 60, 61, 62]))) (sg c61S7))
noncomputable def c61S9 (_ : Unit) : Cmd := (.seq (.ops [
 ⟨some 80, .move (.tmp 3), 36, none⟩,
 ⟨some 81, .load 58 (.tmp 12), 58, none⟩,
 ⟨some 82, .call ⟨.value (.func 33), #[(.tmp 80), (.tmp 81)], #[36, 58]⟩, 74, none⟩,
 ⟨some 79, .move (.tmp 82), 74, none⟩,
 ⟨some 83, .extract (.tmp 79) 0, 36, none⟩,
 ⟨some 84, .extract (.tmp 79) 1, 4, none⟩,
 ⟨some 13, .assign (.tmp 83), 36, none⟩,
 ⟨some 14, .assign (.tmp 84), 4, none⟩] [0, 1, 2, 3, 9, 10, 11, 12, 13, 14, 60, 61, 62]) (sg c61S8))
noncomputable def c61S10 (_ : Unit) : Cmd := (.opsX [
 ⟨some 121, .binOp .add 3 (.tmp 62) (.const (.int .i64 1)) 3, 3, none⟩,
 ⟨some 62, .move (.tmp 121), 3, none⟩] [0, 1, 2, 3, 9, 10, 60, 61, 62])
noncomputable def c61S11 (_ : Unit) : Cmd := (.seq (.block 1 (.seq (.ops [
 ⟨some 64, .move (.tmp 62), 3, none⟩,
 ⟨some 65, .indexAddr 22 (.tmp 60) (.tmp 62), 0, none⟩,
 ⟨some 66, .load 58 (.tmp 65), 58, none⟩,
 ⟨some 12, .alloc 58, 0, none⟩,
 ⟨some 11, .assign (.tmp 64), 3, none⟩,
 ⟨none, .store 58 (.tmp 12) (.tmp 66), 0, none⟩] [0, 1, 2, 3, 9, 10, 11, 12, 60, 61, 62])
 (.seq (.seq (.ops [
 ⟨some 67, .move (.tmp 2), 63, none⟩,
 ⟨some 68, .move (.tmp 11), 3, none⟩,
 ⟨some 69, .convert 3 76 (.tmp 68), 76, none⟩,
 ⟨some 70, .binOp .shr 63 (.tmp 67) (.tmp 69) 76, 63, none⟩,
 ⟨some 71, .binOp .and 63 (.tmp 70) (.const (.int .u32 1)) 63, 63, none⟩,
 ⟨some 72, .binOp .eql 63 (.tmp 71) (.const (.int .u32 1)) 63, 4, none⟩,
 ⟨some 73, .move (.tmp 72), 4, none⟩,
 ⟨some 74, .move (.tmp 9), 22, (some (73, false))⟩,
 ⟨some 75, .move (.tmp 2), 63, (some (73, false))⟩,
 ⟨some 76, .load 58 (.tmp 12), 58, (some (73, false))⟩,
 ⟨some 77, .call ⟨.value (.func 91), #[(.tmp 74), (.tmp 75), (.tmp 76)], #[22, 63, 58]⟩, 4, (some (73, false))⟩,
 ⟨some 78, .pick (.tmp 73) (.const (.bool true)) (.tmp 77), 4, none⟩] [0, 1, 2, 3, 9, 10, 11, 12, 60, 61, 62, 78]) (sg c61S3)) (sg c61S9)))) (sg c61S10))
noncomputable def c61L0 (_ : Unit) : Cmd := (.seq (.ops [
 ⟨some 63, .binOp .lss 3 (.tmp 62) (.tmp 61) 3, 0, none⟩] [0, 1, 2, 3, 9, 10, 60, 61, 62, 63])
 (.seq (.cond (.tmp 63)
  (.skip [0, 1, 2, 3, 9, 10, 60, 61, 62])
  (.exit 0 [0, 10])) (sg c61S11)))
noncomputable def c61S12 (_ : Unit) : Cmd := (.seq (.ops [
 ⟨some 8, .assign (.const (.bool false)), 4, none⟩] [8])
 .ret)
noncomputable def c61S13 (_ : Unit) : Cmd := (.seq (.draw (drawOps 3 c61code) []) (sg c61S12))
noncomputable def c61S14 (_ : Unit) : Cmd := (.seq (.seq (.ops [
 ⟨some 60, .move (.tmp 9), 22, none⟩,
 ⟨some 61, .call ⟨.builtin .len, #[(.tmp 60)], #[22]⟩, 3, none⟩,
 ⟨some 62, .move (.const (.int .i64 0)), 3, none⟩] [0, 1, 2, 3, 9, 10, 60, 61, 62])
 (.block 0 (.loop (sg c61L0)))) (sg c61S13))
noncomputable def c61S15 (_ : Unit) : Cmd := (.seq (.seq (.opsX [
 ⟨some 48, .move (.tmp 0), 95, none⟩,
 ⟨some 49, .nilCheck (.tmp 48), 0, none⟩,
 ⟨some 50, .fieldAddr 99 (.tmp 49) 3, 0, none⟩,
 ⟨some 51, .load 3 (.tmp 50), 3, none⟩,
 ⟨some 52, .binOp .sub 3 (.tmp 51) (.const (.int .i64 1)) 3, 3, none⟩,
 ⟨some 53, .nilCheck (.tmp 48), 0, none⟩,
 ⟨some 54, .fieldAddr 99 (.tmp 53) 3, 0, none⟩,
 ⟨none, .store 3 (.tmp 54) (.tmp 52), 0, none⟩] [0, 1, 2, 3, 9, 10])
 (.seq (.ops [
 ⟨some 55, .move (.tmp 0), 95, none⟩,
 ⟨some 56, .nilCheck (.tmp 55), 0, none⟩,
 ⟨some 57, .fieldAddr 99 (.tmp 56) 3, 0, none⟩,
 ⟨some 58, .load 3 (.tmp 57), 3, none⟩,
 ⟨some 59, .binOp .lss 3 (.tmp 58) (.const (.int .i64 0)) 3, 4, none⟩] [0, 1, 2, 3, 9, 10, 59])
 (.cond (.tmp 59)
  (.seq (.ops [
  ⟨some 8, .assign (.const (.bool false)), 4, none⟩] [8])
  .ret)
  (.skip [0, 1, 2, 3, 9, 10])))) (sg c61S14))
noncomputable def c61S16 (_ : Unit) : Cmd := (.seq (.seq (.draw (drawOps 0 c61code) [0, 1, 2, 3, 9, 10, 47]) (sg c61S2)) (sg c61S15))
noncomputable def c61S17 (_ : Unit) : Cmd := (.seq (.ops [
 ⟨some 37, .move (.tmp 1), 3, none⟩,
 ⟨some 38, .move (.tmp 2), 63, none⟩,
 ⟨some 39, .move (.tmp 3), 36, none⟩,
 ⟨some 40, .call ⟨.value (.func 43), #[(.tmp 39)], #[36]⟩, 9, none⟩,
 ⟨some 41, .build 134 #[(0, (.tmp 37)), (1, (.tmp 38)), (2, (.tmp 40))], 134, none⟩,
 ⟨some 10, .alloc 134, 0, none⟩,
 ⟨none, .store 134 (.tmp 10) (.tmp 41), 0, none⟩] [0, 1, 2, 3, 9, 10]) (sg c61S16))
noncomputable def c61S18 (_ : Unit) : Cmd := (.seq (.ops [
 ⟨some 22, .move (.tmp 0), 95, none⟩,
 ⟨some 23, .nilCheck (.tmp 22), 0, none⟩,
 ⟨some 24, .fieldAddr 99 (.tmp 23) 0, 0, none⟩,
 ⟨some 25, .load 97 (.tmp 24), 97, none⟩,
 ⟨some 26, .move (.tmp 1), 3, none⟩,
 ⟨some 27, .indexAddr 97 (.tmp 25) (.tmp 26), 0, none⟩,
 ⟨some 28, .load 22 (.tmp 27), 22, none⟩,
 ⟨some 9, .assign (.tmp 28), 22, none⟩] [0, 1, 2, 3, 9])
 (.seq (.seq (.ops [
 ⟨some 29, .move (.tmp 9), 22, none⟩,
 ⟨some 30, .move (.tmp 2), 63, none⟩,
 ⟨some 31, .call ⟨.value (.func 90), #[(.tmp 29), (.tmp 30)], #[22, 63]⟩, 4, none⟩] [0, 1, 2, 3, 9, 31]) (sg c61S1)) (sg c61S17)))
noncomputable def c61 : Cmd := (.seq (.ops [
 ⟨some 8, .assign (.const (.bool false)), 4, none⟩] [0, 1, 2, 3])
 (.seq (.seq (.ops [
 ⟨some 15, .move (.tmp 1), 3, none⟩,
 ⟨some 16, .move (.tmp 0), 95, none⟩,
 ⟨some 17, .nilCheck (.tmp 16), 0, none⟩,
 ⟨some 18, .fieldAddr 99 (.tmp 17) 0, 0, none⟩,
 ⟨some 19, .load 97 (.tmp 18), 97, none⟩,
 ⟨some 20, .call ⟨.builtin .len, #[(.tmp 19)], #[97]⟩, 3, none⟩,
 ⟨some 21, .binOp .eql 3 (.tmp 15) (.tmp 20) 3, 4, none⟩] [0, 1, 2, 3, 21])
 (.cond (.tmp 21)
  (.seq (.ops [
  ⟨some 8, .assign (.const (.bool true)), 4, none⟩] [8])
  .ret)
  (.skip [0, 1, 2, 3]))) (sg c61S18)))
noncomputable def c61D0 : List (Nat × Ins) := [
 (0, ⟨some 42, .move (.tmp 0), 95, none⟩),
 (0, ⟨some 43, .nilCheck (.tmp 42), 0, none⟩),
 (0, ⟨some 44, .fieldAddr 99 (.tmp 43) 1, 0, none⟩),
 (1, ⟨some 45, .load 96 (.tmp 44), 96, none⟩),
 (2, ⟨some 46, .load 134 (.tmp 10), 134, none⟩),
 (3, ⟨some 47, .lookup 96 (.tmp 45) (.tmp 46) false, 4, none⟩)]
theorem c61draw0 {L : List Nat} {ρ : Env} {w : World} {Q : Post} (S : World → Prop) (hS : S w.drew) (h : DG Try.prog S c61D0 L ρ w.drew Q) : drawW Try.prog (drawOps 0 c61code) L ρ w Q :=
  drawW_held [3] [(0, 0), (0, 1), (0, 2), (1, 3), (2, 4), (3, 5)] c61D0 (by kernel_rfl) (by kernel_rfl) (by kernel_rfl) S hS h
noncomputable def c61D1 : List (Nat × Ins) := [
 (0, ⟨some 87, .move (.tmp 0), 95, none⟩),
 (0, ⟨some 88, .move (.tmp 0), 95, none⟩),
 (0, ⟨some 89, .nilCheck (.tmp 88), 0, none⟩),
 (0, ⟨some 90, .fieldAddr 99 (.tmp 89) 2, 0, none⟩),
 (0, ⟨some 92, .fieldAddr 58 (.tmp 12) 0, 0, none⟩),
 (1, ⟨some 91, .load 36 (.tmp 90), 36, none⟩),
 (2, ⟨some 93, .load 3 (.tmp 92), 3, none⟩),
 (2, ⟨some 94, .buildSlice 36 1 #[(0, (.tmp 93))], 36, none⟩),
 (3, ⟨some 95, .call ⟨.builtin .append, #[(.tmp 91), (.tmp 94)], #[36, 36]⟩, 36, none⟩),
 (0, ⟨some 96, .nilCheck (.tmp 87), 0, none⟩),
 (0, ⟨some 97, .fieldAddr 99 (.tmp 96) 2, 0, none⟩),
 (3, ⟨none, .store 36 (.tmp 97) (.tmp 95), 0, none⟩)]
theorem c61draw1 {L : List Nat} {ρ : Env} {w : World} {Q : Post} (S : World → Prop) (hS : S w.drew) (h : DG Try.prog S c61D1 L ρ w.drew Q) : drawW Try.prog (drawOps 1 c61code) L ρ w Q :=
  drawW_held [4] [(0, 0), (0, 1), (0, 2), (0, 3), (0, 5), (1, 4), (2, 6), (2, 7), (3, 8), (0, 9), (0, 10), (3, 11)] c61D1 (by kernel_rfl) (by kernel_rfl) (by kernel_rfl) S hS h
noncomputable def c61D2 : List (Nat × Ins) := [
 (0, ⟨some 107, .move (.tmp 0), 95, none⟩),
 (0, ⟨some 108, .move (.tmp 0), 95, none⟩),
 (0, ⟨some 109, .nilCheck (.tmp 108), 0, none⟩),
 (0, ⟨some 110, .fieldAddr 99 (.tmp 109) 2, 0, none⟩),
 (0, ⟨some 112, .move (.tmp 0), 95, none⟩),
 (0, ⟨some 113, .nilCheck (.tmp 112), 0, none⟩),
 (0, ⟨some 114, .fieldAddr 99 (.tmp 113) 2, 0, none⟩),
 (1, ⟨some 111, .load 36 (.tmp 110), 36, none⟩),
 (2, ⟨some 115, .load 36 (.tmp 114), 36, none⟩),
 (0, ⟨some 116, .call ⟨.builtin .len, #[(.tmp 115)], #[36]⟩, 3, none⟩),
 (0, ⟨some 117, .binOp .sub 3 (.tmp 116) (.const (.int .i64 1)) 3, 3, none⟩),
 (0, ⟨some 118, .slice 36 (.tmp 111) none (some (.tmp 117)) none, 36, none⟩),
 (0, ⟨some 119, .nilCheck (.tmp 107), 0, none⟩),
 (0, ⟨some 120, .fieldAddr 99 (.tmp 119) 2, 0, none⟩),
 (3, ⟨none, .store 36 (.tmp 120) (.tmp 118), 0, none⟩)]
theorem c61draw2 {L : List Nat} {ρ : Env} {w : World} {Q : Post} (S : World → Prop) (hS : S w.drew) (h : DG Try.prog S c61D2 L ρ w.drew Q) : drawW Try.prog (drawOps 2 c61code) L ρ w Q :=
  drawW_held [4] [(0, 0), (0, 1), (0, 2), (0, 3), (0, 5), (0, 6), (0, 7), (1, 4), (2, 8), (0, 9), (0, 10), (0, 11), (0, 12), (0, 13), (3, 14)] c61D2 (by kernel_rfl) (by kernel_rfl) (by kernel_rfl) S hS h
noncomputable def c61D3 : List (Nat × Ins) := [
 (0, ⟨some 122, .move (.tmp 0), 95, none⟩),
 (0, ⟨some 123, .nilCheck (.tmp 122), 0, none⟩),
 (0, ⟨some 124, .fieldAddr 99 (.tmp 123) 1, 0, none⟩),
 (1, ⟨some 125, .load 96 (.tmp 124), 96, none⟩),
 (2, ⟨some 126, .load 134 (.tmp 10), 134, none⟩),
 (3, ⟨none, .mapUpdate 96 (.tmp 125) (.tmp 126) (.const (.bool true)), 0, none⟩)]
theorem c61draw3 {L : List Nat} {ρ : Env} {w : World} {Q : Post} (S : World → Prop) (hS : S w.drew) (h : DG Try.prog S c61D3 L ρ w.drew Q) : drawW Try.prog (drawOps 3 c61code) L ρ w Q :=
  drawW_held [3] [(0, 0), (0, 1), (0, 2), (1, 3), (2, 4), (3, 5)] c61D3 (by kernel_rfl) (by kernel_rfl) (by kernel_rfl) S hS h
set_option maxRecDepth 100000 in
theorem ent61 (a0 a1 a2 a3 : Value) (w : World) (K : Value → World → Prop) (h : W Try.prog c61 [(0, a0), (1, a1), (2, a2), (3, a3)] w (finQ Try.prog [.tmp 8] K)) : Ret Try.prog 61 [a0, a1, a2, a3] w K :=
  Ret_of_W (code := c61code) Try.func61 (by kernel_rfl) (by kernel_rfl) (of_decide_eq_true (by kernel_rfl)) h
@[go_sem] theorem go61 : goFunc Try.prog 61 = true := by kernel_rfl
noncomputable def c62code : Code := match Try.f62.body with | some c => c | none => .skip
noncomputable def c62S0 (_ : Unit) : Cmd := (.cond (.tmp 4)
  (.seq (.ops [
  ⟨some 7, .buildSlice 36 1 #[(0, (.const (.int .i64 0)))], 36, none⟩,
  ⟨some 2, .assign (.tmp 7), 36, none⟩] [2])
  .ret)
  (.skip []))
noncomputable def c62S1 (_ : Unit) : Cmd := (.seq (.ops [
 ⟨some 2, .assign (.const (.slice none 0 0)), 36, none⟩] [2])
 .ret)
noncomputable def c62 : Cmd := (.seq (.ops [
 ⟨some 2, .assign (.const (.slice none 0 0)), 36, none⟩] [0])
 (.seq (.seq (.ops [
 ⟨some 3, .move (.tmp 0), 3, none⟩] [3])
 (.block 0 (.seq (.seq (.ops [
 ⟨some 5, .binOp .eql 3 (.tmp 3) (.const (.int .i64 1)) 3, 4, none⟩,
 ⟨some 4, .assign (.tmp 5), 4, none⟩] [3, 4])
 (.cond (.tmp 4)
  (.skip [4])
  (.ops [
  ⟨some 6, .binOp .eql 3 (.tmp 3) (.const (.int .i64 2)) 3, 4, none⟩,
  ⟨some 4, .assign (.tmp 6), 4, none⟩] [4]))) (sg c62S0)))) (sg c62S1)))
set_option maxRecDepth 100000 in
theorem ent62 (a0 : Value) (w : World) (K : Value → World → Prop) (h : W Try.prog c62 [(0, a0)] w (finQ Try.prog [.tmp 2] K)) : Ret Try.prog 62 [a0] w K :=
  Ret_of_W (code := c62code) Try.func62 (by kernel_rfl) (by kernel_rfl) (of_decide_eq_true (by kernel_rfl)) h
@[go_sem] theorem go62 : goFunc Try.prog 62 = true := by kernel_rfl
@[go_sem] theorem go63 : goFunc Try.prog 63 = true := by kernel_rfl
@[go_sem] theorem go64 : goFunc Try.prog 64 = true := by kernel_rfl
@[go_sem] theorem go70 : goFunc Try.prog 70 = true := by kernel_rfl
noncomputable def c80code : Code := match Try.f80.body with | some c => c | none => .skip
noncomputable def c80S0 (_ : Unit) : Cmd := (.cond (.tmp 16)
  (.seq (.ops [
  ⟨some 17, .move (.tmp 5), 3, none⟩,
  ⟨some 4, .assign (.tmp 17), 3, none⟩] [4])
  .ret)
  (.skip [0, 1, 7, 8]))
noncomputable def c80S1 (_ : Unit) : Cmd := (.ops [
 ⟨some 18, .binOp .add 3 (.tmp 8) (.const (.int .i64 1)) 3, 3, none⟩,
 ⟨some 8, .move (.tmp 18), 3, none⟩] [0, 1, 7, 8])
noncomputable def c80S2 (_ : Unit) : Cmd := (.seq (.block 1 (.seq (.ops [
 ⟨some 10, .move (.tmp 8), 3, none⟩,
 ⟨some 5, .assign (.tmp 10), 3, none⟩] [0, 1, 5, 7, 8])
 (.seq (.ops [
 ⟨some 11, .move (.tmp 1), 126, none⟩,
 ⟨some 12, .move (.tmp 0), 22, none⟩,
 ⟨some 13, .move (.tmp 5), 3, none⟩,
 ⟨some 14, .indexAddr 22 (.tmp 12) (.tmp 13), 0, none⟩,
 ⟨some 15, .load 58 (.tmp 14), 58, none⟩,
 ⟨some 16, .call ⟨.value (.tmp 11), #[(.tmp 15)], #[58]⟩, 4, none⟩] [0, 1, 5, 7, 8, 16]) (sg c80S0)))) (sg c80S1))
noncomputable def c80L0 (_ : Unit) : Cmd := (.seq (.ops [
 ⟨some 9, .binOp .lss 3 (.tmp 8) (.tmp 7) 3, 0, none⟩] [0, 1, 7, 8, 9])
 (.seq (.cond (.tmp 9)
  (.skip [0, 1, 7, 8])
  (.exit 0 [])) (sg c80S2)))
noncomputable def c80S3 (_ : Unit) : Cmd := (.seq (.ops [
 ⟨some 4, .assign (.const (.int .i64 (-1))), 3, none⟩] [4])
 .ret)
noncomputable def c80 : Cmd := (.seq (.ops [
 ⟨some 4, .assign (.const (.int .i64 0)), 3, none⟩] [0, 1])
 (.seq (.seq (.ops [
 ⟨some 6, .move (.tmp 0), 22, none⟩,
 ⟨some 7, .call ⟨.builtin .len, #[(.tmp 6)], #[22]⟩, 3, none⟩,
 ⟨some 8, .move (.const (.int .i64 0)), 3, none⟩] [0, 1, 7, 8])
 (.block 0 (.loop (sg c80L0)))) (sg c80S3)))
set_option maxRecDepth 100000 in
theorem ent80 (a0 a1 : Value) (w : World) (K : Value → World → Prop) (h : W Try.prog c80 [(0, a0), (1, a1)] w (finQ Try.prog [.tmp 4] K)) : Ret Try.prog 80 [a0, a1] w K :=
  Ret_of_W (code := c80code) Try.func80 (by kernel_rfl) (by kernel_rfl) (of_decide_eq_true (by kernel_rfl)) h
@[go_sem] theorem go80 : goFunc Try.prog 80 = true := by kernel_rfl
noncomputable def c81code : Code := match Try.f81.body with | some c => c | none => .skip
noncomputable def c81 : Cmd := (.seq (.ops [
 ⟨some 2, .box 58 (.tmp 0), 0, none⟩,
 ⟨some 3, .assign (.const (.bool false)), 4, none⟩] [1, 2])
 (.seq (.ops [
 ⟨some 4, .fieldAddr 58 (.tmp 2) 0, 0, none⟩,
 ⟨some 5, .load 3 (.tmp 4), 3, none⟩,
 ⟨some 6, .load 3 (.tmp 1), 3, none⟩,
 ⟨some 7, .binOp .eql 3 (.tmp 5) (.tmp 6) 3, 4, none⟩,
 ⟨some 3, .assign (.tmp 7), 4, none⟩] [3])
 .ret))
set_option maxRecDepth 100000 in
theorem ent81 (a0 a1 : Value) (w : World) (K : Value → World → Prop) (h : W Try.prog c81 [(0, a0), (1, a1)] w (finQ Try.prog [.tmp 3] K)) : Ret Try.prog 81 [a0, a1] w K :=
  Ret_of_W (code := c81code) Try.func81 (by kernel_rfl) (by kernel_rfl) (of_decide_eq_true (by kernel_rfl)) h
@[go_sem] theorem go81 : goFunc Try.prog 81 = true := by kernel_rfl
noncomputable def c82code : Code := match Try.f82.body with | some c => c | none => .skip
noncomputable def c82S0 (_ : Unit) : Cmd := .ret
noncomputable def c82 : Cmd := (.seq (.ops [
 ⟨some 4, .assign (.const (.bool false)), 4, none⟩] [0, 1])
 (.seq (.ops [
 ⟨some 5, .move (.tmp 0), 36, none⟩,
 ⟨some 6, .move (.tmp 1), 3, none⟩,
 ⟨some 7, .call ⟨.value (.func 110), #[(.tmp 5), (.tmp 6)], #[36, 3]⟩, 3, none⟩,
 ⟨some 8, .binOp .geq 3 (.tmp 7) (.const (.int .i64 0)) 3, 4, none⟩,
 ⟨some 4, .assign (.tmp 8), 4, none⟩] [4]) (sg c82S0)))
set_option maxRecDepth 100000 in
theorem ent82 (a0 a1 : Value) (w : World) (K : Value → World → Prop) (h : W Try.prog c82 [(0, a0), (1, a1)] w (finQ Try.prog [.tmp 4] K)) : Ret Try.prog 82 [a0, a1] w K :=
  Ret_of_W (code := c82code) Try.func82 (by kernel_rfl) (by kernel_rfl) (of_decide_eq_true (by kernel_rfl)) h
@[go_sem] theorem go82 : goFunc Try.prog 82 = true := by kernel_rfl
noncomputable def c83code : Code := match Try.f83.body with | some c => c | none => .skip
noncomputable def c83S0 (_ : Unit) : Cmd := .ret
noncomputable def c83 : Cmd := (.seq (.ops [
 ⟨some 4, .assign (.const (.bool false)), 4, none⟩] [0, 1])
 (.seq (.ops [
 ⟨some 5, .move (.tmp 0), 22, none⟩,
 ⟨some 6, .move (.tmp 1), 126, none⟩,
 ⟨some 7, .call ⟨.value (.func 80), #[(.tmp 5), (.tmp 6)], #[22, 126]⟩, 3, none⟩,
 ⟨some 8, .binOp .geq 3 (.tmp 7) (.const (.int .i64 0)) 3, 4, none⟩,
 ⟨some 4, .assign (.tmp 8), 4, none⟩] [4]) (sg c83S0)))
set_option maxRecDepth 100000 in
theorem ent83 (a0 a1 : Value) (w : World) (K : Value → World → Prop) (h : W Try.prog c83 [(0, a0), (1, a1)] w (finQ Try.prog [.tmp 4] K)) : Ret Try.prog 83 [a0, a1] w K :=
  Ret_of_W (code := c83code) Try.func83 (by kernel_rfl) (by kernel_rfl) (of_decide_eq_true (by kernel_rfl)) h
@[go_sem] theorem go83 : goFunc Try.prog 83 = true := by kernel_rfl
noncomputable def c84code : Code := match Try.f84.body with | some c => c | none => .skip
noncomputable def c84S0 (_ : Unit) : Cmd := .ret
noncomputable def c84 : Cmd := (.seq (.ops [
 ⟨some 2, .box 58 (.tmp 0), 0, none⟩,
 ⟨some 3, .assign (.const (.bool false)), 4, none⟩] [1, 2])
 (.seq (.ops [
 ⟨some 4, .load 58 (.tmp 1), 58, none⟩,
 ⟨some 5, .load 58 (.tmp 2), 58, none⟩,
 ⟨some 6, .call ⟨.value (.func 65), #[(.tmp 4), (.tmp 5)], #[58, 58]⟩, 4, none⟩,
 ⟨some 3, .assign (.tmp 6), 4, none⟩] [3]) (sg c84S0)))
set_option maxRecDepth 100000 in
theorem ent84 (a0 a1 : Value) (w : World) (K : Value → World → Prop) (h : W Try.prog c84 [(0, a0), (1, a1)] w (finQ Try.prog [.tmp 3] K)) : Ret Try.prog 84 [a0, a1] w K :=
  Ret_of_W (code := c84code) Try.func84 (by kernel_rfl) (by kernel_rfl) (of_decide_eq_true (by kernel_rfl)) h
@[go_sem] theorem go84 : goFunc Try.prog 84 = true := by kernel_rfl
noncomputable def c85code : Code := match Try.f85.body with | some c => c | none => .skip
noncomputable def c85S0 (_ : Unit) : Cmd := (.seq (.ops [
 ⟨some 24, .move (.tmp 7), 4, none⟩,
 ⟨some 25, .unOp .not 4 (.tmp 24), 4, none⟩] [6, 12, 13, 14, 25])
 (.cond (.tmp 25)
  (.seq (.ops [
  ⟨some 4, .assign (.const (.slice none 0 0)), 36, none⟩,
  ⟨some 5, .assign (.const (.bool false)), 4, none⟩] [4, 5])
  .ret)
  (.skip [6, 12, 13, 14])))
noncomputable def c85S1 (_ : Unit) : Cmd := (.ops [
 ⟨some 26, .binOp .add 3 (.tmp 14) (.const (.int .i64 1)) 3, 3, none⟩,
 ⟨some 14, .move (.tmp 26), 3, none⟩] [6, 12, 13, 14])
noncomputable def c85S2 (_ : Unit) : Cmd := (.seq (.block 1 (.seq (.ops [
 ⟨some 16, .indexAddr 22 (.tmp 12) (.tmp 14), 0, none⟩,
 ⟨some 17, .load 58 (.tmp 16), 58, none⟩,
 ⟨some 9, .alloc 58, 0, none⟩,
 ⟨none, .store 58 (.tmp 9) (.tmp 17), 0, none⟩] [6, 9, 12, 13, 14])
 (.seq (.ops [
 ⟨some 19, .move (.tmp 6), 36, none⟩,
 ⟨some 20, .load 58 (.tmp 9), 58, none⟩,
 ⟨some 21, .call ⟨.value (.func 33), #[(.tmp 19), (.tmp 20)], #[36, 58]⟩, 74, none⟩,
 ⟨some 18, .move (.tmp 21), 74, none⟩,
 ⟨some 22, .extract (.tmp 18) 0, 36, none⟩,
 ⟨some 23, .extract (.tmp 18) 1, 4, none⟩,
 ⟨some 6, .assign (.tmp 22), 36, none⟩,
 ⟨some 7, .assign (.tmp 23), 4, none⟩] [6, 7, 12, 13, 14]) (sg c85S0)))) (sg c85S1))
noncomputable def c85L0 (_ : Unit) : Cmd := (.seq (.ops [
 ⟨some 15, .binOp .lss 3 (.tmp 14) (.tmp 13) 3, 0, none⟩] [6, 12, 13, 14, 15])
 (.seq (.cond (.tmp 15)
  (.skip [6, 12, 13, 14])
  (.exit 0 [6])) (sg c85S2)))
noncomputable def c85S3 (_ : Unit) : Cmd := (.seq (.ops [
 ⟨some 27, .move (.tmp 6), 36, none⟩,
 ⟨some 4, .assign (.tmp 27), 36, none⟩,
 ⟨some 5, .assign (.const (.bool true)), 4, none⟩] [4, 5])
 .ret)
noncomputable def c85S4 (_ : Unit) : Cmd := (.seq (.seq (.ops [
 ⟨some 12, .move (.tmp 1), 22, none⟩,
 ⟨some 13, .call ⟨.builtin .len, #[(.tmp 12)], #[22]⟩, 3, none⟩,
 ⟨some 14, .move (.const (.int .i64 0)), 3, none⟩] [6, 12, 13, 14])
 (.block 0 (.loop (sg c85L0)))) (sg c85S3))
noncomputable def c85 : Cmd := (.seq (.ops [
 ⟨some 4, .assign (.const (.slice none 0 0)), 36, none⟩,
 ⟨some 5, .assign (.const (.bool false)), 4, none⟩] [0, 1])
 (.seq (.ops [
 ⟨some 10, .move (.tmp 0), 36, none⟩,
 ⟨some 11, .call ⟨.value (.func 39), #[(.tmp 10)], #[36]⟩, 36, none⟩,
 ⟨some 6, .assign (.tmp 11), 36, none⟩,
 ⟨some 7, .assign (.const (.bool true)), 4, none⟩] [1, 6]) (sg c85S4)))
set_option maxRecDepth 100000 in
theorem ent85 (a0 a1 : Value) (w : World) (K : Value → World → Prop) (h : W Try.prog c85 [(0, a0), (1, a1)] w (finQ Try.prog [.tmp 4, .tmp 5] K)) : Ret Try.prog 85 [a0, a1] w K :=
  Ret_of_W (code := c85code) Try.func85 (by kernel_rfl) (by kernel_rfl) (of_decide_eq_true (by kernel_rfl)) h
@[go_sem] theorem go85 : goFunc Try.prog 85 = true := by kernel_rfl
noncomputable def c86code : Code := match Try.f86.body with | some c => c | none => .skip
noncomputable def c86S0 (_ : Unit) : Cmd := .ret
noncomputable def c86 : Cmd := (.seq (.ops [
 ⟨some 2, .box 58 (.tmp 0), 0, none⟩,
 ⟨some 3, .box 58 (.tmp 1), 0, none⟩,
 ⟨some 4, .assign (.const (.int .i64 0)), 3, none⟩] [2, 3])
 (.seq (.draw (drawOps 0 c86code) [4]) (sg c86S0)))
noncomputable def c86D0 : List (Nat × Ins) := [
 (0, ⟨some 5, .fieldAddr 58 (.tmp 2) 9, 0, none⟩),
 (0, ⟨some 7, .fieldAddr 58 (.tmp 3) 9, 0, none⟩),
 (0, ⟨some 10, .fieldAddr 58 (.tmp 2) 0, 0, none⟩),
 (0, ⟨some 12, .fieldAddr 58 (.tmp 3) 0, 0, none⟩),
 (1, ⟨some 6, .load 3 (.tmp 5), 3, none⟩),
 (1, ⟨some 8, .load 3 (.tmp 7), 3, none⟩),
 (1, ⟨some 11, .load 3 (.tmp 10), 3, none⟩),
 (1, ⟨some 13, .load 3 (.tmp 12), 3, none⟩),
 (2, ⟨some 9, .call ⟨.value (.func 60), #[(.tmp 6), (.tmp 8)], #[3, 3]⟩, 3, none⟩),
 (2, ⟨some 14, .call ⟨.value (.func 60), #[(.tmp 11), (.tmp 13)], #[3, 3]⟩, 3, none⟩),
 (2, ⟨some 15, .buildSlice 36 2 #[(0, (.tmp 9)), (1, (.tmp 14))], 36, none⟩),
 (2, ⟨some 16, .call ⟨.value (.func 111), #[(.tmp 15)], #[36]⟩, 3, none⟩),
 (0, ⟨some 4, .assign (.tmp 16), 3, none⟩)]
theorem c86draw0 {L : List Nat} {ρ : Env} {w : World} {Q : Post} (S : World → Prop) (hS : S w.drew) (h : DG Try.prog S c86D0 L ρ w.drew Q) : drawW Try.prog (drawOps 0 c86code) L ρ w Q :=
  drawW_held [1, 3, 6, 8] [(0, 0), (0, 2), (0, 5), (0, 7), (1, 1), (1, 3), (1, 6), (1, 8), (2, 4), (2, 9), (2, 10), (2, 11), (0, 12)] c86D0 (by kernel_rfl) (by kernel_rfl) (by kernel_rfl) S hS h
set_option maxRecDepth 100000 in
theorem ent86 (a0 a1 : Value) (w : World) (K : Value → World → Prop) (h : W Try.prog c86 [(0, a0), (1, a1)] w (finQ Try.prog [.tmp 4] K)) : Ret Try.prog 86 [a0, a1] w K :=
  Ret_of_W (code := c86code) Try.func86 (by kernel_rfl) (by kernel_rfl) (of_decide_eq_true (by kernel_rfl)) h
@[go_sem] theorem go86 : goFunc Try.prog 86 = true := by kernel_rfl
noncomputable def c87code : Code := match Try.f87.body with | some c => c | none => .skip
noncomputable def c87S0 (_ : Unit) : Cmd := .ret
noncomputable def c87 : Cmd := (.seq (.ops [
 ⟨some 3, .box 58 (.tmp 1), 0, none⟩,
 ⟨some 4, .assign (.const (.bool false)), 4, none⟩] [0, 3])
 (.seq (.ops [
 ⟨some 5, .move (.tmp 0), 22, none⟩,
 ⟨some 6, .makeFunc (.func 112) #[] #[(.tmp 3)], 126, none⟩,
 ⟨some 7, .call ⟨.value (.func 83), #[(.tmp 5), (.tmp 6)], #[22, 126]⟩, 4, none⟩,
 ⟨some 8, .unOp .not 4 (.tmp 7), 4, none⟩,
 ⟨some 4, .assign (.tmp 8), 4, none⟩] [4]) (sg c87S0)))
set_option maxRecDepth 100000 in
theorem ent87 (a0 a1 : Value) (w : World) (K : Value → World → Prop) (h : W Try.prog c87 [(0, a0), (1, a1)] w (finQ Try.prog [.tmp 4] K)) : Ret Try.prog 87 [a0, a1] w K :=
  Ret_of_W (code := c87code) Try.func87 (by kernel_rfl) (by kernel_rfl) (of_decide_eq_true (by kernel_rfl)) h
@[go_sem] theorem go87 : goFunc Try.prog 87 = true := by kernel_rfl
noncomputable def c88code : Code := match Try.f88.body with | some c => c | none => .skip
noncomputable def c88S0 (_ : Unit) : Cmd := .ret
noncomputable def c88S1 (_ : Unit) : Cmd := .ret
noncomputable def c88S2 (_ : Unit) : Cmd := (.ops [
  ⟨some 45, .move (.tmp 3), 3, none⟩,
  ⟨some 46, .binOp .sub 3 (.tmp 45) (.const (.int .i64 1)) 3, 3, none⟩,
  ⟨some 3, .assign (.tmp 46), 3, none⟩] [0, 1, 2, 3, 4, 10, 11, 12])
noncomputable def c88S3 (_ : Unit) : Cmd := (.seq (.ops [
  ⟨some 62, .move (.tmp 2), 3, none⟩,
  ⟨some 63, .binOp .sub 3 (.tmp 62) (.const (.int .i64 1)) 3, 3, none⟩,
  ⟨some 64, .move (.tmp 13), 3, none⟩,
  ⟨some 65, .move (.tmp 1), 3, none⟩,
  ⟨some 66, .binOp .sub 3 (.tmp 64) (.tmp 65) 3, 3, none⟩,
  ⟨some 67, .binOp .sub 3 (.tmp 63) (.tmp 66) 3, 3, none⟩,
  ⟨some 13, .assign (.tmp 67), 3, none⟩] [0, 1, 2, 3, 4, 10, 11, 12, 13])
  (.ops [
  ⟨some 14, .assign (.const (.int .i64 1)), 137, none⟩] [0, 1, 2, 3, 4, 10, 11, 12, 13, 14]))
noncomputable def c88S4 (_ : Unit) : Cmd := (.cond (.tmp 80)
   .ret
   (.skip [0, 1, 2, 3, 4, 10, 11, 12, 13]))
noncomputable def c88S5 (_ : Unit) : Cmd := (.seq (.ops [
  ⟨some 104, .move (.tmp 15), 3, none⟩,
  ⟨some 1, .assign (.tmp 104), 3, none⟩] [0, 1, 2, 3, 4, 10, 11])
  (.exit 1 [0, 1, 2, 3, 4, 10, 11]))
noncomputable def c88S6 (_ : Unit) : Cmd := (.cond (.tmp 97)
  (.seq (.ops [
  ⟨some 98, .move (.tmp 0), 22, none⟩,
  ⟨some 99, .move (.tmp 1), 3, none⟩,
  ⟨some 100, .move (.tmp 2), 3, none⟩,
  ⟨some 101, .move (.tmp 13), 3, none⟩,
  ⟨some 102, .move (.tmp 4), 102, none⟩,
  ⟨some 103, .call ⟨.value (.func 119), #[(.tmp 98), (.tmp 99), (.tmp 100), (.tmp 101), (.tmp 102)], #[22, 3, 3, 3, 102]⟩, 3, none⟩,
  ⟨some 15, .assign (.tmp 103), 3, none⟩] [0, 2, 3, 4, 10, 11, 15]) (sg c88S5))
  (.skip [0, 1, 2, 3, 4, 12, 13]))
noncomputable def c88S7 (_ : Unit) : Cmd := (.ops [
  ⟨some 135, .move (.tmp 16), 3, none⟩,
  ⟨some 136, .binOp .add 3 (.tmp 135) (.const (.int .i64 1)) 3, 3, none⟩,
  ⟨some 1, .assign (.tmp 136), 3, none⟩] [0, 1, 2, 3, 4, 10, 11])
noncomputable def c88S8 (_ : Unit) : Cmd := (.ops [
  ⟨some 147, .move (.tmp 16), 3, none⟩,
  ⟨some 2, .assign (.tmp 147), 3, none⟩] [0, 1, 2, 3, 4, 10, 11])
noncomputable def c88S9 (_ : Unit) : Cmd := (.seq (.ops [
 ⟨some 114, .move (.tmp 17), 4, none⟩,
 ⟨some 11, .assign (.tmp 114), 4, none⟩] [0, 1, 2, 3, 4, 11, 12, 16])
 (.seq (.ops [
 ⟨some 115, .move (.tmp 16), 3, none⟩,
 ⟨some 116, .move (.tmp 1), 3, none⟩,
 ⟨some 117, .binOp .sub 3 (.tmp 115) (.tmp 116) 3, 3, none⟩,
 ⟨some 118, .move (.tmp 2), 3, none⟩,
 ⟨some 119, .move (.tmp 16), 3, none⟩,
 ⟨some 120, .binOp .sub 3 (.tmp 118) (.tmp 119) 3, 3, none⟩,
 ⟨some 18, .assign (.tmp 117), 3, none⟩,
 ⟨some 19, .assign (.tmp 120), 3, none⟩] [0, 1, 2, 3, 4, 11, 12, 16, 18, 19])
 (.seq (.ops [
 ⟨some 121, .move (.tmp 12), 3, none⟩,
 ⟨some 122, .binOp .quo 3 (.tmp 121) (.const (.int .i64 8)) 3, 3, none⟩,
 ⟨some 20, .assign (.tmp 122), 3, none⟩] [0, 1, 2, 3, 4, 11, 16, 18, 19, 20])
 (.seq (.ops [
 ⟨some 123, .move (.tmp 18), 3, none⟩,
 ⟨some 124, .move (.tmp 19), 3, none⟩,
 ⟨some 125, .binOp .lss 3 (.tmp 123) (.tmp 124) 3, 4, none⟩] [0, 1, 2, 3, 4, 11, 16, 18, 19, 20, 125])
 (.cond (.tmp 125)
  (.seq (.ops [
  ⟨some 126, .move (.tmp 18), 3, none⟩,
  ⟨some 127, .move (.tmp 20), 3, none⟩,
  ⟨some 128, .binOp .geq 3 (.tmp 126) (.tmp 127) 3, 4, none⟩,
  ⟨some 10, .assign (.tmp 128), 4, none⟩] [0, 1, 2, 3, 4, 10, 11, 16])
  (.seq (.ops [
  ⟨some 129, .move (.tmp 0), 22, none⟩,
  ⟨some 130, .move (.tmp 1), 3, none⟩,
  ⟨some 131, .move (.tmp 16), 3, none⟩,
  ⟨some 132, .move (.tmp 3), 3, none⟩,
  ⟨some 133, .move (.tmp 4), 102, none⟩,
  ⟨some 134, .call ⟨.value (.func 88), #[(.tmp 129), (.tmp 130), (.tmp 131), (.tmp 132), (.tmp 133)], #[22, 3, 3, 3, 102]⟩, 0, none⟩] [0, 2, 3, 4, 10, 11, 16]) (sg c88S7)))
  (.seq (.ops [
  ⟨some 137, .move (.tmp 19), 3, none⟩,
  ⟨some 138, .move (.tmp 20), 3, none⟩,
  ⟨some 139, .binOp .geq 3 (.tmp 137) (.tmp 138) 3, 4, none⟩,
  ⟨some 10, .assign (.tmp 139), 4, none⟩] [0, 1, 2, 3, 4, 10, 11, 16])
  (.seq (.ops [
  ⟨some 140, .move (.tmp 0), 22, none⟩,
  ⟨some 141, .move (.tmp 16), 3, none⟩,
  ⟨some 142, .binOp .add 3 (.tmp 141) (.const (.int .i64 1)) 3, 3, none⟩,
  ⟨some 143, .move (.tmp 2), 3, none⟩,
  ⟨some 144, .move (.tmp 3), 3, none⟩,
  ⟨some 145, .move (.tmp 4), 102, none⟩,
  ⟨some 146, .call ⟨.value (.func 88), #[(.tmp 140), (.tmp 142), (.tmp 143), (.tmp 144), (.tmp 145)], #[22, 3, 3, 3, 102]⟩, 0, none⟩] [0, 1, 3, 4, 10, 11, 16]) (sg c88S8))))))))
noncomputable def c88S10 (_ : Unit) : Cmd := (.seq (.ops [
 ⟨some 106, .move (.tmp 0), 22, none⟩,
 ⟨some 107, .move (.tmp 1), 3, none⟩,
 ⟨some 108, .move (.tmp 2), 3, none⟩,
 ⟨some 109, .move (.tmp 13), 3, none⟩,
 ⟨some 110, .move (.tmp 4), 102, none⟩,
 ⟨some 111, .call ⟨.value (.func 120), #[(.tmp 106), (.tmp 107), (.tmp 108), (.tmp 109), (.tmp 110)], #[22, 3, 3, 3, 102]⟩, 142, none⟩,
 ⟨some 105, .move (.tmp 111), 142, none⟩,
 ⟨some 112, .extract (.tmp 105) 0, 3, none⟩,
 ⟨some 113, .extract (.tmp 105) 1, 4, none⟩,
 ⟨some 16, .assign (.tmp 112), 3, none⟩,
 ⟨some 17, .assign (.tmp 113), 4, none⟩] [0, 1, 2, 3, 4, 12, 16, 17]) (sg c88S9))
noncomputable def c88S11 (_ : Unit) : Cmd := (.seq (.seq (.draw (drawOps 0 c88code) [0, 1, 2, 3, 4, 10, 11, 12, 13, 97]) (sg c88S6)) (sg c88S10))
noncomputable def c88S12 (_ : Unit) : Cmd := (.seq (.seq (.ops [
 ⟨some 68, .move (.tmp 10), 4, none⟩,
 ⟨some 69, .move (.tmp 68), 4, none⟩,
 ⟨some 70, .move (.tmp 11), 4, (some (69, true))⟩,
 ⟨some 71, .pick (.tmp 69) (.tmp 70) (.const (.bool false)), 4, none⟩,
 ⟨some 72, .move (.tmp 71), 4, none⟩,
 ⟨some 73, .move (.tmp 14), 137, (some (72, true))⟩,
 ⟨some 74, .binOp .eql 137 (.tmp 73) (.const (.int .i64 1)) 137, 4, (some (72, true))⟩,
 ⟨some 75, .pick (.tmp 72) (.tmp 74) (.const (.bool false)), 4, none⟩] [0, 1, 2, 3, 4, 10, 11, 12, 13, 75])
 (.cond (.tmp 75)
  (.seq (.ops [
  ⟨some 76, .move (.tmp 0), 22, none⟩,
  ⟨some 77, .move (.tmp 1), 3, none⟩,
  ⟨some 78, .move (.tmp 2), 3, none⟩,
  ⟨some 79, .move (.tmp 4), 102, none⟩,
  ⟨some 80, .call ⟨.value (.func 118), #[(.tmp 76), (.tmp 77), (.tmp 78), (.tmp 79)], #[22, 3, 3, 102]⟩, 4, none⟩] [0, 1, 2, 3, 4, 10, 11, 12, 13, 80]) (sg c88S4))
  (.skip [0, 1, 2, 3, 4, 10, 11, 12, 13]))) (sg c88S11))
noncomputable def c88S13 (_ : Unit) : Cmd := (.seq (.seq (.ops [
 ⟨some 55, .move (.tmp 14), 137, none⟩,
 ⟨some 56, .binOp .eql 137 (.tmp 55) (.const (.int .i64 2)) 137, 4, none⟩] [0, 1, 2, 3, 4, 10, 11, 12, 13, 14, 56])
 (.cond (.tmp 56)
  (.seq (.ops [
  ⟨some 57, .move (.tmp 0), 22, none⟩,
  ⟨some 58, .move (.tmp 1), 3, none⟩,
  ⟨some 59, .move (.tmp 2), 3, none⟩,
  ⟨some 60, .move (.tmp 4), 102, none⟩,
  ⟨some 61, .call ⟨.value (.func 117), #[(.tmp 57), (.tmp 58), (.tmp 59), (.tmp 60)], #[22, 3, 3, 102]⟩, 0, none⟩] [0, 1, 2, 3, 4, 10, 11, 12, 13]) (sg c88S3))
  (.skip [0, 1, 2, 3, 4, 10, 11, 12, 13, 14]))) (sg c88S12))
noncomputable def c88S14 (_ : Unit) : Cmd := (.seq (.ops [
 ⟨some 48, .move (.tmp 0), 22, none⟩,
 ⟨some 49, .move (.tmp 1), 3, none⟩,
 ⟨some 50, .move (.tmp 2), 3, none⟩,
 ⟨some 51, .move (.tmp 4), 102, none⟩,
 ⟨some 52, .call ⟨.value (.func 116), #[(.tmp 48), (.tmp 49), (.tmp 50), (.tmp 51)], #[22, 3, 3, 102]⟩, 138, none⟩,
 ⟨some 47, .move (.tmp 52), 138, none⟩,
 ⟨some 53, .extract (.tmp 47) 0, 3, none⟩,
 ⟨some 54, .extract (.tmp 47) 1, 137, none⟩,
 ⟨some 13, .assign (.tmp 53), 3, none⟩,
 ⟨some 14, .assign (.tmp 54), 137, none⟩] [0, 1, 2, 3, 4, 10, 11, 12, 13, 14]) (sg c88S13))
noncomputable def c88S15 (_ : Unit) : Cmd := (.seq (.seq (.ops [
 ⟨some 38, .move (.tmp 10), 4, none⟩,
 ⟨some 39, .unOp .not 4 (.tmp 38), 4, none⟩] [0, 1, 2, 3, 4, 10, 11, 12, 39])
 (.cond (.tmp 39)
  (.seq (.ops [
  ⟨some 40, .move (.tmp 0), 22, none⟩,
  ⟨some 41, .move (.tmp 1), 3, none⟩,
  ⟨some 42, .move (.tmp 2), 3, none⟩,
  ⟨some 43, .move (.tmp 4), 102, none⟩,
  ⟨some 44, .call ⟨.value (.func 115), #[(.tmp 40), (.tmp 41), (.tmp 42), (.tmp 43)], #[22, 3, 3, 102]⟩, 0, none⟩] [0, 1, 2, 3, 4, 10, 11, 12]) (sg c88S2))
  (.skip [0, 1, 2, 3, 4, 10, 11, 12]))) (sg c88S14))
noncomputable def c88S16 (_ : Unit) : Cmd := (.seq (.seq (.ops [
 ⟨some 31, .move (.tmp 3), 3, none⟩,
 ⟨some 32, .binOp .eql 3 (.tmp 31) (.const (.int .i64 0)) 3, 4, none⟩] [0, 1, 2, 3, 4, 10, 11, 12, 32])
 (.cond (.tmp 32)
  (.seq (.ops [
  ⟨some 33, .move (.tmp 0), 22, none⟩,
  ⟨some 34, .move (.tmp 1), 3, none⟩,
  ⟨some 35, .move (.tmp 2), 3, none⟩,
  ⟨some 36, .move (.tmp 4), 102, none⟩,
  ⟨some 37, .call ⟨.value (.func 114), #[(.tmp 33), (.tmp 34), (.tmp 35), (.tmp 36)], #[22, 3, 3, 102]⟩, 0, none⟩] []) (sg c88S1))
  (.skip [0, 1, 2, 3, 4, 10, 11, 12]))) (sg c88S15))
noncomputable def c88L0 (_ : Unit) : Cmd := (.block 1 (.seq (.ops [
 ⟨some 21, .move (.tmp 2), 3, none⟩,
 ⟨some 22, .move (.tmp 1), 3, none⟩,
 ⟨some 23, .binOp .sub 3 (.tmp 21) (.tmp 22) 3, 3, none⟩,
 ⟨some 12, .assign (.tmp 23), 3, none⟩] [0, 1, 2, 3, 4, 10, 11, 12])
 (.seq (.seq (.ops [
 ⟨some 24, .move (.tmp 12), 3, none⟩,
 ⟨some 25, .binOp .leq 3 (.tmp 24) (.const (.int .i64 12)) 3, 4, none⟩] [0, 1, 2, 3, 4, 10, 11, 12, 25])
 (.cond (.tmp 25)
  (.seq (.ops [
  ⟨some 26, .move (.tmp 0), 22, none⟩,
  ⟨some 27, .move (.tmp 1), 3, none⟩,
  ⟨some 28, .move (.tmp 2), 3, none⟩,
  ⟨some 29, .move (.tmp 4), 102, none⟩,
  ⟨some 30, .call ⟨.value (.func 113), #[(.tmp 26), (.tmp 27), (.tmp 28), (.tmp 29)], #[22, 3, 3, 102]⟩, 0, none⟩] []) (sg c88S0))
  (.skip [0, 1, 2, 3, 4, 10, 11, 12]))) (sg c88S16))))
noncomputable def c88 : Cmd := (.seq (.ops [
 ⟨some 10, .assign (.const (.bool true)), 4, none⟩] [0, 1, 2, 3, 4, 10])
 (.seq (.ops [
 ⟨some 11, .assign (.const (.bool true)), 4, none⟩] [0, 1, 2, 3, 4, 10, 11])
 (.block 0 (.loop (sg c88L0)))))
set_option maxRecDepth 100000 in
theorem ent88 (a0 a1 a2 a3 a4 : Value) (w : World) (K : Value → World → Prop) (h : W Try.prog c88 [(0, a0), (1, a1), (2, a2), (3, a3), (4, a4)] w (finQ Try.prog [] K)) : Ret Try.prog 88 [a0, a1, a2, a3, a4] w K :=
  Ret_of_W (code := c88code) Try.func88 (by kernel_rfl) (by kernel_rfl) (of_decide_eq_true (by kernel_rfl)) h
@[go_sem] theorem go88 : goFunc Try.prog 88 = true := by kernel_rfl
noncomputable def c89code : Code := match Try.f89.body with | some c => c | none => .skip
noncomputable def c89 : Cmd := (.seq (.ops [
 ⟨some 2, .assign (.const (.bool false)), 4, none⟩] [0])
 (.seq (.ops [
 ⟨some 3, .move (.tmp 0), 3, none⟩,
 ⟨some 4, .move (.tmp 0), 3, none⟩,
 ⟨some 5, .binOp .neq 3 (.tmp 3) (.tmp 4) 3, 4, none⟩,
 ⟨some 2, .assign (.tmp 5), 4, none⟩] [2])
 .ret))
set_option maxRecDepth 100000 in
theorem ent89 (a0 : Value) (w : World) (K : Value → World → Prop) (h : W Try.prog c89 [(0, a0)] w (finQ Try.prog [.tmp 2] K)) : Ret Try.prog 89 [a0] w K :=
  Ret_of_W (code := c89code) Try.func89 (by kernel_rfl) (by kernel_rfl) (of_decide_eq_true (by kernel_rfl)) h
@[go_sem] theorem go89 : goFunc Try.prog 89 = true := by kernel_rfl
noncomputable def c90code : Code := match Try.f90.body with | some c => c | none => .skip
noncomputable def c90S0 (_ : Unit) : Cmd := (.ops [
 ⟨some 24, .binOp .add 3 (.tmp 9) (.const (.int .i64 1)) 3, 3, none⟩,
 ⟨some 9, .move (.tmp 24), 3, none⟩] [1, 7, 8, 9])
noncomputable def c90S1 (_ : Unit) : Cmd := (.seq (.block 1 (.seq (.ops [
 ⟨some 11, .move (.tmp 9), 3, none⟩,
 ⟨some 12, .indexAddr 22 (.tmp 7) (.tmp 9), 0, none⟩,
 ⟨some 13, .load 58 (.tmp 12), 58, none⟩,
 ⟨some 6, .alloc 58, 0, none⟩,
 ⟨some 5, .assign (.tmp 11), 3, none⟩,
 ⟨none, .store 58 (.tmp 6) (.tmp 13), 0, none⟩] [1, 5, 6, 7, 8, 9])
 (.seq (.ops [
 ⟨some 14, .fieldAddr 58 (.tmp 6) 7, 0, none⟩,
 ⟨some 15, .load 4 (.tmp 14), 4, none⟩,
 ⟨some 16, .move (.tmp 15), 4, none⟩,
 ⟨some 17, .move (.tmp 1), 63, (some (16, true))⟩,
 ⟨some 18, .move (.tmp 5), 3, (some (16, true))⟩,
 ⟨some 19, .convert 3 76 (.tmp 18), 76, (some (16, true))⟩,
 ⟨some 20, .binOp .shr 63 (.tmp 17) (.tmp 19) 76, 63, (some (16, true))⟩,
 ⟨some 21, .binOp .and 63 (.tmp 20) (.const (.int .u32 1)) 63, 63, (some (16, true))⟩,
 ⟨some 22, .binOp .eql 63 (.tmp 21) (.const (.int .u32 0)) 63, 4, (some (16, true))⟩,
 ⟨some 23, .pick (.tmp 16) (.tmp 22) (.const (.bool false)), 4, none⟩] [1, 7, 8, 9, 23])
 (.cond (.tmp 23)
  (.seq (.ops [
  ⟨some 4, .assign (.const (.bool false)), 4, none⟩] [4])
  .ret)
  (.skip [1, 7, 8, 9]))))) (sg c90S0))
noncomputable def c90L0 (_ : Unit) : Cmd := (.seq (.ops [
 ⟨some 10, .binOp .lss 3 (.tmp 9) (.tmp 8) 3, 0, none⟩] [1, 7, 8, 9, 10])
 (.seq (.cond (.tmp 10)
  (.skip [1, 7, 8, 9])
  (.exit 0 [])) (sg c90S1)))
noncomputable def c90S2 (_ : Unit) : Cmd := (.seq (.ops [
 ⟨some 4, .assign (.const (.bool true)), 4, none⟩] [4])
 .ret)
noncomputable def c90 : Cmd := (.seq (.ops [
 ⟨some 4, .assign (.const (.bool false)), 4, none⟩] [0, 1])
 (.seq (.seq (.ops [
 ⟨some 7, .move (.tmp 0), 22, none⟩,
 ⟨some 8, .call ⟨.builtin .len, #[(.tmp 7)], #[22]⟩, 3, none⟩,
 ⟨some 9, .move (.const (.int .i64 0)), 3, none⟩] [1, 7, 8, 9])
 (.block 0 (.loop (sg c90L0)))) (sg c90S2)))
set_option maxRecDepth 100000 in
theorem ent90 (a0 a1 : Value) (w : World) (K : Value → World → Prop) (h : W Try.prog c90 [(0, a0), (1, a1)] w (finQ Try.prog [.tmp 4] K)) : Ret Try.prog 90 [a0, a1] w K :=
  Ret_of_W (code := c90code) Try.func90 (by kernel_rfl) (by kernel_rfl) (of_decide_eq_true (by kernel_rfl)) h
@[go_sem] theorem go90 : goFunc Try.prog 90 = true := by kernel_rfl
noncomputable def c91code : Code := match Try.f91.body with | some c => c | none => .skip
noncomputable def c91S0 (_ : Unit) : Cmd := (.cond (.tmp 26)
  (.seq (.ops [
  ⟨some 6, .assign (.const (.bool true)), 4, none⟩] [6])
  .ret)
  (.skip [1, 5, 9, 10, 11]))
noncomputable def c91S1 (_ : Unit) : Cmd := (.ops [
 ⟨some 27, .binOp .add 3 (.tmp 11) (.const (.int .i64 1)) 3, 3, none⟩,
 ⟨some 11, .move (.tmp 27), 3, none⟩] [1, 5, 9, 10, 11])
noncomputable def c91S2 (_ : Unit) : Cmd := (.seq (.block 1 (.seq (.ops [
 ⟨some 13, .move (.tmp 11), 3, none⟩,
 ⟨some 14, .indexAddr 22 (.tmp 9) (.tmp 11), 0, none⟩,
 ⟨some 15, .load 58 (.tmp 14), 58, none⟩,
 ⟨some 8, .alloc 58, 0, none⟩,
 ⟨some 7, .assign (.tmp 13), 3, none⟩,
 ⟨none, .store 58 (.tmp 8) (.tmp 15), 0, none⟩] [1, 5, 7, 8, 9, 10, 11])
 (.seq (.ops [
 ⟨some 16, .move (.tmp 1), 63, none⟩,
 ⟨some 17, .move (.tmp 7), 3, none⟩,
 ⟨some 18, .convert 3 76 (.tmp 17), 76, none⟩,
 ⟨some 19, .binOp .shr 63 (.tmp 16) (.tmp 18) 76, 63, none⟩,
 ⟨some 20, .binOp .and 63 (.tmp 19) (.const (.int .u32 1)) 63, 63, none⟩,
 ⟨some 21, .binOp .eql 63 (.tmp 20) (.const (.int .u32 0)) 63, 4, none⟩,
 ⟨some 22, .move (.tmp 21), 4, none⟩,
 ⟨some 23, .load 58 (.tmp 8), 58, (some (22, true))⟩,
 ⟨some 24, .load 58 (.tmp 5), 58, (some (22, true))⟩,
 ⟨some 25, .call ⟨.value (.func 65), #[(.tmp 23), (.tmp 24)], #[58, 58]⟩, 4, (some (22, true))⟩,
 ⟨some 26, .pick (.tmp 22) (.tmp 25) (.const (.bool false)), 4, none⟩] [1, 5, 9, 10, 11, 26]) (sg c91S0)))) (sg c91S1))
noncomputable def c91L0 (_ : Unit) : Cmd := (.seq (.ops [
 ⟨some 12, .binOp .lss 3 (.tmp 11) (.tmp 10) 3, 0, none⟩] [1, 5, 9, 10, 11, 12])
 (.seq (.cond (.tmp 12)
  (.skip [1, 5, 9, 10, 11])
  (.exit 0 [])) (sg c91S2)))
noncomputable def c91S3 (_ : Unit) : Cmd := (.seq (.ops [
 ⟨some 6, .assign (.const (.bool false)), 4, none⟩] [6])
 .ret)
noncomputable def c91 : Cmd := (.seq (.ops [
 ⟨some 5, .box 58 (.tmp 2), 0, none⟩,
 ⟨some 6, .assign (.const (.bool false)), 4, none⟩] [0, 1, 5])
 (.seq (.seq (.ops [
 ⟨some 9, .move (.tmp 0), 22, none⟩,
 ⟨some 10, .call ⟨.builtin .len, #[(.tmp 9)], #[22]⟩, 3, none⟩,
 ⟨some 11, .move (.const (.int .i64 0)), 3, none⟩] [1, 5, 9, 10, 11])
 (.block 0 (.loop (sg c91L0)))) (sg c91S3)))
set_option maxRecDepth 100000 in
theorem ent91 (a0 a1 a2 : Value) (w : World) (K : Value → World → Prop) (h : W Try.prog c91 [(0, a0), (1, a1), (2, a2)] w (finQ Try.prog [.tmp 6] K)) : Ret Try.prog 91 [a0, a1, a2] w K :=
  Ret_of_W (code := c91code) Try.func91 (by kernel_rfl) (by kernel_rfl) (of_decide_eq_true (by kernel_rfl)) h
@[go_sem] theorem go91 : goFunc Try.prog 91 = true := by kernel_rfl
noncomputable def c110code : Code := match Try.f110.body with | some c => c | none => .skip
noncomputable def c110S0 (_ : Unit) : Cmd := (.ops [
 ⟨some 18, .binOp .add 3 (.tmp 8) (.const (.int .i64 1)) 3, 3, none⟩,
 ⟨some 8, .move (.tmp 18), 3, none⟩] [0, 1, 7, 8])
noncomputable def c110S1 (_ : Unit) : Cmd := (.seq (.block 1 (.seq (.ops [
 ⟨some 10, .move (.tmp 8), 3, none⟩,
 ⟨some 5, .assign (.tmp 10), 3, none⟩] [0, 1, 5, 7, 8])
 (.seq (.ops [
 ⟨some 11, .move (.tmp 1), 3, none⟩,
 ⟨some 12, .move (.tmp 0), 36, none⟩,
 ⟨some 13, .move (.tmp 5), 3, none⟩,
 ⟨some 14, .indexAddr 36 (.tmp 12) (.tmp 13), 0, none⟩,
 ⟨some 15, .load 3 (.tmp 14), 3, none⟩,
 ⟨some 16, .binOp .eql 3 (.tmp 11) (.tmp 15) 3, 4, none⟩] [0, 1, 5, 7, 8, 16])
 (.cond (.tmp 16)
  (.seq (.ops [
  ⟨some 17, .move (.tmp 5), 3, none⟩,
  ⟨some 4, .assign (.tmp 17), 3, none⟩] [4])
  .ret)
  (.skip [0, 1, 7, 8]))))) (sg c110S0))
noncomputable def c110L0 (_ : Unit) : Cmd := (.seq (.ops [
 ⟨some 9, .binOp .lss 3 (.tmp 8) (.tmp 7) 3, 0, none⟩] [0, 1, 7, 8, 9])
 (.seq (.cond (.tmp 9)
  (.skip [0, 1, 7, 8])
  (.exit 0 [])) (sg c110S1)))
noncomputable def c110S2 (_ : Unit) : Cmd := (.seq (.ops [
 ⟨some 4, .assign (.const (.int .i64 (-1))), 3, none⟩] [4])
 .ret)
noncomputable def c110 : Cmd := (.seq (.ops [
 ⟨some 4, .assign (.const (.int .i64 0)), 3, none⟩] [0, 1])
 (.seq (.seq (.ops [
 ⟨some 6, .move (.tmp 0), 36, none⟩,
 ⟨some 7, .call ⟨.builtin .len, #[(.tmp 6)], #[36]⟩, 3, none⟩,
 ⟨some 8, .move (.const (.int .i64 0)), 3, none⟩] [0, 1, 7, 8])
 (.block 0 (.loop (sg c110L0)))) (sg c110S2)))
set_option maxRecDepth 100000 in
theorem ent110 (a0 a1 : Value) (w : World) (K : Value → World → Prop) (h : W Try.prog c110 [(0, a0), (1, a1)] w (finQ Try.prog [.tmp 4] K)) : Ret Try.prog 110 [a0, a1] w K :=
  Ret_of_W (code := c110code) Try.func110 (by kernel_rfl) (by kernel_rfl) (of_decide_eq_true (by kernel_rfl)) h
@[go_sem] theorem go110 : goFunc Try.prog 110 = true := by kernel_rfl
noncomputable def c111code : Code := match Try.f111.body with | some c => c | none => .skip
noncomputable def c111S0 (_ : Unit) : Cmd := (.ops [
 ⟨some 16, .binOp .add 3 (.tmp 8) (.const (.int .i64 1)) 3, 3, none⟩,
 ⟨some 8, .move (.tmp 16), 3, none⟩] [3, 6, 7, 8])
noncomputable def c111S1 (_ : Unit) : Cmd := (.seq (.block 1 (.seq (.ops [
 ⟨some 10, .indexAddr 36 (.tmp 6) (.tmp 8), 0, none⟩,
 ⟨some 11, .load 3 (.tmp 10), 3, none⟩,
 ⟨some 5, .assign (.tmp 11), 3, none⟩] [3, 5, 6, 7, 8])
 (.seq (.ops [
 ⟨some 12, .move (.tmp 5), 3, none⟩,
 ⟨some 13, .move (.tmp 3), 3, none⟩,
 ⟨some 14, .binOp .neq 3 (.tmp 12) (.tmp 13) 3, 4, none⟩] [3, 5, 6, 7, 8, 14])
 (.cond (.tmp 14)
  (.seq (.ops [
  ⟨some 15, .move (.tmp 5), 3, none⟩,
  ⟨some 2, .assign (.tmp 15), 3, none⟩] [2])
  .ret)
  (.skip [3, 6, 7, 8]))))) (sg c111S0))
noncomputable def c111L0 (_ : Unit) : Cmd := (.seq (.ops [
 ⟨some 9, .binOp .lss 3 (.tmp 8) (.tmp 7) 3, 0, none⟩] [3, 6, 7, 8, 9])
 (.seq (.cond (.tmp 9)
  (.skip [3, 6, 7, 8])
  (.exit 0 [3])) (sg c111S1)))
noncomputable def c111S2 (_ : Unit) : Cmd := (.seq (.ops [
 ⟨some 17, .move (.tmp 3), 3, none⟩,
 ⟨some 2, .assign (.tmp 17), 3, none⟩] [2])
 .ret)
noncomputable def c111 : Cmd := (.seq (.ops [
 ⟨some 2, .assign (.const (.int .i64 0)), 3, none⟩] [0])
 (.seq (.ops [
 ⟨some 3, .assign (.const (.int .i64 0)), 3, none⟩] [0, 3])
 (.seq (.seq (.ops [
 ⟨some 6, .move (.tmp 0), 36, none⟩,
 ⟨some 7, .call ⟨.builtin .len, #[(.tmp 6)], #[36]⟩, 3, none⟩,
 ⟨some 8, .move (.const (.int .i64 0)), 3, none⟩] [3, 6, 7, 8])
 (.block 0 (.loop (sg c111L0)))) (sg c111S2))))
set_option maxRecDepth 100000 in
theorem ent111 (a0 : Value) (w : World) (K : Value → World → Prop) (h : W Try.prog c111 [(0, a0)] w (finQ Try.prog [.tmp 2] K)) : Ret Try.prog 111 [a0] w K :=
  Ret_of_W (code := c111code) Try.func111 (by kernel_rfl) (by kernel_rfl) (of_decide_eq_true (by kernel_rfl)) h
@[go_sem] theorem go111 : goFunc Try.prog 111 = true := by kernel_rfl
noncomputable def c112code : Code := match Try.f112.body with | some c => c | none => .skip
noncomputable def c112S0 (_ : Unit) : Cmd := .ret
noncomputable def c112 : Cmd := (.seq (.ops [
 ⟨some 2, .box 58 (.tmp 0), 0, none⟩,
 ⟨some 3, .assign (.const (.bool false)), 4, none⟩] [1, 2])
 (.seq (.ops [
 ⟨some 4, .load 58 (.tmp 2), 58, none⟩,
 ⟨some 5, .load 58 (.tmp 1), 58, none⟩,
 ⟨some 6, .call ⟨.value (.func 65), #[(.tmp 4), (.tmp 5)], #[58, 58]⟩, 4, none⟩,
 ⟨some 7, .unOp .not 4 (.tmp 6), 4, none⟩,
 ⟨some 3, .assign (.tmp 7), 4, none⟩] [3]) (sg c112S0)))
set_option maxRecDepth 100000 in
theorem ent112 (a0 a1 : Value) (w : World) (K : Value → World → Prop) (h : W Try.prog c112 [(0, a0), (1, a1)] w (finQ Try.prog [.tmp 3] K)) : Ret Try.prog 112 [a0, a1] w K :=
  Ret_of_W (code := c112code) Try.func112 (by kernel_rfl) (by kernel_rfl) (of_decide_eq_true (by kernel_rfl)) h
@[go_sem] theorem go112 : goFunc Try.prog 112 = true := by kernel_rfl
noncomputable def c113code : Code := match Try.f113.body with | some c => c | none => .skip
noncomputable def c113S0 (_ : Unit) : Cmd := (.cond (.tmp 34)
  (.skip [0, 1, 2, 3, 8, 9])
  (.exit 2 [0, 1, 2, 3, 8]))
noncomputable def c113S1 (_ : Unit) : Cmd := (.ops [
 ⟨some 35, .move (.tmp 9), 3, none⟩,
 ⟨some 36, .binOp .sub 3 (.tmp 35) (.const (.int .i64 1)) 3, 3, none⟩,
 ⟨some 9, .assign (.tmp 36), 3, none⟩] [0, 1, 2, 3, 8, 9])
noncomputable def c113S2 (_ : Unit) : Cmd := (.seq (.block 3 (.draw (drawOps 1 c113code) [0, 1, 2, 3, 8, 9])) (sg c113S1))
noncomputable def c113L0 (_ : Unit) : Cmd := (.seq (.seq (.draw (drawOps 0 c113code) [0, 1, 2, 3, 8, 9, 34]) (sg c113S0)) (sg c113S2))
noncomputable def c113S3 (_ : Unit) : Cmd := (.ops [
 ⟨some 15, .move (.tmp 8), 3, none⟩,
 ⟨some 16, .binOp .add 3 (.tmp 15) (.const (.int .i64 1)) 3, 3, none⟩,
 ⟨some 8, .assign (.tmp 16), 3, none⟩] [0, 1, 2, 3, 8])
noncomputable def c113S4 (_ : Unit) : Cmd := (.seq (.block 1 (.seq (.ops [
 ⟨some 17, .move (.tmp 8), 3, none⟩,
 ⟨some 9, .assign (.tmp 17), 3, none⟩] [0, 1, 2, 3, 8, 9])
 (.block 2 (.loop (sg c113L0))))) (sg c113S3))
noncomputable def c113L1 (_ : Unit) : Cmd := (.seq (.seq (.ops [
 ⟨some 12, .move (.tmp 8), 3, none⟩,
 ⟨some 13, .move (.tmp 2), 3, none⟩,
 ⟨some 14, .binOp .lss 3 (.tmp 12) (.tmp 13) 3, 4, none⟩] [0, 1, 2, 3, 8, 14])
 (.cond (.tmp 14)
  (.skip [0, 1, 2, 3, 8])
  (.exit 0 []))) (sg c113S4))
noncomputable def c113 : Cmd := (.seq (.ops [
 ⟨some 10, .move (.tmp 1), 3, none⟩,
 ⟨some 11, .binOp .add 3 (.tmp 10) (.const (.int .i64 1)) 3, 3, none⟩,
 ⟨some 8, .assign (.tmp 11), 3, none⟩] [0, 1, 2, 3, 8])
 (.block 0 (.loop (sg c113L1))))
set_option maxRecDepth 100000 in
theorem ent113 (a0 a1 a2 a3 : Value) (w : World) (K : Value → World → Prop) (h : W Try.prog c113 [(0, a0), (1, a1), (2, a2), (3, a3)] w (finQ Try.prog [] K)) : Ret Try.prog 113 [a0, a1, a2, a3] w K :=
  Ret_of_W (code := c113code) Try.func113 (by kernel_rfl) (by kernel_rfl) (of_decide_eq_true (by kernel_rfl)) h
@[go_sem] theorem go113 : goFunc Try.prog 113 = true := by kernel_rfl
end Go.Proofs.Ytbeoedgoikcbpaa

namespace Go.Proofs.Ytbeoedgoikcbpaa
set_option linter.unusedSimpArgs false
set_option linter.unusedVariables false
set_option maxRecDepth 100000
open Go Go.Ann Go.RowKit
theorem mfirst_ok (k : Int) (w : World) : Ret Try.prog 62 [.int .i64 k] w fun u w' => (RdS w' 1 intE u (firstP k) ∧ ∀ j, slFoot u j → w.heap.size ≤ j) ∧ Below w.heap.size w w' := by
  refine ent62 _ _ _ ?_
  by_cases h : k = 1 ∨ k = 2
  · have e : firstP k = [0] := if_pos h
    rw [e]
    have fin : ∀ {K : Value → World → Prop}, K (.slice (some ⟨w.heap.size, 0, none⟩) 1 1) (w.alloc (.cells #[.int .i64 0] 3)) → bsW Try.prog 36 1 [0] [.int .i64 0] w K := fun hK => bsW_ones ty36mkI rfl rfl (by decide) (by decide) (intE_one 0) hK
    have res : (RdS (w.alloc (.cells #[.int .i64 0] 3)) 1 intE (.slice (some ⟨w.heap.size, 0, none⟩) 1 1) [0] ∧ ∀ j, slFoot (.slice (some ⟨w.heap.size, 0, none⟩) 1 1) j → w.heap.size ≤ j) ∧ Below w.heap.size w (w.alloc (.cells #[.int .i64 0] 3)) := by
      refine ⟨⟨rd_new (sz := 1) (n := 1) rfl, fun j hj => ?_⟩, (Below.refl _ _).alloc (Nat.le_refl _) _⟩
      have := slFoot_own hj
      simp only [Value.ownBlock, Option.some.injEq] at this
      omega
    rcases h with rfl | rfl
    · simp (disch := first | omega | exact okFill_t rfl | exact okSize_t rfl | exact fun h => h | (simp only [World.size_alloc, World.size_drew, World.size_setCell, size_fill, bytesW]; omega)) only [go_sem, c62, c62S0, c62S1]
      refine fin ?_
      simp (disch := first | omega | exact okFill_t rfl | exact okSize_t rfl | exact fun h => h | (simp only [World.size_alloc, World.size_drew, World.size_setCell, size_fill, bytesW]; omega)) only [go_sem, c62, c62S0, c62S1]
      exact res
    · simp (disch := first | omega | exact okFill_t rfl | exact okSize_t rfl | exact fun h => h | (simp only [World.size_alloc, World.size_drew, World.size_setCell, size_fill, bytesW]; omega)) only [go_sem, c62, c62S0, c62S1]
      refine fin ?_
      simp (disch := first | omega | exact okFill_t rfl | exact okSize_t rfl | exact fun h => h | (simp only [World.size_alloc, World.size_drew, World.size_setCell, size_fill, bytesW]; omega)) only [go_sem, c62, c62S0, c62S1]
      exact res
  · have e : firstP k = [] := if_neg h
    rw [e]
    have h1 : ¬ k = 1 := fun e => h (.inl e)
    have h2 : ¬ k = 2 := fun e => h (.inr e)
    simp (disch := first | omega | exact okFill_t rfl | exact okSize_t rfl | exact fun h => h | (simp only [World.size_alloc, World.size_drew, World.size_setCell, size_fill, bytesW]; omega)) only [go_sem, c62, c62S0, c62S1, h1, h2]
    refine ⟨⟨⟨by simp, none, 0, rfl, Nat.le_refl _, fun h => absurd rfl h⟩, fun j hj => ?_⟩, Below.refl _ _⟩
    have := slFoot_own hj
    simp [Value.ownBlock] at this
theorem ofull_ok {w : World} {lv : Value} {l : List OpT} {d : List Bool} (h : RdS w 11 OpT.enc lv l) (hd : d.length = l.length) (hn : l.length ≤ 16) :
    Ret Try.prog 90 [lv, .int .u32 (maskN d)] w fun u w' => u = .bool (fullP l d) ∧ Below w.heap.size w w' := by
  obtain ⟨la, lc, rfl, _⟩ := h.form
  refine ent90 _ _ _ _ ?_
  simp (disch := first | omega | exact okFill_t rfl | exact okSize_t rfl | exact fun h => h | (simp only [World.size_alloc, World.size_drew, World.size_setCell, size_fill, bytesW]; omega)) only [go_sem, c90, c90S0, c90S1, c90L0, c90S2]
  refine W_loopU (fun k : Nat => [(9, .int .i64 k)]) (fun k w' => Below w.heap.size w w' ∧ k ≤ l.length ∧ ∀ i (h : i < l.length) (h' : i < d.length), i < k → l[i].Done = true → d[i] = true) (fun k => l.length - k) 0 rfl ⟨Below.refl _ _, Nat.zero_le _, fun i _ _ h => by omega⟩ ?_
  rintro k w2 ⟨b2, hk, hinv⟩
  by_cases hlt : k < l.length
  · have hlt' : (k : Int) < l.length := by omega
    obtain ⟨p, rfl⟩ := h.ptr (by omega)
    have eo := (h.below b2 (by decide)).at OpT.len hlt
    have e1 := wrap_u64_nat (show k < 18446744073709551616 by omega)
    have e2 : bits .and .u32 ((maskN d : Int) / 2 ^ min k 32) 1 = if d.getD k false = true then 1 else 0 := by
      rw [Nat.min_eq_left (by omega)]; exact mask_bit (by omega)
    have ao := l[k].at
    simp (disch := first | omega | exact okFill_t rfl | exact okSize_t rfl | exact fun h => h | (simp only [World.size_alloc, World.size_drew, World.size_setCell, size_fill, bytesW]; omega)) only [go_sem, c90, c90S0, c90S1, c90L0, c90S2, c90L0, hlt', eo, OpT.len, e1, ao]
    rw [e2]
    have hkd : k < d.length := by omega
    have ed : d.getD k false = d[k] := by rw [List.getD_eq_getElem?_getD, List.getElem?_eq_getElem hkd]; rfl
    rw [ed]
    have b3 : Below w.heap.size w (w2.alloc (.cells l[k].enc.toArray 58)) := b2.alloc b2.size _
    have step : (l[k].Done = true → d[k] = true) → ∀ i (h : i < l.length) (h' : i < d.length), i < k + 1 → l[i].Done = true → d[i] = true := fun hh i hi hi' hik hD => by
      rcases Nat.lt_or_ge i k with h' | h'
      · exact hinv i hi hi' h' hD
      · obtain rfl : i = k := by omega
        exact hh hD
    cases hdk : d[k] with
    | true => exact ⟨by omega, fun _ => ⟨by omega, fun h => by simp at h, fun _ => ⟨⟨by omega, by omega⟩, k + 1, rfl, ⟨b3, by omega, step fun _ => hdk⟩, by omega⟩⟩, fun hD => ⟨⟨by omega, by omega⟩, k + 1, rfl, ⟨b3, by omega, step fun _ => hdk⟩, by omega⟩⟩
    | false =>
      refine ⟨by omega, fun hD => ⟨by omega, fun _ => ⟨?_, b3⟩, fun h => by simp at h⟩, fun hD => ⟨⟨by omega, by omega⟩, k + 1, rfl, ⟨b3, by omega, step fun h => by rw [hD] at h; cases h⟩, by omega⟩⟩
      cases hf : fullP l d with
      | false => rfl
      | true =>
        have := (fullP_iff hd).1 hf k hlt hkd hD
        rw [hdk] at this; cases this
  · have hlt' : ¬ (k : Int) < l.length := by omega
    simp (disch := first | omega | exact okFill_t rfl | exact okSize_t rfl | exact fun h => h | (simp only [World.size_alloc, World.size_drew, World.size_setCell, size_fill, bytesW]; omega)) only [go_sem, c90, c90S0, c90S1, c90L0, c90S2, c90L0, hlt']
    refine ⟨?_, b2⟩
    exact ((fullP_iff hd).2 fun i hi hi' => hinv i hi hi' (by omega)).symm
theorem olate_ok {w : World} {lv : Value} {l : List OpT} {d : List Bool} {o : OpT} (h : RdS w 11 OpT.enc lv l) (hd : d.length = l.length) (hn : l.length ≤ 16) :
    Ret Try.prog 91 [lv, .int .u32 (maskN d), .agg o.enc.toArray] w fun u w' => u = .bool (!((l.map fun p => before p o).zip d).all fun p => p.2 || !p.1) ∧ Below w.heap.size w w' := by
  obtain ⟨la, lc, rfl, _⟩ := h.form
  refine ent91 _ _ _ _ _ ?_
  have s1 := (St.start (W0 := w)).box o.enc.toArray 58
  simp (disch := first | omega | exact okFill_t rfl | exact okSize_t rfl | exact fun h => h | (simp only [World.size_alloc, World.size_drew, World.size_setCell, size_fill, bytesW]; omega)) only [go_sem, c91, c91S0, c91S1, c91S2, c91L0, c91S3]
  generalize w.alloc (.cells o.enc.toArray 58) = w1 at s1 ⊢
  generalize hb : w.heap.size = b0 at s1 ⊢
  refine W_loopU (fun k : Nat => [(11, .int .i64 k)]) (fun k w' => St w w' (fun _ => False) [.blk b0 o.enc.toArray 58] [] ∧ k ≤ l.length ∧ ∀ i (h : i < l.length) (h' : i < d.length), i < k → before l[i] o = true → d[i] = true) (fun k => l.length - k) 0 rfl ⟨s1, Nat.zero_le _, fun i _ _ h => by omega⟩ ?_
  rintro k w2 ⟨s2, hk, hinv⟩
  by_cases hlt : k < l.length
  · have hlt' : (k : Int) < l.length := by omega
    obtain ⟨p, rfl⟩ := h.ptr (by omega)
    have eo := (h.below s2.bel (by decide)).at OpT.len hlt
    have r2 := s2.rules 0 rfl
    have l2 := (s2.low 0 rfl).2
    have e1 := wrap_u64_nat (show k < 18446744073709551616 by omega)
    have e2 : bits .and .u32 ((maskN d : Int) / 2 ^ min k 32) 1 = if d.getD k false = true then 1 else 0 := by
      rw [Nat.min_eq_left (by omega)]; exact mask_bit (by omega)
    have hkd : k < d.length := by omega
    have ed : d.getD k false = d[k] := by rw [List.getD_eq_getElem?_getD, List.getElem?_eq_getElem hkd]; rfl
    rw [ed] at e2
    simp (disch := first | omega | exact okFill_t rfl | exact okSize_t rfl | exact fun h => h | (simp only [World.size_alloc, World.size_drew, World.size_setCell, size_fill, bytesW]; omega)) only [go_sem, c91, c91S0, c91S1, c91S2, c91L0, c91S3, c91L0, hlt', eo, OpT.len, e1, r2, e2]
    have step : (before l[k] o = true → d[k] = true) → ∀ i (h : i < l.length) (h' : i < d.length), i < k + 1 → before l[i] o = true → d[i] = true := fun hh i hi hi' hik hD => by
      rcases Nat.lt_or_ge i k with h' | h'
      · exact hinv i hi hi' h' hD
      · obtain rfl : i = k := by omega
        exact hh hD
    have s3 := s2.alloc' (.cells l[k].enc.toArray 58)
    cases hdk : d[k] with
    | true => exact ⟨by omega, by omega, fun h => by simp at h, fun _ => ⟨⟨by omega, by omega⟩, k + 1, rfl, ⟨s3, by omega, step fun _ => hdk⟩, by omega⟩⟩
    | false =>
      refine ⟨by omega, by omega, fun _ => Ret.mono (before_ok _ _ _) ?_, fun h => by simp at h⟩
      rintro _ w4 ⟨rfl, b4⟩
      have s4 := s3.call b4
      cases hbf : before l[k] o with
      | true =>
        simp (disch := first | omega | exact okFill_t rfl | exact okSize_t rfl | exact fun h => h | (simp only [World.size_alloc, World.size_drew, World.size_setCell, size_fill, bytesW]; omega)) only [go_sem, c91, c91S0, c91S1, c91S2, c91L0, c91S3]
        have : ((l.map fun p => before p o).zip d).all (fun p => p.2 || !p.1) = false := by
          cases hz : ((l.map fun p => before p o).zip d).all (fun p => p.2 || !p.1) with
          | false => rfl
          | true =>
            have := (zipAll (fun p => before p o) l d hd).1 hz k hlt hkd hbf
            rw [hdk] at this; cases this
        rw [this]
        exact ⟨rfl, by rw [← hb]; exact s4.bel⟩
      | false =>
        simp (disch := first | omega | exact okFill_t rfl | exact okSize_t rfl | exact fun h => h | (simp only [World.size_alloc, World.size_drew, World.size_setCell, size_fill, bytesW]; omega)) only [go_sem, c91, c91S0, c91S1, c91S2, c91L0, c91S3]
        exact ⟨⟨by omega, by omega⟩, k + 1, rfl, ⟨s4, by omega, step fun h => by rw [hbf] at h; cases h⟩, by omega⟩
  · have hlt' : ¬ (k : Int) < l.length := by omega
    simp (disch := first | omega | exact okFill_t rfl | exact okSize_t rfl | exact fun h => h | (simp only [World.size_alloc, World.size_drew, World.size_setCell, size_fill, bytesW]; omega)) only [go_sem, c91, c91S0, c91S1, c91S2, c91L0, c91S3, c91L0, hlt']
    have := (zipAll (fun p => before p o) l d hd).2 fun i hi hi' => hinv i hi hi' (by omega)
    rw [this]
    exact ⟨rfl, by rw [← hb]; exact s2.bel⟩
end Go.Proofs.Ytbeoedgoikcbpaa

namespace Go.Proofs.Ytbeoedgoikcbpaa
set_option linter.unusedSimpArgs false
set_option linter.unusedVariables false
set_option maxRecDepth 100000
open Go Go.Ann Go.RowKit
abbrev OKey := Nat × Nat × List UInt8
def osE (k : OKey) : List Value := [.int .i64 k.1, .int .u32 k.2.1, .string (ofL k.2.2)]
theorem keyT_os : ∃ d, KeyT Try.prog 134 (fun k : OKey => .agg (osE k).toArray) d := by
  refine ⟨_, keyT_flat ty134flat Try.underlying134 (fun a b => ?_) fun a i f h => ?_⟩
  · simp only [aggEq, osE, vEq, andO, if_true, toL_ofL, Option.some.injEq]
    rw [Bool.eq_iff_iff, decide_eq_true_eq]
    obtain ⟨a1, a2, a3⟩ := a
    obtain ⟨b1, b2, b3⟩ := b
    simp only [Bool.and_eq_true, decide_eq_true_eq, Bool.and_true, Prod.mk.injEq]
    constructor
    · rintro ⟨h1, h2, h3⟩; exact ⟨by omega, by omega, of_decide_eq_true h3⟩
    · rintro ⟨h1, h2, h3⟩; exact ⟨by omega, by omega, decide_eq_true h3⟩
  · match i, h with
    | 0, h => simp at h; subst h; exact ⟨_, rfl⟩
    | 1, h => simp at h; subst h; exact ⟨_, rfl⟩
    | 2, h => simp at h; subst h; exact ⟨_, rfl⟩
    | i + 3, h => simp at h
def osK (p : OSpot) : OKey := (p.1, maskN p.2.1, txt p.2.2)
theorem osK_mem {ls : List (List OpT)} {dead : List OSpot} {g : Nat} {d : List Bool} {s : List Int} {l : List OpT} (hl : ls[g]? = some l) (hd : d.length = l.length) (hs : OkS s) (hok : ∀ p ∈ dead, (∀ l, ls[p.1]? = some l → p.2.1.length = l.length) ∧ OkS p.2.2) :
    osK (g, d, s) ∈ dead.map osK ↔ (g, d, s) ∈ dead := by
  rw [List.mem_map]
  constructor
  · rintro ⟨⟨g', d', s'⟩, hp, e⟩
    obtain ⟨h1, h2⟩ := hok _ hp
    unfold osK at e
    simp only [Prod.mk.injEq] at e
    obtain ⟨rfl, e2, e3⟩ := e
    have h3 := h1 l hl
    simp only at h3 h2
    obtain rfl := maskN_inj (h3.trans hd.symm) e2
    obtain rfl := h2.inj hs e3
    exact hp
  · intro h
    exact ⟨_, h, rfl⟩
end Go.Proofs.Ytbeoedgoikcbpaa

namespace Go.Proofs.Ytbeoedgoikcbpaa
set_option linter.unusedSimpArgs false
set_option linter.unusedVariables false
set_option maxRecDepth 100000
open Go Go.Ann Go.RowKit
def ChEx : List (List OpT) → List Int → List Int → Prop
  | [], s, t => t = s
  | l :: r, s, t => ∃ u, Exit l s u ∧ ChEx r u t
end Go.Proofs.Ytbeoedgoikcbpaa

namespace Go.Proofs.Ytbeoedgoikcbpaa.Cut
set_option linter.unusedSimpArgs false
set_option linter.unusedVariables false
set_option maxRecDepth 100000
open Go Go.Ann Go.RowKit
theorem callW_caps {P : Program} {f : FuncId} {first cap : Array Value} {args : List Value} {w : World} {K : Value → World → Prop} : callW P (.func (.func f) first cap) args w K = (goFunc P f = true ∧ Ret P f (first.toList ++ args ++ cap.toList) w K) := rfl
def Tells (w : World) (fv : Value) (p : OpT → Bool) : Prop := ∀ x w', Below w.heap.size w w' → callW Try.prog fv [.agg x.enc.toArray] w' fun u w'' => u = .bool (p x) ∧ Below w'.heap.size w' w''
def firstI (p : OpT → Bool) (l : List OpT) : Int := match l.findIdx? p with | some i => i | none => -1
theorem firstI_at {p : OpT → Bool} {l : List OpT} {k : Nat} (h : k < l.length) (hp : p l[k] = true) (hb : ∀ j, (h : j < l.length) → j < k → p l[j] = false) : firstI p l = k := by
  unfold firstI
  rw [List.findIdx?_eq_some_iff_getElem.2 ⟨h, hp, fun j hj => by rw [hb j (by omega) hj]; decide⟩]
theorem firstI_none {p : OpT → Bool} {l : List OpT} (hb : ∀ j, (h : j < l.length) → p l[j] = false) : firstI p l = -1 := by
  unfold firstI
  rw [List.findIdx?_eq_none_iff.2 fun x hx => by obtain ⟨j, hj, rfl⟩ := List.mem_iff_getElem.1 hx; exact hb j hj]
theorem firstI_any {p : OpT → Bool} {l : List OpT} : decide (0 ≤ firstI p l) = l.any p := by
  rcases h : l.any p with _ | _
  · rw [firstI_none fun j hj => by simpa using (List.any_eq_false.1 h) _ (List.getElem_mem hj)]; decide
  · unfold firstI
    cases e : l.findIdx? p with
    | none => rw [List.findIdx?_eq_none_iff] at e; obtain ⟨x, hx, hp⟩ := List.any_eq_true.1 h; rw [e x hx] at hp; cases hp
    | some i => exact decide_eq_true (by show (0 : Int) ≤ (i : Int); omega)
theorem indexFunc_ok (fv : Value) (p : OpT → Bool) (v : Value) (l : List OpT) (w : World) (h : RdS w 11 OpT.enc v l) (hf : Tells w fv p) (hl : (l.length : Int) ≤ 9223372036854775806) :
    Ret Try.prog 80 [v, fv] w fun u w' => u = .int .i64 (firstI p l) ∧ Below w.heap.size w w' := by
  obtain ⟨a, c, rfl, _⟩ := h.form
  refine ent80 _ _ _ _ ?_
  simp (disch := first | omega | exact okFill_t rfl | exact okSize_t rfl | exact fun h => h | (simp only [World.size_alloc, World.size_drew, World.size_setCell, size_fill, bytesW]; omega)) only [go_sem, c80, c80S0, c80S1, c80S2, c80L0, c80S3]
  refine W_loopU (fun k : Nat => [(8, .int .i64 k)]) (fun k w' => Below w.heap.size w w' ∧ k ≤ l.length ∧ ∀ j, (h : j < l.length) → j < k → p l[j] = false) (fun k => l.length - k) 0 rfl ⟨Below.refl _ _, Nat.zero_le _, fun j _ h => by omega⟩ ?_
  rintro k w1 ⟨hw, hk, he⟩
  by_cases hlt : k < l.length
  · obtain ⟨q, rfl⟩ := h.ptr (by omega)
    have ek := h.eltB hw OpT.len (by decide) hlt
    have ck := cellsO_below hw (h.at OpT.len hlt)
    have hlt' : (k : Int) < l.length := by omega
    simp (disch := first | omega | exact okFill_t rfl | exact okSize_t rfl | exact fun h => h | (simp only [World.size_alloc, World.size_drew, World.size_setCell, size_fill, bytesW]; omega)) only [go_sem, c80, c80S0, c80S1, c80S2, c80L0, c80S3, hlt', ck, ek]
    refine ⟨by omega, callW_mono (hf _ _ hw) ?_⟩
    rintro _ w2 ⟨rfl, hb⟩
    simp (disch := first | omega | exact okFill_t rfl | exact okSize_t rfl | exact fun h => h | (simp only [World.size_alloc, World.size_drew, World.size_setCell, size_fill, bytesW]; omega)) only [go_sem, c80, c80S0, c80S1, c80S2, c80L0, c80S3, hlt']
    have hwt := hw.trans (hb.mono hw.size)
    refine ⟨fun hp => ⟨(firstI_at hlt hp he).symm, hwt⟩, fun hp => ⟨⟨by omega, by omega⟩, k + 1, rfl, ⟨hwt, by omega, fun j h1 h2 => ?_⟩, by omega⟩⟩
    rcases Nat.lt_or_ge j k with h' | h'
    · exact he j h1 h'
    · obtain rfl : j = k := by omega
      exact hp
  · have hlt' : ¬ (k : Int) < l.length := by omega
    simp (disch := first | omega | exact okFill_t rfl | exact okSize_t rfl | exact fun h => h | (simp only [World.size_alloc, World.size_drew, World.size_setCell, size_fill, bytesW]; omega)) only [go_sem, c80, c80S0, c80S1, c80S2, c80L0, c80S3, hlt']
    exact ⟨(firstI_none fun j h => he j h (by omega)).symm, hw⟩
theorem containsFunc_ok (fv : Value) (p : OpT → Bool) (v : Value) (l : List OpT) (w : World) (h : RdS w 11 OpT.enc v l) (hf : Tells w fv p) (hl : (l.length : Int) ≤ 9223372036854775806) :
    Ret Try.prog 83 [v, fv] w fun u w' => u = .bool (l.any p) ∧ Below w.heap.size w w' := by
  refine ent83 _ _ _ _ ?_
  simp (disch := first | omega | exact okFill_t rfl | exact okSize_t rfl | exact fun h => h | (simp only [World.size_alloc, World.size_drew, World.size_setCell, size_fill, bytesW]; omega)) only [go_sem, c83, c83S0]
  refine Ret.mono (indexFunc_ok _ p _ _ _ h hf hl) ?_
  rintro _ w1 ⟨rfl, hb⟩
  simp (disch := first | omega | exact okFill_t rfl | exact okSize_t rfl | exact fun h => h | (simp only [World.size_alloc, World.size_drew, World.size_setCell, size_fill, bytesW]; omega)) only [go_sem, c83, c83S0]
  exact ⟨firstI_any, hb⟩
theorem quiet1_ok (o x : OpT) (b : Nat) (w : World) (h : Blk w b o.enc.toArray 58) :
    Ret Try.prog 112 [.agg x.enc.toArray, .pointer (some ⟨b, 0, none⟩)] w fun u w' => u = .bool (!before x o) ∧ Below w.heap.size w w' := by
  refine ent112 _ _ _ _ ?_
  have hr := (h.alloc (.cells x.enc.toArray 58)).rules
  have hlt := h.lt
  simp (disch := first | omega | exact okFill_t rfl | exact okSize_t rfl | exact fun h => h | (simp only [World.size_alloc, World.size_drew, World.size_setCell, size_fill, bytesW]; omega)) only [go_sem, c112, c112S0, hr]
  refine Ret.mono (before_ok x o _) ?_
  rintro _ w1 ⟨rfl, hb⟩
  simp (disch := first | omega | exact okFill_t rfl | exact okSize_t rfl | exact fun h => h | (simp only [World.size_alloc, World.size_drew, World.size_setCell, size_fill, bytesW]; omega)) only [go_sem, c112, c112S0, hr]
  (repeat' (first | with_reducible exact Below.refl _ _ | with_reducible assumption | (with_reducible refine Below.drew ?_) | (with_reducible refine Below.alloc ?_ ?_ _) | (with_reducible refine Below.setCell ?_ ?_ _) | (with_reducible refine Below.fill ?_ ?_) | (with_reducible refine Below.via (by assumption) ?_ ?_) | omega | (simp only [World.size_alloc, World.size_drew, World.size_setCell, size_fill, bytesW]; omega)))
theorem quiet_ok (v : Value) (l : List OpT) (o : OpT) (w : World) (h : RdS w 11 OpT.enc v l) (hl : (l.length : Int) ≤ 9223372036854775806) :
    Ret Try.prog 87 [v, .agg o.enc.toArray] w fun u w' => u = .bool (l.all fun x => before x o) ∧ Below w.heap.size w w' := by
  obtain ⟨a, c, rfl, _⟩ := h.form
  refine ent87 _ _ _ _ ?_
  simp (disch := first | omega | exact okFill_t rfl | exact okSize_t rfl | exact fun h => h | (simp only [World.size_alloc, World.size_drew, World.size_setCell, size_fill, bytesW]; omega)) only [go_sem, c87, c87S0]
  refine Ret.mono (containsFunc_ok _ (fun x => !before x o) _ _ _ (h.below ((Below.refl _ _).alloc (Nat.le_refl _) _) (by decide)) ?_ hl) ?_
  · intro x w' hb
    rw [callW_caps]
    exact ⟨by kernel_rfl, quiet1_ok o x _ w' (Blk.new.below hb (by rw [World.size_alloc]; omega))⟩
  rintro _ w1 ⟨rfl, hb⟩
  simp (disch := first | omega | exact okFill_t rfl | exact okSize_t rfl | exact fun h => h | (simp only [World.size_alloc, World.size_drew, World.size_setCell, size_fill, bytesW]; omega)) only [go_sem, c87, c87S0]
  refine ⟨?_, by (repeat' (first | with_reducible exact Below.refl _ _ | with_reducible assumption | (with_reducible refine Below.drew ?_) | (with_reducible refine Below.alloc ?_ ?_ _) | (with_reducible refine Below.setCell ?_ ?_ _) | (with_reducible refine Below.fill ?_ ?_) | (with_reducible refine Below.via (by assumption) ?_ ?_) | omega | (simp only [World.size_alloc, World.size_drew, World.size_setCell, size_fill, bytesW]; omega)))⟩
  rw [List.not_all_eq_any_not]
theorem isNaN_ok (a : Int) (w : World) : Ret Try.prog 89 [.int .i64 a] w fun u w' => u = .bool false ∧ w' = w := by
  refine ent89 _ _ _ ?_
  simp (disch := first | omega | exact okFill_t rfl | exact okSize_t rfl | exact fun h => h | (simp only [World.size_alloc, World.size_drew, World.size_setCell, size_fill, bytesW]; omega)) only [go_sem, c89]
theorem compare_ok (a b : Int) (w : World) : Ret Try.prog 60 [.int .i64 a, .int .i64 b] w fun u w' => u = .int .i64 (cmpI a b) ∧ w' = w := by
  refine ent60 _ _ _ _ ?_
  simp (disch := first | omega | exact okFill_t rfl | exact okSize_t rfl | exact fun h => h | (simp only [World.size_alloc, World.size_drew, World.size_setCell, size_fill, bytesW]; omega)) only [go_sem, c60, c60S0, c60S1, c60S2, c60S3, c60S4, c60S5, c60S6]
  refine Ret.mono (isNaN_ok _ _) ?_
  rintro _ _ ⟨rfl, rfl⟩
  simp (disch := first | omega | exact okFill_t rfl | exact okSize_t rfl | exact fun h => h | (simp only [World.size_alloc, World.size_drew, World.size_setCell, size_fill, bytesW]; omega)) only [go_sem, c60, c60S0, c60S1, c60S2, c60S3, c60S4, c60S5, c60S6]
  refine Ret.mono (isNaN_ok _ _) ?_
  rintro _ _ ⟨rfl, rfl⟩
  simp (disch := first | omega | exact okFill_t rfl | exact okSize_t rfl | exact fun h => h | (simp only [World.size_alloc, World.size_drew, World.size_setCell, size_fill, bytesW]; omega)) only [go_sem, c60, c60S0, c60S1, c60S2, c60S3, c60S4, c60S5, c60S6]
  unfold cmpI
  refine ⟨fun h => by rw [if_pos h], fun h => ⟨fun h2 => by rw [if_neg (by omega), if_pos h2], fun h2 => by rw [if_neg (by omega), if_neg (by omega)]⟩⟩
theorem clone_ok (v : Value) (l : List OpT) (w : World) (h : RdS w 11 OpT.enc v l) (hl : l.length ≤ 100) :
    Ret Try.prog 57 [v] w fun u w' => w'.ownsRow w.heap.size 58 11 u l.length (l.flatMap OpT.enc) ∧ Below w.heap.size w w' := by
  obtain ⟨a, c, rfl, _⟩ := h.form
  refine ent57 _ _ _ ?_
  simp (disch := first | omega | exact okFill_t rfl | exact okSize_t rfl | exact fun h => h | (simp only [World.size_alloc, World.size_drew, World.size_setCell, size_fill, bytesW]; omega)) only [go_sem, c57, c57S0, c57S1]
  have hSt := (St.start (W0 := w)).emptyRow 58 11
  refine ⟨fun ha => ?_, fun ha => bsW_none ty22mkI ?_⟩
  · cases a with
    | some a => cases ha
    | none =>
      have h0 : l = [] := by
        cases l with
        | nil => rfl
        | cons x l => obtain ⟨p, hp⟩ := h.ptr (by simp); cases hp
      subst h0
      exact ⟨⟨rfl, .inl ⟨rfl, rfl⟩⟩, Below.refl _ _⟩
  simp (disch := first | omega | exact okFill_t rfl | exact okSize_t rfl | exact fun h => h | (simp only [World.size_alloc, World.size_drew, World.size_setCell, size_fill, bytesW]; omega)) only [go_sem, c57, c57S0, c57S1]
  refine hSt.append 0 rfl ty22mkI rfl (by decide) (h.below hSt.bel (by decide)) (OpT.ones l) (by omega) (by omega) ?_
  intro v2 w2 s2 _
  have e2 := s2.row 0 rfl
  rw [Nat.zero_add, List.nil_append] at e2
  simp (disch := first | omega | exact okFill_t rfl | exact okSize_t rfl | exact fun h => h | (simp only [World.size_alloc, World.size_drew, World.size_setCell, size_fill, bytesW]; omega)) only [go_sem, c57, c57S0, c57S1]
  exact ⟨e2, s2.bel⟩
theorem find_at {α : Type} {p : α → Bool} : ∀ {l : List α} {k : Nat} (h : k < l.length), p l[k] = true → (∀ j, (h : j < l.length) → j < k → p l[j] = false) → l.find? p = some l[k]
  | a :: l, 0, h, hp, _ => by rw [List.find?_cons_of_pos (by exact hp)]; rfl
  | a :: l, k + 1, h, hp, hb => by
    rw [List.find?_cons_of_neg (by have := hb 0 (by simp) (by omega); exact Bool.eq_false_iff.1 this)]
    exact find_at (l := l) (k := k) (by simpa using h) hp fun j h1 h2 => hb (j + 1) (by simpa using h1) (by omega)
theorem or_ok (v : Value) (l : List Int) (w : World) (h : RdS w 1 (fun n => [.int .i64 n]) v l) (hl : (l.length : Int) ≤ 9223372036854775806) :
    Ret Try.prog 111 [v] w fun u w' => u = .int .i64 ((l.find? (· ≠ 0)).getD 0) ∧ w' = w := by
  obtain ⟨a, c, rfl, _⟩ := h.form
  refine ent111 _ _ _ ?_
  simp (disch := first | omega | exact okFill_t rfl | exact okSize_t rfl | exact fun h => h | (simp only [World.size_alloc, World.size_drew, World.size_setCell, size_fill, bytesW]; omega)) only [go_sem, c111, c111S0, c111S1, c111L0, c111S2]
  refine W_loopU (fun k : Nat => [(8, .int .i64 k)]) (fun k w' => w' = w ∧ k ≤ l.length ∧ ∀ j, (h : j < l.length) → j < k → l[j] = 0) (fun k => l.length - k) 0 rfl ⟨rfl, Nat.zero_le _, fun j _ h => by omega⟩ ?_
  rintro k _ ⟨rfl, hk, he⟩
  by_cases hlt : k < l.length
  · obtain ⟨q, rfl⟩ := h.ptr (by omega)
    have ck := h.at1 (e1 := fun n => .int .i64 n) hlt
    have hlt' : (k : Int) < l.length := by omega
    simp (disch := first | omega | exact okFill_t rfl | exact okSize_t rfl | exact fun h => h | (simp only [World.size_alloc, World.size_drew, World.size_setCell, size_fill, bytesW]; omega)) only [go_sem, c111, c111S0, c111S1, c111L0, c111S2, hlt', ck]
    refine ⟨by omega, fun hne => ?_, fun h0 => ⟨⟨by omega, by omega⟩, k + 1, rfl, ⟨by omega, fun j h1 h2 => ?_⟩, by omega⟩⟩
    · rw [find_at hlt (by simpa using hne) fun j h h2 => by simpa using he j h h2]; rfl
    · rcases Nat.lt_or_ge j k with h' | h'
      · exact he j h1 h'
      · obtain rfl : j = k := by omega
        exact h0
  · have hlt' : ¬ (k : Int) < l.length := by omega
    simp (disch := first | omega | exact okFill_t rfl | exact okSize_t rfl | exact fun h => h | (simp only [World.size_alloc, World.size_drew, World.size_setCell, size_fill, bytesW]; omega)) only [go_sem, c111, c111S0, c111S1, c111L0, c111S2, hlt']
    rw [List.find?_eq_none.2 fun x hx => by obtain ⟨j, hj, rfl⟩ := List.mem_iff_getElem.1 hx; simpa using he j hj (by omega)]
    rfl
end Go.Proofs.Ytbeoedgoikcbpaa.Cut

namespace Go.Proofs.Ytbeoedgoikcbpaa
set_option linter.unusedSimpArgs false
set_option linter.unusedVariables false
set_option maxRecDepth 100000
open Go Go.Ann Go.RowKit
def runP : List Int → List OpT → Option (List Int)
  | s, [] => some s
  | s, o :: l => match stepP s o with
    | none => none
    | some t => runP t l
theorem runP_snoc : ∀ {s : List Int} {l : List OpT} {o : OpT}, runP s (l ++ [o]) = (match runP s l with | none => none | some t => stepP t o)
  | s, [], o => by simp only [List.nil_append, runP]; cases stepP s o <;> rfl
  | s, p :: l, o => by
    simp only [List.cons_append, runP]
    cases stepP s p with
    | none => rfl
    | some t => exact runP_snoc
def StOk (K : Int) (M : Nat) (s : List Int) : Prop := Ok64 s ∧ s.length ≤ M ∧ (K = 5 → s.Pairwise (· < ·))
theorem StOk.go {K : Int} {M : Nat} {s t : List Int} {o : OpT} (h : StOk K M s) (hK : o.Kind = K) (hw : o.wf) (hs : stepP s o = some t) : StOk K (M + 1) t := by
  obtain ⟨h1, h2, h3⟩ := stepP_ok hw h.1 (fun e => h.2.2 (hK.symm.trans e)) hs
  exact ⟨h1, by have := h.2.1; omega, fun e => h3 (hK.trans e)⟩
end Go.Proofs.Ytbeoedgoikcbpaa

namespace Go.Proofs.Ytbeoedgoikcbpaa
set_option linter.unusedSimpArgs false
set_option linter.unusedVariables false
set_option maxRecDepth 100000
open Go Go.Ann Go.RowKit
theorem mruns_ok {w : World} {lv sv : Value} {l : List OpT} {s : List Int} {K : Int} {M : Nat} (h : RdS w 11 OpT.enc lv l) (hs : RdS w 1 intE sv s) (hl : l.length ≤ 1000) (hK : ∀ o ∈ l, o.Kind = K) (hw : ∀ o ∈ l, o.wf) (h0 : StOk K M s) (hM : M ≤ 100000) :
    Ret Try.prog 85 [sv, lv] w fun u w' => (∃ t ok, u = .tuple #[t, .bool ok] ∧ match runP s l with
      | none => ok = false
      | some s' => ok = true ∧ RdS w' 1 intE t s') ∧ Below w.heap.size w w' := by
  obtain ⟨la, lc, rfl, _⟩ := h.form
  obtain ⟨sa, sc, rfl, _⟩ := hs.form
  refine ent85 _ _ _ _ ?_
  simp (disch := first | omega | exact okFill_t rfl | exact okSize_t rfl | exact fun h => h | (simp only [World.size_alloc, World.size_drew, World.size_setCell, size_fill, bytesW]; omega)) only [go_sem, c85, c85S0, c85S1, c85S2, c85L0, c85S3, c85S4]
  refine Ret.mono (iclone_ok _ s w hs (by have := h0.2.1; omega)) ?_
  rintro cv w1 ⟨hcl, b1⟩
  have hc1 : RdS w1 1 intE cv s := RdS.of_own hcl
  obtain ⟨ca, cc, rfl, _⟩ := hc1.form
  simp (disch := first | omega | exact okFill_t rfl | exact okSize_t rfl | exact fun h => h | (simp only [World.size_alloc, World.size_drew, World.size_setCell, size_fill, bytesW]; omega)) only [go_sem, c85, c85S0, c85S1, c85S2, c85L0, c85S3, c85S4]
  refine W_loopU (fun x : Nat × Value × List Int => [(6, x.2.1), (14, .int .i64 x.1)]) (fun x w' => Below w.heap.size w w' ∧ x.1 ≤ l.length ∧ RdS w' 1 intE x.2.1 x.2.2 ∧ runP s (l.take x.1) = some x.2.2 ∧ StOk K (M + x.1) x.2.2) (fun x => l.length - x.1) (0, .slice ca s.length cc, s) rfl ⟨b1, Nat.zero_le _, hc1, rfl, h0⟩ ?_
  rintro ⟨k, tv, t⟩ w2 ⟨b2, hk, ht, hr, ho⟩
  simp only at b2 hk ht hr ho
  obtain ⟨ta, tc, rfl, _⟩ := ht.form
  by_cases hlt : k < l.length
  · have hlt' : (k : Int) < l.length := by omega
    obtain ⟨p, rfl⟩ := h.ptr (by omega)
    have eo := (h.below b2 (by decide)).at OpT.len hlt
    have hmem := List.getElem_mem hlt
    have ek : runP s (l.take (k + 1)) = stepP t l[k] := by rw [List.take_succ_eq_append_getElem hlt, runP_snoc, hr]
    simp (disch := first | omega | exact okFill_t rfl | exact okSize_t rfl | exact fun h => h | (simp only [World.size_alloc, World.size_drew, World.size_setCell, size_fill, bytesW]; omega)) only [go_sem, c85, c85S0, c85S1, c85S2, c85L0, c85S3, c85S4, c85L0, hlt', eo, OpT.len]
    refine ⟨by omega, Ret.mono (step_ok _ t l[k] _ (ht.below ((Below.refl _ _).alloc (Nat.le_refl _) (.cells l[k].enc.toArray 58)) (by decide)) (by have := ho.2.1; omega) (fun e => ho.2.2 ((hK _ hmem).symm.trans e))) ?_⟩
    rintro _ w3 ⟨⟨v, ok, rfl, hm⟩, b3⟩
    have b23 := Below.next (b2.alloc b2.size (.cells l[k].enc.toArray 58)) b3
    cases hst : stepP t l[k] with
    | none =>
      rw [hst] at hm ek
      have hm : ok = false := hm
      subst hm
      have e : runP s l = none := by
        have aux : ∀ n, runP s (l.take (k + 1 + n)) = none := by
          intro n
          induction n with
          | zero => exact ek
          | succ n ih =>
            by_cases h' : k + 1 + n < l.length
            · rw [← Nat.add_assoc, List.take_succ_eq_append_getElem h', runP_snoc, ih]
            · rw [List.take_of_length_le (by omega)] at ih ⊢
              exact ih
        have := aux l.length
        rwa [List.take_of_length_le (by omega)] at this
      simp (disch := first | omega | exact okFill_t rfl | exact okSize_t rfl | exact fun h => h | (simp only [World.size_alloc, World.size_drew, World.size_setCell, size_fill, bytesW]; omega)) only [go_sem, c85, c85S0, c85S1, c85S2, c85L0, c85S3, c85S4]
      rw [e]
      exact ⟨⟨_, _, rfl, rfl⟩, b23⟩
    | some t' =>
      rw [hst] at hm ek
      obtain ⟨rfl, h5, _⟩ := hm
      simp (disch := first | omega | exact okFill_t rfl | exact okSize_t rfl | exact fun h => h | (simp only [World.size_alloc, World.size_drew, World.size_setCell, size_fill, bytesW]; omega)) only [go_sem, c85, c85S0, c85S1, c85S2, c85L0, c85S3, c85S4]
      refine ⟨⟨by omega, by omega⟩, (k + 1, v, t'), rfl, ⟨b23, by simp only; omega, h5, ek, ?_⟩, by simp only; omega⟩
      exact ho.go (hK _ hmem) (hw _ hmem) hst
  · have hlt' : ¬ (k : Int) < l.length := by omega
    rw [List.take_of_length_le (by omega)] at hr
    simp (disch := first | omega | exact okFill_t rfl | exact okSize_t rfl | exact fun h => h | (simp only [World.size_alloc, World.size_drew, World.size_setCell, size_fill, bytesW]; omega)) only [go_sem, c85, c85S0, c85S1, c85S2, c85L0, c85S3, c85S4, c85L0, hlt']
    rw [hr]
    exact ⟨⟨_, _, rfl, rfl, ht⟩, b2⟩
end Go.Proofs.Ytbeoedgoikcbpaa

namespace Go.Proofs.Ytbeoedgoikcbpaa
set_option linter.unusedSimpArgs false
set_option linter.unusedVariables false
set_option maxRecDepth 100000
open Go Go.Ann Go.RowKit
structure GS (ls : List (List OpT)) (K : Int) (M : Nat) (p : OSpot) : Prop where
  len : ∀ l, ls[p.1]? = some l → p.2.1.length = l.length
  ok : Ok64 p.2.2
  room : p.2.2.length + work ls p.1 p.2.1 ≤ M
  up : K = 5 → p.2.2.Pairwise (· < ·)
theorem GS.okS {ls : List (List OpT)} {K : Int} {M : Nat} {p : OSpot} (h : GS ls K M p) (hM : M ≤ 1000000) : OkS p.2.2 := ⟨h.ok, by have := h.room; omega⟩
theorem GS.go {ls : List (List OpT)} {K : Int} {M g : Nat} {d : List Bool} {s t : List Int} {l : List OpT} {i : Nat} {o : OpT} (h : GS ls K M (g, d, s)) (hl : ls[g]? = some l) (ho : l[i]? = some o) (hm : mayP l d i o = true) (hst : stepP s o = some t) (hK : o.Kind = K) (hw : o.wf) :
    GS ls K M (g, d.set i true, t) ∧ work ls g (d.set i true) + 1 = work ls g d := by
  have hd := h.len l hl
  have e : newAt l (d, s) i = [(d.set i true, t)] := by unfold newAt; rw [ho]; simp [hm, hst]
  obtain ⟨hq1, hq2⟩ := nextL_mem (l := l) (p := (d, s)) (q := (d.set i true, t)) (k := i + 1) hd (by rw [nextL, e]; simp)
  have hw' := work_go (ls := ls) (g := g) hq2
  have hs : StOk K s.length s := ⟨h.ok, Nat.le_refl _, h.up⟩
  obtain ⟨g1, g2, g3⟩ := hs.go hK hw hst
  have hr := h.room
  refine ⟨⟨fun l' h' => ?_, g1, ?_, g3⟩, hw'⟩
  · rw [hl] at h'; obtain rfl := Option.some.inj h'; exact hq1
  · simp only at hr hw' ⊢; omega
theorem GS.full {ls : List (List OpT)} {K : Int} {M g : Nat} {d : List Bool} {s : List Int} {l : List OpT} (h : GS ls K M (g, d, s)) (hl : ls[g]? = some l) : GS ls K M (g + 1, nextD ls (g + 1), s) := by
  have hg := (List.getElem?_eq_some_iff.1 hl).1
  have hw := work_next (d := d) hg
  have hr := h.room
  exact ⟨fun l' h' => nextD_len h', h.ok, by simp only at hr ⊢; omega, h.up⟩
theorem loopP_low {G : List Bool → List Int → FS → Bool × FS} {l : List OpT} {d : List Bool} {s : List Int} {B : Int} (hB : 0 ≤ B) (hle : ∀ d t f, (G d t f).2.left ≤ f.left) (hG : ∀ d t f, (0 ≤ f.left → -B ≤ (G d t f).2.left) ∧ (f.left < 0 → f.left - 1 ≤ (G d t f).2.left)) :
    ∀ (n i : Nat) f, (0 ≤ f.left → -B - (n : Int) ≤ (loopP G l d s i n f).2.left) ∧ (f.left < 0 → f.left - (n : Int) ≤ (loopP G l d s i n f).2.left)
  | 0, i, f => ⟨fun h => by show _ ≤ f.left; omega, fun h => by show _ ≤ f.left; omega⟩
  | n + 1, i, f => by
    have ih := loopP_low (l := l) (d := d) (s := s) hB hle hG n (i + 1)
    rw [loopP]
    cases l[i]? with
    | none => exact ⟨fun h => by show _ ≤ f.left; omega, fun h => by show _ ≤ f.left; omega⟩
    | some o =>
      simp only
      have skip : (0 ≤ f.left → -B - ((n + 1 : Nat) : Int) ≤ (loopP G l d s (i + 1) n f).2.left) ∧ (f.left < 0 → f.left - ((n + 1 : Nat) : Int) ≤ (loopP G l d s (i + 1) n f).2.left) := by
        obtain ⟨h1, h2⟩ := ih f
        exact ⟨fun h => by have := h1 h; omega, fun h => by have := h2 h; omega⟩
      split
      · cases stepP s o with
        | none => exact skip
        | some t =>
          simp only
          have hg := hG (d.set i true) t { f with ids := f.ids ++ [o.ID] }
          have hl := hle (d.set i true) t { f with ids := f.ids ++ [o.ID] }
          generalize G (d.set i true) t { f with ids := f.ids ++ [o.ID] } = r at hg hl ⊢
          simp only at hg hl
          obtain ⟨a, b⟩ := ih { r.2 with ids := r.2.ids.dropLast }
          simp only at a b
          split
          · exact ⟨fun h => by have := hg.1 h; omega, fun h => by have := hg.2 h; omega⟩
          · refine ⟨fun h => ?_, fun h => ?_⟩
            · have := hg.1 h
              by_cases h0 : 0 ≤ r.2.left
              · have := a h0; omega
              · have := b (by omega); omega
            · have := hg.2 h
              have := b (by omega); omega
      · exact skip
theorem findP_low {ls : List (List OpT)} (h16 : ∀ l ∈ ls, l.length ≤ 16) : ∀ (k g : Nat) d s f, (0 ≤ f.left → -(17 * (k : Int)) ≤ (findP ls k g d s f).2.left) ∧ (f.left < 0 → f.left - 1 ≤ (findP ls k g d s f).2.left)
  | 0, g, d, s, f => ⟨fun h => by show _ ≤ f.left; omega, fun h => by show _ ≤ f.left; omega⟩
  | k + 1, g, d, s, f => by
    have same : (0 ≤ f.left → -(17 * ((k + 1 : Nat) : Int)) ≤ f.left) ∧ (f.left < 0 → f.left - 1 ≤ f.left) := ⟨fun h => by omega, fun h => by omega⟩
    rw [findP]
    cases hl : ls[g]? with
    | none => exact same
    | some l =>
      have hn := h16 l (List.mem_of_getElem? hl)
      simp only
      split
      · obtain ⟨a, b⟩ := findP_low h16 k (g + 1) (nextD ls (g + 1)) s f
        exact ⟨fun h => by have := a h; omega, b⟩
      · split
        · exact same
        · split
          · exact ⟨fun h => by simp only; omega, fun h => by simp only; omega⟩
          · have hL := loopP_low (l := l) (d := d) (s := s) (B := 17 * k) (by omega) (findP_left (ls := ls) k g) (fun d t f => findP_low h16 k g d t f) l.length 0 { f with left := f.left - 1, seen := (g, d, s) :: f.seen }
            generalize loopP (findP ls k g) l d s 0 l.length { f with left := f.left - 1, seen := (g, d, s) :: f.seen } = r at hL ⊢
            simp only at hL
            split
            · exact ⟨fun h => by have := hL.1 (by omega); omega, fun h => by omega⟩
            · exact ⟨fun h => by have := hL.1 (by omega); simp only; omega, fun h => by omega⟩
def DeadR (ls : List (List OpT)) (K : Int) (M W : Nat) (f f' : FS) : Prop := ∀ p ∈ f'.dead, p ∈ f.dead ∨ (GS ls K M p ∧ work ls p.1 p.2.1 ≤ W)
theorem loopP_dead {ls : List (List OpT)} {K : Int} {M g W : Nat} {G : List Bool → List Int → FS → Bool × FS} {l : List OpT} {d : List Bool} {s : List Int} (hl : ls[g]? = some l) (hs : GS ls K M (g, d, s)) (hK : ∀ o ∈ l, o.Kind = K) (hw : ∀ o ∈ l, o.wf) (hW : work ls g d ≤ W + 1)
    (hG : ∀ d' t f, GS ls K M (g, d', t) → work ls g d' ≤ W → DeadR ls K M W f (G d' t f).2) : ∀ n i f, DeadR ls K M W f (loopP G l d s i n f).2
  | 0, i, f => fun p hp => .inl hp
  | n + 1, i, f => by
    have ih := loopP_dead hl hs hK hw hW hG n (i + 1)
    rw [loopP]
    cases ho : l[i]? with
    | none => exact fun p hp => .inl hp
    | some o =>
      have hmem := List.mem_of_getElem? ho
      simp only
      split
      · rename_i hm
        cases hst : stepP s o with
        | none => exact ih f
        | some t =>
          simp only
          obtain ⟨g1, g2⟩ := hs.go hl ho hm hst (hK o hmem) (hw o hmem)
          have hg := hG (d.set i true) t { f with ids := f.ids ++ [o.ID] } g1 (by omega)
          generalize G (d.set i true) t { f with ids := f.ids ++ [o.ID] } = r at hg ⊢
          split
          · exact hg
          · intro p hp
            rcases ih { r.2 with ids := r.2.ids.dropLast } p hp with h | h
            · exact hg p h
            · exact .inr h
      · exact ih f
theorem findP_dead {ls : List (List OpT)} {K : Int} {M : Nat} (hK : ∀ l ∈ ls, ∀ o ∈ l, o.Kind = K) (hw : ∀ l ∈ ls, ∀ o ∈ l, o.wf) : ∀ (k g : Nat) d s f, GS ls K M (g, d, s) → DeadR ls K M (work ls g d) f (findP ls k g d s f).2
  | 0, g, d, s, f => fun _ p hp => .inl hp
  | k + 1, g, d, s, f => by
    intro hs
    rw [findP]
    cases hl : ls[g]? with
    | none => exact fun p hp => .inl hp
    | some l =>
      have hm := List.mem_of_getElem? hl
      have hg := (List.getElem?_eq_some_iff.1 hl).1
      have hwk := work_next (d := d) hg
      simp only
      split
      · intro p hp
        exact (findP_dead hK hw k (g + 1) _ s f (hs.full hl) p hp).imp id fun h => ⟨h.1, by have := h.2; omega⟩
      · split
        · exact fun p hp => .inl hp
        · split
          · exact fun p hp => .inl hp
          · have h1 : 1 ≤ work ls g d := by unfold work; omega
            have hL := loopP_dead (G := findP ls k g) (W := work ls g d - 1) hl hs (hK l hm) (hw l hm) (by omega) (fun d' t f' e1 e2 p hp => (findP_dead hK hw k g d' t f' e1 p hp).imp id fun h => ⟨h.1, by have := h.2; omega⟩) l.length 0 { f with left := f.left - 1, seen := (g, d, s) :: f.seen }
            have hL' : DeadR ls K M (work ls g d) f (loopP (findP ls k g) l d s 0 l.length { f with left := f.left - 1, seen := (g, d, s) :: f.seen }).2 := fun p hp => (hL p hp).imp id fun h => ⟨h.1, by have := h.2; omega⟩
            generalize loopP (findP ls k g) l d s 0 l.length { f with left := f.left - 1, seen := (g, d, s) :: f.seen } = r at hL' ⊢
            split
            · exact hL'
            · intro p hp
              rcases List.mem_cons.1 hp with rfl | hp
              · exact .inr ⟨hs, Nat.le_refl _⟩
              · exact hL' p hp
abbrev VL := Value × List OpT
structure SegW (w : World) (v : Value) (D : List VL) : Prop where
  row : Rd w 1 v D.length (D.map Prod.fst)
  rd : ∀ p ∈ D, RdS w 11 OpT.enc p.1 p.2
def SegW.foot (v : Value) (D : List VL) (k : Nat) : Prop := slFoot v k ∨ ∃ p ∈ D, slFoot p.1 k
theorem SegW.loc {w w' : World} {v : Value} {D : List VL} (h : SegW w v D) (hk : ∀ k, SegW.foot v D k → w'.heap[k]? = w.heap[k]?) : SegW w' v D :=
  ⟨Rd.loc h.row fun k hf => hk k (.inl hf), fun p hp => RdS.loc (h.rd p hp) fun k hf => hk k (.inr ⟨p, hp, hf⟩)⟩
def Inv.segw (v : Value) (D : List VL) : Inv := ⟨fun w => SegW w v D, SegW.foot v D, fun _ _ h hk => h.loc hk⟩
theorem SegW.form {w : World} {v : Value} {D : List VL} (h : SegW w v D) : ∃ a c, v = .slice a D.length c ∧ D.length ≤ c := by
  obtain ⟨_, a, c, e, hc, _⟩ := h.row
  exact ⟨a, c, e, hc⟩
theorem SegW.ptr {w : World} {a : Option Addr} {n c : Nat} {D : List VL} (h : SegW w (.slice a n c) D) (h0 : 0 < D.length) : ∃ p, a = some p := by
  obtain ⟨_, a', c', e, _, hp⟩ := h.row
  cases e
  obtain ⟨p, hp, _⟩ := hp (by omega)
  exact ⟨p, hp⟩
theorem SegW.at {w : World} {p : Addr} {n c : Nat} {D : List VL} (h : SegW w (.slice (some p) n c) D) {k : Nat} (hk : k < D.length) : w.cell? (p.add k) = some D[k].1 := by
  obtain ⟨_, a', c', e, _, hp⟩ := h.row
  cases e
  obtain ⟨q, hq, hc⟩ := hp (by omega)
  cases hq
  exact hc k _ (by simp [hk])
theorem own_cut {w : World} {B e n c m : Nat} {a : Option Addr} {xs : List Value} (h : w.ownsRow B e 1 (.slice a n c) n xs) (hm : m ≤ n) (ha : 0 < n) : w.ownsRow B e 1 (.slice a m c) m (xs.take m) := by
  obtain ⟨h1, h2⟩ := h
  refine ⟨by rw [List.length_take]; omega, ?_⟩
  rcases h2 with ⟨_, h0⟩ | ⟨g, cap, cur, e1, hg, hb, hn, hc, hs, ht⟩
  · omega
  · simp only [Value.slice.injEq] at e1
    obtain ⟨rfl, _, rfl⟩ := e1
    refine .inr ⟨g, c, cur, rfl, hg, hb, by omega, hc, hs, ?_⟩
    rw [← ht, List.take_take, Nat.mul_one, Nat.mul_one, Nat.min_eq_left hm]
end Go.Proofs.Ytbeoedgoikcbpaa

namespace Go.Proofs.Ytbeoedgoikcbpaa
set_option linter.unusedSimpArgs false
set_option linter.unusedVariables false
set_option maxRecDepth 100000
open Go Go.Ann Go.RowKit
def lw (x : Int) : Int := if x = 9223372036854775808 then -9223372036854775808 else x
def FL (x m : Nat) (lv iv : Value) (f : FS) : List Res :=
  [.blk x #[lv, .map (some m), iv, .int .i64 (lw f.left)] 99, .row iv 3 1 f.ids.length (f.ids.flatMap intE), .obj m (mapO (fun k : OKey => .agg (osE k).toArray) (f.dead.reverse.map osK))]
theorem st_mv {W0 w : World} {F : Nat → Prop} {L : List Res} {I : List Inv} {a b c z y : Res} (h : St W0 w F (a :: b :: c :: z :: y :: L) I) : St W0 w F (y :: a :: b :: c :: L) I :=
  (h.sub (L' := a :: b :: c :: y :: L) (((((List.Sublist.refl _).cons z).cons_cons c).cons_cons b).cons_cons a)).perm (List.perm_middle (a := y) (l₁ := [a, b, c]) (l₂ := L)).symm
theorem flatI_len : ∀ l : List Int, (l.flatMap intE).length = l.length
  | [] => rfl
  | a :: l => by rw [List.flatMap_cons, List.length_append, flatI_len l, List.length_cons]; simp [intE]; omega
set_option maxHeartbeats 2000000 in
theorem find_ok {ls : List (List OpT)} {D : List VL} {K : Int} {M x m : Nat} {lv : Value} (hD : D.map Prod.snd = ls) (h16 : ∀ l ∈ ls, l.length ≤ 16) (hK : ∀ l ∈ ls, ∀ o ∈ l, o.Kind = K) (hw : ∀ l ∈ ls, ∀ o ∈ l, o.wf) (hn : ls.length ≤ 1000) (hM : M ≤ 100000) :
    ∀ (k g : Nat) d s f W0 w F L I iv sv, work ls g d ≤ k → k ≤ 100000 → St W0 w F (FL x m lv iv f ++ L) (Inv.rd 1 intE sv s :: Inv.segw lv D :: I) → GS ls K M (g, d, s) → g ≤ ls.length → (∀ p ∈ f.dead, GS ls K M p) → -9223372036854775808 < f.left → f.left ≤ 9223372036854775808 → f.ids.length + work ls g d ≤ 200000 →
    Ret Try.prog 61 [.pointer (some ⟨x, 0, none⟩), .int .i64 g, .int .u32 (maskN d), sv] w fun u w' => ∃ iv', u = .bool (findP ls k g d s f).1 ∧ St W0 w' F (FL x m lv iv' (findP ls k g d s f).2 ++ L) (Inv.rd 1 intE sv s :: Inv.segw lv D :: I)
  | 0, g, d, s, f, W0, w, F, L, I, iv, sv => fun hk => by unfold work at hk; omega
  | k + 1, g, d, s, f, W0, w, F, L, I, iv, sv => by
    intro hk hk5 h hgs hg hdead hlo hhi hids
    have hlen : D.length = ls.length := by rw [← hD, List.length_map]
    have r0 := h.rules 0 rfl
    have l0 := h.low 0 rfl
    have hseg : SegW w lv D := h.get 1 rfl
    have hsv : RdS w 1 intE sv s := h.rd 0 rfl
    obtain ⟨la, lc, rfl, _⟩ := hseg.form
    obtain ⟨sa, sc, rfl, _⟩ := hsv.form
    refine ent61 _ _ _ _ _ _ ?_
    by_cases hend : g = ls.length
    · have e1 : findP ls (k + 1) g d s f = (true, f) := by rw [findP, List.getElem?_eq_none (by omega)]
      rw [e1]
      have hend' : (g : Int) = (D.length : Int) := by omega
      simp (disch := first | omega | exact okFill_t rfl | exact okSize_t rfl | exact fun h => h | (simp only [World.size_alloc, World.size_drew, World.size_setCell, size_fill, bytesW]; omega)) only [go_sem, c61, c61S0, c61S1, c61S2, c61S3, c61S4, c61S5, c61S6, c61S7, c61S8, c61S9, c61S10, c61S11, c61L0, c61S12, c61S13, c61S14, c61S15, c61S16, c61S17, c61S18, r0, hend']
      exact ⟨iv, h⟩
    · have hlt : g < D.length := by omega
      have hltl : g < ls.length := by omega
      obtain ⟨lp, rfl⟩ := hseg.ptr (by omega)
      have eg := hseg.at hlt
      have hl : ls[g]? = some ls[g] := List.getElem?_eq_getElem hltl
      have el : D[g].2 = ls[g] := by subst hD; simp
      have hrd : RdS w 11 OpT.enc D[g].1 ls[g] := by rw [← el]; exact hseg.rd _ (List.getElem_mem hlt)
      generalize hvl : D[g].1 = vl at eg hrd
      obtain ⟨va, vc, rfl, _⟩ := hrd.form
      have hd := hgs.len _ hl
      simp only at hd
      have h16g := h16 _ (List.getElem_mem hltl)
      have hend' : ¬ (g : Int) = (D.length : Int) := by omega
      have hlt' : (g : Int) < D.length := by omega
      simp (disch := first | omega | exact okFill_t rfl | exact okSize_t rfl | exact fun h => h | (simp only [World.size_alloc, World.size_drew, World.size_setCell, size_fill, bytesW]; omega)) only [go_sem, c61, c61S0, c61S2, c61S3, c61S4, c61S5, c61S6, c61S7, c61S8, c61S9, c61S10, c61S11, c61L0, c61S12, c61S13, c61S14, c61S15, c61S16, c61S18, r0, hend', eg, hlt']
      refine ⟨by omega, Ret.mono (ofull_ok hrd hd h16g) ?_⟩
      rintro _ w2 ⟨rfl, b2⟩
      have s2 := h.call b2
      clear h hseg hsv r0
      have r2 := s2.rules 0 rfl
      have l2 := s2.low 0 rfl
      cases hf : fullP ls[g] d with
      | true =>
        have e1 : findP ls (k + 1) g d s f = findP ls k (g + 1) (nextD ls (g + 1)) s f := by rw [findP, hl]; simp only [hf, if_true]
        have hwn := work_next (d := d) hltl
        have em : (maskN (nextD ls (g + 1)) : Int) = 0 := by unfold nextD; rw [maskN_none]; rfl
        have eg1 : IntKind.i64.wrap ((g : Int) + 1) = ((g + 1 : Nat) : Int) := by rw [wrap_i64 _ ⟨by omega, by omega⟩]; omega
        rw [e1]
        simp (disch := first | omega | exact okFill_t rfl | exact okSize_t rfl | exact fun h => h | (simp only [World.size_alloc, World.size_drew, World.size_setCell, size_fill, bytesW]; omega)) only [go_sem, c61, c61S0, c61S1, c61S2, c61S3, c61S4, c61S5, c61S6, c61S7, c61S8, c61S9, c61S10, c61S11, c61L0, c61S12, c61S13, c61S14, c61S15, c61S16, c61S18, eg1]
        have ih := find_ok hD h16 hK hw hn hM k (g + 1) (nextD ls (g + 1)) s f W0 w2 F L I iv (.slice sa s.length sc) (by omega) (by omega) s2 (hgs.full hl) (by omega) hdead hlo hhi (by omega)
        rw [em] at ih
        refine Ret.mono ih ?_
        rintro _ w3 ⟨iv3, rfl, s3⟩
        simp (disch := first | omega | exact okFill_t rfl | exact okSize_t rfl | exact fun h => h | (simp only [World.size_alloc, World.size_drew, World.size_setCell, size_fill, bytesW]; omega)) only [go_sem, c61, c61S0, c61S1, c61S2, c61S3, c61S4, c61S5, c61S6, c61S7, c61S8, c61S9, c61S10, c61S11, c61L0, c61S12, c61S13, c61S14, c61S15, c61S16, c61S17, c61S18]
        exact ⟨iv3, s3⟩
      | false =>
        have hsv2 : RdS w2 1 intE (.slice sa s.length sc) s := s2.rd 0 rfl
        simp (disch := first | omega | exact okFill_t rfl | exact okSize_t rfl | exact fun h => h | (simp only [World.size_alloc, World.size_drew, World.size_setCell, size_fill, bytesW]; omega)) only [go_sem, c61, c61S0, c61S1, c61S2, c61S3, c61S4, c61S5, c61S6, c61S7, c61S8, c61S9, c61S10, c61S11, c61L0, c61S12, c61S13, c61S14, c61S15, c61S17, c61S18]
        refine Ret.mono (text_ok _ s w2 hsv2 hgs.ok (hgs.okS (by omega)).2) ?_
        rintro _ w3 ⟨rfl, g3⟩
        have s3 := s2.call g3.below
        clear s2 r2 hsv2
        simp (disch := first | omega | exact okFill_t rfl | exact okSize_t rfl | exact fun h => h | (simp only [World.size_alloc, World.size_drew, World.size_setCell, size_fill, bytesW]; omega)) only [go_sem, c61, c61S0, c61S1, c61S2, c61S3, c61S4, c61S5, c61S6, c61S7, c61S8, c61S9, c61S10, c61S11, c61L0, c61S12, c61S13, c61S14, c61S15, c61S17, c61S18]
        refine bdW_built (cells := #[.int .i64 g, .int .u32 (maskN d), .string (ofL (txt s))]) (by kernel_rfl) ?_
        simp (disch := first | omega | exact okFill_t rfl | exact okSize_t rfl | exact fun h => h | (simp only [World.size_alloc, World.size_drew, World.size_setCell, size_fill, bytesW]; omega)) only [go_sem, c61, c61S0, c61S1, c61S2, c61S3, c61S4, c61S5, c61S6, c61S7, c61S8, c61S9, c61S10, c61S11, c61L0, c61S12, c61S13, c61S14, c61S15, c61S17, c61S18]
        have s4 := s3.box #[.int .i64 g, .int .u32 (maskN d), .string (ofL (txt s))] 134
        generalize w3.alloc (.cells #[.int .i64 g, .int .u32 (maskN d), .string (ofL (txt s))] 134) = w4 at s4 ⊢
        generalize w3.heap.size = y at s4 ⊢
        clear s3
        have r5 := s4.rules 1 rfl
        have q5 := s4.rules 0 rfl
        have k5 := s4.low 1 rfl
        have m5 := s4.low 0 rfl
        have s5 := s4.drew
        obtain ⟨kd, hkt⟩ := keyT_os
        simp (disch := first | omega | exact okFill_t rfl | exact okSize_t rfl | exact fun h => h | (simp only [World.size_alloc, World.size_drew, World.size_setCell, size_fill, bytesW]; omega)) only [go_sem, c61, c61S0, c61S1, c61S2, c61S3, c61S4, c61S5, c61S6, c61S7, c61S8, c61S9, c61S10, c61S11, c61L0, c61S12, c61S13, c61S14, c61S16, c61S17, c61S18]
        refine c61draw0 (Chg (fun _ => False) _) (Chg.refl _ _) ?_
        simp (disch := first | omega | exact okFill_t rfl | exact okSize_t rfl | exact fun h => h | (simp only [World.size_alloc, World.size_drew, World.size_setCell, size_fill, bytesW]; omega)) only [go_sem, c61, c61S0, c61S1, c61S2, c61S3, c61S4, c61S5, c61S6, c61S7, c61S8, c61S9, c61S10, c61S11, c61L0, c61S12, c61S13, c61S14, c61S16, c61S17, c61S18, c61D0, r5, q5]
        refine luW_map hkt Try.underlying96 (s5.obj 3 rfl) (osK (g, d, s)) (Try.zeroValue4 _) ?_
        have hmem : osK (g, d, s) ∈ f.dead.reverse.map osK ↔ (g, d, s) ∈ f.dead := by
          rw [osK_mem (ls := ls) hl hd (hgs.okS (by omega)) (fun p hp => ⟨(hdead p (List.mem_reverse.1 hp)).len, (hdead p (List.mem_reverse.1 hp)).okS (by omega)⟩), List.mem_reverse]
        by_cases hdd : (g, d, s) ∈ f.dead
        · have e1 : findP ls (k + 1) g d s f = (false, f) := by rw [findP, hl]; simp only [hf, Bool.false_eq_true, if_false, if_pos hdd]
          rw [e1]
          simp (disch := first | omega | exact okFill_t rfl | exact okSize_t rfl | exact fun h => h | (simp only [World.size_alloc, World.size_drew, World.size_setCell, size_fill, bytesW]; omega)) only [go_sem, c61, c61S0, c61S1, c61S2, c61S3, c61S4, c61S5, c61S6, c61S7, c61S8, c61S9, c61S10, c61S11, c61L0, c61S12, c61S13, c61S14, c61S15, c61S16, c61S17, c61S18, c61D0, hmem.2 hdd]
          exact ⟨iv, s5.sub (List.sublist_cons_self _ _)⟩
        · have hnd : ¬ osK (g, d, s) ∈ f.dead.reverse.map osK := fun h => hdd (hmem.1 h)
          have r6 := s5.rules 1 rfl
          have k6 := s5.low 1 rfl
          have elw : IntKind.i64.wrap (lw f.left - 1) = f.left - 1 := by
            unfold lw
            split
            · rename_i e; rw [e]; decide
            · exact wrap_i64 _ ⟨by omega, by omega⟩
          simp (disch := first | omega | exact okFill_t rfl | exact okSize_t rfl | exact fun h => h | (simp only [World.size_alloc, World.size_drew, World.size_setCell, size_fill, bytesW]; omega)) only [go_sem, c61, c61S0, c61S1, c61S2, c61S3, c61S4, c61S5, c61S6, c61S7, c61S8, c61S9, c61S10, c61S11, c61L0, c61S12, c61S13, c61S15, c61S16, c61S17, c61S18, c61D0, hnd, r5, elw]
          have s6 := ((s4.set 1 rfl 3 (.int .i64 (f.left - 1))).drew)
          generalize (w4.setCell ⟨x, 3, none⟩ (.int .i64 (f.left - 1))).drew = w6 at s6 ⊢
          clear s4 s5 r5 q5 r6
          have elw1 : lw (f.left - 1) = f.left - 1 := if_neg (by omega)
          have s6 : St W0 w6 F (.blk y #[.int .i64 g, .int .u32 (maskN d), .string (ofL (txt s))] 134 :: FL x m (.slice (some lp) D.length lc) iv { f with left := f.left - 1, seen := (g, d, s) :: f.seen } ++ L) (Inv.rd 1 intE (.slice sa s.length sc) s :: Inv.segw (.slice (some lp) D.length lc) D :: I) := by
            unfold FL
            simp only [elw1]
            exact s6
          refine ⟨fun hz => ?_, fun hz => ?_⟩
          · have e1 : findP ls (k + 1) g d s f = (false, { f with left := f.left - 1, seen := (g, d, s) :: f.seen }) := by rw [findP, hl]; simp only [hf, Bool.false_eq_true, if_false, if_neg hdd, if_pos hz]
            rw [e1]
            exact ⟨iv, rfl, s6.sub (List.sublist_cons_self _ _)⟩
          · obtain ⟨R0, hR0⟩ : ∃ r, loopP (findP ls k g) ls[g] d s 0 ls[g].length { f with left := f.left - 1, seen := (g, d, s) :: f.seen } = r := ⟨_, rfl⟩
            have e1 : findP ls (k + 1) g d s f = if R0.1 then R0 else (false, { R0.2 with dead := (g, d, s) :: R0.2.dead }) := by
              rw [findP, hl]; simp only [hf, Bool.false_eq_true, if_false, if_neg hdd, if_neg (show ¬ f.left - 1 < 0 by omega), hR0]
            rw [e1]
            simp (disch := first | omega | exact okFill_t rfl | exact okSize_t rfl | exact fun h => h | (simp only [World.size_alloc, World.size_drew, World.size_setCell, size_fill, bytesW]; omega)) only [go_sem, c61, c61S0, c61S1, c61S2, c61S3, c61S4, c61S5, c61S6, c61S7, c61S8, c61S9, c61S10, c61S11, c61L0, c61S12, c61S14, c61S15, c61S16, c61S17, c61S18]
            refine W_loopU (fun q : Nat × Value × FS => [(62, .int .i64 q.1)]) (fun q w' => St W0 w' F (.blk y #[.int .i64 g, .int .u32 (maskN d), .string (ofL (txt s))] 134 :: FL x m (.slice (some lp) D.length lc) q.2.1 q.2.2 ++ L) (Inv.rd 1 intE (.slice sa s.length sc) s :: Inv.segw (.slice (some lp) D.length lc) D :: I) ∧
              q.1 ≤ ls[g].length ∧ loopP (findP ls k g) ls[g] d s q.1 (ls[g].length - q.1) q.2.2 = R0 ∧ q.2.2.ids = f.ids ∧ -(17 * (k : Int)) - q.1 ≤ q.2.2.left ∧ q.2.2.left ≤ f.left - 1 ∧ (∀ p ∈ q.2.2.dead, GS ls K M p) ∧ (g, d, s) ∉ q.2.2.dead) (fun q => ls[g].length - q.1) (0, iv, { f with left := f.left - 1, seen := (g, d, s) :: f.seen }) rfl ⟨s6, Nat.zero_le _, hR0, rfl, by simp only; omega, Int.le_refl _, hdead, hdd⟩ ?_
            clear s6 hR0
            rintro ⟨i, iw, f6⟩ w7 ⟨s7, hi, hR, eid, hle1, hle2, hd7, hnd7⟩
            simp only at s7 hi hR eid hle1 hle2 hd7 hnd7
            have hseg7 : SegW w7 (.slice (some lp) D.length lc) D := s7.get 1 rfl
            have hrd7 : RdS w7 11 OpT.enc (.slice va ls[g].length vc) ls[g] := by have := hseg7.rd _ (List.getElem_mem hlt); rwa [el, hvl] at this
            have hsv7 : RdS w7 1 intE (.slice sa s.length sc) s := s7.rd 0 rfl
            by_cases hil : i < ls[g].length
            · have hil' : (i : Int) < ls[g].length := by omega
              obtain ⟨op, rfl⟩ := hrd7.ptr (by omega)
              have eo := hrd7.at OpT.len hil
              have ho : ls[g][i]? = some ls[g][i] := List.getElem?_eq_getElem hil
              have e2 := wrap_u64_nat (show i < 18446744073709551616 by omega)
              have e3 : bits .and .u32 ((maskN d : Int) / 2 ^ min i 32) 1 = if d.getD i false = true then 1 else 0 := by
                rw [Nat.min_eq_left (by omega)]; exact mask_bit (by omega)
              have e4 : IntKind.i64.wrap ((i : Int) + 1) = (i : Int) + 1 := wrap_i64 _ ⟨by omega, by omega⟩
              have hid : i < d.length := by omega
              have en : ls[g].length - i = (ls[g].length - (i + 1)) + 1 := by omega
              have s8 := s7.box ls[g][i].enc.toArray 58
              simp (disch := first | omega | exact okFill_t rfl | exact okSize_t rfl | exact fun h => h | (simp only [World.size_alloc, World.size_drew, World.size_setCell, size_fill, bytesW]; omega)) only [go_sem, c61, c61S0, c61S1, c61S2, c61S4, c61S5, c61S6, c61S7, c61S8, c61S10, c61S11, c61L0, c61S12, c61S13, c61S14, c61S15, c61S16, c61S17, c61S18, c61L0, hil', eo, OpT.len, e2, e3, e4]
              have stop : ∀ {w' : World} {L' : List Res}, St W0 w' F (L' ++ (.blk y #[.int .i64 g, .int .u32 (maskN d), .string (ofL (txt s))] 134 :: FL x m (.slice (some lp) D.length lc) iw f6 ++ L)) (Inv.rd 1 intE (.slice sa s.length sc) s :: Inv.segw (.slice (some lp) D.length lc) D :: I) → loopP (findP ls k g) ls[g] d s (i + 1) (ls[g].length - (i + 1)) f6 = R0 →
                  ∃ s', (s' = (i + 1, iw, f6)) ∧ (St W0 w' F (.blk y #[.int .i64 g, .int .u32 (maskN d), .string (ofL (txt s))] 134 :: FL x m (.slice (some lp) D.length lc) iw f6 ++ L) (Inv.rd 1 intE (.slice sa s.length sc) s :: Inv.segw (.slice (some lp) D.length lc) D :: I) ∧
                  i + 1 ≤ ls[g].length ∧ loopP (findP ls k g) ls[g] d s (i + 1) (ls[g].length - (i + 1)) f6 = R0 ∧ f6.ids = f.ids ∧ -(17 * (k : Int)) - ((i + 1 : Nat) : Int) ≤ f6.left ∧ f6.left ≤ f.left - 1 ∧ (∀ p ∈ f6.dead, GS ls K M p) ∧ (g, d, s) ∉ f6.dead) ∧ ls[g].length - (i + 1) < ls[g].length - i := fun hst hr => ⟨_, rfl, ⟨hst.sub (List.sublist_append_right _ _), by omega, hr, eid, by omega, hle2, hd7, hnd7⟩, by omega⟩
              have ehead : (mayP ls[g] d i ls[g][i] = true → ∀ t, stepP s ls[g][i] = some t → R0 = (let r := findP ls k g (d.set i true) t { f6 with ids := f6.ids ++ [ls[g][i].ID] }; if r.1 then r else loopP (findP ls k g) ls[g] d s (i + 1) (ls[g].length - (i + 1)) { r.2 with ids := r.2.ids.dropLast })) ∧ (mayP ls[g] d i ls[g][i] = false ∨ stepP s ls[g][i] = none → loopP (findP ls k g) ls[g] d s (i + 1) (ls[g].length - (i + 1)) f6 = R0) := by
                rw [en, loopP, ho] at hR
                simp only at hR
                refine ⟨fun h1 t h2 => ?_, fun h1 => ?_⟩
                · rw [h1, h2] at hR; simp only [if_true] at hR; exact hR.symm
                · rcases h1 with h1 | h1
                  · rw [h1] at hR; simpa using hR
                  · rw [h1] at hR; simpa using hR
              refine ⟨by omega, by omega, fun hb => Ret.mono (olate_ok (hrd7.below ((Below.refl _ _).alloc (Nat.le_refl _) _) (by decide)) hd h16g) ?_, fun hb => ?_⟩
              · have hdi : d.getD i false = false := by
                  cases h : d.getD i false with
                  | false => rfl
                  | true => rw [if_pos h] at hb; exact absurd rfl hb
                rintro _ w9 ⟨rfl, b9⟩
                have s9 := s8.call b9
                clear s8 s7
                have q9 := s9.rules 0 rfl
                rw [hdi]
                cases hz : ((ls[g].map fun p => before p ls[g][i]).zip d).all fun p => p.2 || !p.1 with
                | false =>
                  have hmay : mayP ls[g] d i ls[g][i] = false := by unfold mayP; rw [hz, Bool.and_false]
                  simp (disch := first | omega | exact okFill_t rfl | exact okSize_t rfl | exact fun h => h | (simp only [World.size_alloc, World.size_drew, World.size_setCell, size_fill, bytesW]; omega)) only [go_sem, c61, c61S0, c61S1, c61S2, c61S3, c61S4, c61S5, c61S6, c61S7, c61S8, c61S9, c61S10, c61S11, c61L0, c61S12, c61S13, c61S14, c61S15, c61S16, c61S17, c61S18, e4]
                  obtain ⟨s', rfl, h1, h2⟩ := stop (L' := [_]) s9 (ehead.2 (.inl hmay))
                  exact ⟨(i + 1, iw, f6), rfl, h1, h2⟩
                | true =>
                  have hmay : mayP ls[g] d i ls[g][i] = true := by unfold mayP; rw [hz, hdi]; rfl
                  have hmem := List.getElem_mem hil
                  have hlm := List.getElem_mem hltl
                  simp (disch := first | omega | exact okFill_t rfl | exact okSize_t rfl | exact fun h => h | (simp only [World.size_alloc, World.size_drew, World.size_setCell, size_fill, bytesW]; omega)) only [go_sem, c61, c61S0, c61S1, c61S2, c61S3, c61S4, c61S5, c61S6, c61S7, c61S8, c61S9, c61S10, c61S11, c61L0, c61S12, c61S13, c61S14, c61S15, c61S16, c61S17, c61S18, q9, OpT.len]
                  refine Ret.mono (step_ok _ s ls[g][i] _ (s9.rd 0 rfl) (hgs.okS (by omega)).2 (fun e => hgs.up ((hK _ hlm _ hmem).symm.trans e))) ?_
                  rintro _ w10 ⟨⟨v10, ok10, rfl, hm10⟩, b10⟩
                  have s10 := s9.call b10
                  cases hst : stepP s ls[g][i] with
                  | none =>
                    rw [hst] at hm10
                    have hm10 : ok10 = false := hm10
                    subst hm10
                    simp (disch := first | omega | exact okFill_t rfl | exact okSize_t rfl | exact fun h => h | (simp only [World.size_alloc, World.size_drew, World.size_setCell, size_fill, bytesW]; omega)) only [go_sem, c61, c61S0, c61S1, c61S2, c61S3, c61S4, c61S5, c61S6, c61S7, c61S8, c61S9, c61S10, c61S11, c61L0, c61S12, c61S13, c61S14, c61S15, c61S16, c61S17, c61S18, e4]
                    obtain ⟨s', rfl, h1, h2⟩ := stop (L' := [_]) s10 (ehead.2 (.inr hst))
                    exact ⟨(i + 1, iw, f6), rfl, h1, h2⟩
                  | some t =>
                    rw [hst] at hm10
                    obtain ⟨rfl, h10, f10⟩ := hm10
                    obtain ⟨ta, tc, rfl, _⟩ := h10.form
                    have s11 := s9.addRd b10 h10 (by decide) fun j hj => .inr (.inr (f10 j hj))
                    simp (disch := first | omega | exact okFill_t rfl | exact okSize_t rfl | exact fun h => h | (simp only [World.size_alloc, World.size_drew, World.size_setCell, size_fill, bytesW]; omega)) only [go_sem, c61, c61S0, c61S1, c61S2, c61S3, c61S4, c61S6, c61S7, c61S8, c61S9, c61S10, c61S11, c61L0, c61S12, c61S13, c61S14, c61S15, c61S16, c61S17, c61S18]
                    generalize w7.heap.size = z at s11 ⊢
                    clear s10 s9 q9
                    obtain ⟨ia, ic, rfl, _⟩ := own_slice (s11.row 3 rfl)
                    have r11 := s11.rules 2 rfl
                    have q11 := s11.rules 0 rfl
                    have k11 := s11.low 2 rfl
                    have m11 := s11.low 0 rfl
                    have hoi := ls[g][i].at
                    have n11 : z ≠ x := fun e => s11.ne 2 0 rfl rfl (by decide) rfl (by rw [← e]; rfl)
                    have o11 : (Value.slice ia f6.ids.length ic).ownBlock ≠ some x := s11.ne 2 3 rfl rfl (by decide) rfl
                    have p11 : (Value.slice ia f6.ids.length ic).ownBlock ≠ some z := s11.ne 0 3 rfl rfl (by decide) rfl
                    have s12 := s11.drew
                    refine c61draw1 (Chg (fun j => (Value.slice ia f6.ids.length ic).ownBlock = some j) _) (Chg.refl _ _) ?_
                    have z11 : w10.drew.heap.size = w10.heap.size := rfl
                    simp (disch := first | omega | exact okFill_t rfl | exact okSize_t rfl | exact fun h => h | (simp only [World.size_alloc, World.size_drew, World.size_setCell, size_fill, bytesW]; omega)) only [go_sem, c61, c61S0, c61S1, c61S2, c61S3, c61S4, c61S6, c61S7, c61S8, c61S9, c61S10, c61S11, c61L0, c61S12, c61S13, c61S14, c61S15, c61S16, c61S17, c61S18, c61D1, r11, q11, hoi]
                    refine bsW_ones ty36mkI rfl rfl (by decide) (by decide) (intE_one _) ?_
                    have s13 := s12.alloc' (.cells #[.int .i64 ls[g][i].ID] 3)
                    have hx : Rd (w10.drew.alloc (.cells #[.int .i64 ls[g][i].ID] 3)) 1 (.slice (some ⟨w10.drew.heap.size, 0, none⟩) 1 1) 1 [.int .i64 ls[g][i].ID] := rd_new (n := 1) (cs := #[.int .i64 ls[g][i].ID]) rfl
                    simp (disch := first | omega | exact okFill_t rfl | exact okSize_t rfl | exact fun h => h | (simp only [World.size_alloc, World.size_drew, World.size_setCell, size_fill, bytesW]; omega)) only [go_sem, c61, c61S0, c61S1, c61S2, c61S3, c61S4, c61S6, c61S7, c61S8, c61S9, c61S10, c61S11, c61L0, c61S12, c61S13, c61S14, c61S15, c61S16, c61S17, c61S18, c61D1]
                    refine ⟨Chg.of_below ((Below.refl _ _).alloc (Nat.le_refl _) _), s13.append 3 rfl ty36mkI rfl (by decide) hx (intE_one _) (by rw [eid]; omega) (by rw [eid]; omega) ?_⟩
                    intro v14 w14 s14 c14
                    simp only [List.set_cons_zero, List.set_cons_succ, List.cons_append, FL] at s14
                    obtain ⟨a14, d14, rfl, _⟩ := own_slice (s14.row 3 rfl)
                    have r14 := s14.rules 2 rfl
                    simp (disch := first | omega | exact okFill_t rfl | exact okSize_t rfl | exact fun h => h | (simp only [World.size_alloc, World.size_drew, World.size_setCell, size_fill, bytesW]; omega)) only [go_sem, c61, c61S0, c61S1, c61S2, c61S3, c61S4, c61S6, c61S7, c61S8, c61S9, c61S10, c61S11, c61L0, c61S12, c61S13, c61S14, c61S15, c61S16, c61S17, c61S18, c61D1, r14]
                    have s15 := s14.set 2 rfl 2 (.slice a14 (f6.ids.length + 1) d14)
                    generalize w14.setCell ⟨x, 2, none⟩ (.slice a14 (f6.ids.length + 1) d14) = w15 at s15 ⊢
                    obtain ⟨fn, hfn⟩ : ∃ fn : FS, fn = { f6 with ids := f6.ids ++ [ls[g][i].ID] } := ⟨_, rfl⟩
                    have s15 : St W0 w15 F (FL x m (.slice (some lp) D.length lc) (.slice a14 (f6.ids.length + 1) d14) fn ++ (.blk z ls[g][i].enc.toArray 58 :: .blk y #[.int .i64 g, .int .u32 (maskN d), .string (ofL (txt s))] 134 :: L)) (Inv.rd 1 intE (.slice ta t.length tc) t :: Inv.segw (.slice (some lp) D.length lc) D :: Inv.rd 1 intE (.slice sa s.length sc) s :: I) := by
                      refine (s15.inv_sub (I' := Inv.rd 1 intE (.slice ta t.length tc) t :: Inv.segw (.slice (some lp) D.length lc) D :: Inv.rd 1 intE (.slice sa s.length sc) s :: I) (fun a ha => ?_)).perm ?_
                      · simp only [List.mem_cons] at ha ⊢
                        rcases ha with h | h | h | h
                        · exact .inl h
                        · exact .inr (.inr (.inl h))
                        · exact .inr (.inl h)
                        · exact .inr (.inr (.inr h))
                      · subst hfn
                        have e : ((f6.ids ++ [ls[g][i].ID]).flatMap intE) = f6.ids.flatMap intE ++ [.int .i64 ls[g][i].ID] := by simp [intE]
                        simp only [FL, e, List.length_append, List.length_cons, List.length_nil]
                        exact (List.perm_append_comm (l₁ := [_, _, _]) (l₂ := [_, _])).append_right L
                    have e5 : bits BinOp.or IntKind.u32 (maskN d : Int) (IntKind.u32.wrap (1 * 2 ^ min (IntKind.u64.wrap (i : Int)).toNat 32)) = (maskN (d.set i true) : Int) := by
                      rw [e2, Int.toNat_natCast, Nat.min_eq_left (by omega), Int.one_mul, wrap_u32]
                      have hp : (2 : Nat) ^ i ≤ 2 ^ 16 := Nat.pow_le_pow_right (by decide) (by omega)
                      have hc : ((2 : Int) ^ i) = ((2 ^ i : Nat) : Int) := by simp
                      have hm : maskN d < 4294967296 := Nat.lt_of_lt_of_le (maskN_lt d) (Nat.le_trans (Nat.pow_le_pow_right (by decide) (show d.length ≤ 16 by omega)) (by decide))
                      have hq : ∀ j : Nat, j ≤ 2 ^ 16 → ((j : Int) % 4294967296) = (j : Int) := fun j hj => by omega
                      rw [hc, hq _ hp, or_u32 hm (Nat.lt_of_le_of_lt hp (by decide)), maskN_set hid]
                    rw [e5]
                    obtain ⟨gs1, wk1⟩ := hgs.go hl ho hmay hst (hK _ hlm _ hmem) (hw _ hlm _ hmem)
                    have eR := ehead.1 hmay t hst
                    have hdd1 := findP_dead hK hw k g (d.set i true) t fn gs1
                    have hids1 : (findP ls k g (d.set i true) t fn).1 = false → (findP ls k g (d.set i true) t fn).2.ids = fn.ids := findP_ids k g (d.set i true) t fn
                    have hlow1 := findP_low h16 k g (d.set i true) t fn
                    have hle3 := findP_left (ls := ls) k g (d.set i true) t fn
                    have ih := find_ok hD h16 hK hw hn hM k g (d.set i true) t fn W0 w15 F _ _ (.slice a14 (f6.ids.length + 1) d14) (.slice ta t.length tc) (by omega) (by omega) s15 gs1 hg (by subst hfn; exact hd7) (by subst hfn; simp only; omega) (by subst hfn; simp only; omega) (by subst hfn; simp only [List.length_append, List.length_cons, List.length_nil, eid]; omega)
                    rw [← hfn] at eR
                    refine Ret.mono ih ?_
                    clear ih
                    generalize findP ls k g (d.set i true) t fn = r at eR hdd1 hids1 hlow1 hle3 ⊢
                    obtain ⟨rb, rf⟩ := r
                    rintro _ w16 ⟨iv16, rfl, s16⟩
                    simp only at s16 eR hdd1 hids1 hlow1 hle3
                    cases rb with
                    | true =>
                      simp only [if_true] at eR
                      subst eR
                      simp (disch := first | omega | exact okFill_t rfl | exact okSize_t rfl | exact fun h => h | (simp only [World.size_alloc, World.size_drew, World.size_setCell, size_fill, bytesW]; omega)) only [go_sem, c61, c61S0, c61S1, c61S2, c61S3, c61S4, c61S5, c61S6, c61S7, c61S8, c61S9, c61S10, c61S11, c61L0, c61S12, c61S13, c61S14, c61S15, c61S16, c61S17, c61S18]
                      refine ⟨iv16, (s16.inv_sub fun a ha => ?_).sub ((List.Sublist.refl _).append ((List.sublist_cons_self _ _).trans (List.sublist_cons_self _ _)))⟩
                      simp only [List.mem_cons] at ha ⊢
                      rcases ha with h | h | h
                      · exact .inr (.inr (.inl h))
                      · exact .inr (.inl h)
                      · exact .inr (.inr (.inr h))
                    | false =>
                      simp only [Bool.false_eq_true, if_false] at eR
                      simp (disch := first | omega | exact okFill_t rfl | exact okSize_t rfl | exact fun h => h | (simp only [World.size_alloc, World.size_drew, World.size_setCell, size_fill, bytesW]; omega)) only [go_sem, c61, c61S0, c61S1, c61S2, c61S3, c61S4, c61S5, c61S6, c61S7, c61S8, c61S9, c61S10, c61S11, c61L0, c61S12, c61S13, c61S14, c61S15, c61S16, c61S17, c61S18]
                      have ei : rf.ids = f6.ids ++ [ls[g][i].ID] := by rw [hids1 rfl, hfn]
                      have eil : rf.ids.length = f6.ids.length + 1 := by rw [ei]; simp
                      have row16 := s16.row 1 rfl
                      obtain ⟨a16, d16, rfl, hd16⟩ := own_slice row16
                      obtain ⟨g16, rfl⟩ := own_ptr row16 (by omega)
                      have eidl : f6.ids.length = f.ids.length := by rw [eid]
                      have r16 := s16.rules 0 rfl
                      have k16 := s16.low 0 rfl
                      have ecut := own_cut row16 (show f6.ids.length ≤ rf.ids.length by omega) (by omega)
                      have s17 := s16.upd 1 rfl (Chg.refl _ _) (.row (.slice (some ⟨g16, 0, none⟩) f6.ids.length d16) 3 1 f6.ids.length ((rf.ids.flatMap intE).take f6.ids.length)) ecut fun k hk => .inl hk
                      simp only [List.set_cons_zero, List.set_cons_succ, List.cons_append, FL] at s17
                      have s18 := (s17.set 0 rfl 2 (.slice (some ⟨g16, 0, none⟩) f6.ids.length d16)).drew
                      have z16 : w16.drew.heap.size = w16.heap.size := rfl
                      have e6 : ((rf.ids.length : Int) - 1).toNat = f6.ids.length := by omega
                      have e7 : offA (some ⟨g16, 0, none⟩) d16 0 1 = some (⟨g16, 0, none⟩ : Addr) := by unfold offA; split <;> simp [Addr.add]
                      refine c61draw2 (Chg (fun _ => False) _) (Chg.refl _ _) ?_
                      simp (disch := first | omega | exact okFill_t rfl | exact okSize_t rfl | exact fun h => h | (simp only [World.size_alloc, World.size_drew, World.size_setCell, size_fill, bytesW]; omega)) only [go_sem, c61, c61S0, c61S1, c61S2, c61S3, c61S4, c61S5, c61S6, c61S7, c61S8, c61S9, c61S10, c61S11, c61L0, c61S12, c61S13, c61S14, c61S15, c61S16, c61S17, c61S18, c61D2, r16, e4, e6, e7]
                      refine ⟨⟨by omega, by omega⟩, ⟨by omega, by omega⟩, (i + 1, .slice (some ⟨g16, 0, none⟩) f6.ids.length d16, { rf with ids := rf.ids.dropLast }), rfl, ⟨?_, by omega, eR.symm, ?_, ?_, ?_, ?_, ?_⟩, by simp only; omega⟩
                      · have ed : rf.ids.dropLast = f6.ids := by rw [ei]; simp
                        have et : (rf.ids.flatMap intE).take f6.ids.length = f6.ids.flatMap intE := by
                          rw [ei, List.flatMap_append]
                          exact List.take_left' (flatI_len _)
                        rw [et] at s18
                        simp only [List.set_cons_zero] at s18
                        simp only [FL, ed]
                        refine (st_mv s18).inv_sub fun a ha => ?_
                        · simp only [List.mem_cons] at ha ⊢
                          rcases ha with h | h | h
                          · exact .inr (.inr (.inl h))
                          · exact .inr (.inl h)
                          · exact .inr (.inr (.inr h))
                      · simp only; rw [ei, ← eid]; simp
                      · have e8 : fn.left = f6.left := by rw [hfn]
                        rw [e8] at hlow1
                        simp only
                        by_cases h0 : 0 ≤ f6.left
                        · have := hlow1.1 h0; omega
                        · have := hlow1.2 (by omega); omega
                      · have e8 : fn.left = f6.left := by rw [hfn]
                        rw [e8] at hle3
                        simp only; omega
                      · intro p hp
                        rcases hdd1 p hp with h | h
                        · rw [hfn] at h; exact hd7 p h
                        · exact h.1
                      · intro hp
                        rcases hdd1 _ hp with h | h
                        · rw [hfn] at h; exact hnd7 h
                        · have := h.2; simp only at this; omega
              · have hb' : d.getD i false = true := by
                  by_cases h : d.getD i false = true
                  · exact h
                  · rw [if_neg h] at hb; cases hb
                simp (disch := first | omega | exact okFill_t rfl | exact okSize_t rfl | exact fun h => h | (simp only [World.size_alloc, World.size_drew, World.size_setCell, size_fill, bytesW]; omega)) only [go_sem, c61, c61S0, c61S1, c61S2, c61S3, c61S4, c61S5, c61S6, c61S7, c61S8, c61S9, c61S10, c61S11, c61L0, c61S12, c61S13, c61S14, c61S15, c61S16, c61S17, c61S18, e4]
                obtain ⟨s', rfl, h1, h2⟩ := stop (L' := [_]) s8 (ehead.2 (.inl (by unfold mayP; rw [hb']; rfl)))
                exact ⟨(i + 1, iw, f6), rfl, h1, h2⟩
            · have hil' : ¬ (i : Int) < ls[g].length := by omega
              have en : ls[g].length - i = 0 := by omega
              rw [en] at hR
              have hR0 : R0 = (false, f6) := hR.symm
              subst hR0
              simp only [Bool.false_eq_true, if_false]
              have s8 := s7.drew
              have r8 := s7.rules 1 rfl
              have q8 := s7.rules 0 rfl
              have k8 := s7.low 1 rfl
              have m8 := s7.low 0 rfl
              have hnm : ¬ osK (g, d, s) ∈ f6.dead.reverse.map osK := by
                rw [osK_mem (ls := ls) hl hd (hgs.okS (by omega)) (fun p hp => ⟨(hd7 p (List.mem_reverse.1 hp)).len, (hd7 p (List.mem_reverse.1 hp)).okS (by omega)⟩), List.mem_reverse]
                exact hnd7
              simp (disch := first | omega | exact okFill_t rfl | exact okSize_t rfl | exact fun h => h | (simp only [World.size_alloc, World.size_drew, World.size_setCell, size_fill, bytesW]; omega)) only [go_sem, c61, c61S0, c61S1, c61S2, c61S3, c61S4, c61S5, c61S6, c61S7, c61S8, c61S9, c61S10, c61S11, c61L0, c61S12, c61S13, c61S14, c61S15, c61S16, c61S17, c61S18, c61L0, hil']
              refine c61draw3 (Chg (fun _ => False) _) (Chg.refl _ _) ?_
              simp (disch := first | omega | exact okFill_t rfl | exact okSize_t rfl | exact fun h => h | (simp only [World.size_alloc, World.size_drew, World.size_setCell, size_fill, bytesW]; omega)) only [go_sem, c61, c61S0, c61S1, c61S2, c61S3, c61S4, c61S5, c61S6, c61S7, c61S8, c61S9, c61S10, c61S11, c61L0, c61S12, c61S13, c61S14, c61S15, c61S16, c61S17, c61S18, c61D3, r8, q8]
              refine muW_map hkt Try.underlying96 (s8.obj 3 rfl) (osK (g, d, s)) hnm ?_
              have s9 := s8.putObj 3 rfl (mapO (fun k : OKey => .agg (osE k).toArray) (f6.dead.reverse.map osK ++ [osK (g, d, s)]))
              simp (disch := first | omega | exact okFill_t rfl | exact okSize_t rfl | exact fun h => h | (simp only [World.size_alloc, World.size_drew, World.size_setCell, size_fill, bytesW]; omega)) only [go_sem, c61, c61S0, c61S1, c61S2, c61S3, c61S4, c61S5, c61S6, c61S7, c61S8, c61S9, c61S10, c61S11, c61L0, c61S12, c61S13, c61S14, c61S15, c61S16, c61S17, c61S18, c61D3]
              refine ⟨iw, ?_⟩
              have e9 : f6.dead.reverse.map osK ++ [osK (g, d, s)] = ((g, d, s) :: f6.dead).reverse.map osK := by simp
              rw [e9] at s9 ⊢
              exact s9.sub (List.sublist_cons_self _ _)
end Go.Proofs.Ytbeoedgoikcbpaa

namespace Go.Proofs.Ytbeoedgoikcbpaa
open Go Go.Proofs Go.Shelf
set_option linter.unusedVariables false
def laySortOps_ren : Go.Shelf.Ren := ⟨fun | 6 => 58 | 15 => 70 | 14 => 88 | 28 => 103 | 29 => 104 | 20 => 113 | 21 => 114 | 22 => 115 | 23 => 116 | 24 => 117 | 25 => 118 | 26 => 119 | 27 => 120 | 46 => 130 | 47 => 126 | 48 => 127 | 49 => 131 | 50 => 132 | 57 => 138 | n => n, fun | 22 => 22 | 24 => 58 | 25 => 102 | 3 => 3 | 39 => 76 | 0 => 0 | 53 => 63 | 55 => 114 | 4 => 4 | 46 => 138 | 45 => 137 | 50 => 142 | 5 => 5 | 9 => 9 | 66 => 161 | 70 => 165 | 76 => 170 | 77 => 171 | n => n, fun | n => n⟩
theorem laySortOps : Go.Proofs.SlLaysF0.n6 Try.prog laySortOps_ren := {
    mixed := by kernel_rfl,
    f6 := ⟨Try.f58.name, by decide, Try.func58.trans (congrArg some (by kernel_rfl))⟩,
    f14 := ⟨Try.f88.name, by decide, Try.func88.trans (congrArg some (by kernel_rfl))⟩,
    f15 := Try.func70.trans (congrArg some (by kernel_rfl)),
    f20 := ⟨Try.f113.name, by decide, Try.func113.trans (congrArg some (by kernel_rfl))⟩,
    f21 := ⟨Try.f114.name, by decide, Try.func114.trans (congrArg some (by kernel_rfl))⟩,
    f22 := ⟨Try.f115.name, by decide, Try.func115.trans (congrArg some (by kernel_rfl))⟩,
    f23 := ⟨Try.f116.name, by decide, Try.func116.trans (congrArg some (by kernel_rfl))⟩,
    f24 := ⟨Try.f117.name, by decide, Try.func117.trans (congrArg some (by kernel_rfl))⟩,
    f25 := ⟨Try.f118.name, by decide, Try.func118.trans (congrArg some (by kernel_rfl))⟩,
    f26 := ⟨Try.f119.name, by decide, Try.func119.trans (congrArg some (by kernel_rfl))⟩,
    f27 := ⟨Try.f120.name, by decide, Try.func120.trans (congrArg some (by kernel_rfl))⟩,
    f28 := Try.func103.trans (congrArg some (by kernel_rfl)),
    f29 := Try.func104.trans (congrArg some (by kernel_rfl)),
    f46 := ⟨Try.f130.name, by decide, Try.func130.trans (congrArg some (by kernel_rfl))⟩,
    f47 := Try.func126.trans (congrArg some (by kernel_rfl)),
    f48 := Try.func127.trans (congrArg some (by kernel_rfl)),
    f49 := ⟨Try.f131.name, by decide, Try.func131.trans (congrArg some (by kernel_rfl))⟩,
    f50 := ⟨Try.f132.name, by decide, Try.func132.trans (congrArg some (by kernel_rfl))⟩,
    f57 := ⟨Try.f138.name, by decide, Try.func138.trans (congrArg some (by kernel_rfl))⟩,
    t0 := Try.underlying0,
    a0 := Try.isAgg0,
    z0 := Try.sizeOf0,
    v0 := Try.zeroValue0,
    t3 := Try.underlying3,
    a3 := Try.isAgg3,
    z3 := Try.sizeOf3,
    v3 := Try.zeroValue3,
    t4 := Try.underlying4,
    a4 := Try.isAgg4,
    z4 := Try.sizeOf4,
    v4 := Try.zeroValue4,
    t5 := Try.underlying5,
    a5 := Try.isAgg5,
    z5 := Try.sizeOf5,
    v5 := Try.zeroValue5,
    t9 := Try.underlying9,
    a9 := Try.isAgg9,
    z9 := Try.sizeOf9,
    v9 := Try.zeroValue9,
    t22 := Try.underlying22,
    a22 := Try.isAgg22,
    z22 := Try.sizeOf22,
    v22 := Try.zeroValue22,
    t25 := Try.underlying102,
    a25 := Try.isAgg102,
    z25 := Try.sizeOf102,
    v25 := Try.zeroValue102,
    t39 := Try.underlying76,
    a39 := Try.isAgg76,
    z39 := Try.sizeOf76,
    v39 := Try.zeroValue76,
    t45 := Try.underlying137,
    a45 := Try.isAgg137,
    z45 := Try.sizeOf137,
    v45 := Try.zeroValue137,
    t46 := Try.underlying138,
    a46 := Try.isAgg138,
    z46 := Try.sizeOf138,
    v46 := Try.zeroValue138,
    t50 := Try.underlying142,
    a50 := Try.isAgg142,
    z50 := Try.sizeOf142,
    v50 := Try.zeroValue142,
    t53 := Try.underlying63,
    a53 := Try.isAgg63,
    z53 := Try.sizeOf63,
    v53 := Try.zeroValue63,
    t55 := Try.underlying114,
    a55 := Try.isAgg114,
    z55 := Try.sizeOf114,
    v55 := Try.zeroValue114,
    t66 := Try.underlying161,
    a66 := Try.isAgg161,
    z66 := Try.sizeOf161,
    v66 := Try.zeroValue161,
    t70 := Try.underlying165,
    a70 := Try.isAgg165,
    z70 := Try.sizeOf165,
    v70 := Try.zeroValue165,
    t76 := Try.underlying170,
    a76 := Try.isAgg170,
    z76 := Try.sizeOf170,
    v76 := Try.zeroValue170,
    t77 := Try.underlying171,
    a77 := Try.isAgg171,
    z77 := Try.sizeOf171,
    v77 := Try.zeroValue171 }
end Go.Proofs.Ytbeoedgoikcbpaa

namespace Go.Proofs.Ytbeoedgoikcbpaa.Cut
set_option linter.unusedSimpArgs false
set_option linter.unusedVariables false
set_option maxRecDepth 100000
open Go Go.Ann Go.RowKit
def Gr (w w' : World) : Prop := ∃ q os, w' = Go.Sort.grow (w.drewN q) os
theorem Gr.refl (w : World) : Gr w w := ⟨0, #[], by rw [Go.Sort.grow_empty]; rfl⟩
theorem Gr.alloc {w w' : World} (h : Gr w w') (o : Obj) : Gr w (w'.alloc o) := by
  obtain ⟨q, os, rfl⟩ := h
  exact ⟨q, os ++ #[o], by rw [Go.Sort.alloc_eq_grow, Go.Sort.grow_grow]⟩
theorem Gr.drew {w w' : World} (h : Gr w w') : Gr w w'.drew := by
  obtain ⟨q, os, rfl⟩ := h
  exact ⟨q + 1, os, rfl⟩
theorem Gr.trans {a b c : World} (h : Gr a b) (k : Gr b c) : Gr a c := by
  obtain ⟨q, os, rfl⟩ := h
  obtain ⟨r, ps, rfl⟩ := k
  exact ⟨q + r, os ++ ps, by rw [← Go.Sort.grow_grow]; show Go.Sort.grow (Go.Sort.grow ((a.drewN q).drewN r) os) ps = _; rw [World.drewN_drewN]⟩
theorem Gr.below {w w' : World} (h : Gr w w') : Below w.heap.size w w' := by
  obtain ⟨q, os, rfl⟩ := h
  refine ⟨rfl, rfl, rfl, ?_, fun k hk => ?_⟩
  · show w.heap.size ≤ (w.heap ++ os).size
    rw [Array.size_append]; omega
  · show (w.heap ++ os)[k]? = _
    rw [Array.getElem?_append_left hk]
theorem ints2_new {w : World} {b : Nat} {t : TypeId} (x y : Int) (hb : b = w.heap.size) : RdS (w.alloc (.cells #[.int .i64 x, .int .i64 y] t)) 1 (fun n => [.int .i64 n]) (.slice (some ⟨b, 0, none⟩) 2 2) [x, y] := by
  subst hb
  exact rd_new (n := 2) (cs := #[.int .i64 x, .int .i64 y]) rfl
theorem earlier_ok (a b : OpT) (w : World) : Ret Try.prog 86 [.agg a.enc.toArray, .agg b.enc.toArray] w fun u w' => u = .int .i64 (earI a b) ∧ Gr w w' := by
  refine ent86 _ _ _ _ ?_
  have ha := a.at; have hb := b.at
  simp (disch := first | omega | exact okFill_t rfl | exact okSize_t rfl | exact fun h => h | (simp only [World.size_alloc, World.size_drew, World.size_setCell, size_fill, bytesW]; omega)) only [go_sem, c86, c86S0, ha, hb]
  refine c86draw0 (Chg (fun _ => False) _) (Chg.refl _ _) ?_
  simp (disch := first | omega | exact okFill_t rfl | exact okSize_t rfl | exact fun h => h | (simp only [World.size_alloc, World.size_drew, World.size_setCell, size_fill, bytesW]; omega)) only [go_sem, c86, c86S0, c86D0, ha, hb]
  refine Ret.mono (compare_ok _ _ _) ?_
  rintro _ _ ⟨rfl, rfl⟩
  simp (disch := first | omega | exact okFill_t rfl | exact okSize_t rfl | exact fun h => h | (simp only [World.size_alloc, World.size_drew, World.size_setCell, size_fill, bytesW]; omega)) only [go_sem, c86, c86S0, c86D0, ha, hb]
  refine Ret.mono (compare_ok _ _ _) ?_
  rintro _ _ ⟨rfl, rfl⟩
  simp (disch := first | omega | exact okFill_t rfl | exact okSize_t rfl | exact fun h => h | (simp only [World.size_alloc, World.size_drew, World.size_setCell, size_fill, bytesW]; omega)) only [go_sem, c86, c86S0, c86D0, ha, hb]
  refine bsW_ones ty36mkI rfl rfl (by decide) (by decide) (by intro v hv; simp only [List.mem_cons, List.not_mem_nil, or_false] at hv; rcases hv with rfl | rfl <;> rfl) ?_
  simp (disch := first | omega | exact okFill_t rfl | exact okSize_t rfl | exact fun h => h | (simp only [World.size_alloc, World.size_drew, World.size_setCell, size_fill, bytesW]; omega)) only [go_sem, c86, c86S0, c86D0, ha, hb]
  refine ⟨chg_da, Ret.mono (or_ok _ [cmpI a.Invoke b.Invoke, cmpI a.ID b.ID] _ ((ints2_new _ _ (by simp)).below (Below.refl _ _).drew (by decide)) (by simp)) ?_⟩
  rintro _ _ ⟨rfl, rfl⟩
  simp (disch := first | omega | exact okFill_t rfl | exact okSize_t rfl | exact fun h => h | (simp only [World.size_alloc, World.size_drew, World.size_setCell, size_fill, bytesW]; omega)) only [go_sem, c86, c86S0, c86D0, ha, hb]
  exact ⟨chg_da, rfl, (((((Gr.refl w).alloc _).alloc _)).alloc _).drew⟩
end Go.Proofs.Ytbeoedgoikcbpaa.Cut

namespace Go.Proofs.Ytbeoedgoikcbpaa.Cut
set_option linter.unusedSimpArgs false
set_option linter.unusedVariables false
set_option maxRecDepth 100000
open Go Go.Ann Go.RowKit
theorem sortnil1 (fv : Value) (w : World) : Ret Try.prog 113 [.slice none 0 0, .int .i64 0, .int .i64 0, fv] w fun u w' => w' = w := by
  refine ent113 _ _ _ _ _ _ ?_
  simp (disch := first | omega | exact okFill_t rfl | exact okSize_t rfl | exact fun h => h | (simp only [World.size_alloc, World.size_drew, World.size_setCell, size_fill, bytesW]; omega)) only [go_sem, c113, c113S0, c113S1, c113S2, c113L0, c113S3, c113S4, c113L1]
  refine ⟨⟨by decide, by decide⟩, ?_⟩
  refine W_loopU (fun _ : Unit => []) (fun _ w' => w' = w) (fun _ => 0) () rfl rfl ?_
  rintro _ _ rfl
  simp (disch := first | omega | exact okFill_t rfl | exact okSize_t rfl | exact fun h => h | (simp only [World.size_alloc, World.size_drew, World.size_setCell, size_fill, bytesW]; omega)) only [go_sem, c113, c113S0, c113S1, c113S2, c113L0, c113S3, c113S4, c113L1]
theorem sortnil2 (fv : Value) (l : Int) (w : World) : Ret Try.prog 88 [.slice none 0 0, .int .i64 0, .int .i64 0, .int .i64 l, fv] w fun u w' => w' = w := by
  refine ent88 _ _ _ _ _ _ _ ?_
  simp (disch := first | omega | exact okFill_t rfl | exact okSize_t rfl | exact fun h => h | (simp only [World.size_alloc, World.size_drew, World.size_setCell, size_fill, bytesW]; omega)) only [go_sem, c88, c88S0, c88S1, c88S2, c88S3, c88S4, c88S5, c88S6, c88S7, c88S8, c88S9, c88S10, c88S11, c88S12, c88S13, c88S14, c88S15, c88S16, c88L0]
  refine W_loopU (fun _ : Unit => []) (fun _ w' => w' = w) (fun _ => 0) () rfl rfl ?_
  rintro _ _ rfl
  simp (disch := first | omega | exact okFill_t rfl | exact okSize_t rfl | exact fun h => h | (simp only [World.size_alloc, World.size_drew, World.size_setCell, size_fill, bytesW]; omega)) only [go_sem, c88, c88S0, c88S1, c88S2, c88S3, c88S4, c88S5, c88S6, c88S7, c88S8, c88S9, c88S10, c88S11, c88S12, c88S13, c88S14, c88S15, c88S16, c88L0]
  refine ⟨⟨by decide, by decide⟩, Ret.mono (sortnil1 _ _) ?_⟩
  rintro _ _ rfl
  simp (disch := first | omega | exact okFill_t rfl | exact okSize_t rfl | exact fun h => h | (simp only [World.size_alloc, World.size_drew, World.size_setCell, size_fill, bytesW]; omega)) only [go_sem, c88, c88S0, c88S1, c88S2, c88S3, c88S4, c88S5, c88S6, c88S7, c88S8, c88S9, c88S10, c88S11, c88S12, c88S13, c88S14, c88S15, c88S16, c88L0]
theorem sortnil (fv : Value) (w : World) : Ret Try.prog 58 [.slice none 0 0, fv] w fun u w' => w' = w := by
  refine ent58 _ _ _ _ ?_
  simp (disch := first | omega | exact okFill_t rfl | exact okSize_t rfl | exact fun h => h | (simp only [World.size_alloc, World.size_drew, World.size_setCell, size_fill, bytesW]; omega)) only [go_sem, c58]
  have hb := Any.bits_Len (SlLaysF0.n15.bits (P := Try.prog) (ρ := laySortOps_ren) { laySortOps with }) 0 w (by omega) (by omega)
  have hb' : Ret Try.prog 70 [.int .u64 (IntKind.u64.wrap 0)] w fun u w' => u = .int .i64 (Lib.bitLen 0 : Nat) ∧ w' = w := hb.mono fun e w' ⟨h1, h2⟩ => ⟨_, h1, rfl, h2⟩
  refine Ret.mono hb' ?_
  rintro _ _ ⟨rfl, rfl⟩
  simp (disch := first | omega | exact okFill_t rfl | exact okSize_t rfl | exact fun h => h | (simp only [World.size_alloc, World.size_drew, World.size_setCell, size_fill, bytesW]; omega)) only [go_sem, c58]
  refine Ret.mono (sortnil2 _ _ _) ?_
  rintro _ _ rfl
  simp (disch := first | omega | exact okFill_t rfl | exact okSize_t rfl | exact fun h => h | (simp only [World.size_alloc, World.size_drew, World.size_setCell, size_fill, bytesW]; omega)) only [go_sem, c58]
theorem flatK_eq {α : Type} [Inhabited α] {enc : α → List Value} {k : Nat} (hk : ∀ x, (enc x).length = k) (d : Array α) : (Go.Sort.flatK enc k d).toList = d.toList.flatMap enc := by
  have hl : (d.toList.flatMap enc).length = d.size * k := by
    rw [List.length_flatMap, ← Array.length_toList]
    generalize d.toList = l
    induction l with
    | nil => simp
    | cons a l ih => rw [List.map_cons, List.sum_cons, ih, hk, List.length_cons, Nat.add_mul]; omega
  refine List.ext_getElem (by rw [hl, Array.length_toList, Go.Sort.size_flatK]) fun t h1 h2 => ?_
  have ht : t < d.size * k := by omega
  have hk0 : 0 < k := Nat.pos_of_ne_zero fun h => by subst h; omega
  have hi : t / k < d.size := (Nat.div_lt_iff_lt_mul hk0).2 ht
  have hj : t % k < k := Nat.mod_lt _ hk0
  have a := Go.Sort.get_flatK enc k d t ht
  rw [getElem!_pos d _ hi, getElem!_pos (enc _) _ (by rw [hk]; exact hj), getElem!_pos _ _ (by rw [Go.Sort.size_flatK]; exact ht)] at a
  rw [Array.getElem_toList, a]
  have b := flatten_at (sz := k) (d.toList.map enc) (t / k) (t % k) (enc d[t / k]) ((enc d[t / k])[t % k]'(by rw [hk]; exact hj)) (fun c hc => by obtain ⟨x, _, rfl⟩ := List.mem_map.1 hc; exact hk x) (by rw [List.getElem?_map, List.getElem?_eq_getElem (by simpa using hi)]; rfl) (List.getElem?_eq_getElem _)
  rw [show t / k * k + t % k = t by rw [Nat.mul_comm]; exact Nat.div_add_mod t k] at b
  have c : (d.toList.flatMap enc)[t]? = some ((enc d[t / k])[t % k]'(by rw [hk]; exact hj)) := b
  rw [List.getElem?_eq_getElem h2] at c
  exact (Option.some.inj c).symm
theorem own_holdsK {α : Type} [Inhabited α] {enc : α → List Value} {k B e g n cap : Nat} {w : World} {d : Array α} (hk : ∀ x, (enc x).length = k) (hd : d.size = n) (h : w.ownsRow B e k (.slice (some ⟨g, 0, none⟩) n cap) n (d.toList.flatMap enc)) :
    Go.Sort.HoldsK enc k w g 0 d := by
  obtain ⟨hl, ⟨h0, _⟩ | ⟨g', cap', cur, he, hB, hb, hc, hm, hs, hx⟩⟩ := h
  · cases h0
  cases he
  have hblk : Blk w g cur e := hb
  intro j hj
  rw [Go.Sort.size_flatK] at hj
  have hj' : j < (Go.Sort.flatK enc k d).size := by rw [Go.Sort.size_flatK]; exact hj
  refine ⟨?_, hblk.frozen _⟩
  rw [hblk.cell, Nat.zero_add, getElem!_pos (Go.Sort.flatK enc k d) j hj']
  have e1 := flatK_eq hk d
  rw [← hx] at e1
  have e2 : (Go.Sort.flatK enc k d).toList[j]? = (cur.toList.take (n * k))[j]? := by rw [e1]
  rw [List.getElem?_take_of_lt (by rw [← hd]; exact hj), Array.getElem?_toList, Array.getElem?_toList, Array.getElem?_eq_getElem hj'] at e2
  exact e2.symm
theorem own_sorted {α : Type} [Inhabited α] {enc : α → List Value} {k B e g n cap : Nat} {w : World} {d : Array α} (hk : ∀ x, (enc x).length = k) (hd : d.size = n) (h : w.ownsRow B e k (.slice (some ⟨g, 0, none⟩) n cap) n (d.toList.flatMap enc))
    (m : Nat) (d' : Array α) (os : Array Obj) (hd' : d'.size = n) : (sortWorldK enc k w g 0 m d' os).ownsRow B e k (.slice (some ⟨g, 0, none⟩) n cap) n (d'.toList.flatMap enc) ∧ Chg (fun k => k = g) w (sortWorldK enc k w g 0 m d' os) := by
  obtain ⟨hl, ⟨h0, _⟩ | ⟨g', cap', cur, he, hB, hb, hc, hm, hs, hx⟩⟩ := h
  · cases h0
  cases he
  have hg : g < w.heap.size := (Array.getElem?_eq_some_iff.1 hb).1
  have hh : (sortWorldK enc k w g 0 m d' os).heap = w.heap.modify g (Go.Sort.onCells (Go.Sort.putCells id 0 (Go.Sort.flatK enc k d'))) ++ os := rfl
  have hgb : (sortWorldK enc k w g 0 m d' os).heap[g]? = some (.cells (Go.Sort.putCells id 0 (Go.Sort.flatK enc k d') cur) e (0, 0)) := by
    rw [hh, Array.getElem?_append_left (by rw [Array.size_modify]; exact hg), Array.getElem?_modify, if_pos rfl, hb]
    rfl
  have e1 := flatK_eq hk d'
  have hle : n * k ≤ cap * k := Nat.mul_le_mul_right _ hc
  refine ⟨⟨by rw [← e1, Array.length_toList, Go.Sort.size_flatK, hd'], .inr ⟨g, cap, _, rfl, hB, hgb, hc, hm, by unfold Go.Sort.putCells; rw [Array.size_mapIdx]; exact hs, ?_⟩⟩, rfl, rfl, rfl, ?_, fun j hj hne => ?_⟩
  · rw [← e1]
    refine List.ext_getElem (by simp only [Go.Sort.putCells, List.length_take, Array.length_toList, Array.size_mapIdx, Go.Sort.size_flatK, hs, hd']; omega) fun t h1 h2 => ?_
    rw [Array.length_toList, Go.Sort.size_flatK, hd'] at h2
    rw [List.getElem_take, Array.getElem_toList, Array.getElem_toList]
    unfold Go.Sort.putCells
    rw [Array.getElem_mapIdx, if_pos ⟨Nat.zero_le _, by rw [Go.Sort.size_flatK, hd']; omega⟩, Nat.sub_zero, getElem!_pos (Go.Sort.flatK enc k d') t (by rw [Go.Sort.size_flatK, hd']; exact h2)]
    rfl
  · rw [hh, Array.size_append, Array.size_modify]; omega
  · rw [hh, Array.getElem?_append_left (by rw [Array.size_modify]; exact hj), Array.getElem?_modify, if_neg (fun e => hne e.symm)]
theorem sort_ok (cf : OpT → OpT → Int) (g : Nat) (eg : ∀ args w, (callFunc g args).run Try.prog w = .ok (.enter g args) w) (hO : Go.Sort.SWO (ltOf cf)) (hf : ∀ a b w, Ret Try.prog g [.agg a.enc.toArray, .agg b.enc.toArray] w fun u w' => u = .int .i64 (cf a b) ∧ Gr w w')
    (v : Value) (l : List OpT) (w : World) (B : Nat) (h : w.ownsRow B 58 11 v l.length (l.flatMap OpT.enc)) (hl : l.length ≤ 100) :
    Ret Try.prog 58 [v, .func (.func g) #[] #[]] w fun _ w' => ∃ l', Sorts cf l l' ∧ w'.ownsRow B 58 11 v l.length (l'.flatMap OpT.enc) ∧ Chg (fun k => v.ownBlock = some k) w w' := by
  obtain ⟨hlen, ⟨rfl, h0⟩ | ⟨g', cap, cur, rfl, hB, hb, hc, hm, hs, hx⟩⟩ := id h
  · refine Ret.mono (sortnil _ _) ?_
    rintro _ _ rfl
    have hl0 : l = [] := List.eq_nil_of_length_eq_zero h0
    subst hl0
    exact ⟨[], ⟨List.Perm.refl _, List.Pairwise.nil⟩, h, Chg.refl _ _⟩
  have hcl : CmpLays Try.prog g #[] OpT.enc 11 cf g' 0 l.toArray.size w := fun m os dk hdk x y => by
    have e := hf x y (sortWorldK OpT.enc 11 w g' 0 m dk os)
    unfold Ret at e
    rw [Array.append_empty]
    exact e.mono fun e w' ⟨u, h1, h2, h3⟩ => ⟨by rw [h1, h2], h3⟩
  have hH : Go.Sort.HoldsK OpT.enc 11 w g' 0 l.toArray := own_holdsK OpT.len (by simp) h
  have hs := AnyQ.slices_SortFunc laySortOps 11 Try.isAgg58 Try.sizeOf58 OpT.enc OpT.len OpT.one cf hO g #[] g' 0 cap l.toArray w eg hcl hH (Array.getElem?_eq_some_iff.1 hb).1 (by simp; omega)
  refine hs.mono ?_
  rintro e w' ⟨rfl, d', n, os, hp, hs, rfl⟩
  have hsz : d'.size = l.length := hp.1
  obtain ⟨o1, o2⟩ := own_sorted OpT.len (by simp) (show w.ownsRow B 58 11 (.slice (some ⟨g', 0, none⟩) l.length cap) l.length (l.toArray.toList.flatMap OpT.enc) from h) n d' os hsz
  refine ⟨_, rfl, d'.toList, ⟨?_, ?_⟩, o1, o2.mono fun k _ e => by rw [e]; rfl⟩
  · have := hp.2.2
    simp only [List.size_toArray] at this
    rw [Array.extract_eq_self_of_le (by omega), Array.extract_eq_self_of_le (by simp)] at this
    exact this
  · rw [List.pairwise_iff_getElem]
    intro i j hi hj hij
    have := hs i j (Nat.zero_le _) hij (by simpa [hsz] using hj)
    rw [getElem!_pos d' i (by simpa using hi), getElem!_pos d' j (by simpa using hj)] at this
    simpa [ltOf] using this
end Go.Proofs.Ytbeoedgoikcbpaa.Cut

namespace Go.Proofs.Ytbeoedgoikcbpaa.Cut
set_option linter.unusedSimpArgs false
set_option linter.unusedVariables false
set_option maxRecDepth 100000
open Go Go.Ann Go.RowKit
theorem swo_ear : Go.Sort.SWO (ltOf earI) where
  irrefl x := by rw [lt_ear]; exact decide_eq_false (by omega)
  trans x y z h1 h2 := by rw [lt_ear, decide_eq_true_eq] at *; omega
  ntrans x y z h1 h2 := by rw [lt_ear, decide_eq_false_iff_not] at *; omega
def Cuts (W0 w : World) (more : List Res) (I0 : List Inv) (vo : Value) (acc : List Seg) : Prop :=
  (acc = [] ∧ vo = .slice none 0 0 ∧ St W0 w (fun _ => False) more I0) ∨
  ∃ ini s vs vl, acc = ini ++ [s] ∧ vs.length = ini.length ∧ (∀ v ∈ vs, ∀ k, slFoot v k → W0.heap.size ≤ k) ∧ St W0 w (fun _ => False) (.row vl 58 11 s.ops.length (s.ops.flatMap OpT.enc) :: .row vo 24 3 (ini.length + 1) (segCells ini vs ++ segC s vl) :: more) (segInvs ini vs ++ I0)
theorem Cuts.form {W0 w : World} {more : List Res} {I0 : List Inv} {vo : Value} {acc : List Seg} (h : Cuts W0 w more I0 vo acc) : ∃ a c, vo = .slice a acc.length c := by
  rcases h with ⟨rfl, rfl, _⟩ | ⟨ini, s, vs, vl, rfl, _, _, h⟩
  · exact ⟨_, _, rfl⟩
  · obtain ⟨a, c, rfl, _⟩ := own_slice (h.row 1 rfl)
    exact ⟨a, c, by rw [List.length_append]; rfl⟩
theorem Cuts.bel {W0 w : World} {more : List Res} {I0 : List Inv} {vo : Value} {acc : List Seg} (h : Cuts W0 w more I0 vo acc) : Below W0.heap.size W0 w := by
  rcases h with ⟨_, _, h⟩ | ⟨_, _, _, _, _, _, _, h⟩ <;> exact h.bel
theorem Cuts.call {W0 w w' : World} {more : List Res} {I0 : List Inv} {vo : Value} {acc : List Seg} (h : Cuts W0 w more I0 vo acc) (hb : Below w.heap.size w w') : Cuts W0 w' more I0 vo acc := by
  rcases h with ⟨h1, h2, h⟩ | ⟨ini, s, vs, vl, h1, h2, hN, h⟩
  · exact .inl ⟨h1, h2, h.call hb⟩
  · exact .inr ⟨ini, s, vs, vl, h1, h2, hN, h.call hb⟩
theorem Cuts.base {W0 w : World} {more : List Res} {I0 : List Inv} {vo : Value} {acc : List Seg} (h : Cuts W0 w more I0 vo acc) : St W0 w (fun _ => False) more I0 := by
  rcases h with ⟨_, _, h⟩ | ⟨_, _, _, _, _, _, _, h⟩
  · exact h
  · exact (h.sub ((List.sublist_cons_self _ _).trans (List.sublist_cons_self _ _))).inv_sub fun a ha => List.mem_append_right _ ha
theorem Cuts.box {W0 w : World} {more : List Res} {I0 : List Inv} {vo : Value} {acc : List Seg} (h : Cuts W0 w more I0 vo acc) (cs : Array Value) (t : TypeId) : Cuts W0 (w.alloc (.cells cs t)) (.blk w.heap.size cs t :: more) I0 vo acc := by
  rcases h with ⟨h1, h2, h⟩ | ⟨ini, s, vs, vl, h1, h2, hN, h⟩
  · exact .inl ⟨h1, h2, h.box cs t⟩
  · exact .inr ⟨ini, s, vs, vl, h1, h2, hN, (h.box cs t).perm (((List.Perm.swap _ _ _).cons _).trans (List.Perm.swap _ _ _))⟩
theorem Cuts.grow {W0 w : World} {more : List Res} {I0 : List Inv} {vo x : Value} {acc : List Seg} (h : Cuts W0 w more I0 vo acc) (obj kind : Int) (hn : acc.length ≤ 100) (hx : Rd w 3 x 1 (segC ⟨obj, kind, []⟩ (.slice none 0 0))) {K : Value → World → Prop} {cs : Array Bool} {ty : Nat}
    (hK : ∀ v' w', Cuts W0 w' more I0 v' (acc ++ [⟨obj, kind, []⟩]) → K v' w') : rawB Try.prog .append #[47, 47] ty cs [vo, x] w K := by
  rcases h with ⟨rfl, rfl, h⟩ | ⟨ini, s, vs, vl, rfl, hl, hN, h⟩
  · have s1 := h.nilRow 24 3
    refine s1.append 0 rfl ty47mkI rfl (by decide) hx (by intro u hu; simp only [segC, List.mem_cons, List.not_mem_nil, or_false] at hu; rcases hu with rfl | rfl | rfl <;> rfl) (by omega) (by omega) ?_
    intro v' w' s2 _
    simp only [List.set_cons_zero] at s2
    exact hK _ _ (.inr ⟨[], _, [], .slice none 0 0, rfl, rfl, (fun v hv => by cases hv), s2.nilRow 58 11⟩)
  · rw [List.length_append, List.length_singleton] at hn
    have s1 := h.seal (.rd 11 OpT.enc vl s.ops) (RdS.of_own (h.row 0 rfl)) fun k hk => slFoot_own hk
    refine s1.append 0 rfl ty47mkI rfl (by decide) hx (by intro u hu; simp only [segC, List.mem_cons, List.not_mem_nil, or_false] at hu; rcases hu with rfl | rfl | rfl <;> rfl) (by omega) (by omega) ?_
    intro v' w' s2 _
    simp only [List.set_cons_zero] at s2
    have s3 := (s2.nilRow 58 11).inv_sub (I' := segInvs (ini ++ [s]) (vs ++ [vl]) ++ I0) fun a ha => by
      rcases List.mem_append.1 ha with ha | ha
      · rcases (segInvs_snoc ini vs s vl hl a).1 ha with rfl | ha
        · exact List.mem_cons_self
        · exact List.mem_cons_of_mem _ (List.mem_append_left _ ha)
      · exact List.mem_cons_of_mem _ (List.mem_append_right _ ha)
    rw [← segCells_snoc ini vs s vl hl] at s3
    refine hK _ _ (.inr ⟨ini ++ [s], _, vs ++ [vl], .slice none 0 0, rfl, by simp [hl], ?_, ?_⟩)
    · intro v hv k hk
      rcases List.mem_append.1 hv with hv | hv
      · exact hN v hv k hk
      · rw [List.mem_singleton] at hv; subst hv
        exact ((h.row 0 rfl).lt k (slFoot_own hk)).1
    rw [List.length_append, List.length_singleton]
    exact s3
theorem Cuts.out {W0 w : World} {more : List Res} {I0 : List Inv} {vo : Value} {acc : List Seg} (h : Cuts W0 w more I0 vo acc) (hs : ∀ s ∈ acc, (s.ops.length : Int) ≤ 9223372036854775806) (w2 : World) (hw2 : ∀ k, W0.heap.size ≤ k → k < w.heap.size → w2.heap[k]? = w.heap[k]?) : RdR w2 3 segR vo acc := by
  rcases h with ⟨rfl, rfl, _⟩ | ⟨ini, s, vs, vl, rfl, hl, hN, h⟩
  · exact RdR.nil
  refine ⟨List.zipWith segC (ini ++ [s]) (vs ++ [vl]), by simp [hl], ?_, ?_⟩
  · intro i c x hc hx
    rw [List.getElem?_zipWith, hx] at hc
    cases hv : (vs ++ [vl])[i]? with
    | none => rw [hv] at hc; cases hc
    | some v =>
      rw [hv] at hc
      simp only [Option.some.injEq] at hc
      subst hc
      refine ⟨rfl, v, rfl, ?_, hs x (List.mem_of_getElem? hx)⟩
      rcases Nat.lt_or_ge i ini.length with hi | hi
      · rw [List.getElem?_append_left hi] at hx
        rw [List.getElem?_append_left (by omega)] at hv
        have hi2 := h.inv _ (List.mem_append_left _ (segInvs_mem ini vs i x v hx hv))
        exact RdS.loc hi2.1 fun k hk => hw2 k (hN v (List.mem_of_getElem? hv) k hk) (hi2.2 k hk).1
      · rw [List.getElem?_append_right hi] at hx
        rw [List.getElem?_append_right (by omega), hl] at hv
        have hz : i - ini.length = 0 := by
          have := (List.getElem?_eq_some_iff.1 hx).1
          simp only [List.length_singleton] at this; omega
        rw [hz] at hx hv
        simp only [List.getElem?_cons_zero, Option.some.injEq] at hx hv
        subst hx; subst hv
        exact RdS.loc (RdS.of_own (h.row 0 rfl)) fun k hk => hw2 k ((h.row 0 rfl).lt k (slFoot_own hk)).1 ((h.row 0 rfl).lt k (slFoot_own hk)).2
  · rw [segCells_flat, segCells_snoc ini vs s vl hl, List.length_append, List.length_singleton]
    exact Rd.loc (Rd.of_own (h.row 1 rfl)) fun k hk => hw2 k ((h.row 1 rfl).lt k (slFoot_own hk)).1 ((h.row 1 rfl).lt k (slFoot_own hk)).2
theorem own_mono {w : World} {B B' e sz n : Nat} {v : Value} {xs : List Value} (h : w.ownsRow B e sz v n xs) (hb : B' ≤ B) : w.ownsRow B' e sz v n xs := by
  obtain ⟨h1, h2 | ⟨g, cap, cur, h3, h4, h5⟩⟩ := h
  · exact ⟨h1, .inl h2⟩
  · exact ⟨h1, .inr ⟨g, cap, cur, h3, by omega, h5⟩⟩
theorem push16 {W0 w : World} {more : List Res} {I0 : List Inv} {vo : Value} {ini : List Seg} {s : Seg} {Q : Post} (o : OpT) (b : Nat) (v1 v13 v14 v15 : Value) (h : Cuts W0 w (.blk b o.enc.toArray 58 :: more) I0 vo (ini ++ [s])) (hn : ini.length ≤ 100) (hs : s.ops.length ≤ 100)
    (hQ : ∀ w', Cuts W0 w' more I0 vo (ini ++ [⟨s.obj, s.kind, s.ops ++ [o]⟩]) → Q .normal [(1, v1), (4, vo), (13, v13), (14, v14), (15, v15)] w') :
    W Try.prog (c56S2 ()) [(1, v1), (4, vo), (6, .pointer (some ⟨b, 0, none⟩)), (7, .int .i64 ini.length), (13, v13), (14, v14), (15, v15)] w Q := by
  rcases h with ⟨h, _⟩ | ⟨ini', s', vs, vl, he, hl, hN, h⟩
  · simp at h
  obtain ⟨rfl, rfl⟩ : ini = ini' ∧ s = s' := by
    have := List.append_inj' he rfl
    exact ⟨this.1, by simpa using this.2⟩
  obtain ⟨a, c, rfl, _⟩ := own_slice (h.row 1 rfl)
  obtain ⟨g, rfl⟩ : ∃ g, a = some ⟨g, 0, none⟩ := by
    obtain ⟨_, ⟨_, h0⟩ | ⟨g, cap, cur, e, _⟩⟩ := h.row 1 rfl
    · omega
    · cases e; exact ⟨g, rfl⟩
  have hrow := (h.row 1 rfl)
  have hlen := segCells_length ini vs hl
  have hc0 : w.cell? ⟨g, ini.length * 3 + 2, none⟩ = some vl := by
    have := hrow.cells rfl (ini.length * 3 + 2) vl (by rw [List.getElem?_append_right (by omega), hlen, show ini.length * 3 + 2 - ini.length * 3 = 2 by omega]; rfl)
    simpa [Addr.add] using this
  have hgl := hrow.lt g rfl
  have hne : vl.ownBlock ≠ some g := h.ne 1 0 rfl rfl (by decide) rfl
  obtain ⟨av, cv, rfl, _⟩ := own_slice (h.row 0 rfl)
  have ho := h.blk 2 rfl
  have hbl := ho.lt
  have hor := ho.rules
  simp (disch := first | omega | exact okFill_t rfl | exact okSize_t rfl | exact fun h => h | (simp only [World.size_alloc, World.size_drew, World.size_setCell, size_fill, bytesW]; omega)) only [go_sem, c56, c56S0, c56S1, c56S2, c56S3, c56S4, c56L0, c56S5, c56S6, c56S7]
  refine c56draw1 (Chg (fun k => (Value.slice av s.ops.length cv).ownBlock = some k) _) (Chg.refl _ _) ?_
  simp (disch := first | omega | exact okFill_t rfl | exact okSize_t rfl | exact fun h => h | (simp only [World.size_alloc, World.size_drew, World.size_setCell, size_fill, bytesW]; omega)) only [go_sem, c56, c56S0, c56S1, c56S2, c56S3, c56S4, c56L0, c56S5, c56S6, c56S7, c56D1, hc0, hor]
  refine ⟨⟨by omega, by omega⟩, bsW_agg ty22mkI rfl (by decide) (by decide) ?_⟩
  have h2 : St W0 (w.alloc (.cells o.enc.toArray 58)).drew _ _ _ := (h.alloc' (.cells o.enc.toArray 58)).drew
  have hrd : Rd (w.alloc (.cells o.enc.toArray 58)).drew 11 (.slice (some ⟨w.heap.size, 0, none⟩) 1 1) 1 o.enc := rd_new (w := w.drew) (t := 58) (sz := 11) (n := 1) (cs := o.enc.toArray) rfl
  simp (disch := first | omega | exact okFill_t rfl | exact okSize_t rfl | exact fun h => h | (simp only [World.size_alloc, World.size_drew, World.size_setCell, size_fill, bytesW]; omega)) only [go_sem, c56, c56S0, c56S1, c56S2, c56S3, c56S4, c56L0, c56S5, c56S6, c56S7, c56D1, hc0, hor]
  refine ⟨chg_da, h2.append 0 rfl ty22mkI rfl (by decide) hrd o.one (by omega) (by omega) ?_⟩
  intro v3 w3 s3 c3
  simp only [List.set_cons_zero] at s3
  obtain ⟨a3, c3', rfl, _⟩ := own_slice (s3.row 0 rfl)
  have s3' := s3.row 1 rfl
  simp (disch := first | omega | exact okFill_t rfl | exact okSize_t rfl | exact fun h => h | (simp only [World.size_alloc, World.size_drew, World.size_setCell, size_fill, bytesW]; omega)) only [go_sem, c56, c56S0, c56S1, c56S2, c56S3, c56S4, c56L0, c56S5, c56S6, c56S7, c56D1, hc0, hor]
  have hc3 : w3.cell? ⟨g, ini.length * 3 + 2, none⟩ = some (.slice av s.ops.length cv) := by
    have := s3'.cells rfl (ini.length * 3 + 2) (.slice av s.ops.length cv) (by rw [List.getElem?_append_right (by omega), hlen, show ini.length * 3 + 2 - ini.length * 3 = 2 by omega]; rfl)
    simpa [Addr.add] using this
  have hf3 : w3.frozen? ⟨g, ini.length * 3 + 2, none⟩ = false := by
    obtain ⟨_, ⟨h0, _⟩ | ⟨g', cap, cur, e, _, hb, _⟩⟩ := s3'
    · cases h0
    · cases e; exact Blk.frozen (show Blk w3 g cur _ from hb) _
  refine ⟨⟨by omega, by omega⟩, ⟨_, hc3⟩, hf3, hQ _ (.inr ⟨ini, _, vs, .slice a3 (s.ops.length + 1) c3', rfl, hl, hN, ?_⟩)⟩
  have s4 := (s3.put 1 rfl (ini.length * 3 + 2) (.slice a3 (s.ops.length + 1) c3')).sub (((List.sublist_cons_self _ _).cons_cons _).cons_cons _)
  rw [List.set_append_right _ _ (by omega), hlen, show ini.length * 3 + 2 - ini.length * 3 = 2 by omega] at s4
  have e1 : (s.ops ++ [o]).flatMap OpT.enc = s.ops.flatMap OpT.enc ++ o.enc := by rw [List.flatMap_append]; simp
  have e2 : (s.ops ++ [o]).length = s.ops.length + 1 := by simp
  show St W0 _ _ (.row _ _ 11 (s.ops ++ [o]).length ((s.ops ++ [o]).flatMap OpT.enc) :: _) _
  rw [e1, e2]
  exact s4
theorem segments_ok (obj kind : Int) (v : Value) (l : List OpT) (w : World) (h : RdS w 11 OpT.enc v l) (hl : l.length ≤ 100) :
    Ret Try.prog 56 [.agg #[.int .i64 obj, .int .i64 kind, v]] w fun u w' => (∃ l', Sorts earI l l' ∧ ∀ w2 : World, (∀ k, w.heap.size ≤ k → k < w'.heap.size → w2.heap[k]? = w'.heap[k]?) → RdR w2 3 segR u (l'.foldl (cutStep (fun s o => s.ops.all fun x => before x o) fun _ => (obj, kind)) [])) ∧ Below w.heap.size w w' := by
  obtain ⟨a, c, rfl, _⟩ := h.form
  refine ent56 _ _ _ ?_
  simp (disch := first | omega | exact okFill_t rfl | exact okSize_t rfl | exact fun h => h | (simp only [World.size_alloc, World.size_drew, World.size_setCell, size_fill, bytesW]; omega)) only [go_sem, c56, c56S0, c56S1, c56S2, c56S3, c56S4, c56L0, c56S5, c56S6, c56S7]
  have s1 := (St.start (W0 := w)).box #[.int .i64 obj, .int .i64 kind, .slice a l.length c] 24
  have h1 := h.below s1.bel (by decide)
  generalize w.alloc (.cells #[.int .i64 obj, .int .i64 kind, .slice a l.length c] 24) = w1 at s1 h1 ⊢
  refine Ret.mono (clone_ok _ _ _ h1 hl) ?_
  rintro vl w2 ⟨o2, b2⟩
  have s2 := s1.add b2 (.row vl 58 11 l.length (l.flatMap OpT.enc)) (own_mono o2 s1.size) fun k hk => (o2.lt k hk).1
  simp (disch := first | omega | exact okFill_t rfl | exact okSize_t rfl | exact fun h => h | (simp only [World.size_alloc, World.size_drew, World.size_setCell, size_fill, bytesW]; omega)) only [go_sem, c56, c56S0, c56S1, c56S2, c56S3, c56S4, c56L0, c56S5, c56S6, c56S7]
  refine Ret.mono (sort_ok earI _ (enters_of Try.func86 (by kernel_rfl) rfl) swo_ear earlier_ok vl l w2 _ (s2.row 0 rfl) hl) ?_
  rintro _ w3 ⟨l', hs, o3, c3⟩
  have s3 := s2.upd 0 rfl c3 (.row vl 58 11 l.length (l'.flatMap OpT.enc)) o3 fun k hk => .inl hk
  have hll : l'.length = l.length := hs.1.length_eq
  simp only [List.set_cons_zero] at s3
  have s4 := s3.seal (.rd 11 OpT.enc vl l') (RdS.of_own' (s3.row 0 rfl) l' hll.symm rfl) fun k hk => slFoot_own hk
  obtain ⟨al, cl, rfl, _⟩ := own_slice o3
  simp (disch := first | omega | exact okFill_t rfl | exact okSize_t rfl | exact fun h => h | (simp only [World.size_alloc, World.size_drew, World.size_setCell, size_fill, bytesW]; omega)) only [go_sem, c56, c56S0, c56S1, c56S2, c56S3, c56S4, c56L0, c56S5, c56S6, c56S7]
  refine W_loopU (fun x : Nat × Value => [(4, x.2), (15, .int .i64 x.1)]) (fun x w' => x.1 ≤ l'.length ∧ Cuts w w' [.blk w.heap.size #[.int .i64 obj, .int .i64 kind, .slice a l.length c] 24] [.rd 11 OpT.enc (.slice al l.length cl) l'] x.2 ((l'.take x.1).foldl (cutStep (fun s o => s.ops.all fun x => before x o) fun _ => (obj, kind)) [])) (fun x => l'.length - x.1) (0, .slice none 0 0) rfl ⟨Nat.zero_le _, .inl ⟨rfl, rfl, s4⟩⟩ ?_
  rintro ⟨k, vo⟩ w4 ⟨hk, hc⟩
  simp only at hk hc
  generalize ha : (l'.take k).foldl (cutStep (fun s o => s.ops.all fun x => before x o) fun _ => (obj, kind)) [] = acc at hc
  obtain ⟨ao, co, rfl⟩ := hc.form
  by_cases hlt : k < l'.length
  · have hlt' : (k : Int) < l.length := by omega
    have hstep : (l'.take (k + 1)).foldl (cutStep (fun s o => s.ops.all fun x => before x o) fun _ => (obj, kind)) [] = cutStep (fun s o => s.ops.all fun x => before x o) (fun _ => (obj, kind)) acc l'[k] := by
      rw [List.take_succ_eq_append_getElem hlt, List.foldl_append, ha]; rfl
    have s5 : St w w4 (fun _ => False) [.blk w.heap.size #[.int .i64 obj, .int .i64 kind, .slice a l.length c] 24] [.rd 11 OpT.enc (.slice al l.length cl) l'] := hc.base
    have r5 := s5.rules 0 rfl
    have g5 := s5.get 0 rfl
    have g5' : RdS w4 11 OpT.enc (.slice al l.length cl) l' := g5
    obtain ⟨pl, rfl⟩ := RdS.ptr (by rw [← hll] at g5'; exact g5') (by omega)
    have el := g5'.at OpT.len hlt
    simp (disch := first | omega | exact okFill_t rfl | exact okSize_t rfl | exact fun h => h | (simp only [World.size_alloc, World.size_drew, World.size_setCell, size_fill, bytesW]; omega)) only [go_sem, c56, c56S0, c56S3, c56S4, c56L0, c56S5, c56S6, c56S7, hlt', r5, el]
    have hflat := cut_flat (fun s o => s.ops.all fun x => before x o) (fun _ => (obj, kind)) (l'.take k) []
    have hne := cut_ne (fun s o => s.ops.all fun x => before x o) (fun _ => (obj, kind)) (l'.take k) [] (fun s h => by cases h)
    rw [ha] at hflat hne
    simp only [List.flatMap_nil, List.nil_append] at hflat
    have hlen := segs_len acc hne
    have hfl : (acc.flatMap Seg.ops).length = k := by rw [hflat, List.length_take]; omega
    refine ⟨by omega, rfl, ⟨by omega, by omega⟩, ?_⟩
    have hc6 := hc.box l'[k].enc.toArray 58
    have hw6 := hc6.base.size
    have r6 := hc6.base.rules 1 rfl
    have ho := hc6.base.blk 0 rfl
    generalize w4.heap.size = bo at hc6 ho ⊢
    generalize w4.alloc (.cells l'[k].enc.toArray 58) = w6 at hc6 ho r6 hw6 ⊢
    have ro := ho.rules
    have hw7 := ho.lt
    rcases List.eq_nil_or_concat acc with rfl | ⟨ini, s, hacc⟩
    · refine c56draw0 (Chg (fun _ => False) _) (Chg.refl _ _) ?_
      simp (disch := first | omega | exact okFill_t rfl | exact okSize_t rfl | exact fun h => h | (simp only [World.size_alloc, World.size_drew, World.size_setCell, size_fill, bytesW]; omega)) only [go_sem, c56, c56S0, c56S1, c56S3, c56S4, c56L0, c56S5, c56S6, c56S7, c56D0, r6]
      refine bdW_built (cells := (segC ⟨obj, kind, []⟩ (.slice none 0 0)).toArray) (by kernel_rfl) ?_
      simp (disch := first | omega | exact okFill_t rfl | exact okSize_t rfl | exact fun h => h | (simp only [World.size_alloc, World.size_drew, World.size_setCell, size_fill, bytesW]; omega)) only [go_sem, c56, c56S0, c56S1, c56S3, c56S4, c56L0, c56S5, c56S6, c56S7]
      refine bsW_agg ty47mkI rfl (by decide) (by decide) ?_
      simp (disch := first | omega | exact okFill_t rfl | exact okSize_t rfl | exact fun h => h | (simp only [World.size_alloc, World.size_drew, World.size_setCell, size_fill, bytesW]; omega)) only [go_sem, c56, c56S0, c56S1, c56S3, c56S4, c56L0, c56S5, c56S6, c56S7]
      have hrd : Rd (w6.alloc (.cells (segC ⟨obj, kind, []⟩ (.slice none 0 0)).toArray 24)).drew 3 (.slice (some ⟨w6.heap.size, 0, none⟩) 1 1) 1 (segC ⟨obj, kind, []⟩ (.slice none 0 0)) := rd_new (w := w6.drew) (t := 24) (sz := 3) (n := 1) (cs := (segC ⟨obj, kind, []⟩ (.slice none 0 0)).toArray) rfl
      refine (hc6.call (w' := (w6.alloc (.cells (segC ⟨obj, kind, []⟩ (.slice none 0 0)).toArray 24)).drew) ((Below.refl _ w6).alloc (Nat.le_refl _) _).drew).grow obj kind (by simp) hrd ?_
      intro v8 w8 c8
      simp (disch := first | omega | exact okFill_t rfl | exact okSize_t rfl | exact fun h => h | (simp only [World.size_alloc, World.size_drew, World.size_setCell, size_fill, bytesW]; omega)) only [go_sem, c56, c56S0, c56S1, c56S3, c56S4, c56L0, c56S5, c56S6, c56S7]
      refine ⟨⟨by decide, by decide⟩, push16 (ini := []) l'[k] bo _ _ _ _ c8 (by simp) (by simp) ?_⟩
      intro w9 c9
      simp (disch := first | omega | exact okFill_t rfl | exact okSize_t rfl | exact fun h => h | (simp only [World.size_alloc, World.size_drew, World.size_setCell, size_fill, bytesW]; omega)) only [go_sem, c56, c56S0, c56S1, c56S2, c56S3, c56S4, c56L0, c56S5, c56S6, c56S7]
      refine ⟨⟨by omega, by omega⟩, (k + 1, _), rfl, ⟨by simp only; omega, ?_⟩, by simp only; omega⟩
      simp only
      rw [hstep, cutStep_nil]
      exact c9
    · rw [List.concat_eq_append] at hacc
      subst hacc
      rcases id hc6 with ⟨h0, _⟩ | ⟨ini', s', vs, vl, he, hvl, hN6, s6⟩
      · simp at h0
      obtain ⟨rfl, rfl⟩ : ini = ini' ∧ s = s' := by
        have := List.append_inj' he rfl
        exact ⟨this.1, by simpa using this.2⟩
      have hnz : ((ini ++ [s]).length : Int) - 1 = ini.length := by simp
      rw [hnz]
      rw [List.length_append, List.length_singleton] at hc6 s6 ⊢
      obtain ⟨g, rfl⟩ : ∃ g, ao = some ⟨g, 0, none⟩ := by
        obtain ⟨_, ⟨_, h0⟩ | ⟨g, cap, cur, e, _⟩⟩ := s6.row 1 rfl
        · omega
        · cases e; exact ⟨g, rfl⟩
      have hrow := s6.row 1 rfl
      have hsl := segCells_length ini vs hvl
      have hc0 : w6.cell? ⟨g, ini.length * 3 + 2, none⟩ = some vl := by
        have := hrow.cells rfl (ini.length * 3 + 2) vl (by rw [List.getElem?_append_right (by omega), hsl, show ini.length * 3 + 2 - ini.length * 3 = 2 by omega]; rfl)
        simpa [Addr.add] using this
      have hgl := hrow.lt g rfl
      have hil := s6.row 0 rfl
      obtain ⟨av, cv, rfl, _⟩ := own_slice (s6.row 0 rfl)
      refine c56draw0 (Chg (fun _ => False) _) (Chg.refl _ _) ?_
      simp (disch := first | omega | exact okFill_t rfl | exact okSize_t rfl | exact fun h => h | (simp only [World.size_alloc, World.size_drew, World.size_setCell, size_fill, bytesW]; omega)) only [go_sem, c56, c56S0, c56S1, c56S3, c56S4, c56L0, c56S5, c56S6, c56S7, c56D0, r6, ro, hc0]
      have hsl' := seg_len (ini ++ [s]) s (by simp)
      refine ⟨fun _ => ⟨⟨by omega, by omega⟩, Ret.mono (quiet_ok _ s.ops l'[k] _ (RdS.of_own (hil.drew)) (by omega)) ?_⟩, fun h => by omega⟩
      rintro _ w8 ⟨rfl, b8⟩
      have hc8 : Cuts w w8 _ _ _ (ini ++ [s]) := (hc6.call ((Below.refl _ w6).drew)).call b8
      have r8 := hc8.base.rules 1 rfl
      simp (disch := first | omega | exact okFill_t rfl | exact okSize_t rfl | exact fun h => h | (simp only [World.size_alloc, World.size_drew, World.size_setCell, size_fill, bytesW]; omega)) only [go_sem, c56, c56S0, c56S1, c56S3, c56S4, c56L0, c56S5, c56S6, c56S7, c56D0, r6, ro, hc0, r8]
      refine ⟨fun hq => ?_, fun hq => ?_⟩
      · refine bdW_built (cells := (segC ⟨obj, kind, []⟩ (.slice none 0 0)).toArray) (by kernel_rfl) ?_
        simp (disch := first | omega | exact okFill_t rfl | exact okSize_t rfl | exact fun h => h | (simp only [World.size_alloc, World.size_drew, World.size_setCell, size_fill, bytesW]; omega)) only [go_sem, c56, c56S0, c56S1, c56S3, c56S4, c56L0, c56S5, c56S6, c56S7]
        refine bsW_agg ty47mkI rfl (by decide) (by decide) ?_
        simp (disch := first | omega | exact okFill_t rfl | exact okSize_t rfl | exact fun h => h | (simp only [World.size_alloc, World.size_drew, World.size_setCell, size_fill, bytesW]; omega)) only [go_sem, c56, c56S0, c56S1, c56S3, c56S4, c56L0, c56S5, c56S6, c56S7]
        have hrd : Rd (w8.alloc (.cells (segC ⟨obj, kind, []⟩ (.slice none 0 0)).toArray 24)) 3 (.slice (some ⟨w8.heap.size, 0, none⟩) 1 1) 1 (segC ⟨obj, kind, []⟩ (.slice none 0 0)) := rd_new (t := 24) (sz := 3) (n := 1) (cs := (segC ⟨obj, kind, []⟩ (.slice none 0 0)).toArray) rfl
        refine (hc8.call (w' := w8.alloc (.cells (segC ⟨obj, kind, []⟩ (.slice none 0 0)).toArray 24)) ((Below.refl _ w8).alloc (Nat.le_refl _) _)).grow obj kind (by simp; omega) hrd ?_
        intro v9 w9 c9
        simp (disch := first | omega | exact okFill_t rfl | exact okSize_t rfl | exact fun h => h | (simp only [World.size_alloc, World.size_drew, World.size_setCell, size_fill, bytesW]; omega)) only [go_sem, c56, c56S0, c56S1, c56S3, c56S4, c56L0, c56S5, c56S6, c56S7]
        refine ⟨⟨by omega, by omega⟩, ?_⟩
        rw [show (ini.length : Int) + 1 = ((ini ++ [s]).length : Nat) by simp]
        refine push16 (ini := ini ++ [s]) l'[k] bo _ _ _ _ c9 (by simp; omega) (by simp) ?_
        intro w10 c10
        simp (disch := first | omega | exact okFill_t rfl | exact okSize_t rfl | exact fun h => h | (simp only [World.size_alloc, World.size_drew, World.size_setCell, size_fill, bytesW]; omega)) only [go_sem, c56, c56S0, c56S1, c56S2, c56S3, c56S4, c56L0, c56S5, c56S6, c56S7]
        refine ⟨⟨by omega, by omega⟩, (k + 1, _), rfl, ⟨by simp only; omega, ?_⟩, by simp only; omega⟩
        simp only
        rw [hstep, cutStep_new _ _ hq]
        exact c10
      · refine push16 l'[k] bo _ _ _ _ hc8 (by omega) (by omega) ?_
        intro w9 c9
        simp (disch := first | omega | exact okFill_t rfl | exact okSize_t rfl | exact fun h => h | (simp only [World.size_alloc, World.size_drew, World.size_setCell, size_fill, bytesW]; omega)) only [go_sem, c56, c56S0, c56S1, c56S2, c56S3, c56S4, c56L0, c56S5, c56S6, c56S7]
        refine ⟨⟨by omega, by omega⟩, (k + 1, _), rfl, ⟨by simp only; omega, ?_⟩, by simp only; omega⟩
        simp only
        rw [hstep, cutStep_old _ _ hq]
        exact c9
  · have hlt' : ¬ (k : Int) < l.length := by omega
    simp (disch := first | omega | exact okFill_t rfl | exact okSize_t rfl | exact fun h => h | (simp only [World.size_alloc, World.size_drew, World.size_setCell, size_fill, bytesW]; omega)) only [go_sem, c56, c56S0, c56S1, c56S2, c56S3, c56S4, c56L0, c56S5, c56S6, c56S7, hlt']
    have hkl : k = l'.length := by omega
    subst hkl
    rw [List.take_length] at ha
    subst ha
    have hflat := cut_flat (fun s o => s.ops.all fun x => before x o) (fun _ => (obj, kind)) l' []
    refine ⟨⟨l', hs, hc.out fun s hs => ?_⟩, hc.bel⟩
    have h1 := seg_len _ s hs
    rw [hflat] at h1
    simp only [List.flatMap_nil, List.nil_append] at h1
    omega
end Go.Proofs.Ytbeoedgoikcbpaa.Cut

namespace Go.Proofs.Ytbeoedgoikcbpaa.Cut
set_option linter.unusedSimpArgs false
set_option linter.unusedVariables false
set_option maxRecDepth 100000
open Go Go.Ann Go.RowKit
def idI (a b : OpT) : Int := cmpI a.ID b.ID
theorem least1_ok (a b : OpT) (w : World) : Ret Try.prog 59 [.agg a.enc.toArray, .agg b.enc.toArray] w fun u w' => u = .int .i64 (idI a b) ∧ Gr w w' := by
  refine ent59 _ _ _ _ ?_
  have ha := a.at; have hb := b.at
  simp (disch := first | omega | exact okFill_t rfl | exact okSize_t rfl | exact fun h => h | (simp only [World.size_alloc, World.size_drew, World.size_setCell, size_fill, bytesW]; omega)) only [go_sem, c59, c59S0, ha, hb]
  refine Ret.mono (compare_ok _ _ _) ?_
  rintro _ w2 ⟨rfl, e2⟩
  subst w2
  simp (disch := first | omega | exact okFill_t rfl | exact okSize_t rfl | exact fun h => h | (simp only [World.size_alloc, World.size_drew, World.size_setCell, size_fill, bytesW]; omega)) only [go_sem, c59, c59S0]
  exact ⟨rfl, ((Gr.refl w).alloc _).alloc _⟩
theorem id_neg (a b : OpT) : (idI a b < 0) = (a.ID < b.ID) := cmpI_neg _ _
theorem lt_id (a b : OpT) : ltOf idI a b = decide (a.ID < b.ID) := by
  unfold ltOf
  rw [decide_eq_decide, id_neg]
theorem idsort_ok (v : Value) (l : List OpT) (w : World) (B : Nat) (h : w.ownsRow B 58 11 v l.length (l.flatMap OpT.enc)) (hl : l.length ≤ 100) :
    Ret Try.prog 58 [v, .func (.func 59) #[] #[]] w fun _ w' => ∃ l', Sorts idI l l' ∧ w'.ownsRow B 58 11 v l.length (l'.flatMap OpT.enc) ∧ Chg (fun k => v.ownBlock = some k) w w' :=
  sort_ok idI _ (enters_of Try.func59 (by kernel_rfl) rfl) (by
    constructor
    all_goals intros
    all_goals simp only [lt_id, decide_eq_true_eq, decide_eq_false_iff_not] at *
    all_goals omega) least1_ok v l w B h hl
end Go.Proofs.Ytbeoedgoikcbpaa.Cut

namespace Go.Proofs.Ytbeoedgoikcbpaa
set_option linter.unusedSimpArgs false
set_option linter.unusedVariables false
set_option maxRecDepth 100000
open Go Go.Ann Go.RowKit
theorem valid1_ok (o : OpT) (b : Nat) (id : Int) (w : World) (hB : Blk w b #[.int .i64 id] 3) :
    Ret Try.prog 81 [.agg o.enc.toArray, .pointer (some ⟨b, 0, none⟩)] w fun u w' => u = .bool (decide (o.ID = id)) ∧ Below w.heap.size w w' := by
  have r := hB.rules
  have lb := hB.lt
  have ho := o.at
  refine ent81 _ _ _ _ ?_
  simp (disch := first | omega | exact okFill_t rfl | exact okSize_t rfl | exact fun h => h | (simp only [World.size_alloc, World.size_drew, World.size_setCell, size_fill, bytesW]; omega)) only [go_sem, c81, r, ho]
  exact (Below.refl _ _).alloc (Nat.le_refl _) _
theorem valid2_ok (p o : OpT) (b : Nat) (w : World) (hB : Blk w b o.enc.toArray 58) :
    Ret Try.prog 84 [.agg p.enc.toArray, .pointer (some ⟨b, 0, none⟩)] w fun u w' => u = .bool (before o p) ∧ Below w.heap.size w w' := by
  have r := hB.rules
  have lb := hB.lt
  refine ent84 _ _ _ _ ?_
  simp (disch := first | omega | exact okFill_t rfl | exact okSize_t rfl | exact fun h => h | (simp only [World.size_alloc, World.size_drew, World.size_setCell, size_fill, bytesW]; omega)) only [go_sem, c84, c84S0, r]
  refine Ret.mono (before_ok _ _ _) ?_
  rintro _ w2 ⟨rfl, b2⟩
  simp (disch := first | omega | exact okFill_t rfl | exact okSize_t rfl | exact fun h => h | (simp only [World.size_alloc, World.size_drew, World.size_setCell, size_fill, bytesW]; omega)) only [go_sem, c84, c84S0]
  exact Below.next ((Below.refl _ _).alloc (Nat.le_refl _) _) b2
end Go.Proofs.Ytbeoedgoikcbpaa

namespace Go.Proofs.Ytbeoedgoikcbpaa
set_option linter.unusedSimpArgs false
set_option linter.unusedVariables false
set_option maxRecDepth 100000
open Go Go.Ann Go.RowKit
def Inv.ops (D : List VL) : Inv := ⟨fun w => ∀ p ∈ D, RdS w 11 OpT.enc p.1 p.2, fun k => ∃ p ∈ D, slFoot p.1 k, fun w w' h hk p hp => RdS.loc (h p hp) fun k hf => hk k ⟨p, hp, hf⟩⟩
theorem ops_join {W0 w : World} {F : Nat → Prop} {L : List Res} {I : List Inv} {v : Value} {l : List OpT} {D : List VL} (h : St W0 w F L (Inv.rd 11 OpT.enc v l :: Inv.ops D :: I)) : St W0 w F L (Inv.ops (D ++ [(v, l)]) :: I) := by
  have h1 := h.inv _ (List.mem_cons_self ..)
  have h2 := h.inv (Inv.ops D) (List.mem_cons_of_mem _ (List.mem_cons_self ..))
  refine (h.inv_sub (I' := I) fun a ha => List.mem_cons_of_mem _ (List.mem_cons_of_mem _ ha)).keep _ (fun p hp => ?_) fun k hk => ?_
  · rcases List.mem_append.1 hp with hp | hp
    · exact h2.1 p hp
    · rw [List.mem_singleton] at hp; subst hp; exact h1.1
  · obtain ⟨p, hp, hk⟩ := hk
    rcases List.mem_append.1 hp with hp | hp
    · exact h2.2 k ⟨p, hp, hk⟩
    · rw [List.mem_singleton] at hp; subst hp; exact h1.2 k hk
theorem st_append' {P : Program} {W0 w : World} {F : Nat → Prop} {L : List Res} {I : List Inv} {K : Value → World → Prop} {t ty e sz bytes : Nat} {z : Value} {cs : Array Bool} {n m : Nat} {v x : Value} {xs ys : List Value} (h : St W0 w F L I) (i : Nat) (hi : L[i]? = some (.row v e sz n xs))
    (hm : mkI P t = some (e, sz, bytes, z)) (hzs : z.cells.size = sz) (hsz : 0 < sz) (hx : Rd w sz x m ys) (h1 : ∀ u ∈ ys, u.oneCell' = true) (hbytes : (n + m) * bytes ≤ 140737488355328) (h63 : n + m ≤ 9223372036854775807)
    (hK : ∀ v' w', St W0 w' F (L.set i (.row v' e sz (n + m) (xs ++ ys))) I → Chg (fun k => v.ownBlock = some k) w w' → (∀ k, v'.ownBlock = some k → v.ownBlock = some k ∨ w.heap.size ≤ k) → K v' w') : rawB P .append #[t, t] ty cs [v, x] w K := by
  have hr := h.row i hi
  obtain ⟨hl, a, c, rfl, hac, hcell⟩ := hx
  obtain ⟨a', cap', rfl, hac'⟩ := own_slice hr
  rcases Nat.eq_zero_or_pos m with hm0 | hm0
  · subst hm0
    have hy : ys = [] := List.eq_nil_of_length_eq_zero (by rw [hl]; simp)
    subst hy
    refine rawB_append0 hm hac' (hK _ _ ?_ (Chg.refl _ _) fun k hk => .inl hk)
    rw [List.append_nil, Nat.add_zero]
    have : L.set i (.row (.slice a' n cap') e sz n xs) = L := by
      apply List.ext_getElem?
      intro j
      rw [List.getElem?_set]
      split
      · rename_i e; subst e; rw [hi]; simp [(List.getElem?_eq_some_iff.1 hi).1]
      · rfl
    rw [this]; exact h
  · obtain ⟨ad, rfl, hc⟩ := hcell (by omega)
    refine rawB_append hm hzs hsz hr hl hc h1 hm0 hbytes h63 h.size ?_
    intro g cap w' hown hgr hg hlt
    have hn : ∀ k, (Value.slice (some ⟨g, 0, none⟩) (n + m) cap).ownBlock = some k → (Value.slice a' n cap').ownBlock = some k ∨ w.heap.size ≤ k := fun k hk => ?_
    refine hK _ _ (h.grow i hi hgr hown hn) ((Chg.refl _ w).grown hgr fun k hk _ => hk) hn
    simp only [Value.ownBlock, Option.some.injEq] at hk
    subst hk
    exact hg.imp id fun e => Nat.le_of_eq e.symm
theorem flat1 (l : List Value) : l.flatMap (fun u => [u]) = l := by simp
theorem seg_join {W0 w : World} {F : Nat → Prop} {L : List Res} {I : List Inv} {v : Value} {D : List VL} (h : St W0 w F L (Inv.rd 1 (fun u : Value => [u]) v (D.map Prod.fst) :: Inv.ops D :: I)) : St W0 w F L (Inv.segw v D :: I) := by
  have h1 := h.inv _ (List.mem_cons_self ..)
  have h2 := h.inv (Inv.ops D) (List.mem_cons_of_mem _ (List.mem_cons_self ..))
  refine (h.inv_sub (I' := I) fun a ha => List.mem_cons_of_mem _ (List.mem_cons_of_mem _ ha)).keep _ ⟨?_, h2.1⟩ fun k hk => ?_
  · have := h1.1
    show Rd w 1 v D.length (D.map Prod.fst)
    have h3 : Rd w 1 v (D.map Prod.fst).length ((D.map Prod.fst).flatMap fun u : Value => [u]) := this
    rwa [flat1, List.length_map] at h3
  · rcases hk with hk | hk
    · exact h1.2 k hk
    · exact h2.2 k hk
theorem sum17 : ∀ {ls : List (List OpT)}, (∀ l ∈ ls, l.length ≤ 16) → (ls.map fun l => l.length + 1).sum ≤ 17 * ls.length
  | [], _ => by simp
  | a :: ls, h => by
    have h1 := sum17 (ls := ls) fun l hl => h l (List.mem_cons_of_mem _ hl)
    have h2 := h a (List.mem_cons_self ..)
    rw [List.map_cons, List.sum_cons, List.length_cons]; omega
theorem undone_le (d : List Bool) : undone d ≤ d.length := List.count_le_length
theorem work_le {ls : List (List OpT)} (h : ∀ l ∈ ls, l.length ≤ 16) : work ls 0 (nextD ls 0) ≤ 17 * ls.length + 18 := by
  unfold work
  have h1 := sum17 (ls := ls.drop (0 + 1)) fun l hl => h l (List.mem_of_mem_drop hl)
  rw [List.length_drop] at h1
  have h2 := undone_le (nextD ls 0)
  have h3 : (nextD ls 0).length ≤ 16 := by
    unfold nextD
    rw [List.length_replicate]
    cases hl : ls[0]? with
    | none => simp
    | some l => exact h l (List.mem_of_getElem? hl)
  split <;> omega
theorem firstOk (K : Int) : StOk K 1 (firstP K) := by
  refine ⟨?_, ?_, ?_⟩
  · unfold firstP
    split
    · intro x hx; rw [List.mem_singleton] at hx; subst hx; constructor <;> decide
    · intro x hx; cases hx
  · unfold firstP
    split <;> simp
  · intro _
    unfold firstP
    split <;> simp
theorem gs0 {ls : List (List OpT)} (kind : Int) (h : ∀ l ∈ ls, l.length ≤ 16) (hn : ls.length ≤ 100) : GS ls kind 100000 (0, nextD ls 0, firstP kind) := by
  have g := firstOk kind
  refine ⟨fun l hl => nextD_len hl, g.1, ?_, g.2.2⟩
  have h1 := work_le h
  have h2 := g.2.1
  simp only; omega
def left0 (b : Int) : Int := if min b 32768 = -9223372036854775808 then 9223372036854775808 else min b 32768
theorem lw_left0 (b : Int) : lw (left0 b) = min b 32768 := by
  unfold lw left0
  split
  · split at * <;> omega
  · split at * <;> omega
def fs0 (b : Int) : FS := ⟨[], [], left0 b, []⟩
def segsOf (obj kind : Int) (l : List OpT) : List Seg := l.foldl (Cut.cutStep Cut.segQ fun _ => (obj, kind)) []
def LeastV (w' : World) (kind budget : Int) (segs : List Seg) (u : Value) : Prop :=
  ((∃ s ∈ segs, 16 < s.ops.length) ∧ u = .tuple #[.slice none 0 0, .bool false, .int .i64 34]) ∨
  ((∀ s ∈ segs, s.ops.length ≤ 16) ∧ ∃ ls : List (List OpT), ls.length = segs.length ∧ (∀ i (h : i < segs.length) (h' : i < ls.length), Cut.Sorts Cut.idI segs[i].ops ls[i]) ∧ ∃ r, findP ls (work ls 0 (nextD ls 0)) 0 (nextD ls 0) (firstP kind) (fs0 budget) = r ∧
    ((lw r.2.left < 0 ∧ u = .tuple #[.slice none 0 0, .bool false, .int .i64 35]) ∨
     (0 ≤ lw r.2.left ∧ r.1 = false ∧ u = .tuple #[.slice none 0 0, .bool false, .int .i64 0]) ∨
     (0 ≤ lw r.2.left ∧ r.1 = true ∧ ∃ iv, u = .tuple #[iv, .bool true, .int .i64 0] ∧ RdS w' 1 intE iv r.2.ids)))
theorem least_ok {w : World} {v : Value} {l : List OpT} {obj kind budget : Int} (h : RdS w 11 OpT.enc v l) (hl : l.length ≤ 100) (hK : ∀ o ∈ l, o.Kind = kind) (hw : ∀ o ∈ l, o.wf) (hb : I64 budget) :
    Ret Try.prog 27 [.agg #[.int .i64 obj, .int .i64 kind, v], .int .i64 budget] w fun u w' => (∃ l', Cut.Sorts Cut.earI l l' ∧ LeastV w' kind budget (segsOf obj kind l') u) ∧ Below w.heap.size w w' := by
  obtain ⟨a, c, rfl, _⟩ := h.form
  refine ent27 _ _ _ _ ?_
  have s1 := (St.start (W0 := w)).box #[.int .i64 obj, .int .i64 kind, .slice a l.length c] 24
  simp (disch := first | omega | exact okFill_t rfl | exact okSize_t rfl | exact fun h => h | (simp only [World.size_alloc, World.size_drew, World.size_setCell, size_fill, bytesW]; omega)) only [go_sem, c27, c27S0, c27S1, c27S2, c27S3, c27S4, c27L0, c27S5, c27S6, c27S7, c27S8, c27S9]
  refine mmW_map (κ := OKey) (enc := fun k : OKey => .agg (osE k).toArray) ?_
  have s2 := s1.lay (mapO (fun k : OKey => .agg (osE k).toArray) [])
  simp (disch := first | omega | exact okFill_t rfl | exact okSize_t rfl | exact fun h => h | (simp only [World.size_alloc, World.size_drew, World.size_setCell, size_fill, bytesW]; omega)) only [go_sem, c27, c27S0, c27S1, c27S2, c27S3, c27S4, c27L0, c27S5, c27S6, c27S7, c27S8, c27S9]
  refine bdW_built (cells := #[.slice none 0 0, .map (some (w.heap.size + 1)), .slice none 0 0, .int .i64 (min budget 32768)]) (by kernel_rfl) ?_
  simp (disch := first | omega | exact okFill_t rfl | exact okSize_t rfl | exact fun h => h | (simp only [World.size_alloc, World.size_drew, World.size_setCell, size_fill, bytesW]; omega)) only [go_sem, c27, c27S0, c27S1, c27S2, c27S3, c27S4, c27L0, c27S5, c27S6, c27S7, c27S8, c27S9]
  have s3 := s2.box #[.slice none 0 0, .map (some (w.heap.size + 1)), .slice none 0 0, .int .i64 (min budget 32768)] 99
  have hm : (w.alloc (.cells #[.int .i64 obj, .int .i64 kind, .slice a l.length c] 24)).heap.size = w.heap.size + 1 := by simp
  have hx : ((w.alloc (.cells #[.int .i64 obj, .int .i64 kind, .slice a l.length c] 24)).alloc (mapO (fun k : OKey => .agg (osE k).toArray) [])).heap.size = w.heap.size + 1 + 1 := by simp
  rw [hx, hm] at s3
  generalize hm' : w.heap.size + 1 = m at s3 ⊢
  generalize ((w.alloc (.cells #[.int .i64 obj, .int .i64 kind, .slice a l.length c] 24)).alloc (mapO (fun k : OKey => .agg (osE k).toArray) [])).alloc (.cells #[.slice none 0 0, .map (some m), .slice none 0 0, .int .i64 (min budget 32768)] 99) = w3 at s3 ⊢
  generalize hb' : w.heap.size = b at s3 ⊢
  have r3 := s3.rules 2 rfl
  simp (disch := first | omega | exact okFill_t rfl | exact okSize_t rfl | exact fun h => h | (simp only [World.size_alloc, World.size_drew, World.size_setCell, size_fill, bytesW]; omega)) only [go_sem, c27, c27S0, c27S1, c27S2, c27S3, c27S4, c27L0, c27S6, c27S7, c27S8, c27S10, r3]
  refine Ret.mono (Cut.segments_ok obj kind _ l _ (h.below s3.bel (by decide)) hl) ?_
  rintro sv w4 ⟨⟨l', hs, hsg⟩, b4⟩
  have hsg : ∀ w2 : World, (∀ k, w3.heap.size ≤ k → k < w4.heap.size → w2.heap[k]? = w4.heap[k]?) → RdR w2 3 Cut.segR sv (segsOf obj kind l') := hsg
  have hseg := hsg w4 fun _ _ _ => rfl
  have s4 := s3.call b4
  have hmx : m + 1 < w3.heap.size := (s3.low 0 rfl).2
  obtain ⟨pa, pc, rfl, _⟩ := hseg.form
  simp (disch := first | omega | exact okFill_t rfl | exact okSize_t rfl | exact fun h => h | (simp only [World.size_alloc, World.size_drew, World.size_setCell, size_fill, bytesW]; omega)) only [go_sem, c27, c27S0, c27S1, c27S2, c27S3, c27S4, c27L0, c27S6, c27S7, c27S8, c27S10]
  have hlen : (segsOf obj kind l').length ≤ l.length := by
    have h1 := Cut.segs_len (segsOf obj kind l') (Cut.cut_ne Cut.segQ (fun _ => (obj, kind)) l' [] fun s hs => by cases hs)
    have h2 : (segsOf obj kind l').flatMap Seg.ops = l' := by unfold segsOf; rw [Cut.cut_flat]; rfl
    rw [h2, hs.1.length_eq] at h1
    exact h1
  have hsl : ∀ s ∈ segsOf obj kind l', s.ops.length ≤ 100 := fun s hs' => by
    have h1 := Cut.seg_len _ s hs'
    have h2 : (segsOf obj kind l').flatMap Seg.ops = l' := by unfold segsOf; rw [Cut.cut_flat]; rfl
    rw [h2, hs.1.length_eq] at h1
    omega
  have hmem : ∀ s ∈ segsOf obj kind l', ∀ o ∈ s.ops, o ∈ l := fun s hs' o ho => by
    have h2 : (segsOf obj kind l').flatMap Seg.ops = l' := by unfold segsOf; rw [Cut.cut_flat]; rfl
    have : o ∈ (segsOf obj kind l').flatMap Seg.ops := List.mem_flatMap.2 ⟨s, hs', ho⟩
    rw [h2] at this
    exact hs.1.mem_iff.1 this
  have fin : ∀ {u : Value} {w' : World}, LeastV w' kind budget (segsOf obj kind l') u → Below w.heap.size w w' → (∃ l', Cut.Sorts Cut.earI l l' ∧ LeastV w' kind budget (segsOf obj kind l') u) ∧ Below b w w' := fun h1 h2 => ⟨⟨l', hs, h1⟩, hb' ▸ h2⟩
  generalize segsOf obj kind l' = segs at hseg hsg hlen hsl hmem fin ⊢
  have s4 := s4.nilRow 22 1
  have s5 : St w w4 (fun _ => False) [.row (.slice none 0 0) 22 1 0 [], .blk (m + 1) #[.slice none 0 0, .map (some m), .slice none 0 0, .int .i64 (min budget 32768)] 99, .obj m (mapO (fun k : OKey => .agg (osE k).toArray) []), .blk b #[.int .i64 obj, .int .i64 kind, .slice a l.length c] 24] [Inv.ops []] :=
    s4.keep (Inv.ops []) (fun p hp => by cases hp) fun k hk => by obtain ⟨p, hp, _⟩ := hk; cases hp
  simp (disch := first | omega | exact okFill_t rfl | exact okSize_t rfl | exact fun h => h | (simp only [World.size_alloc, World.size_drew, World.size_setCell, size_fill, bytesW]; omega)) only [go_sem, c27, c27S0, c27S1, c27S2, c27S3, c27S4, c27S5, c27S6, c27S7, c27S8, c27S9, c27S10]
  refine W_loopU (fun q : Nat × Value × List VL => [(20, .int .i64 q.1)]) (fun q w' => St w w' (fun _ => False) [.row q.2.1 22 1 q.2.2.length (q.2.2.map Prod.fst), .blk (m + 1) #[q.2.1, .map (some m), .slice none 0 0, .int .i64 (min budget 32768)] 99, .obj m (mapO (fun k : OKey => .agg (osE k).toArray) []), .blk b #[.int .i64 obj, .int .i64 kind, .slice a l.length c] 24] [Inv.ops q.2.2] ∧
    Chg (fun j => j < w3.heap.size) w4 w' ∧ (∀ j, q.2.1.ownBlock = some j → w4.heap.size ≤ j) ∧ q.2.2.length = q.1 ∧ q.1 ≤ segs.length ∧ ∀ i (h : i < segs.length) (h' : i < q.2.2.length), i < q.1 → Cut.Sorts Cut.idI segs[i].ops q.2.2[i].2 ∧ segs[i].ops.length ≤ 16) (fun q => segs.length - q.1) (0, .slice none 0 0, []) rfl ⟨s5, Chg.refl _ _, (fun j hj => by cases hj), rfl, Nat.zero_le _, fun i _ _ h => by omega⟩ ?_
  clear s5 s4
  rintro ⟨k, lv, D⟩ w5 ⟨s5, b5, hlv, hDl, hk, hinv⟩
  simp only at s5 b5 hlv hDl hk hinv
  obtain ⟨la, lc, rfl, _⟩ := own_slice (s5.row 0 rfl)
  by_cases hlt : k < segs.length
  · have hlt' : (k : Int) < segs.length := by omega
    obtain ⟨pp, rfl⟩ := hseg.ptr (by omega)
    have hr5 := hsg w5 fun j h1 h2 => b5.block j h2 (by omega)
    obtain ⟨ck, hckl, ⟨vk, rfl, hvk, hlk⟩, hldk, ek⟩ := hr5.elt (by decide) hlt
    obtain ⟨ka, kc, rfl, _⟩ := hvk.form
    simp (disch := first | omega | exact okFill_t rfl | exact okSize_t rfl | exact fun h => h | (simp only [World.size_alloc, World.size_drew, World.size_setCell, size_fill, bytesW]; omega)) only [go_sem, c27, c27S0, c27S1, c27S3, c27S4, c27L0, c27S5, c27S6, c27S7, c27S8, c27S9, c27S10, c27L0, hlt', hldk]
    have s6 := s5.box #[.int .i64 segs[k].obj, .int .i64 segs[k].kind, .slice ka segs[k].ops.length kc] 24
    have r6 := s6.rules 0 rfl
    refine ⟨by omega, fun hgt => fin (.inl ⟨⟨_, List.getElem_mem hlt, by omega⟩, rfl⟩) s6.bel, fun hle => ?_⟩
    have hvk6 : RdS _ 11 OpT.enc _ _ := hvk.below ((Below.refl _ w5).alloc (Nat.le_refl _) (.cells #[.int .i64 segs[k].obj, .int .i64 segs[k].kind, .slice ka segs[k].ops.length kc] 24)) (by decide)
    have b6 := b5.alloc (.cells #[.int .i64 segs[k].obj, .int .i64 segs[k].kind, .slice ka segs[k].ops.length kc] 24)
    generalize w5.alloc (.cells #[.int .i64 segs[k].obj, .int .i64 segs[k].kind, .slice ka segs[k].ops.length kc] 24) = w6 at s6 r6 hvk6 b6 ⊢
    generalize w5.heap.size = y at s6 r6 ⊢
    simp (disch := first | omega | exact okFill_t rfl | exact okSize_t rfl | exact fun h => h | (simp only [World.size_alloc, World.size_drew, World.size_setCell, size_fill, bytesW]; omega)) only [go_sem, c27, c27S0, c27S2, c27S3, c27S4, c27L0, c27S5, c27S6, c27S7, c27S8, c27S9, c27S10, r6]
    refine Ret.mono (Cut.clone_ok _ _ _ hvk6 (by omega)) ?_
    rintro v7 w7 ⟨o7, b7⟩
    have s7 := s6.add b7 (.row v7 58 11 segs[k].ops.length (segs[k].ops.flatMap OpT.enc)) (own_mono o7 s6.size) fun j hj => (o7.lt j hj).1
    simp (disch := first | omega | exact okFill_t rfl | exact okSize_t rfl | exact fun h => h | (simp only [World.size_alloc, World.size_drew, World.size_setCell, size_fill, bytesW]; omega)) only [go_sem, c27, c27S1, c27S2, c27S3, c27S4, c27L0, c27S5, c27S6, c27S7, c27S8, c27S9, c27S10]
    refine Ret.mono (Cut.idsort_ok v7 segs[k].ops w7 _ (s7.row 0 rfl) (by omega)) ?_
    rintro _ w8 ⟨l8, hs8, o8, c8⟩
    have b48 : Chg (fun j => j < w3.heap.size) w4 w8 := (b6.next (Chg.of_below b7) (fun _ _ h => h)).next c8 fun j hj hS => by have := (o7.lt j hS).1; have := b6.size; omega
    have s8 := s7.upd 0 rfl c8 (.row v7 58 11 segs[k].ops.length (l8.flatMap OpT.enc)) o8 fun j hj => .inl hj
    simp only [List.set_cons_zero] at s8
    have s9 := s8.seal (.rd 11 OpT.enc v7 l8) (RdS.of_own' (s8.row 0 rfl) l8 hs8.1.length_eq.symm rfl) fun j hj => slFoot_own hj
    have s10 := ops_join s9
    obtain ⟨a7, c7, rfl, _⟩ := own_slice o7
    clear s9 s8 s7 s6 o8
    have r10 := s10.rules 2 rfl
    simp (disch := first | omega | exact okFill_t rfl | exact okSize_t rfl | exact fun h => h | (simp only [World.size_alloc, World.size_drew, World.size_setCell, size_fill, bytesW]; omega)) only [go_sem, c27, c27S0, c27S1, c27S2, c27S3, c27S4, c27L0, c27S5, c27S6, c27S7, c27S8, c27S9, c27S10, r10]
    have ones : ∀ u ∈ [Value.slice a7 segs[k].ops.length c7], u.oneCell' = true := fun u hu => by rw [List.mem_singleton] at hu; subst hu; rfl
    refine bsW_ones ty97mkI rfl rfl (by decide) (by decide) ones ?_
    have hx : Rd (w8.alloc (.cells #[.slice a7 segs[k].ops.length c7] 22)) 1 (.slice (some ⟨w8.heap.size, 0, none⟩) 1 1) 1 [.slice a7 segs[k].ops.length c7] := rd_new (n := 1) (cs := #[.slice a7 segs[k].ops.length c7]) rfl
    simp (disch := first | omega | exact okFill_t rfl | exact okSize_t rfl | exact fun h => h | (simp only [World.size_alloc, World.size_drew, World.size_setCell, size_fill, bytesW]; omega)) only [go_sem, c27, c27S0, c27S1, c27S2, c27S3, c27S4, c27L0, c27S5, c27S6, c27S7, c27S8, c27S9, c27S10]
    refine st_append' (s10.alloc' (.cells #[.slice a7 segs[k].ops.length c7] 22)) 1 rfl ty97mkI rfl (by decide) hx ones (by omega) (by omega) ?_
    intro v11 w11 s11 c11 n11
    simp only [List.set_cons_zero, List.set_cons_succ] at s11
    obtain ⟨a11, d11, rfl, _⟩ := own_slice (s11.row 1 rfl)
    have r11 := s11.rules 2 rfl
    simp (disch := first | omega | exact okFill_t rfl | exact okSize_t rfl | exact fun h => h | (simp only [World.size_alloc, World.size_drew, World.size_setCell, size_fill, bytesW]; omega)) only [go_sem, c27, c27S0, c27S1, c27S2, c27S3, c27S4, c27L0, c27S5, c27S6, c27S7, c27S8, c27S9, c27S10, r11]
    have b11 : Chg (fun j => j < w3.heap.size) w4 (w11.setCell ⟨m + 1, 0, none⟩ (.slice a11 (D.length + 1) d11)) := ((b48.alloc (.cells #[.slice a7 segs[k].ops.length c7] 22)).next c11 fun j hj hS => by have := hlv j hS; omega).setCell _ _ fun _ => hmx
    have s12 := s11.set 2 rfl 0 (.slice a11 (D.length + 1) d11)
    generalize w11.setCell ⟨m + 1, 0, none⟩ (.slice a11 (D.length + 1) d11) = w12 at s12 b11 ⊢
    refine ⟨⟨by omega, by omega⟩, (k + 1, .slice a11 (D.length + 1) d11, D ++ [(.slice a7 segs[k].ops.length c7, l8)]), rfl, ⟨?_, b11, ?_, by simp only [List.length_append, List.length_singleton]; omega, by simp only; omega, ?_⟩, by simp only; omega⟩
    · simp only [List.length_append, List.length_singleton, List.map_append, List.map_cons, List.map_nil]
      exact s12.sub (List.sublist_cons_self _ _)
    · intro j hj
      rcases n11 j hj with h | h
      · exact hlv j h
      · have := b48.size; simp at h; omega
    · intro i hi hi' hik
      simp only [List.length_append, List.length_singleton] at hi' hik ⊢
      rcases Nat.lt_or_ge i k with h1 | h1
      · have := hinv i hi (by omega) h1
        rw [List.getElem_append_left (by omega)]
        exact this
      · obtain rfl : i = k := by omega
        rw [List.getElem_append_right (by omega)]
        simp only [hDl, Nat.sub_self, List.getElem_cons_zero]
        exact ⟨hs8, by omega⟩
  · have hlt' : ¬ (k : Int) < segs.length := by omega
    have r6 := s5.rules 3 rfl
    simp (disch := first | omega | exact okFill_t rfl | exact okSize_t rfl | exact fun h => h | (simp only [World.size_alloc, World.size_drew, World.size_setCell, size_fill, bytesW]; omega)) only [go_sem, c27, c27S0, c27S1, c27S2, c27S3, c27S4, c27L0, c27S5, c27S6, c27S7, c27S8, c27S9, c27S10, c27L0, hlt', r6]
    obtain rfl : k = segs.length := by omega
    refine Ret.mono (mfirst_ok kind w5) ?_
    rintro fv w6 ⟨⟨hf6, ff6⟩, b6⟩
    have s6 := s5.call b6
    have hrow : RdS w6 1 (fun u : Value => [u]) (.slice la D.length lc) (D.map Prod.fst) := RdS.of_own' (s6.row 0 rfl) (D.map Prod.fst) (by simp) (flat1 _).symm
    have s7 := ((s5.addRd b6 hf6 (by decide) fun j hj => .inr (.inr (ff6 j hj))).seal (.rd 1 (fun u : Value => [u]) (.slice la D.length lc) (D.map Prod.fst)) hrow fun j hj => slFoot_own hj).inv_sub (I' := [Inv.rd 1 (fun u : Value => [u]) (.slice la D.length lc) (D.map Prod.fst), Inv.ops D, Inv.rd 1 intE fv (firstP kind)]) fun a ha => by
      simp only [List.mem_cons, List.not_mem_nil, or_false] at ha ⊢
      rcases ha with h | h | h
      · exact .inl h
      · exact .inr (.inr h)
      · exact .inr (.inl h)
    have s8 := (seg_join s7).inv_sub (I' := [Inv.rd 1 intE fv (firstP kind), Inv.segw (.slice la D.length lc) D]) fun a ha => by
      simp only [List.mem_cons, List.not_mem_nil, or_false] at ha ⊢
      exact ha.symm
    have s9 := s8.nilRow 3 1
    obtain ⟨ls, hls⟩ : ∃ ls, D.map Prod.snd = ls := ⟨_, rfl⟩
    have hll : ls.length = segs.length := by rw [← hls, List.length_map, hDl]
    have hso : ∀ i (h : i < segs.length) (h' : i < ls.length), Cut.Sorts Cut.idI segs[i].ops ls[i] ∧ segs[i].ops.length ≤ 16 := fun i h h' => by
      have := hinv i h (by omega) h
      subst hls
      simpa using this
    have h16 : ∀ l ∈ ls, l.length ≤ 16 := fun x hx => by
      obtain ⟨i, hi, rfl⟩ := List.mem_iff_getElem.1 hx
      obtain ⟨h1, h2⟩ := hso i (by omega) hi
      rw [h1.1.length_eq]; exact h2
    have hin : ∀ l' ∈ ls, ∀ o ∈ l', o ∈ l := fun x hx o ho => by
      obtain ⟨i, hi, rfl⟩ := List.mem_iff_getElem.1 hx
      obtain ⟨h1, h2⟩ := hso i (by omega) hi
      exact hmem _ (List.getElem_mem (show i < segs.length by omega)) o (h1.1.mem_iff.1 ho)
    have hwk := work_le h16
    have s10 : St w w6 (fun _ => False) (FL (m + 1) m (.slice la D.length lc) (.slice none 0 0) (fs0 budget) ++ [.blk b #[.int .i64 obj, .int .i64 kind, .slice a l.length c] 24]) (Inv.rd 1 intE fv (firstP kind) :: Inv.segw (.slice la D.length lc) D :: []) := by
      unfold FL fs0
      simp only [lw_left0]
      exact s9.perm (List.Perm.swap _ _ _)
    obtain ⟨fa, fc, rfl, _⟩ := hf6.form
    have hfind := find_ok (M := 100000) hls h16 (fun x hx o ho => hK o (hin x hx o ho)) (fun x hx o ho => hw o (hin x hx o ho)) (by omega) (by omega) (work ls 0 (nextD ls 0)) 0 (nextD ls 0) (firstP kind) (fs0 budget) w w6 _ _ _ (.slice none 0 0) _ (Nat.le_refl _) (by omega) s10 (gs0 kind h16 (by omega)) (Nat.zero_le _) (fun p hp => by cases hp) (by show _ < left0 budget; unfold left0; have := hb.1; split <;> omega) (by show left0 budget ≤ _; unfold left0; have := hb.2; split <;> omega) (by show 0 + _ ≤ _; omega)
    have e0 : (maskN (nextD ls 0) : Int) = 0 := by unfold nextD; rw [maskN_none]; rfl
    rw [e0] at hfind
    simp (disch := first | omega | exact okFill_t rfl | exact okSize_t rfl | exact fun h => h | (simp only [World.size_alloc, World.size_drew, World.size_setCell, size_fill, bytesW]; omega)) only [go_sem, c27, c27S0, c27S1, c27S2, c27S3, c27S4, c27L0, c27S5, c27S6, c27S7, c27S8, c27S9, c27S10]
    refine Ret.mono hfind ?_
    rintro _ w11 ⟨iv, rfl, s11⟩
    obtain ⟨r, hr⟩ : ∃ r, findP ls (work ls 0 (nextD ls 0)) 0 (nextD ls 0) (firstP kind) (fs0 budget) = r := ⟨_, rfl⟩
    rw [hr] at s11 ⊢
    have r11 := s11.rules 0 rfl
    have hle : ∀ s ∈ segs, s.ops.length ≤ 16 := fun s hs' => by
      obtain ⟨i, hi, rfl⟩ := List.mem_iff_getElem.1 hs'
      exact (hso i hi (by omega)).2
    have out : ∀ {u : Value}, ((lw r.2.left < 0 ∧ u = .tuple #[.slice none 0 0, .bool false, .int .i64 35]) ∨ (0 ≤ lw r.2.left ∧ r.1 = false ∧ u = .tuple #[.slice none 0 0, .bool false, .int .i64 0]) ∨ (0 ≤ lw r.2.left ∧ r.1 = true ∧ ∃ iv, u = .tuple #[iv, .bool true, .int .i64 0] ∧ RdS w11 1 intE iv r.2.ids)) → LeastV w11 kind budget segs u :=
      fun h => .inr ⟨hle, ls, hll, fun i h h' => (hso i h h').1, r, hr, h⟩
    simp (disch := first | omega | exact okFill_t rfl | exact okSize_t rfl | exact fun h => h | (simp only [World.size_alloc, World.size_drew, World.size_setCell, size_fill, bytesW]; omega)) only [go_sem, c27, c27S0, c27S1, c27S2, c27S3, c27S4, c27L0, c27S5, c27S6, c27S7, c27S8, c27S9, c27S10, r11]
    refine ⟨fun hneg => fin (out (.inl ⟨hneg, rfl⟩)) s11.bel, fun hpos => ⟨fun hno => fin (out (.inr (.inl ⟨hpos, ?_, rfl⟩))) s11.bel, fun hyes => ?_⟩⟩
    · simpa using hno
    · have hrow11 := s11.row 1 rfl
      obtain ⟨ia, ic, rfl, _⟩ := own_slice hrow11
      simp (disch := first | omega | exact okFill_t rfl | exact okSize_t rfl | exact fun h => h | (simp only [World.size_alloc, World.size_drew, World.size_setCell, size_fill, bytesW]; omega)) only [go_sem, c27, c27S0, c27S1, c27S2, c27S3, c27S4, c27L0, c27S5, c27S6, c27S7, c27S8, c27S9, c27S10, r11]
      exact fin (out (.inr (.inr ⟨hpos, by simpa using hyes, _, rfl, RdS.of_own' hrow11 r.2.ids rfl rfl⟩))) s11.bel
end Go.Proofs.Ytbeoedgoikcbpaa

namespace Go.Proofs.Ytbeoedgoikcbpaa
set_option linter.unusedSimpArgs false
set_option linter.unusedVariables false
set_option maxRecDepth 100000
open Go Go.Ann Go.RowKit
structure Ordered (l L : List OpT) : Prop where
  sub : ∀ o ∈ L, o ∈ l
  nd : (L.map OpT.ID).Nodup
  late : ∀ i j (hi : i < L.length) (hj : j < L.length), i < j → before L[j] L[i] = false
  all : ∀ o ∈ l, o.Done = true → o ∈ L
theorem ids_ne {L : List OpT} (h : (L.map OpT.ID).Nodup) {i j : Nat} (hi : i < L.length) (hj : j < L.length) (hij : i ≠ j) : ¬ L[i].ID = L[j].ID := fun e => by
  have := (List.getElem_inj h (i := i) (j := j) (h₀ := by simpa using hi) (h₁ := by simpa using hj)).1 (by simpa using e)
  exact hij this
theorem firstI_id {l : List OpT} (hl : (l.map OpT.ID).Nodup) {k : Nat} (hk : k < l.length) : Cut.firstI (fun o => decide (o.ID = l[k].ID)) l = k :=
  Cut.firstI_at hk (by simp) fun j hj hjk => by simpa using ids_ne hl hj hk (by omega)
end Go.Proofs.Ytbeoedgoikcbpaa
