/- Texts put together by program. -/
import Derived.Test.YtmchjbgobiagiaaQF3
namespace Go.Proofs.Ytmchjbgobiagiaa
set_option linter.unusedSimpArgs false
set_option linter.unusedVariables false
set_option maxRecDepth 100000
open Go Go.Ann Go.RowKit Go.WideShapes Go.Shelf
def writesN (s : Sto) (l : List Pge) : Sto := l.foldl (fun s p => (stWrite s p.1 p.2).1) s
def putP (P : List (List UInt8)) (p : Pge) : List (List UInt8) := if 0 ≤ p.1 ∧ p.1 < (P.length : Int) ∧ p.2.length ≤ 256 then P.set p.1.toNat (filledL p.2) else P
def lastP (P : List (List UInt8)) (l : List Pge) : List (List UInt8) := l.foldl putP P
theorem writesN_snoc (s : Sto) (l : List Pge) (p : Pge) : writesN s (l ++ [p]) = (stWrite (writesN s l) p.1 p.2).1 := by unfold writesN; rw [List.foldl_append]; rfl
theorem Good.writes {s : Sto} {P : List (List UInt8)} (g : Good s P) (l : List Pge) : Good (writesN s l) P ∧ (writesN s l).hd = s.hd ∧ (writesN s l).disk = s.disk ∧ pgs (writesN s l) = lastP (pgs s) l := by
  unfold writesN lastP
  induction l generalizing s with
  | nil => exact ⟨g, rfl, rfl, rfl⟩
  | cons p l ih =>
    rw [List.foldl_cons, List.foldl_cons]
    obtain ⟨g1, g2, g3, g4⟩ := g.write p.1 p.2
    obtain ⟨h1, h2, h3, h4⟩ := ih g1
    refine ⟨h1, h2.trans g2, h3.trans g3, h4.trans ?_⟩
    rw [g4]
    unfold putP
    rw [pgs_len]
section
variable {W0 w : World} {F : Nat → Prop} {L : List Res} {I : List Inv} {b mb g : Nat} {vb vl v : Value} {s : Sto} {l : List Pge} {P : List (List UInt8)}
theorem writes_ok (h : St W0 w F (StoL b mb g vb vl s ++ L) (.rd 2 pendV v l :: I)) (hl : (l.length : Int) ≤ 9223372036854775807) :
    Ret Try.prog 23 [.pointer (some ⟨b, 0, none⟩), v] w fun u w' => u = .tuple #[] ∧ St W0 w' F (StoL b mb g vb vl (writesN s (l.take 30)) ++ L) (.rd 2 pendV v l :: I) := by
  obtain ⟨a, c, rfl, hac⟩ := (h.rd 0 rfl).form
  refine ent23 _ _ _ _ ?_
  simp (disch := first | omega | exact okFill_t rfl | exact okSize_t rfl | exact fun h => h | (simp only [World.size_alloc, World.size_drew, World.size_setCell, size_fill, bytesW]; omega)) only [go_sem, c23, c23S0, c23S1]
  refine W_loopU (fun k : Nat => [(4, .int .i64 k)]) (fun k w' => k ≤ l.length ∧ k ≤ 30 ∧ St W0 w' F (StoL b mb g vb vl (writesN s (l.take k)) ++ L) (.rd 2 pendV (.slice a l.length c) l :: I)) (fun k => 30 - k) 0 rfl ⟨Nat.zero_le _, Nat.zero_le _, h⟩ ?_
  clear h
  rintro k w1 ⟨hk1, hk2, s1⟩
  have hR := s1.rd 0 rfl
  by_cases hlt : k < l.length ∧ k < 30
  · obtain ⟨h1, h2⟩ := hlt
    have h1' : (k : Int) < l.length := by omega
    have h2' : (k : Int) < 30 := by omega
    obtain ⟨q, rfl⟩ := hR.ptr (by omega)
    simp (disch := first | omega | exact okFill_t rfl | exact okSize_t rfl | exact fun h => h | (simp only [World.size_alloc, World.size_drew, World.size_setCell, size_fill, bytesW]; omega)) only [go_sem, c23, c23S0, c23S1, c23L0, c23L0, h1', h2']
    refine c23draw0 (Same (fun k => k = q.block) _) (Same.refl _ _) ?_
    have s2 := s1.drew
    have hR2 := s2.rd 0 rfl
    have d0 := hR2.elt pendV_len (by decide) h1
    generalize w1.drew = w2 at s2 d0 ⊢
    simp (disch := first | omega | exact okFill_t rfl | exact okSize_t rfl | exact fun h => h | (simp only [World.size_alloc, World.size_drew, World.size_setCell, size_fill, bytesW]; omega)) only [go_sem, c23, c23S0, c23S1, c23L0, c23D0, h1', d0, pendV]
    refine ⟨by omega, by omega, heldS_held (show (q.add (k * 2)).block = q.block by rw [add_block]) ?_⟩
    simp (disch := first | omega | exact okFill_t rfl | exact okSize_t rfl | exact fun h => h | (simp only [World.size_alloc, World.size_drew, World.size_setCell, size_fill, bytesW]; omega)) only [go_sem, c23, c23S0, c23S1, c23L0, d0, pendV]
    refine ⟨Same.refl _ _, Ret.mono (swrite_ok l[k].1 l[k].2 s2) ?_⟩
    rintro _ w3 ⟨rfl, s3⟩
    simp (disch := first | omega | exact okFill_t rfl | exact okSize_t rfl | exact fun h => h | (simp only [World.size_alloc, World.size_drew, World.size_setCell, size_fill, bytesW]; omega)) only [go_sem, c23, c23S0, c23S1, c23L0]
    refine ⟨by constructor <;> omega, k + 1, rfl, ⟨by omega, by omega, ?_⟩, by omega⟩
    rw [List.take_succ_eq_append_getElem h1, writesN_snoc]
    exact s3
  · have fin : l.take 30 = l.take k := by
      by_cases h1 : k < l.length
      · congr 1; omega
      · rw [List.take_of_length_le (by omega), List.take_of_length_le (by omega)]
    by_cases h1 : k < l.length
    · have h1' : (k : Int) < l.length := by omega
      have h2' : ¬ (k : Int) < 30 := by omega
      simp (disch := first | omega | exact okFill_t rfl | exact okSize_t rfl | exact fun h => h | (simp only [World.size_alloc, World.size_drew, World.size_setCell, size_fill, bytesW]; omega)) only [go_sem, c23, c23S0, c23S1, c23L0, c23L0, h1', h2']
      rw [fin]; exact s1
    · have h1' : ¬ (k : Int) < l.length := by omega
      simp (disch := first | omega | exact okFill_t rfl | exact okSize_t rfl | exact fun h => h | (simp only [World.size_alloc, World.size_drew, World.size_setCell, size_fill, bytesW]; omega)) only [go_sem, c23, c23S0, c23S1, c23L0, c23L0, h1']
      rw [fin]; exact s1
theorem texts_ok (x y : List (List UInt8)) (va vc : Value) (w : World) (ha : RdS w 1 strE va x) (hb : RdS w 1 strE vc y) (h1 : (x.length : Int) ≤ 9223372036854775807) :
    Ret Try.prog 26 [va, vc] w fun u w' => u = .bool (decide (x = y)) ∧ Below w.heap.size w w' := by
  obtain ⟨a, c, rfl, hac⟩ := ha.form
  obtain ⟨a', c', rfl, hac'⟩ := hb.form
  refine ent26 _ _ _ _ ?_
  simp (disch := first | omega | exact okFill_t rfl | exact okSize_t rfl | exact fun h => h | (simp only [World.size_alloc, World.size_drew, World.size_setCell, size_fill, bytesW]; omega)) only [go_sem, c26, c26S0, c26S1, c26S2, c26S3, c26S4]
  refine ⟨fun h => ⟨by rw [eq_comm, decide_eq_false_iff_not]; intro e; rw [e] at h; exact h rfl, Below.refl _ _⟩, fun hlen => ?_⟩
  have hlen : x.length = y.length := by omega
  refine W_loopU (fun k : Nat => [(5, .int .i64 k)]) (fun k w' => k ≤ x.length ∧ x.take k = y.take k ∧ Below w.heap.size w w') (fun k => x.length - k) 0 rfl ⟨Nat.zero_le _, by simp, Below.refl _ _⟩ ?_
  rintro k w1 ⟨hk, hpre, b1⟩
  by_cases hlt : k < x.length
  · have hlt' : (k : Int) < x.length := by omega
    have hlt2 : k < y.length := by omega
    have hlt2' : (k : Int) < y.length := by omega
    obtain ⟨p, rfl⟩ := ha.ptr (by omega)
    obtain ⟨q, rfl⟩ := hb.ptr (by omega)
    have eX := RdS.at1 (e1 := fun s => .string (ofL s)) (ha.below (b1.drew) (by decide)) hlt
    have eY := RdS.at1 (e1 := fun s => .string (ofL s)) (hb.below (b1.drew) (by decide)) hlt2
    simp (disch := first | omega | exact okFill_t rfl | exact okSize_t rfl | exact fun h => h | (simp only [World.size_alloc, World.size_drew, World.size_setCell, size_fill, bytesW]; omega)) only [go_sem, c26, c26S0, c26S1, c26S2, c26L0, c26S3, c26S4, c26L0, hlt', hlt2']
    refine c26draw0 ?_
    generalize hw : w1.drew = w2 at eX eY
    have b2 : Below w.heap.size w w2 := hw ▸ b1.drew
    simp (disch := first | omega | exact okFill_t rfl | exact okSize_t rfl | exact fun h => h | (simp only [World.size_alloc, World.size_drew, World.size_setCell, size_fill, bytesW]; omega)) only [go_sem, c26, c26S0, c26S1, c26S2, c26L0, c26S3, c26S4, c26D0, hlt', hlt2', eX, eY]
    refine ⟨by omega, by omega, fun h => ⟨?_, b2⟩, fun h => ⟨by constructor <;> omega, k + 1, rfl, ⟨by omega, ?_, b2⟩, by omega⟩⟩
    · rw [eq_comm, decide_eq_false_iff_not]
      intro e
      have h' := of_decide_eq_true h
      subst e
      exact h' rfl
    · have h' : x[k] = y[k] := Decidable.not_not.1 (of_decide_eq_false h)
      rw [List.take_succ_eq_append_getElem hlt, List.take_succ_eq_append_getElem hlt2, hpre, h']
  · have hlt' : ¬ (k : Int) < x.length := by omega
    simp (disch := first | omega | exact okFill_t rfl | exact okSize_t rfl | exact fun h => h | (simp only [World.size_alloc, World.size_drew, World.size_setCell, size_fill, bytesW]; omega)) only [go_sem, c26, c26S0, c26S1, c26S2, c26L0, c26S3, c26S4, c26L0, hlt']
    rw [List.take_of_length_le (by omega), List.take_of_length_le (by omega)] at hpre
    exact ⟨by rw [hpre]; simp, b1⟩
theorem all_ok (h : St W0 w F (StoL b mb g vb vl s ++ L) I) (ok : s.ok) (hd : s.dead = false) (hg : s.disk.gone = false) :
    Ret Try.prog 25 [.pointer (some ⟨b, 0, none⟩)] w fun u w' => St W0 w' F (StoL b mb g vb vl s ++ (.row u 9 1 (pgs s).length ((pgs s).flatMap strE) :: L)) I := by
  refine ent25 _ _ _ ?_
  simp (disch := first | omega | exact okFill_t rfl | exact okSize_t rfl | exact fun h => h | (simp only [World.size_alloc, World.size_drew, World.size_setCell, size_fill, bytesW]; omega)) only [go_sem, c25, c25S0, c25S1, c25S2, c25S3, c25S4, c25S5]
  have hp := ok.few
  have s0 := h.nilRow 9 1
  refine W_loopU (fun q : Nat × Value => [(3, q.2), (4, .int .i64 q.1)]) (fun q w' => q.1 ≤ s.hd.pages ∧ St W0 w' F (.row q.2 9 1 q.1 (((pgs s).take q.1).flatMap strE) :: (StoL b mb g vb vl s ++ L)) I) (fun q => s.hd.pages - q.1) (0, .slice none 0 0) rfl ⟨Nat.zero_le _, by simpa using s0⟩ ?_
  clear s0 h
  rintro ⟨k, vo⟩ w1 ⟨hk, s1⟩
  simp only at hk s1
  obtain ⟨a, c, rfl, hac⟩ := own_slice (s1.row 0 rfl)
  have s1' : St W0 w1 F (StoL b mb g vb vl s ++ (.row (.slice a k c) 9 1 k (((pgs s).take k).flatMap strE) :: L)) I := St.front (A := [_]) (D := StoL b mb g vb vl s) (L := L) s1
  simp (disch := first | omega | exact okFill_t rfl | exact okSize_t rfl | exact fun h => h | (simp only [World.size_alloc, World.size_drew, World.size_setCell, size_fill, bytesW]; omega)) only [go_sem, c25, c25S0, c25S1, c25S2, c25S3, c25S4, c25L0, c25S5, c25L0]
  refine Ret.mono (slen_ok s1') ?_
  rintro _ w2 ⟨rfl, e2⟩
  subst w2
  by_cases hlt : k < s.hd.pages
  · have hlt' : (k : Int) < s.hd.pages := by omega
    simp (disch := first | omega | exact okFill_t rfl | exact okSize_t rfl | exact fun h => h | (simp only [World.size_alloc, World.size_drew, World.size_setCell, size_fill, bytesW]; omega)) only [go_sem, c25, c25S0, c25S1, c25S2, c25S3, c25S4, c25L0, c25S5, hlt']
    refine Ret.mono (sread_ok k s1' ok) ?_
    rintro _ w3 ⟨rfl, s3⟩
    rw [(nowP_eq ok hd hg (by omega) (by omega)).1] at s3 ⊢
    have s4 : St W0 w3 F (.row (.slice a k c) 9 1 k (((pgs s).take k).flatMap strE) :: (StoL b mb g vb vl s ++ L)) I := St.front (A := StoL b mb g vb vl s) (D := [_]) (L := L) s3
    simp (disch := first | omega | exact okFill_t rfl | exact okSize_t rfl | exact fun h => h | (simp only [World.size_alloc, World.size_drew, World.size_setCell, size_fill, bytesW]; omega)) only [go_sem, c25, c25S0, c25S1, c25S2, c25S3, c25S4, c25L0, c25S5]
    have ones : ∀ u ∈ strE (nowP s k), u.oneCell' = true := by simpa using strE_ones [nowP s k]
    refine bsW_ones ty36mkI rfl rfl (by decide) (by decide) ones ?_
    have hx : Rd (w3.alloc (.cells (strE (nowP s k)).toArray 9)) 1 (.slice (some ⟨w3.heap.size, 0, none⟩) 1 1) 1 (strE (nowP s k)) := rd_new (n := 1) (cs := (strE (nowP s k)).toArray) rfl
    simp (disch := first | omega | exact okFill_t rfl | exact okSize_t rfl | exact fun h => h | (simp only [World.size_alloc, World.size_drew, World.size_setCell, size_fill, bytesW]; omega)) only [go_sem, c25, c25S0, c25S1, c25S2, c25S3, c25S4, c25L0, c25S5]
    refine (s4.alloc' (.cells (strE (nowP s k)).toArray 9)).append 0 rfl ty36mkI rfl (by decide) hx ones (by omega) (by omega) ?_
    intro v6 w6 s6 c6
    simp (disch := first | omega | exact okFill_t rfl | exact okSize_t rfl | exact fun h => h | (simp only [World.size_alloc, World.size_drew, World.size_setCell, size_fill, bytesW]; omega)) only [go_sem, c25, c25S0, c25S1, c25S2, c25S3, c25S4, c25L0, c25S5]
    refine ⟨by constructor <;> omega, (k + 1, v6), rfl, ⟨by omega, st_recast s6 ?_⟩, by simp only; omega⟩
    rw [List.take_succ_eq_append_getElem (by rw [pgs_len]; exact hlt), pgs_get, strE_snoc]; rfl
  · have hlt' : ¬ (k : Int) < s.hd.pages := by omega
    obtain rfl : k = s.hd.pages := by omega
    simp (disch := first | omega | exact okFill_t rfl | exact okSize_t rfl | exact fun h => h | (simp only [World.size_alloc, World.size_drew, World.size_setCell, size_fill, bytesW]; omega)) only [go_sem, c25, c25S0, c25S1, c25S2, c25S3, c25S4, c25L0, c25S5, hlt']
    have hl := pgs_len s
    rw [List.take_of_length_le (by omega)] at s1'
    rw [hl]; exact s1'
end
end Go.Proofs.Ytmchjbgobiagiaa

namespace Go.Proofs.Ytmchjbgobiagiaa
set_option linter.unusedSimpArgs false
set_option linter.unusedVariables false
set_option maxRecDepth 100000
open Go Go.Ann Go.RowKit Go.WideShapes Go.Shelf
def sto4 (n room : Nat) : Sto := ⟨headN n room, [], 0, false, fmtDk n (headN n room)⟩
theorem sto4_good {n room : Nat} (h1 : 1 ≤ room) (h2 : room + 3 ≤ n) (h3 : n ≤ 1000) : Good (sto4 n room) (List.replicate (n - 2 - room) zeroB) := by
  have hp : (headN n room).pages = n - 2 - room := by unfold headN; simp only; omega
  have hsl : (fmtDk n (headN n room)).safe.length = n := by simp [fmtDk]
  have hok := fmtDk_ok (n := n) (h := headN n room) (by omega) (by omega)
  have hh : (headN n room).ok := ⟨by show 2 < _; omega, by show 0 < _; omega, by show room < _; omega, by show min (n - 2 - room) 1024 < _; omega⟩
  have g : Geo n (headN n room) := ⟨h1, by rw [hp]; omega, by rw [hp]; omega, Nat.zero_le _, by rw [hp]; show 2 + room + (n - 2 - room) ≤ n; omega⟩
  have s0 : (fmtDk n (headN n room)).safe.getD 0 [] = filledL (headL (headN n room)) := by
    unfold fmtDk
    exact getD_set_eq (by simp; omega)
  have s1 : (fmtDk n (headN n room)).safe.getD 1 [] = filledL [] := by
    unfold fmtDk
    simp only
    rw [getD_set_ne (by decide), getD_set_eq (by simp; omega)]
  refine ⟨⟨hh, hok, h1, by show 1 ≤ (headN n room).pages; rw [hp]; omega, by show (headN n room).pages ≤ 1024; rw [hp]; omega, by rw [show (sto4 n room).disk.safe.length = n from hsl]; exact g.fit, fun _ h => (by cases h), List.Pairwise.nil, List.Pairwise.nil, fun _ h => (by cases h)⟩, rfl, rfl, rfl, ⟨hok.safe, by show (fmtDk n (headN n room)).safe.length ≤ 2048; rw [hsl]; omega, by show Geo (fmtDk n (headN n room)).safe.length _; rw [hsl]; exact g, by show (2 : Nat) < 1000000; decide, by show 0 < (2 : Nat); decide, ?_, ?_⟩, rfl, .inl ?_, ?_, ?_⟩
  · have e0 : (sto4 n room).hd.seq = 2 := rfl
    rw [e0]
    show readHd ((fmtDk n (headN n room)).safe.getD 0 []) = _
    rw [s0]
    exact readHd_headL hh _
  · intro h' hr
    have e0 : (sto4 n room).hd.seq = 2 := rfl
    rw [e0] at hr
    have hr : readHd ((fmtDk n (headN n room)).safe.getD 1 []) = some h' := hr
    rw [s1, readHd_zero] at hr
    cases hr
  · have e0 : (sto4 n room).hd.seq = 2 := rfl
    rw [e0]
    show (fmtDk n (headN n room)).safe.getD 1 [] = zeroB
    rw [s1]; rfl
  · rw [List.length_replicate]; exact hp.symm
  · intro i hi
    have hi : i < n - 2 - room := by rw [← hp]; exact hi
    show (fmtDk n (headN n room)).safe.getD (2 + room + i) [] = _
    unfold fmtDk
    simp only
    rw [getD_set_ne (by omega), getD_set_ne (by omega), List.getD_eq_getElem?_getD, List.getD_eq_getElem?_getD, List.getElem?_replicate, List.getElem?_replicate, if_pos (by omega), if_pos hi]
section
variable {W0 w : World} {F : Nat → Prop} {L : List Res} {I : List Inv} {b mb g : Nat} {vb vl v : Value} {s : Sto} {l : List Pge} {P : List (List UInt8)}
theorem begun4_ok {n room : Nat} (h : St W0 w F L I) (h1 : 1 ≤ room) (h2 : room + 3 ≤ n) (h3 : n ≤ 1000) :
    Ret Try.prog 22 [.int .i64 n, .int .i64 room] w fun u w' => ∃ b mb g vb vl, u = .tuple #[.pointer (some ⟨g, 0, none⟩), .pointer (some ⟨b, 0, none⟩)] ∧ St W0 w' F (StoL b mb g vb vl (sto4 n room) ++ L) I := by
  refine ent22 _ _ _ _ ?_
  simp (disch := first | omega | exact okFill_t rfl | exact okSize_t rfl | exact fun h => h | (simp only [World.size_alloc, World.size_drew, World.size_setCell, size_fill, bytesW]; omega)) only [go_sem, c22, c22S0, c22S1, c22S2, c22S3, c22S4]
  refine Ret.mono (new_ok h (n := n) (by omega) (by omega)) ?_
  rintro _ w2 ⟨g, vb, vl, rfl, s2⟩
  simp (disch := first | omega | exact okFill_t rfl | exact okSize_t rfl | exact fun h => h | (simp only [World.size_alloc, World.size_drew, World.size_setCell, size_fill, bytesW]; omega)) only [go_sem, c22, c22S0, c22S1, c22S2, c22S3, c22S4]
  refine Ret.mono (format_ok (room := room) s2 h1 h2 (by omega)) ?_
  rintro _ w3 ⟨rfl, vl', s3⟩
  simp (disch := first | omega | exact okFill_t rfl | exact okSize_t rfl | exact fun h => h | (simp only [World.size_alloc, World.size_drew, World.size_setCell, size_fill, bytesW]; omega)) only [go_sem, c22, c22S0, c22S1, c22S2, c22S3, c22S4]
  refine Ret.mono (open0_ok (headN n room) s3 (fmtDk_ok (by omega) (by omega)) rfl (by simp [fmtDk]; omega) (newest_fmt h1 h2 (by omega)) rfl) ?_
  rintro _ w4 ⟨b, mb, rfl, s4⟩
  simp (disch := first | omega | exact okFill_t rfl | exact okSize_t rfl | exact fun h => h | (simp only [World.size_alloc, World.size_drew, World.size_setCell, size_fill, bytesW]; omega)) only [go_sem, c22, c22S0, c22S1, c22S2, c22S3, c22S4]
  exact ⟨b, mb, g, vb, vl', rfl, s4⟩
theorem Good.read {i : Nat} (g : Good s P) (hi : i < s.hd.pages) : stRead s i = (s, (pgs s).getD i [], 0) := by
  rw [(nowP_eq g.ok g.dead g.gone (by omega) (by omega)).1]
  rw [List.getD_eq_getElem?_getD, List.getElem?_eq_getElem (by rw [pgs_len]; exact hi), Option.getD_some, pgs_get]
theorem Good.wr (g : Good s P) {i : Int} {d : List UInt8} (h0 : 0 ≤ i) (h1 : i < s.hd.pages) (hd : d.length ≤ 256) :
    (stWrite s i d).2 = 0 ∧ Good (stWrite s i d).1 P ∧ (stWrite s i d).1.hd = s.hd ∧ (stWrite s i d).1.disk = s.disk ∧ pgs (stWrite s i d).1 = (pgs s).set i.toNat (filledL d) ∧ (stWrite s i d).1.dirty = setM i (filledL d) s.clock s.dirty := by
  obtain ⟨a1, a2, a3, a4⟩ := g.write i d
  refine ⟨(stWrite_in g.ok g.dead g.gone h0 h1 hd).1, a1, a2, a3, by rw [a4, if_pos ⟨h0, h1, hd⟩], ?_⟩
  unfold stWrite
  rw [if_neg (by rw [stReady_ok g.dead h0 h1]; decide), if_neg (by omega)]
theorem awake4_ok (w : World) : Ret Try.prog 28 [] w fun u w' => u = .bool true ∧ Below w.heap.size w w' := by
  refine ent28 _ _ ?_
  simp (disch := first | omega | exact okFill_t rfl | exact okSize_t rfl | exact fun h => h | (simp only [World.size_alloc, World.size_drew, World.size_setCell, size_fill, bytesW]; omega)) only [go_sem, c28, c28S0, c28S1, c28S2, c28S3, c28S4, c28S5, c28S6, c28S7]
  refine Ret.mono (begun4_ok (n := 10) (room := 3) (St.start (W0 := w)) (by decide) (by decide) (by decide)) ?_
  rintro _ w2 ⟨b, mb, g, vb, vl, rfl, s2⟩
  have g2 := sto4_good (n := 10) (room := 3) (by decide) (by decide) (by decide)
  have d2 : (sto4 10 3).dirty = [] := rfl
  have p2 : pgs (sto4 10 3) = List.replicate 5 zeroB := g2.pgs0 rfl
  have h2 : (sto4 10 3).hd.pages = 5 ∧ (sto4 10 3).hd.room = 3 ∧ (sto4 10 3).hd.seq = 2 ∧ (sto4 10 3).disk.left = -1 ∧ (sto4 10 3).disk.late = [] := ⟨rfl, rfl, rfl, rfl, rfl⟩
  generalize sto4 10 3 = t2 at s2 g2 d2 p2 h2
  simp (disch := first | omega | exact okFill_t rfl | exact okSize_t rfl | exact fun h => h | (simp only [World.size_alloc, World.size_drew, World.size_setCell, size_fill, bytesW]; omega)) only [go_sem, c28, c28S0, c28S1, c28S2, c28S3, c28S4, c28S5, c28S6, c28S7]
  refine Ret.mono (slen_ok s2) ?_
  rintro _ w3 ⟨rfl, e3⟩
  subst w3
  rw [h2.1]
  simp (disch := first | omega | exact okFill_t rfl | exact okSize_t rfl | exact fun h => h | (simp only [World.size_alloc, World.size_drew, World.size_setCell, size_fill, bytesW]; omega)) only [go_sem, c28, c28S0, c28S1, c28S2, c28S3, c28S4, c28S5, c28S6, c28S7]
  obtain ⟨x1, g3, e3, f3, p3, d3⟩ := g2.wr (i := 0) (d := [97]) (by decide) (by rw [h2.1]; decide) (by decide)
  refine Ret.mono (swrite_ok 0 [97] s2) ?_
  rintro _ w3 ⟨rfl, s3⟩
  rw [x1]
  generalize (stWrite t2 0 [97]).1 = t3 at s3 g3 e3 f3 p3 d3
  simp (disch := first | omega | exact okFill_t rfl | exact okSize_t rfl | exact fun h => h | (simp only [World.size_alloc, World.size_drew, World.size_setCell, size_fill, bytesW]; omega)) only [go_sem, c28, c28S0, c28S1, c28S2, c28S3, c28S4, c28S5, c28S6, c28S7]
  obtain ⟨x1, g4, e4, f4, p4, d4⟩ := g3.wr (i := 4) (d := [98]) (by decide) (by rw [e3, h2.1]; decide) (by decide)
  refine Ret.mono (swrite_ok 4 [98] s3) ?_
  rintro _ w4 ⟨rfl, s4⟩
  rw [x1]
  generalize (stWrite t3 4 [98]).1 = t4 at s4 g4 e4 f4 p4 d4
  have l4 : t4.dirty.length = 2 := by rw [d4, d3, d2]; rfl
  have h4 : t4.hd.pages = 5 ∧ t4.hd.room = 3 ∧ t4.hd.seq = 2 ∧ t4.disk.left = -1 ∧ t4.disk.late = [] := by rw [e4, f4, e3, f3]; exact h2
  simp (disch := first | omega | exact okFill_t rfl | exact okSize_t rfl | exact fun h => h | (simp only [World.size_alloc, World.size_drew, World.size_setCell, size_fill, bytesW]; omega)) only [go_sem, c28, c28S0, c28S1, c28S2, c28S3, c28S4, c28S5, c28S6, c28S7]
  refine Ret.mono (scommit_ok s4 g4.ok (by rw [h4.2.2.1]; decide) (by rw [h4.2.2.2.2]; decide)) ?_
  rintro _ w5 ⟨e, t5, vl5, rfl, hc, s5⟩
  rcases g4.commit h4.2.2.2.1 (by rw [h4.2.2.1]; decide) hc with ⟨rfl, _, g5, d5, left5, q1, q2, q3, _⟩ | ⟨_, _, hbad, _⟩
  case inr => rw [l4, h4.2.1] at hbad; exact absurd hbad (by decide)
  rw [h4.1] at q1
  rw [h4.2.1] at q2
  rw [h4.2.2.1] at q3
  have p5 : pgs t5 = pgs t4 := g5.pgs0 d5
  simp (disch := first | omega | exact okFill_t rfl | exact okSize_t rfl | exact fun h => h | (simp only [World.size_alloc, World.size_drew, World.size_setCell, size_fill, bytesW]; omega)) only [go_sem, c28, c28S0, c28S1, c28S2, c28S3, c28S4, c28S5, c28S6, c28S7]
  refine Ret.mono (sread_ok 4 s5 g5.ok) ?_
  rintro _ w6 ⟨rfl, s6⟩
  have er := g5.read (i := 4) (by omega)
  have er4 : stRead t5 4 = (t5, filledL [98], 0) := by
    refine er.trans ?_
    rw [p5, p4, p3, p2]; rfl
  rw [er4] at s6 ⊢
  simp (disch := first | omega | exact okFill_t rfl | exact okSize_t rfl | exact fun h => h | (simp only [World.size_alloc, World.size_drew, World.size_setCell, size_fill, bytesW]; omega)) only [go_sem, c28, c28S0, c28S1, c28S2, c28S3, c28S4, c28S5, c28S6, c28S7]
  refine Ret.mono (filled_ok [98] w6 (by decide)) ?_
  rintro _ w7 ⟨rfl, b7⟩
  have s7 := s6.call b7
  simp (disch := first | omega | exact okFill_t rfl | exact okSize_t rfl | exact fun h => h | (simp only [World.size_alloc, World.size_drew, World.size_setCell, size_fill, bytesW]; omega)) only [go_sem, c28, c28S0, c28S1, c28S2, c28S3, c28S4, c28S5, c28S6, c28S7]
  obtain ⟨x1, g8, e8, f8, p8, d8⟩ := g5.wr (i := 0) (d := [120]) (by decide) (by omega) (by decide)
  refine Ret.mono (swrite_ok 0 [120] s7) ?_
  rintro _ w8 ⟨rfl, s8⟩
  rw [x1]
  generalize (stWrite t5 0 [120]).1 = t8 at s8 g8 e8 f8 p8 d8
  simp (disch := first | omega | exact okFill_t rfl | exact okSize_t rfl | exact fun h => h | (simp only [World.size_alloc, World.size_drew, World.size_setCell, size_fill, bytesW]; omega)) only [go_sem, c28, c28S0, c28S1, c28S2, c28S3, c28S4, c28S5, c28S6, c28S7]
  obtain ⟨x1, g9, e9, f9, p9, d9⟩ := g8.wr (i := 1) (d := [121]) (by decide) (by rw [e8]; omega) (by decide)
  refine Ret.mono (swrite_ok 1 [121] s8) ?_
  rintro _ w9 ⟨rfl, s9⟩
  rw [x1]
  generalize (stWrite t8 1 [121]).1 = t9 at s9 g9 e9 f9 p9 d9
  simp (disch := first | omega | exact okFill_t rfl | exact okSize_t rfl | exact fun h => h | (simp only [World.size_alloc, World.size_drew, World.size_setCell, size_fill, bytesW]; omega)) only [go_sem, c28, c28S0, c28S1, c28S2, c28S3, c28S4, c28S5, c28S6, c28S7]
  obtain ⟨x1, g10, e10, f10, p10, d10⟩ := g9.wr (i := 2) (d := [122]) (by decide) (by rw [e9, e8]; omega) (by decide)
  refine Ret.mono (swrite_ok 2 [122] s9) ?_
  rintro _ w10 ⟨rfl, s10⟩
  rw [x1]
  generalize (stWrite t9 2 [122]).1 = t10 at s10 g10 e10 f10 p10 d10
  have l10 : t10.dirty.length = 3 := by rw [d10, d9, d8, d5]; rfl
  have lt10 : t10.disk.late = [] := g10.late
  have lf10 : t10.disk.left = -1 := by rw [f10, f9, f8]; exact left5
  have sq10 : t10.hd.seq ≤ 4 := by rw [e10, e9, e8]; omega
  have rm10 : t10.hd.room = 3 := by rw [e10, e9, e8]; omega
  simp (disch := first | omega | exact okFill_t rfl | exact okSize_t rfl | exact fun h => h | (simp only [World.size_alloc, World.size_drew, World.size_setCell, size_fill, bytesW]; omega)) only [go_sem, c28, c28S0, c28S1, c28S2, c28S3, c28S4, c28S5, c28S6, c28S7]
  refine Ret.mono (scommit_ok s10 g10.ok (by omega) (by rw [lt10]; decide)) ?_
  rintro _ w11 ⟨e, t11, vl11, rfl, hc, s11⟩
  rcases g10.commit lf10 (by omega) hc with ⟨_, hbad | hbad, _⟩ | ⟨rfl, _, _, rfl⟩
  · rw [hbad] at l10; simp at l10
  · rw [l10, rm10] at hbad; exact absurd hbad (by decide)
  simp (disch := first | omega | exact okFill_t rfl | exact okSize_t rfl | exact fun h => h | (simp only [World.size_alloc, World.size_drew, World.size_setCell, size_fill, bytesW]; omega)) only [go_sem, c28, c28S0, c28S1, c28S2, c28S3, c28S4, c28S5, c28S6, c28S7]
  have g11 := g10.drop
  have h11 : ({ t10 with dirty := [] } : Sto).hd.pages = 5 := by show t10.hd.pages = 5; rw [e10, e9, e8]; exact q1
  have p11 := g11.pgs0 rfl
  refine Ret.mono (sread_ok 0 s11 g11.ok) ?_
  rintro _ w12 ⟨rfl, s12⟩
  have er0 : stRead { t10 with dirty := [] } 0 = ({ t10 with dirty := [] }, filledL [97], 0) := by
    refine (g11.read (i := 0) (by omega)).trans ?_
    rw [p11, p4, p3, p2]; rfl
  rw [er0] at s12 ⊢
  simp (disch := first | omega | exact okFill_t rfl | exact okSize_t rfl | exact fun h => h | (simp only [World.size_alloc, World.size_drew, World.size_setCell, size_fill, bytesW]; omega)) only [go_sem, c28, c28S0, c28S1, c28S2, c28S3, c28S4, c28S5, c28S6, c28S7]
  refine Ret.mono (filled_ok [97] w12 (by decide)) ?_
  rintro _ w13 ⟨rfl, b13⟩
  simp (disch := first | omega | exact okFill_t rfl | exact okSize_t rfl | exact fun h => h | (simp only [World.size_alloc, World.size_drew, World.size_setCell, size_fill, bytesW]; omega)) only [go_sem, c28, c28S0, c28S1, c28S2, c28S3, c28S4, c28S5, c28S6, c28S7]
  exact (s12.call b13).bel
end
end Go.Proofs.Ytmchjbgobiagiaa

namespace Go.Proofs.Ytmchjbgobiagiaa
set_option linter.unusedSimpArgs false
set_option linter.unusedVariables false
set_option maxRecDepth 100000
open Go Go.Ann Go.RowKit Go.WideShapes Go.Shelf
theorem bit_test (mask : Int) (k : Nat) (h0 : 0 ≤ mask) (h1 : mask ≤ 18446744073709551615) (hk : (k : Int) ≤ 9223372036854775807) :
    (bits BinOp.and IntKind.u64 (mask / 2 ^ min (IntKind.u64.wrap (bits BinOp.and IntKind.i64 (k : Int) 63)).toNat 64) 1 = 0) = (bitM mask k = false) := by
  have hm := Nat.mod_lt k (show 64 > 0 by decide)
  rw [and_63_i64 k hk, wrap_u64_id _ (by omega) (by omega), Int.toNat_natCast, Nat.min_eq_left (by omega)]
  have hd : 0 ≤ mask / 2 ^ (k % 64) := Int.ediv_nonneg h0 (Int.pow_nonneg (by decide))
  have hd2 : mask / 2 ^ (k % 64) ≤ mask := Int.ediv_le_self _ h0
  rw [and_one_u64 _ hd (by omega)]
  unfold bitM
  rw [decide_eq_false_iff_not]
  apply propext
  generalize mask / 2 ^ (k % 64) = z at *
  omega
theorem crashS_snoc (mask torn cut : Int) : ∀ (l : List (Int × List UInt8)) (x : Int × List UInt8) (i : Nat) (s : List (List UInt8)), crashS mask torn cut i (l ++ [x]) s = if bitM mask (i + l.length) = true then (crashS mask torn cut i l s).set x.1.toNat (if ((i + l.length : Nat) : Int) = torn then mixL x.2 ((crashS mask torn cut i l s).getD x.1.toNat []) (cutK cut) else x.2) else crashS mask torn cut i l s
  | [], x, i, s => by rw [List.nil_append, crashS, crashS]; rfl
  | a :: l, x, i, s => by
    rw [List.cons_append, crashS, crashS, crashS_snoc mask torn cut l x (i + 1), List.length_cons, show i + 1 + l.length = i + (l.length + 1) by omega]
theorem crash_256 {mask torn cut : Int} {l : List (Int × List UInt8)} {s : List (List UInt8)} (hs : ∀ x ∈ s, x.length = 256) (hl : ∀ x ∈ l, 0 ≤ x.1 ∧ x.1 < s.length ∧ x.2.length = 256) : ∀ x ∈ crashS mask torn cut 0 l s, x.length = 256 := (crash_after l 0 s hs hl).all hs hl
section
variable {W0 w : World} {F : Nat → Prop} {L : List Res} {I : List Inv} {g : Nat} {vb vl : Value} {m : Dk}
theorem crashN_ok (ok : m.ok) (mask torn cut : Int) : (crashN m mask torn cut).ok :=
  ⟨crash_256 ok.safe ok.late, fun _ h => (by cases h), ⟨by simp [crashN], by simp [crashN]⟩, by show 0 < (crashS mask torn cut 0 m.late m.safe).length; rw [crash_len]; exact ok.some, by show (crashS mask torn cut 0 m.late m.safe).length ≤ 2048; rw [crash_len]; exact ok.few, Nat.zero_le _⟩
theorem limit_ok (n : Int) (h : St W0 w F (DkL g vb vl m ++ L) I) :
    Ret Try.prog 29 [.pointer (some ⟨g, 0, none⟩), .int .i64 n] w fun u w' => u = .tuple #[] ∧ St W0 w' F (DkL g vb vl { m with left := n } ++ L) I := by
  refine ent29 _ _ _ _ ?_
  have r1 := h.rules 0 rfl
  simp (disch := first | omega | exact okFill_t rfl | exact okSize_t rfl | exact fun h => h | (simp only [World.size_alloc, World.size_drew, World.size_setCell, size_fill, bytesW]; omega)) only [go_sem, c29, r1]
  exact h.set 0 rfl 2 (.int .i64 n)
theorem crash_ok (mask torn cut : Int) (h : St W0 w F (DkL g vb vl m ++ L) I) (ok : m.ok) (h0 : 0 ≤ mask) (h1 : mask ≤ 18446744073709551615) (ht : I64 torn) (hc : I64 cut) :
    Ret Try.prog 30 [.pointer (some ⟨g, 0, none⟩), .int .u64 mask, .int .i64 torn, .int .i64 cut] w fun u w' => u = .tuple #[] ∧ ∃ vl', St W0 w' F (DkL g vb vl' (crashN m mask torn cut) ++ L) I := by
  refine ent30 _ _ _ _ _ _ ?_
  obtain ⟨gb, cb, al, cl, rfl, rfl, hcl⟩ := dk_form h ok
  have r1 := h.rules 0 rfl
  simp (disch := first | omega | exact okFill_t rfl | exact okSize_t rfl | exact fun h => h | (simp only [World.size_alloc, World.size_drew, World.size_setCell, size_fill, bytesW]; omega)) only [go_sem, c30, c30S0, c30S1, c30S2, c30S3, c30S4, c30S5, c30S6, r1]
  refine W_loopU (fun k : Nat => [(18, .int .i64 k)]) (fun k w' => k ≤ m.late.length ∧ St W0 w' F (DkL g (.slice (some ⟨gb, 0, none⟩) m.safe.length cb) (.slice al m.late.length cl) { m with safe := crashS mask torn cut 0 (m.late.take k) m.safe } ++ L) I) (fun k => m.late.length - k) 0 rfl ⟨Nat.zero_le _, h⟩ ?_
  clear h
  rintro k w2 ⟨hk, h2⟩
  have hless := ok.less
  have hlen : (crashS mask torn cut 0 (m.late.take k) m.safe).length = m.safe.length := crash_len _ _ _
  have h256 : ∀ x ∈ crashS mask torn cut 0 (m.late.take k) m.safe, x.length = 256 := crash_256 ok.safe fun x hx => ok.late x (List.mem_of_mem_take hx)
  by_cases hlt : k < m.late.length
  · have hlt' : (k : Int) < m.late.length := by omega
    have hL : RdS w2 2 pendV (.slice al m.late.length cl) m.late := RdS.of_own' (h2.row 2 rfl) m.late rfl rfl
    obtain ⟨p, rfl⟩ := hL.ptr (by omega)
    have eL := hL.at pendV_len hlt
    obtain ⟨x0, x1, x2⟩ := ok.late _ (List.getElem_mem hlt)
    obtain ⟨n, hn⟩ := Int.eq_ofNat_of_zero_le x0
    have hnl : n < m.safe.length := by omega
    have hstep : crashS mask torn cut 0 (m.late.take (k + 1)) m.safe = if bitM mask k = true then (crashS mask torn cut 0 (m.late.take k) m.safe).set n (if (k : Int) = torn then mixL m.late[k].2 ((crashS mask torn cut 0 (m.late.take k) m.safe).getD n []) (cutK cut) else m.late[k].2) else crashS mask torn cut 0 (m.late.take k) m.safe := by
      rw [List.take_succ_eq_append_getElem hlt, crashS_snoc, List.length_take, Nat.min_eq_left (by omega), Nat.zero_add, hn]; rfl
    generalize crashS mask torn cut 0 (m.late.take k) m.safe = S at h2 hlen h256 hstep
    simp (disch := first | omega | exact okFill_t rfl | exact okSize_t rfl | exact fun h => h | (simp only [World.size_alloc, World.size_drew, World.size_setCell, size_fill, bytesW]; omega)) only [go_sem, c30, c30S0, c30S1, c30S2, c30S3, c30S4, c30L0, c30S5, c30S6, c30L0, hlt', eL, pendV]
    rw [bit_test mask k h0 h1 (by omega)]
    have hnl' : (n : Int) < m.safe.length := by omega
    have hkI : I64 ((k : Int) + 1) := by constructor <;> omega
    refine ⟨by omega, fun hb => ⟨hkI, k + 1, rfl, ⟨by omega, ?_⟩, by omega⟩, fun hb => ?_⟩
    · rw [hstep, hb]
      exact h2.alloc' _
    have hb : bitM mask k = true := by simpa using hb
    rw [hb, if_pos rfl] at hstep
    have hold : S[n]'(by omega) = S.getD n [] := by rw [List.getD_eq_getElem?_getD, List.getElem?_eq_getElem (by omega)]; rfl
    have hold256 : (S.getD n []).length = 256 := by rw [← hold]; exact h256 _ (List.getElem_mem _)
    rw [hn]
    have h3 := h2.box #[.int .i64 n, .string (ofL m.late[k].2)] 106
    generalize w2.heap.size = y at h3 ⊢
    generalize w2.alloc (.cells #[.int .i64 n, .string (ofL m.late[k].2)] 106) = w3 at h3 ⊢
    have h3 : St W0 w3 F (.blk y #[.int .i64 n, .string (ofL m.late[k].2)] 106 :: ([.blk g #[.slice (some ⟨gb, 0, none⟩) m.safe.length cb, .slice (some p) m.late.length cl, .int .i64 m.left, .bool m.gone, .string (ofL zeroB)] 104, .row (.slice (some ⟨gb, 0, none⟩) m.safe.length cb) 9 1 m.safe.length (S.flatMap strE), .row (.slice (some p) m.late.length cl) 106 2 m.late.length (m.late.flatMap pendV)] ++ L)) I := st_recast h3 (by simp only [DkL, hlen])
    have fin : ∀ (w5 : World) (D : List UInt8), St W0 w5 F (.blk y #[.int .i64 n, .string (ofL D)] 106 :: ([.blk g #[.slice (some ⟨gb, 0, none⟩) m.safe.length cb, .slice (some p) m.late.length cl, .int .i64 m.left, .bool m.gone, .string (ofL zeroB)] 104, .row (.slice (some ⟨gb, 0, none⟩) m.safe.length cb) 9 1 m.safe.length ((S.set n D).flatMap strE), .row (.slice (some p) m.late.length cl) 106 2 m.late.length (m.late.flatMap pendV)] ++ L)) I → (D = if (k : Int) = torn then mixL m.late[k].2 (S.getD n []) (cutK cut) else m.late[k].2) → k + 1 ≤ m.late.length ∧ St W0 w5 F (DkL g (.slice (some ⟨gb, 0, none⟩) m.safe.length cb) (.slice (some p) m.late.length cl) { m with safe := crashS mask torn cut 0 (m.late.take (k + 1)) m.safe } ++ L) I := fun w5 D h5 hD => by
      refine ⟨by omega, ?_⟩
      rw [hstep, ← hD]
      exact st_recast (h5.sub (List.sublist_cons_self _ _)) (by simp only [DkL, List.length_set, hlen])
    refine ⟨fun htorn => ?_, fun htorn => ?_⟩
    · refine c30draw0 (Same (fun k => k = g ∨ k = y) _) (Same.refl _ _) ?_
      have h4 := h3.drew
      have r4 := h4.rules 1 rfl
      have q4 := h4.rules 0 rfl
      have l4 := h4.low 0 rfl
      have ec := (h4.row 2 rfl).cellAt n (by omega)
      rw [strE_map, List.getElem?_map, List.getElem?_eq_getElem (by omega : n < S.length), hold] at ec
      have ec : w3.drew.cell? ⟨gb, n, none⟩ = some (.string (ofL (S.getD n []))) := ec
      generalize w3.drew = w4 at h4 r4 q4 l4 ec ⊢
      obtain ⟨K, hK⟩ : ∃ K : Nat, max 0 (min cut 256) = K := ⟨(max 0 (min cut 256)).toNat, by omega⟩
      have hKc : cutK cut = K := by unfold cutK; omega
      have hK256 : K ≤ 256 := by omega
      rw [hK]
      simp (disch := first | omega | exact okFill_t rfl | exact okSize_t rfl | exact fun h => h | (simp only [World.size_alloc, World.size_drew, World.size_setCell, size_fill, bytesW]; omega)) only [go_sem, c30, c30S0, c30S1, c30S2, c30S3, c30S4, c30L0, c30S5, c30S6, c30D0, r4, q4, hnl', ec]
      refine ⟨by omega, Same.refl _ _, by omega, Same.refl _ _, by omega, by rw [List.length_take, List.length_drop]; omega, ?_⟩
      have h5 := h4.set 0 rfl 1 (.string (ofL (m.late[k].2.take K ++ (S.getD n []).drop K)))
      refine c30draw1 (Same (fun k => k = g ∨ k = y) _) (Same.refl _ _) ?_
      have h6 := h5.drew
      generalize hw6 : (w4.setCell ⟨y, 1, none⟩ (.string (ofL (m.late[k].2.take K ++ (S.getD n []).drop K)))).drew = w6 at h6 ⊢
      have h6 : St W0 w6 F (.blk y #[.int .i64 n, .string (ofL (m.late[k].2.take K ++ (S.getD n []).drop K))] 106 :: ([.blk g #[.slice (some ⟨gb, 0, none⟩) m.safe.length cb, .slice (some p) m.late.length cl, .int .i64 m.left, .bool m.gone, .string (ofL zeroB)] 104, .row (.slice (some ⟨gb, 0, none⟩) m.safe.length cb) 9 1 m.safe.length (S.flatMap strE), .row (.slice (some p) m.late.length cl) 106 2 m.late.length (m.late.flatMap pendV)] ++ L)) I := h6
      have r6 := h6.rules 1 rfl
      have q6 := h6.rules 0 rfl
      have ec6 := (h6.row 2 rfl).cellAt n (by omega)
      rw [strE_map, List.getElem?_map, List.getElem?_eq_getElem (by omega : n < S.length)] at ec6
      have ef6 := (h6.row 2 rfl).frozenAt n
      clear r4 q4 l4 ec
      simp (disch := first | omega | exact okFill_t rfl | exact okSize_t rfl | exact fun h => h | (simp only [World.size_alloc, World.size_drew, World.size_setCell, size_fill, bytesW]; omega)) only [go_sem, c30, c30S0, c30S1, c30S2, c30S3, c30S4, c30L0, c30S5, c30S6, c30D1, r6, q6, hnl', ec6, ef6]
      refine ⟨Same.refl _ _, by omega, ⟨_, rfl⟩, hkI, k + 1, rfl, fin _ (m.late[k].2.take K ++ (S.getD n []).drop K) (st_recast (h6.put 2 rfl n (.string (ofL (m.late[k].2.take K ++ (S.getD n []).drop K)))) (by rw [← strE_set]; rfl)) (by rw [if_pos htorn, hKc]; rfl), by omega⟩
    · refine c30draw1 (Same (fun k => k = g ∨ k = y) _) (Same.refl _ _) ?_
      have h4 := h3.drew
      have r4 := h4.rules 1 rfl
      have q4 := h4.rules 0 rfl
      have l4 := h4.low 0 rfl
      generalize w3.drew = w4 at h4 r4 q4 l4 ⊢
      have ec := (h4.row 2 rfl).cellAt n (by omega)
      rw [strE_map, List.getElem?_map, List.getElem?_eq_getElem (by omega : n < S.length)] at ec
      have ef := (h4.row 2 rfl).frozenAt n
      simp (disch := first | omega | exact okFill_t rfl | exact okSize_t rfl | exact fun h => h | (simp only [World.size_alloc, World.size_drew, World.size_setCell, size_fill, bytesW]; omega)) only [go_sem, c30, c30S0, c30S1, c30S2, c30S3, c30S4, c30L0, c30S5, c30S6, c30D1, r4, q4, hnl', ec, ef]
      refine ⟨Same.refl _ _, by omega, ⟨_, rfl⟩, hkI, k + 1, rfl, fin _ m.late[k].2 (st_recast (h4.put 2 rfl n (.string (ofL m.late[k].2))) (by rw [← strE_set]; rfl)) (by rw [if_neg htorn]), by omega⟩
  · have hlt' : ¬ (k : Int) < m.late.length := by omega
    obtain rfl : k = m.late.length := by omega
    rw [List.take_length] at h2
    have r2 := h2.rules 0 rfl
    simp (disch := first | omega | exact okFill_t rfl | exact okSize_t rfl | exact fun h => h | (simp only [World.size_alloc, World.size_drew, World.size_setCell, size_fill, bytesW]; omega)) only [go_sem, c30, c30S0, c30S1, c30S2, c30S3, c30S4, c30L0, c30S5, c30S6, c30L0, hlt', r2]
    have s3 := ((h2.set 0 rfl 1 (.slice none 0 0)).set 0 rfl 2 (.int .i64 (-1))).set 0 rfl 3 (.bool false)
    refine ⟨.slice none 0 0, ?_⟩
    have s4 := s3.sub (L' := [.blk g #[.slice (some ⟨gb, 0, none⟩) m.safe.length cb, .slice none 0 0, .int .i64 (-1), .bool false, .string (ofL zeroB)] 104, .row (.slice (some ⟨gb, 0, none⟩) m.safe.length cb) 9 1 (crashS mask torn cut 0 m.late m.safe).length ((crashS mask torn cut 0 m.late m.safe).flatMap strE)] ++ L) (by
      refine List.Sublist.cons_cons _ (List.Sublist.cons_cons _ ?_)
      exact List.sublist_cons_self _ _)
    exact St.front (A := [.row (.slice none 0 0) 106 2 0 []]) (D := [.blk g #[.slice (some ⟨gb, 0, none⟩) m.safe.length cb, .slice none 0 0, .int .i64 (-1), .bool false, .string (ofL zeroB)] 104, .row (.slice (some ⟨gb, 0, none⟩) m.safe.length cb) 9 1 (crashS mask torn cut 0 m.late m.safe).length ((crashS mask torn cut 0 m.late m.safe).flatMap strE)]) (L := L) (s4.nilRow 106 2)
end
end Go.Proofs.Ytmchjbgobiagiaa

namespace Go.Proofs.Ytmchjbgobiagiaa
set_option linter.unusedSimpArgs false
set_option linter.unusedVariables false
set_option maxRecDepth 100000
open Go Go.Ann Go.RowKit Go.WideShapes Go.Shelf
structure Crashy (m : Dk) (Q : List (List UInt8) → Prop) : Prop where
  ok : m.ok
  crash : ∀ mask torn cut, ∃ P, Q P ∧ Recov (crashN m mask torn cut).safe P
structure Open (s : Sto) (P : List (List UInt8)) : Prop where
  ok : s.ok
  dead : s.dead = false
  gone : s.disk.gone = false
  late : s.disk.late = []
  top : Top s.disk.safe s.hd
  used : s.hd.used = 0
  home : Home s.disk.safe s.hd P
  dirty : s.dirty = []
theorem Open.pgs {s : Sto} {P : List (List UInt8)} (g : Open s P) : pgs s = P := by
  refine pgs_eq g.home.1 fun i hi => ?_
  have hi : i < s.hd.pages := by rw [← g.home.1]; exact hi
  rw [(nowP_eq g.ok g.dead g.gone (by omega) (by omega)).2, g.late, g.dirty]
  have e : (homeN s i).toNat = 2 + s.hd.room + i := by unfold homeN; omega
  rw [e]
  exact g.home.2 i hi
theorem Open.crashy {s : Sto} {P : List (List UInt8)} (g : Open s P) {Q : List (List UInt8) → Prop} (hQ : Q P) : Crashy s.disk Q :=
  ⟨g.ok.disk, fun mask torn cut => ⟨P, hQ, by rw [Up.kept rfl g.late]; exact ⟨_, g.top, .inl ⟨g.used, g.home⟩⟩⟩⟩
theorem sto_ok {h : Hd} {m : Dk} (t : Top m.safe h) (ok : m.ok) : (⟨h, [], 0, false, m⟩ : Sto).ok :=
  ⟨t.ok, ok, t.geo.room, t.geo.pages, t.geo.few, t.geo.fit, fun _ h => (by cases h), List.Pairwise.nil, List.Pairwise.nil, fun _ h => (by cases h)⟩
section
variable {W0 w : World} {F : Nat → Prop} {L : List Res} {I : List Inv} {g : Nat} {vb vl : Value} {m : Dk} {P : List (List UInt8)}
theorem openClean_ok {hd : Hd} (h : St W0 w F (DkL g vb vl m ++ L) I) (ok : m.ok) (hg : m.gone = false) (hl : m.late = []) (t : Top m.safe hd) (h0 : hd.used = 0) (hm : Home m.safe hd P) :
    Ret Try.prog 31 [.pointer (some ⟨g, 0, none⟩)] w fun u w' => ∃ b mb s, u = .tuple #[.pointer (some ⟨b, 0, none⟩), .int .i64 0] ∧ Open s P ∧ s.disk = m ∧ St W0 w' F (StoL b mb g vb vl s ++ L) I := by
  have hfit := t.geo.fit
  refine Ret.mono (open0_ok hd h ok hg (by omega) (t.newest rfl hl) h0) ?_
  rintro u w2 ⟨b, mb, rfl, s2⟩
  exact ⟨b, mb, _, rfl, ⟨sto_ok t ok, rfl, hg, hl, t, h0, hm, rfl⟩, rfl, s2⟩
theorem openRec_ok (h : St W0 w F (DkL g vb vl m ++ L) I) (ok : m.ok) (hg : m.gone = false) (hl : m.late = []) (hr : Recov m.safe P) :
    Ret Try.prog 31 [.pointer (some ⟨g, 0, none⟩)] w fun u w' => (∃ b mb vl' s, u = .tuple #[.pointer (some ⟨b, 0, none⟩), .int .i64 0] ∧ Open s P ∧ (m.left = -1 → s.disk.left = -1) ∧ St W0 w' F (StoL b mb g vb vl' s ++ L) I) ∨
      (∃ e vl' m', u = .tuple #[.pointer none, .int .i64 e] ∧ e ≠ 0 ∧ m.left ≠ -1 ∧ Crashy m' (fun X => X = P) ∧ St W0 w' F (DkL g vb vl' m' ++ L) I) := by
  obtain ⟨hd, t, hc⟩ := hr
  rcases hc with ⟨h0, hm⟩ | ⟨l, d⟩
  · refine Ret.mono (openClean_ok h ok hg hl t h0 hm) ?_
    rintro u w2 ⟨b, mb, s, rfl, o, e, s2⟩
    exact .inl ⟨b, mb, vl, s, rfl, o, fun h => by rw [e]; exact h, s2⟩
  have hfit := t.geo.fit
  have hgu := t.geo.used
  have hgf := t.geo.few
  have hmany := t.many
  have hu : hd.used = blocksN l.length := d.jou.used
  have hu0 : 0 < hd.used := by rw [hu]; unfold blocksN hdsN; omega
  have hln := packL_len l
  refine ent31 _ _ _ ?_
  simp (disch := first | omega | exact okFill_t rfl | exact okSize_t rfl | exact fun h => h | (simp only [World.size_alloc, World.size_drew, World.size_setCell, size_fill, bytesW]; omega)) only [go_sem, c31, c31S0, c31S1, c31S2, c31S3, c31S4, c31S5, c31S6, c31S7, c31S8, c31S9, c31S10]
  refine Ret.mono (newest_ok h ok hg (by omega)) ?_
  rintro u w2 ⟨hu2, b2⟩
  rw [t.newest rfl hl] at hu2
  obtain rfl : u = _ := hu2
  have s2 := h.call b2
  simp (disch := first | omega | exact okFill_t rfl | exact okSize_t rfl | exact fun h => h | (simp only [World.size_alloc, World.size_drew, World.size_setCell, size_fill, bytesW]; omega)) only [go_sem, c31, c31S0, c31S1, c31S2, c31S3, c31S4, c31S5, c31S6, c31S7, c31S8, c31S9, c31S10, Hd.enc]
  have s3 := s2.box #[.int .u64 hd.seq, .int .i64 hd.used, .int .i64 hd.room, .int .i64 hd.pages] 73
  have r3 := s3.rules 0 rfl
  refine mmG (ek := intK) (ev := strK) ?_
  have s4 := s3.lay (mapG intK strK [] 0)
  rw [World.size_alloc] at s4
  have hzl := s4.low 1 rfl
  simp (disch := first | omega | exact okFill_t rfl | exact okSize_t rfl | exact fun h => h | (simp only [World.size_alloc, World.size_drew, World.size_setCell, size_fill, bytesW]; omega)) only [go_sem, c31, c31S0, c31S1, c31S2, c31S3, c31S4, c31S5, c31S6, c31S7, c31S8, c31S9, c31S10, r3]
  generalize (w2.alloc (.cells #[.int .u64 hd.seq, .int .i64 hd.used, .int .i64 hd.room, .int .i64 hd.pages] 73)) = w3 at s3 s4 ⊢
  generalize w3.alloc (mapG intK strK [] 0) = w4 at s4 hzl ⊢
  generalize w2.heap.size = z at s4 hzl ⊢
  generalize hmb : z + 1 = mb at s4 ⊢
  refine bdW_built (cells := #[.pointer (some ⟨g, 0, none⟩), .int .u64 hd.seq, .int .i64 hd.used, .int .i64 hd.room, .int .i64 hd.pages, .map (some mb), .bool false]) (by kernel_rfl) ?_
  have s5 := s4.box #[.pointer (some ⟨g, 0, none⟩), .int .u64 hd.seq, .int .i64 hd.used, .int .i64 hd.room, .int .i64 hd.pages, .map (some mb), .bool false] 76
  have r5 := s5.rules 2 rfl
  have hu' : (0 : Int) < hd.used := by omega
  simp (disch := first | omega | exact okFill_t rfl | exact okSize_t rfl | exact fun h => h | (simp only [World.size_alloc, World.size_drew, World.size_setCell, size_fill, bytesW]; omega)) only [go_sem, c31, c31S0, c31S1, c31S2, c31S3, c31S4, c31S5, c31S6, c31S7, c31S8, c31S9, c31S10, r5, hu']
  generalize w4.heap.size = b at s5 ⊢
  generalize w4.alloc (.cells #[.pointer (some ⟨g, 0, none⟩), .int .u64 hd.seq, .int .i64 hd.used, .int .i64 hd.room, .int .i64 hd.pages, .map (some mb), .bool false] 76) = w5 at s5 ⊢
  have s6 : St W0 w5 F (.row (.slice none 0 0) 9 1 0 [] :: (StoL b mb g vb vl ⟨hd, [], 0, false, m⟩ ++ L)) I := (s5.sub (List.Sublist.cons_cons _ (List.Sublist.cons_cons _ (List.sublist_cons_self _ _)))).nilRow 9 1
  clear s5 s4 s3 s2 r3 r5
  have hrd : ∀ k : Nat, k < (packL l).length → readN m (2 + (k : Int)) = ((packL l).getD k [], 0) := fun k hk => by
    have e1 : readyN m (2 + (k : Int)) = 0 := by
      unfold readyN
      rw [if_neg (by rw [hg]; decide), if_pos (by omega)]
    unfold readN
    rw [if_pos e1, hl, show (2 + (k : Int)).toNat = 2 + k by omega, d.jou.jou k (by omega)]
    rfl
  have hul : (hd.used : Int) = (packL l).length := by omega
  rw [hul]
  refine W_loopU (fun q : Nat × Value => [(7, q.2), (32, .int .i64 q.1)]) (fun q w' => q.1 ≤ (packL l).length ∧ St W0 w' F (.row q.2 9 1 q.1 (((packL l).take q.1).flatMap strE) :: (StoL b mb g vb vl ⟨hd, [], 0, false, m⟩ ++ L)) I) (fun q => (packL l).length - q.1) (0, .slice none 0 0) rfl ⟨Nat.zero_le _, by simpa using s6⟩ ?_
  clear s6
  rintro ⟨k, vo⟩ w6 ⟨hk, s6⟩
  simp only at hk s6
  obtain ⟨ao, co, rfl, _⟩ := own_slice (s6.row 0 rfl)
  by_cases hlt : k < (packL l).length
  · have hlt' : (k : Int) < (packL l).length := by omega
    have s7 : St W0 w6 F (StoL b mb g vb vl ⟨hd, [], 0, false, m⟩ ++ ([.row (.slice ao k co) 9 1 k (((packL l).take k).flatMap strE)] ++ L)) I := St.front (A := [_]) (D := StoL b mb g vb vl _) (L := L) s6
    simp (disch := first | omega | exact okFill_t rfl | exact okSize_t rfl | exact fun h => h | (simp only [World.size_alloc, World.size_drew, World.size_setCell, size_fill, bytesW]; omega)) only [go_sem, c31, c31S0, c31S1, c31S2, c31S3, c31L0, c31S4, c31S5, c31S6, c31S7, c31S8, c31S9, c31S10, c31L0, hlt']
    refine ⟨by constructor <;> omega, Ret.mono (read_ok (2 + (k : Int)) (sto_disk s7) ok) ?_⟩
    rintro _ w7 ⟨rfl, b7⟩
    have s8 := s6.call b7
    rw [hrd k hlt]
    have hgk : (packL l).getD k [] = (packL l)[k] := by rw [List.getD_eq_getElem?_getD, List.getElem?_eq_getElem hlt]; rfl
    rw [hgk]
    have ones : ∀ u ∈ strE (packL l)[k], u.oneCell' = true := by simpa using strE_ones [(packL l)[k]]
    simp (disch := first | omega | exact okFill_t rfl | exact okSize_t rfl | exact fun h => h | (simp only [World.size_alloc, World.size_drew, World.size_setCell, size_fill, bytesW]; omega)) only [go_sem, c31, c31S0, c31S1, c31S2, c31S3, c31L0, c31S4, c31S5, c31S6, c31S7, c31S8, c31S9, c31S10]
    refine bsW_ones ty36mkI rfl rfl (by decide) (by decide) ones ?_
    have hx : Rd (w7.alloc (.cells (strE (packL l)[k]).toArray 9)) 1 (.slice (some ⟨w7.heap.size, 0, none⟩) 1 1) 1 (strE (packL l)[k]) := rd_new (n := 1) (cs := (strE (packL l)[k]).toArray) rfl
    simp (disch := first | omega | exact okFill_t rfl | exact okSize_t rfl | exact fun h => h | (simp only [World.size_alloc, World.size_drew, World.size_setCell, size_fill, bytesW]; omega)) only [go_sem, c31, c31S0, c31S1, c31S2, c31S3, c31L0, c31S4, c31S5, c31S6, c31S7, c31S8, c31S9, c31S10]
    refine (s8.alloc' (.cells (strE (packL l)[k]).toArray 9)).append 0 rfl ty36mkI rfl (by decide) hx ones (by omega) (by omega) ?_
    intro v9 w9 s9 c9
    simp (disch := first | omega | exact okFill_t rfl | exact okSize_t rfl | exact fun h => h | (simp only [World.size_alloc, World.size_drew, World.size_setCell, size_fill, bytesW]; omega)) only [go_sem, c31, c31S0, c31S1, c31S2, c31S3, c31L0, c31S4, c31S5, c31S6, c31S7, c31S8, c31S9, c31S10]
    refine ⟨by constructor <;> omega, (k + 1, v9), rfl, ⟨by omega, st_recast s9 ?_⟩, by simp only; omega⟩
    rw [List.take_succ_eq_append_getElem hlt, strE_snoc]; rfl
  · have hlt' : ¬ (k : Int) < (packL l).length := by omega
    obtain rfl : k = (packL l).length := by omega
    rw [List.take_length] at s6
    simp (disch := first | omega | exact okFill_t rfl | exact okSize_t rfl | exact fun h => h | (simp only [World.size_alloc, World.size_drew, World.size_setCell, size_fill, bytesW]; omega)) only [go_sem, c31, c31S0, c31S1, c31S2, c31S3, c31L0, c31S4, c31S5, c31S6, c31S7, c31S8, c31S9, c31S10, c31L0, hlt']
    have un := unpack_un (unpack_pack d.jou.few fun p hp => by have := d.jou.pages p hp; exact ⟨this.1, by omega, this.2.2⟩) (packL_256 l fun p hp => (d.jou.pages p hp).2.2)
    refine Ret.mono (unpack_ok s6 un) ?_
    rintro _ w7 ⟨vp, rfl, s7⟩
    obtain ⟨ap, cp, rfl, _⟩ := own_slice (s7.row 0 rfl)
    have s8 := s7.seal (.rd 2 pendV (.slice ap l.length cp) l) (RdS.of_own' (s7.row 0 rfl) l rfl rfl) fun k hk => slFoot_own hk
    have s9 : St W0 w7 F (StoL b mb g vb vl ⟨hd, [], 0, false, m⟩ ++ L) (.rd 2 pendV (.slice ap l.length cp) l :: I) := s8.sub (List.sublist_cons_self _ _)
    have hh : (nextH hd 0).ok := nextH_ok t (by omega)
    simp (disch := first | omega | exact okFill_t rfl | exact okSize_t rfl | exact fun h => h | (simp only [World.size_alloc, World.size_drew, World.size_setCell, size_fill, bytesW]; omega)) only [go_sem, c31, c31S0, c31S1, c31S2, c31S3, c31L0, c31S4, c31S5, c31S6, c31S7, c31S8, c31S9, c31S10]
    refine Ret.mono (home_ok s9 ok hh d.jou.pages d.jou.few ⟨show hd.room ≤ 2048 by omega, show hd.pages ≤ 1024 by omega⟩ (show m.late.length < 900000 by rw [hl]; decide)) ?_
    rintro _ w8 ⟨rfl, vl8, s10⟩
    have s10 := s10.inv_sub (I' := I) fun a ha => List.mem_cons_of_mem _ ha
    have fok := (finN_ok (h := hd) (l := l) ok (by rw [hl]; have := d.jou.few; simp only [List.length_nil]; omega)).1
    rcases fin_cases ⟨rfl, hl, hg⟩ t d with ⟨c1, ⟨S, u, t', bs', hm'⟩, c3⟩ | ⟨c1, c2⟩
    · simp only at s10
      rw [c1] at s10 ⊢
      rw [show headW hd 0 (nextH hd 0) = nextH hd 0 from rfl] at s10
      simp (disch := first | omega | exact okFill_t rfl | exact okSize_t rfl | exact fun h => h | (simp only [World.size_alloc, World.size_drew, World.size_setCell, size_fill, bytesW]; omega)) only [go_sem, c31, c31S0, c31S1, c31S2, c31S3, c31L0, c31S4, c31S5, c31S6, c31S7, c31S8, c31S9, c31S10]
      have hu' := u.safe
      subst hu'
      exact .inl ⟨b, mb, vl8, _, rfl, ⟨sto_ok t' fok, rfl, u.gone, u.late, t', rfl, hm', rfl⟩, c3, s10⟩
    · rw [c1] at s10 ⊢
      simp (disch := first | omega | exact okFill_t rfl | exact okSize_t rfl | exact fun h => h | (simp only [World.size_alloc, World.size_drew, World.size_setCell, size_fill, bytesW]; omega)) only [go_sem, c31, c31S0, c31S1, c31S2, c31S3, c31L0, c31S4, c31S5, c31S6, c31S7, c31S8, c31S9, c31S10]
      have s11 := (sto_disk s10).sub (L' := DkL g vb vl8 (finN m hd l).1 ++ L) (List.Sublist.append_left (List.sublist_append_right _ _) _)
      exact .inr ⟨11, vl8, _, rfl, by decide, c2.lim, ⟨fok, fun mask torn cut => ⟨P, rfl, c2.crash mask torn cut⟩⟩, s11⟩
end
end Go.Proofs.Ytmchjbgobiagiaa

namespace Go.Proofs.Ytmchjbgobiagiaa
set_option linter.unusedSimpArgs false
set_option linter.unusedVariables false
set_option maxRecDepth 100000
open Go Go.Ann Go.RowKit Go.WideShapes Go.Shelf
section
variable {va vn : Value} {was now : List Pge}
end
set_option maxRecDepth 100000 in
theorem opens_Page : Opens Try.prog 54 (fun _ (x : Pge) cs => cs = pendV x ∧ I64 x.1 ∧ (x.2.length : Int) ≤ 9223372036854775807) := by
  intro H enc w base sp hd fuel cs x hx
  obtain ⟨hl, hf⟩ := opens_fields Try.underlying54 hx
  rw [show Try.prog.cellsOf 54 = 2 by kernel_rfl] at hl
  have c_0 : Try.prog.cellsOf 3 = 1 := by kernel_rfl
  have c_1 : Try.prog.cellsOf 9 = 1 := by kernel_rfl
  match cs, hl with
  | [v0, v1], _ =>
    obtain ⟨n0, y0, g0⟩ := hf 0 _ rfl
    have h0 : DataW.trod enc Try.prog w base sp hd n0 3 (List.take (Try.prog.cellsOf 3) [v0, v1]) = some y0 := g0
    rw [c_0] at h0
    obtain ⟨a0, e0⟩ := opens_int Try.underlying3 enc w base sp hd n0 [v0] y0 h0
    have r0 : v0 = _ := (List.cons.inj e0.1).1
    obtain ⟨n1, y1, g1⟩ := hf 1 _ rfl
    have h1 : DataW.trod enc Try.prog w base sp hd n1 9 (List.take (Try.prog.cellsOf 9) [v1]) = some y1 := g1
    rw [c_1] at h1
    obtain ⟨a1, e1⟩ := opens_str Try.underlying9 enc w base sp hd n1 [v1] y1 h1
    have r1 : v1 = _ := (List.cons.inj e1.1).1
    exact ⟨(a0, a1), by rw [r0, r1]; rfl, I64_of_wf e0.2, e1.2⟩
end Go.Proofs.Ytmchjbgobiagiaa

namespace Go.Proofs.Ytmchjbgobiagiaa
set_option linter.unusedSimpArgs false
set_option linter.unusedVariables false
set_option maxRecDepth 100000
open Go Go.Ann Go.RowKit Go.WideShapes Go.Shelf
structure Bl where
  Limit : Int
  Mask : Int
  Torn : Int
  Cut : Int
def Bl.enc (a : Bl) : List Value := [.int .i64 a.Limit, .int .u64 a.Mask, .int .i64 a.Torn, .int .i64 a.Cut]
def Bl.wf (a : Bl) : Prop := I64 a.Limit ∧ (0 ≤ a.Mask ∧ a.Mask ≤ 18446744073709551615) ∧ I64 a.Torn ∧ I64 a.Cut
theorem Bl.len (a : Bl) : a.enc.length = 4 := rfl
theorem Crashy.mono {m : Dk} {Q R : List (List UInt8) → Prop} (h : Crashy m Q) (hQ : ∀ X, Q X → R X) : Crashy m R := ⟨h.ok, fun a b c => by obtain ⟨P, h1, h2⟩ := h.crash a b c; exact ⟨P, hQ P h1, h2⟩⟩
theorem Good.crashy {s : Sto} {P : List (List UInt8)} (g : Good s P) {Q : List (List UInt8) → Prop} (hQ : Q P) : Crashy s.disk Q :=
  ⟨g.ok.disk, fun mask torn cut => ⟨P, hQ, by rw [Up.kept rfl g.late]; exact ⟨_, g.top, .inl ⟨g.used, g.home⟩⟩⟩⟩
theorem Good.limit {s : Sto} {P : List (List UInt8)} (g : Good s P) (n : Int) (hn : I64 n) : Good { s with disk := { s.disk with left := n } } P :=
  ⟨⟨g.ok.hd, ⟨g.ok.disk.safe, g.ok.disk.late, hn, g.ok.disk.some, g.ok.disk.few, g.ok.disk.less⟩, g.ok.room, g.ok.pages, g.ok.few, g.ok.fit, g.ok.keys, g.ok.nd, g.ok.born, g.ok.clock⟩, g.dead, g.gone, g.late, g.top, g.used, g.base, g.home⟩
theorem Good.limit_pgs {s : Sto} {P : List (List UInt8)} (g : Good s P) (n : Int) (hn : I64 n) : pgs { s with disk := { s.disk with left := n } } = pgs s := by
  refine pgs_eq (pgs_len s) fun i hi => ?_
  rw [pgs_len] at hi
  rw [(g.limit n hn).now hi, List.getD_eq_getElem?_getD (l := pgs s), List.getElem?_eq_getElem (by rw [pgs_len]; exact hi), Option.getD_some, pgs_get, g.now hi]
theorem Good.blow {s s' : Sto} {P : List (List UInt8)} {e : Int} (g : Good s P) (hseq : s.hd.seq + 2 < 1000000) (c : ComOut s e s') :
    (e = 0 ∧ Crashy s'.disk fun X => X = pgs s) ∨ (e = 12 ∧ Crashy s'.disk fun X => X = P) ∨ (e = 11 ∧ Crashy s'.disk fun X => X = P ∨ X = pgs s) := by
  have hr : stReady s 0 = 0 := stReady_ok g.dead (by decide) (by have := g.ok.pages; omega)
  rcases c.out with ⟨h, _⟩ | ⟨_, hd, rfl, rfl⟩ | ⟨_, hd, l, hS, h⟩
  · exact absurd hr h
  · exact .inl ⟨rfl, g.crashy (g.pgs0 hd).symm⟩
  · obtain ⟨a1, a2, a3, a4, a5⟩ := g.sorted hS
    rcases h with ⟨hroom, rfl, rfl⟩ | ⟨hroom, rfl, hd', hhd, rfl⟩
    · exact .inr (.inl ⟨rfl, g.crashy rfl⟩)
    · have hl1 : l.length ≤ 1024 := by
        have h1 := dirty_len g.ok
        have h2 := g.ok.few
        omega
      have hbl : blocksN l.length ≤ 1041 := by unfold blocksN hdsN; omega
      have hcok := (comN_ok (h := s.hd) (l := l) g.ok.disk (by rw [g.late]; simp only [List.length_nil]; omega)).1
      rcases com_cases (N := pgs s) ⟨rfl, g.late, g.gone⟩ g.top g.used g.home g.base hseq hl1 a2 a3 hroom (pgs_len s) a4 a5 with ⟨c1, ⟨S, u, t, b, hm⟩, c3⟩ | ⟨c1, c2⟩
      · refine .inl ⟨c1, hcok, fun mask torn cut => ⟨_, rfl, ?_⟩⟩
        rw [Up.kept u.safe u.late]
        exact ⟨_, t, .inl ⟨rfl, hm⟩⟩
      · refine .inr (.inr ⟨c1, hcok, fun mask torn cut => ?_⟩)
        rcases c2.crash mask torn cut with h | h
        · exact ⟨P, .inl rfl, h⟩
        · exact ⟨_, .inr rfl, h⟩
section
variable {va vn vb' : Value} {was now : List Pge} {bl : List Bl}
theorem whole_ok (w : World) (ha : RdS w 2 pendV va was) (hn : RdS w 2 pendV vn now) (hb : RdS w 4 Bl.enc vb' bl) (hal : (was.length : Int) ≤ 9223372036854775807) (hnl : (now.length : Int) ≤ 9223372036854775807) (hbl : (bl.length : Int) ≤ 9223372036854775807) (hwf : ∀ x ∈ bl, x.wf) :
    Ret Try.prog 7 [va, vn, vb'] w fun u w' => u = .bool true ∧ Below w.heap.size w w' := by
  refine ent7 _ _ _ _ _ ?_
  simp (disch := first | omega | exact okFill_t rfl | exact okSize_t rfl | exact fun h => h | (simp only [World.size_alloc, World.size_drew, World.size_setCell, size_fill, bytesW]; omega)) only [go_sem, c7, c7S0, c7S1, c7S2, c7S3, c7S4, c7S5, c7S6, c7S7, c7S8, c7S9, c7S10, c7S11, c7S12, c7S13, c7S14, c7S15, c7S16, c7S17, c7S18, c7S19, c7S20, c7S21]
  refine Ret.mono (begun4_ok (n := 24) (room := 9) ((((St.start (W0 := w)).old hb (by decide)).old hn (by decide)).old ha (by decide)) (by decide) (by decide) (by decide)) ?_
  rintro _ w2 ⟨b, mb, g, vb, vl, rfl, s2⟩
  have g2 := sto4_good (n := 24) (room := 9) (by decide) (by decide) (by decide)
  have h2 : (sto4 24 9).hd.pages = 13 ∧ (sto4 24 9).hd.room = 9 ∧ (sto4 24 9).hd.seq = 2 ∧ (sto4 24 9).disk.left = -1 ∧ (sto4 24 9).disk.late = [] := ⟨rfl, rfl, rfl, rfl, rfl⟩
  generalize sto4 24 9 = t2 at s2 g2 h2
  simp (disch := first | omega | exact okFill_t rfl | exact okSize_t rfl | exact fun h => h | (simp only [World.size_alloc, World.size_drew, World.size_setCell, size_fill, bytesW]; omega)) only [go_sem, c7, c7S0, c7S1, c7S2, c7S3, c7S4, c7S5, c7S6, c7S7, c7S8, c7S9, c7S10, c7S11, c7S12, c7S13, c7S14, c7S15, c7S16, c7S17, c7S18, c7S19, c7S20, c7S21]
  refine Ret.mono (writes_ok s2 hal) ?_
  rintro _ w3 ⟨rfl, s3⟩
  obtain ⟨g3, e3, f3, p3⟩ := g2.writes (was.take 30)
  generalize writesN t2 (was.take 30) = t3 at s3 g3 e3 f3 p3
  simp (disch := first | omega | exact okFill_t rfl | exact okSize_t rfl | exact fun h => h | (simp only [World.size_alloc, World.size_drew, World.size_setCell, size_fill, bytesW]; omega)) only [go_sem, c7, c7S0, c7S1, c7S2, c7S3, c7S4, c7S5, c7S6, c7S7, c7S8, c7S9, c7S10, c7S11, c7S12, c7S13, c7S14, c7S15, c7S16, c7S17, c7S18, c7S19, c7S20, c7S21]
  refine Ret.mono (scommit_ok s3 g3.ok (by rw [e3, h2.2.2.1]; decide) (by rw [g3.late]; decide)) ?_
  rintro _ w4 ⟨e, t4, vl4, rfl, hc, s4⟩
  obtain ⟨P, g4, d4, pg4, sq4, lf4⟩ : ∃ P, Good t4 P ∧ t4.dirty = [] ∧ t4.hd.pages = 13 ∧ t4.hd.seq ≤ 4 ∧ t4.disk.left = -1 := by
    rcases g3.commit (by rw [f3]; exact h2.2.2.2.1) (by rw [e3, h2.2.2.1]; decide) hc with ⟨_, _, g4, d4, left4, q1, q2, q3, _⟩ | ⟨_, _, _, rfl⟩
    · exact ⟨_, g4, d4, by rw [q1, e3, h2.1], by rw [e3, h2.2.2.1] at q3; exact q3, left4⟩
    · exact ⟨_, g3.drop, rfl, by show t3.hd.pages = 13; rw [e3, h2.1], by show t3.hd.seq ≤ 4; rw [e3, h2.2.2.1]; decide, by show t3.disk.left = -1; rw [f3]; exact h2.2.2.2.1⟩
  have p4 := g4.pgs0 d4
  have hPl : P.length = 13 := by rw [g4.len, pg4]
  simp (disch := first | omega | exact okFill_t rfl | exact okSize_t rfl | exact fun h => h | (simp only [World.size_alloc, World.size_drew, World.size_setCell, size_fill, bytesW]; omega)) only [go_sem, c7, c7S0, c7S1, c7S2, c7S3, c7S4, c7S5, c7S6, c7S7, c7S8, c7S9, c7S10, c7S11, c7S12, c7S13, c7S14, c7S15, c7S16, c7S17, c7S18, c7S19, c7S20, c7S21]
  refine Ret.mono (all_ok s4 g4.ok g4.dead g4.gone) ?_
  rintro vold w5 s5
  rw [p4] at s5
  simp (disch := first | omega | exact okFill_t rfl | exact okSize_t rfl | exact fun h => h | (simp only [World.size_alloc, World.size_drew, World.size_setCell, size_fill, bytesW]; omega)) only [go_sem, c7, c7S0, c7S1, c7S2, c7S3, c7S4, c7S5, c7S6, c7S7, c7S8, c7S9, c7S10, c7S11, c7S12, c7S13, c7S14, c7S15, c7S16, c7S17, c7S18, c7S19, c7S20, c7S21]
  have s5' := s5.inv_sub (I' := [.rd 2 pendV vn now, .rd 4 Bl.enc vb' bl]) fun a ha => by
    simp only [List.mem_cons, List.not_mem_nil, or_false] at ha ⊢
    exact .inr ha
  refine Ret.mono (writes_ok s5' hnl) ?_
  rintro _ w6 ⟨rfl, s6⟩
  obtain ⟨g6, e6, f6, p6⟩ := g4.writes (now.take 30)
  generalize writesN t4 (now.take 30) = t6 at s6 g6 e6 f6 p6
  simp (disch := first | omega | exact okFill_t rfl | exact okSize_t rfl | exact fun h => h | (simp only [World.size_alloc, World.size_drew, World.size_setCell, size_fill, bytesW]; omega)) only [go_sem, c7, c7S0, c7S1, c7S2, c7S3, c7S4, c7S5, c7S6, c7S7, c7S8, c7S9, c7S10, c7S11, c7S12, c7S13, c7S14, c7S15, c7S16, c7S17, c7S18, c7S19, c7S20, c7S21]
  refine Ret.mono (all_ok s6 g6.ok g6.dead g6.gone) ?_
  rintro vwant w7 s7
  obtain ⟨N, hN⟩ : ∃ N, N = pgs t6 := ⟨_, rfl⟩
  rw [← hN] at s7
  have hNl : N.length = 13 := by rw [hN, pgs_len, e6, pg4]
  obtain ⟨gw, cw, rfl, _⟩ := (s7.row 5 rfl).form (by omega)
  obtain ⟨go, co, rfl, _⟩ := (s7.row 6 rfl).form (by omega)
  obtain ⟨ab, cb, rfl, habc⟩ := hb.form
  have leaf : ∀ (w' : World) (K : Value → World → Prop), Below w.heap.size w w' → (∀ w'', Below w.heap.size w w'' → K (.bool true) w'') → Ret Try.prog 28 [] w' K := fun w' K hb' hK => by
    refine Ret.mono (awake4_ok w') ?_
    rintro _ w'' ⟨rfl, b'⟩
    exact hK w'' (Below.next hb' b')
  by_cases hb0 : bl.length = 0
  · have hb0' : (bl.length : Int) = 0 := by omega
    simp (disch := first | omega | exact okFill_t rfl | exact okSize_t rfl | exact fun h => h | (simp only [World.size_alloc, World.size_drew, World.size_setCell, size_fill, bytesW]; omega)) only [go_sem, c7, c7S0, c7S1, c7S2, c7S3, c7S4, c7S5, c7S6, c7S7, c7S8, c7S9, c7S10, c7S11, c7S12, c7S13, c7S14, c7S15, c7S16, c7S17, c7S18, c7S19, c7S20, c7S21, hb0']
    refine leaf w7 _ s7.bel fun w'' hb'' => ?_
    simp (disch := first | omega | exact okFill_t rfl | exact okSize_t rfl | exact fun h => h | (simp only [World.size_alloc, World.size_drew, World.size_setCell, size_fill, bytesW]; omega)) only [go_sem, c7, c7S0, c7S1, c7S2, c7S3, c7S4, c7L0, c7S5, c7S6, c7S7, c7S8, c7S9, c7S10, c7S11, c7S12, c7S13, c7S14, c7S15, c7S16, c7S17, c7S18, c7S19, c7S20, c7S21]
    exact hb''
  have hb0' : ¬ (bl.length : Int) = 0 := by omega
  have hb1' : (0 : Int) < bl.length := by omega
  have hR := s7.rd 1 rfl
  obtain ⟨qb, rfl⟩ := hR.ptr (by omega)
  have d0 := hR.elt Bl.len (by decide) (show 0 < bl.length by omega)
  have d00 : w7.cell? qb = some (.int .i64 bl[0].Limit) := by
    have := d0.1
    rwa [Nat.zero_mul, Addr.add_zero'] at this
  have hbw := hwf bl[0] (List.getElem_mem _)
  -- what follows, once the transaction's end has been tried
  have rest : ∀ (w8 : World) (vl8 : Value) (m8 : Dk) (t8 : Sto) (e : Int) (wv : Value) (Wl : List (List UInt8)) (Q : List (List UInt8) → Prop),
      St w w8 (fun _ => False) (DkL g vb vl8 m8 ++ (StoH b mb g t8 ++ [.row (.slice (some ⟨gw, 0, none⟩) N.length cw) 9 1 N.length (N.flatMap strE), .row (.slice (some ⟨go, 0, none⟩) P.length co) 9 1 P.length (P.flatMap strE)])) [.rd 2 pendV vn now, .rd 4 Bl.enc (.slice (some qb) bl.length cb) bl] →
      (wv = .slice (some ⟨gw, 0, none⟩) N.length cw ∧ Wl = N ∨ wv = .slice (some ⟨go, 0, none⟩) P.length co ∧ Wl = P) → Crashy m8 Q → (∀ X, Q X → X = Wl ∨ (e ≠ 0 ∧ X = P)) →
      W Try.prog (c7S11 ()) [(2, .slice (some qb) bl.length cb), (7, .pointer (some ⟨g, 0, none⟩)), (9, .slice (some ⟨go, 0, none⟩) P.length co), (10, wv), (11, .int .i64 e)] w8 (finQ Try.prog [.tmp 6] fun u w' => u = .bool true ∧ Below w.heap.size w w') := by
    intro w8 vl8 m8 t8 e wv Wl Q s8 hwv hcr hQ
    simp (disch := first | omega | exact okFill_t rfl | exact okSize_t rfl | exact fun h => h | (simp only [World.size_alloc, World.size_drew, World.size_setCell, size_fill, bytesW]; omega)) only [go_sem, c7, c7S0, c7S1, c7S2, c7S3, c7S4, c7S5, c7S6, c7S7, c7S8, c7S9, c7S10, c7S11, c7S12, c7S13, c7S14, c7S15, c7S16, c7S17, c7S18, c7S19, c7S20, c7S21]
    refine W_loopU (fun i : Nat => [(13, .int .i64 i)]) (fun i w' => i ≤ bl.length ∧ i ≤ 8 ∧ ∃ vl' m', Crashy m' Q ∧ St w w' (fun _ => False) (DkL g vb vl' m' ++ (StoH b mb g t8 ++ [.row (.slice (some ⟨gw, 0, none⟩) N.length cw) 9 1 N.length (N.flatMap strE), .row (.slice (some ⟨go, 0, none⟩) P.length co) 9 1 P.length (P.flatMap strE)])) [.rd 2 pendV vn now, .rd 4 Bl.enc (.slice (some qb) bl.length cb) bl]) (fun i => 8 - i) 0 rfl ⟨Nat.zero_le _, Nat.zero_le _, vl8, m8, hcr, s8⟩ ?_
    clear s8
    rintro i w9 ⟨hi1, hi2, vl9, m9, hcr9, s9⟩
    by_cases hlt : i < bl.length ∧ i < 8
    · obtain ⟨h1, h2⟩ := hlt
      have h1' : (i : Int) < bl.length := by omega
      have h2' : (i : Int) < 8 := by omega
      simp (disch := first | omega | exact okFill_t rfl | exact okSize_t rfl | exact fun h => h | (simp only [World.size_alloc, World.size_drew, World.size_setCell, size_fill, bytesW]; omega)) only [go_sem, c7, c7S0, c7S1, c7S3, c7S4, c7L0, c7S5, c7S6, c7S7, c7S8, c7S9, c7S10, c7S11, c7S12, c7S13, c7S14, c7S15, c7S16, c7S17, c7S18, c7S19, c7S20, c7S21, c7L0, h1', h2']
      obtain ⟨wl, wm, wt, wc⟩ := hwf _ (List.getElem_mem h1)
      refine c7draw0 (Same (fun k => k = qb.block) _) (Same.refl _ _) ?_
      have s10 := s9.drew
      have hR10 := s10.rd 1 rfl
      have d10 := hR10.elt Bl.len (by decide) h1
      generalize w9.drew = w10 at s10 hR10 d10 ⊢
      simp (disch := first | omega | exact okFill_t rfl | exact okSize_t rfl | exact fun h => h | (simp only [World.size_alloc, World.size_drew, World.size_setCell, size_fill, bytesW]; omega)) only [go_sem, c7, c7S0, c7S1, c7S3, c7S4, c7L0, c7S5, c7S6, c7S7, c7S8, c7S9, c7S10, c7S11, c7S12, c7S13, c7S14, c7S15, c7S16, c7S17, c7S18, c7S19, c7S20, c7S21, c7D0, h1', d10, Bl.enc]
      refine ⟨by omega, by omega, by omega, Same.refl _ _, Ret.mono (crash_ok bl[i].Mask bl[i].Torn bl[i].Cut s10 hcr9.ok wm.1 wm.2 wt wc) ?_⟩
      rintro _ w11 ⟨rfl, vl11, s11⟩
      obtain ⟨X, hX, hRX⟩ := hcr9.crash bl[i].Mask bl[i].Torn bl[i].Cut
      have ok11 := crashN_ok hcr9.ok bl[i].Mask bl[i].Torn bl[i].Cut
      have hcr11 : Crashy (crashN m9 bl[i].Mask bl[i].Torn bl[i].Cut) Q := ⟨ok11, fun a b c => ⟨X, hX, by rw [Up.kept rfl rfl]; exact hRX⟩⟩
      by_cases hn : i + 1 < bl.length
      · have hn' : (i : Int) + 1 < bl.length := by omega
        have hR11 := s11.rd 1 rfl
        have d11 := hR11.elt Bl.len (by decide) hn
        have d12 : w11.cell? (qb.add (((i : Int) + 1).toNat * 4)) = some (.int .i64 bl[i + 1].Limit) := by
          rw [show ((i : Int) + 1).toNat = i + 1 by omega]; exact d11.1
        have wn := hwf _ (List.getElem_mem hn)
        simp (disch := first | omega | exact okFill_t rfl | exact okSize_t rfl | exact fun h => h | (simp only [World.size_alloc, World.size_drew, World.size_setCell, size_fill, bytesW]; omega)) only [go_sem, c7, c7S0, c7S1, c7S2, c7S3, c7S4, c7L0, c7S5, c7S6, c7S7, c7S8, c7S9, c7S10, c7S11, c7S12, c7S13, c7S14, c7S15, c7S16, c7S17, c7S18, c7S19, c7S20, c7S21, hn', d12]
        refine ⟨by constructor <;> omega, by constructor <;> omega, by omega, Ret.mono (limit_ok bl[i + 1].Limit s11) ?_⟩
        rintro _ w12 ⟨rfl, s12⟩
        simp (disch := first | omega | exact okFill_t rfl | exact okSize_t rfl | exact fun h => h | (simp only [World.size_alloc, World.size_drew, World.size_setCell, size_fill, bytesW]; omega)) only [go_sem, c7, c7S0, c7S1, c7S2, c7S3, c7S4, c7L0, c7S5, c7S6, c7S7, c7S8, c7S9, c7S10, c7S11, c7S12, c7S13, c7S14, c7S15, c7S16, c7S17, c7S18, c7S19, c7S20, c7S21]
        refine Ret.mono (openRec_ok (P := X) s12 ⟨ok11.safe, ok11.late, wn.1, ok11.some, ok11.few, ok11.less⟩ rfl rfl hRX) ?_
        rintro u w13 h13
        rcases h13 with ⟨b13, mb13, vl13, t13, rfl, o13, _, s13⟩ | ⟨e', vl13, m13, rfl, _, _, hcr13, s13⟩
        · have s14 := (sto_disk s13).sub (L' := DkL g vb vl13 t13.disk ++ (StoH b mb g t8 ++ [.row (.slice (some ⟨gw, 0, none⟩) N.length cw) 9 1 N.length (N.flatMap strE), .row (.slice (some ⟨go, 0, none⟩) P.length co) 9 1 P.length (P.flatMap strE)])) (List.Sublist.append_left (List.sublist_append_right _ _) _)
          simp (disch := first | omega | exact okFill_t rfl | exact okSize_t rfl | exact fun h => h | (simp only [World.size_alloc, World.size_drew, World.size_setCell, size_fill, bytesW]; omega)) only [go_sem, c7, c7S0, c7S1, c7S2, c7S3, c7S4, c7L0, c7S5, c7S6, c7S7, c7S8, c7S9, c7S10, c7S11, c7S12, c7S13, c7S14, c7S15, c7S16, c7S17, c7S18, c7S19, c7S20, c7S21]
          exact ⟨by constructor <;> omega, i + 1, rfl, ⟨by omega, by omega, vl13, _, o13.crashy hX, s14⟩, by omega⟩
        · simp (disch := first | omega | exact okFill_t rfl | exact okSize_t rfl | exact fun h => h | (simp only [World.size_alloc, World.size_drew, World.size_setCell, size_fill, bytesW]; omega)) only [go_sem, c7, c7S0, c7S1, c7S2, c7S3, c7S4, c7L0, c7S5, c7S6, c7S7, c7S8, c7S9, c7S10, c7S11, c7S12, c7S13, c7S14, c7S15, c7S16, c7S17, c7S18, c7S19, c7S20, c7S21]
          exact ⟨by constructor <;> omega, i + 1, rfl, ⟨by omega, by omega, vl13, _, hcr13.mono fun Y hY => by rw [hY]; exact hX, s13⟩, by omega⟩
      · have hn' : ¬ (i : Int) + 1 < bl.length := by omega
        simp (disch := first | omega | exact okFill_t rfl | exact okSize_t rfl | exact fun h => h | (simp only [World.size_alloc, World.size_drew, World.size_setCell, size_fill, bytesW]; omega)) only [go_sem, c7, c7S0, c7S1, c7S2, c7S3, c7S4, c7L0, c7S5, c7S6, c7S7, c7S8, c7S9, c7S10, c7S11, c7S12, c7S13, c7S14, c7S15, c7S16, c7S17, c7S18, c7S19, c7S20, c7S21, hn']
        exact ⟨by constructor <;> omega, by constructor <;> omega, i + 1, rfl, ⟨by omega, by omega, vl11, _, hcr11, s11⟩, by omega⟩
    · have fin : W Try.prog (c7S10 ()) [(7, .pointer (some ⟨g, 0, none⟩)), (9, .slice (some ⟨go, 0, none⟩) P.length co), (10, wv), (12, .bool (decide (e = 0)))] w9 (finQ Try.prog [.tmp 6] fun u w' => u = .bool true ∧ Below w.heap.size w w') := by
        simp (disch := first | omega | exact okFill_t rfl | exact okSize_t rfl | exact fun h => h | (simp only [World.size_alloc, World.size_drew, World.size_setCell, size_fill, bytesW]; omega)) only [go_sem, c7, c7S0, c7S1, c7S2, c7S3, c7S4, c7L0, c7S5, c7S6, c7S7, c7S8, c7S9, c7S10, c7S11, c7S12, c7S13, c7S14, c7S15, c7S16, c7S17, c7S18, c7S19, c7S20, c7S21]
        refine Ret.mono (crash_ok 0 0 0 s9 hcr9.ok (by decide) (by decide) ⟨by decide, by decide⟩ ⟨by decide, by decide⟩) ?_
        rintro _ w10 ⟨rfl, vl10, s10⟩
        obtain ⟨X, hX, hRX⟩ := hcr9.crash 0 0 0
        simp (disch := first | omega | exact okFill_t rfl | exact okSize_t rfl | exact fun h => h | (simp only [World.size_alloc, World.size_drew, World.size_setCell, size_fill, bytesW]; omega)) only [go_sem, c7, c7S0, c7S1, c7S2, c7S3, c7S4, c7L0, c7S5, c7S6, c7S7, c7S8, c7S9, c7S10, c7S11, c7S12, c7S13, c7S14, c7S15, c7S16, c7S17, c7S18, c7S19, c7S20, c7S21]
        refine Ret.mono (openRec_ok s10 (crashN_ok hcr9.ok 0 0 0) rfl rfl hRX) ?_
        rintro u w11 h11
        rcases h11 with ⟨b11, mb11, vl11, t11, rfl, o11, l11, s11⟩ | ⟨e', vl', m', _, _, hl, _⟩
        case inr => exact absurd rfl hl
        simp (disch := first | omega | exact okFill_t rfl | exact okSize_t rfl | exact fun h => h | (simp only [World.size_alloc, World.size_drew, World.size_setCell, size_fill, bytesW]; omega)) only [go_sem, c7, c7S0, c7S1, c7S2, c7S3, c7S4, c7L0, c7S5, c7S6, c7S7, c7S8, c7S9, c7S10, c7S11, c7S12, c7S13, c7S14, c7S15, c7S16, c7S17, c7S18, c7S19, c7S20, c7S21]
        refine Ret.mono (all_ok s11 o11.ok o11.dead o11.gone) ?_
        rintro vg w12 s12
        rw [o11.pgs] at s12
        have hXl : X.length = t11.hd.pages := o11.home.1
        have hX1 := o11.ok.pages
        have hX2 := o11.ok.few
        obtain ⟨gx, cx, rfl, _⟩ := (s12.row 5 rfl).form (by omega)
        have hA : RdS w12 1 strE (.slice (some ⟨gx, 0, none⟩) X.length cx) X := RdS.of_own' (s12.row 5 rfl) _ rfl rfl
        have hB : RdS w12 1 strE wv Wl := by
          rcases hwv with ⟨rfl, rfl⟩ | ⟨rfl, rfl⟩
          · exact RdS.of_own' (s12.row 8 rfl) _ rfl rfl
          · exact RdS.of_own' (s12.row 9 rfl) _ rfl rfl
        have hC : RdS w12 1 strE (.slice (some ⟨go, 0, none⟩) P.length co) P := RdS.of_own' (s12.row 9 rfl) _ rfl rfl
        simp (disch := first | omega | exact okFill_t rfl | exact okSize_t rfl | exact fun h => h | (simp only [World.size_alloc, World.size_drew, World.size_setCell, size_fill, bytesW]; omega)) only [go_sem, c7, c7S0, c7S1, c7S2, c7S3, c7S4, c7L0, c7S5, c7S6, c7S7, c7S8, c7S9, c7S10, c7S11, c7S12, c7S13, c7S14, c7S15, c7S16, c7S17, c7S18, c7S19, c7S20, c7S21]
        refine Ret.mono (texts_ok X Wl _ wv w12 hA hB (by omega)) ?_
        rintro _ w13 ⟨rfl, b13⟩
        have s13 := s12.call b13
        by_cases hXW : X = Wl
        · have ed : decide (X = Wl) = true := decide_eq_true hXW
          rw [ed]
          simp (disch := first | omega | exact okFill_t rfl | exact okSize_t rfl | exact fun h => h | (simp only [World.size_alloc, World.size_drew, World.size_setCell, size_fill, bytesW]; omega)) only [go_sem, c7, c7S0, c7S1, c7S2, c7S3, c7S4, c7L0, c7S5, c7S6, c7S7, c7S8, c7S9, c7S10, c7S11, c7S12, c7S13, c7S14, c7S15, c7S16, c7S17, c7S18, c7S19, c7S20, c7S21]
          refine leaf w13 _ s13.bel fun w'' hb'' => ?_
          simp (disch := first | omega | exact okFill_t rfl | exact okSize_t rfl | exact fun h => h | (simp only [World.size_alloc, World.size_drew, World.size_setCell, size_fill, bytesW]; omega)) only [go_sem, c7, c7S0, c7S1, c7S2, c7S3, c7S4, c7L0, c7S5, c7S6, c7S7, c7S8, c7S9, c7S10, c7S11, c7S12, c7S13, c7S14, c7S15, c7S16, c7S17, c7S18, c7S19, c7S20, c7S21]
          exact hb''
        · obtain ⟨he, hXP⟩ := (hQ X hX).resolve_left hXW
          have ed : decide (X = Wl) = false := decide_eq_false hXW
          have ee : decide (e = 0) = false := decide_eq_false he
          rw [ed, ee]
          simp (disch := first | omega | exact okFill_t rfl | exact okSize_t rfl | exact fun h => h | (simp only [World.size_alloc, World.size_drew, World.size_setCell, size_fill, bytesW]; omega)) only [go_sem, c7, c7S0, c7S1, c7S2, c7S3, c7S4, c7L0, c7S5, c7S6, c7S7, c7S8, c7S9, c7S10, c7S11, c7S12, c7S13, c7S14, c7S15, c7S16, c7S17, c7S18, c7S19, c7S20, c7S21]
          refine Ret.mono (texts_ok X P _ _ w13 (hA.below b13 (by decide)) (hC.below b13 (by decide)) (by omega)) ?_
          rintro _ w14 ⟨rfl, b14⟩
          have s14 := s13.call b14
          have ed2 : decide (X = P) = true := decide_eq_true hXP
          rw [ed2]
          simp (disch := first | omega | exact okFill_t rfl | exact okSize_t rfl | exact fun h => h | (simp only [World.size_alloc, World.size_drew, World.size_setCell, size_fill, bytesW]; omega)) only [go_sem, c7, c7S0, c7S1, c7S2, c7S3, c7S4, c7L0, c7S5, c7S6, c7S7, c7S8, c7S9, c7S10, c7S11, c7S12, c7S13, c7S14, c7S15, c7S16, c7S17, c7S18, c7S19, c7S20, c7S21]
          refine leaf w14 _ s14.bel fun w'' hb'' => ?_
          simp (disch := first | omega | exact okFill_t rfl | exact okSize_t rfl | exact fun h => h | (simp only [World.size_alloc, World.size_drew, World.size_setCell, size_fill, bytesW]; omega)) only [go_sem, c7, c7S0, c7S1, c7S2, c7S3, c7S4, c7L0, c7S5, c7S6, c7S7, c7S8, c7S9, c7S10, c7S11, c7S12, c7S13, c7S14, c7S15, c7S16, c7S17, c7S18, c7S19, c7S20, c7S21]
          exact hb''
      by_cases h1 : i < bl.length
      · have h1' : (i : Int) < bl.length := by omega
        have h2' : ¬ (i : Int) < 8 := by omega
        simp (disch := first | omega | exact okFill_t rfl | exact okSize_t rfl | exact fun h => h | (simp only [World.size_alloc, World.size_drew, World.size_setCell, size_fill, bytesW]; omega)) only [go_sem, c7, c7S0, c7S1, c7S2, c7S3, c7S4, c7L0, c7S5, c7S6, c7S7, c7S8, c7S9, c7S11, c7S12, c7S13, c7S14, c7S15, c7S16, c7S17, c7S18, c7S19, c7S20, c7S21, c7L0, h1', h2']
        exact fin
      · have h1' : ¬ (i : Int) < bl.length := by omega
        simp (disch := first | omega | exact okFill_t rfl | exact okSize_t rfl | exact fun h => h | (simp only [World.size_alloc, World.size_drew, World.size_setCell, size_fill, bytesW]; omega)) only [go_sem, c7, c7S0, c7S1, c7S2, c7S3, c7S4, c7L0, c7S5, c7S6, c7S7, c7S8, c7S9, c7S11, c7S12, c7S13, c7S14, c7S15, c7S16, c7S17, c7S18, c7S19, c7S20, c7S21, c7L0, h1']
        exact fin
  simp (disch := first | omega | exact okFill_t rfl | exact okSize_t rfl | exact fun h => h | (simp only [World.size_alloc, World.size_drew, World.size_setCell, size_fill, bytesW]; omega)) only [go_sem, c7, c7S0, c7S1, c7S2, c7S3, c7S4, c7L0, c7S5, c7S6, c7S7, c7S8, c7S9, c7S10, c7S12, c7S13, c7S14, c7S15, c7S16, c7S17, c7S18, c7S19, c7S20, c7S21, hb0', hb1', d00, Bl.enc]
  refine Ret.mono (limit_ok bl[0].Limit (sto_disk s7)) ?_
  rintro _ w8 ⟨rfl, s8⟩
  have s9 := disk_sto s8
  have g9 : Good { t6 with disk := { t6.disk with left := bl[0].Limit } } P := g6.limit _ hbw.1
  have hp9 : pgs { t6 with disk := { t6.disk with left := bl[0].Limit } } = N := by rw [hN]; exact g6.limit_pgs _ hbw.1
  generalize ht9 : ({ t6 with disk := { t6.disk with left := bl[0].Limit } } : Sto) = t9 at s9 g9 hp9
  have q9 : t9.hd.seq ≤ 4 := by rw [← ht9]; show t6.hd.seq ≤ 4; rw [e6]; exact sq4
  simp (disch := first | omega | exact okFill_t rfl | exact okSize_t rfl | exact fun h => h | (simp only [World.size_alloc, World.size_drew, World.size_setCell, size_fill, bytesW]; omega)) only [go_sem, c7, c7S0, c7S1, c7S2, c7S3, c7S4, c7L0, c7S5, c7S6, c7S7, c7S8, c7S9, c7S10, c7S12, c7S13, c7S14, c7S15, c7S16, c7S17, c7S18, c7S19, c7S20, c7S21]
  refine Ret.mono (scommit_ok s9 g9.ok (by omega) (by rw [g9.late]; decide)) ?_
  rintro _ w10 ⟨e, t10, vl10, rfl, hc10, s10⟩
  have s11 := sto_disk s10
  rcases g9.blow (by omega) hc10 with ⟨rfl, hcr⟩ | ⟨rfl, hcr⟩ | ⟨rfl, hcr⟩
  · simp (disch := first | omega | exact okFill_t rfl | exact okSize_t rfl | exact fun h => h | (simp only [World.size_alloc, World.size_drew, World.size_setCell, size_fill, bytesW]; omega)) only [go_sem, c7, c7S0, c7S1, c7S2, c7S3, c7S4, c7L0, c7S5, c7S6, c7S7, c7S8, c7S9, c7S10, c7S12, c7S13, c7S14, c7S15, c7S16, c7S17, c7S18, c7S19, c7S20, c7S21]
    rw [hp9] at hcr
    exact rest w10 vl10 _ t10 0 _ N _ s11 (.inl ⟨rfl, rfl⟩) hcr fun X hX => .inl hX
  · simp (disch := first | omega | exact okFill_t rfl | exact okSize_t rfl | exact fun h => h | (simp only [World.size_alloc, World.size_drew, World.size_setCell, size_fill, bytesW]; omega)) only [go_sem, c7, c7S0, c7S1, c7S2, c7S3, c7S4, c7L0, c7S5, c7S6, c7S7, c7S8, c7S9, c7S10, c7S12, c7S13, c7S14, c7S15, c7S16, c7S17, c7S18, c7S19, c7S20, c7S21]
    exact rest w10 vl10 _ t10 12 _ P _ s11 (.inr ⟨rfl, rfl⟩) hcr fun X hX => .inl hX
  · simp (disch := first | omega | exact okFill_t rfl | exact okSize_t rfl | exact fun h => h | (simp only [World.size_alloc, World.size_drew, World.size_setCell, size_fill, bytesW]; omega)) only [go_sem, c7, c7S0, c7S1, c7S2, c7S3, c7S4, c7L0, c7S5, c7S6, c7S7, c7S8, c7S9, c7S10, c7S12, c7S13, c7S14, c7S15, c7S16, c7S17, c7S18, c7S19, c7S20, c7S21]
    rw [hp9] at hcr
    exact rest w10 vl10 _ t10 11 _ N _ s11 (.inl ⟨rfl, rfl⟩) hcr fun X hX => hX.symm.imp id fun h => ⟨by decide, h⟩
end
set_option maxRecDepth 100000 in
theorem opens_Blow : Opens Try.prog 61 (fun _ (x : Bl) cs => cs = x.enc ∧ x.wf) := by
  intro H enc w base sp hd fuel cs x hx
  obtain ⟨hl, hf⟩ := opens_fields Try.underlying61 hx
  rw [show Try.prog.cellsOf 61 = 4 by kernel_rfl] at hl
  have c_0 : Try.prog.cellsOf 3 = 1 := by kernel_rfl
  have c_1 : Try.prog.cellsOf 59 = 1 := by kernel_rfl
  match cs, hl with
  | [v0, v1, v2, v3], _ =>
    obtain ⟨n0, y0, g0⟩ := hf 0 _ rfl
    have h0 : DataW.trod enc Try.prog w base sp hd n0 3 (List.take (Try.prog.cellsOf 3) [v0, v1, v2, v3]) = some y0 := g0
    rw [c_0] at h0
    obtain ⟨a0, e0⟩ := opens_int Try.underlying3 enc w base sp hd n0 [v0] y0 h0
    have r0 : v0 = _ := (List.cons.inj e0.1).1
    obtain ⟨n1, y1, g1⟩ := hf 1 _ rfl
    have h1 : DataW.trod enc Try.prog w base sp hd n1 59 (List.take (Try.prog.cellsOf 59) [v1, v2, v3]) = some y1 := g1
    rw [c_1] at h1
    obtain ⟨a1, e1⟩ := opens_int Try.underlying59 enc w base sp hd n1 [v1] y1 h1
    have r1 : v1 = _ := (List.cons.inj e1.1).1
    obtain ⟨n2, y2, g2⟩ := hf 2 _ rfl
    have h2 : DataW.trod enc Try.prog w base sp hd n2 3 (List.take (Try.prog.cellsOf 3) [v2, v3]) = some y2 := g2
    rw [c_0] at h2
    obtain ⟨a2, e2⟩ := opens_int Try.underlying3 enc w base sp hd n2 [v2] y2 h2
    have r2 : v2 = _ := (List.cons.inj e2.1).1
    obtain ⟨n3, y3, g3⟩ := hf 3 _ rfl
    have h3 : DataW.trod enc Try.prog w base sp hd n3 3 (List.take (Try.prog.cellsOf 3) [v3]) = some y3 := g3
    rw [c_0] at h3
    obtain ⟨a3, e3⟩ := opens_int Try.underlying3 enc w base sp hd n3 [v3] y3 h3
    have r3 : v3 = _ := (List.cons.inj e3.1).1
    refine ⟨⟨a0, a1, a2, a3⟩, by rw [r0, r1, r2, r3]; rfl, I64_of_wf e0.2, ?_, I64_of_wf e2.2, I64_of_wf e3.2⟩
    have := e1.2
    simp [kOk, Lit.wf, IntKind.min, IntKind.max, IntKind.signed, IntKind.bits] at this
    exact ⟨show 0 ≤ a1 by omega, show a1 ≤ 18446744073709551615 by omega⟩
theorem whole_law {H : Type} {enc : TypeId × Value → H} {w : World} {r : Reach} {b0 b1 b2 base0 base1 base2 : Nat} {sp0 sp1 sp2 : Nat → Bool} {hd0 hd1 hd2 : Bool} {v0 v1 v2 : Value} {d0 d1 d2 : DataW H} {ps0 ps1 ps2 : List MemPlace} (h0 : Value.okWide Try.prog w r b0 48 v0)
    (k0 : DataW.Trod enc Try.prog w base0 sp0 hd0 48 v0 d0 ps0) (h1 : Value.okWide Try.prog w r b1 48 v1) (k1 : DataW.Trod enc Try.prog w base1 sp1 hd1 48 v1 d1 ps1) (h2 : Value.okWide Try.prog w r b2 57 v2) (k2 : DataW.Trod enc Try.prog w base2 sp2 hd2 57 v2 d2 ps2) :
    Ret Try.prog 7 [v0, v1, v2] w fun u w' => u = .bool true ∧ Below w.heap.size w w' := by
  obtain ⟨xs, q1, q2⟩ := Opens.slice_arg (opens_slice opens_Page Try.underlying48 (by kernel_rfl)) Try.underlying48 h0 k0
  obtain ⟨ys, q3, q4⟩ := Opens.slice_arg (opens_slice opens_Page Try.underlying48 (by kernel_rfl)) Try.underlying48 h1 k1
  obtain ⟨zs, q7, q8⟩ := Opens.slice_arg (opens_slice opens_Blow Try.underlying57 (by kernel_rfl)) Try.underlying57 h2 k2
  obtain ⟨q5, _⟩ := q1.plain (enc := pendV) (ok := fun _ => True) fun x c h => ⟨h.1, trivial⟩
  obtain ⟨q6, _⟩ := q3.plain (enc := pendV) (ok := fun _ => True) fun x c h => ⟨h.1, trivial⟩
  obtain ⟨q9, q10⟩ := q7.plain (enc := Bl.enc) (ok := Bl.wf) fun x c h => h
  exact whole_ok w q5 q6 q9 q2 q4 q8 q10
end Go.Proofs.Ytmchjbgobiagiaa
