/- Texts put together by program. -/
import Derived.Test.YtmchjbgobiagiaaQG3
namespace Go.Proofs.Ytmchjbgobiagiaa
set_option linter.unusedSimpArgs false
set_option linter.unusedVariables false
set_option maxRecDepth 100000
open Go Go.Ann Go.RowKit Go.WideShapes Go.Shelf
section
variable {v : Value} {l : List Pge}
theorem sfull_ok (w : World) (r : Nat) (hr : r < 256) (ha : RdS w 2 pendV v l) (hal : (l.length : Int) ≤ 9223372036854775807) :
    Ret Try.prog 9 [.int .u8 r, v] w fun u w' => u = .bool true ∧ Below w.heap.size w w' := by
  have ed : ∀ X : List (List UInt8), decide (X = X) = true := fun X => by simp
  obtain ⟨k, hk⟩ : ∃ k : Nat, k = r % 12 + 1 := ⟨_, rfl⟩
  have et : (r : Int).tmod 12 + 1 = (k : Int) := by
    show (r : Int).tmod ((12 : Nat) : Int) + 1 = k
    rw [← Int.ofNat_tmod]
    omega
  have et0 : I64 ((r : Int).tmod 12) := by
    generalize (r : Int).tmod 12 = z at et
    constructor <;> omega
  refine ent9 _ _ _ _ ?_
  simp (disch := first | omega | exact okFill_t rfl | exact okSize_t rfl | exact fun h => h | (simp only [World.size_alloc, World.size_drew, World.size_setCell, size_fill, bytesW]; omega)) only [go_sem, c9, c9S0, c9S1, c9S2, c9S3, c9S4, c9S5, c9S6, c9S7, c9S8, c9S9, c9S10]
  rw [et]
  refine ⟨et0, by constructor <;> omega, Ret.mono (begun4_ok (n := 40) (room := k) ((St.start (W0 := w)).old ha (by decide)) (by omega) (by omega) (by omega)) ?_⟩
  rintro _ w2 ⟨b, mb, g, vb, vl, rfl, s2⟩
  have g2 := sto4_good (n := 40) (room := k) (by omega) (by omega) (by omega)
  have h2 : (sto4 40 k).hd.pages = 38 - k ∧ (sto4 40 k).hd.room = k ∧ (sto4 40 k).hd.seq = 2 ∧ (sto4 40 k).disk.left = -1 ∧ (sto4 40 k).disk.late = [] := ⟨by show min (40 - 2 - k) 1024 = _; omega, rfl, rfl, rfl, rfl⟩
  have p2 := g2.pgs0 rfl
  generalize sto4 40 k = t2 at s2 g2 h2 p2
  obtain ⟨P, hP⟩ : ∃ P, P = pgs t2 := ⟨_, rfl⟩
  have hPl : P.length = 38 - k := by rw [hP, pgs_len, h2.1]
  rw [← p2, ← hP] at g2
  simp (disch := first | omega | exact okFill_t rfl | exact okSize_t rfl | exact fun h => h | (simp only [World.size_alloc, World.size_drew, World.size_setCell, size_fill, bytesW]; omega)) only [go_sem, c9, c9S0, c9S1, c9S2, c9S3, c9S4, c9S5, c9S6, c9S7, c9S8, c9S9, c9S10]
  refine Ret.mono (all_ok s2 g2.ok g2.dead g2.gone) ?_
  rintro vold w3 s3
  rw [← hP] at s3
  simp (disch := first | omega | exact okFill_t rfl | exact okSize_t rfl | exact fun h => h | (simp only [World.size_alloc, World.size_drew, World.size_setCell, size_fill, bytesW]; omega)) only [go_sem, c9, c9S0, c9S1, c9S2, c9S3, c9S4, c9S5, c9S6, c9S7, c9S8, c9S9, c9S10]
  refine Ret.mono (writes_ok s3 hal) ?_
  rintro _ w4 ⟨rfl, s4⟩
  obtain ⟨g4, e4, f4, p4⟩ := g2.writes (l.take 30)
  rw [← hP] at p4
  generalize writesN t2 (l.take 30) = t4 at s4 g4 e4 f4 p4
  have dl4 := dirty_len g4.ok
  rw [e4, h2.1] at dl4
  simp (disch := first | omega | exact okFill_t rfl | exact okSize_t rfl | exact fun h => h | (simp only [World.size_alloc, World.size_drew, World.size_setCell, size_fill, bytesW]; omega)) only [go_sem, c9, c9S0, c9S1, c9S2, c9S3, c9S4, c9S5, c9S6, c9S7, c9S8, c9S9, c9S10]
  refine Ret.mono (dirty_ok s4 g4.ok) ?_
  rintro _ w5 ⟨a5, c5, rfl, s5⟩
  simp (disch := first | omega | exact okFill_t rfl | exact okSize_t rfl | exact fun h => h | (simp only [World.size_alloc, World.size_drew, World.size_setCell, size_fill, bytesW]; omega)) only [go_sem, c9, c9S0, c9S1, c9S2, c9S3, c9S4, c9S5, c9S6, c9S7, c9S8, c9S9, c9S10]
  refine Ret.mono (all_ok s5 g4.ok g4.dead g4.gone) ?_
  rintro vw w6 s6
  obtain ⟨Q, hQ⟩ : ∃ Q, Q = pgs t4 := ⟨_, rfl⟩
  have hQl : Q.length = 38 - k := by rw [hQ, pgs_len, e4, h2.1]
  rw [← hQ] at s6
  simp (disch := first | omega | exact okFill_t rfl | exact okSize_t rfl | exact fun h => h | (simp only [World.size_alloc, World.size_drew, World.size_setCell, size_fill, bytesW]; omega)) only [go_sem, c9, c9S0, c9S1, c9S2, c9S3, c9S4, c9S5, c9S6, c9S7, c9S8, c9S9, c9S10]
  refine Ret.mono (scommit_ok s6 g4.ok (by rw [e4, h2.2.2.1]; decide) (by rw [g4.late]; decide)) ?_
  rintro _ w7 ⟨e, t7, vl7, rfl, hc, s7⟩
  have hfin := g4.commit (by rw [f4]; exact h2.2.2.2.1) (by rw [e4, h2.2.2.1]; decide) hc
  rw [e4, h2.2.1] at hfin
  have hB0 : RdS w7 1 strE vold P := RdS.of_own' (s7.row 6 rfl) _ rfl rfl
  have hQ0 : RdS w7 1 strE vw Q := RdS.of_own' (s7.row 5 rfl) _ rfl rfl
  rcases hfin with ⟨rfl, hn, g7, d7, _⟩ | ⟨rfl, hn, hr7, rfl⟩
  · have p7 : pgs t7 = Q := by rw [g7.pgs0 d7, hQ]
    have rest : W Try.prog (c9S3 ()) [(7, .pointer (some ⟨b, 0, none⟩)), (10, vw), (11, .int .i64 0)] w7 (finQ Try.prog [.tmp 4] fun u w' => u = .bool true ∧ Below w.heap.size w w') := by
      simp (disch := first | omega | exact okFill_t rfl | exact okSize_t rfl | exact fun h => h | (simp only [World.size_alloc, World.size_drew, World.size_setCell, size_fill, bytesW]; omega)) only [go_sem, c9, c9S0, c9S1, c9S2, c9S3, c9S4, c9S5, c9S6, c9S7, c9S8, c9S9, c9S10]
      refine Ret.mono (all_ok s7 g7.ok g7.dead g7.gone) ?_
      rintro v8 w8 s8
      rw [p7] at s8
      have hA : RdS w8 1 strE v8 Q := RdS.of_own' (s8.row 5 rfl) _ rfl rfl
      have hB : RdS w8 1 strE vw Q := RdS.of_own' (s8.row 6 rfl) _ rfl rfl
      simp (disch := first | omega | exact okFill_t rfl | exact okSize_t rfl | exact fun h => h | (simp only [World.size_alloc, World.size_drew, World.size_setCell, size_fill, bytesW]; omega)) only [go_sem, c9, c9S0, c9S1, c9S2, c9S3, c9S4, c9S5, c9S6, c9S7, c9S8, c9S9, c9S10]
      refine Ret.mono (texts_ok Q Q v8 _ w8 hA hB (by omega)) ?_
      rintro _ w9 ⟨rfl, b9⟩
      rw [ed]
      have s9 := s8.call b9
      simp (disch := first | omega | exact okFill_t rfl | exact okSize_t rfl | exact fun h => h | (simp only [World.size_alloc, World.size_drew, World.size_setCell, size_fill, bytesW]; omega)) only [go_sem, c9, c9S0, c9S1, c9S2, c9S3, c9S4, c9S5, c9S6, c9S7, c9S8, c9S9, c9S10]
      refine Ret.mono (awake4_ok w9) ?_
      rintro _ w10 ⟨rfl, b10⟩
      simp (disch := first | omega | exact okFill_t rfl | exact okSize_t rfl | exact fun h => h | (simp only [World.size_alloc, World.size_drew, World.size_setCell, size_fill, bytesW]; omega)) only [go_sem, c9, c9S0, c9S1, c9S2, c9S3, c9S4, c9S5, c9S6, c9S7, c9S8, c9S9, c9S10]
      exact Below.next s9.bel b10
    rcases Nat.eq_zero_or_pos t4.dirty.length with h0 | h0
    · have h0' : ¬ (0 : Int) < t4.dirty.length := by omega
      simp (disch := first | omega | exact okFill_t rfl | exact okSize_t rfl | exact fun h => h | (simp only [World.size_alloc, World.size_drew, World.size_setCell, size_fill, bytesW]; omega)) only [go_sem, c9, c9S0, c9S1, c9S2, c9S4, c9S5, c9S6, c9S7, c9S8, c9S9, c9S10, h0']
      exact rest
    · have h0' : (0 : Int) < t4.dirty.length := by omega
      have hnb : ¬ (k : Int) < blocksN t4.dirty.length := by
        rcases hn with hn | hn
        · rw [hn] at h0; exact absurd h0 (by decide)
        · omega
      simp (disch := first | omega | exact okFill_t rfl | exact okSize_t rfl | exact fun h => h | (simp only [World.size_alloc, World.size_drew, World.size_setCell, size_fill, bytesW]; omega)) only [go_sem, c9, c9S0, c9S1, c9S2, c9S4, c9S5, c9S6, c9S7, c9S8, c9S9, c9S10, h0']
      refine Ret.mono (blocks03_ok t4.dirty.length (by omega) w7) ?_
      rintro _ _ ⟨rfl, rfl⟩
      simp (disch := first | omega | exact okFill_t rfl | exact okSize_t rfl | exact fun h => h | (simp only [World.size_alloc, World.size_drew, World.size_setCell, size_fill, bytesW]; omega)) only [go_sem, c9, c9S0, c9S1, c9S2, c9S4, c9S5, c9S6, c9S7, c9S8, c9S9, c9S10, hnb]
      exact rest
  · have h0 : 0 < t4.dirty.length := List.length_pos_iff.2 hn
    have h0' : (0 : Int) < t4.dirty.length := by omega
    have hnb : (k : Int) < blocksN t4.dirty.length := by omega
    have g7 := g4.drop
    have p7 := g7.pgs0 rfl
    have d7 : ({ t4 with dirty := [] } : Sto).dirty.length = 0 := rfl
    simp (disch := first | omega | exact okFill_t rfl | exact okSize_t rfl | exact fun h => h | (simp only [World.size_alloc, World.size_drew, World.size_setCell, size_fill, bytesW]; omega)) only [go_sem, c9, c9S0, c9S1, c9S2, c9S3, c9S4, c9S5, c9S6, c9S7, c9S8, c9S9, c9S10, h0']
    refine Ret.mono (blocks03_ok t4.dirty.length (by omega) w7) ?_
    rintro _ _ ⟨rfl, rfl⟩
    rw [← e4] at s7
    generalize ({ t4 with dirty := [] } : Sto) = t7 at s7 g7 p7 d7
    simp (disch := first | omega | exact okFill_t rfl | exact okSize_t rfl | exact fun h => h | (simp only [World.size_alloc, World.size_drew, World.size_setCell, size_fill, bytesW]; omega)) only [go_sem, c9, c9S0, c9S1, c9S2, c9S3, c9S4, c9S5, c9S6, c9S7, c9S8, c9S9, c9S10, hnb]
    refine Ret.mono (all_ok s7 g7.ok g7.dead g7.gone) ?_
    rintro v8 w8 s8
    rw [p7] at s8
    have hA : RdS w8 1 strE v8 P := RdS.of_own' (s8.row 5 rfl) _ rfl rfl
    have hB : RdS w8 1 strE vold P := RdS.of_own' (s8.row 7 rfl) _ rfl rfl
    simp (disch := first | omega | exact okFill_t rfl | exact okSize_t rfl | exact fun h => h | (simp only [World.size_alloc, World.size_drew, World.size_setCell, size_fill, bytesW]; omega)) only [go_sem, c9, c9S0, c9S1, c9S2, c9S3, c9S4, c9S5, c9S6, c9S7, c9S8, c9S9, c9S10]
    refine Ret.mono (texts_ok P P v8 _ w8 hA hB (by omega)) ?_
    rintro _ w9 ⟨rfl, b9⟩
    rw [ed]
    have s9 := s8.call b9
    simp (disch := first | omega | exact okFill_t rfl | exact okSize_t rfl | exact fun h => h | (simp only [World.size_alloc, World.size_drew, World.size_setCell, size_fill, bytesW]; omega)) only [go_sem, c9, c9S0, c9S1, c9S2, c9S3, c9S4, c9S5, c9S6, c9S7, c9S8, c9S9, c9S10]
    refine Ret.mono (dirty_ok s9 g7.ok) ?_
    rintro _ w10 ⟨a10, c10, rfl, s10⟩
    rw [d7]
    simp (disch := first | omega | exact okFill_t rfl | exact okSize_t rfl | exact fun h => h | (simp only [World.size_alloc, World.size_drew, World.size_setCell, size_fill, bytesW]; omega)) only [go_sem, c9, c9S0, c9S1, c9S2, c9S3, c9S4, c9S5, c9S6, c9S7, c9S8, c9S9, c9S10]
    refine Ret.mono (awake4_ok w10) ?_
    rintro _ w11 ⟨rfl, b11⟩
    simp (disch := first | omega | exact okFill_t rfl | exact okSize_t rfl | exact fun h => h | (simp only [World.size_alloc, World.size_drew, World.size_setCell, size_fill, bytesW]; omega)) only [go_sem, c9, c9S0, c9S1, c9S2, c9S3, c9S4, c9S5, c9S6, c9S7, c9S8, c9S9, c9S10]
    exact Below.next s10.bel b11
end
theorem sfull_law {H : Type} {enc : TypeId × Value → H} {w : World} {r : Reach} {b base : Nat} {sp : Nat → Bool} {hd : Bool} {v : Value} {d : DataW H} {ps : List MemPlace} {a : Int} (h : 0 ≤ a ∧ a ≤ 255) (h0 : Value.okWide Try.prog w r b 48 v)
    (k0 : DataW.Trod enc Try.prog w base sp hd 48 v d ps) : Ret Try.prog 9 [.int .u8 a, v] w fun u w' => u = .bool true ∧ Below w.heap.size w w' := by
  obtain ⟨n, rfl⟩ := Int.eq_ofNat_of_zero_le h.1
  obtain ⟨xs, q1, q2⟩ := Opens.slice_arg (opens_slice opens_Page Try.underlying48 (by kernel_rfl)) Try.underlying48 h0 k0
  obtain ⟨q5, _⟩ := q1.plain (enc := pendV) (ok := fun _ => True) fun x c h => ⟨h.1, trivial⟩
  exact sfull_ok w n (by omega) q5 q2
end Go.Proofs.Ytmchjbgobiagiaa
