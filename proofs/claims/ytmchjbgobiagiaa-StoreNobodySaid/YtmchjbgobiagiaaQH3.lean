/- Texts put together by program. -/
import Derived.Test.YtmchjbgobiagiaaQH2
namespace Go.Proofs.Ytmchjbgobiagiaa
set_option linter.unusedSimpArgs false
set_option linter.unusedVariables false
set_option maxRecDepth 100000
open Go Go.Ann Go.RowKit Go.WideShapes
def intK (n : Int) : Value := .int .i64 n
def strK (l : List UInt8) : Value := .string (ofL l)
structure Sto where
  hd : Hd
  dirty : List (Int × List UInt8 × Nat)
  clock : Nat
  dead : Bool
  disk : Dk
def StoH (b mb g : Nat) (s : Sto) : List Res :=
  [.blk b #[.pointer (some ⟨g, 0, none⟩), .int .u64 s.hd.seq, .int .i64 s.hd.used, .int .i64 s.hd.room, .int .i64 s.hd.pages, .map (some mb), .bool s.dead] 76, .obj mb (mapG intK strK s.dirty s.clock)]
def StoL (b mb g : Nat) (vb vl : Value) (s : Sto) : List Res := StoH b mb g s ++ DkL g vb vl s.disk
theorem sto_disk {W0 w : World} {F : Nat → Prop} {L : List Res} {I : List Inv} {b mb g : Nat} {vb vl : Value} {s : Sto} (h : St W0 w F (StoL b mb g vb vl s ++ L) I) : St W0 w F (DkL g vb vl s.disk ++ (StoH b mb g s ++ L)) I :=
  St.front (A := StoH b mb g s) (D := DkL g vb vl s.disk) (L := L) (by rw [← List.append_assoc]; exact h)
theorem disk_sto {W0 w : World} {F : Nat → Prop} {L : List Res} {I : List Inv} {b mb g : Nat} {vb vl : Value} {s : Sto} {m : Dk} (h : St W0 w F (DkL g vb vl m ++ (StoH b mb g s ++ L)) I) : St W0 w F (StoL b mb g vb vl { s with disk := m } ++ L) I := by
  have h' := St.front h
  rw [← List.append_assoc] at h'
  exact h'
structure Sto.ok (s : Sto) : Prop where
  hd : s.hd.ok
  disk : s.disk.ok
  room : 1 ≤ s.hd.room
  pages : 1 ≤ s.hd.pages
  few : s.hd.pages ≤ 1024
  fit : 2 + s.hd.room + s.hd.pages ≤ s.disk.safe.length
  keys : ∀ x ∈ s.dirty, 0 ≤ x.1 ∧ x.1 < s.hd.pages ∧ x.2.1.length = 256
  nd : (s.dirty.map Prod.fst).Nodup
  born : (s.dirty.map fun x => x.2.2).Nodup
  clock : ∀ x ∈ s.dirty, x.2.2 < s.clock
theorem keyT_n : KeyT Try.prog 3 intK (.int .i64) := keyT_int Try.underlying3
section
variable {W0 w : World} {F : Nat → Prop} {L : List Res} {I : List Inv} {b mb g : Nat} {vb vl : Value} {s : Sto}
def stReady (s : Sto) (i : Int) : Int := if s.dead = true then 11 else if 0 ≤ i ∧ i < s.hd.pages then 0 else 10
theorem sready_ok (i : Int) (h : St W0 w F (StoL b mb g vb vl s ++ L) I) :
    Ret Try.prog 52 [.pointer (some ⟨b, 0, none⟩), .int .i64 i] w fun u w' => u = .int .i64 (stReady s i) ∧ w' = w := by
  refine ent52 _ _ _ _ ?_
  have r1 := h.rules 0 rfl
  simp (disch := first | omega | exact okFill_t rfl | exact okSize_t rfl | exact fun h => h | (simp only [World.size_alloc, World.size_drew, World.size_setCell, size_fill, bytesW]; omega)) only [go_sem, c52, c52S0, r1]
  unfold stReady
  refine ⟨fun hg => ?_, fun hg => ?_⟩
  · rw [if_pos hg]
  · rw [if_neg (by rw [hg]; decide)]
    by_cases h0 : 0 ≤ i
    · by_cases h1 : i < s.hd.pages
      · rw [if_pos ⟨h0, h1⟩]
        exact ⟨fun _ => ⟨fun h => by omega, fun _ => rfl⟩, fun h => by omega⟩
      · rw [if_neg (by omega)]
        exact ⟨fun _ => ⟨fun _ => rfl, fun h => by omega⟩, fun h => by omega⟩
    · rw [if_neg (by omega)]
      exact ⟨fun h => by omega, fun _ => rfl⟩
theorem stReady_in {i : Int} (h : stReady s i = 0) : 0 ≤ i ∧ i < s.hd.pages ∧ s.dead = false := by
  unfold stReady at h
  split at h
  · cases h
  · rename_i hd
    split at h
    · rename_i h2
      exact ⟨h2.1, h2.2, by simpa using hd⟩
    · cases h
theorem slen_ok (h : St W0 w F (StoL b mb g vb vl s ++ L) I) :
    Ret Try.prog 36 [.pointer (some ⟨b, 0, none⟩)] w fun u w' => u = .int .i64 s.hd.pages ∧ w' = w := by
  refine ent36 _ _ _ ?_
  have r1 := h.rules 0 rfl
  simp (disch := first | omega | exact okFill_t rfl | exact okSize_t rfl | exact fun h => h | (simp only [World.size_alloc, World.size_drew, World.size_setCell, size_fill, bytesW]; omega)) only [go_sem, c36, c36S0, r1]
def homeN (s : Sto) (i : Int) : Int := 2 + s.hd.room + i
def stRead (s : Sto) (i : Int) : Sto × List UInt8 × Int :=
  if stReady s i ≠ 0 then (s, [], stReady s i) else
  match getM i s.dirty with
  | some x => (s, x, 0)
  | none => (if (readN s.disk (homeN s i)).2 = 0 then s else { s with dead := true }, readN s.disk (homeN s i))
theorem sread_ok (i : Int) (h : St W0 w F (StoL b mb g vb vl s ++ L) I) (ok : s.ok) :
    Ret Try.prog 34 [.pointer (some ⟨b, 0, none⟩), .int .i64 i] w fun u w' => u = .tuple #[.string (ofL (stRead s i).2.1), .int .i64 (stRead s i).2.2] ∧ St W0 w' F (StoL b mb g vb vl (stRead s i).1 ++ L) I := by
  refine ent34 _ _ _ _ ?_
  simp (disch := first | omega | exact okFill_t rfl | exact okSize_t rfl | exact fun h => h | (simp only [World.size_alloc, World.size_drew, World.size_setCell, size_fill, bytesW]; omega)) only [go_sem, c34, c34S0, c34S1, c34S2, c34S3, c34S4]
  refine Ret.mono (sready_ok i h) ?_
  rintro _ w2 ⟨rfl, e2⟩
  subst w2
  unfold stRead
  by_cases hr : stReady s i = 0
  case neg =>
    rw [if_pos hr]
    simp (disch := first | omega | exact okFill_t rfl | exact okSize_t rfl | exact fun h => h | (simp only [World.size_alloc, World.size_drew, World.size_setCell, size_fill, bytesW]; omega)) only [go_sem, c34, c34S0, c34S1, c34S2, c34S3, c34S4, hr]
    exact h
  rw [if_neg (by omega)]
  have r1 := h.rules 0 rfl
  simp (disch := first | omega | exact okFill_t rfl | exact okSize_t rfl | exact fun h => h | (simp only [World.size_alloc, World.size_drew, World.size_setCell, size_fill, bytesW]; omega)) only [go_sem, c34, c34S0, c34S1, c34S2, c34S3, c34S4, hr, r1]
  refine luG_map (ek := intK) (ev := strK) keyT_n Try.underlying74 (h.obj 1 rfl) i (by rfl) ?_
  cases hg : getM i s.dirty with
  | some x =>
    simp (disch := first | omega | exact okFill_t rfl | exact okSize_t rfl | exact fun h => h | (simp only [World.size_alloc, World.size_drew, World.size_setCell, size_fill, bytesW]; omega)) only [go_sem, c34, c34S0, c34S1, c34S2, c34S3, c34S4, luG]
    exact ⟨rfl, h⟩
  | none =>
    simp (disch := first | omega | exact okFill_t rfl | exact okSize_t rfl | exact fun h => h | (simp only [World.size_alloc, World.size_drew, World.size_setCell, size_fill, bytesW]; omega)) only [go_sem, c34, c34S0, c34S1, c34S2, c34S3, c34S4, luG]
    refine c34draw0 (Chg (fun _ => False) _) (Chg.refl _ _) ?_
    have h2 := h.drew
    have r2 := h2.rules 0 rfl
    have l2 := h2.low 0 rfl
    generalize w.drew = w2 at h2 r2 l2 ⊢
    have hin := stReady_in hr
    have hp := ok.few
    have hf := ok.fit
    have hs := ok.disk.few
    simp (disch := first | omega | exact okFill_t rfl | exact okSize_t rfl | exact fun h => h | (simp only [World.size_alloc, World.size_drew, World.size_setCell, size_fill, bytesW]; omega)) only [go_sem, c34, c34S0, c34S1, c34S2, c34S3, c34S4, c34D0, r2]
    refine ⟨by constructor <;> omega, by constructor <;> omega, Ret.mono (read_ok (2 + (s.hd.room : Int) + i) (sto_disk h2) ok.disk) ?_⟩
    rintro _ w3 ⟨rfl, b3⟩
    have h3 := h2.call b3
    have r3 := h3.rules 0 rfl
    rw [show (2 + (s.hd.room : Int) + i) = homeN s i from rfl]
    by_cases he : (readN s.disk (homeN s i)).2 = 0
    · rw [if_pos he]
      simp (disch := first | omega | exact okFill_t rfl | exact okSize_t rfl | exact fun h => h | (simp only [World.size_alloc, World.size_drew, World.size_setCell, size_fill, bytesW]; omega)) only [go_sem, c34, c34S0, c34S1, c34S2, c34S3, c34S4, he]
      exact h3
    · rw [if_neg he]
      simp (disch := first | omega | exact okFill_t rfl | exact okSize_t rfl | exact fun h => h | (simp only [World.size_alloc, World.size_drew, World.size_setCell, size_fill, bytesW]; omega)) only [go_sem, c34, c34S0, c34S1, c34S2, c34S3, c34S4, he, r3]
      exact h3.set 0 rfl 6 (.bool true)
def stWrite (s : Sto) (i : Int) (data : List UInt8) : Sto × Int :=
  if stReady s i ≠ 0 then (s, stReady s i) else if 256 < data.length then (s, 21) else
  ({ s with dirty := setM i (filledL data) s.clock s.dirty, clock := if (getM i s.dirty).isSome then s.clock else s.clock + 1 }, 0)
theorem swrite_ok (i : Int) (data : List UInt8) (h : St W0 w F (StoL b mb g vb vl s ++ L) I) :
    Ret Try.prog 35 [.pointer (some ⟨b, 0, none⟩), .int .i64 i, .string (ofL data)] w fun u w' => u = .int .i64 (stWrite s i data).2 ∧ St W0 w' F (StoL b mb g vb vl (stWrite s i data).1 ++ L) I := by
  refine ent35 _ _ _ _ _ ?_
  simp (disch := first | omega | exact okFill_t rfl | exact okSize_t rfl | exact fun h => h | (simp only [World.size_alloc, World.size_drew, World.size_setCell, size_fill, bytesW]; omega)) only [go_sem, c35, c35S0, c35S1, c35S2, c35S3]
  refine Ret.mono (sready_ok i h) ?_
  rintro _ w2 ⟨rfl, e2⟩
  subst w2
  unfold stWrite
  by_cases hr : stReady s i = 0
  case neg =>
    rw [if_pos hr]
    simp (disch := first | omega | exact okFill_t rfl | exact okSize_t rfl | exact fun h => h | (simp only [World.size_alloc, World.size_drew, World.size_setCell, size_fill, bytesW]; omega)) only [go_sem, c35, c35S0, c35S1, c35S2, c35S3, hr]
    exact h
  rw [if_neg (by omega)]
  by_cases hd : 256 < data.length
  · have hd' : (256 : Int) < data.length := by omega
    rw [if_pos hd]
    simp (disch := first | omega | exact okFill_t rfl | exact okSize_t rfl | exact fun h => h | (simp only [World.size_alloc, World.size_drew, World.size_setCell, size_fill, bytesW]; omega)) only [go_sem, c35, c35S0, c35S1, c35S2, c35S3, hr, hd']
    exact h
  have hd' : ¬ (256 : Int) < data.length := by omega
  rw [if_neg hd]
  simp (disch := first | omega | exact okFill_t rfl | exact okSize_t rfl | exact fun h => h | (simp only [World.size_alloc, World.size_drew, World.size_setCell, size_fill, bytesW]; omega)) only [go_sem, c35, c35S0, c35S1, c35S2, c35S3, hr, hd']
  refine c35draw0 (Chg (fun _ => False) _) (Chg.refl _ _) ?_
  have h2 := h.drew
  have r2 := h2.rules 0 rfl
  have l2 := h2.low 0 rfl
  generalize w.drew = w2 at h2 r2 l2 ⊢
  simp (disch := first | omega | exact okFill_t rfl | exact okSize_t rfl | exact fun h => h | (simp only [World.size_alloc, World.size_drew, World.size_setCell, size_fill, bytesW]; omega)) only [go_sem, c35, c35S0, c35S1, c35S2, c35S3, c35D0, r2]
  refine ⟨by constructor <;> omega, msW_one ty95mkI rfl (by omega) (by omega) (by omega) (by omega) ?_⟩
  have e : ((256 : Int) - (data.length : Int)).toNat = 256 - data.length := by omega
  rw [e]
  have h3 := h2.alloc' (.cells (zerosA (.int .u8 0) (256 - data.length)) 5)
  have hat : bytesAt (w2.alloc (.cells (zerosA (.int .u8 0) (256 - data.length)) 5)) (some ⟨w2.heap.size, 0, none⟩) (List.replicate (256 - data.length) 0) := bytesAt_zeros w2 (256 - data.length) _
  have ch : Chg (fun _ => False) w2 (w2.alloc (.cells (zerosA (.int .u8 0) (256 - data.length)) 5)) := (Chg.refl _ _).alloc _
  generalize w2.alloc (.cells (zerosA (.int .u8 0) (256 - data.length)) 5) = w3 at h3 hat ch ⊢
  simp (disch := first | omega | exact okFill_t rfl | exact okSize_t rfl | exact fun h => h | (simp only [World.size_alloc, World.size_drew, World.size_setCell, size_fill, bytesW]; omega)) only [go_sem, c35, c35S0, c35S1, c35S2, c35S3]
  refine ⟨ch, _, List.length_replicate, hat, ch, by rw [List.length_replicate]; omega, ?_⟩
  refine muG_map (ek := intK) (ev := strK) keyT_n Try.underlying74 (fun a => by simp [Instr.sameBits, intK]) (h3.obj 1 rfl) i (filledL data) ?_
  simp (disch := first | omega | exact okFill_t rfl | exact okSize_t rfl | exact fun h => h | (simp only [World.size_alloc, World.size_drew, World.size_setCell, size_fill, bytesW]; omega)) only [go_sem, c35, c35S0, c35S1, c35S2, c35S3]
  exact h3.putObj 1 rfl (mapG intK strK (setM i (filledL data) s.clock s.dirty) (if (getM i s.dirty).isSome then s.clock else s.clock + 1))
end
end Go.Proofs.Ytmchjbgobiagiaa

namespace Go.Proofs.Ytmchjbgobiagiaa
set_option linter.unusedSimpArgs false
set_option linter.unusedVariables false
set_option maxRecDepth 100000
open Go Go.Ann Go.RowKit Go.WideShapes
section
variable {W0 w : World} {F : Nat → Prop} {L : List Res} {I : List Inv} {g : Nat} {vb vl : Value} {m : Dk}
theorem emod2 (n : Nat) : ((n : Int).tmod 2) = ((n % 2 : Nat) : Int) := rfl
def putN (m : Dk) (h : Hd) : Dk × Int := if (writeN m (h.seq % 2 : Nat) (headL h)).2 ≠ 0 then writeN m (h.seq % 2 : Nat) (headL h) else flushN (writeN m (h.seq % 2 : Nat) (headL h)).1
theorem put_ok (hd : Hd) (hh : hd.ok) (h : St W0 w F (DkL g vb vl m ++ L) I) (ok : m.ok) (hless : m.late.length < 1000000) :
    Ret Try.prog 67 [.pointer (some ⟨g, 0, none⟩), .agg hd.enc.toArray] w fun u w' => u = .int .i64 (putN m hd).2 ∧ ∃ vl', St W0 w' F (DkL g vb vl' (putN m hd).1 ++ L) I := by
  refine ent67 _ _ _ _ ?_
  have s1 := h.box hd.enc.toArray 73
  simp (disch := first | omega | exact okFill_t rfl | exact okSize_t rfl | exact fun h => h | (simp only [World.size_alloc, World.size_drew, World.size_setCell, size_fill, bytesW]; omega)) only [go_sem, c67, c67S0, c67S1, c67S2]
  generalize w.heap.size = y at s1 ⊢
  generalize w.alloc (.cells hd.enc.toArray 73) = w1 at s1 ⊢
  refine c67draw0 (Same (fun k => k = y) _) (Same.refl _ _) ?_
  have s2 := s1.drew
  have r2 := s2.rules 0 rfl
  have l2 := s2.low 0 rfl
  generalize w1.drew = w2 at s2 r2 l2 ⊢
  have hseq := hh.seq
  simp (disch := first | omega | exact okFill_t rfl | exact okSize_t rfl | exact fun h => h | (simp only [World.size_alloc, World.size_drew, World.size_setCell, size_fill, bytesW]; omega)) only [go_sem, c67, c67S0, c67S1, c67S2, c67D0, r2, Hd.enc, emod2]
  refine ⟨by constructor <;> omega, Same.refl _ _, Ret.mono (writeHead_ok hd hh w2) ?_⟩
  rintro _ w3 ⟨rfl, b3⟩
  have s3 := s2.call b3
  have same : ∀ w', Blk w' y hd.enc.toArray 73 → Same (fun k => k = y) w2 w' := fun w' hb k hk => by subst hk; exact hb.trans (s2.blk 0 rfl).symm
  simp (disch := first | omega | exact okFill_t rfl | exact okSize_t rfl | exact fun h => h | (simp only [World.size_alloc, World.size_drew, World.size_setCell, size_fill, bytesW]; omega)) only [go_sem, c67, c67S0, c67S1, c67S2]
  refine ⟨same _ (s3.blk 0 rfl), Ret.mono (write_ok ((hd.seq % 2 : Nat) : Int) (headL hd) (St.front (A := [_]) (D := DkL g vb vl m) (L := L) s3) ok hless) ?_⟩
  rintro _ w4 ⟨rfl, vl', s4⟩
  have ok4 := writeN_ok ok hless ((hd.seq % 2 : Nat) : Int) (headL hd)
  have s4' := St.front (A := DkL g vb vl' _) (D := [.blk y hd.enc.toArray 73]) (L := L) s4
  have sm := same _ (s4'.blk 0 rfl)
  have s4 := s4'.sub (List.sublist_cons_self _ _)
  unfold putN
  by_cases he : (writeN m ((hd.seq % 2 : Nat) : Int) (headL hd)).2 = 0
  case neg =>
    rw [if_pos he]
    simp (disch := first | omega | exact okFill_t rfl | exact okSize_t rfl | exact fun h => h | (simp only [World.size_alloc, World.size_drew, World.size_setCell, size_fill, bytesW]; omega)) only [go_sem, c67, c67S0, c67S1, c67S2, he]
    exact ⟨sm, vl', s4⟩
  rw [if_neg (by omega)]
  simp (disch := first | omega | exact okFill_t rfl | exact okSize_t rfl | exact fun h => h | (simp only [World.size_alloc, World.size_drew, World.size_setCell, size_fill, bytesW]; omega)) only [go_sem, c67, c67S0, c67S1, c67S2, he]
  refine ⟨sm, Ret.mono (flush_ok s4 ok4) ?_⟩
  rintro _ w5 ⟨rfl, vl2, s5⟩
  simp (disch := first | omega | exact okFill_t rfl | exact okSize_t rfl | exact fun h => h | (simp only [World.size_alloc, World.size_drew, World.size_setCell, size_fill, bytesW]; omega)) only [go_sem, c67, c67S0, c67S1, c67S2]
  exact ⟨vl2, s5⟩
def blkN (m : Dk) (i : Nat) : List UInt8 := lastL m.late i (m.safe.getD i [])
def fitsH (m : Dk) (h : Hd) : Bool := decide (1 ≤ h.room ∧ 1 ≤ h.pages ∧ h.pages ≤ 1024 ∧ h.used ≤ h.room ∧ h.room ≤ m.safe.length ∧ 2 + h.room + h.pages ≤ m.safe.length)
def candH (m : Dk) (i : Nat) (seq : Nat) : Option Hd := match readHd (blkN m i) with
  | some h => if fitsH m h = true ∧ seq < h.seq ∧ h.seq % 2 = i then some h else none
  | none => none
def bestN (m : Dk) : Nat → Option Hd
  | 0 => none
  | i + 1 => match candH m i ((bestN m i).getD hd0).seq with
    | some h => some h
    | none => bestN m i
def newestH (m : Dk) : Option Hd := bestN m 2
theorem lastL_256 {l : List (Int × List UInt8)} {i : Int} {s : List UInt8} (h : s.length = 256) (hl : ∀ x ∈ l, x.2.length = 256) : (lastL l i s).length = 256 := by
  unfold lastL
  induction l generalizing s with
  | nil => exact h
  | cons x l ih =>
    rw [List.foldl_cons]
    refine ih ?_ fun y hy => hl y (List.mem_cons_of_mem _ hy)
    split
    · exact hl x (List.mem_cons_self ..)
    · exact h
theorem newest_ok (h : St W0 w F (DkL g vb vl m ++ L) I) (ok : m.ok) (hg : m.gone = false) (h2 : 2 ≤ m.safe.length) :
    Ret Try.prog 58 [.pointer (some ⟨g, 0, none⟩)] w fun u w' => (match newestH m with
      | some hd => u = .tuple #[.agg hd.enc.toArray, .int .i64 0]
      | none => u = .tuple #[.agg hd0.enc.toArray, .int .i64 14]) ∧ Below w.heap.size w w' := by
  refine ent58 _ _ _ ?_
  have s1 := ((St.start (W0 := w)).box #[.int .u64 0, .int .i64 0, .int .i64 0, .int .i64 0] 73).box #[.int .u64 0, .int .i64 0, .int .i64 0, .int .i64 0] 73
  simp (disch := first | omega | exact okFill_t rfl | exact okSize_t rfl | exact fun h => h | (simp only [World.size_alloc, World.size_drew, World.size_setCell, size_fill, bytesW]; omega)) only [go_sem, c58, c58S0, c58S1, c58S2, c58S3, c58S4, c58S5, c58S6, c58S7, c58S8]
  rw [World.size_alloc] at s1
  have hsz := h.size
  generalize hy : w.heap.size = y at s1 ⊢
  generalize ((w.alloc (.cells #[.int .u64 0, .int .i64 0, .int .i64 0, .int .i64 0] 73)).alloc (.cells #[.int .u64 0, .int .i64 0, .int .i64 0, .int .i64 0] 73)) = w1 at s1 ⊢
  refine W_loopU (fun k : Nat => [(5, .bool (bestN m k).isSome), (12, .int .i64 k)]) (fun k w' => k ≤ 2 ∧ St w w' (fun _ => False) [.blk (y + 1) ((bestN m k).getD hd0).enc.toArray 73, .blk y hd0.enc.toArray 73] []) (fun k => 2 - k) 0 rfl ⟨by omega, s1⟩ ?_
  rintro k w2 ⟨hk, s2⟩
  by_cases hlt : k < 2
  · have hlt' : (k : Int) < 2 := by omega
    simp (disch := first | omega | exact okFill_t rfl | exact okSize_t rfl | exact fun h => h | (simp only [World.size_alloc, World.size_drew, World.size_setCell, size_fill, bytesW]; omega)) only [go_sem, c58, c58S0, c58S1, c58S2, c58S3, c58S4, c58S5, c58S6, c58L0, c58S7, c58S8, c58L0, hlt']
    refine Ret.mono (read_ok (k : Int) (h.below s2.bel (by omega)) ok) ?_
    rintro _ w3 ⟨rfl, b3⟩
    have s3 := s2.call b3
    have er : readN m (k : Int) = (blkN m k, 0) := by
      have e0 : readyN m (k : Int) = 0 := by
        unfold readyN
        rw [if_neg (by rw [hg]; decide), if_pos (by omega)]
      unfold readN
      rw [if_pos e0]
      rfl
    rw [er]
    simp (disch := first | omega | exact okFill_t rfl | exact okSize_t rfl | exact fun h => h | (simp only [World.size_alloc, World.size_drew, World.size_setCell, size_fill, bytesW]; omega)) only [go_sem, c58, c58S0, c58S1, c58S2, c58S3, c58S4, c58S5, c58S6, c58L0, c58S7, c58S8]
    have hbl : (blkN m k).length ≤ 1000 := by
      unfold blkN
      have h1 : (m.safe.getD k []).length = 256 := by
        rw [List.getD_eq_getElem?_getD, List.getElem?_eq_getElem (by omega)]
        exact ok.safe _ (List.getElem_mem _)
      have := lastL_256 (i := (k : Int)) h1 (fun x hx => (ok.late x hx).2.2)
      omega
    refine Ret.mono (readHead_ok (blkN m k) hbl w3) ?_
    rintro _ w4 ⟨rfl, b4⟩
    have s4 := s3.call b4
    simp (disch := first | omega | exact okFill_t rfl | exact okSize_t rfl | exact fun h => h | (simp only [World.size_alloc, World.size_drew, World.size_setCell, size_fill, bytesW]; omega)) only [go_sem, c58, c58S0, c58S1, c58S2, c58S3, c58S4, c58S5, c58S6, c58L0, c58S7, c58S8]
    generalize hrd : readHd (blkN m k) = rd
    generalize hq : rd.getD hd0 = q
    have s5 := s4.box q.enc.toArray 73
    simp (disch := first | omega | exact okFill_t rfl | exact okSize_t rfl | exact fun h => h | (simp only [World.size_alloc, World.size_drew, World.size_setCell, size_fill, bytesW]; omega)) only [go_sem, c58, c58S0, c58S1, c58S2, c58S3, c58S4, c58S5, c58S6, c58L0, c58S7, c58S8, Hd.enc]
    have hz : y + 1 < w4.heap.size := (s4.low 0 rfl).2
    generalize w4.heap.size = z at s5 hz ⊢
    refine c58draw0 (Chg (fun _ => False) _) (Chg.refl _ _) ?_
    have s6 := s5.drew
    have s6 : St w ((w4.alloc (.cells #[.int .u64 q.seq, .int .i64 q.used, .int .i64 q.room, .int .i64 q.pages] 73)).drew) (fun _ => False) [.blk z #[.int .u64 q.seq, .int .i64 q.used, .int .i64 q.room, .int .i64 q.pages] 73, .blk (y + 1) #[.int .u64 ((bestN m k).getD hd0).seq, .int .i64 ((bestN m k).getD hd0).used, .int .i64 ((bestN m k).getD hd0).room, .int .i64 ((bestN m k).getD hd0).pages] 73, .blk y hd0.enc.toArray 73] [] := s6
    generalize (w4.alloc (.cells #[.int .u64 q.seq, .int .i64 q.used, .int .i64 q.room, .int .i64 q.pages] 73)).drew = w6 at s6 ⊢
    have r6 := s6.rules 0 rfl
    have q6 := s6.rules 1 rfl
    have l6 := s6.low 0 rfl
    have stay : bestN m (k + 1) = bestN m k → ∀ w', Below w6.heap.size w6 w' → k + 1 ≤ 2 ∧ St w w' (fun _ => False) [.blk (y + 1) #[.int .u64 ((bestN m (k + 1)).getD hd0).seq, .int .i64 ((bestN m (k + 1)).getD hd0).used, .int .i64 ((bestN m (k + 1)).getD hd0).room, .int .i64 ((bestN m (k + 1)).getD hd0).pages] 73, .blk y #[.int .u64 hd0.seq, .int .i64 hd0.used, .int .i64 hd0.room, .int .i64 hd0.pages] 73] [] := fun e w' hb => by
      rw [e]; exact ⟨by omega, (s6.call hb).sub (List.sublist_cons_self _ _)⟩
    cases rd with
    | none =>
      obtain rfl : q = hd0 := hq.symm
      have e1 : bestN m (k + 1) = bestN m k := by
        have : ∀ n, candH m k n = none := fun n => by unfold candH; rw [hrd]
        simp only [bestN, this]
      have c1 : ¬ (1 : Int) ≤ (hd0.room : Nat) := by decide
      simp (disch := first | omega | exact okFill_t rfl | exact okSize_t rfl | exact fun h => h | (simp only [World.size_alloc, World.size_drew, World.size_setCell, size_fill, bytesW]; omega)) only [go_sem, c58, c58S0, c58S1, c58S2, c58S3, c58S4, c58S5, c58S6, c58L0, c58S7, c58S8, c58D0, r6, q6, c1]
      exact ⟨fun h => absurd h (by decide), fun _ => ⟨⟨by omega, by omega⟩, k + 1, by rw [e1]; rfl, stay e1 _ (Below.refl _ _), by omega⟩⟩
    | some hd =>
      obtain rfl : q = hd := hq.symm
      have e1 : fitsH m q = false → bestN m (k + 1) = bestN m k := fun hf => by
        have : ∀ n, candH m k n = none := fun n => by unfold candH; rw [hrd]; simp only [hf]; rfl
        simp only [bestN, this]
      have hfits : ∀ b : Bool, (b = true ↔ (1 ≤ q.room ∧ 1 ≤ q.pages ∧ q.pages ≤ 1024 ∧ q.used ≤ q.room ∧ q.room ≤ m.safe.length ∧ 2 + q.room + q.pages ≤ m.safe.length)) → fitsH m q = b := fun b hb => by
        unfold fitsH; rw [Bool.eq_iff_iff, decide_eq_true_eq]; exact hb.symm
      have hb6 := h.below s6.bel (by omega)
      have hfew := ok.few
      by_cases c1 : 1 ≤ q.room
      case neg =>
        have d1 : ¬ (1 : Int) ≤ q.room := by omega
        have e2 := e1 (hfits false (by simp only [Bool.false_eq_true, false_iff]; omega))
        simp (disch := first | omega | exact okFill_t rfl | exact okSize_t rfl | exact fun h => h | (simp only [World.size_alloc, World.size_drew, World.size_setCell, size_fill, bytesW]; omega)) only [go_sem, c58, c58S0, c58S1, c58S2, c58S3, c58S4, c58S5, c58S6, c58L0, c58S7, c58S8, c58D0, r6, q6, d1]
        exact ⟨fun _ => ⟨⟨by omega, by omega⟩, k + 1, by rw [e2]; rfl, stay e2 _ (Below.refl _ _), by omega⟩, fun _ => ⟨⟨by omega, by omega⟩, k + 1, by rw [e2]; rfl, stay e2 _ (Below.refl _ _), by omega⟩⟩
      have d1 : (1 : Int) ≤ q.room := by omega
      by_cases c2 : 1 ≤ q.pages
      case neg =>
        have d2 : ¬ (1 : Int) ≤ q.pages := by omega
        have e2 := e1 (hfits false (by simp only [Bool.false_eq_true, false_iff]; omega))
        simp (disch := first | omega | exact okFill_t rfl | exact okSize_t rfl | exact fun h => h | (simp only [World.size_alloc, World.size_drew, World.size_setCell, size_fill, bytesW]; omega)) only [go_sem, c58, c58S0, c58S1, c58S2, c58S3, c58S4, c58S5, c58S6, c58L0, c58S7, c58S8, c58D0, r6, q6, d1, d2]
        exact ⟨fun _ => ⟨⟨by omega, by omega⟩, k + 1, by rw [e2]; rfl, stay e2 _ (Below.refl _ _), by omega⟩, fun _ => ⟨⟨by omega, by omega⟩, k + 1, by rw [e2]; rfl, stay e2 _ (Below.refl _ _), by omega⟩⟩
      have d2 : (1 : Int) ≤ q.pages := by omega
      by_cases c3 : q.pages ≤ 1024
      case neg =>
        have d3 : ¬ (q.pages : Int) ≤ 1024 := by omega
        have e2 := e1 (hfits false (by simp only [Bool.false_eq_true, false_iff]; omega))
        simp (disch := first | omega | exact okFill_t rfl | exact okSize_t rfl | exact fun h => h | (simp only [World.size_alloc, World.size_drew, World.size_setCell, size_fill, bytesW]; omega)) only [go_sem, c58, c58S0, c58S1, c58S2, c58S3, c58S4, c58S5, c58S6, c58L0, c58S7, c58S8, c58D0, r6, q6, d1, d2, d3]
        exact ⟨fun _ => ⟨⟨by omega, by omega⟩, k + 1, by rw [e2]; rfl, stay e2 _ (Below.refl _ _), by omega⟩, fun _ => ⟨⟨by omega, by omega⟩, k + 1, by rw [e2]; rfl, stay e2 _ (Below.refl _ _), by omega⟩⟩
      have d3 : (q.pages : Int) ≤ 1024 := by omega
      by_cases c4 : q.used ≤ q.room
      case neg =>
        have d4 : ¬ (q.used : Int) ≤ q.room := by omega
        have e2 := e1 (hfits false (by simp only [Bool.false_eq_true, false_iff]; omega))
        simp (disch := first | omega | exact okFill_t rfl | exact okSize_t rfl | exact fun h => h | (simp only [World.size_alloc, World.size_drew, World.size_setCell, size_fill, bytesW]; omega)) only [go_sem, c58, c58S0, c58S1, c58S2, c58S3, c58S4, c58S5, c58S6, c58L0, c58S7, c58S8, c58D0, r6, q6, d1, d2, d3, d4]
        exact ⟨fun _ => ⟨⟨by omega, by omega⟩, k + 1, by rw [e2]; rfl, stay e2 _ (Below.refl _ _), by omega⟩, fun _ => ⟨⟨by omega, by omega⟩, k + 1, by rw [e2]; rfl, stay e2 _ (Below.refl _ _), by omega⟩⟩
      have d4 : (q.used : Int) ≤ q.room := by omega
      by_cases c5 : q.room ≤ m.safe.length
      case neg =>
        have d5 : ¬ (q.room : Int) ≤ m.safe.length := by omega
        have e2 := e1 (hfits false (by simp only [Bool.false_eq_true, false_iff]; omega))
        simp (disch := first | omega | exact okFill_t rfl | exact okSize_t rfl | exact fun h => h | (simp only [World.size_alloc, World.size_drew, World.size_setCell, size_fill, bytesW]; omega)) only [go_sem, c58, c58S0, c58S1, c58S2, c58S3, c58S4, c58S5, c58S6, c58L0, c58S7, c58S8, c58D0, r6, q6, d1, d2, d3, d4, d5]
        refine Ret.mono (len_ok hb6 ok) ?_
        rintro _ w7 ⟨rfl, e7⟩
        subst w7
        simp (disch := first | omega | exact okFill_t rfl | exact okSize_t rfl | exact fun h => h | (simp only [World.size_alloc, World.size_drew, World.size_setCell, size_fill, bytesW]; omega)) only [go_sem, c58, c58S0, c58S1, c58S2, c58S3, c58S4, c58S5, c58S6, c58L0, c58S7, c58S8, c58D0, r6, q6, d1, d2, d3, d4, d5]
        exact ⟨fun _ => ⟨⟨by omega, by omega⟩, k + 1, by rw [e2]; rfl, stay e2 _ (Below.refl _ _), by omega⟩, fun _ => ⟨⟨by omega, by omega⟩, k + 1, by rw [e2]; rfl, stay e2 _ (Below.refl _ _), by omega⟩⟩
      have d5 : (q.room : Int) ≤ m.safe.length := by omega
      by_cases c6 : 2 + q.room + q.pages ≤ m.safe.length
      case neg =>
        have d6 : ¬ 2 + (q.room : Int) + q.pages ≤ m.safe.length := by omega
        have e2 := e1 (hfits false (by simp only [Bool.false_eq_true, false_iff]; omega))
        simp (disch := first | omega | exact okFill_t rfl | exact okSize_t rfl | exact fun h => h | (simp only [World.size_alloc, World.size_drew, World.size_setCell, size_fill, bytesW]; omega)) only [go_sem, c58, c58S0, c58S1, c58S2, c58S3, c58S4, c58S5, c58S6, c58L0, c58S7, c58S8, c58D0, r6, q6, d1, d2, d3, d4, d5, d6]
        refine Ret.mono (len_ok hb6 ok) ?_
        rintro _ w7 ⟨rfl, e7⟩
        subst w7
        simp (disch := first | omega | exact okFill_t rfl | exact okSize_t rfl | exact fun h => h | (simp only [World.size_alloc, World.size_drew, World.size_setCell, size_fill, bytesW]; omega)) only [go_sem, c58, c58S0, c58S1, c58S2, c58S3, c58S4, c58S5, c58S6, c58L0, c58S7, c58S8, c58D0, r6, q6, d1, d2, d3, d4, d5, d6]
        refine ⟨⟨by omega, by omega⟩, ⟨by omega, by omega⟩, Ret.mono (len_ok hb6 ok) ?_⟩
        rintro _ w7 ⟨rfl, e7⟩
        subst w7
        simp (disch := first | omega | exact okFill_t rfl | exact okSize_t rfl | exact fun h => h | (simp only [World.size_alloc, World.size_drew, World.size_setCell, size_fill, bytesW]; omega)) only [go_sem, c58, c58S0, c58S1, c58S2, c58S3, c58S4, c58S5, c58S6, c58L0, c58S7, c58S8, c58D0, r6, q6, d1, d2, d3, d4, d5, d6]
        exact ⟨fun _ => ⟨⟨by omega, by omega⟩, k + 1, by rw [e2]; rfl, stay e2 _ (Below.refl _ _), by omega⟩, fun _ => ⟨⟨by omega, by omega⟩, k + 1, by rw [e2]; rfl, stay e2 _ (Below.refl _ _), by omega⟩⟩
      have d6 : 2 + (q.room : Int) + q.pages ≤ m.safe.length := by omega
      simp (disch := first | omega | exact okFill_t rfl | exact okSize_t rfl | exact fun h => h | (simp only [World.size_alloc, World.size_drew, World.size_setCell, size_fill, bytesW]; omega)) only [go_sem, c58, c58S0, c58S1, c58S2, c58S3, c58S4, c58S5, c58S6, c58L0, c58S7, c58S8, c58D0, r6, q6, d1, d2, d3, d4, d5, d6]
      refine Ret.mono (len_ok hb6 ok) ?_
      rintro _ w7 ⟨rfl, e7⟩
      subst w7
      simp (disch := first | omega | exact okFill_t rfl | exact okSize_t rfl | exact fun h => h | (simp only [World.size_alloc, World.size_drew, World.size_setCell, size_fill, bytesW]; omega)) only [go_sem, c58, c58S0, c58S1, c58S2, c58S3, c58S4, c58S5, c58S6, c58L0, c58S7, c58S8, c58D0, r6, q6, d1, d2, d3, d4, d5, d6]
      refine ⟨⟨by omega, by omega⟩, ⟨by omega, by omega⟩, Ret.mono (len_ok hb6 ok) ?_⟩
      rintro _ w7 ⟨rfl, e7⟩
      subst w7
      simp (disch := first | omega | exact okFill_t rfl | exact okSize_t rfl | exact fun h => h | (simp only [World.size_alloc, World.size_drew, World.size_setCell, size_fill, bytesW]; omega)) only [go_sem, c58, c58S0, c58S1, c58S2, c58S3, c58S4, c58S5, c58S6, c58L0, c58S7, c58S8, c58D0, r6, q6, d1, d2, d3, d4, d5, d6]
      have hf : fitsH m q = true := hfits true (by simp only [true_iff]; omega)
      have eC : candH m k ((bestN m k).getD hd0).seq = if fitsH m q = true ∧ ((bestN m k).getD hd0).seq < q.seq ∧ q.seq % 2 = k then some q else none := by unfold candH; rw [hrd]
      refine ⟨fun _ => ⟨fun h1 => ⟨by rw [emod2]; constructor <;> omega, fun h2 => ?_, fun h2 => ?_⟩, fun h1 => ?_⟩, fun h => absurd h (by simp)⟩
      · rw [emod2] at h2
        have e2 : bestN m (k + 1) = some q := by
          simp only [bestN]
          rw [eC, if_pos ⟨hf, by omega, by omega⟩]
        refine ⟨⟨by omega, by omega⟩, k + 1, by rw [e2]; rfl, ⟨by omega, ?_⟩, by omega⟩
        rw [e2]
        exact ((s6.fill 1 rfl (cs := #[.int .u64 q.seq, .int .i64 q.used, .int .i64 q.room, .int .i64 q.pages]) rfl)).sub (List.sublist_cons_self _ _)
      · rw [emod2] at h2
        have e2 : bestN m (k + 1) = bestN m k := by
          simp only [bestN]
          rw [eC, if_neg (fun hh => h2 (by rw [hh.2.2]))]
        exact ⟨⟨by omega, by omega⟩, k + 1, by rw [e2]; rfl, stay e2 _ (Below.refl _ _), by omega⟩
      · have e2 : bestN m (k + 1) = bestN m k := by
          simp only [bestN]
          rw [eC, if_neg (fun hh => by have := hh.2.1; omega)]
        exact ⟨⟨by omega, by omega⟩, k + 1, by rw [e2]; rfl, stay e2 _ (Below.refl _ _), by omega⟩
  · have hlt' : ¬ (k : Int) < 2 := by omega
    obtain rfl : k = 2 := by omega
    have r2 := s2.rules 0 rfl
    have q2 := s2.rules 1 rfl
    have e0 : newestH m = bestN m 2 := rfl
    rw [e0]
    cases hb2 : bestN m 2 with
    | none =>
      rw [hb2] at r2 s2
      simp (disch := first | omega | exact okFill_t rfl | exact okSize_t rfl | exact fun h => h | (simp only [World.size_alloc, World.size_drew, World.size_setCell, size_fill, bytesW]; omega)) only [go_sem, c58, c58S0, c58S1, c58S2, c58S3, c58S4, c58S5, c58S6, c58L0, c58S7, c58S8, c58L0, hlt', r2, q2, Hd.enc]
      exact ⟨fun _ => by subst hy; exact (s2.fill 1 rfl (cs := hd0.enc.toArray) rfl).bel, fun h => absurd h (by decide)⟩
    | some hd =>
      rw [hb2] at r2 s2
      simp (disch := first | omega | exact okFill_t rfl | exact okSize_t rfl | exact fun h => h | (simp only [World.size_alloc, World.size_drew, World.size_setCell, size_fill, bytesW]; omega)) only [go_sem, c58, c58S0, c58S1, c58S2, c58S3, c58S4, c58S5, c58S6, c58L0, c58S7, c58S8, c58L0, hlt', r2, q2, Hd.enc]
      exact ⟨fun h => absurd h (by simp), fun _ => by subst hy; exact (s2.fill 1 rfl (cs := hd.enc.toArray) rfl).bel⟩
end
end Go.Proofs.Ytmchjbgobiagiaa

namespace Go.Proofs.Ytmchjbgobiagiaa
set_option linter.unusedSimpArgs false
set_option linter.unusedVariables false
set_option maxRecDepth 100000
open Go Go.Ann Go.RowKit Go.WideShapes
def headN (n room : Nat) : Hd := ⟨2, 0, room, min (n - 2 - room) 1024⟩
def fmtDk (n : Nat) (h : Hd) : Dk := { safe := ((List.replicate n zeroB).set 1 (filledL [])).set 0 (filledL (headL h)), late := [], left := -1, gone := false }
theorem writeN_new {n : Nat} {l : List (Int × List UInt8)} {i : Int} {d : List UInt8} (h0 : 0 ≤ i) (h1 : i < n) (hd : d.length ≤ 256) : writeN { newDk n with late := l } i d = ({ newDk n with late := l ++ [(i, filledL d)] }, 0) := by
  have e1 : readyN { newDk n with late := l } i = 0 := by
    unfold readyN
    rw [if_neg (by simp [newDk]), if_pos (by simp [newDk]; omega)]
  have e2 : useN { newDk n with late := l } = ({ newDk n with late := l }, 0) := by
    unfold useN
    rw [if_neg (by simp [newDk]), if_neg (by simp [newDk])]
  unfold writeN
  rw [if_neg (by rw [e1]; decide), if_neg (by omega), e2, if_pos rfl]
theorem flushN_new {n : Nat} {l : List (Int × List UInt8)} (h0 : 0 < n) : flushN { newDk n with late := l } = ({ newDk n with safe := doneL (newDk n).safe l, late := [] }, 0) := by
  have e1 : readyN { newDk n with late := l } 0 = 0 := by
    unfold readyN
    rw [if_neg (by simp [newDk]), if_pos (by simp [newDk]; omega)]
  have e2 : useN { newDk n with late := l } = ({ newDk n with late := l }, 0) := by
    unfold useN
    rw [if_neg (by simp [newDk]), if_neg (by simp [newDk])]
  unfold flushN
  rw [if_neg (by rw [e1]; decide), e2, if_neg (by simp)]
theorem fmt_eq {n : Nat} {h : Hd} (h2 : 2 ≤ n) (hs : h.seq = 2) : putN (writeN (newDk n) 1 []).1 h = (fmtDk n h, 0) := by
  have e1 : writeN (newDk n) 1 [] = ({ newDk n with late := [(1, filledL [])] }, 0) := writeN_new (l := []) (by decide) (by omega) (by decide)
  rw [e1]
  unfold putN
  rw [hs]
  have e2 := writeN_new (n := n) (l := [(1, filledL [])]) (i := ((2 % 2 : Nat) : Int)) (d := headL h) (by decide) (by omega) (by rw [headL_len]; decide)
  rw [e2, if_neg (by simp), flushN_new (by omega)]
  rfl
theorem cutL_app {a b : List UInt8} {i j : Nat} (h : j ≤ a.length) : cutL (a ++ b) i j = cutL a i j := by
  unfold cutL
  rw [List.take_append_of_le_length (by omega)]
theorem notL_notL (l : List UInt8) : notL (notL l) = l := by
  unfold notL
  rw [List.map_map]
  have : (notB ∘ notB) = id := by
    funext b
    show notB (notB b) = b
    unfold notB
    rw [← UInt8.toNat_inj, UInt8.toNat_sub_of_le _ _ (by rw [UInt8.le_iff_toNat_le, UInt8.toNat_sub_of_le _ _ (by rw [UInt8.le_iff_toNat_le]; have := b.toNat_lt; show b.toNat ≤ 255; omega)]; show 255 - b.toNat ≤ 255; omega), UInt8.toNat_sub_of_le _ _ (by rw [UInt8.le_iff_toNat_le]; have := b.toNat_lt; show b.toNat ≤ 255; omega)]
    have := b.toNat_lt
    show 255 - (255 - b.toNat) = b.toNat
    omega
  rw [this, List.map_id]
theorem readHd_headL {h : Hd} (ok : h.ok) (r : List UInt8) : readHd (headL h ++ r) = some h := by
  have hl := head0_len h
  have hL := headL_len h
  have e20 : (headL h ++ r).take 20 = head0 h := by
    rw [List.take_append_of_le_length (by omega)]
    unfold headL
    rw [List.take_append_of_le_length (by omega), List.take_of_length_le (by omega)]
  have c2 : cutL (headL h ++ r) 20 40 = notL (head0 h) := by
    rw [show cutL (headL h ++ r) 20 40 = cutL (headL h ++ r) ((20 : Nat) : Int) ((40 : Nat) : Int) from rfl, cutL_app (by omega)]
    unfold cutL headL
    rw [List.take_of_length_le (by rw [List.length_append, notL_len, hl]; decide)]
    show (head0 h ++ notL (head0 h)).drop 20 = _
    rw [List.drop_append_of_le_length (by omega), List.drop_of_length_le (by omega), List.nil_append]
  have f8 := fixL_len h.seq 8
  have f4 := fixL_len h.used 4
  have g4 := fixL_len h.room 4
  have k4 := fixL_len h.pages 4
  have e8 : (headL h ++ r).take 8 = fixL h.seq 8 := by
    have : (headL h ++ r).take 8 = ((headL h ++ r).take 20).take 8 := by rw [List.take_take]; rfl
    rw [this, e20]
    unfold head0
    rw [List.append_assoc, List.append_assoc, List.take_append_of_le_length (by omega), List.take_of_length_le (by omega)]
  have cut : ∀ i j : Nat, j ≤ 20 → cutL (headL h ++ r) i j = cutL (head0 h) i j := fun i j hj => by
    rw [cutL_app (by omega)]
    unfold headL
    exact cutL_app (by omega)
  have a1 : cutL (head0 h) (8 : Nat) (12 : Nat) = fixL h.used 4 := by
    unfold cutL head0
    show List.drop 8 (List.take 12 _) = _
    rw [List.append_assoc, List.append_assoc, List.take_append, List.take_of_length_le (by omega), f8, List.drop_append_of_le_length (by omega), List.drop_of_length_le (by omega), List.nil_append, List.take_append_of_le_length (by omega), List.take_of_length_le (by omega)]
  have a2 : cutL (head0 h) (12 : Nat) (16 : Nat) = fixL h.room 4 := by
    unfold cutL head0
    show List.drop 12 (List.take 16 _) = _
    rw [List.take_append_of_le_length (by simp only [List.length_append, f8, f4, g4]; omega), List.take_of_length_le (by simp only [List.length_append, f8, f4, g4]; omega), List.drop_append, List.drop_of_length_le (by simp only [List.length_append, f8, f4]; omega), List.nil_append]
    simp only [List.length_append, f8, f4]
    rfl
  have a3 : cutL (head0 h) (16 : Nat) (20 : Nat) = fixL h.pages 4 := by
    unfold cutL
    show List.drop 16 (List.take 20 _) = _
    rw [List.take_of_length_le (by omega)]
    unfold head0
    rw [List.drop_append, List.drop_of_length_le (by simp only [List.length_append, f8, f4, g4]; omega), List.nil_append]
    simp only [List.length_append, f8, f4, g4]
    rfl
  unfold readHd
  rw [if_neg (by rw [List.length_append, hL]; omega), e20, c2, if_pos rfl, e8]
  rw [show cutL (headL h ++ r) 8 12 = _ from (cut 8 12 (by decide)).trans a1, show cutL (headL h ++ r) 12 16 = _ from (cut 12 16 (by decide)).trans a2, show cutL (headL h ++ r) 16 20 = _ from (cut 16 20 (by decide)).trans a3]
  simp only [unfixL_fixL]
  rw [Nat.mod_eq_of_lt ok.seq, Nat.mod_eq_of_lt ok.used, Nat.mod_eq_of_lt ok.room, Nat.mod_eq_of_lt ok.pages]
theorem readHd_zero : readHd (filledL []) = none := by
  unfold readHd
  rw [if_neg (by decide), if_neg (by decide)]
theorem newest_fmt {n room : Nat} (h1 : 1 ≤ room) (h2 : room + 3 ≤ n) (h3 : n ≤ 2048) : newestH (fmtDk n (headN n room)) = some (headN n room) := by
  have hh : (headN n room).ok := ⟨by show 2 < _; omega, by show 0 < _; omega, by show room < _; omega, by show min (n - 2 - room) 1024 < _; omega⟩
  have b0 : blkN (fmtDk n (headN n room)) 0 = filledL (headL (headN n room)) := by
    unfold blkN fmtDk
    simp only [lastL, List.foldl_nil]
    rw [List.getD_eq_getElem?_getD, List.getElem?_set_self (by simp; omega)]; rfl
  have b1 : blkN (fmtDk n (headN n room)) 1 = filledL [] := by
    unfold blkN fmtDk
    simp only [lastL, List.foldl_nil]
    rw [List.getD_eq_getElem?_getD, List.getElem?_set_ne (by decide), List.getElem?_set_self (by simp; omega)]; rfl
  have hl : (fmtDk n (headN n room)).safe.length = n := by simp [fmtDk]
  have c0 : candH (fmtDk n (headN n room)) 0 0 = some (headN n room) := by
    unfold candH
    rw [b0]
    unfold filledL
    rw [readHd_headL hh]
    have hf : fitsH (fmtDk n (headN n room)) (headN n room) = true := by
      unfold fitsH
      rw [decide_eq_true_eq, hl]
      simp only [headN]
      omega
    show (if fitsH _ _ = true ∧ 0 < (headN n room).seq ∧ (headN n room).seq % 2 = 0 then some (headN n room) else none) = _
    rw [if_pos ⟨hf, by simp [headN], by simp [headN]⟩]
  have c1 : ∀ k, candH (fmtDk n (headN n room)) 1 k = none := fun k => by
    unfold candH
    rw [b1, readHd_zero]
  unfold newestH
  simp only [bestN, Option.getD_none]
  rw [show hd0.seq = 0 from rfl, c0]
  simp only [c1]
section
variable {W0 w : World} {F : Nat → Prop} {L : List Res} {I : List Inv} {g : Nat} {vb vl : Value} {m : Dk}
theorem format_ok {n room : Nat} (h : St W0 w F (DkL g vb vl (newDk n) ++ L) I) (h1 : 1 ≤ room) (h2 : room + 3 ≤ n) (h3 : n ≤ 2048) :
    Ret Try.prog 38 [.pointer (some ⟨g, 0, none⟩), .int .i64 room] w fun u w' => u = .int .i64 0 ∧ ∃ vl', St W0 w' F (DkL g vb vl' (fmtDk n (headN n room)) ++ L) I := by
  have ok := newDk_ok (n := n) (by omega) h3
  have hln : (newDk n).safe.length = n := List.length_replicate
  refine ent38 _ _ _ _ ?_
  simp (disch := first | omega | exact okFill_t rfl | exact okSize_t rfl | exact fun h => h | (simp only [World.size_alloc, World.size_drew, World.size_setCell, size_fill, bytesW]; omega)) only [go_sem, c38, c38S0, c38S1, c38S2, c38S3, c38S4, c38S5, c38S6]
  refine Ret.mono (len_ok h ok) ?_
  rintro _ w2 ⟨rfl, e2⟩
  subst w2
  simp (disch := first | omega | exact okFill_t rfl | exact okSize_t rfl | exact fun h => h | (simp only [World.size_alloc, World.size_drew, World.size_setCell, size_fill, bytesW]; omega)) only [go_sem, c38, c38S0, c38S1, c38S2, c38S3, c38S4, c38S5, c38S6]
  refine Ret.mono (read_ok 0 h ok) ?_
  rintro _ w2 ⟨rfl, b2⟩
  have er : (readN (newDk n) 0).2 = 0 := by
    have e1 : readyN (newDk n) 0 = 0 := by
      unfold readyN
      rw [if_neg (by simp [newDk]), if_pos (by simp [newDk]; omega)]
    unfold readN; rw [if_pos e1]
  have s2 := h.call b2
  rw [hln]
  have c1 : ¬ (room : Int) < 1 := by omega
  have c2 : ¬ (n : Int) < room := by omega
  have c3 : ¬ (n : Int) - 2 - room < 1 := by omega
  simp (disch := first | omega | exact okFill_t rfl | exact okSize_t rfl | exact fun h => h | (simp only [World.size_alloc, World.size_drew, World.size_setCell, size_fill, bytesW]; omega)) only [go_sem, c38, c38S0, c38S1, c38S2, c38S3, c38S4, c38S5, c38S6, er, c1, c2, c3]
  refine ⟨by constructor <;> omega, by constructor <;> omega, Ret.mono (write_ok 1 [] s2 ok (by simp [newDk])) ?_⟩
  rintro _ w3 ⟨rfl, vl', s3⟩
  have ok3 := writeN_ok ok (by simp [newDk]) 1 []
  have e1 : writeN (newDk n) 1 [] = ({ newDk n with late := [(1, filledL [])] }, 0) := writeN_new (l := []) (by decide) (by omega) (by decide)
  have e1' : (writeN (newDk n) 1 []).2 = 0 := by rw [e1]
  simp (disch := first | omega | exact okFill_t rfl | exact okSize_t rfl | exact fun h => h | (simp only [World.size_alloc, World.size_drew, World.size_setCell, size_fill, bytesW]; omega)) only [go_sem, c38, c38S0, c38S1, c38S2, c38S3, c38S4, c38S5, c38S6, e1']
  have hh : (headN n room).ok := ⟨by show 2 < _; omega, by show 0 < _; omega, by show room < _; omega, by show min (n - 2 - room) 1024 < _; omega⟩
  have e2 : min ((n : Int) - 2 - room) 1024 = ((min (n - 2 - room) 1024 : Nat) : Int) := by omega
  rw [e2]
  refine ⟨by constructor <;> omega, by constructor <;> omega, bdW_built (cells := (headN n room).enc.toArray) (by kernel_rfl) ?_⟩
  simp (disch := first | omega | exact okFill_t rfl | exact okSize_t rfl | exact fun h => h | (simp only [World.size_alloc, World.size_drew, World.size_setCell, size_fill, bytesW]; omega)) only [go_sem, c38, c38S0, c38S1, c38S2, c38S3, c38S4, c38S5, c38S6]
  refine Ret.mono (put_ok (headN n room) hh s3 ok3 (by rw [e1]; simp)) ?_
  rintro _ w4 ⟨rfl, vl2, s4⟩
  rw [fmt_eq (by omega) rfl] at s4 ⊢
  simp (disch := first | omega | exact okFill_t rfl | exact okSize_t rfl | exact fun h => h | (simp only [World.size_alloc, World.size_drew, World.size_setCell, size_fill, bytesW]; omega)) only [go_sem, c38, c38S0, c38S1, c38S2, c38S3, c38S4, c38S5, c38S6]
  exact ⟨vl2, s4⟩
theorem open0_ok (hd : Hd) (h : St W0 w F (DkL g vb vl m ++ L) I) (ok : m.ok) (hg : m.gone = false) (h2 : 2 ≤ m.safe.length) (hn : newestH m = some hd) (hu : hd.used = 0) :
    Ret Try.prog 31 [.pointer (some ⟨g, 0, none⟩)] w fun u w' => ∃ b mb, u = .tuple #[.pointer (some ⟨b, 0, none⟩), .int .i64 0] ∧ St W0 w' F (StoL b mb g vb vl ⟨hd, [], 0, false, m⟩ ++ L) I := by
  refine ent31 _ _ _ ?_
  simp (disch := first | omega | exact okFill_t rfl | exact okSize_t rfl | exact fun h => h | (simp only [World.size_alloc, World.size_drew, World.size_setCell, size_fill, bytesW]; omega)) only [go_sem, c31, c31S0, c31S1, c31S2, c31S3, c31L0, c31S4, c31S5, c31S6, c31S7, c31S8, c31S9, c31S10]
  refine Ret.mono (newest_ok h ok hg h2) ?_
  rintro u w2 ⟨hu2, b2⟩
  rw [hn] at hu2
  obtain rfl : u = _ := hu2
  have s2 := h.call b2
  simp (disch := first | omega | exact okFill_t rfl | exact okSize_t rfl | exact fun h => h | (simp only [World.size_alloc, World.size_drew, World.size_setCell, size_fill, bytesW]; omega)) only [go_sem, c31, c31S0, c31S1, c31S2, c31S3, c31L0, c31S4, c31S5, c31S6, c31S7, c31S8, c31S9, c31S10, Hd.enc]
  have s3 := s2.box #[.int .u64 hd.seq, .int .i64 hd.used, .int .i64 hd.room, .int .i64 hd.pages] 73
  have r3 := s3.rules 0 rfl
  refine mmG (ek := intK) (ev := strK) ?_
  have s4 := s3.lay (mapG intK strK [] 0)
  rw [World.size_alloc] at s4
  have hzl := s4.low 1 rfl
  simp (disch := first | omega | exact okFill_t rfl | exact okSize_t rfl | exact fun h => h | (simp only [World.size_alloc, World.size_drew, World.size_setCell, size_fill, bytesW]; omega)) only [go_sem, c31, c31S0, c31S1, c31S2, c31S3, c31L0, c31S4, c31S5, c31S6, c31S7, c31S8, c31S9, c31S10, r3]
  generalize (w2.alloc (.cells #[.int .u64 hd.seq, .int .i64 hd.used, .int .i64 hd.room, .int .i64 hd.pages] 73)) = w3 at s3 s4 ⊢
  generalize w3.alloc (mapG intK strK [] 0) = w4 at s4 hzl ⊢
  generalize w2.heap.size = z at s4 hzl ⊢
  generalize hmb : z + 1 = mb at s4 ⊢
  refine bdW_built (cells := #[.pointer (some ⟨g, 0, none⟩), .int .u64 hd.seq, .int .i64 hd.used, .int .i64 hd.room, .int .i64 hd.pages, .map (some mb), .bool false]) (by kernel_rfl) ?_
  have s5 := s4.box #[.pointer (some ⟨g, 0, none⟩), .int .u64 hd.seq, .int .i64 hd.used, .int .i64 hd.room, .int .i64 hd.pages, .map (some mb), .bool false] 76
  have r5 := s5.rules 2 rfl
  have hu' : ¬ (0 : Int) < hd.used := by omega
  simp (disch := first | omega | exact okFill_t rfl | exact okSize_t rfl | exact fun h => h | (simp only [World.size_alloc, World.size_drew, World.size_setCell, size_fill, bytesW]; omega)) only [go_sem, c31, c31S0, c31S1, c31S2, c31S3, c31L0, c31S4, c31S5, c31S6, c31S7, c31S8, c31S9, c31S10, r5, hu']
  generalize w4.heap.size = b at s5 ⊢
  refine ⟨b, mb, rfl, ?_⟩
  exact s5.sub (List.Sublist.cons_cons _ (List.Sublist.cons_cons _ (List.sublist_cons_self _ _)))
end
end Go.Proofs.Ytmchjbgobiagiaa

namespace Go.Proofs.Ytmchjbgobiagiaa
set_option linter.unusedSimpArgs false
set_option linter.unusedVariables false
set_option maxRecDepth 100000
open Go Go.Ann Go.RowKit Go.WideShapes
abbrev Pge := Int × List UInt8
def hdsN (n : Nat) : Nat := (4 * n + 259) / 256
def blocksN (n : Nat) : Nat := hdsN n + n
def fixP (p : Pge) : List UInt8 := fixL p.1.toNat 4
def idxL (l : List Pge) : List UInt8 := fixL l.length 4 ++ l.flatMap fixP
theorem fixP_len (p : Pge) : (fixP p).length = 4 := fixL_len _ _
theorem flatP_len (l : List Pge) : (l.flatMap fixP).length = 4 * l.length := by
  induction l with
  | nil => rfl
  | cons a l ih => rw [List.flatMap_cons, List.length_append, ih, List.length_cons]; unfold fixP; rw [fixL_len]; omega
theorem idxL_len (l : List Pge) : (idxL l).length = 4 * l.length + 4 := by
  unfold idxL; rw [List.length_append, fixL_len, flatP_len]; omega
def chunksL : Nat → List UInt8 → List (List UInt8)
  | 0, _ => []
  | k + 1, s => filledL (s.take 256) :: chunksL k (s.drop 256)
theorem chunksL_len : ∀ (k : Nat) (s : List UInt8), (chunksL k s).length = k
  | 0, _ => rfl
  | k + 1, s => by rw [chunksL, List.length_cons, chunksL_len k]
theorem chunksL_256 : ∀ (k : Nat) (s : List UInt8), ∀ c ∈ chunksL k s, c.length = 256
  | 0, _, _, h => by cases h
  | k + 1, s, c, h => by
    rw [chunksL] at h
    rcases List.mem_cons.1 h with rfl | h
    · exact filledL_length (by rw [List.length_take]; omega)
    · exact chunksL_256 k _ c h
def packL (l : List Pge) : List (List UInt8) := chunksL (hdsN l.length) (idxL l) ++ l.map fun p => filledL p.2
theorem packL_len (l : List Pge) : (packL l).length = blocksN l.length := by
  unfold packL blocksN; rw [List.length_append, chunksL_len, List.length_map]
theorem fit256 {l : List UInt8} (h : l.length = 256) : filledL l = l := by unfold filledL; rw [h]; simp
end Go.Proofs.Ytmchjbgobiagiaa

namespace Go.Proofs.Ytmchjbgobiagiaa
open Go Go.Proofs Go.Shelf
set_option linter.unusedVariables false
def laySortPages_ren : Go.Shelf.Ren := ⟨fun | 6 => 53 | 15 => 74 | 14 => 73 | 28 => 100 | 29 => 101 | 20 => 92 | 21 => 93 | 22 => 94 | 23 => 95 | 24 => 96 | 25 => 97 | 26 => 98 | 27 => 99 | 46 => 114 | 47 => 115 | 48 => 116 | 49 => 117 | 50 => 118 | 57 => 131 | n => n, fun | 22 => 48 | 24 => 54 | 25 => 100 | 3 => 3 | 39 => 22 | 0 => 0 | 53 => 148 | 55 => 59 | 4 => 4 | 46 => 142 | 45 => 141 | 50 => 91 | 5 => 5 | 9 => 9 | 66 => 163 | 70 => 167 | 76 => 176 | 77 => 177 | n => n, fun | n => n⟩
theorem laySortPages : Go.Proofs.SlLaysF0.n6 Try.prog laySortPages_ren := {
    mixed := by kernel_rfl,
    f6 := ⟨Try.f53.name, by decide, Try.func53.trans (congrArg some (by kernel_rfl))⟩,
    f14 := ⟨Try.f73.name, by decide, Try.func73.trans (congrArg some (by kernel_rfl))⟩,
    f15 := Try.func74.trans (congrArg some (by kernel_rfl)),
    f20 := ⟨Try.f92.name, by decide, Try.func92.trans (congrArg some (by kernel_rfl))⟩,
    f21 := ⟨Try.f93.name, by decide, Try.func93.trans (congrArg some (by kernel_rfl))⟩,
    f22 := ⟨Try.f94.name, by decide, Try.func94.trans (congrArg some (by kernel_rfl))⟩,
    f23 := ⟨Try.f95.name, by decide, Try.func95.trans (congrArg some (by kernel_rfl))⟩,
    f24 := ⟨Try.f96.name, by decide, Try.func96.trans (congrArg some (by kernel_rfl))⟩,
    f25 := ⟨Try.f97.name, by decide, Try.func97.trans (congrArg some (by kernel_rfl))⟩,
    f26 := ⟨Try.f98.name, by decide, Try.func98.trans (congrArg some (by kernel_rfl))⟩,
    f27 := ⟨Try.f99.name, by decide, Try.func99.trans (congrArg some (by kernel_rfl))⟩,
    f28 := Try.func100.trans (congrArg some (by kernel_rfl)),
    f29 := Try.func101.trans (congrArg some (by kernel_rfl)),
    f46 := ⟨Try.f114.name, by decide, Try.func114.trans (congrArg some (by kernel_rfl))⟩,
    f47 := Try.func115.trans (congrArg some (by kernel_rfl)),
    f48 := Try.func116.trans (congrArg some (by kernel_rfl)),
    f49 := ⟨Try.f117.name, by decide, Try.func117.trans (congrArg some (by kernel_rfl))⟩,
    f50 := ⟨Try.f118.name, by decide, Try.func118.trans (congrArg some (by kernel_rfl))⟩,
    f57 := ⟨Try.f131.name, by decide, Try.func131.trans (congrArg some (by kernel_rfl))⟩,
    t0 := Try.underlying0,
    a0 := Try.isAgg0,
    z0 := Try.sizeOf0,
    v0 := Try.zeroValue0,
    t3 := Try.underlying3,
    a3 := Try.isAgg3,
    z3 := Try.sizeOf3,
    v3 := Try.zeroValue3,
    t4 := Try.underlying4,
    a4 := Try.isAgg4,
    z4 := Try.sizeOf4,
    v4 := Try.zeroValue4,
    t5 := Try.underlying5,
    a5 := Try.isAgg5,
    z5 := Try.sizeOf5,
    v5 := Try.zeroValue5,
    t9 := Try.underlying9,
    a9 := Try.isAgg9,
    z9 := Try.sizeOf9,
    v9 := Try.zeroValue9,
    t22 := Try.underlying48,
    a22 := Try.isAgg48,
    z22 := Try.sizeOf48,
    v22 := Try.zeroValue48,
    t25 := Try.underlying100,
    a25 := Try.isAgg100,
    z25 := Try.sizeOf100,
    v25 := Try.zeroValue100,
    t39 := Try.underlying22,
    a39 := Try.isAgg22,
    z39 := Try.sizeOf22,
    v39 := Try.zeroValue22,
    t45 := Try.underlying141,
    a45 := Try.isAgg141,
    z45 := Try.sizeOf141,
    v45 := Try.zeroValue141,
    t46 := Try.underlying142,
    a46 := Try.isAgg142,
    z46 := Try.sizeOf142,
    v46 := Try.zeroValue142,
    t50 := Try.underlying91,
    a50 := Try.isAgg91,
    z50 := Try.sizeOf91,
    v50 := Try.zeroValue91,
    t53 := Try.underlying148,
    a53 := Try.isAgg148,
    z53 := Try.sizeOf148,
    v53 := Try.zeroValue148,
    t55 := Try.underlying59,
    a55 := Try.isAgg59,
    z55 := Try.sizeOf59,
    v55 := Try.zeroValue59,
    t66 := Try.underlying163,
    a66 := Try.isAgg163,
    z66 := Try.sizeOf163,
    v66 := Try.zeroValue163,
    t70 := Try.underlying167,
    a70 := Try.isAgg167,
    z70 := Try.sizeOf167,
    v70 := Try.zeroValue167,
    t76 := Try.underlying176,
    a76 := Try.isAgg176,
    z76 := Try.sizeOf176,
    v76 := Try.zeroValue176,
    t77 := Try.underlying177,
    a77 := Try.isAgg177,
    z77 := Try.sizeOf177,
    v77 := Try.zeroValue177 }
def layJoin_ren : Go.Shelf.Ren := ⟨fun | 156 => 82 | 165 => 107 | 166 => 102 | 169 => 103 | 240 => 119 | 241 => 120 | 276 => 132 | 277 => 133 | n => n, fun | 31 => 36 | 9 => 9 | 3 => 3 | 4 => 4 | 0 => 0 | 20 => 20 | 72 => 152 | 76 => 155 | 70 => 150 | 37 => 95 | 75 => 154 | 127 => 169 | 164 => 179 | 5 => 5 | 80 => 115 | n => n, fun | n => n⟩
theorem layJoin : Go.Proofs.Lays.n156 Try.prog layJoin_ren := {
    mixed := by kernel_rfl,
    f156 := Try.func82.trans (congrArg some (by kernel_rfl)),
    f165 := Try.func107.trans (congrArg some (by kernel_rfl)),
    f166 := Try.func102.trans (congrArg some (by kernel_rfl)),
    f169 := Try.func103.trans (congrArg some (by kernel_rfl)),
    f240 := Try.func119.trans (congrArg some (by kernel_rfl)),
    f241 := Try.func120.trans (congrArg some (by kernel_rfl)),
    f276 := Try.func132.trans (congrArg some (by kernel_rfl)),
    f277 := Try.func133.trans (congrArg some (by kernel_rfl)),
    t0 := Try.underlying0,
    a0 := Try.isAgg0,
    z0 := Try.sizeOf0,
    v0 := Try.zeroValue0,
    t3 := Try.underlying3,
    a3 := Try.isAgg3,
    z3 := Try.sizeOf3,
    v3 := Try.zeroValue3,
    t4 := Try.underlying4,
    a4 := Try.isAgg4,
    z4 := Try.sizeOf4,
    v4 := Try.zeroValue4,
    t9 := Try.underlying9,
    a9 := Try.isAgg9,
    z9 := Try.sizeOf9,
    v9 := Try.zeroValue9,
    t20 := Try.underlying20,
    a20 := Try.isAgg20,
    z20 := Try.sizeOf20,
    v20 := Try.zeroValue20,
    t31 := Try.underlying36,
    a31 := Try.isAgg36,
    z31 := Try.sizeOf36,
    v31 := Try.zeroValue36,
    t37 := Try.underlying95,
    a37 := Try.isAgg95,
    z37 := Try.sizeOf95,
    v37 := Try.zeroValue95,
    t70 := Try.underlying150,
    a70 := Try.isAgg150,
    z70 := Try.sizeOf150,
    v70 := Try.zeroValue150,
    t72 := Try.underlying152,
    a72 := Try.isAgg152,
    z72 := Try.sizeOf152,
    v72 := Try.zeroValue152,
    t75 := Try.underlying154,
    a75 := Try.isAgg154,
    z75 := Try.sizeOf154,
    v75 := Try.zeroValue154,
    t76 := Try.underlying155,
    a76 := Try.isAgg155,
    z76 := Try.sizeOf155,
    v76 := Try.zeroValue155,
    t127 := Try.underlying169,
    a127 := Try.isAgg169,
    z127 := Try.sizeOf169,
    v127 := Try.zeroValue169,
    t164 := Try.underlying179,
    a164 := Try.isAgg179,
    z164 := Try.sizeOf179,
    v164 := Try.zeroValue179 }
end Go.Proofs.Ytmchjbgobiagiaa

namespace Go.Ann
open Go Go.RowKit
set_option linter.unusedVariables false
set_option linter.unusedSimpArgs false
def byteV (b : UInt8) : Value := .int .u8 b.toNat
theorem strCells_ofL (l : List UInt8) : Lib.strCells (ofL l) = l.map byteV := by
  unfold Lib.strCells ofL
  simp only [List.map_inj_left]
  intro a _; rfl
section
variable {P : Program} {W0 w w' : World} {F : Nat → Prop} {L : List Res} {I : List Inv} {K : Value → World → Prop}
theorem St.appendS {t u ty e n : Nat} {cs : Array Bool} {v : Value} {xs : List Value} (h : St W0 w F L I) (i : Nat) (hi : L[i]? = some (.row v e 1 n xs))
    (hm : mkI P t = some (e, 1, 1, .int .u8 0)) (hu : P.underlying u = some .string) (l : List UInt8) (hb : n + l.length ≤ 140737488355328)
    (hK : ∀ v' w', St W0 w' F (L.set i (.row v' e 1 (n + l.length) (xs ++ l.map byteV))) I → Chg (fun k => v.ownBlock = some k) w w' → (v' = .slice none 0 0 ↔ v = .slice none 0 0 ∧ l = []) → K v' w') :
    rawB P .append #[t, u] ty cs [v, .string (ofL l)] w K := by
  have hr := h.row i hi
  obtain ⟨inf, ht, hinf, hzz, hsi, hby⟩ := mkI_some hm
  have hsz : (ofL l).size = l.length := by simp [ofL, ByteArray.size]
  obtain ⟨v', w', h1, h2, h3, h4⟩ := Lib.run_append_own_string (P := P) (w := w) W0.heap.size t u ty e inf ht hu hinf hzz (by first | exact hsi | exact hsi.symm) (by first | exact hby | exact hby.symm) v n xs hr (ofL l) (by rw [hsz]; have : maxLen = 9223372036854775807 := (by decide); omega) (by rw [hsz]; exact hb) h.size
  have own : ∀ k, v'.ownBlock = some k → v.ownBlock = some k ∨ w.heap.size ≤ k := by
    have hml : maxLen = 9223372036854775807 := by decide
    rcases hr.2 with ⟨rfl, rfl⟩ | ⟨g, cap, cur, rfl, hbg, hg, hnc, hcm, hcs, htake⟩
    · rcases Nat.eq_zero_or_pos l.length with h0 | h0
      · have := h4.2 ⟨rfl, by rw [hsz]; exact h0⟩
        subst this
        intro k hk; cases hk
      · have hrun := run_append_nil_string (P := P) (w := w) t u ty e inf (.int .u8 0) ht hu hinf hzz (ofL l) (by omega) (by omega) (by rw [hsz]; first | rw [hby] | rw [← hby]; omega)
        rw [h1] at hrun
        simp only [Result.ok.injEq] at hrun
        rw [hrun.1]
        intro k hk
        simp only [Value.ownBlock, Option.some.injEq] at hk
        exact .inr (by omega)
    · by_cases hroom : n + (ofL l).size ≤ cap
      · have hcs' : cur.size = cap := by simpa using hcs
        have hrun := Lib.run_append_room_string (P := P) (w := w) t u ty e inf ht hu hinf (by first | exact hsi | exact hsi.symm) g n cap cur hg (ofL l) hroom (by omega)
        rw [h1] at hrun
        simp only [Result.ok.injEq] at hrun
        rw [hrun.1]
        intro k hk
        exact .inl hk
      · have holds : ∀ j u, xs[j]? = some u → w.cell? ((⟨g, 0, none⟩ : Addr).add j) = some u := hr.cells (g := g) rfl
        have hxl : xs.length = n := by simpa using hr.1
        have hrun := Lib.run_append_grow_string (P := P) (w := w) t u ty e inf (.int .u8 0) ht hu hinf hzz ⟨g, 0, none⟩ n cap xs (by first | rw [hsi] | rw [← hsi]; simpa using hxl) holds (ofL l) (by omega) (by omega) (by first | rw [hby] | rw [← hby]; exact growslice_fits (by omega) (by omega))
        rw [h1] at hrun
        simp only [Result.ok.injEq] at hrun
        rw [hrun.1]
        intro k hk
        simp only [Value.ownBlock, Option.some.injEq] at hk
        exact .inr (by omega)
  rw [hsz, strCells_ofL] at h2
  rw [hsz] at h4
  exact ⟨v', w', by simp only [builtin, Sem.run_bind, h1, Result.andThen_ok, Sem.run_pure], hK v' w' (h.grow i hi h3 h2 own) ((Chg.refl _ w).grown h3 fun k hk _ => hk) (h4.trans (by rw [List.length_eq_zero_iff]))⟩
theorem chg_freeze {S : Nat → Prop} {w0 : World} (h : Chg S w0 w) (g n : Nat) (hg : S g ∨ w0.heap.size ≤ g) : Chg S w0 (w.freeze ⟨g, 0, none⟩ n) := by
  have hf : ∀ k, k ≠ g → (w.freeze ⟨g, 0, none⟩ n).heap[k]? = w.heap[k]? := fun k hk => by
    unfold World.freeze
    split
    · rfl
    · simp only [Array.getElem?_modify]
      rw [if_neg (fun e => hk e.symm)]
  have hs : (w.freeze ⟨g, 0, none⟩ n).heap.size = w.heap.size := by
    unfold World.freeze
    split
    · rfl
    · simp only [Array.size_modify]
  refine ⟨?_, ?_, ?_, by rw [hs]; exact h.size, fun k hk hS => ?_⟩
  · have : (w.freeze ⟨g, 0, none⟩ n).os = w.os := by unfold World.freeze; split <;> rfl
    rw [this]; exact h.os
  · have : (w.freeze ⟨g, 0, none⟩ n).tape = w.tape := by unfold World.freeze; split <;> rfl
    rw [this]; exact h.tape
  · have : (w.freeze ⟨g, 0, none⟩ n).output = w.output := by unfold World.freeze; split <;> rfl
    rw [this]; exact h.output
  · rw [hf k (fun e => ?_)]
    · exact h.block k hk hS
    · subst e
      rcases hg with hg | hg
      · exact hS hg
      · omega
theorem rawB_sliceData {ats : Array TypeId} {ty e : TypeId} {cs : Array Bool} {a : Option Addr} {n c : Nat} (hp : P.underlying ty = some (.pointer e)) (h0 : a = none ∧ c = 0 ∨ 0 < c) (hK : K (.pointer a) w) : rawB P .unsafeSliceData ats ty cs [.slice a n c] w K := by
  refine ⟨_, w, ?_, hK⟩
  have : (Builtin.unsafeSliceData_ ats ty #[.slice a n c]).run P w = .ok (.pointer a) w := by
    rcases h0 with ⟨rfl, rfl⟩ | h0
    · rfl
    · cases a with
      | none => rfl
      | some a => exact Lib.run_unsafeSliceData_row _ _ _ _ _ _ (by omega)
  simp only [builtin, List.toArray, Sem.run_bind, this, Result.andThen_ok, Sem.run_pure]
theorem ofL_toArray (l : List UInt8) : (⟨l.toArray⟩ : ByteArray) = ofL l := by simp [ofL]
theorem St.unsafeS {pt it ty e n : Nat} {cs : Array Bool} {a : Option Addr} {c : Nat} {l : List UInt8} (h : St W0 w F L I) (i : Nat) (hi : L[i]? = some (.row (.slice a n c) e 1 n (l.map byteV)))
    (hp : P.underlying pt = some (.pointer e)) (hc : P.cellsOf e = 1) (hK : ∀ w', St W0 w' F (L.set i (.row (.slice none 0 0) e 1 0 [])) I → Chg (fun k => (Value.slice a n c).ownBlock = some k) w w' → K (.string (ofL l)) w') :
    rawB P .unsafeString #[pt, it] ty cs [.pointer a, .int .i64 n] w K := by
  have hr := h.row i hi
  have hln : l.length = n := by have := hr.1; simpa using this
  have nil : ∀ w', Res.ok w' W0.heap.size (.row (.slice none 0 0) e 1 0 []) := fun w' => ⟨by simp, .inl ⟨rfl, rfl⟩⟩
  rcases Nat.eq_zero_or_pos n with h0 | h0
  · subst h0
    obtain rfl : l = [] := List.eq_nil_of_length_eq_zero hln
    refine ⟨.string (ofL []), w, ?_, hK w (h.upd i hi (Chg.refl _ _) _ (nil w) fun k hk => by cases hk) (Chg.refl _ _)⟩
    have := Lib.run_unsafeString_none (P := P) w pt it ty a
    have e0 : (ofL [] : ByteArray) = .empty := rfl
    simp only [builtin, List.toArray, Sem.run_bind, Result.andThen_ok, Sem.run_pure]
    have e1 : ((0 : Nat) : Int) = 0 := rfl
    rw [e1]
    show Result.andThen ((Builtin.unsafeString_ #[pt, it] ty #[.pointer a, .int .i64 0]).run P w) _ = _
    rw [this, e0]; rfl
  · rcases hr.2 with ⟨_, hz⟩ | ⟨g, cap, cur, hv, hbg, hg, hnc, hcm, hcs, htake⟩
    · omega
    simp only [Value.slice.injEq, true_and] at hv
    obtain ⟨rfl, rfl⟩ := hv
    have hml : maxLen = 9223372036854775807 := by decide
    have hrun := Lib.run_unsafeString_row (P := P) w pt it ty e hp hc g cur.size (by simp [World.shape?, hg]) l (by intro hl; rw [hl] at hln; simp at hln; omega) (by omega) (by omega) (fun j x hx => hr.cells (g := g) rfl j _ (by rw [List.getElem?_map, hx]; rfl))
    rw [hln, ofL_toArray] at hrun
    have hch : Chg (fun k => (Value.slice (some ⟨g, 0, none⟩) n c).ownBlock = some k) w (w.freeze ⟨g, 0, none⟩ n) := chg_freeze (Chg.refl _ _) g n (.inl rfl)
    refine ⟨.string (ofL l), w.freeze ⟨g, 0, none⟩ n, ?_, hK _ (h.upd i hi hch _ (nil _) fun k hk => by cases hk) hch⟩
    simp only [builtin, List.toArray, Sem.run_bind, Result.andThen_ok, Sem.run_pure]
    show Result.andThen ((Builtin.unsafeString_ #[pt, it] ty #[.pointer (some ⟨g, 0, none⟩), .int .i64 n]).run P w) _ = _
    rw [hrun]; rfl
end
end Go.Ann

namespace Go.Proofs.Ytmchjbgobiagiaa
set_option linter.unusedSimpArgs false
set_option linter.unusedVariables false
set_option maxRecDepth 100000
open Go Go.Ann Go.RowKit Go.WideShapes Go.Shelf
def BuL (b : Nat) (p v : Value) (bs : List UInt8) : List Res := [.blk b #[p, v] 152, .row v 5 1 bs.length (bs.map byteV)]
structure BuOk (b : Nat) (p v : Value) (bs : List UInt8) : Prop where
  ptr : p = .pointer none ∨ p = .pointer (some ⟨b, 0, none⟩)
  nil : bs = [] → v = .slice none 0 0
theorem goCC : goFunc Try.prog 119 = true := by kernel_rfl
theorem x72 : Builder.X72 Try.prog layJoin_ren := ⟨by kernel_rfl, by kernel_rfl⟩
section
variable {W0 w : World} {F : Nat → Prop} {L : List Res} {I : List Inv} {b : Nat} {p v : Value} {bs : List UInt8}
theorem copyCheck_ok (h : St W0 w F (BuL b p v bs ++ L) I) (ok : BuOk b p v bs) :
    Ret Try.prog 119 [.pointer (some ⟨b, 0, none⟩)] w fun u w' => u = .tuple #[] ∧ St W0 w' F (BuL b (.pointer (some ⟨b, 0, none⟩)) v bs ++ L) I := by
  have hb := h.blk 0 rfl
  have L240 : Lays.n240 Try.prog layJoin_ren := { layJoin with }
  rcases ok.ptr with rfl | rfl
  · refine (Any.Builder_copyCheck_fresh L240 x72 b w (hb.cell 0) (by unfold World.shape?; rw [show w.heap[b]? = _ from hb]; rfl) (hb.frozen 0)).mono ?_
    rintro e w' ⟨rfl, rfl⟩
    exact ⟨_, rfl, rfl, h.set 0 rfl 0 (.pointer (some ⟨b, 0, none⟩))⟩
  · refine (Any.Builder_copyCheck_used L240 x72 b w (hb.cell 0)).mono ?_
    rintro e w' ⟨rfl, rfl⟩
    exact ⟨_, rfl, rfl, h⟩
theorem writeS_ok (s : List UInt8) (h : St W0 w F (BuL b p v bs ++ L) I) (ok : BuOk b p v bs) (hl : bs.length + s.length ≤ 140737488355328) :
    Ret Try.prog 102 [.pointer (some ⟨b, 0, none⟩), .string (ofL s)] w fun u w' => ∃ p' v', BuOk b p' v' (bs ++ s) ∧ St W0 w' F (BuL b p' v' (bs ++ s) ++ L) I := by
  refine ent102 _ _ _ _ ?_
  simp (disch := first | omega | exact okFill_t rfl | exact okSize_t rfl | exact fun h => h | (simp only [World.size_alloc, World.size_drew, World.size_setCell, size_fill, bytesW]; omega)) only [go_sem, c102, c102S0, c102S1, goCC]
  refine Ret.mono (copyCheck_ok h ok) ?_
  rintro _ w2 ⟨rfl, h2⟩
  have r2 := h2.rules 0 rfl
  obtain ⟨a, c, rfl, _⟩ := own_slice (h2.row 1 rfl)
  simp (disch := first | omega | exact okFill_t rfl | exact okSize_t rfl | exact fun h => h | (simp only [World.size_alloc, World.size_drew, World.size_setCell, size_fill, bytesW]; omega)) only [go_sem, c102, c102S0, c102S1, r2]
  refine h2.appendS 1 rfl (by kernel_rfl) Try.underlying9 s hl ?_
  intro v3 w3 h3 c3 hn
  obtain ⟨a3, c3', rfl, _⟩ := own_slice (h3.row 1 rfl)
  have r3 := h3.rules 0 rfl
  simp (disch := first | omega | exact okFill_t rfl | exact okSize_t rfl | exact fun h => h | (simp only [World.size_alloc, World.size_drew, World.size_setCell, size_fill, bytesW]; omega)) only [go_sem, c102, c102S0, c102S1, r3]
  refine ⟨.pointer (some ⟨b, 0, none⟩), .slice a3 (bs.length + s.length) c3', ⟨.inr rfl, fun hnil => ?_⟩, st_recast (h3.set 0 rfl 1 (.slice a3 (bs.length + s.length) c3')) (by simp only [BuL, List.length_append, List.map_append]; rfl)⟩
  rw [List.append_eq_nil_iff] at hnil
  exact hn.2 ⟨ok.nil hnil.1, hnil.2⟩
theorem stringS_ok (h : St W0 w F (BuL b p v bs ++ L) I) (ok : BuOk b p v bs) (hl : bs.length ≤ 140737488355328) :
    Ret Try.prog 103 [.pointer (some ⟨b, 0, none⟩)] w fun u w' => u = .string (ofL bs) ∧ St W0 w' F L I := by
  refine ent103 _ _ _ ?_
  obtain ⟨a, c, rfl, hc⟩ := own_slice (h.row 1 rfl)
  simp (disch := first | omega | exact okFill_t rfl | exact okSize_t rfl | exact fun h => h | (simp only [World.size_alloc, World.size_drew, World.size_setCell, size_fill, bytesW]; omega)) only [go_sem, c103, c103S0]
  refine c103draw0 (Same (fun k => k = b) _) (Same.refl _ _) ?_
  have h2 := h.drew
  have r2 := h2.rules 0 rfl
  have l2 := h2.low 0 rfl
  generalize w.drew = w2 at h2 r2 l2 ⊢
  simp (disch := first | omega | exact okFill_t rfl | exact okSize_t rfl | exact fun h => h | (simp only [World.size_alloc, World.size_drew, World.size_setCell, size_fill, bytesW]; omega)) only [go_sem, c103, c103S0, c103D0, r2]
  have h0 : a = none ∧ c = 0 ∨ 0 < c := by
    rcases Nat.eq_zero_or_pos bs.length with hz | hz
    · have := ok.nil (List.eq_nil_of_length_eq_zero hz)
      simp only [Value.slice.injEq] at this
      exact .inl ⟨this.1, this.2.2⟩
    · exact .inr (by omega)
  have same : ∀ w', Chg (fun k => (Value.slice a bs.length c).ownBlock = some k) w2 w' → Same (fun k => k = b) w2 w' := fun w' hc k hk => by
    subst hk
    exact hc.block k l2.2 fun e => h2.ne 1 0 rfl rfl (by decide) (k := k) e rfl
  refine rawB_sliceData (e := 5) Try.underlying169 h0 ?_
  simp (disch := first | omega | exact okFill_t rfl | exact okSize_t rfl | exact fun h => h | (simp only [World.size_alloc, World.size_drew, World.size_setCell, size_fill, bytesW]; omega)) only [go_sem, c103, c103S0]
  refine ⟨Same.refl _ _, h2.unsafeS 1 rfl Try.underlying169 (by kernel_rfl) ?_⟩
  intro w3 h3 c3
  simp (disch := first | omega | exact okFill_t rfl | exact okSize_t rfl | exact fun h => h | (simp only [World.size_alloc, World.size_drew, World.size_setCell, size_fill, bytesW]; omega)) only [go_sem, c103, c103S0]
  exact ⟨same _ c3, h3.sub ((List.sublist_cons_self _ _).trans (List.sublist_cons_self _ _))⟩
end
end Go.Proofs.Ytmchjbgobiagiaa

namespace Go.Proofs.Ytmchjbgobiagiaa
set_option linter.unusedSimpArgs false
set_option linter.unusedVariables false
set_option maxRecDepth 100000
open Go Go.Ann Go.RowKit Go.WideShapes Go.Shelf
theorem full_ok (l : List UInt8) (w : World) (h : l.length ≤ 256) :
    Ret Try.prog 104 [.string (ofL l)] w fun v w' => v = .string (ofL (filledL l)) ∧ Below w.heap.size w w' := by
  refine ent104 _ _ _ ?_
  simp (disch := first | omega | exact okFill_t rfl | exact okSize_t rfl | exact fun h => h | (simp only [World.size_alloc, World.size_drew, World.size_setCell, size_fill, bytesW]; omega)) only [go_sem, c104]
  refine ⟨⟨by omega, by omega⟩, ?_⟩
  refine msW_one ty95mkI rfl (by omega) (by omega) (by omega) (by omega) ?_
  simp (disch := first | omega | exact okFill_t rfl | exact okSize_t rfl | exact fun h => h | (simp only [World.size_alloc, World.size_drew, World.size_setCell, size_fill, bytesW]; omega)) only [go_sem, c104]
  have e : ((256 : Int) - (l.length : Int)).toNat = 256 - l.length := by omega
  rw [e]
  exact ⟨_, List.length_replicate, bytesAt_new w (256 - l.length) _, by rw [List.length_replicate]; omega, rfl, (Below.refl _ _).alloc (Nat.le_refl _) _⟩
theorem heads_ok (n : Nat) (w : World) (hn : n ≤ 4294967296) :
    Ret Try.prog 76 [.int .i64 n] w fun v w' => v = .int .i64 (hdsN n) ∧ w' = w := by
  refine ent76 _ _ _ ?_
  simp (disch := first | omega | exact okFill_t rfl | exact okSize_t rfl | exact fun h => h | (simp only [World.size_alloc, World.size_drew, World.size_setCell, size_fill, bytesW]; omega)) only [go_sem, c76]
  have e : (4 * (n : Int) + 4 + 256 - 1).tdiv 256 = (hdsN n : Nat) := by
    rw [Int.tdiv_eq_ediv_of_nonneg (by omega)]
    unfold hdsN; omega
  have hb : hdsN n ≤ 4294967296 := by unfold hdsN; omega
  rw [e]
  exact ⟨by constructor <;> omega, by constructor <;> omega, by constructor <;> omega, by constructor <;> omega, by constructor <;> omega, rfl⟩
theorem chunk_get : ∀ (H : Nat) (S : List UInt8) (k : Nat) (hk : k < (chunksL H S).length), (chunksL H S)[k] = filledL ((S.drop (256 * k)).take 256)
  | 0, _, _, hk => by rw [chunksL_len] at hk; omega
  | H + 1, S, 0, _ => rfl
  | H + 1, S, k + 1, hk => by
    have := chunk_get H (S.drop 256) k (by rw [chunksL_len] at *; omega)
    rw [List.drop_drop, show 256 + 256 * k = 256 * (k + 1) by omega] at this
    exact this
theorem strE_snoc (xs : List (List UInt8)) (s : List UInt8) : (xs ++ [s]).flatMap strE = xs.flatMap strE ++ strE s := by rw [List.flatMap_append]; simp
section
variable {W0 w : World} {F : Nat → Prop} {L : List Res} {I : List Inv} {v : Value} {l : List Pge}
theorem pack_ok (h : St W0 w F L (.rd 2 pendV v l :: I)) (hl : l.length ≤ 1024) (hp : ∀ p ∈ l, 0 ≤ p.1 ∧ p.1 < 2048 ∧ p.2.length = 256) :
    Ret Try.prog 77 [v] w fun u w' => ∃ vo, u = .tuple #[vo, .int .i64 0] ∧ St W0 w' F (.row vo 9 1 (packL l).length ((packL l).flatMap strE) :: L) (.rd 2 pendV v l :: I) := by
  obtain ⟨a, c, rfl, hac⟩ := (h.rd 0 rfl).form
  have h1 : ¬ (1024 : Int) < l.length := by omega
  refine ent77 _ _ _ ?_
  simp (disch := first | omega | exact okFill_t rfl | exact okSize_t rfl | exact fun h => h | (simp only [World.size_alloc, World.size_drew, World.size_setCell, size_fill, bytesW]; omega)) only [go_sem, c77, c77S0, c77S1, c77S2, c77S3, c77S4, c77S5, c77S6, c77S7, c77S8, c77S9, c77S10, c77S11, c77S12, c77S13, c77S14, c77S15, h1]
  rw [wrap_u64_id (l.length : Int) (by omega) (by omega)]
  have s1 := (h.box #[.pointer none, .slice none 0 0] 152).nilRow 5 1
  generalize w.heap.size = b at s1 ⊢
  generalize w.alloc (.cells #[.pointer none, .slice none 0 0] 152) = w1 at s1 ⊢
  have s1 : St W0 w1 F (BuL b (.pointer none) (.slice none 0 0) [] ++ L) (.rd 2 pendV (.slice a l.length c) l :: I) := s1.perm (List.Perm.swap _ _ _)
  refine Ret.mono (fixed_ok l.length 4 w1 (by omega) (by omega)) ?_
  rintro _ w2 ⟨rfl, b2⟩
  have s2 := s1.call b2
  simp (disch := first | omega | exact okFill_t rfl | exact okSize_t rfl | exact fun h => h | (simp only [World.size_alloc, World.size_drew, World.size_setCell, size_fill, bytesW]; omega)) only [go_sem, c77, c77S0, c77S1, c77S2, c77S3, c77S4, c77S5, c77S6, c77S7, c77S8, c77S9, c77S10, c77S11, c77S12, c77S13, c77S14, c77S15]
  refine Ret.mono (writeS_ok (fixL l.length 4) s2 ⟨.inl rfl, fun _ => rfl⟩ (by rw [fixL_len]; decide)) ?_
  rintro _ w3 ⟨p3, v3, ok3, s3⟩
  rw [List.nil_append] at ok3 s3
  simp (disch := first | omega | exact okFill_t rfl | exact okSize_t rfl | exact fun h => h | (simp only [World.size_alloc, World.size_drew, World.size_setCell, size_fill, bytesW]; omega)) only [go_sem, c77, c77S0, c77S1, c77S2, c77S3, c77S4, c77S5, c77S6, c77S7, c77S8, c77S9, c77S10, c77S11, c77S12, c77S13, c77S14, c77S15]
  refine W_loopU (fun q : Nat × Value × Value => [(22, .int .i64 q.1)]) (fun q w' => q.1 ≤ l.length ∧ BuOk b q.2.1 q.2.2 (fixL l.length 4 ++ (l.take q.1).flatMap fixP) ∧ St W0 w' F (BuL b q.2.1 q.2.2 (fixL l.length 4 ++ (l.take q.1).flatMap fixP) ++ L) (.rd 2 pendV (.slice a l.length c) l :: I)) (fun q => l.length - q.1) (0, p3, v3) rfl ⟨Nat.zero_le _, by simpa using ok3, by simpa using s3⟩ ?_
  clear s1 s2 s3 ok3 b2
  rintro ⟨k, p4, v4⟩ w4 ⟨hk, ok4, s4⟩
  simp only at hk ok4 s4
  have hR := s4.rd 0 rfl
  have hbl : (fixL l.length 4 ++ (l.take k).flatMap fixP).length ≤ 4 * k + 4 := by rw [List.length_append, fixL_len, flatP_len, List.length_take]; omega
  by_cases hlt : k < l.length
  · have hlt' : (k : Int) < l.length := by omega
    obtain ⟨q, rfl⟩ := hR.ptr (by omega)
    have eL := hR.at pendV_len hlt
    obtain ⟨q0, q1, q2⟩ := hp _ (List.getElem_mem hlt)
    have c1 : ¬ l[k].1 < 0 := by omega
    have c2 : ¬ (2048 : Int) ≤ l[k].1 := by omega
    have c3 : ¬ (256 : Int) < l[k].2.length := by omega
    simp (disch := first | omega | exact okFill_t rfl | exact okSize_t rfl | exact fun h => h | (simp only [World.size_alloc, World.size_drew, World.size_setCell, size_fill, bytesW]; omega)) only [go_sem, c77, c77S0, c77S1, c77S2, c77L0, c77S3, c77S4, c77S5, c77S6, c77L1, c77S7, c77S8, c77S9, c77L2, c77S10, c77S11, c77S12, c77S13, c77S14, c77S15, c77L0, hlt', eL, pendV, c1, c2, c3]
    have ew : IntKind.u64.wrap l[k].1 = (l[k].1.toNat : Nat) := by rw [wrap_u64_id _ (by omega) (by omega)]; omega
    rw [ew]
    refine ⟨by omega, Ret.mono (fixed_ok l[k].1.toNat 4 _ (by omega) (by omega)) ?_⟩
    rintro _ w5 ⟨rfl, b5⟩
    have s5 := (s4.alloc' (.cells #[.int .i64 l[k].1, .string (ofL l[k].2)] 54)).call b5
    simp (disch := first | omega | exact okFill_t rfl | exact okSize_t rfl | exact fun h => h | (simp only [World.size_alloc, World.size_drew, World.size_setCell, size_fill, bytesW]; omega)) only [go_sem, c77, c77S0, c77S1, c77S2, c77L0, c77S3, c77S4, c77S5, c77S6, c77L1, c77S7, c77S8, c77S9, c77L2, c77S10, c77S11, c77S12, c77S13, c77S14, c77S15]
    refine Ret.mono (writeS_ok (fixP l[k]) s5 ok4 (by rw [fixP_len]; omega)) ?_
    rintro _ w6 ⟨p6, v6, ok6, s6⟩
    have e6 : fixL l.length 4 ++ (l.take k).flatMap fixP ++ fixP l[k] = fixL l.length 4 ++ (l.take (k + 1)).flatMap fixP := by
      rw [List.take_succ_eq_append_getElem hlt, List.flatMap_append, List.append_assoc]
      simp
    rw [e6] at ok6 s6
    simp (disch := first | omega | exact okFill_t rfl | exact okSize_t rfl | exact fun h => h | (simp only [World.size_alloc, World.size_drew, World.size_setCell, size_fill, bytesW]; omega)) only [go_sem, c77, c77S0, c77S1, c77S2, c77L0, c77S3, c77S4, c77S5, c77S6, c77L1, c77S7, c77S8, c77S9, c77L2, c77S10, c77S11, c77S12, c77S13, c77S14, c77S15]
    exact ⟨by constructor <;> omega, (k + 1, p6, v6), rfl, ⟨by omega, ok6, s6⟩, by simp only; omega⟩
  · have hlt' : ¬ (k : Int) < l.length := by omega
    obtain rfl : k = l.length := by omega
    rw [List.take_length] at ok4 s4 hbl
    have eI : fixL l.length 4 ++ l.flatMap fixP = idxL l := rfl
    rw [eI] at ok4 s4 hbl
    simp (disch := first | omega | exact okFill_t rfl | exact okSize_t rfl | exact fun h => h | (simp only [World.size_alloc, World.size_drew, World.size_setCell, size_fill, bytesW]; omega)) only [go_sem, c77, c77S0, c77S1, c77S2, c77L0, c77S3, c77S4, c77S5, c77S6, c77S7, c77S8, c77S9, c77S10, c77S11, c77S12, c77S13, c77S14, c77S15, c77L0, hlt']
    refine Ret.mono (stringS_ok s4 ok4 (by omega)) ?_
    rintro _ w5 ⟨rfl, s5⟩
    simp (disch := first | omega | exact okFill_t rfl | exact okSize_t rfl | exact fun h => h | (simp only [World.size_alloc, World.size_drew, World.size_setCell, size_fill, bytesW]; omega)) only [go_sem, c77, c77S0, c77S1, c77S2, c77L0, c77S3, c77S4, c77S5, c77S6, c77S7, c77S8, c77S9, c77S10, c77S11, c77S12, c77S13, c77S14, c77S15]
    refine Ret.mono (heads_ok l.length w5 (by omega)) ?_
    rintro _ w6 ⟨rfl, e6⟩
    subst w6
    simp (disch := first | omega | exact okFill_t rfl | exact okSize_t rfl | exact fun h => h | (simp only [World.size_alloc, World.size_drew, World.size_setCell, size_fill, bytesW]; omega)) only [go_sem, c77, c77S0, c77S1, c77S2, c77L0, c77S3, c77S4, c77S5, c77S6, c77S7, c77S8, c77S9, c77S10, c77S11, c77S12, c77S13, c77S14, c77S15]
    obtain ⟨H, hH⟩ : ∃ H, H = hdsN l.length := ⟨_, rfl⟩
    obtain ⟨S, hS⟩ : ∃ S, S = idxL l := ⟨_, rfl⟩
    have hSl : S.length = 4 * l.length + 4 := by rw [hS, idxL_len]
    have hHb : H ≤ 17 := by rw [hH]; unfold hdsN; omega
    have hcl := chunksL_len H S
    have s6 := s5.nilRow 9 1
    rw [← hH, ← hS]
    refine W_loopU (fun q : Nat × Value => [(7, .string (ofL (S.drop (256 * q.1)))), (8, q.2), (50, .int .i64 q.1)]) (fun q w' => q.1 ≤ H ∧ St W0 w' F (.row q.2 9 1 q.1 (((chunksL H S).take q.1).flatMap strE) :: L) (.rd 2 pendV (.slice a l.length c) l :: I)) (fun q => H - q.1) (0, .slice none 0 0) rfl ⟨Nat.zero_le _, s6⟩ ?_
    clear s6 s5 s4 ok4
    rintro ⟨k, vo⟩ w7 ⟨hk7, s7⟩
    simp only at hk7 s7
    obtain ⟨ao, co, rfl, _⟩ := own_slice (s7.row 0 rfl)
    by_cases hlt : k < H
    · have hlt' : (k : Int) < H := by omega
      obtain ⟨R, hR⟩ : ∃ R, R = S.drop (256 * k) := ⟨_, rfl⟩
      have hRl : R.length ≤ 4 * l.length + 4 := by rw [hR, List.length_drop]; omega
      rw [← hR]
      have em : min (R.length : Int) 256 = (min R.length 256 : Nat) := by omega
      simp (disch := first | omega | exact okFill_t rfl | exact okSize_t rfl | exact fun h => h | (simp only [World.size_alloc, World.size_drew, World.size_setCell, size_fill, bytesW]; omega)) only [go_sem, c77, c77S0, c77S1, c77S2, c77L0, c77S3, c77S4, c77S5, c77S6, c77L1, c77S7, c77S8, c77S9, c77L2, c77S10, c77S11, c77S12, c77S13, c77S14, c77S15, c77L1, hlt', em]
      have et : List.take (min R.length 256) R = R.take 256 := by
        rcases Nat.le_total R.length 256 with h | h
        · rw [Nat.min_eq_left h, List.take_of_length_le (Nat.le_refl _), List.take_of_length_le h]
        · rw [Nat.min_eq_right h]
      have ed : List.drop (min R.length 256) R = S.drop (256 * (k + 1)) := by
        have e0 : S.drop (256 * (k + 1)) = R.drop 256 := by rw [hR, List.drop_drop]; congr 1
        rw [e0]
        rcases Nat.le_total R.length 256 with h | h
        · rw [Nat.min_eq_left h, List.drop_of_length_le (Nat.le_refl _), List.drop_of_length_le h]
        · rw [Nat.min_eq_right h]
      rw [et]
      refine ⟨by omega, Ret.mono (full_ok (R.take 256) w7 (by rw [List.length_take]; omega)) ?_⟩
      rintro _ w8 ⟨rfl, b8⟩
      have s8 := s7.call b8
      have ec : (chunksL H S).take (k + 1) = (chunksL H S).take k ++ [filledL (R.take 256)] := by
        rw [List.take_succ_eq_append_getElem (by rw [hcl]; exact hlt), chunk_get, ← hR]
      have ones : ∀ u ∈ strE (filledL (R.take 256)), u.oneCell' = true := by simpa using strE_ones [filledL (R.take 256)]
      simp (disch := first | omega | exact okFill_t rfl | exact okSize_t rfl | exact fun h => h | (simp only [World.size_alloc, World.size_drew, World.size_setCell, size_fill, bytesW]; omega)) only [go_sem, c77, c77S0, c77S1, c77S2, c77L0, c77S3, c77S4, c77S5, c77S6, c77L1, c77S7, c77S8, c77S9, c77L2, c77S10, c77S11, c77S12, c77S13, c77S14, c77S15]
      refine bsW_ones ty36mkI rfl rfl (by decide) (by decide) ones ?_
      have hx : Rd (w8.alloc (.cells (strE (filledL (R.take 256))).toArray 9)) 1 (.slice (some ⟨w8.heap.size, 0, none⟩) 1 1) 1 (strE (filledL (R.take 256))) := rd_new (n := 1) (cs := (strE (filledL (R.take 256))).toArray) rfl
      simp (disch := first | omega | exact okFill_t rfl | exact okSize_t rfl | exact fun h => h | (simp only [World.size_alloc, World.size_drew, World.size_setCell, size_fill, bytesW]; omega)) only [go_sem, c77, c77S0, c77S1, c77S2, c77L0, c77S3, c77S4, c77S5, c77S6, c77L1, c77S7, c77S8, c77S9, c77L2, c77S10, c77S11, c77S12, c77S13, c77S14, c77S15]
      refine (s8.alloc' (.cells (strE (filledL (R.take 256))).toArray 9)).append 0 rfl ty36mkI rfl (by decide) hx ones (by omega) (by omega) ?_
      intro v9 w9 s9 c9
      simp (disch := first | omega | exact okFill_t rfl | exact okSize_t rfl | exact fun h => h | (simp only [World.size_alloc, World.size_drew, World.size_setCell, size_fill, bytesW]; omega)) only [go_sem, c77, c77S0, c77S1, c77S2, c77L0, c77S3, c77S4, c77S5, c77S6, c77L1, c77S7, c77S8, c77S9, c77L2, c77S10, c77S11, c77S12, c77S13, c77S14, c77S15]
      rw [ed]
      refine ⟨by omega, by constructor <;> omega, (k + 1, v9), rfl, ⟨by omega, st_recast s9 ?_⟩, by simp only; omega⟩
      rw [ec, strE_snoc]; rfl
    · have hlt' : ¬ (k : Int) < H := by omega
      obtain rfl : k = H := by omega
      rw [List.take_of_length_le (by rw [hcl]; omega)] at s7
      simp (disch := first | omega | exact okFill_t rfl | exact okSize_t rfl | exact fun h => h | (simp only [World.size_alloc, World.size_drew, World.size_setCell, size_fill, bytesW]; omega)) only [go_sem, c77, c77S0, c77S1, c77S2, c77L0, c77S3, c77S4, c77S5, c77S6, c77L1, c77S7, c77S8, c77S9, c77S10, c77S11, c77S12, c77S13, c77S14, c77S15, c77L1, hlt']
      refine W_loopU (fun q : Nat × Value => [(8, q.2), (68, .int .i64 q.1)]) (fun q w' => q.1 ≤ l.length ∧ St W0 w' F (.row q.2 9 1 (k + q.1) ((chunksL k S ++ (l.take q.1).map fun p => filledL p.2).flatMap strE) :: L) (.rd 2 pendV (.slice a l.length c) l :: I)) (fun q => l.length - q.1) (0, .slice ao k co) rfl ⟨Nat.zero_le _, by simpa using s7⟩ ?_
      clear s7
      rintro ⟨j, vj⟩ w8 ⟨hj, s8⟩
      simp only at hj s8
      obtain ⟨aj, cj, rfl, _⟩ := own_slice (s8.row 0 rfl)
      have hR := s8.rd 0 rfl
      by_cases hjl : j < l.length
      · have hjl' : (j : Int) < l.length := by omega
        obtain ⟨q, rfl⟩ := hR.ptr (by omega)
        have eL := hR.at pendV_len hjl
        obtain ⟨q0, q1, q2⟩ := hp _ (List.getElem_mem hjl)
        simp (disch := first | omega | exact okFill_t rfl | exact okSize_t rfl | exact fun h => h | (simp only [World.size_alloc, World.size_drew, World.size_setCell, size_fill, bytesW]; omega)) only [go_sem, c77, c77S0, c77S1, c77S2, c77L0, c77S3, c77S4, c77S5, c77S6, c77L1, c77S7, c77S8, c77S9, c77L2, c77S10, c77S11, c77S12, c77S13, c77S14, c77S15, c77L2, hjl', eL, pendV]
        refine ⟨by omega, Ret.mono (full_ok l[j].2 _ (by omega)) ?_⟩
        rintro _ w9 ⟨rfl, b9⟩
        have s9 := (s8.alloc' (.cells #[.int .i64 l[j].1, .string (ofL l[j].2)] 54)).call b9
        have ones : ∀ u ∈ strE (filledL l[j].2), u.oneCell' = true := by simpa using strE_ones [filledL l[j].2]
        simp (disch := first | omega | exact okFill_t rfl | exact okSize_t rfl | exact fun h => h | (simp only [World.size_alloc, World.size_drew, World.size_setCell, size_fill, bytesW]; omega)) only [go_sem, c77, c77S0, c77S1, c77S2, c77L0, c77S3, c77S4, c77S5, c77S6, c77L1, c77S7, c77S8, c77S9, c77L2, c77S10, c77S11, c77S12, c77S13, c77S14, c77S15]
        refine bsW_ones ty36mkI rfl rfl (by decide) (by decide) ones ?_
        have hx : Rd (w9.alloc (.cells (strE (filledL l[j].2)).toArray 9)) 1 (.slice (some ⟨w9.heap.size, 0, none⟩) 1 1) 1 (strE (filledL l[j].2)) := rd_new (n := 1) (cs := (strE (filledL l[j].2)).toArray) rfl
        simp (disch := first | omega | exact okFill_t rfl | exact okSize_t rfl | exact fun h => h | (simp only [World.size_alloc, World.size_drew, World.size_setCell, size_fill, bytesW]; omega)) only [go_sem, c77, c77S0, c77S1, c77S2, c77L0, c77S3, c77S4, c77S5, c77S6, c77L1, c77S7, c77S8, c77S9, c77L2, c77S10, c77S11, c77S12, c77S13, c77S14, c77S15]
        refine (s9.alloc' (.cells (strE (filledL l[j].2)).toArray 9)).append 0 rfl ty36mkI rfl (by decide) hx ones (by omega) (by omega) ?_
        intro v10 w10 s10 c10
        simp (disch := first | omega | exact okFill_t rfl | exact okSize_t rfl | exact fun h => h | (simp only [World.size_alloc, World.size_drew, World.size_setCell, size_fill, bytesW]; omega)) only [go_sem, c77, c77S0, c77S1, c77S2, c77L0, c77S3, c77S4, c77S5, c77S6, c77L1, c77S7, c77S8, c77S9, c77L2, c77S10, c77S11, c77S12, c77S13, c77S14, c77S15]
        refine ⟨by constructor <;> omega, (j + 1, v10), rfl, ⟨by omega, st_recast s10 ?_⟩, by simp only; omega⟩
        rw [List.take_succ_eq_append_getElem hjl, List.map_append, ← List.append_assoc, List.map_cons, List.map_nil, strE_snoc]; rfl
      · have hjl' : ¬ (j : Int) < l.length := by omega
        obtain rfl : j = l.length := by omega
        rw [List.take_length] at s8
        simp (disch := first | omega | exact okFill_t rfl | exact okSize_t rfl | exact fun h => h | (simp only [World.size_alloc, World.size_drew, World.size_setCell, size_fill, bytesW]; omega)) only [go_sem, c77, c77S0, c77S1, c77S2, c77L0, c77S3, c77S4, c77S5, c77S6, c77L1, c77S7, c77S8, c77S9, c77L2, c77S10, c77S11, c77S12, c77S13, c77S14, c77S15, c77L2, hjl']
        have ep : chunksL k S ++ l.map (fun p => filledL p.2) = packL l := by unfold packL; rw [← hH, ← hS]
        have el : (packL l).length = k + l.length := by rw [packL_len]; unfold blocksN; rw [← hH]
        rw [ep] at s8
        exact ⟨_, rfl, by rw [el]; exact s8⟩
end
end Go.Proofs.Ytmchjbgobiagiaa

namespace Go.Proofs.Ytmchjbgobiagiaa
set_option linter.unusedSimpArgs false
set_option linter.unusedVariables false
set_option maxRecDepth 100000
open Go Go.Ann Go.RowKit Go.WideShapes Go.Shelf
section
variable {W0 w : World} {F : Nat → Prop} {L : List Res} {I : List Inv} {v : Value} {b : List (List UInt8)} {l : List Pge}
theorem blocks_ok (n : Nat) (w : World) (hn : n ≤ 4294967296) :
    Ret Try.prog 56 [.int .i64 n] w fun v w' => v = .int .i64 (blocksN n) ∧ w' = w := by
  refine ent56 _ _ _ ?_
  simp (disch := first | omega | exact okFill_t rfl | exact okSize_t rfl | exact fun h => h | (simp only [World.size_alloc, World.size_drew, World.size_setCell, size_fill, bytesW]; omega)) only [go_sem, c56, c56S0]
  refine Ret.mono (heads_ok n w hn) ?_
  rintro _ w2 ⟨rfl, e2⟩
  subst w2
  have hb : hdsN n ≤ 4294967296 := by unfold hdsN; omega
  simp (disch := first | omega | exact okFill_t rfl | exact okSize_t rfl | exact fun h => h | (simp only [World.size_alloc, World.size_drew, World.size_setCell, size_fill, bytesW]; omega)) only [go_sem, c56, c56S0]
  exact ⟨by constructor <;> omega, by unfold blocksN; omega⟩
end
end Go.Proofs.Ytmchjbgobiagiaa

namespace Go.Proofs.Ytmchjbgobiagiaa
set_option linter.unusedSimpArgs false
set_option linter.unusedVariables false
set_option maxRecDepth 100000
open Go Go.Ann Go.RowKit Go.WideShapes
def bitM (mask : Int) (i : Nat) : Bool := decide (mask / 2 ^ (i % 64) % 2 = 1)
def cutK (cut : Int) : Nat := (max 0 (min cut 256)).toNat
def mixL (new old : List UInt8) (k : Nat) : List UInt8 := new.take k ++ old.drop k
def crashS (mask torn cut : Int) : Nat → List (Int × List UInt8) → List (List UInt8) → List (List UInt8)
  | _, [], s => s
  | i, x :: l, s => crashS mask torn cut (i + 1) l (if bitM mask i = true then s.set x.1.toNat (if (i : Int) = torn then mixL x.2 (s.getD x.1.toNat []) (cutK cut) else x.2) else s)
def crashN (m : Dk) (mask torn cut : Int) : Dk := { safe := crashS mask torn cut 0 m.late m.safe, late := [], left := -1, gone := false }
inductive After : List (List UInt8) → List (Int × List UInt8) → List (List UInt8) → Prop
  | nil (s) : After s [] s
  | skip {s x l s'} : After s l s' → After s (x :: l) s'
  | keep {s x l s'} (k : Nat) : After (s.set x.1.toNat (mixL x.2 (s.getD x.1.toNat []) k)) l s' → After s (x :: l) s'
theorem mixL_all {new old : List UInt8} (h1 : new.length = 256) (h2 : old.length = 256) : mixL new old 256 = new := by
  unfold mixL; rw [List.take_of_length_le (by omega), List.drop_of_length_le (by omega), List.append_nil]
theorem mixL_len {new old : List UInt8} {k : Nat} (h1 : new.length = 256) (h2 : old.length = 256) : (mixL new old k).length = 256 := by
  unfold mixL; rw [List.length_append, List.length_take, List.length_drop]; omega
theorem getD_256 {s : List (List UInt8)} (h : ∀ x ∈ s, x.length = 256) {i : Nat} (hi : i < s.length) : (s.getD i []).length = 256 := by
  rw [List.getD_eq_getElem?_getD, List.getElem?_eq_getElem hi]; exact h _ (List.getElem_mem _)
theorem set_256 {s : List (List UInt8)} (h : ∀ x ∈ s, x.length = 256) {i : Nat} {u : List UInt8} (hu : u.length = 256) : ∀ x ∈ s.set i u, x.length = 256 := by
  intro x hx
  rcases List.mem_or_eq_of_mem_set hx with hx | rfl
  · exact h x hx
  · exact hu
theorem getD_set_ne {s : List (List UInt8)} {i j : Nat} {u : List UInt8} (h : i ≠ j) : (s.set i u).getD j [] = s.getD j [] := by
  rw [List.getD_eq_getElem?_getD, List.getD_eq_getElem?_getD, List.getElem?_set_ne h]
theorem getD_set_eq {s : List (List UInt8)} {i : Nat} {u : List UInt8} (h : i < s.length) : (s.set i u).getD i [] = u := by
  rw [List.getD_eq_getElem?_getD, List.getElem?_set_self h]; rfl
theorem crash_after {mask torn cut : Int} : ∀ (l : List (Int × List UInt8)) (i : Nat) (s : List (List UInt8)), (∀ x ∈ s, x.length = 256) → (∀ x ∈ l, 0 ≤ x.1 ∧ x.1 < s.length ∧ x.2.length = 256) → After s l (crashS mask torn cut i l s)
  | [], _, s, _, _ => .nil s
  | x :: l, i, s, hs, hl => by
    obtain ⟨x0, x1, x2⟩ := hl x (List.mem_cons_self ..)
    have hl' := fun y hy => hl y (List.mem_cons_of_mem x hy)
    have ho := getD_256 hs (i := x.1.toNat) (by omega)
    rw [crashS]
    split
    · split
      · exact .keep (cutK cut) (crash_after l (i + 1) _ (set_256 hs (mixL_len x2 ho)) fun y hy => by rw [List.length_set]; exact hl' y hy)
      · refine .keep 256 ?_
        rw [mixL_all x2 ho]
        exact crash_after l (i + 1) _ (set_256 hs x2) fun y hy => by rw [List.length_set]; exact hl' y hy
    · exact .skip (crash_after l (i + 1) s hs hl')
theorem After.len {s s' : List (List UInt8)} {l : List (Int × List UInt8)} (h : After s l s') : s'.length = s.length := by
  induction h with
  | nil => rfl
  | skip _ ih => exact ih
  | keep _ _ ih => rw [ih, List.length_set]
theorem After.all {s s' : List (List UInt8)} {l : List (Int × List UInt8)} (h : After s l s') : (∀ x ∈ s, x.length = 256) → (∀ x ∈ l, 0 ≤ x.1 ∧ x.1 < s.length ∧ x.2.length = 256) → ∀ x ∈ s', x.length = 256 := by
  induction h with
  | nil => intro h _; exact h
  | skip _ ih => exact fun h1 h2 => ih h1 fun y hy => h2 y (List.mem_cons_of_mem _ hy)
  | keep k _ ih =>
    intro h1 h2
    obtain ⟨x0, x1, x2⟩ := h2 _ (List.mem_cons_self ..)
    exact ih (set_256 h1 (mixL_len x2 (getD_256 h1 (by omega)))) fun y hy => by rw [List.length_set]; exact h2 y (List.mem_cons_of_mem _ hy)
theorem After.stays {s s' : List (List UInt8)} {l : List (Int × List UInt8)} (h : After s l s') {j : Nat} : (∀ x ∈ l, x.1.toNat ≠ j) → s'.getD j [] = s.getD j [] := by
  induction h with
  | nil => intro _; rfl
  | skip _ ih => exact fun h => ih fun y hy => h y (List.mem_cons_of_mem _ hy)
  | keep k _ ih =>
    intro h
    rw [ih fun y hy => h y (List.mem_cons_of_mem _ hy), getD_set_ne (h _ (List.mem_cons_self ..))]
theorem After.pre {s s' : List (List UInt8)} {l : List (Int × List UInt8)} (r : List (Int × List UInt8)) (h : After s l s') : After s (l ++ r) s' := by
  induction h with
  | nil s =>
    rw [List.nil_append]
    induction r with
    | nil => exact .nil s
    | cons a r ih => exact .skip ih
  | skip _ ih => exact .skip ih
  | keep k _ ih => exact .keep k ih
theorem After.one {s s' : List (List UInt8)} {x : Int × List UInt8} (h : After s [x] s') : s' = s ∨ ∃ k, s' = s.set x.1.toNat (mixL x.2 (s.getD x.1.toNat []) k) := by
  cases h with
  | skip h => cases h; exact .inl rfl
  | keep k h => cases h; exact .inr ⟨k, rfl⟩
theorem done_stays {s : List (List UInt8)} {j : Nat} : ∀ {l : List (Int × List UInt8)}, (∀ x ∈ l, x.1.toNat ≠ j) → (doneL s l).getD j [] = s.getD j [] := by
  intro l
  unfold doneL
  induction l generalizing s with
  | nil => intro _; rfl
  | cons x l ih =>
    intro h
    rw [List.foldl_cons, ih fun y hy => h y (List.mem_cons_of_mem _ hy), getD_set_ne (h _ (List.mem_cons_self ..))]
theorem done_is {s : List (List UInt8)} : ∀ {l : List (Int × List UInt8)}, (l.map fun x => x.1.toNat).Nodup → ∀ x ∈ l, x.1.toNat < s.length → (doneL s l).getD x.1.toNat [] = x.2 := by
  intro l
  unfold doneL
  induction l generalizing s with
  | nil => intro _ x hx; cases hx
  | cons a l ih =>
    intro hn x hx hlt
    rw [List.map_cons, List.nodup_cons] at hn
    rw [List.foldl_cons]
    rcases List.mem_cons.1 hx with rfl | hx
    · have : (doneL (s.set x.1.toNat x.2) l).getD x.1.toNat [] = _ := done_stays (s := s.set x.1.toNat x.2) fun y hy e => hn.1 (by rw [← e]; exact List.mem_map_of_mem hy)
      unfold doneL at this
      rw [this, getD_set_eq hlt]
    · exact ih hn.2 x hx (by rw [List.length_set]; exact hlt)
def wrsN : Dk → List (Int × List UInt8) → Dk × Int
  | m, [] => (m, 0)
  | m, x :: l => if (writeN m x.1 x.2).2 ≠ 0 then writeN m x.1 x.2 else wrsN (writeN m x.1 x.2).1 l
def batN (m : Dk) (l : List (Int × List UInt8)) : Dk × Int := if (wrsN m l).2 ≠ 0 then wrsN m l else flushN (wrsN m l).1
theorem putN_bat (m : Dk) (h : Hd) : putN m h = batN m [(((h.seq % 2 : Nat) : Int), headL h)] := by
  have e1 : wrsN m [(((h.seq % 2 : Nat) : Int), headL h)] = if (writeN m ((h.seq % 2 : Nat) : Int) (headL h)).2 ≠ 0 then writeN m ((h.seq % 2 : Nat) : Int) (headL h) else ((writeN m ((h.seq % 2 : Nat) : Int) (headL h)).1, 0) := rfl
  by_cases e : (writeN m ((h.seq % 2 : Nat) : Int) (headL h)).2 ≠ 0
  · rw [if_pos e] at e1
    unfold putN batN
    rw [e1, if_pos e]
  · rw [if_neg e] at e1
    unfold putN batN
    rw [e1, if_neg e, if_neg (by simp)]
def fillW (l : List (Int × List UInt8)) : List (Int × List UInt8) := l.map fun x => (x.1, filledL x.2)
structure Fit (n : Nat) (l : List (Int × List UInt8)) : Prop where
  all : ∀ x ∈ l, 0 ≤ x.1 ∧ x.1 < n ∧ x.2.length ≤ 256
theorem Fit.fill {n : Nat} {l : List (Int × List UInt8)} (h : Fit n l) : ∀ x ∈ fillW l, 0 ≤ x.1 ∧ x.1 < n ∧ x.2.length = 256 := by
  intro x hx
  obtain ⟨y, hy, rfl⟩ := List.mem_map.1 hx
  obtain ⟨h0, h1, h2⟩ := h.all y hy
  exact ⟨h0, h1, filledL_length h2⟩
structure Up (m : Dk) (s : List (List UInt8)) (l : List (Int × List UInt8)) : Prop where
  safe : m.safe = s
  late : m.late = l
  gone : m.gone = false
theorem useN_cases (m : Dk) : ((useN m).2 = 0 ∧ (useN m).1.gone = m.gone ∧ (m.left = -1 → (useN m).1.left = -1)) ∨ ((useN m).2 = 11 ∧ (useN m).1.gone = true ∧ m.left = 0) := by
  unfold useN
  by_cases h0 : m.left = 0
  · rw [if_pos h0]; exact .inr ⟨rfl, rfl, h0⟩
  · rw [if_neg h0]
    by_cases h1 : 0 < m.left
    · rw [if_pos h1]; exact .inl ⟨rfl, rfl, fun h => by omega⟩
    · rw [if_neg h1]; exact .inl ⟨rfl, rfl, fun h => h⟩
theorem wrs_cases {s : List (List UInt8)} (n : Nat) (hn : s.length = n) : ∀ (l : List (Int × List UInt8)) (m : Dk) (a : List (Int × List UInt8)), Up m s a → Fit n l →
    ((wrsN m l).2 = 0 ∧ Up (wrsN m l).1 s (a ++ fillW l) ∧ (m.left = -1 → (wrsN m l).1.left = -1)) ∨
    ((wrsN m l).2 = 11 ∧ m.left ≠ -1 ∧ (wrsN m l).1.gone = true ∧ (wrsN m l).1.safe = s ∧ ∃ b r, fillW l = b ++ r ∧ (wrsN m l).1.late = a ++ b)
  | [], m, a, hu, _ => by
    refine .inl ⟨rfl, ?_, fun h => h⟩
    unfold fillW
    rw [List.map_nil, List.append_nil]
    exact hu
  | x :: l, m, a, hu, hf => by
    obtain ⟨h0, h1, h2⟩ := hf.all x (List.mem_cons_self ..)
    have er : readyN m x.1 = 0 := by
      unfold readyN
      rw [if_neg (by rw [hu.gone]; decide), if_pos ⟨h0, by rw [hu.safe, hn]; exact h1⟩]
    have hlt := useN_late m
    rw [wrsN]
    rcases useN_cases m with ⟨e1, e2, e3⟩ | ⟨e1, e2, e3⟩
    · have ew : writeN m x.1 x.2 = ({ (useN m).1 with late := (useN m).1.late ++ [(x.1, filledL x.2)] }, 0) := by
        unfold writeN
        rw [if_neg (by omega), if_neg (by omega), if_pos e1]
      rw [ew, if_neg (by simp)]
      have hu' : Up { (useN m).1 with late := (useN m).1.late ++ [(x.1, filledL x.2)] } s (a ++ [(x.1, filledL x.2)]) :=
        ⟨hlt.2.trans hu.safe, by show (useN m).1.late ++ _ = _; rw [hlt.1, hu.late], e2.trans hu.gone⟩
      rcases wrs_cases n hn l _ _ hu' ⟨fun y hy => hf.all y (List.mem_cons_of_mem _ hy)⟩ with ⟨g1, g2, g3⟩ | ⟨g1, g2, g3, g4, b, r, g5, g6⟩
      · refine .inl ⟨g1, ?_, fun h => g3 (e3 h)⟩
        have : a ++ [(x.1, filledL x.2)] ++ fillW l = a ++ fillW (x :: l) := by unfold fillW; rw [List.map_cons, List.append_assoc]; rfl
        rw [this] at g2
        exact g2
      · refine .inr ⟨g1, fun h => g2 (e3 h), g3, g4, (x.1, filledL x.2) :: b, r, ?_, ?_⟩
        · unfold fillW at g5 ⊢
          rw [List.map_cons, g5]; rfl
        · rw [g6, List.append_assoc]; rfl
    · have ew : writeN m x.1 x.2 = useN m := by
        unfold writeN
        rw [if_neg (by omega), if_neg (by omega), if_neg (by omega)]
      rw [ew, if_pos (by omega)]
      exact .inr ⟨e1, by omega, e2, hlt.2.trans hu.safe, [], fillW (x :: l), rfl, by rw [hlt.1, hu.late, List.append_nil]⟩
theorem bat_cases {m : Dk} {s : List (List UInt8)} {l : List (Int × List UInt8)} (hu : Up m s []) (hf : Fit s.length l) (h0 : 0 < s.length) :
    ((batN m l).2 = 0 ∧ Up (batN m l).1 (doneL s (fillW l)) [] ∧ (m.left = -1 → (batN m l).1.left = -1)) ∨
    ((batN m l).2 = 11 ∧ m.left ≠ -1 ∧ (batN m l).1.gone = true ∧ (batN m l).1.safe = s ∧ ∃ b r, fillW l = b ++ r ∧ (batN m l).1.late = b) := by
  unfold batN
  rcases wrs_cases _ rfl l m [] hu hf with ⟨g1, g2, g3⟩ | ⟨g1, g2, g3, g4, b, r, g5, g6⟩
  · rw [if_neg (by omega)]
    rw [List.nil_append] at g2
    generalize (wrsN m l).1 = m1 at g2 g3 ⊢
    have er : readyN m1 0 = 0 := by
      unfold readyN
      rw [if_neg (by rw [g2.gone]; decide), if_pos ⟨by decide, by rw [g2.safe]; omega⟩]
    have hlt := useN_late m1
    unfold flushN
    rw [if_neg (by omega)]
    rcases useN_cases m1 with ⟨e1, e2, e3⟩ | ⟨e1, e2, e3⟩
    · rw [if_neg (by omega)]
      exact .inl ⟨rfl, ⟨by show doneL m1.safe m1.late = _; rw [g2.safe, g2.late], rfl, e2.trans g2.gone⟩, fun h => e3 (g3 h)⟩
    · rw [if_pos (by omega)]
      exact .inr ⟨e1, fun h => by have := g3 h; omega, e2, hlt.2.trans g2.safe, fillW l, [], by rw [List.append_nil], by rw [hlt.1, g2.late]⟩
  · rw [if_pos (by omega)]
    exact .inr ⟨g1, g2, g3, g4, b, r, g5, by rw [g6, List.nil_append]⟩
theorem bat_after {m : Dk} {s : List (List UInt8)} {l b r : List (Int × List UInt8)} (hs : m.safe = s) (hl : m.late = b) (e : fillW l = b ++ r) (h256 : ∀ x ∈ s, x.length = 256) (hf : Fit s.length l) (mask torn cut : Int) : After s (fillW l) (crashN m mask torn cut).safe := by
  rw [e]
  refine After.pre r ?_
  show After s b (crashS mask torn cut 0 m.late m.safe)
  rw [hs, hl]
  refine crash_after b 0 s h256 fun x hx => hf.fill x ?_
  rw [e]
  exact List.mem_append_left _ hx
end Go.Proofs.Ytmchjbgobiagiaa

namespace Go.Proofs.Ytmchjbgobiagiaa
set_option linter.unusedSimpArgs false
set_option linter.unusedVariables false
set_option maxRecDepth 100000
open Go Go.Ann Go.RowKit Go.WideShapes
theorem mixL_get {A B : List UInt8} (hA : A.length = 256) (hB : B.length = 256) (k i : Nat) : (mixL A B k)[i]? = if i < k then A[i]? else B[i]? := by
  unfold mixL
  rw [List.getElem?_append, List.length_take, hA]
  by_cases h : i < k
  · rw [if_pos h]
    by_cases h2 : i < 256
    · rw [if_pos (by omega), List.getElem?_take, if_pos h]
    · rw [if_neg (by omega), List.getElem?_drop, List.getElem?_eq_none (by omega), List.getElem?_eq_none (by omega)]
  · rw [if_neg h, if_neg (by omega), List.getElem?_drop]
    by_cases h2 : k ≤ 256
    · congr 1; omega
    · rw [List.getElem?_eq_none (by omega), List.getElem?_eq_none (by omega)]
theorem mixL_mix {A B : List UInt8} (hA : A.length = 256) (hB : B.length = 256) (j k : Nat) : mixL A (mixL A B j) k = mixL A B (max k j) := by
  refine List.ext_getElem? fun i => ?_
  rw [mixL_get hA (mixL_len hA hB), mixL_get hA hB, mixL_get hA hB]
  by_cases h1 : i < k
  · rw [if_pos h1, if_pos (by omega)]
  · rw [if_neg h1]
    by_cases h2 : i < j
    · rw [if_pos h2, if_pos (by omega)]
    · rw [if_neg h2, if_neg (by omega)]
theorem readHd_pre {b c : List UInt8} (h1 : b.length = 256) (h2 : c.length = 256) (h : b.take 40 = c.take 40) : readHd b = readHd c := by
  have e : ∀ n, n ≤ 40 → b.take n = c.take n := fun n hn => by
    have := congrArg (List.take n) h
    rwa [List.take_take, List.take_take, Nat.min_eq_left hn] at this
  have ec : ∀ i j : Nat, j ≤ 40 → cutL b i j = cutL c i j := fun i j hj => by
    unfold cutL
    show List.drop i (List.take j b) = List.drop i (List.take j c)
    rw [e j hj]
  unfold readHd
  rw [h1, h2, e 20 (by decide), e 8 (by decide), show cutL b 20 40 = cutL c 20 40 from ec 20 40 (by decide), show cutL b 8 12 = cutL c 8 12 from ec 8 12 (by decide), show cutL b 12 16 = cutL c 12 16 from ec 12 16 (by decide), show cutL b 16 20 = cutL c 16 20 from ec 16 20 (by decide)]
theorem readHd_valid {b : List UInt8} {h : Hd} (e : readHd b = some h) : 40 ≤ b.length ∧ notL (b.take 20) = cutL b 20 40 := by
  unfold readHd at e
  split at e
  · cases e
  · split at e
    · rename_i h1 h2; exact ⟨by omega, h2⟩
    · cases e
theorem headA_len {h : Hd} : (filledL (headL h)).length = 256 := filledL_length (by rw [headL_len]; decide)
theorem readHd_of_head {h : Hd} (ok : h.ok) {M : List UInt8} (hM : M.length = 256) (e : M.take 20 = head0 h) (v : notL (M.take 20) = cutL M 20 40) : readHd M = some h := by
  have e40 : M.take 40 = headL h := by
    have h1 : M.take 40 = (M.take 40).take 20 ++ (M.take 40).drop 20 := (List.take_append_drop 20 _).symm
    rw [h1, List.take_take, show min 20 40 = 20 from rfl, e]
    unfold headL
    rw [← e, v]; rfl
  have := readHd_headL ok (M.drop 40)
  rw [← e40, List.take_append_drop] at this
  exact this
theorem mix_read {h : Hd} (ok : h.ok) {B : List UInt8} (hB : B.length = 256) (hb : B = zeroB ∨ ∃ h0, readHd B = some h0) (k : Nat) :
    readHd (mixL (filledL (headL h)) B k) = none ∨ readHd (mixL (filledL (headL h)) B k) = some h ∨ readHd (mixL (filledL (headL h)) B k) = readHd B := by
  have hA := headA_len (h := h)
  have hM := mixL_len (k := k) hA hB
  have hg := fun i => mixL_get hA hB k i
  generalize hMe : mixL (filledL (headL h)) B k = M at hM hg ⊢
  by_cases v : notL (M.take 20) = cutL M 20 40
  case neg =>
    left
    unfold readHd
    rw [if_neg (by omega), if_neg v]
  have hl20 := head0_len h
  have hl40 := headL_len h
  by_cases hk : 20 ≤ k
  · right; left
    refine readHd_of_head ok hM ?_ v
    refine List.ext_getElem? fun i => ?_
    rw [List.getElem?_take]
    by_cases hi : i < 20
    · rw [if_pos hi, hg, if_pos (by omega)]
      unfold filledL headL
      rw [List.getElem?_append_left (by rw [List.length_append, notL_len, hl20]; omega), List.getElem?_append_left (by omega)]
    · rw [if_neg hi, List.getElem?_eq_none (by omega)]
  · have ec : cutL M 20 40 = cutL B 20 40 := by
      refine List.ext_getElem? fun i => ?_
      unfold cutL
      rw [List.getElem?_drop, List.getElem?_drop, List.getElem?_take, List.getElem?_take]
      show (if 20 + i < 40 then M[20 + i]? else none) = if 20 + i < 40 then B[20 + i]? else none
      by_cases hi : 20 + i < 40
      · rw [if_pos hi, if_pos hi, hg, if_neg (by omega)]
      · rw [if_neg hi, if_neg hi]
    rcases hb with hb | ⟨h0, hb⟩
    · exfalso
      have e1 : M.take 20 = List.replicate 20 255 := by
        have := congrArg notL v
        rw [notL_notL, ec, hb] at this
        rw [this]; decide
      have e2 : (M.take 20)[19]? = some 255 := by rw [e1]; rfl
      rw [List.getElem?_take, if_pos (by decide), hg, if_neg (by omega), hb] at e2
      have e3 : zeroB[19]? = some 0 := by decide
      rw [e3] at e2
      exact absurd e2 (by decide)
    · right; right
      obtain ⟨_, v2⟩ := readHd_valid hb
      have e1 : M.take 20 = B.take 20 := by
        have := congrArg notL (v.trans (ec.trans v2.symm))
        rwa [notL_notL, notL_notL] at this
      refine readHd_pre hM hB ?_
      have h1 : M.take 40 = (M.take 40).take 20 ++ (M.take 40).drop 20 := (List.take_append_drop 20 _).symm
      have h2 : B.take 40 = (B.take 40).take 20 ++ (B.take 40).drop 20 := (List.take_append_drop 20 _).symm
      rw [h1, h2, List.take_take, List.take_take, show min 20 40 = 20 from rfl, e1]
      congr 1
structure Geo (n : Nat) (h : Hd) : Prop where
  room : 1 ≤ h.room
  pages : 1 ≤ h.pages
  few : h.pages ≤ 1024
  used : h.used ≤ h.room
  fit : 2 + h.room + h.pages ≤ n
def nextH (h : Hd) (u : Nat) : Hd := { h with seq := h.seq + 1, used := u }
structure Top (s : List (List UInt8)) (h : Hd) : Prop where
  blocks : ∀ x ∈ s, x.length = 256
  many : s.length ≤ 2048
  geo : Geo s.length h
  low : h.seq < 1000000
  pos : 0 < h.seq
  here : readHd (s.getD (h.seq % 2) []) = some h
  there : ∀ h', readHd (s.getD ((h.seq + 1) % 2) []) = some h' → h'.seq < h.seq
theorem Top.ok {s : List (List UInt8)} {h : Hd} (t : Top s h) : h.ok := by
  have g := t.geo
  have := t.many
  have := t.low
  have := g.fit
  have := g.used
  exact ⟨by omega, by omega, by omega, by omega⟩
def Base (s : List (List UInt8)) (h : Hd) : Prop := s.getD ((h.seq + 1) % 2) [] = zeroB ∨ ∃ h', readHd (s.getD ((h.seq + 1) % 2) []) = some h'
def Home (s : List (List UInt8)) (h : Hd) (P : List (List UInt8)) : Prop := P.length = h.pages ∧ ∀ i, i < h.pages → s.getD (2 + h.room + i) [] = P.getD i []
structure Jou (s : List (List UInt8)) (h : Hd) (l : List Pge) : Prop where
  used : h.used = blocksN l.length
  jou : ∀ i, i < h.used → s.getD (2 + i) [] = (packL l).getD i []
  few : l.length ≤ 1024
  pages : ∀ p ∈ l, 0 ≤ p.1 ∧ p.1 < h.pages ∧ p.2.length = 256
  nd : (l.map Prod.fst).Nodup
structure Pend (s : List (List UInt8)) (h : Hd) (P : List (List UInt8)) (l : List Pge) : Prop where
  jou : Jou s h l
  len : P.length = h.pages
  new : ∀ p ∈ l, P.getD p.1.toNat [] = p.2
  old : ∀ i, i < h.pages → (∀ p ∈ l, p.1.toNat ≠ i) → s.getD (2 + h.room + i) [] = P.getD i []
  more : h.seq + 1 < 1000000
  slot : ∃ B k, s.getD ((h.seq + 1) % 2) [] = mixL (filledL (headL (nextH h 0))) B k ∧ B.length = 256 ∧ (B = zeroB ∨ ∃ h0, readHd B = some h0 ∧ h0.seq < h.seq)
def Recov (s : List (List UInt8)) (P : List (List UInt8)) : Prop := ∃ h, Top s h ∧ ((h.used = 0 ∧ Home s h P) ∨ ∃ l, Pend s h P l)
def homeW (h : Hd) (l : List Pge) : List (Int × List UInt8) := l.map fun p => (2 + (h.room : Int) + p.1, p.2)
theorem nextH_ok {s : List (List UInt8)} {h : Hd} (t : Top s h) {u : Nat} (hu : u ≤ h.room) : (nextH h u).ok := by
  have o := t.ok
  have := t.low
  have := o.room
  exact ⟨by show h.seq + 1 < _; omega, by show u < _; omega, o.room, o.pages⟩
section
variable {s s' : List (List UInt8)} {h : Hd} {P : List (List UInt8)} {l : List Pge} {m : Dk}
theorem homeW_fit (t : Top s h) (hp : ∀ p ∈ l, 0 ≤ p.1 ∧ p.1 < h.pages ∧ p.2.length = 256) : Fit s.length (homeW h l) := by
  refine ⟨fun x hx => ?_⟩
  obtain ⟨p, hp', rfl⟩ := List.mem_map.1 hx
  obtain ⟨h0, h1, h2⟩ := hp p hp'
  have := t.geo.fit
  exact ⟨by simp only; omega, by simp only; omega, by simp only; omega⟩
theorem homeW_mem (hp : ∀ p ∈ l, 0 ≤ p.1 ∧ p.1 < h.pages ∧ p.2.length = 256) : ∀ x ∈ fillW (homeW h l), ∃ p ∈ l, x.1.toNat = 2 + h.room + p.1.toNat ∧ x.2 = p.2 := by
  intro x hx
  obtain ⟨y, hy, rfl⟩ := List.mem_map.1 hx
  obtain ⟨p, hp', rfl⟩ := List.mem_map.1 hy
  obtain ⟨h0, h1, h2⟩ := hp p hp'
  exact ⟨p, hp', by simp only; omega, fit256 h2⟩
theorem Pend.keep (d : Pend s h P l) (t : Top s h) (hl : s'.length = s.length) (ha : ∀ x ∈ s', x.length = 256) (hs : ∀ j, (∀ p ∈ l, 2 + h.room + p.1.toNat ≠ j) → s'.getD j [] = s.getD j []) : Top s' h ∧ Pend s' h P l := by
  have g := t.geo
  have lo : ∀ j, j < 2 + h.room → s'.getD j [] = s.getD j [] := fun j hj => hs j fun p _ => by omega
  have hr := g.room
  refine ⟨⟨ha, by rw [hl]; exact t.many, by rw [hl]; exact g, t.low, t.pos, by rw [lo _ (by omega)]; exact t.here, by rw [lo _ (by omega)]; exact t.there⟩, ⟨⟨d.jou.used, fun i hi => ?_, d.jou.few, d.jou.pages, d.jou.nd⟩, d.len, d.new, fun i hi hn => ?_, d.more, ?_⟩⟩
  · have := g.used
    rw [lo _ (by omega)]; exact d.jou.jou i hi
  · rw [hs _ fun p hp e => hn p hp (by omega)]; exact d.old i hi hn
  · rw [lo _ (by omega)]; exact d.slot
theorem slot_cases (t : Top s h) (d : Pend s h P l) (k : Nat) (hm : ∀ i, i < h.pages → s.getD (2 + h.room + i) [] = P.getD i []) :
    Recov (s.set ((h.seq + 1) % 2) (mixL (filledL (headL (nextH h 0))) (s.getD ((h.seq + 1) % 2) []) k)) P := by
  obtain ⟨B, k0, e0, e1, e2⟩ := d.slot
  have g := t.geo
  have ho : (h.seq + 1) % 2 < s.length := by have := g.fit; have := g.room; omega
  have hne : (h.seq + 1) % 2 ≠ h.seq % 2 := by omega
  have hA := headA_len (h := nextH h 0)
  have hok := nextH_ok t (u := 0) (by omega)
  rw [e0, mixL_mix hA e1]
  have hM := mixL_len (k := max k k0) hA e1
  have hrd := mix_read hok e1 (by
    rcases e2 with e2 | ⟨h0, e2, _⟩
    · exact .inl e2
    · exact .inr ⟨h0, e2⟩) (max k k0)
  generalize hMe : mixL (filledL (headL (nextH h 0))) B (max k k0) = M at hM hrd ⊢
  have bl : ∀ x ∈ s.set ((h.seq + 1) % 2) M, x.length = 256 := set_256 t.blocks hM
  have hh : (s.set ((h.seq + 1) % 2) M).getD (h.seq % 2) [] = s.getD (h.seq % 2) [] := getD_set_ne hne
  have hs : (s.set ((h.seq + 1) % 2) M).getD ((h.seq + 1) % 2) [] = M := getD_set_eq ho
  have lo : ∀ j, 2 ≤ j → (s.set ((h.seq + 1) % 2) M).getD j [] = s.getD j [] := fun j hj => getD_set_ne (by omega)
  have hnx : (nextH h 0).seq = h.seq + 1 := rfl
  by_cases hn : readHd M = some (nextH h 0)
  · refine ⟨nextH h 0, ⟨bl, by rw [List.length_set]; exact t.many, by rw [List.length_set]; exact ⟨g.room, g.pages, g.few, Nat.zero_le _, g.fit⟩, by rw [hnx]; exact d.more, by rw [hnx]; omega, by rw [hnx, hs]; exact hn, fun h' hr => ?_⟩, .inl ⟨rfl, d.len, fun i hi => ?_⟩⟩
    · rw [hnx, show (h.seq + 1 + 1) % 2 = h.seq % 2 by omega, hh, t.here] at hr
      simp only [Option.some.injEq] at hr
      subst hr
      rw [hnx]; omega
    · show (s.set ((h.seq + 1) % 2) M).getD (2 + h.room + i) [] = _
      rw [lo _ (by omega)]
      exact hm i hi
  · refine ⟨h, ⟨bl, by rw [List.length_set]; exact t.many, by rw [List.length_set]; exact g, t.low, t.pos, by rw [hh]; exact t.here, fun h' hr => ?_⟩, .inr ⟨l, ⟨⟨d.jou.used, fun i hi => by rw [lo _ (by omega)]; exact d.jou.jou i hi, d.jou.few, d.jou.pages, d.jou.nd⟩, d.len, d.new, fun i hi hn => by rw [lo _ (by omega)]; exact d.old i hi hn, d.more, B, max k k0, by rw [hs, hMe], e1, e2⟩⟩⟩
    rw [hs] at hr
    rcases hrd with r | r | r
    · rw [r] at hr; cases hr
    · exact absurd r hn
    · rw [r] at hr
      rcases e2 with e2 | ⟨h0, e2, e3⟩
      · rw [e2] at hr
        have : readHd zeroB = none := readHd_zero
        rw [this] at hr; cases hr
      · rw [e2] at hr
        simp only [Option.some.injEq] at hr
        subst hr; exact e3
end
end Go.Proofs.Ytmchjbgobiagiaa

namespace Go.Proofs.Ytmchjbgobiagiaa
set_option linter.unusedSimpArgs false
set_option linter.unusedVariables false
set_option maxRecDepth 100000
open Go Go.Ann Go.RowKit Go.WideShapes
def finN (m : Dk) (h : Hd) (l : List Pge) : Dk × Int := if (batN m (homeW h l)).2 ≠ 0 then batN m (homeW h l) else putN (batN m (homeW h l)).1 (nextH h 0)
def jouW (l : List Pge) : List (Int × List UInt8) := (List.range (blocksN l.length)).map fun i : Nat => ((2 + i : Nat), (packL l).getD i [])
def comN (m : Dk) (h : Hd) (l : List Pge) : Dk × Int :=
  if (batN m (jouW l)).2 ≠ 0 then batN m (jouW l) else
  if (putN (batN m (jouW l)).1 (nextH h (blocksN l.length))).2 ≠ 0 then putN (batN m (jouW l)).1 (nextH h (blocksN l.length)) else
  finN (putN (batN m (jouW l)).1 (nextH h (blocksN l.length))).1 (nextH h (blocksN l.length)) l
structure Lost (m m' : Dk) (Q : List (List UInt8) → Prop) : Prop where
  lim : m.left ≠ -1
  gone : m'.gone = true
  crash : ∀ mask torn cut, Q (crashN m' mask torn cut).safe
theorem packL_256 (l : List Pge) (hp : ∀ p ∈ l, p.2.length = 256) : ∀ x ∈ packL l, x.length = 256 := by
  intro x hx
  unfold packL at hx
  rcases List.mem_append.1 hx with hx | hx
  · exact chunksL_256 _ _ x hx
  · obtain ⟨p, hp', rfl⟩ := List.mem_map.1 hx
    exact filledL_length (by rw [hp p hp']; decide)
section
variable {s s' : List (List UInt8)} {h : Hd} {P : List (List UInt8)} {l : List Pge} {m : Dk}
theorem Up.kept {m : Dk} (hs : m.safe = s) (hl : m.late = []) (mask torn cut : Int) : (crashN m mask torn cut).safe = s := by
  show crashS mask torn cut 0 m.late m.safe = s
  rw [hl, hs]; rfl
theorem head_fit (t : Top s h) {g : Hd} (hg : g.seq = h.seq + 1) : Fit s.length [(((g.seq % 2 : Nat) : Int), headL g)] := by
  refine ⟨fun x hx => ?_⟩
  rw [List.mem_singleton] at hx
  subst hx
  have := t.geo.fit
  have := t.geo.room
  have := headL_len g
  exact ⟨by simp only; omega, by simp only; omega, by simp only; omega⟩
theorem fill_head {g : Hd} : fillW [(((g.seq % 2 : Nat) : Int), headL g)] = [(((g.seq % 2 : Nat) : Int), filledL (headL g))] := rfl
theorem fin_cases (hu : Up m s []) (t : Top s h) (d : Pend s h P l) :
    ((finN m h l).2 = 0 ∧ (∃ s', Up (finN m h l).1 s' [] ∧ Top s' (nextH h 0) ∧ Base s' (nextH h 0) ∧ Home s' (nextH h 0) P) ∧ (m.left = -1 → (finN m h l).1.left = -1)) ∨
    ((finN m h l).2 = 11 ∧ Lost m (finN m h l).1 fun s => Recov s P) := by
  have g := t.geo
  have h0 : 0 < s.length := by have := g.fit; omega
  have hf := homeW_fit t d.jou.pages
  have hmem := homeW_mem (h := h) d.jou.pages
  have hother : ∀ j, (∀ p ∈ l, 2 + h.room + p.1.toNat ≠ j) → ∀ x ∈ fillW (homeW h l), x.1.toNat ≠ j := fun j hj x hx => by
    obtain ⟨p, hp, e1, _⟩ := hmem x hx
    rw [e1]; exact hj p hp
  unfold finN
  rcases bat_cases hu hf h0 with ⟨g1, g2, g3⟩ | ⟨g1, g2, g3, g4, b, r, g5, g6⟩
  · rw [if_neg (by omega)]
    generalize (batN m (homeW h l)).1 = m1 at g2 g3 ⊢
    obtain ⟨t1, d1⟩ := d.keep t (s' := doneL s (fillW (homeW h l))) (doneL_length _ _) (doneL_256 t.blocks fun x hx => (hf.fill x hx).2.2) fun j hj => done_stays (hother j hj)
    have hm1 : ∀ i, i < h.pages → (doneL s (fillW (homeW h l))).getD (2 + h.room + i) [] = P.getD i [] := fun i hi => by
      by_cases hex : ∃ p ∈ l, p.1.toNat = i
      · obtain ⟨p, hp, rfl⟩ := hex
        obtain ⟨q0, q1, q2⟩ := d.jou.pages p hp
        have hx : ((2 + (h.room : Int) + p.1, filledL p.2) : Int × List UInt8) ∈ fillW (homeW h l) := List.mem_map.2 ⟨_, List.mem_map.2 ⟨p, hp, rfl⟩, rfl⟩
        have hnd : ((fillW (homeW h l)).map fun x => x.1.toNat).Nodup := by
          unfold fillW homeW
          rw [List.map_map, List.map_map]
          have : (l.map Prod.fst).Nodup := d.jou.nd
          refine (List.pairwise_map.2 ?_)
          have h2 := List.pairwise_map.1 this
          refine h2.imp_of_mem fun {a b} ha hb hab => ?_
          obtain ⟨a0, _, _⟩ := d.jou.pages a ha
          obtain ⟨b0, _, _⟩ := d.jou.pages b hb
          simp only [Function.comp_apply]
          intro e
          exact hab (by omega)
        have e1 := done_is (s := s) hnd _ hx (by have := g.fit; simp only; omega)
        simp only at e1
        rw [show (2 + (h.room : Int) + p.1).toNat = 2 + h.room + p.1.toNat by omega] at e1
        rw [e1, fit256 q2, d.new p hp]
      · exact d1.old i hi fun p hp e => hex ⟨p, hp, e⟩
    generalize doneL s (fillW (homeW h l)) = s1 at g2 t1 d1 hm1
    rw [putN_bat]
    have hf1 := head_fit t1 (g := nextH h 0) rfl
    have h01 : 0 < s1.length := by have := t1.geo.fit; omega
    have hnx : (nextH h 0).seq = h.seq + 1 := rfl
    have hcr : ∀ k, Recov (s1.set ((h.seq + 1) % 2) (mixL (filledL (headL (nextH h 0))) (s1.getD ((h.seq + 1) % 2) []) k)) P := fun k => slot_cases t1 d1 k hm1
    rcases bat_cases g2 hf1 h01 with ⟨k1, k2, k3⟩ | ⟨k1, k2, k3, k4, b, r, k5, k6⟩
    · left
      refine ⟨k1, ⟨_, k2, ?_⟩, fun hl => k3 (g3 hl)⟩
      rw [fill_head]
      have es : doneL s1 [((((nextH h 0).seq % 2 : Nat) : Int), filledL (headL (nextH h 0)))] = s1.set ((h.seq + 1) % 2) (filledL (headL (nextH h 0))) := by
        unfold doneL
        rw [List.foldl_cons, List.foldl_nil, hnx, Int.toNat_natCast]
      rw [es]
      have g' := t1.geo
      have ho : (h.seq + 1) % 2 < s1.length := by have := g'.fit; have := g'.room; omega
      have hne : (h.seq + 1) % 2 ≠ h.seq % 2 := by omega
      have hok := nextH_ok t1 (u := 0) (by omega)
      have hh : (s1.set ((h.seq + 1) % 2) (filledL (headL (nextH h 0)))).getD (h.seq % 2) [] = s1.getD (h.seq % 2) [] := getD_set_ne hne
      have hs : (s1.set ((h.seq + 1) % 2) (filledL (headL (nextH h 0)))).getD ((h.seq + 1) % 2) [] = filledL (headL (nextH h 0)) := getD_set_eq ho
      have e2 : ((nextH h 0).seq + 1) % 2 = h.seq % 2 := by rw [hnx]; omega
      refine ⟨⟨set_256 t1.blocks headA_len, by rw [List.length_set]; exact t1.many, by rw [List.length_set]; exact ⟨g'.room, g'.pages, g'.few, Nat.zero_le _, g'.fit⟩, by rw [hnx]; exact d.more, by rw [hnx]; omega, by rw [hnx, hs]; exact readHd_headL hok _, fun h' hr => ?_⟩, .inr ⟨h, by rw [e2, hh]; exact t1.here⟩, d.len, fun i hi => ?_⟩
      · rw [e2, hh, t1.here] at hr
        simp only [Option.some.injEq] at hr
        subst hr
        rw [hnx]; omega
      · show (s1.set ((h.seq + 1) % 2) _).getD (2 + h.room + i) [] = _
        rw [getD_set_ne (by omega)]
        exact hm1 i hi
    · right
      refine ⟨k1, fun hl => k2 (g3 hl), k3, fun mask torn cut => ?_⟩
      have ha := bat_after k4 k6 k5 t1.blocks hf1 mask torn cut
      rw [fill_head] at ha
      rcases ha.one with e | ⟨k, e⟩
      · rw [e]; exact ⟨h, t1, .inr ⟨l, d1⟩⟩
      · rw [e]
        simp only [hnx, Int.toNat_natCast]
        exact hcr k
  · rw [if_pos (by omega)]
    right
    refine ⟨g1, g2, g3, fun mask torn cut => ?_⟩
    have ha := bat_after g4 g6 g5 t.blocks hf mask torn cut
    obtain ⟨t1, d1⟩ := d.keep t ha.len (ha.all t.blocks hf.fill) fun j hj => ha.stays (hother j hj)
    exact ⟨h, t1, .inr ⟨l, d1⟩⟩
theorem com_cases {N : List (List UInt8)} (hu : Up m s []) (t : Top s h) (h0 : h.used = 0) (hm : Home s h P) (hb : Base s h) (hlow : h.seq + 2 < 1000000) (hl : l.length ≤ 1024) (hp : ∀ p ∈ l, 0 ≤ p.1 ∧ p.1 < h.pages ∧ p.2.length = 256) (hnd : (l.map Prod.fst).Nodup)
    (hroom : blocksN l.length ≤ h.room) (hN : N.length = h.pages) (hnew : ∀ p ∈ l, N.getD p.1.toNat [] = p.2) (hold : ∀ i, i < h.pages → (∀ p ∈ l, p.1.toNat ≠ i) → P.getD i [] = N.getD i []) :
    ((comN m h l).2 = 0 ∧ (∃ s', Up (comN m h l).1 s' [] ∧ Top s' (nextH (nextH h (blocksN l.length)) 0) ∧ Base s' (nextH (nextH h (blocksN l.length)) 0) ∧ Home s' (nextH (nextH h (blocksN l.length)) 0) N) ∧ (m.left = -1 → (comN m h l).1.left = -1)) ∨
    ((comN m h l).2 = 11 ∧ Lost m (comN m h l).1 fun s => Recov s P ∨ Recov s N) := by
  have g := t.geo
  have hg1 := g.fit
  have hg2 := g.room
  have hs0 : 0 < s.length := by omega
  have hpk := packL_len l
  have hf : Fit s.length (jouW l) := ⟨fun x hx => by
    obtain ⟨i, hi, rfl⟩ := List.mem_map.1 hx
    rw [List.mem_range] at hi
    have := getD_256 (packL_256 l fun p hp' => (hp p hp').2.2) (i := i) (by omega)
    exact ⟨by simp only; omega, by simp only; omega, by simp only; omega⟩⟩
  have hmem : ∀ x ∈ fillW (jouW l), ∃ i, i < blocksN l.length ∧ x.1.toNat = 2 + i ∧ x.2 = (packL l).getD i [] := fun x hx => by
    obtain ⟨y, hy, rfl⟩ := List.mem_map.1 hx
    obtain ⟨i, hi, rfl⟩ := List.mem_map.1 hy
    rw [List.mem_range] at hi
    have := getD_256 (packL_256 l fun p hp' => (hp p hp').2.2) (i := i) (by omega)
    exact ⟨i, hi, by simp only [Int.toNat_natCast], fit256 this⟩
  have hother : ∀ j, (j < 2 ∨ 2 + h.room ≤ j) → ∀ x ∈ fillW (jouW l), x.1.toNat ≠ j := fun j hj x hx => by
    obtain ⟨i, hi, e1, _⟩ := hmem x hx
    omega
  have clean : ∀ s', s'.length = s.length → (∀ x ∈ s', x.length = 256) → (∀ j, (j < 2 ∨ 2 + h.room ≤ j) → s'.getD j [] = s.getD j []) → Top s' h ∧ Base s' h ∧ Home s' h P := fun s' e1 e2 e3 => by
    refine ⟨⟨e2, by rw [e1]; exact t.many, by rw [e1]; exact g, t.low, t.pos, by rw [e3 _ (by omega)]; exact t.here, by rw [e3 _ (by omega)]; exact t.there⟩, ?_, hm.1, fun i hi => by rw [e3 _ (by omega)]; exact hm.2 i hi⟩
    unfold Base
    rw [e3 _ (by omega)]; exact hb
  unfold comN
  rcases bat_cases hu hf hs0 with ⟨g1, g2, g3⟩ | ⟨g1, g2, g3, g4, b, r, g5, g6⟩
  · rw [if_neg (by omega)]
    generalize (batN m (jouW l)).1 = m1 at g2 g3 ⊢
    obtain ⟨t1, b1, m1'⟩ := clean (doneL s (fillW (jouW l))) (doneL_length _ _) (doneL_256 t.blocks fun x hx => (hf.fill x hx).2.2) fun j hj => done_stays (hother j hj)
    have j1 : ∀ i, i < blocksN l.length → (doneL s (fillW (jouW l))).getD (2 + i) [] = (packL l).getD i [] := fun i hi => by
      have hnd1 : ((fillW (jouW l)).map fun x => x.1.toNat).Nodup := by
        unfold fillW jouW
        rw [List.map_map, List.map_map]
        refine List.pairwise_map.2 (List.nodup_range.imp fun {a b} hab => ?_)
        simp only [Function.comp_apply, Int.toNat_natCast]
        omega
      have h256 := getD_256 (packL_256 l fun p hp' => (hp p hp').2.2) (i := i) (by omega)
      have hx : (((2 + i : Nat) : Int), filledL ((packL l).getD i [])) ∈ fillW (jouW l) := List.mem_map.2 ⟨_, List.mem_map.2 ⟨i, List.mem_range.2 hi, rfl⟩, rfl⟩
      have e1 := done_is (s := s) hnd1 _ hx (by simp only [Int.toNat_natCast]; omega)
      simp only [Int.toNat_natCast] at e1
      rw [e1, fit256 h256]
    generalize doneL s (fillW (jouW l)) = s1 at g2 t1 b1 m1' j1
    have g' := t1.geo
    have hs1 : s1.length = s1.length := rfl
    have hf1 := head_fit t1 (g := nextH h (blocksN l.length)) rfl
    have h01 : 0 < s1.length := by have := g'.fit; omega
    have hnx : (nextH h (blocksN l.length)).seq = h.seq + 1 := rfl
    have hok := nextH_ok t1 (u := blocksN l.length) hroom
    have ho : (h.seq + 1) % 2 < s1.length := by have := g'.fit; omega
    have hne : (h.seq + 1) % 2 ≠ h.seq % 2 := by omega
    have hA := headA_len (h := nextH h (blocksN l.length))
    have hB := getD_256 t1.blocks ho
    have e2 : ((nextH h (blocksN l.length)).seq + 1) % 2 = h.seq % 2 := by rw [hnx]; omega
    -- once the head is read
    have up1 : ∀ M : List UInt8, M.length = 256 → readHd M = some (nextH h (blocksN l.length)) → Top (s1.set ((h.seq + 1) % 2) M) (nextH h (blocksN l.length)) ∧ Pend (s1.set ((h.seq + 1) % 2) M) (nextH h (blocksN l.length)) N l := fun M hM hr => by
      have hh : (s1.set ((h.seq + 1) % 2) M).getD (h.seq % 2) [] = s1.getD (h.seq % 2) [] := getD_set_ne hne
      have hs : (s1.set ((h.seq + 1) % 2) M).getD ((h.seq + 1) % 2) [] = M := getD_set_eq ho
      have lo : ∀ j, 2 ≤ j → (s1.set ((h.seq + 1) % 2) M).getD j [] = s1.getD j [] := fun j hj => getD_set_ne (by omega)
      refine ⟨⟨set_256 t1.blocks hM, by rw [List.length_set]; exact t1.many, by rw [List.length_set]; exact ⟨g'.room, g'.pages, g'.few, hroom, g'.fit⟩, by rw [hnx]; omega, by rw [hnx]; omega, by rw [hnx, hs]; exact hr, fun h' hr' => ?_⟩, ⟨⟨rfl, fun i hi => by rw [lo _ (by omega)]; exact j1 i hi, hl, hp, hnd⟩, hN, hnew, fun i hi hn => ?_, by rw [hnx]; omega, ?_⟩⟩
      · rw [e2, hh, t1.here] at hr'
        simp only [Option.some.injEq] at hr'
        subst hr'
        rw [hnx]; omega
      · show (s1.set ((h.seq + 1) % 2) M).getD (2 + h.room + i) [] = _
        rw [lo _ (by omega), m1'.2 i hi]
        exact hold i hi hn
      · have hB0 := getD_256 t1.blocks (i := h.seq % 2) (by have := g'.fit; omega)
        refine ⟨s1.getD (h.seq % 2) [], 0, ?_, hB0, .inr ⟨h, t1.here, by rw [hnx]; omega⟩⟩
        rw [e2, hh]
        unfold mixL
        rw [List.take_zero, List.drop_zero, List.nil_append]
    rw [putN_bat]
    rcases bat_cases g2 hf1 h01 with ⟨k1, k2, k3⟩ | ⟨k1, k2, k3, k4, b, r, k5, k6⟩
    · rw [if_neg (by omega)]
      rw [fill_head] at k2
      have es : doneL s1 [((((nextH h (blocksN l.length)).seq % 2 : Nat) : Int), filledL (headL (nextH h (blocksN l.length))))] = s1.set ((h.seq + 1) % 2) (filledL (headL (nextH h (blocksN l.length)))) := by
        unfold doneL
        rw [List.foldl_cons, List.foldl_nil, hnx, Int.toNat_natCast]
      rw [es] at k2
      obtain ⟨t2, d2⟩ := up1 _ hA (readHd_headL hok _)
      rcases fin_cases k2 t2 d2 with ⟨f1, f2, f3⟩ | ⟨f1, f2⟩
      · exact .inl ⟨f1, f2, fun hl' => f3 (k3 (g3 hl'))⟩
      · exact .inr ⟨f1, fun hl' => f2.lim (k3 (g3 hl')), f2.gone, fun mask torn cut => .inr (f2.crash mask torn cut)⟩
    · rw [if_pos (by omega)]
      right
      refine ⟨k1, fun hl' => k2 (g3 hl'), k3, fun mask torn cut => ?_⟩
      have ha := bat_after k4 k6 k5 t1.blocks hf1 mask torn cut
      rw [fill_head] at ha
      rcases ha.one with e | ⟨k, e⟩
      · rw [e]; exact .inl ⟨h, t1, .inl ⟨h0, m1'⟩⟩
      · rw [e]
        simp only [hnx, Int.toNat_natCast]
        have hM := mixL_len (k := k) hA hB
        have hrd := mix_read hok hB b1 k
        generalize mixL (filledL (headL (nextH h (blocksN l.length)))) (s1.getD ((h.seq + 1) % 2) []) k = M at hM hrd ⊢
        by_cases hn : readHd M = some (nextH h (blocksN l.length))
        · obtain ⟨t2, d2⟩ := up1 M hM hn
          exact .inr ⟨_, t2, .inr ⟨l, d2⟩⟩
        · have hh : (s1.set ((h.seq + 1) % 2) M).getD (h.seq % 2) [] = s1.getD (h.seq % 2) [] := getD_set_ne hne
          have hs : (s1.set ((h.seq + 1) % 2) M).getD ((h.seq + 1) % 2) [] = M := getD_set_eq ho
          refine .inl ⟨h, ⟨set_256 t1.blocks hM, by rw [List.length_set]; exact t1.many, by rw [List.length_set]; exact g', t1.low, t1.pos, by rw [hh]; exact t1.here, fun h' hr => ?_⟩, .inl ⟨h0, m1'.1, fun i hi => by rw [getD_set_ne (by omega)]; exact m1'.2 i hi⟩⟩
          rw [hs] at hr
          rcases hrd with r | r | r
          · rw [r] at hr; cases hr
          · exact absurd r hn
          · rw [r] at hr; exact t1.there h' hr
  · rw [if_pos (by omega)]
    right
    refine ⟨g1, g2, g3, fun mask torn cut => ?_⟩
    have ha := bat_after g4 g6 g5 t.blocks hf mask torn cut
    obtain ⟨t1, _, m1⟩ := clean _ ha.len (ha.all t.blocks hf.fill) fun j hj => ha.stays (hother j hj)
    exact .inl ⟨h, t1, .inl ⟨h0, m1⟩⟩
end
end Go.Proofs.Ytmchjbgobiagiaa

namespace Go.Proofs.Ytmchjbgobiagiaa
set_option linter.unusedSimpArgs false
set_option linter.unusedVariables false
set_option maxRecDepth 100000
open Go Go.Ann Go.RowKit Go.WideShapes Go.Shelf
def headW (h : Hd) (e : Int) (h' : Hd) : Hd := if e = 0 then h' else h
section
variable {W0 w : World} {F : Nat → Prop} {L : List Res} {I : List Inv} {b mb g : Nat} {vb vl v : Value} {s : Sto} {l : List Pge}
theorem step_ok (u : Nat) (h : St W0 w F (StoL b mb g vb vl s ++ L) I) (ok : s.disk.ok) (hh : (nextH s.hd u).ok) (hless : s.disk.late.length < 1000000) (hu : u ≤ 1000000) :
    Ret Try.prog 79 [.pointer (some ⟨b, 0, none⟩), .int .i64 u] w fun r w' => r = .int .i64 (putN s.disk (nextH s.hd u)).2 ∧ ∃ vl', St W0 w' F (StoL b mb g vb vl' { s with disk := (putN s.disk (nextH s.hd u)).1, hd := headW s.hd (putN s.disk (nextH s.hd u)).2 (nextH s.hd u) } ++ L) I := by
  refine ent79 _ _ _ _ ?_
  have r1 := h.rules 0 rfl
  simp (disch := first | omega | exact okFill_t rfl | exact okSize_t rfl | exact fun h => h | (simp only [World.size_alloc, World.size_drew, World.size_setCell, size_fill, bytesW]; omega)) only [go_sem, c79, c79S0, c79S1, r1]
  have hseq := hh.seq
  have hsq : (nextH s.hd u).seq = s.hd.seq + 1 := rfl
  have ew : IntKind.u64.wrap ((s.hd.seq : Int) + 1) = ((s.hd.seq + 1 : Nat) : Int) := by rw [wrap_u64_id _ (by omega) (by omega)]; omega
  rw [ew]
  have s1 : St W0 (w.alloc (.cells #[.int .u64 ((s.hd.seq + 1 : Nat) : Int), .int .i64 u, .int .i64 s.hd.room, .int .i64 s.hd.pages] 73)) F (.blk w.heap.size (nextH s.hd u).enc.toArray 73 :: (StoL b mb g vb vl s ++ L)) I := h.box (nextH s.hd u).enc.toArray 73
  generalize w.heap.size = y at s1 ⊢
  generalize w.alloc (.cells #[.int .u64 ((s.hd.seq + 1 : Nat) : Int), .int .i64 u, .int .i64 s.hd.room, .int .i64 s.hd.pages] 73) = w1 at s1 ⊢
  refine c79draw0 (Same (fun k => k = b) _) (Same.refl _ _) ?_
  have s2 := s1.drew
  have r2 := s2.rules 1 rfl
  have q2 := s2.rules 0 rfl
  have l2 := s2.low 0 rfl
  generalize w1.drew = w2 at s2 r2 q2 l2 ⊢
  simp (disch := first | omega | exact okFill_t rfl | exact okSize_t rfl | exact fun h => h | (simp only [World.size_alloc, World.size_drew, World.size_setCell, size_fill, bytesW]; omega)) only [go_sem, c79, c79S0, c79S1, c79D0, r2, q2, Hd.enc]
  have s3 : St W0 w2 F (StoL b mb g vb vl s ++ ([.blk y (nextH s.hd u).enc.toArray 73] ++ L)) I := St.front (A := [_]) (D := StoL b mb g vb vl s) (L := L) s2
  refine ⟨Same.refl _ _, Ret.mono (put_ok (nextH s.hd u) hh (sto_disk s3) ok hless) ?_⟩
  rintro _ w4 ⟨rfl, vl', s4⟩
  have s5 := disk_sto s4
  have r5 := s5.rules 0 rfl
  have q5 := (St.front (A := StoL b mb g vb vl' _) (D := [.blk y (nextH s.hd u).enc.toArray 73]) (L := L) s5).rules 0 rfl
  generalize hpu : putN s.disk (nextH s.hd u) = pu at s4 s5 r5 ⊢
  obtain ⟨m', e⟩ := pu
  by_cases he : e = 0
  · subst he
    simp (disch := first | omega | exact okFill_t rfl | exact okSize_t rfl | exact fun h => h | (simp only [World.size_alloc, World.size_drew, World.size_setCell, size_fill, bytesW]; omega)) only [go_sem, c79, c79S0, c79S1, r5, q5, Hd.enc]
    have hB := s5.blk 0 rfl
    refine ⟨by kernel_rfl, (nextH s.hd u).one, fun i hi => ?_, ?_⟩
    · have hi' : i < 4 := hi
      rw [Addr.add_lit, hB.cell, hB.frozen]
      exact ⟨⟨_, Array.getElem?_eq_getElem (show 1 + i < 7 by omega)⟩, rfl⟩
    · have s6 := (((s5.set 0 rfl 1 (.int .u64 (nextH s.hd u).seq)).set 0 rfl 2 (.int .i64 (nextH s.hd u).used)).set 0 rfl 3 (.int .i64 (nextH s.hd u).room)).set 0 rfl 4 (.int .i64 (nextH s.hd u).pages)
      simp (disch := first | omega | exact okFill_t rfl | exact okSize_t rfl | exact fun h => h | (simp only [World.size_alloc, World.size_drew, World.size_setCell, size_fill, bytesW]; omega)) only [go_sem, c79, c79S0, c79S1]
      refine ⟨vl', ?_⟩
      exact s6.sub (List.Sublist.append_left (List.sublist_cons_self _ _) _)
  · simp (disch := first | omega | exact okFill_t rfl | exact okSize_t rfl | exact fun h => h | (simp only [World.size_alloc, World.size_drew, World.size_setCell, size_fill, bytesW]; omega)) only [go_sem, c79, c79S0, c79S1, he]
    refine ⟨vl', ?_⟩
    unfold headW
    rw [if_neg he]
    exact s5.sub (List.Sublist.append_left (List.sublist_cons_self _ _) _)
theorem writeN_late (m : Dk) (i : Int) (d : List UInt8) : (writeN m i d).1.late.length ≤ m.late.length + 1 := by
  have hl := useN_late m
  unfold writeN
  split
  · exact Nat.le_succ _
  · split
    · exact Nat.le_succ _
    · split
      · simp only [List.length_append, List.length_singleton, hl.1]; omega
      · rw [hl.1]; omega
theorem home_ok (h : St W0 w F (StoL b mb g vb vl s ++ L) (.rd 2 pendV v l :: I)) (ok : s.disk.ok) (hh : (nextH s.hd 0).ok) (hp : ∀ p ∈ l, 0 ≤ p.1 ∧ p.1 < s.hd.pages ∧ p.2.length = 256) (hl : l.length ≤ 1024) (hg : s.hd.room ≤ 2048 ∧ s.hd.pages ≤ 1024) (hless : s.disk.late.length < 900000) :
    Ret Try.prog 61 [.pointer (some ⟨b, 0, none⟩), v] w fun r w' => r = .int .i64 (finN s.disk s.hd l).2 ∧ ∃ vl', St W0 w' F (StoL b mb g vb vl' { s with disk := (finN s.disk s.hd l).1, hd := headW s.hd (finN s.disk s.hd l).2 (nextH s.hd 0) } ++ L) (.rd 2 pendV v l :: I) := by
  obtain ⟨a, c, rfl, hac⟩ := (h.rd 0 rfl).form
  obtain ⟨W, hW⟩ : ∃ W, W = homeW s.hd l := ⟨_, rfl⟩
  have hWl : W.length = l.length := by rw [hW]; unfold homeW; rw [List.length_map]
  refine ent61 _ _ _ _ ?_
  simp (disch := first | omega | exact okFill_t rfl | exact okSize_t rfl | exact fun h => h | (simp only [World.size_alloc, World.size_drew, World.size_setCell, size_fill, bytesW]; omega)) only [go_sem, c61, c61S0, c61S1, c61S2, c61S3, c61S4, c61S5, c61S6, c61S7, c61S8]
  refine W_loopU (fun q : Nat × Value × Dk => [(11, .int .i64 q.1)]) (fun q w' => q.1 ≤ l.length ∧ wrsN s.disk W = wrsN q.2.2 (W.drop q.1) ∧ q.2.2.ok ∧ q.2.2.late.length ≤ s.disk.late.length + q.1 ∧ St W0 w' F (StoL b mb g vb q.2.1 { s with disk := q.2.2 } ++ L) (.rd 2 pendV (.slice a l.length c) l :: I)) (fun q => l.length - q.1) (0, vl, s.disk) rfl ⟨Nat.zero_le _, rfl, ok, Nat.le_refl _, h⟩ ?_
  rintro ⟨k, vl1, m1⟩ w1 ⟨hk, hw, ok1, hl1, s1⟩
  simp only at hk hw ok1 hl1 s1
  clear h
  have hR := s1.rd 0 rfl
  by_cases hlt : k < l.length
  · have hlt' : (k : Int) < l.length := by omega
    obtain ⟨q, rfl⟩ := hR.ptr (by omega)
    have eL := hR.at pendV_len hlt
    obtain ⟨p0, p1, p2⟩ := hp _ (List.getElem_mem hlt)
    have hWk : W.drop k = (2 + (s.hd.room : Int) + l[k].1, l[k].2) :: W.drop (k + 1) := by
      rw [List.drop_eq_getElem_cons (by omega)]
      congr 1
      simp [hW, homeW]
    rw [hWk, wrsN] at hw
    simp (disch := first | omega | exact okFill_t rfl | exact okSize_t rfl | exact fun h => h | (simp only [World.size_alloc, World.size_drew, World.size_setCell, size_fill, bytesW]; omega)) only [go_sem, c61, c61S0, c61S1, c61S2, c61S3, c61S4, c61L0, c61S5, c61S6, c61S7, c61S8, c61L0, hlt', eL, pendV]
    have s2 := s1.box #[.int .i64 l[k].1, .string (ofL l[k].2)] 54
    generalize w1.heap.size = y at s2 ⊢
    generalize w1.alloc (.cells #[.int .i64 l[k].1, .string (ofL l[k].2)] 54) = w2 at s2 ⊢
    refine ⟨by omega, c61draw0 ?_⟩
    have s3 := s2.drew
    have r3 := s3.rules 1 rfl
    have q3 := s3.rules 0 rfl
    generalize w2.drew = w3 at s3 r3 q3 ⊢
    have c1 : ¬ (s.hd.pages : Int) ≤ l[k].1 := by omega
    simp (disch := first | omega | exact okFill_t rfl | exact okSize_t rfl | exact fun h => h | (simp only [World.size_alloc, World.size_drew, World.size_setCell, size_fill, bytesW]; omega)) only [go_sem, c61, c61S0, c61S1, c61S2, c61S3, c61S4, c61L0, c61S5, c61S6, c61S7, c61S8, c61D0, r3, q3, c1]
    refine c61draw1 (Same (fun k => k = b ∨ k = y) _) (Same.refl _ _) ?_
    have s4 := s3.drew
    have r4 := s4.rules 1 rfl
    have q4 := s4.rules 0 rfl
    have l4 := s4.low 0 rfl
    have l4b := s4.low 1 rfl
    generalize w3.drew = w4 at s4 r4 q4 l4 l4b ⊢
    simp (disch := first | omega | exact okFill_t rfl | exact okSize_t rfl | exact fun h => h | (simp only [World.size_alloc, World.size_drew, World.size_setCell, size_fill, bytesW]; omega)) only [go_sem, c61, c61S0, c61S1, c61S2, c61S3, c61S4, c61L0, c61S5, c61S6, c61S7, c61S8, c61D1, r4, q4]
    have s4' : St W0 w4 F (StoL b mb g vb vl1 { s with disk := m1 } ++ ([.blk y #[.int .i64 l[k].1, .string (ofL l[k].2)] 54] ++ L)) (.rd 2 pendV (.slice (some q) l.length c) l :: I) := St.front (A := [_]) (D := StoL b mb g vb vl1 { s with disk := m1 }) (L := L) s4
    refine ⟨by constructor <;> omega, by constructor <;> omega, Same.refl _ _, Ret.mono (write_ok (2 + (s.hd.room : Int) + l[k].1) l[k].2 (sto_disk s4') ok1 (show m1.late.length < 1000000 by omega)) ?_⟩
    rintro _ w5 ⟨rfl, vl5, s5⟩
    have hwl := writeN_late m1 (2 + (s.hd.room : Int) + l[k].1) l[k].2
    have hwok := writeN_ok ok1 (by omega) (2 + (s.hd.room : Int) + l[k].1) l[k].2
    have s6 := disk_sto s5
    have sm : Same (fun k => k = b ∨ k = y) w4 w5 := fun j hj => by
      rcases hj with rfl | rfl
      · exact (s6.blk 0 rfl).trans (s4'.blk 0 rfl).symm
      · exact ((St.front (A := StoL b mb g vb vl5 _) (D := [.blk j #[.int .i64 l[k].1, .string (ofL l[k].2)] 54]) (L := L) s6).blk 0 rfl).trans (s4.blk 0 rfl).symm
    have s7 := s6.sub (L' := StoL b mb g vb vl5 { s with disk := (writeN m1 (2 + (s.hd.room : Int) + l[k].1) l[k].2).1 } ++ L) (List.Sublist.append_left (List.sublist_cons_self _ _) _)
    generalize writeN m1 (2 + (s.hd.room : Int) + l[k].1) l[k].2 = we at hw s7 hwl hwok ⊢
    obtain ⟨m2, e⟩ := we
    simp only at hw s7 hwl hwok
    by_cases he : e = 0
    · subst he
      rw [if_neg (by simp)] at hw
      simp (disch := first | omega | exact okFill_t rfl | exact okSize_t rfl | exact fun h => h | (simp only [World.size_alloc, World.size_drew, World.size_setCell, size_fill, bytesW]; omega)) only [go_sem, c61, c61S0, c61S1, c61S2, c61S3, c61S4, c61L0, c61S5, c61S6, c61S7, c61S8]
      exact ⟨sm, by constructor <;> omega, (k + 1, vl5, m2), rfl, ⟨by omega, hw, hwok, by simp only; omega, s7⟩, by simp only; omega⟩
    · rw [if_pos (by simpa using he)] at hw
      have hbat : batN s.disk W = (m2, e) := by
        unfold batN
        rw [hw, if_pos (by simpa using he)]
      have hfin : finN s.disk s.hd l = (m2, e) := by
        unfold finN
        rw [← hW, hbat, if_pos (by simpa using he)]
      rw [hfin]
      simp (disch := first | omega | exact okFill_t rfl | exact okSize_t rfl | exact fun h => h | (simp only [World.size_alloc, World.size_drew, World.size_setCell, size_fill, bytesW]; omega)) only [go_sem, c61, c61S0, c61S1, c61S2, c61S3, c61S4, c61L0, c61S5, c61S6, c61S7, c61S8, he]
      refine ⟨sm, vl5, ?_⟩
      unfold headW
      rw [if_neg he]
      exact s7
  · have hlt' : ¬ (k : Int) < l.length := by omega
    obtain rfl : k = l.length := by omega
    rw [List.drop_of_length_le (by omega), wrsN] at hw
    have r1 := s1.rules 0 rfl
    simp (disch := first | omega | exact okFill_t rfl | exact okSize_t rfl | exact fun h => h | (simp only [World.size_alloc, World.size_drew, World.size_setCell, size_fill, bytesW]; omega)) only [go_sem, c61, c61S0, c61S1, c61S2, c61S3, c61S4, c61L0, c61S5, c61S6, c61S7, c61S8, c61L0, hlt', r1]
    refine Ret.mono (flush_ok (sto_disk s1) ok1) ?_
    rintro _ w2 ⟨rfl, vl2, s2⟩
    have ok2 := flushN_ok ok1
    have s3 := disk_sto s2
    have hfin : finN s.disk s.hd l = if (flushN m1).2 ≠ 0 then flushN m1 else putN (flushN m1).1 (nextH s.hd 0) := by
      have hbat : batN s.disk W = flushN m1 := by
        unfold batN
        rw [hw, if_neg (by simp)]
      unfold finN
      rw [← hW, hbat]
    rw [hfin]
    by_cases he : (flushN m1).2 = 0
    · rw [if_neg (by omega)]
      simp (disch := first | omega | exact okFill_t rfl | exact okSize_t rfl | exact fun h => h | (simp only [World.size_alloc, World.size_drew, World.size_setCell, size_fill, bytesW]; omega)) only [go_sem, c61, c61S0, c61S1, c61S2, c61S3, c61S4, c61L0, c61S5, c61S6, c61S7, c61S8, he]
      have hlate : (flushN m1).1.late.length < 1000000 := by
        have : (flushN m1).1.late.length ≤ m1.late.length := by
          unfold flushN
          have := useN_late m1
          split
          · exact Nat.le_refl _
          · split
            · rw [this.1]; exact Nat.le_refl _
            · simp
        omega
      refine Ret.mono (step_ok 0 s3 ok2 hh hlate (by decide)) ?_
      rintro _ w4 ⟨rfl, vl4, s4⟩
      simp (disch := first | omega | exact okFill_t rfl | exact okSize_t rfl | exact fun h => h | (simp only [World.size_alloc, World.size_drew, World.size_setCell, size_fill, bytesW]; omega)) only [go_sem, c61, c61S0, c61S1, c61S2, c61S3, c61S4, c61L0, c61S5, c61S6, c61S7, c61S8]
      exact ⟨vl4, s4⟩
    · rw [if_pos he]
      simp (disch := first | omega | exact okFill_t rfl | exact okSize_t rfl | exact fun h => h | (simp only [World.size_alloc, World.size_drew, World.size_setCell, size_fill, bytesW]; omega)) only [go_sem, c61, c61S0, c61S1, c61S2, c61S3, c61S4, c61L0, c61S5, c61S6, c61S7, c61S8, he]
      refine ⟨vl2, ?_⟩
      unfold headW
      rw [if_neg he]
      exact s3
end
end Go.Proofs.Ytmchjbgobiagiaa

namespace Go.Proofs.Ytmchjbgobiagiaa
set_option linter.unusedSimpArgs false
set_option linter.unusedVariables false
set_option maxRecDepth 100000
open Go Go.Ann Go.RowKit Go.WideShapes Go.Shelf
theorem flushN_late (m : Dk) : (flushN m).1.late.length ≤ m.late.length := by
  unfold flushN
  have := useN_late m
  split
  · exact Nat.le_refl _
  · split
    · rw [this.1]; exact Nat.le_refl _
    · simp
theorem putN_late (m : Dk) (h : Hd) : (putN m h).1.late.length ≤ m.late.length + 1 := by
  have h1 := writeN_late m ((h.seq % 2 : Nat) : Int) (headL h)
  have h2 := flushN_late (writeN m ((h.seq % 2 : Nat) : Int) (headL h)).1
  unfold putN
  split
  · exact h1
  · omega
section
variable {W0 w : World} {F : Nat → Prop} {L : List Res} {I : List Inv} {b mb g : Nat} {vb vl v : Value} {s : Sto} {l : List Pge}
theorem putN_ok {m : Dk} {h : Hd} (ok : m.ok) (hless : m.late.length < 1000000) : (putN m h).1.ok := by
  have h1 := writeN_ok ok hless ((h.seq % 2 : Nat) : Int) (headL h)
  unfold putN
  split
  · exact h1
  · exact flushN_ok h1
theorem commit_ok (h : St W0 w F (StoL b mb g vb vl s ++ L) (.rd 2 pendV v l :: I)) (ok : s.disk.ok) (hseq : s.hd.seq + 2 < 1000000) (hp : ∀ p ∈ l, 0 ≤ p.1 ∧ p.1 < s.hd.pages ∧ p.2.length = 256) (hl : l.length ≤ 1024) (hg : s.hd.room ≤ 2048 ∧ s.hd.pages ≤ 1024) (hroom : blocksN l.length ≤ s.hd.room) (hless : s.disk.late.length < 800000) :
    Ret Try.prog 57 [.pointer (some ⟨b, 0, none⟩), v] w fun r w' => r = .int .i64 (comN s.disk s.hd l).2 ∧ ∃ vl' hd', ((comN s.disk s.hd l).2 = 0 → hd' = nextH (nextH s.hd (blocksN l.length)) 0) ∧ St W0 w' F (StoL b mb g vb vl' { s with disk := (comN s.disk s.hd l).1, hd := hd' } ++ L) I := by
  obtain ⟨W, hW⟩ : ∃ W, W = jouW l := ⟨_, rfl⟩
  have hpl := packL_len l
  have hWl : W.length = (packL l).length := by rw [hW]; unfold jouW; rw [List.length_map, List.length_range, hpl]
  have hbk : blocksN l.length ≤ 2048 := by omega
  have p256 := packL_256 l fun p hp' => (hp p hp').2.2
  refine ent57 _ _ _ _ ?_
  simp (disch := first | omega | exact okFill_t rfl | exact okSize_t rfl | exact fun h => h | (simp only [World.size_alloc, World.size_drew, World.size_setCell, size_fill, bytesW]; omega)) only [go_sem, c57, c57S0, c57S1, c57S2, c57S3, c57S4, c57S5, c57S6, c57S7, c57S8, c57S9, c57S10]
  refine Ret.mono (pack_ok h hl fun p hp' => by have := hp p hp'; exact ⟨this.1, by omega, this.2.2⟩) ?_
  rintro _ w1 ⟨vo, rfl, s1⟩
  have s1 : St W0 w1 F (StoL b mb g vb vl s ++ (.row vo 9 1 (packL l).length ((packL l).flatMap strE) :: L)) (.rd 2 pendV v l :: I) := St.front (A := [_]) (D := StoL b mb g vb vl s) (L := L) s1
  clear h
  obtain ⟨a, c, rfl, hac⟩ := own_slice (s1.row 5 rfl)
  simp (disch := first | omega | exact okFill_t rfl | exact okSize_t rfl | exact fun h => h | (simp only [World.size_alloc, World.size_drew, World.size_setCell, size_fill, bytesW]; omega)) only [go_sem, c57, c57S0, c57S1, c57S2, c57S3, c57S4, c57S5, c57S6, c57S7, c57S8, c57S9, c57S10]
  refine W_loopU (fun q : Nat × Value × Dk => [(22, .int .i64 q.1)]) (fun q w' => q.1 ≤ (packL l).length ∧ wrsN s.disk W = wrsN q.2.2 (W.drop q.1) ∧ q.2.2.ok ∧ q.2.2.late.length ≤ s.disk.late.length + q.1 ∧ St W0 w' F (StoL b mb g vb q.2.1 { s with disk := q.2.2 } ++ (.row (.slice a (packL l).length c) 9 1 (packL l).length ((packL l).flatMap strE) :: L)) (.rd 2 pendV v l :: I)) (fun q => (packL l).length - q.1) (0, vl, s.disk) rfl ⟨Nat.zero_le _, rfl, ok, Nat.le_refl _, s1⟩ ?_
  rintro ⟨k, vl1, m1⟩ w2 ⟨hk, hw, ok1, hl1, s2⟩
  simp only at hk hw ok1 hl1 s2
  clear s1
  have r2 := s2.rules 0 rfl
  by_cases hlt : k < (packL l).length
  · have hlt' : (k : Int) < (packL l).length := by omega
    have hR : RdS w2 1 strE (.slice a (packL l).length c) (packL l) := RdS.of_own' (s2.row 5 rfl) _ rfl rfl
    obtain ⟨q, rfl⟩ := hR.ptr (by omega)
    have eL := RdS.at1 (e1 := fun s => .string (ofL s)) hR hlt
    have hWk : W.drop k = (((2 + k : Nat) : Int), (packL l)[k]) :: W.drop (k + 1) := by
      rw [List.drop_eq_getElem_cons (by omega)]
      congr 1
      simp only [hW, jouW, List.getElem_map, List.getElem_range]
      rw [List.getD_eq_getElem?_getD, List.getElem?_eq_getElem hlt]; rfl
    rw [hWk, wrsN] at hw
    simp (disch := first | omega | exact okFill_t rfl | exact okSize_t rfl | exact fun h => h | (simp only [World.size_alloc, World.size_drew, World.size_setCell, size_fill, bytesW]; omega)) only [go_sem, c57, c57S0, c57S1, c57S2, c57L0, c57S3, c57S4, c57S5, c57S6, c57S7, c57S8, c57S9, c57S10, c57L0, hlt', eL, r2]
    have e2k : ((2 + k : Nat) : Int) = 2 + (k : Int) := by omega
    rw [e2k] at hw
    refine ⟨by omega, by constructor <;> omega, Ret.mono (write_ok (2 + (k : Int)) (packL l)[k] (sto_disk s2) ok1 (show m1.late.length < 1000000 by omega)) ?_⟩
    rintro _ w5 ⟨rfl, vl5, s5⟩
    have hwl := writeN_late m1 (2 + (k : Int)) (packL l)[k]
    have hwok := writeN_ok ok1 (by omega) (2 + (k : Int)) (packL l)[k]
    have s6 := disk_sto s5
    generalize writeN m1 (2 + (k : Int)) (packL l)[k] = we at hw s6 hwl hwok ⊢
    obtain ⟨m2, e⟩ := we
    simp only at hw s6 hwl hwok
    by_cases he : e = 0
    · subst he
      rw [if_neg (by simp)] at hw
      simp (disch := first | omega | exact okFill_t rfl | exact okSize_t rfl | exact fun h => h | (simp only [World.size_alloc, World.size_drew, World.size_setCell, size_fill, bytesW]; omega)) only [go_sem, c57, c57S0, c57S1, c57S2, c57L0, c57S3, c57S4, c57S5, c57S6, c57S7, c57S8, c57S9, c57S10]
      exact ⟨by constructor <;> omega, (k + 1, vl5, m2), rfl, ⟨by omega, hw, hwok, by simp only; omega, s6⟩, by simp only; omega⟩
    · rw [if_pos (by simpa using he)] at hw
      have hbat : batN s.disk W = (m2, e) := by
        unfold batN
        rw [hw, if_pos (by simpa using he)]
      have hcom : comN s.disk s.hd l = (m2, e) := by
        unfold comN
        rw [← hW, hbat, if_pos (by simpa using he)]
      rw [hcom]
      simp (disch := first | omega | exact okFill_t rfl | exact okSize_t rfl | exact fun h => h | (simp only [World.size_alloc, World.size_drew, World.size_setCell, size_fill, bytesW]; omega)) only [go_sem, c57, c57S0, c57S1, c57S2, c57L0, c57S3, c57S4, c57S5, c57S6, c57S7, c57S8, c57S9, c57S10, he]
      exact ⟨vl5, s.hd, (s6.sub (List.Sublist.append_left (List.sublist_cons_self _ _) _)).inv_sub fun a ha => List.mem_cons_of_mem _ ha⟩
  · have hlt' : ¬ (k : Int) < (packL l).length := by omega
    obtain rfl : k = (packL l).length := by omega
    rw [List.drop_of_length_le (by omega), wrsN] at hw
    have hbat : batN s.disk W = flushN m1 := by
      unfold batN
      rw [hw, if_neg (by simp)]
    simp (disch := first | omega | exact okFill_t rfl | exact okSize_t rfl | exact fun h => h | (simp only [World.size_alloc, World.size_drew, World.size_setCell, size_fill, bytesW]; omega)) only [go_sem, c57, c57S0, c57S1, c57S2, c57L0, c57S3, c57S4, c57S5, c57S6, c57S7, c57S8, c57S9, c57S10, c57L0, hlt', r2]
    refine Ret.mono (flush_ok (sto_disk s2) ok1) ?_
    rintro _ w3 ⟨rfl, vl3, s3⟩
    have ok3 := flushN_ok ok1
    have s4 := disk_sto s3
    have hfl := flushN_late m1
    by_cases he : (flushN m1).2 = 0
    case neg =>
      have hcom : comN s.disk s.hd l = flushN m1 := by
        unfold comN
        rw [← hW, hbat, if_pos he]
      rw [hcom]
      simp (disch := first | omega | exact okFill_t rfl | exact okSize_t rfl | exact fun h => h | (simp only [World.size_alloc, World.size_drew, World.size_setCell, size_fill, bytesW]; omega)) only [go_sem, c57, c57S0, c57S1, c57S2, c57L0, c57S3, c57S4, c57S5, c57S6, c57S7, c57S8, c57S9, c57S10, he]
      exact ⟨vl3, s.hd, (s4.sub (List.Sublist.append_left (List.sublist_cons_self _ _) _)).inv_sub fun a ha => List.mem_cons_of_mem _ ha⟩
    have hcom : comN s.disk s.hd l = if (putN (flushN m1).1 (nextH s.hd (blocksN l.length))).2 ≠ 0 then putN (flushN m1).1 (nextH s.hd (blocksN l.length)) else finN (putN (flushN m1).1 (nextH s.hd (blocksN l.length))).1 (nextH s.hd (blocksN l.length)) l := by
      unfold comN
      rw [← hW, hbat, if_neg (by omega)]
    rw [hcom]
    generalize flushN m1 = fm at s4 ok3 hfl he hcom ⊢
    obtain ⟨m3, e3⟩ := fm
    simp only at he s4 ok3 hfl
    subst he
    simp (disch := first | omega | exact okFill_t rfl | exact okSize_t rfl | exact fun h => h | (simp only [World.size_alloc, World.size_drew, World.size_setCell, size_fill, bytesW]; omega)) only [go_sem, c57, c57S0, c57S1, c57S2, c57L0, c57S3, c57S4, c57S5, c57S6, c57S7, c57S8, c57S9, c57S10]
    rw [hpl]
    have hh1 : (nextH s.hd (blocksN l.length)).ok := ⟨by show s.hd.seq + 1 < _; omega, by show blocksN l.length < _; omega, by show s.hd.room < _; omega, by show s.hd.pages < _; omega⟩
    have hh2 : (nextH (nextH s.hd (blocksN l.length)) 0).ok := ⟨by show s.hd.seq + 1 + 1 < _; omega, by show 0 < _; omega, by show s.hd.room < _; omega, by show s.hd.pages < _; omega⟩
    refine Ret.mono (step_ok (blocksN l.length) s4 ok3 hh1 (show m3.late.length < 1000000 by omega) (by omega)) ?_
    rintro _ w5 ⟨rfl, vl5, s5⟩
    have hpla := putN_late m3 (nextH s.hd (blocksN l.length))
    have hpok := putN_ok (h := nextH s.hd (blocksN l.length)) ok3 (by omega)
    simp only at s5
    generalize putN m3 (nextH s.hd (blocksN l.length)) = pm at s5 hpla hpok ⊢
    obtain ⟨m4, e4⟩ := pm
    simp only at hpla hpok s5
    by_cases he4 : e4 = 0
    case neg =>
      rw [if_pos (by simpa using he4)]
      simp (disch := first | omega | exact okFill_t rfl | exact okSize_t rfl | exact fun h => h | (simp only [World.size_alloc, World.size_drew, World.size_setCell, size_fill, bytesW]; omega)) only [go_sem, c57, c57S0, c57S1, c57S2, c57L0, c57S3, c57S4, c57S5, c57S6, c57S7, c57S8, c57S9, c57S10, he4]
      refine ⟨vl5, _, (s5.sub (List.Sublist.append_left (List.sublist_cons_self _ _) _)).inv_sub fun a ha => List.mem_cons_of_mem _ ha⟩
    subst he4
    rw [if_neg (by simp)]
    rw [show headW s.hd 0 (nextH s.hd (blocksN l.length)) = nextH s.hd (blocksN l.length) from rfl] at s5
    simp (disch := first | omega | exact okFill_t rfl | exact okSize_t rfl | exact fun h => h | (simp only [World.size_alloc, World.size_drew, World.size_setCell, size_fill, bytesW]; omega)) only [go_sem, c57, c57S0, c57S1, c57S2, c57L0, c57S3, c57S4, c57S5, c57S6, c57S7, c57S8, c57S9, c57S10]
    refine Ret.mono (home_ok s5 hpok hh2 hp hl hg (show m4.late.length < 900000 by omega)) ?_
    rintro _ w6 ⟨rfl, vl6, s6⟩
    simp (disch := first | omega | exact okFill_t rfl | exact okSize_t rfl | exact fun h => h | (simp only [World.size_alloc, World.size_drew, World.size_setCell, size_fill, bytesW]; omega)) only [go_sem, c57, c57S0, c57S1, c57S2, c57L0, c57S3, c57S4, c57S5, c57S6, c57S7, c57S8, c57S9, c57S10]
    exact ⟨vl6, _, fun h => by unfold headW; rw [if_pos h], (s6.sub (List.Sublist.append_left (List.sublist_cons_self _ _) _)).inv_sub fun a ha => List.mem_cons_of_mem _ ha⟩
end
end Go.Proofs.Ytmchjbgobiagiaa

namespace Go.Proofs.Ytmchjbgobiagiaa
set_option linter.unusedSimpArgs false
set_option linter.unusedVariables false
set_option maxRecDepth 100000
open Go Go.Ann Go.RowKit Go.WideShapes Go.Shelf
def Gr (w w' : World) : Prop := ∃ q os, w' = Go.Sort.grow (w.drewN q) os
theorem Gr.refl (w : World) : Gr w w := ⟨0, #[], by rw [Go.Sort.grow_empty]; rfl⟩
theorem Gr.alloc {w w' : World} (h : Gr w w') (o : Obj) : Gr w (w'.alloc o) := by
  obtain ⟨q, os, rfl⟩ := h
  exact ⟨q, os ++ #[o], by rw [Go.Sort.alloc_eq_grow, Go.Sort.grow_grow]⟩
theorem Gr.drew {w w' : World} (h : Gr w w') : Gr w w'.drew := by
  obtain ⟨q, os, rfl⟩ := h
  exact ⟨q + 1, os, rfl⟩
theorem Gr.trans {a b c : World} (h : Gr a b) (k : Gr b c) : Gr a c := by
  obtain ⟨q, os, rfl⟩ := h
  obtain ⟨r, ps, rfl⟩ := k
  exact ⟨q + r, os ++ ps, by rw [← Go.Sort.grow_grow]; show Go.Sort.grow (Go.Sort.grow ((a.drewN q).drewN r) os) ps = _; rw [World.drewN_drewN]⟩
theorem Gr.below {w w' : World} (h : Gr w w') : Below w.heap.size w w' := by
  obtain ⟨q, os, rfl⟩ := h
  refine ⟨rfl, rfl, rfl, ?_, fun k hk => ?_⟩
  · show w.heap.size ≤ (w.heap ++ os).size
    rw [Array.size_append]; omega
  · show (w.heap ++ os)[k]? = _
    rw [Array.getElem?_append_left hk]
def cmpI (a b : Int) : Int := if a < b then -1 else if b < a then 1 else 0
def pageI (a b : Pge) : Int := cmpI a.1 b.1
theorem isNaN_ok (a : Int) (w : World) : Ret Try.prog 75 [.int .i64 a] w fun u w' => u = .bool false ∧ w' = w := by
  refine ent75 _ _ _ ?_
  simp (disch := first | omega | exact okFill_t rfl | exact okSize_t rfl | exact fun h => h | (simp only [World.size_alloc, World.size_drew, World.size_setCell, size_fill, bytesW]; omega)) only [go_sem, c75]
theorem compare_ok (a b : Int) (w : World) : Ret Try.prog 55 [.int .i64 a, .int .i64 b] w fun u w' => u = .int .i64 (cmpI a b) ∧ w' = w := by
  refine ent55 _ _ _ _ ?_
  simp (disch := first | omega | exact okFill_t rfl | exact okSize_t rfl | exact fun h => h | (simp only [World.size_alloc, World.size_drew, World.size_setCell, size_fill, bytesW]; omega)) only [go_sem, c55, c55S0, c55S1, c55S2, c55S3, c55S4, c55S5, c55S6]
  refine Ret.mono (isNaN_ok _ _) ?_
  rintro _ _ ⟨rfl, rfl⟩
  simp (disch := first | omega | exact okFill_t rfl | exact okSize_t rfl | exact fun h => h | (simp only [World.size_alloc, World.size_drew, World.size_setCell, size_fill, bytesW]; omega)) only [go_sem, c55, c55S0, c55S1, c55S2, c55S3, c55S4, c55S5, c55S6]
  refine Ret.mono (isNaN_ok _ _) ?_
  rintro _ _ ⟨rfl, rfl⟩
  simp (disch := first | omega | exact okFill_t rfl | exact okSize_t rfl | exact fun h => h | (simp only [World.size_alloc, World.size_drew, World.size_setCell, size_fill, bytesW]; omega)) only [go_sem, c55, c55S0, c55S1, c55S2, c55S3, c55S4, c55S5, c55S6]
  unfold cmpI
  refine ⟨fun h => by rw [if_pos h], fun h => ⟨fun h2 => by rw [if_neg (by omega), if_pos h2], fun h2 => by rw [if_neg (by omega), if_neg (by omega)]⟩⟩
theorem page1_ok (a b : Pge) (w : World) : Ret Try.prog 54 [.agg (pendV a).toArray, .agg (pendV b).toArray] w fun u w' => u = .int .i64 (pageI a b) ∧ Gr w w' := by
  refine ent54 _ _ _ _ ?_
  simp (disch := first | omega | exact okFill_t rfl | exact okSize_t rfl | exact fun h => h | (simp only [World.size_alloc, World.size_drew, World.size_setCell, size_fill, bytesW]; omega)) only [go_sem, c54, c54S0, pendV]
  refine Ret.mono (compare_ok _ _ _) ?_
  rintro _ _ ⟨rfl, rfl⟩
  simp (disch := first | omega | exact okFill_t rfl | exact okSize_t rfl | exact fun h => h | (simp only [World.size_alloc, World.size_drew, World.size_setCell, size_fill, bytesW]; omega)) only [go_sem, c54, c54S0]
  exact ⟨rfl, ((Gr.refl w).alloc _).alloc _⟩
theorem pend_one (x : Pge) : ∀ u ∈ pendV x, u.oneCell' = true := by simpa using pendV_ones [x]
theorem flatK_eq {α : Type} [Inhabited α] {enc : α → List Value} {k : Nat} (hk : ∀ x, (enc x).length = k) (d : Array α) : (Go.Sort.flatK enc k d).toList = d.toList.flatMap enc := by
  have hl : (d.toList.flatMap enc).length = d.size * k := by
    rw [List.length_flatMap, ← Array.length_toList]
    generalize d.toList = l
    induction l with
    | nil => simp
    | cons a l ih => rw [List.map_cons, List.sum_cons, ih, hk, List.length_cons, Nat.add_mul]; omega
  refine List.ext_getElem (by rw [hl, Array.length_toList, Go.Sort.size_flatK]) fun t h1 h2 => ?_
  have ht : t < d.size * k := by omega
  have hk0 : 0 < k := Nat.pos_of_ne_zero fun h => by subst h; omega
  have hi : t / k < d.size := (Nat.div_lt_iff_lt_mul hk0).2 ht
  have hj : t % k < k := Nat.mod_lt _ hk0
  have a := Go.Sort.get_flatK enc k d t ht
  rw [getElem!_pos d _ hi, getElem!_pos (enc _) _ (by rw [hk]; exact hj), getElem!_pos _ _ (by rw [Go.Sort.size_flatK]; exact ht)] at a
  rw [Array.getElem_toList, a]
  have b := flatten_at (sz := k) (d.toList.map enc) (t / k) (t % k) (enc d[t / k]) ((enc d[t / k])[t % k]'(by rw [hk]; exact hj)) (fun c hc => by obtain ⟨x, _, rfl⟩ := List.mem_map.1 hc; exact hk x) (by rw [List.getElem?_map, List.getElem?_eq_getElem (by simpa using hi)]; rfl) (List.getElem?_eq_getElem _)
  rw [show t / k * k + t % k = t by rw [Nat.mul_comm]; exact Nat.div_add_mod t k] at b
  have c : (d.toList.flatMap enc)[t]? = some ((enc d[t / k])[t % k]'(by rw [hk]; exact hj)) := b
  rw [List.getElem?_eq_getElem h2] at c
  exact (Option.some.inj c).symm
theorem own_holdsK {α : Type} [Inhabited α] {enc : α → List Value} {k B e g n cap : Nat} {w : World} {d : Array α} (hk : ∀ x, (enc x).length = k) (hd : d.size = n) (h : w.ownsRow B e k (.slice (some ⟨g, 0, none⟩) n cap) n (d.toList.flatMap enc)) :
    Go.Sort.HoldsK enc k w g 0 d := by
  obtain ⟨hl, ⟨h0, _⟩ | ⟨g', cap', cur, he, hB, hb, hc, hm, hs, hx⟩⟩ := h
  · cases h0
  cases he
  have hblk : Blk w g cur e := hb
  intro j hj
  rw [Go.Sort.size_flatK] at hj
  have hj' : j < (Go.Sort.flatK enc k d).size := by rw [Go.Sort.size_flatK]; exact hj
  refine ⟨?_, hblk.frozen _⟩
  rw [hblk.cell, Nat.zero_add, getElem!_pos (Go.Sort.flatK enc k d) j hj']
  have e1 := flatK_eq hk d
  rw [← hx] at e1
  have e2 : (Go.Sort.flatK enc k d).toList[j]? = (cur.toList.take (n * k))[j]? := by rw [e1]
  rw [List.getElem?_take_of_lt (by rw [← hd]; exact hj), Array.getElem?_toList, Array.getElem?_toList, Array.getElem?_eq_getElem hj'] at e2
  exact e2.symm
theorem own_sorted {α : Type} [Inhabited α] {enc : α → List Value} {k B e g n cap : Nat} {w : World} {d : Array α} (hk : ∀ x, (enc x).length = k) (hd : d.size = n) (h : w.ownsRow B e k (.slice (some ⟨g, 0, none⟩) n cap) n (d.toList.flatMap enc))
    (m : Nat) (d' : Array α) (os : Array Obj) (hd' : d'.size = n) : (sortWorldK enc k w g 0 m d' os).ownsRow B e k (.slice (some ⟨g, 0, none⟩) n cap) n (d'.toList.flatMap enc) ∧ Chg (fun k => k = g) w (sortWorldK enc k w g 0 m d' os) := by
  obtain ⟨hl, ⟨h0, _⟩ | ⟨g', cap', cur, he, hB, hb, hc, hm, hs, hx⟩⟩ := h
  · cases h0
  cases he
  have hg : g < w.heap.size := (Array.getElem?_eq_some_iff.1 hb).1
  have hh : (sortWorldK enc k w g 0 m d' os).heap = w.heap.modify g (Go.Sort.onCells (Go.Sort.putCells id 0 (Go.Sort.flatK enc k d'))) ++ os := rfl
  have hgb : (sortWorldK enc k w g 0 m d' os).heap[g]? = some (.cells (Go.Sort.putCells id 0 (Go.Sort.flatK enc k d') cur) e (0, 0)) := by
    rw [hh, Array.getElem?_append_left (by rw [Array.size_modify]; exact hg), Array.getElem?_modify, if_pos rfl, hb]
    rfl
  have e1 := flatK_eq hk d'
  have hle : n * k ≤ cap * k := Nat.mul_le_mul_right _ hc
  refine ⟨⟨by rw [← e1, Array.length_toList, Go.Sort.size_flatK, hd'], .inr ⟨g, cap, _, rfl, hB, hgb, hc, hm, by unfold Go.Sort.putCells; rw [Array.size_mapIdx]; exact hs, ?_⟩⟩, rfl, rfl, rfl, ?_, fun j hj hne => ?_⟩
  · rw [← e1]
    refine List.ext_getElem (by simp only [Go.Sort.putCells, List.length_take, Array.length_toList, Array.size_mapIdx, Go.Sort.size_flatK, hs, hd']; omega) fun t h1 h2 => ?_
    rw [Array.length_toList, Go.Sort.size_flatK, hd'] at h2
    rw [List.getElem_take, Array.getElem_toList, Array.getElem_toList]
    unfold Go.Sort.putCells
    rw [Array.getElem_mapIdx, if_pos ⟨Nat.zero_le _, by rw [Go.Sort.size_flatK, hd']; omega⟩, Nat.sub_zero, getElem!_pos (Go.Sort.flatK enc k d') t (by rw [Go.Sort.size_flatK, hd']; exact h2)]
    rfl
  · rw [hh, Array.size_append, Array.size_modify]; omega
  · rw [hh, Array.getElem?_append_left (by rw [Array.size_modify]; exact hj), Array.getElem?_modify, if_neg (fun e => hne e.symm)]
def Sorts (cf : Pge → Pge → Int) (l l' : List Pge) : Prop := l'.Perm l ∧ l'.Pairwise fun a b => ¬ cf b a < 0
theorem sort_ok (cf : Pge → Pge → Int) (g : Nat) (eg : ∀ args w, (callFunc g args).run Try.prog w = .ok (.enter g args) w) (hO : Go.Sort.SWO (ltOf cf)) (hf : ∀ a b w, Ret Try.prog g [.agg (pendV a).toArray, .agg (pendV b).toArray] w fun u w' => u = .int .i64 (cf a b) ∧ Gr w w')
    (v : Value) (l : List Pge) (w : World) (B : Nat) (h : w.ownsRow B 54 2 v l.length (l.flatMap pendV)) (hl : l.length ≤ 2048) (hl0 : 0 < l.length) :
    Ret Try.prog 53 [v, .func (.func g) #[] #[]] w fun _ w' => ∃ l', Sorts cf l l' ∧ w'.ownsRow B 54 2 v l.length (l'.flatMap pendV) ∧ Chg (fun k => v.ownBlock = some k) w w' := by
  obtain ⟨hlen, ⟨rfl, h0⟩ | ⟨g', cap, cur, rfl, hB, hb, hc, hm, hs, hx⟩⟩ := id h
  · omega
  have hcl : CmpLays Try.prog g #[] pendV 2 cf g' 0 l.toArray.size w := fun m os dk hdk x y => by
    have e := hf x y (sortWorldK pendV 2 w g' 0 m dk os)
    unfold Ret at e
    rw [Array.append_empty]
    exact e.mono fun e w' ⟨u, h1, h2, h3⟩ => ⟨by rw [h1, h2], h3⟩
  have hH : Go.Sort.HoldsK pendV 2 w g' 0 l.toArray := own_holdsK pendV_len (by simp) h
  have hs := AnyQ.slices_SortFunc laySortPages 2 Try.isAgg54 Try.sizeOf54 pendV pendV_len pend_one cf hO g #[] g' 0 cap l.toArray w eg hcl hH (Array.getElem?_eq_some_iff.1 hb).1 (by simp; omega)
  refine hs.mono ?_
  rintro e w' ⟨rfl, d', n, os, hp, hs, rfl⟩
  have hsz : d'.size = l.length := hp.1
  obtain ⟨o1, o2⟩ := own_sorted pendV_len (by simp) (show w.ownsRow B 54 2 (.slice (some ⟨g', 0, none⟩) l.length cap) l.length (l.toArray.toList.flatMap pendV) from h) n d' os hsz
  refine ⟨_, rfl, d'.toList, ⟨?_, ?_⟩, o1, o2.mono fun k _ e => by rw [e]; rfl⟩
  · have := hp.2.2
    simp only [List.size_toArray] at this
    rw [Array.extract_eq_self_of_le (by omega), Array.extract_eq_self_of_le (by simp)] at this
    exact this
  · rw [List.pairwise_iff_getElem]
    intro i j hi hj hij
    have := hs i j (Nat.zero_le _) hij (by simpa [hsz] using hj)
    rw [getElem!_pos d' i (by simpa using hi), getElem!_pos d' j (by simpa using hj)] at this
    simpa [ltOf] using this
theorem lt_page (a b : Pge) : ltOf pageI a b = decide (a.1 < b.1) := by
  unfold ltOf pageI cmpI
  congr 1
  split
  · rename_i h; simp [h]
  · split <;> simp_all
theorem swo_page : Go.Sort.SWO (ltOf pageI) where
  irrefl := by intro a; rw [lt_page]; simp
  trans := by intro a b c; simp only [lt_page, decide_eq_true_eq]; omega
  ntrans := by intro a b c; simp only [lt_page, decide_eq_false_iff_not]; omega
end Go.Proofs.Ytmchjbgobiagiaa

namespace Go.Proofs.Ytmchjbgobiagiaa
set_option linter.unusedSimpArgs false
set_option linter.unusedVariables false
set_option maxRecDepth 100000
open Go Go.Ann Go.RowKit Go.WideShapes
abbrev It := Int × List UInt8
def itE (x : It) : List Value := [.int .i64 x.1, .string (ofL x.2), .int .i64 0]
theorem itE_len (x : It) : (itE x).length = 3 := rfl
theorem flat_take (l : List It) (k : Nat) : (l.flatMap itE).take (k * 3) = (l.take k).flatMap itE := by
  induction l generalizing k with
  | nil => simp
  | cons a l ih =>
    cases k with
    | zero => simp
    | succ k =>
      rw [List.flatMap_cons, List.take_succ_cons, List.flatMap_cons, ← ih, List.take_append, itE_len, List.take_of_length_le (by rw [itE_len]; omega), show (k + 1) * 3 - 3 = k * 3 by omega]
theorem flat_drop (l : List It) (k : Nat) : (l.flatMap itE).drop (k * 3) = (l.drop k).flatMap itE := by
  induction l generalizing k with
  | nil => simp
  | cons a l ih =>
    cases k with
    | zero => simp
    | succ k =>
      rw [List.flatMap_cons, List.drop_succ_cons, ← ih, List.drop_append, itE_len, List.drop_of_length_le (by rw [itE_len]; omega), List.nil_append, show (k + 1) * 3 - 3 = k * 3 by omega]
theorem flat_get {l : List It} {i j : Nat} (hi : i < l.length) (hj : j < 3) : (l.flatMap itE)[i * 3 + j]? = (itE l[i])[j]? := by
  rw [← List.getElem?_drop, flat_drop, List.drop_eq_getElem_cons hi, List.flatMap_cons, List.getElem?_append_left (by rw [itE_len]; exact hj)]
def CaL (c : Nat) (rv : Value) (l : List It) : List Res := [.blk c #[.int .i64 64, rv] 135, .row rv 138 3 l.length (l.flatMap itE)]
section
variable {W0 w : World} {F : Nat → Prop} {L : List Res} {I : List Inv} {c : Nat} {rv : Value} {l : List It}
end
end Go.Proofs.Ytmchjbgobiagiaa

namespace Go.Proofs.Ytmchjbgobiagiaa
set_option linter.unusedSimpArgs false
set_option linter.unusedVariables false
set_option maxRecDepth 100000
open Go Go.Ann Go.RowKit Go.WideShapes
section
variable {W0 w : World} {F : Nat → Prop} {L : List Res} {I : List Inv} {rv : Value} {l : List It}
@[go_sem] theorem goOverlaps : goFunc Try.prog 112 = false := by kernel_rfl
end
end Go.Proofs.Ytmchjbgobiagiaa

namespace Go.Proofs.Ytmchjbgobiagiaa
set_option linter.unusedSimpArgs false
set_option linter.unusedVariables false
set_option maxRecDepth 100000
open Go Go.Ann Go.RowKit Go.WideShapes
def nowP (s : Sto) (i : Int) : List UInt8 := (stRead s i).2.1
def pgs (s : Sto) : List (List UInt8) := (List.range s.hd.pages).map fun i : Nat => nowP s i
theorem pgs_len (s : Sto) : (pgs s).length = s.hd.pages := by unfold pgs; simp
theorem pgs_get {s : Sto} {i : Nat} (h : i < (pgs s).length) : (pgs s)[i] = nowP s i := by simp [pgs]
structure Live (s : Sto) (l : List It) : Prop where
  ok : s.ok
  dead : s.dead = false
  gone : s.disk.gone = false
  few : s.hd.pages ≤ 64
  nd : (l.map Prod.fst).Nodup
  kept : ∀ x ∈ l, 0 ≤ x.1 ∧ x.1 < s.hd.pages ∧ x.2 = nowP s x.1
theorem getM_set {κ ν : Type} [DecidableEq κ] (a b : κ) (v : ν) (c : Nat) : ∀ l : List (κ × ν × Nat), getM b (setM a v c l) = if b = a then some v else getM b l
  | [] => by simp only [setM, getM]
  | x :: l => by
    simp only [setM]
    by_cases h : a = x.1
    · rw [if_pos h]
      simp only [getM]
      by_cases h2 : b = x.1
      · rw [if_pos h2, if_pos (h2.trans h.symm)]
      · rw [if_neg h2, if_neg h2, if_neg (fun e => h2 (e.trans h))]
    · rw [if_neg h]
      simp only [getM]
      by_cases h2 : b = x.1
      · rw [if_pos h2, if_pos h2, if_neg (fun e => h (e.symm.trans h2))]
      · rw [if_neg h2, if_neg h2, getM_set a b v c l]
theorem setM_mem {κ ν : Type} [DecidableEq κ] {a : κ} {v : ν} {c : Nat} : ∀ {l : List (κ × ν × Nat)} {x : κ × ν × Nat}, x ∈ setM a v c l → (x = (a, v, c) ∧ getM a l = none) ∨ (∃ y ∈ l, x.1 = y.1 ∧ x.2.2 = y.2.2 ∧ (x = y ∨ x = (y.1, v, y.2.2) ∧ a = y.1))
  | [], x, h => by simp only [setM, List.mem_singleton] at h; exact .inl ⟨h, rfl⟩
  | y :: l, x, h => by
    simp only [setM] at h
    split at h
    · rename_i e
      rcases List.mem_cons.1 h with rfl | h
      · exact .inr ⟨y, List.mem_cons_self .., rfl, rfl, .inr ⟨rfl, e⟩⟩
      · exact .inr ⟨x, List.mem_cons_of_mem _ h, rfl, rfl, .inl rfl⟩
    · rename_i hne
      rcases List.mem_cons.1 h with rfl | h
      · exact .inr ⟨x, List.mem_cons_self .., rfl, rfl, .inl rfl⟩
      · rcases setM_mem h with ⟨h, hn⟩ | ⟨z, hz, h⟩
        · exact .inl ⟨h, by simp only [getM]; rw [if_neg hne]; exact hn⟩
        · exact .inr ⟨z, List.mem_cons_of_mem _ hz, h⟩
theorem setM_keys {κ ν : Type} [DecidableEq κ] {a : κ} {v : ν} {c : Nat} : ∀ {l : List (κ × ν × Nat)}, (setM a v c l).map Prod.fst = if (getM a l).isSome then l.map Prod.fst else l.map Prod.fst ++ [a]
  | [] => rfl
  | x :: l => by
    simp only [setM, getM]
    split
    · simp
    · simp only [List.map_cons, setM_keys (l := l)]
      split <;> simp
theorem setM_born {κ ν : Type} [DecidableEq κ] {a : κ} {v : ν} {c : Nat} : ∀ {l : List (κ × ν × Nat)}, (setM a v c l).map (fun x => x.2.2) = if (getM a l).isSome then l.map (fun x => x.2.2) else l.map (fun x => x.2.2) ++ [c]
  | [] => rfl
  | x :: l => by
    simp only [setM, getM]
    split
    · simp
    · simp only [List.map_cons, setM_born (l := l)]
      split <;> simp
theorem getM_none {κ ν : Type} [DecidableEq κ] {a : κ} : ∀ {l : List (κ × ν × Nat)}, getM a l = none → a ∉ l.map Prod.fst
  | [], _ => by simp
  | x :: l, h => by
    simp only [getM] at h
    split at h
    · cases h
    · rename_i hne
      simp only [List.map_cons, List.mem_cons, not_or]
      exact ⟨hne, getM_none h⟩
section
variable {s : Sto}
theorem stReady_ok {i : Int} (hd : s.dead = false) (h0 : 0 ≤ i) (h1 : i < s.hd.pages) : stReady s i = 0 := by
  unfold stReady
  rw [if_neg (by rw [hd]; decide), if_pos ⟨h0, h1⟩]
theorem home_ready {i : Int} (ok : s.ok) (hg : s.disk.gone = false) (h0 : 0 ≤ i) (h1 : i < s.hd.pages) : readyN s.disk (homeN s i) = 0 := by
  have := ok.fit
  unfold readyN homeN
  rw [if_neg (by rw [hg]; decide), if_pos (by omega)]
theorem nowP_eq {i : Int} (ok : s.ok) (hd : s.dead = false) (hg : s.disk.gone = false) (h0 : 0 ≤ i) (h1 : i < s.hd.pages) :
    stRead s i = (s, nowP s i, 0) ∧ nowP s i = (getM i s.dirty).getD (lastL s.disk.late (homeN s i) (s.disk.safe.getD (homeN s i).toNat [])) := by
  have e1 := stReady_ok hd h0 h1
  have e2 := home_ready ok hg h0 h1
  have e3 : readN s.disk (homeN s i) = (lastL s.disk.late (homeN s i) (s.disk.safe.getD (homeN s i).toNat []), 0) := by unfold readN; rw [if_pos e2]
  unfold nowP stRead
  rw [if_neg (by omega)]
  cases hm : getM i s.dirty with
  | some x => exact ⟨rfl, rfl⟩
  | none => simp only [e3]; exact ⟨rfl, rfl⟩
theorem stWrite_in {i : Int} {d : List UInt8} (ok : s.ok) (hd : s.dead = false) (hg : s.disk.gone = false) (h0 : 0 ≤ i) (h1 : i < s.hd.pages) (hl : d.length ≤ 256) :
    (stWrite s i d).2 = 0 ∧ (stWrite s i d).1.ok ∧ (stWrite s i d).1.dead = false ∧ (stWrite s i d).1.disk = s.disk ∧ (stWrite s i d).1.hd = s.hd ∧ ∀ j : Int, 0 ≤ j → j < s.hd.pages → nowP (stWrite s i d).1 j = if j = i then filledL d else nowP s j := by
  have e1 := stReady_ok hd h0 h1
  have e : stWrite s i d = ({ s with dirty := setM i (filledL d) s.clock s.dirty, clock := if (getM i s.dirty).isSome then s.clock else s.clock + 1 }, 0) := by
    unfold stWrite
    rw [if_neg (by omega), if_neg (by omega)]
  have ok' : (stWrite s i d).1.ok := by
    rw [e]
    refine ⟨ok.hd, ok.disk, ok.room, ok.pages, ok.few, ok.fit, fun x hx => ?_, ?_, ?_, fun x hx => ?_⟩
    · rcases setM_mem hx with ⟨rfl, _⟩ | ⟨y, hy, h2, h3, rfl | ⟨h4, h5⟩⟩
      · exact ⟨h0, h1, filledL_length hl⟩
      · exact ok.keys _ hy
      · rw [h4]; exact ⟨(ok.keys _ hy).1, (ok.keys _ hy).2.1, filledL_length hl⟩
    · show ((setM i (filledL d) s.clock s.dirty).map Prod.fst).Nodup
      rw [setM_keys]
      split
      · exact ok.nd
      · rename_i hn
        rw [List.nodup_append]
        refine ⟨ok.nd, List.pairwise_singleton _ _, fun a ha b hb => ?_⟩
        rw [List.mem_singleton] at hb
        subst hb
        have := getM_none (a := b) (l := s.dirty) (by simpa using hn)
        exact fun e => this (e ▸ ha)
    · show ((setM i (filledL d) s.clock s.dirty).map fun x => x.2.2).Nodup
      rw [setM_born]
      split
      · exact ok.born
      · rw [List.nodup_append]
        refine ⟨ok.born, List.pairwise_singleton _ _, fun a ha b hb => ?_⟩
        rw [List.mem_singleton] at hb
        subst hb
        obtain ⟨x, hx, rfl⟩ := List.mem_map.1 ha
        have := ok.clock x hx
        omega
    · show x.2.2 < if (getM i s.dirty).isSome then s.clock else s.clock + 1
      rcases setM_mem hx with ⟨rfl, hn⟩ | ⟨y, hy, _, h3, _⟩
      · rw [hn]
        exact Nat.lt_succ_self _
      · have := ok.clock y hy
        rw [h3]
        split <;> omega
  refine ⟨by rw [e], ok', by rw [e]; exact hd, by rw [e], by rw [e], fun j hj0 hj1 => ?_⟩
  have g1 := (nowP_eq ok hd hg hj0 hj1).2
  have g2 := (nowP_eq (s := (stWrite s i d).1) ok' (by rw [e]; exact hd) (by rw [e]; exact hg) hj0 (by rw [e]; exact hj1)).2
  rw [g2, g1, e]
  show (getM j (setM i (filledL d) s.clock s.dirty)).getD _ = _
  rw [getM_set]
  split
  · rfl
  · rfl
end
structure En where
  p : Nat
  b : Nat
  mb : Nat
  g : Nat
  c : Nat
  vb : Value
  vl : Value
  hd : Hd
  m : Dk
def PgL (e : En) (rv : Value) (l : List It) (s : Sto) : List Res :=
  [.blk e.p #[.pointer (some ⟨e.b, 0, none⟩), .pointer (some ⟨e.c, 0, none⟩)] 86] ++ (StoL e.b e.mb e.g e.vb e.vl s ++ CaL e.c rv l)
def Pgr (e : En) (P : List (List UInt8)) (W0 w : World) (F : Nat → Prop) (L : List Res) (I : List Inv) : Prop :=
  ∃ rv l s, St W0 w F (PgL e rv l s ++ L) I ∧ Live s l ∧ s.hd = e.hd ∧ s.disk = e.m ∧ pgs s = P
theorem nodup_few : ∀ (n : Nat) (l : List Int), l.Nodup → (∀ x ∈ l, 0 ≤ x ∧ x < n) → l.length ≤ n
  | 0, l, _, h => by
    cases l with
    | nil => exact Nat.le_refl _
    | cons x l => have := h x (List.mem_cons_self ..); omega
  | n + 1, l, hn, h => by
    by_cases hm : (n : Int) ∈ l
    · have h1 := nodup_few n (l.erase n) (hn.erase _) fun x hx => by
        have h2 := h x (List.mem_of_mem_erase hx)
        have h3 : x ≠ (n : Int) := fun e => by subst e; exact (List.Nodup.not_mem_erase hn) hx
        omega
      rw [List.length_erase_of_mem hm] at h1
      have : 0 < l.length := List.length_pos_of_mem hm
      omega
    · have h1 := nodup_few n l hn fun x hx => by
        have h2 := h x hx
        have h3 : x ≠ (n : Int) := fun e => hm (e ▸ hx)
        omega
      omega
theorem Live.len {s : Sto} {l : List It} (h : Live s l) : l.length ≤ s.hd.pages := by
  have := nodup_few s.hd.pages (l.map Prod.fst) h.nd fun x hx => by
    obtain ⟨y, hy, rfl⟩ := List.mem_map.1 hx
    exact ⟨(h.kept y hy).1, (h.kept y hy).2.1⟩
  rwa [List.length_map] at this
theorem pgs_eq {s : Sto} {P : List (List UInt8)} (hl : P.length = s.hd.pages) (h : ∀ i : Nat, i < P.length → nowP s i = P.getD i []) : pgs s = P := by
  refine List.ext_getElem (by rw [pgs_len, hl]) fun i h1 h2 => ?_
  rw [pgs_get, h i h2, List.getD_eq_getElem?_getD, List.getElem?_eq_getElem h2]; rfl
section
variable {W0 w : World} {F : Nat → Prop} {L : List Res} {I : List Inv} {e : En} {P : List (List UInt8)}
theorem Pgr.len (h : Pgr e P W0 w F L I) : P.length = e.hd.pages ∧ P.length ≤ 64 := by
  obtain ⟨rv, l, s, h1, h2, h3, h4, h5⟩ := h
  have := h2.few
  rw [← h5, pgs_len, h3]
  rw [h3] at this
  exact ⟨rfl, this⟩
end
end Go.Proofs.Ytmchjbgobiagiaa

namespace Go.Proofs.Ytmchjbgobiagiaa
set_option linter.unusedSimpArgs false
set_option linter.unusedVariables false
set_option maxRecDepth 100000
open Go Go.Ann Go.RowKit Go.WideShapes
section
variable {W0 w : World} {F : Nat → Prop} {L : List Res} {I : List Inv} {e : En} {P : List (List UInt8)}
theorem Pgr.blk (h : Pgr e P W0 w F L I) : Blk w e.p #[.pointer (some ⟨e.b, 0, none⟩), .pointer (some ⟨e.c, 0, none⟩)] 86 := by
  obtain ⟨rv, l, s, hs, _⟩ := h
  exact hs.blk 0 rfl
end
end Go.Proofs.Ytmchjbgobiagiaa

namespace Go.Proofs.Ytmchjbgobiagiaa
set_option linter.unusedSimpArgs false
set_option linter.unusedVariables false
set_option maxRecDepth 100000
open Go Go.Ann Go.RowKit Go.WideShapes
theorem fmtDk_ok {n : Nat} {h : Hd} (h0 : 2 ≤ n) (h1 : n ≤ 2048) : (fmtDk n h).ok := by
  have hl := headL_len h
  refine ⟨fun s hs => ?_, fun _ h => (by cases h), ⟨by simp [fmtDk], by simp [fmtDk]⟩, by simp [fmtDk]; omega, by simp [fmtDk]; omega, by simp [fmtDk]⟩
  unfold fmtDk at hs
  rcases List.mem_or_eq_of_mem_set hs with hs | rfl
  · rcases List.mem_or_eq_of_mem_set hs with hs | rfl
    · rw [List.eq_of_mem_replicate hs]; exact List.length_replicate
    · exact filledL_length (by decide)
  · exact filledL_length (by omega)
section
variable {W0 w : World} {F : Nat → Prop} {L : List Res} {I : List Inv}
end
end Go.Proofs.Ytmchjbgobiagiaa

namespace Go.Proofs.Ytmchjbgobiagiaa
set_option linter.unusedSimpArgs false
set_option linter.unusedVariables false
set_option maxRecDepth 100000
open Go Go.Ann Go.RowKit Go.WideShapes
theorem lenG {P : Program} {κ ν : Type} {ek : κ → Value} {ev : ν → Value} {w : World} {K : Value → World → Prop} {m t e ty r c : Nat} {cs : Array Bool} {l : List (κ × ν × Nat)} (hm : P.underlying m = some (.map t e)) (hr : w.heap[r]? = some (mapG ek ev l c)) (hK : K (.int .i64 l.length) w) : rawB P .len #[m] ty cs [.map (some r)] w K := by
  refine ⟨_, w, ?_, hK⟩
  have hg : (getObj r).run P w = .ok (.map (l.map (entG ek ev)).toArray c) w := run_getObj_map w r _ _ hr
  simp [builtin, Builtin.len_, Sem.run_bind, run_underlying hm, hg, Result.andThen_ok, goInt]
def intE (n : Int) : List Value := [.int .i64 n]
end Go.Proofs.Ytmchjbgobiagiaa

namespace Go.Proofs.Ytmchjbgobiagiaa
set_option linter.unusedSimpArgs false
set_option linter.unusedVariables false
set_option maxRecDepth 100000
open Go Go.Ann Go.RowKit Go.WideShapes Go.Shelf
def dirtyL (s : Sto) : List Pge := s.dirty.map fun x => (x.1, x.2.1)
theorem left_in {d : List (Int × List UInt8 × Nat)} {D : List (Int × List UInt8 × Nat)} {e : MapEntry} (h : e ∈ (leftOf (d.map (entG intK strK)).toArray (D.map fun x => x.2.2).toArray).toList) : ∃ x ∈ d, e = entG intK strK x ∧ x.2.2 ∉ D.map fun x => x.2.2 := by
  unfold leftOf at h
  rw [Array.toList_filter, List.mem_filter] at h
  obtain ⟨h1, h2⟩ := h
  obtain ⟨x, hx, rfl⟩ := List.mem_map.1 h1
  refine ⟨x, hx, rfl, ?_⟩
  simpa [entG] using h2
theorem left_none {d : List (Int × List UInt8 × Nat)} {D : List (Int × List UInt8 × Nat)} (h : (leftOf (d.map (entG intK strK)).toArray (D.map fun x => x.2.2).toArray).size = 0) : ∀ x ∈ d, x.2.2 ∈ D.map fun x => x.2.2 := by
  intro x hx
  unfold leftOf at h
  rw [← Array.length_toList, Array.toList_filter, List.length_eq_zero_iff, List.filter_eq_nil_iff] at h
  have := h (entG intK strK x) (List.mem_map_of_mem hx)
  simpa [entG] using this
theorem all_perm {d D : List (Int × List UInt8 × Nat)} (hb : (d.map fun x => x.2.2).Nodup) (hD : (D.map fun x => x.2.2).Nodup) (hs : ∀ x ∈ D, x ∈ d) (ha : ∀ x ∈ d, x.2.2 ∈ D.map fun x => x.2.2) : D.Perm d := by
  have inj : ∀ x ∈ d, ∀ y ∈ d, x.2.2 = y.2.2 → x = y := fun x hx y hy e => by
    obtain ⟨i, hi, rfl⟩ := List.mem_iff_getElem.1 hx
    obtain ⟨j, hj, rfl⟩ := List.mem_iff_getElem.1 hy
    have hp := List.pairwise_iff_getElem.1 hb
    rcases Nat.lt_trichotomy i j with h | h | h
    · exact absurd (by rw [List.getElem_map, List.getElem_map]; exact e) (hp i j (by simpa using hi) (by simpa using hj) h)
    · subst h; rfl
    · exact absurd (by rw [List.getElem_map, List.getElem_map]; exact e.symm) (hp j i (by simpa using hj) (by simpa using hi) h)
  have nd : ∀ l : List (Int × List UInt8 × Nat), (l.map fun x => x.2.2).Nodup → l.Nodup := fun l h => by
    unfold List.Nodup at h ⊢
    rw [List.pairwise_map] at h
    exact h.imp fun h e => h (by rw [e])
  refine (List.perm_ext_iff_of_nodup (nd D hD) (nd d hb)).2 fun x => ⟨hs x, fun hx => ?_⟩
  obtain ⟨y, hy, e⟩ := List.mem_map.1 (ha x hx)
  have := inj y (hs y hy) x hx e
  rw [← this]; exact hy
theorem nodup_le {d D : List (Int × List UInt8 × Nat)} (hD : (D.map fun x => x.2.2).Nodup) (hs : ∀ x ∈ D, x ∈ d) : D.length ≤ d.length := by
  have nd : D.Nodup := by
    unfold List.Nodup at hD ⊢
    rw [List.pairwise_map] at hD
    exact hD.imp fun h e => h (by rw [e])
  induction D generalizing d with
  | nil => exact Nat.zero_le _
  | cons a D ih =>
    rw [List.nodup_cons] at nd
    have h1 : ∀ x ∈ D, x ∈ d.erase a := fun x hx => (List.mem_erase_of_ne (fun e => nd.1 (by rw [← e]; exact hx))).2 (hs x (List.mem_cons_of_mem _ hx))
    have := ih (by rw [List.map_cons, List.nodup_cons] at hD; exact hD.2) h1 nd.2
    have ha := hs a (List.mem_cons_self ..)
    rw [List.length_erase_of_mem ha] at this
    have := List.length_pos_of_mem ha
    rw [List.length_cons]; omega
section
variable {W0 w : World} {F : Nat → Prop} {L : List Res} {I : List Inv} {b mb g : Nat} {vb vl v : Value} {s : Sto} {l : List Pge}
theorem goSort : goFunc Try.prog 53 = true := by kernel_rfl
structure ComOut (s : Sto) (r : Int) (s' : Sto) : Prop where
  out : (stReady s 0 ≠ 0 ∧ r = stReady s 0 ∧ s' = s) ∨ (stReady s 0 = 0 ∧ s.dirty = [] ∧ r = 0 ∧ s' = s) ∨
    (stReady s 0 = 0 ∧ s.dirty ≠ [] ∧ ∃ l, Sorts pageI (dirtyL s) l ∧ ((s.hd.room < blocksN l.length ∧ r = 12 ∧ s' = { s with dirty := [] }) ∨
      (blocksN l.length ≤ s.hd.room ∧ r = (comN s.disk s.hd l).2 ∧ ∃ hd', ((comN s.disk s.hd l).2 = 0 → hd' = nextH (nextH s.hd (blocksN l.length)) 0) ∧ s' = { hd := hd', dirty := [], clock := s.clock, dead := decide (r ≠ 0), disk := (comN s.disk s.hd l).1 })))
theorem scommit_ok (h : St W0 w F (StoL b mb g vb vl s ++ L) I) (ok : s.ok) (hseq : s.hd.seq + 2 < 1000000) (hless : s.disk.late.length < 800000) :
    Ret Try.prog 24 [.pointer (some ⟨b, 0, none⟩)] w fun r w' => ∃ e s' vl', r = .int .i64 e ∧ ComOut s e s' ∧ St W0 w' F (StoL b mb g vb vl' s' ++ L) I := by
  refine ent24 _ _ _ ?_
  simp (disch := first | omega | exact okFill_t rfl | exact okSize_t rfl | exact fun h => h | (simp only [World.size_alloc, World.size_drew, World.size_setCell, size_fill, bytesW]; omega)) only [go_sem, c24, c24S0, c24S1, c24S2, c24S3, c24S4, c24S5, c24S6, c24S7, c24S8]
  refine Ret.mono (sready_ok 0 h) ?_
  rintro _ w2 ⟨rfl, e2⟩
  subst w2
  by_cases hr : stReady s 0 = 0
  case neg =>
    simp (disch := first | omega | exact okFill_t rfl | exact okSize_t rfl | exact fun h => h | (simp only [World.size_alloc, World.size_drew, World.size_setCell, size_fill, bytesW]; omega)) only [go_sem, c24, c24S0, c24S1, c24S2, c24S3, c24S4, c24S5, c24S6, c24S7, c24S8, hr]
    exact ⟨_, s, vl, rfl, ⟨.inl ⟨hr, rfl, rfl⟩⟩, h⟩
  have r1 := h.rules 0 rfl
  simp (disch := first | omega | exact okFill_t rfl | exact okSize_t rfl | exact fun h => h | (simp only [World.size_alloc, World.size_drew, World.size_setCell, size_fill, bytesW]; omega)) only [go_sem, c24, c24S0, c24S1, c24S2, c24S3, c24S4, c24S5, c24S6, c24S7, c24S8, hr, r1]
  refine lenG (ek := intK) (ev := strK) Try.underlying74 (h.obj 1 rfl) ?_
  by_cases hd : s.dirty = []
  · have h0 : (s.dirty.length : Int) = 0 := by rw [hd]; rfl
    simp (disch := first | omega | exact okFill_t rfl | exact okSize_t rfl | exact fun h => h | (simp only [World.size_alloc, World.size_drew, World.size_setCell, size_fill, bytesW]; omega)) only [go_sem, c24, c24S0, c24S1, c24S2, c24S3, c24S4, c24S5, c24S6, c24S7, c24S8, h0]
    exact ⟨_, s, vl, rfl, ⟨.inr (.inl ⟨hr, hd, rfl, rfl⟩)⟩, h⟩
  have hd0 : 0 < s.dirty.length := List.length_pos_iff.2 hd
  have h0 : ¬ (s.dirty.length : Int) = 0 := by omega
  simp (disch := first | omega | exact okFill_t rfl | exact okSize_t rfl | exact fun h => h | (simp only [World.size_alloc, World.size_drew, World.size_setCell, size_fill, bytesW]; omega)) only [go_sem, c24, c24S0, c24S1, c24S2, c24S3, c24S4, c24S5, c24S6, c24S7, c24S8, h0, r1]
  refine rgG Try.underlying74 (h.obj 1 rfl) ?_
  have s1 := (h.lay (.mapIter (some mb) s.clock #[] s.clock)).nilRow 54 2
  generalize w.heap.size = q at s1 ⊢
  generalize w.alloc (.mapIter (some mb) s.clock #[] s.clock) = w1 at s1 ⊢
  have s1 : St W0 w1 F (.row (.slice none 0 0) 54 2 0 [] :: .obj q (.mapIter (some mb) s.clock #[] s.clock) :: (StoL b mb g vb vl s ++ L)) I := s1
  simp (disch := first | omega | exact okFill_t rfl | exact okSize_t rfl | exact fun h => h | (simp only [World.size_alloc, World.size_drew, World.size_setCell, size_fill, bytesW]; omega)) only [go_sem, c24, c24S0, c24S1, c24S2, c24S3, c24S4, c24S5, c24S6, c24S7, c24S8]
  refine W_loopU (fun z : List (Int × List UInt8 × Nat) × Value => [(4, z.2)]) (fun z w' => (∀ x ∈ z.1, x ∈ s.dirty) ∧ (z.1.map fun x => x.2.2).Nodup ∧ St W0 w' F (.row z.2 54 2 z.1.length ((z.1.map fun x => (x.1, x.2.1)).flatMap pendV) :: .obj q (.mapIter (some mb) s.clock (z.1.map fun x => x.2.2).toArray s.clock) :: (StoL b mb g vb vl s ++ L)) I) (fun z => s.dirty.length - z.1.length) ([], .slice none 0 0) rfl ⟨fun _ h => (by cases h), List.Pairwise.nil, s1⟩ ?_
  clear s1
  rintro ⟨D, vo⟩ w2 ⟨hD1, hD2, s2⟩
  simp only at hD1 hD2 s2
  have hle := nodup_le hD2 hD1
  obtain ⟨ao, co, rfl, _⟩ := own_slice (s2.row 0 rfl)
  have hdl : s.dirty.length ≤ 1024 := by
    have := nodup_few s.hd.pages (s.dirty.map Prod.fst) ok.nd fun x hx => by
      obtain ⟨y, hy, rfl⟩ := List.mem_map.1 hx
      exact ⟨(ok.keys y hy).1, (ok.keys y hy).2.1⟩
    rw [List.length_map] at this
    have := ok.few
    omega
  simp (disch := first | omega | exact okFill_t rfl | exact okSize_t rfl | exact fun h => h | (simp only [World.size_alloc, World.size_drew, World.size_setCell, size_fill, bytesW]; omega)) only [go_sem, c24, c24S0, c24S1, c24L0, c24S2, c24S3, c24S4, c24S5, c24S6, c24S8, c24L0]
  refine nxG (s2.obj 1 rfl) (s2.obj 3 rfl) (fun e he => ?_) (Nat.le_refl _) (fun h0' => ?_) (fun e he w3 hw3 => ?_)
  · obtain ⟨x, hx, rfl⟩ := List.mem_map.1 he
    exact ok.clock x hx
  · simp (disch := first | omega | exact okFill_t rfl | exact okSize_t rfl | exact fun h => h | (simp only [World.size_alloc, World.size_drew, World.size_setCell, size_fill, bytesW]; omega)) only [go_sem, c24, c24S0, c24S1, c24L0, c24S2, c24S3, c24S4, c24S5, c24S6, c24S8]
    have hall := left_none h0'
    have hperm := all_perm ok.born hD2 hD1 hall
    have hlen : D.length = s.dirty.length := hperm.length_eq
    have s3 : St W0 w2 F (.row (.slice ao D.length co) 54 2 (D.map fun x => ((x.1, x.2.1) : Pge)).length ((D.map fun x => ((x.1, x.2.1) : Pge)).flatMap pendV) :: (StoL b mb g vb vl s ++ L)) I := by
      rw [List.length_map]
      exact s2.sub (List.Sublist.cons_cons _ (List.sublist_cons_self _ _))
    clear s2
    have hDp : (D.map fun x => ((x.1, x.2.1) : Pge)).Perm (dirtyL s) := hperm.map _
    generalize hDl : (D.map fun x => ((x.1, x.2.1) : Pge)) = l0 at s3 hDp
    have hl0 : l0.length = D.length := by rw [← hDl, List.length_map]
    simp (disch := first | omega | exact okFill_t rfl | exact okSize_t rfl | exact fun h => h | (simp only [World.size_alloc, World.size_drew, World.size_setCell, size_fill, bytesW]; omega)) only [go_sem, c24, c24S0, c24S1, c24L0, c24S2, c24S3, c24S4, c24S5, c24S7, c24S8, goSort]
    rw [← hl0] at s3 ⊢
    refine Ret.mono (sort_ok pageI _ (enters_of Try.func54 (by kernel_rfl) rfl) swo_page page1_ok _ l0 w2 _ (s3.row 0 rfl) (by omega) (by omega)) ?_
    rintro _ w4 ⟨l', hsort, hrow, hchg⟩
    have hl' : l'.length = l0.length := hsort.1.length_eq
    have s4 := s3.upd 0 rfl hchg (.row (.slice ao l0.length co) 54 2 l0.length (l'.flatMap pendV)) hrow fun k hk => .inl hk
    rw [← hl'] at s4 ⊢
    have s4 : St W0 w4 F (.row (.slice ao l'.length co) 54 2 l'.length (l'.flatMap pendV) :: (StoL b mb g vb vl s ++ L)) I := s4
    have r4 := s4.rules 1 rfl
    simp (disch := first | omega | exact okFill_t rfl | exact okSize_t rfl | exact fun h => h | (simp only [World.size_alloc, World.size_drew, World.size_setCell, size_fill, bytesW]; omega)) only [go_sem, c24, c24S0, c24S1, c24L0, c24S2, c24S3, c24S4, c24S5, c24S6, c24S7, c24S8, r4]
    refine clearG Try.underlying74 (s4.obj 2 rfl) ?_
    have s5 := s4.putObj 2 rfl (mapG intK strK [] s.clock)
    have e5 : mapG intK strK [] s.clock = .map #[] s.clock := rfl
    rw [e5] at s5
    generalize w4.putObj mb (.map #[] s.clock) = w5 at s5 ⊢
    have s5 : St W0 w5 F (.row (.slice ao l'.length co) 54 2 l'.length (l'.flatMap pendV) :: (StoL b mb g vb vl { s with dirty := [] } ++ L)) I := s5
    have hS : Sorts pageI (dirtyL s) l' := ⟨hsort.1.trans hDp, hsort.2⟩
    simp (disch := first | omega | exact okFill_t rfl | exact okSize_t rfl | exact fun h => h | (simp only [World.size_alloc, World.size_drew, World.size_setCell, size_fill, bytesW]; omega)) only [go_sem, c24, c24S0, c24S1, c24L0, c24S2, c24S3, c24S4, c24S5, c24S6, c24S7, c24S8]
    refine c24draw0 (Same (fun k => k = b) _) (Same.refl _ _) ?_
    have s6 := s5.drew
    have r6 := s6.rules 1 rfl
    generalize w5.drew = w6 at s6 r6 ⊢
    simp (disch := first | omega | exact okFill_t rfl | exact okSize_t rfl | exact fun h => h | (simp only [World.size_alloc, World.size_drew, World.size_setCell, size_fill, bytesW]; omega)) only [go_sem, c24, c24S0, c24S1, c24L0, c24S2, c24S3, c24S4, c24S5, c24S6, c24S7, c24S8, c24D0, r6]
    refine Ret.mono (blocks_ok l'.length w6 (by omega)) ?_
    rintro _ w7 ⟨rfl, e7⟩
    subst w7
    by_cases hroom : s.hd.room < blocksN l'.length
    · have hroom' : (s.hd.room : Int) < blocksN l'.length := by omega
      simp (disch := first | omega | exact okFill_t rfl | exact okSize_t rfl | exact fun h => h | (simp only [World.size_alloc, World.size_drew, World.size_setCell, size_fill, bytesW]; omega)) only [go_sem, c24, c24S0, c24S1, c24L0, c24S2, c24S3, c24S4, c24S5, c24S6, c24S7, c24S8, hroom']
      exact ⟨Same.refl _ _, _, _, vl, rfl, ⟨.inr (.inr ⟨hr, hd, l', hS, .inl ⟨hroom, rfl, rfl⟩⟩)⟩, s6.sub (List.sublist_cons_self _ _)⟩
    · have hroom' : ¬ (s.hd.room : Int) < blocksN l'.length := by omega
      have hfit := ok.fit
      have hfew := ok.disk.few
      have hp : ∀ p ∈ l', 0 ≤ p.1 ∧ p.1 < s.hd.pages ∧ p.2.length = 256 := fun p hp => by
        obtain ⟨x, hx, rfl⟩ := List.mem_map.1 (hS.1.subset hp)
        exact ok.keys x hx
      have s7 := s6.seal (.rd 2 pendV (.slice ao l'.length co) l') (RdS.of_own' (s6.row 0 rfl) l' rfl rfl) fun k hk => slFoot_own hk
      simp (disch := first | omega | exact okFill_t rfl | exact okSize_t rfl | exact fun h => h | (simp only [World.size_alloc, World.size_drew, World.size_setCell, size_fill, bytesW]; omega)) only [go_sem, c24, c24S0, c24S1, c24L0, c24S2, c24S3, c24S4, c24S5, c24S6, c24S7, c24S8, hroom']
      refine ⟨Same.refl _ _, Ret.mono (commit_ok s7 ok.disk hseq hp (by omega) ⟨show s.hd.room ≤ 2048 by omega, ok.few⟩ (by show blocksN l'.length ≤ s.hd.room; omega) hless) ?_⟩
      rintro _ w8 ⟨rfl, vl', hd', hhd, s8⟩
      have r8 := s8.rules 0 rfl
      simp (disch := first | omega | exact okFill_t rfl | exact okSize_t rfl | exact fun h => h | (simp only [World.size_alloc, World.size_drew, World.size_setCell, size_fill, bytesW]; omega)) only [go_sem, c24, c24S0, c24S1, c24L0, c24S2, c24S3, c24S4, c24S5, c24S6, c24S7, c24S8, r8]
      have eb : (!decide ((comN s.disk s.hd l').2 = 0)) = decide ((comN s.disk s.hd l').2 ≠ 0) := by simp
      rw [eb]
      have s9 := s8.set 0 rfl 6 (.bool (decide ((comN s.disk s.hd l').2 ≠ 0)))
      exact ⟨_, { hd := hd', dirty := [], clock := s.clock, dead := decide ((comN s.disk s.hd l').2 ≠ 0), disk := (comN s.disk s.hd l').1 }, vl', rfl, ⟨.inr (.inr ⟨hr, hd, l', hS, .inr ⟨by omega, rfl, hd', hhd, rfl⟩⟩)⟩, s9⟩
  · obtain ⟨x, hx, rfl, hxn⟩ := left_in he
    have s3 : St W0 w3 F (.row (.slice ao D.length co) 54 2 D.length ((D.map fun x => (x.1, x.2.1)).flatMap pendV) :: .obj q (.mapIter (some mb) s.clock (D.map fun x => x.2.2).toArray s.clock) :: (StoL b mb g vb vl s ++ L)) I := by
      rcases hw3 with rfl | rfl
      · exact s2
      · exact s2.drew
    have s4 := s3.putObj 1 rfl (.mapIter (some mb) s.clock ((D.map fun x => x.2.2).toArray.push x.2.2) s.clock)
    simp (disch := first | omega | exact okFill_t rfl | exact okSize_t rfl | exact fun h => h | (simp only [World.size_alloc, World.size_drew, World.size_setCell, size_fill, bytesW]; omega)) only [go_sem, c24, c24S0, c24S1, c24L0, c24S2, c24S3, c24S4, c24S5, c24S6, c24S8]
    have hbn : ((s.dirty.map (entG intK strK)).toArray.toList.map (·.born)).Nodup := by
      rw [List.toList_toArray, List.map_map]
      exact ok.born
    have hxe : (x.1, x.2.1) = ((x.1, x.2.1) : Pge) := rfl
    refine enG (s4.obj 1 rfl) (s4.obj 3 rfl) (by rw [List.toList_toArray]; exact List.mem_map_of_mem hx) hbn ?_
    simp (disch := first | omega | exact okFill_t rfl | exact okSize_t rfl | exact fun h => h | (simp only [World.size_alloc, World.size_drew, World.size_setCell, size_fill, bytesW]; omega)) only [go_sem, c24, c24S0, c24S1, c24L0, c24S2, c24S3, c24S4, c24S5, c24S6, c24S8, entG, intK, strK]
    have hone := pend_one (x.1, x.2.1)
    refine bdW_built (cells := (pendV (x.1, x.2.1)).toArray) (by kernel_rfl) ?_
    simp (disch := first | omega | exact okFill_t rfl | exact okSize_t rfl | exact fun h => h | (simp only [World.size_alloc, World.size_drew, World.size_setCell, size_fill, bytesW]; omega)) only [go_sem, c24, c24S0, c24S1, c24L0, c24S2, c24S3, c24S4, c24S5, c24S6, c24S8]
    refine bsW_agg ty48mkI rfl (by decide) (by decide) ?_
    have hDl : D.length < s.dirty.length := by
      have hn2 : ((x :: D).map fun x => x.2.2).Nodup := by rw [List.map_cons, List.nodup_cons]; exact ⟨hxn, hD2⟩
      have := nodup_le hn2 fun y hy => by
        rcases List.mem_cons.1 hy with rfl | hy
        · exact hx
        · exact hD1 y hy
      rw [List.length_cons] at this
      omega
    generalize hw4 : w3.putObj q (.mapIter (some mb) s.clock ((D.map fun x => x.2.2).toArray.push x.2.2) s.clock) = w4 at s4 ⊢
    have hx2 : Rd (w4.alloc (.cells (pendV (x.1, x.2.1)).toArray 54)) 2 (.slice (some ⟨w4.heap.size, 0, none⟩) 1 1) 1 (pendV (x.1, x.2.1)) := rd_new (n := 1) (cs := (pendV (x.1, x.2.1)).toArray) rfl
    simp (disch := first | omega | exact okFill_t rfl | exact okSize_t rfl | exact fun h => h | (simp only [World.size_alloc, World.size_drew, World.size_setCell, size_fill, bytesW]; omega)) only [go_sem, c24, c24S0, c24S1, c24L0, c24S2, c24S3, c24S4, c24S5, c24S6, c24S8]
    refine (s4.alloc' (.cells (pendV (x.1, x.2.1)).toArray 54)).append 0 rfl ty48mkI rfl (by decide) hx2 hone (by omega) (by omega) ?_
    intro v6 w6 s6 c6
    simp (disch := first | omega | exact okFill_t rfl | exact okSize_t rfl | exact fun h => h | (simp only [World.size_alloc, World.size_drew, World.size_setCell, size_fill, bytesW]; omega)) only [go_sem, c24, c24S0, c24S1, c24L0, c24S2, c24S3, c24S4, c24S5, c24S6, c24S8]
    refine ⟨(D ++ [x], v6), rfl, ⟨fun y hy => ?_, ?_, st_recast s6 ?_⟩, by simp only [List.length_append, List.length_singleton]; omega⟩
    · rcases List.mem_append.1 hy with hy | hy
      · exact hD1 y hy
      · rw [List.mem_singleton] at hy; subst hy; exact hx
    · rw [List.map_append, List.nodup_append]
      refine ⟨hD2, List.pairwise_singleton _ _, fun a ha c hc => ?_⟩
      rw [List.map_cons, List.map_nil, List.mem_singleton] at hc
      subst hc
      exact fun e => hxn (e ▸ ha)
    · simp only [List.length_append, List.length_singleton, List.map_append, List.map_cons, List.map_nil, List.flatMap_append, List.flatMap_cons, List.flatMap_nil, List.append_nil, List.push_toArray]
      rfl
end
end Go.Proofs.Ytmchjbgobiagiaa

namespace Go.Proofs.Ytmchjbgobiagiaa
open Go Go.Proofs Go.Shelf
set_option linter.unusedVariables false
def laySortI_ren : Go.Shelf.Ren := ⟨fun | 189 => 84 | 125 => 74 | 257 => 109 | 128 => 100 | 129 => 101 | 294 => 121 | 295 => 122 | 296 => 123 | 297 => 124 | 298 => 125 | 299 => 126 | 216 => 127 | 300 => 128 | 301 => 129 | 328 => 134 | 329 => 115 | 330 => 116 | 331 => 135 | 332 => 136 | 215 => 75 | 343 => 138 | n => n, fun | 28 => 38 | 3 => 3 | 46 => 22 | 0 => 0 | 51 => 148 | 53 => 59 | 4 => 4 | 183 => 142 | 182 => 141 | 131 => 91 | 5 => 5 | 9 => 9 | 218 => 163 | 222 => 167 | 228 => 176 | 229 => 177 | n => n, fun | n => n⟩
theorem laySortI : Go.Proofs.Lays.n189 Try.prog laySortI_ren := {
    mixed := by kernel_rfl,
    f125 := Try.func74.trans (congrArg some (by kernel_rfl)),
    f128 := Try.func100.trans (congrArg some (by kernel_rfl)),
    f129 := Try.func101.trans (congrArg some (by kernel_rfl)),
    f189 := Try.func84.trans (congrArg some (by kernel_rfl)),
    f215 := Try.func75.trans (congrArg some (by kernel_rfl)),
    f216 := Try.func127.trans (congrArg some (by kernel_rfl)),
    f257 := Try.func109.trans (congrArg some (by kernel_rfl)),
    f294 := Try.func121.trans (congrArg some (by kernel_rfl)),
    f295 := Try.func122.trans (congrArg some (by kernel_rfl)),
    f296 := Try.func123.trans (congrArg some (by kernel_rfl)),
    f297 := Try.func124.trans (congrArg some (by kernel_rfl)),
    f298 := Try.func125.trans (congrArg some (by kernel_rfl)),
    f299 := Try.func126.trans (congrArg some (by kernel_rfl)),
    f300 := Try.func128.trans (congrArg some (by kernel_rfl)),
    f301 := Try.func129.trans (congrArg some (by kernel_rfl)),
    f328 := Try.func134.trans (congrArg some (by kernel_rfl)),
    f329 := Try.func115.trans (congrArg some (by kernel_rfl)),
    f330 := Try.func116.trans (congrArg some (by kernel_rfl)),
    f331 := Try.func135.trans (congrArg some (by kernel_rfl)),
    f332 := Try.func136.trans (congrArg some (by kernel_rfl)),
    f343 := Try.func138.trans (congrArg some (by kernel_rfl)),
    t0 := Try.underlying0,
    a0 := Try.isAgg0,
    z0 := Try.sizeOf0,
    v0 := Try.zeroValue0,
    t3 := Try.underlying3,
    a3 := Try.isAgg3,
    z3 := Try.sizeOf3,
    v3 := Try.zeroValue3,
    t4 := Try.underlying4,
    a4 := Try.isAgg4,
    z4 := Try.sizeOf4,
    v4 := Try.zeroValue4,
    t5 := Try.underlying5,
    a5 := Try.isAgg5,
    z5 := Try.sizeOf5,
    v5 := Try.zeroValue5,
    t9 := Try.underlying9,
    a9 := Try.isAgg9,
    z9 := Try.sizeOf9,
    v9 := Try.zeroValue9,
    t28 := Try.underlying38,
    a28 := Try.isAgg38,
    z28 := Try.sizeOf38,
    v28 := Try.zeroValue38,
    t46 := Try.underlying22,
    a46 := Try.isAgg22,
    z46 := Try.sizeOf22,
    v46 := Try.zeroValue22,
    t51 := Try.underlying148,
    a51 := Try.isAgg148,
    z51 := Try.sizeOf148,
    v51 := Try.zeroValue148,
    t53 := Try.underlying59,
    a53 := Try.isAgg59,
    z53 := Try.sizeOf59,
    v53 := Try.zeroValue59,
    t131 := Try.underlying91,
    a131 := Try.isAgg91,
    z131 := Try.sizeOf91,
    v131 := Try.zeroValue91,
    t182 := Try.underlying141,
    a182 := Try.isAgg141,
    z182 := Try.sizeOf141,
    v182 := Try.zeroValue141,
    t183 := Try.underlying142,
    a183 := Try.isAgg142,
    z183 := Try.sizeOf142,
    v183 := Try.zeroValue142,
    t218 := Try.underlying163,
    a218 := Try.isAgg163,
    z218 := Try.sizeOf163,
    v218 := Try.zeroValue163,
    t222 := Try.underlying167,
    a222 := Try.isAgg167,
    z222 := Try.sizeOf167,
    v222 := Try.zeroValue167,
    t228 := Try.underlying176,
    a228 := Try.isAgg176,
    z228 := Try.sizeOf176,
    v228 := Try.zeroValue176,
    t229 := Try.underlying177,
    a229 := Try.isAgg177,
    z229 := Try.sizeOf177,
    v229 := Try.zeroValue177 }
end Go.Proofs.Ytmchjbgobiagiaa

namespace Go.Ann
open Go Go.RowKit
set_option linter.unusedVariables false
set_option linter.unusedSimpArgs false
section
variable {P : Program} {N : Nat}
theorem RangeW_any {g : Operand} {ps : List Nat} {A B : Cmd} {ρ : Env} {w W0 : World} {Q : Post} {F : Nat → Prop} {L0 : List Res} {I : List Inv} {α β : Type} {gf : Nat} {lb : Array Value}
    (encs : α → List Value) (E : List α → α → Prop) (G : List α → Prop) (L : β → List α → List Res) (y0 : β)
    (hg : ev ρ g = some (.func (.func gf) #[] lb)) (hgo : goFunc P gf = true) (s : St W0 w F L0 I) (hL : L y0 [] = L0) (hlen : ∀ x, (encs x).length = ps.length)
    (hit : ∀ (fv : Value) (J : List Res → List α → World → Prop) (w1 : World), (∀ R pre w', J R pre w' → ∃ l D o y, St W0 w' F (.obj l o :: .obj D (.deferred (some [])) :: (L y pre ++ R)) I) → (∀ R R' pre w' w'', J R pre w' → (∀ X, St W0 w' F (X ++ R) I → St W0 w'' F (X ++ R') I) → J R' pre w'') →
      (∀ R pre x w', J R pre w' → E pre x → callW P fv (encs x) w' fun v w'' => v = .bool true ∧ J R (pre ++ [x]) w'') → J [] [] w1 → Ret P gf (fv :: lb.toList) w1 fun _ w' => ∃ xs, G xs ∧ J [] xs w')
    (hbody : ∀ R y pre x w' l D o o2, E pre x → St W0 w' F (.obj l o :: .obj D (.deferred (some [])) :: (L y pre ++ R)) I → W P A (zipE ps (encs x) (lowE ρ)) w' fun e ρ1 w1 => match e with
      | .normal => ∃ M, St W0 w1 F (.obj l o :: .obj D (.deferred (some [])) :: (M ++ R)) I ∧ ∀ w2, St W0 w2 F (.obj l o2 :: .obj D (.deferred (some [])) :: (M ++ R)) I → W P B ρ1 w2 fun e2 _ w3 => match e2 with
        | .normal => ∃ y', St W0 w3 F (.obj l o2 :: .obj D (.deferred (some [])) :: (L y' (pre ++ [x]) ++ R)) I
        | _ => False
      | _ => False)
    (hdone : ∀ xs y D w', G xs → St W0 w' F (.obj D (.deferred (some [])) :: L y xs) I → Q .normal ((D + 1000000, undef) :: ρ) w') : RangeW P g ps A B ρ w Q := by
  intro N a ca cb hca hcb hra hrb hps hs
  refine wpIn_rangeFunc fun fn _ => ?_
  obtain ⟨rec, hrec⟩ : ∃ rec : LoopState → Option Code → Loop, rec = fun st pe => { state := st, pending := pe, fn, tmps := a.tmps, params := ps.toArray, assign := ca, body := cb, defers := w.heap.size } := ⟨_, rfl⟩
  have hs1 : St W0 ((w.alloc (.deferred (some []))).alloc (.loop (rec .ready none))) F (.obj (w.heap.size + 1) (.loop (rec .ready none)) :: .obj w.heap.size (.deferred (some [])) :: L y0 []) I := by
    rw [hL]
    have := (s.lay (.deferred (some []))).lay (.loop (rec .ready none))
    rw [World.size_alloc] at this
    exact this
  generalize hw1 : (w.alloc (.deferred (some []))).alloc (.loop (rec .ready none)) = w1 at hs1
  refine ⟨w.heap.size + 1, [{ target := .collected w.heap.size, args := #[] }], w1, { target := .fn (.func gf) lb, args := #[.func (.yield (w.heap.size + 1)) #[] #[]] }, w1, gf,
    #[.func (.yield (w.heap.size + 1)) #[] #[]] ++ lb, w1, ?_, ?_, ?_, ?_, fun _ => by decide, ?_⟩
  · rw [← hw1, hrec]; exact run_enterLoop_outer _ _ _ _ _
  · simp only [resolve, hs.eval _ _ hg]
    simp [go_sem]
  · intro f' _; exact trivial
  · simp [invoke, go_sem, callFunc_run hgo]
  · generalize w.heap.size + 1 = l at hs1 ⊢
    generalize w.heap.size = D at hrec hs1 ⊢
    have key := hit (.func (.yield l) #[] #[]) (fun R pre w' => ∃ y, St W0 w' F (.obj l (.loop (rec .ready none)) :: .obj D (.deferred (some [])) :: (L y pre ++ R)) I) w1 (fun R pre w' ⟨y, h⟩ => ⟨_, _, _, y, h⟩) (fun R R' pre w' w'' ⟨y, h⟩ hX => ⟨y, hX (.obj l (.loop (rec .ready none)) :: .obj D (.deferred (some [])) :: L y pre) h⟩) ?_ ⟨y0, by rw [List.append_nil]; exact hs1⟩
    · have e : #[Value.func (.yield l) #[] #[]] ++ lb = (Value.func (.yield l) #[] #[] :: lb.toList).toArray := by simp
      rw [e]
      refine CallsIn.mono (callsIn_wide.2 key) fun e w2 ⟨v, he, xs, hG, y, h2⟩ => ?_
      subst he
      simp only [List.append_nil] at h2
      have hl := h2.obj 0 rfl
      refine ⟨none, w2.putObj l (.loop { rec .ready none with state := .exhausted }), ?_, ?_⟩
      · have := run_endLoop (P := P) hl (by rw [hrec]; simp)
        rw [hrec] at this ⊢
        exact this
      · have h3 := (h2.putObj 0 rfl (.loop { rec .ready none with state := .exhausted })).sub (L' := .obj D (.deferred (some [])) :: L y xs) (by simp)
        exact ⟨_, hs.mark D, hdone xs y D _ hG h3⟩
    · rintro R pre x w' ⟨y, h⟩ hx
      have hl := h.obj 0 rfl
      have hsz : (encs x).toArray.size = (rec .ready none).params.size := by rw [hrec]; simp [hlen]
      have hy := run_yield (P := P) hl hsz
      rw [hrec] at hy
      refine ⟨rfl, rfl, fn, _, ca, cb, hy, ?_⟩
      refine roundIn_of_wpIn trivial ?_
      have hsim : Sim N { tmps := ((ps.toArray.zip (encs x).toArray).foldl (fun t (p, v) => t.setIfInBounds p v) a.tmps), defers := [] } (zipE ps (encs x) (lowE ρ)) := by
        have := Sim.zipE (a := { tmps := a.tmps, defers := [] }) ps (encs x) (lowE ρ) a.tmps hps hs.lowE
        rw [← Array.foldl_toList, Array.toList_zip]
        exact this
      have hA := W_sound (r := some l) (n := 0) ca A hca (.inl hra) _ w' _ _ hsim (hbody R y pre x w' l D _ (.loop { rec .ready none with state := .busy }) hx h)
      refine wpIn_mono hA fun e a1 w1 hh => ?_
      obtain ⟨ρ1, hs1, hq⟩ := hh
      cases e with
      | normal =>
        obtain ⟨M, hM, hB⟩ := hq
        have hl1 := hM.obj 0 rfl
        refine ⟨_, run_beginRound hl1 (by rw [hrec]), ?_⟩
        have hB' := W_sound (r := some l) (n := 0) cb B hcb (.inl hrb) _ _ _ a1 hs1 (hB _ (hM.putObj 0 rfl _))
        refine wpIn_mono hB' fun e2 a2 w2 hh => ?_
        obtain ⟨ρ2, hs2, hq2⟩ := hh
        cases e2 with
        | normal =>
          obtain ⟨y', hq2⟩ := hq2
          have hl2 := St.obj hq2 0 rfl
          have he := run_endRound (P := P) none hl2
          refine ⟨.bool true, w2.putObj l (.loop (rec .ready none)), ?_, .bool true, rfl, rfl, ?_⟩
          · rw [hrec] at he ⊢; exact he
          · exact ⟨y', St.putObj hq2 0 rfl _⟩
        | _ => exact hq2.elim
      | _ => exact hq.elim
end
end Go.Ann

namespace Go.Proofs.Ytmchjbgobiagiaa
set_option linter.unusedSimpArgs false
set_option linter.unusedVariables false
set_option maxRecDepth 100000
open Go Go.Ann Go.RowKit Go.WideShapes Go.Shelf
theorem last_get {α : Type} (X : List α) (r : α) : (X ++ [r])[X.length]? = some r := by simp
section
variable {W0 w : World} {F : Nat → Prop} {L : List Res} {I : List Inv} {d : List (Int × List UInt8 × Nat)} {c bx mb : Nat}
end
end Go.Proofs.Ytmchjbgobiagiaa

namespace Go.Proofs.Ytmchjbgobiagiaa
set_option linter.unusedSimpArgs false
set_option linter.unusedVariables false
set_option maxRecDepth 100000
open Go Go.Ann Go.RowKit Go.WideShapes Go.Shelf
theorem wrsN_ok : ∀ (l : List (Int × List UInt8)) (m : Dk), m.ok → m.late.length + l.length < 1000000 → (wrsN m l).1.ok ∧ (wrsN m l).1.late.length ≤ m.late.length + l.length
  | [], m, ok, _ => ⟨ok, Nat.le_refl _⟩
  | x :: l, m, ok, hl => by
    rw [List.length_cons] at hl
    have h1 := writeN_ok ok (by omega) x.1 x.2
    have h2 := writeN_late m x.1 x.2
    rw [wrsN]
    split
    · exact ⟨h1, by rw [List.length_cons]; omega⟩
    · obtain ⟨h3, h4⟩ := wrsN_ok l _ h1 (by omega)
      exact ⟨h3, by rw [List.length_cons]; omega⟩
theorem batN_ok {m : Dk} {l : List (Int × List UInt8)} (ok : m.ok) (hl : m.late.length + l.length < 1000000) : (batN m l).1.ok ∧ (batN m l).1.late.length ≤ m.late.length + l.length := by
  obtain ⟨h1, h2⟩ := wrsN_ok l m ok hl
  have h3 := flushN_late (wrsN m l).1
  unfold batN
  split
  · exact ⟨h1, h2⟩
  · exact ⟨flushN_ok h1, by omega⟩
theorem finN_ok {m : Dk} {h : Hd} {l : List Pge} (ok : m.ok) (hl : m.late.length + l.length < 900000) : (finN m h l).1.ok ∧ (finN m h l).1.late.length ≤ m.late.length + l.length + 1 := by
  have hw : (homeW h l).length = l.length := by unfold homeW; rw [List.length_map]
  obtain ⟨h1, h2⟩ := batN_ok (l := homeW h l) ok (by omega)
  have h3 := putN_late (batN m (homeW h l)).1 (nextH h 0)
  unfold finN
  split
  · exact ⟨h1, by omega⟩
  · exact ⟨putN_ok h1 (by omega), by omega⟩
theorem comN_ok {m : Dk} {h : Hd} {l : List Pge} (ok : m.ok) (hl : m.late.length + l.length + blocksN l.length < 800000) : (comN m h l).1.ok ∧ (comN m h l).1.late.length ≤ m.late.length + l.length + blocksN l.length + 2 := by
  have hw : (jouW l).length = blocksN l.length := by unfold jouW; rw [List.length_map, List.length_range]
  obtain ⟨h1, h2⟩ := batN_ok (l := jouW l) ok (by omega)
  have h3 := putN_late (batN m (jouW l)).1 (nextH h (blocksN l.length))
  unfold comN
  split
  · exact ⟨h1, by omega⟩
  · split
    · exact ⟨putN_ok h1 (by omega), by omega⟩
    · obtain ⟨h4, h5⟩ := finN_ok (h := nextH h (blocksN l.length)) (l := l) (putN_ok (h := nextH h (blocksN l.length)) h1 (by omega)) (by omega)
      exact ⟨h4, by omega⟩
theorem writeN_len (m : Dk) (i : Int) (d : List UInt8) : (writeN m i d).1.safe.length = m.safe.length := by
  have hl := useN_late m
  unfold writeN
  split
  · rfl
  · split
    · rfl
    · split
      · show (useN m).1.safe.length = _; rw [hl.2]
      · rw [hl.2]
theorem flushN_len (m : Dk) : (flushN m).1.safe.length = m.safe.length := by
  have hl := useN_late m
  unfold flushN
  split
  · rfl
  · split
    · rw [hl.2]
    · exact doneL_length _ _
theorem wrsN_len : ∀ (l : List (Int × List UInt8)) (m : Dk), (wrsN m l).1.safe.length = m.safe.length
  | [], _ => rfl
  | x :: l, m => by
    rw [wrsN]
    split
    · exact writeN_len m x.1 x.2
    · rw [wrsN_len l, writeN_len]
theorem batN_len (m : Dk) (l : List (Int × List UInt8)) : (batN m l).1.safe.length = m.safe.length := by
  unfold batN
  split
  · exact wrsN_len l m
  · rw [flushN_len, wrsN_len]
theorem putN_len (m : Dk) (h : Hd) : (putN m h).1.safe.length = m.safe.length := by rw [putN_bat, batN_len]
theorem finN_len (m : Dk) (h : Hd) (l : List Pge) : (finN m h l).1.safe.length = m.safe.length := by
  unfold finN
  split
  · exact batN_len _ _
  · rw [putN_len, batN_len]
theorem comN_len (m : Dk) (h : Hd) (l : List Pge) : (comN m h l).1.safe.length = m.safe.length := by
  unfold comN
  split
  · exact batN_len _ _
  · split
    · rw [putN_len, batN_len]
    · rw [finN_len, putN_len, batN_len]
theorem getM_mem {κ ν : Type} [DecidableEq κ] {a : κ} {v : ν} {c : Nat} : ∀ {l : List (κ × ν × Nat)}, (l.map Prod.fst).Nodup → (a, v, c) ∈ l → getM a l = some v
  | [], _, h => by cases h
  | x :: l, hn, h => by
    rw [List.map_cons, List.nodup_cons] at hn
    simp only [getM]
    rcases List.mem_cons.1 h with rfl | h
    · rw [if_pos rfl]
    · rw [if_neg (fun e => hn.1 (by rw [← e]; exact List.mem_map_of_mem (f := Prod.fst) h))]
      exact getM_mem hn.2 h
theorem getM_no {κ ν : Type} [DecidableEq κ] {a : κ} : ∀ {l : List (κ × ν × Nat)}, (∀ x ∈ l, x.1 ≠ a) → getM a l = none
  | [], _ => rfl
  | x :: l, h => by
    simp only [getM]
    rw [if_neg (fun e => h x (List.mem_cons_self ..) e.symm)]
    exact getM_no fun y hy => h y (List.mem_cons_of_mem _ hy)
structure Good (s : Sto) (P : List (List UInt8)) : Prop where
  ok : s.ok
  dead : s.dead = false
  gone : s.disk.gone = false
  late : s.disk.late = []
  top : Top s.disk.safe s.hd
  used : s.hd.used = 0
  base : Base s.disk.safe s.hd
  home : Home s.disk.safe s.hd P
section
variable {s s' : Sto} {P : List (List UInt8)} {e : Int}
theorem Good.now (g : Good s P) {i : Nat} (hi : i < s.hd.pages) : nowP s i = (getM (i : Int) s.dirty).getD (P.getD i []) := by
  rw [(nowP_eq g.ok g.dead g.gone (by omega) (by omega)).2, g.late]
  congr 1
  have e : (homeN s i).toNat = 2 + s.hd.room + i := by unfold homeN; omega
  rw [e]
  exact g.home.2 i hi
theorem Good.len (g : Good s P) : P.length = s.hd.pages := g.home.1
theorem Good.pgs0 (g : Good s P) (hd : s.dirty = []) : pgs s = P := by
  refine pgs_eq g.len fun i hi => ?_
  rw [g.now (by rw [← g.len]; exact hi), hd]; rfl
theorem Good.drop (g : Good s P) : Good { s with dirty := [] } P :=
  ⟨⟨g.ok.hd, g.ok.disk, g.ok.room, g.ok.pages, g.ok.few, g.ok.fit, fun _ h => (by cases h), List.Pairwise.nil, List.Pairwise.nil, fun _ h => (by cases h)⟩, g.dead, g.gone, g.late, g.top, g.used, g.base, g.home⟩
theorem Good.write (g : Good s P) (i : Int) (d : List UInt8) : Good (stWrite s i d).1 P ∧ (stWrite s i d).1.hd = s.hd ∧ (stWrite s i d).1.disk = s.disk ∧ pgs (stWrite s i d).1 = if 0 ≤ i ∧ i < s.hd.pages ∧ d.length ≤ 256 then (pgs s).set i.toNat (filledL d) else pgs s := by
  by_cases hin : 0 ≤ i ∧ i < s.hd.pages
  · by_cases hd : d.length ≤ 256
    · obtain ⟨w1, w2, w3, w4, w5, w6⟩ := stWrite_in g.ok g.dead g.gone hin.1 hin.2 hd
      refine ⟨⟨w2, w3, by rw [w4]; exact g.gone, by rw [w4]; exact g.late, by rw [w4, w5]; exact g.top, by rw [w5]; exact g.used, by rw [w4, w5]; exact g.base, by rw [w4, w5]; exact g.home⟩, w5, w4, ?_⟩
      rw [if_pos ⟨hin.1, hin.2, hd⟩]
      refine pgs_eq (by rw [List.length_set, pgs_len, w5]) fun j hj => ?_
      rw [List.length_set, pgs_len] at hj
      rw [w6 j (by omega) (by omega)]
      by_cases he : (j : Int) = i
      · rw [if_pos he]
        subst he
        rw [Int.toNat_natCast, getD_set_eq (by rw [pgs_len]; exact hj)]
      · rw [if_neg he, getD_set_ne (by omega), List.getD_eq_getElem?_getD, List.getElem?_eq_getElem (by rw [pgs_len]; exact hj), Option.getD_some, pgs_get]
    · have e : stWrite s i d = (s, 21) := by
        unfold stWrite
        rw [if_neg (by rw [stReady_ok g.dead hin.1 hin.2]; decide), if_pos (by omega)]
      rw [e]
      exact ⟨g, rfl, rfl, by rw [if_neg (fun h => hd h.2.2)]⟩
  · have e : (stWrite s i d).1 = s := by
      unfold stWrite
      have : stReady s i = 10 := by
        unfold stReady
        rw [if_neg (by rw [g.dead]; decide), if_neg hin]
      rw [if_pos (by rw [this]; decide)]
    rw [e]
    exact ⟨g, rfl, rfl, by rw [if_neg (fun h => hin ⟨h.1, h.2.1⟩)]⟩
theorem dirty_len (ok : s.ok) : s.dirty.length ≤ s.hd.pages := by
  have := nodup_few s.hd.pages (s.dirty.map Prod.fst) ok.nd fun x hx => by
    obtain ⟨y, hy, rfl⟩ := List.mem_map.1 hx
    exact ⟨(ok.keys y hy).1, (ok.keys y hy).2.1⟩
  rwa [List.length_map] at this
theorem Good.sorted (g : Good s P) {l : List Pge} (hS : Sorts pageI (dirtyL s) l) : l.length = s.dirty.length ∧ (∀ p ∈ l, 0 ≤ p.1 ∧ p.1 < s.hd.pages ∧ p.2.length = 256) ∧ (l.map Prod.fst).Nodup ∧ (∀ p ∈ l, (pgs s).getD p.1.toNat [] = p.2) ∧ ∀ i, i < s.hd.pages → (∀ p ∈ l, p.1.toNat ≠ i) → P.getD i [] = (pgs s).getD i [] := by
  have hmem : ∀ p ∈ l, ∃ x ∈ s.dirty, p = (x.1, x.2.1) := fun p hp => by
    obtain ⟨x, hx, rfl⟩ := List.mem_map.1 (hS.1.subset hp)
    exact ⟨x, hx, rfl⟩
  have hget : ∀ i, i < s.hd.pages → (pgs s).getD i [] = nowP s i := fun i hi => by
    rw [List.getD_eq_getElem?_getD, List.getElem?_eq_getElem (by rw [pgs_len]; exact hi), Option.getD_some, pgs_get]
  refine ⟨by rw [hS.1.length_eq]; unfold dirtyL; rw [List.length_map], fun p hp => ?_, ?_, fun p hp => ?_, fun i hi hn => ?_⟩
  · obtain ⟨x, hx, rfl⟩ := hmem p hp
    exact g.ok.keys x hx
  · have := (hS.1.map Prod.fst).nodup_iff.2 (by
      unfold dirtyL
      rw [List.map_map]
      exact g.ok.nd)
    exact this
  · obtain ⟨x, hx, rfl⟩ := hmem p hp
    obtain ⟨k0, k1, _⟩ := g.ok.keys x hx
    rw [hget _ (by simp only; omega), g.now (by simp only; omega)]
    simp only
    rw [show ((x.1.toNat : Nat) : Int) = x.1 by omega, getM_mem (v := x.2.1) (c := x.2.2) g.ok.nd hx]; rfl
  · rw [hget i hi, g.now hi, getM_no fun x hx e => ?_]
    · rfl
    · have : ((x.1, x.2.1) : Pge) ∈ l := hS.1.symm.subset (List.mem_map_of_mem (f := fun x : Int × List UInt8 × Nat => ((x.1, x.2.1) : Pge)) hx)
      exact hn _ this (by simp only; omega)
theorem Good.commit (g : Good s P) (hl : s.disk.left = -1) (hseq : s.hd.seq + 2 < 1000000) (c : ComOut s e s') :
    (e = 0 ∧ (s.dirty = [] ∨ blocksN s.dirty.length ≤ s.hd.room) ∧ Good s' (pgs s) ∧ s'.dirty = [] ∧ s'.disk.left = -1 ∧ s'.hd.pages = s.hd.pages ∧ s'.hd.room = s.hd.room ∧ s'.hd.seq ≤ s.hd.seq + 2 ∧ s'.disk.safe.length = s.disk.safe.length) ∨
    (e = 12 ∧ s.dirty ≠ [] ∧ s.hd.room < blocksN s.dirty.length ∧ s' = { s with dirty := [] }) := by
  have hr : stReady s 0 = 0 := stReady_ok g.dead (by decide) (by have := g.ok.pages; omega)
  rcases c.out with ⟨h, _⟩ | ⟨_, hd, rfl, rfl⟩ | ⟨_, hd, l, hS, h⟩
  · exact absurd hr h
  · rw [g.pgs0 hd]
    exact .inl ⟨rfl, .inl hd, g, hd, hl, rfl, rfl, Nat.le_add_right _ _, rfl⟩
  · obtain ⟨a1, a2, a3, a4, a5⟩ := g.sorted hS
    rcases h with ⟨hroom, rfl, rfl⟩ | ⟨hroom, rfl, hd', hhd, rfl⟩
    · exact .inr ⟨rfl, hd, by rw [← a1]; exact hroom, rfl⟩
    · have hl1 : l.length ≤ 1024 := by
        have h1 := dirty_len g.ok
        have h2 := g.ok.few
        omega
      have hbl : blocksN l.length ≤ 1041 := by unfold blocksN hdsN; omega
      rcases com_cases (N := pgs s) ⟨rfl, g.late, g.gone⟩ g.top g.used g.home g.base hseq hl1 a2 a3 hroom (pgs_len s) a4 a5 with ⟨c1, ⟨S, u, t, b, hm⟩, c3⟩ | ⟨c1, c2⟩
      · obtain rfl := hhd c1
        have hcok := (comN_ok (h := s.hd) (l := l) g.ok.disk (by rw [g.late]; simp only [List.length_nil]; omega)).1
        have hsl : (comN s.disk s.hd l).1.safe.length = S.length := by rw [u.safe]
        left
        rw [c1]
        have hfit := t.geo.fit
        refine ⟨rfl, .inr (by rw [← a1]; exact hroom), ⟨⟨t.ok, hcok, g.ok.room, g.ok.pages, g.ok.few, ?_, fun _ h => (by cases h), List.Pairwise.nil, List.Pairwise.nil, fun _ h => (by cases h)⟩, rfl, u.gone, u.late, by simp only; rw [u.safe]; exact t, rfl, by simp only; rw [u.safe]; exact b, by simp only; rw [u.safe]; exact hm⟩, rfl, c3 hl, rfl, rfl, Nat.le_refl _, ?_⟩
        · rw [hsl]; exact hfit
        · exact comN_len _ _ _
      · exact absurd hl c2.lim
end
end Go.Proofs.Ytmchjbgobiagiaa

namespace Go.Proofs.Ytmchjbgobiagiaa
set_option linter.unusedSimpArgs false
set_option linter.unusedVariables false
set_option maxRecDepth 100000
open Go Go.Ann Go.RowKit Go.WideShapes Go.Shelf
def sto4 (n room : Nat) : Sto := ⟨headN n room, [], 0, false, fmtDk n (headN n room)⟩
theorem sto4_good {n room : Nat} (h1 : 1 ≤ room) (h2 : room + 3 ≤ n) (h3 : n ≤ 1000) : Good (sto4 n room) (List.replicate (n - 2 - room) zeroB) := by
  have hp : (headN n room).pages = n - 2 - room := by unfold headN; simp only; omega
  have hsl : (fmtDk n (headN n room)).safe.length = n := by simp [fmtDk]
  have hok := fmtDk_ok (n := n) (h := headN n room) (by omega) (by omega)
  have hh : (headN n room).ok := ⟨by show 2 < _; omega, by show 0 < _; omega, by show room < _; omega, by show min (n - 2 - room) 1024 < _; omega⟩
  have g : Geo n (headN n room) := ⟨h1, by rw [hp]; omega, by rw [hp]; omega, Nat.zero_le _, by rw [hp]; show 2 + room + (n - 2 - room) ≤ n; omega⟩
  have s0 : (fmtDk n (headN n room)).safe.getD 0 [] = filledL (headL (headN n room)) := by
    unfold fmtDk
    exact getD_set_eq (by simp; omega)
  have s1 : (fmtDk n (headN n room)).safe.getD 1 [] = filledL [] := by
    unfold fmtDk
    simp only
    rw [getD_set_ne (by decide), getD_set_eq (by simp; omega)]
  refine ⟨⟨hh, hok, h1, by show 1 ≤ (headN n room).pages; rw [hp]; omega, by show (headN n room).pages ≤ 1024; rw [hp]; omega, by rw [show (sto4 n room).disk.safe.length = n from hsl]; exact g.fit, fun _ h => (by cases h), List.Pairwise.nil, List.Pairwise.nil, fun _ h => (by cases h)⟩, rfl, rfl, rfl, ⟨hok.safe, by show (fmtDk n (headN n room)).safe.length ≤ 2048; rw [hsl]; omega, by show Geo (fmtDk n (headN n room)).safe.length _; rw [hsl]; exact g, by show (2 : Nat) < 1000000; decide, by show 0 < (2 : Nat); decide, ?_, ?_⟩, rfl, .inl ?_, ?_, ?_⟩
  · have e0 : (sto4 n room).hd.seq = 2 := rfl
    rw [e0]
    show readHd ((fmtDk n (headN n room)).safe.getD 0 []) = _
    rw [s0]
    exact readHd_headL hh _
  · intro h' hr
    have e0 : (sto4 n room).hd.seq = 2 := rfl
    rw [e0] at hr
    have hr : readHd ((fmtDk n (headN n room)).safe.getD 1 []) = some h' := hr
    rw [s1, readHd_zero] at hr
    cases hr
  · have e0 : (sto4 n room).hd.seq = 2 := rfl
    rw [e0]
    show (fmtDk n (headN n room)).safe.getD 1 [] = zeroB
    rw [s1]; rfl
  · rw [List.length_replicate]; exact hp.symm
  · intro i hi
    have hi : i < n - 2 - room := by rw [← hp]; exact hi
    show (fmtDk n (headN n room)).safe.getD (2 + room + i) [] = _
    unfold fmtDk
    simp only
    rw [getD_set_ne (by omega), getD_set_ne (by omega), List.getD_eq_getElem?_getD, List.getD_eq_getElem?_getD, List.getElem?_replicate, List.getElem?_replicate, if_pos (by omega), if_pos hi]
section
variable {s : Sto} {P : List (List UInt8)}
theorem Good.read {i : Nat} (g : Good s P) (hi : i < s.hd.pages) : stRead s i = (s, (pgs s).getD i [], 0) := by
  rw [(nowP_eq g.ok g.dead g.gone (by omega) (by omega)).1]
  rw [List.getD_eq_getElem?_getD, List.getElem?_eq_getElem (by rw [pgs_len]; exact hi), Option.getD_some, pgs_get]
theorem Good.wr (g : Good s P) {i : Int} {d : List UInt8} (h0 : 0 ≤ i) (h1 : i < s.hd.pages) (hd : d.length ≤ 256) :
    (stWrite s i d).2 = 0 ∧ Good (stWrite s i d).1 P ∧ (stWrite s i d).1.hd = s.hd ∧ (stWrite s i d).1.disk = s.disk ∧ pgs (stWrite s i d).1 = (pgs s).set i.toNat (filledL d) ∧ (stWrite s i d).1.dirty = setM i (filledL d) s.clock s.dirty := by
  obtain ⟨a1, a2, a3, a4⟩ := g.write i d
  refine ⟨(stWrite_in g.ok g.dead g.gone h0 h1 hd).1, a1, a2, a3, by rw [a4, if_pos ⟨h0, h1, hd⟩], ?_⟩
  unfold stWrite
  rw [if_neg (by rw [stReady_ok g.dead h0 h1]; decide), if_neg (by omega)]
end
end Go.Proofs.Ytmchjbgobiagiaa

namespace Go.Proofs.Ytmchjbgobiagiaa
set_option linter.unusedSimpArgs false
set_option linter.unusedVariables false
set_option maxRecDepth 100000
open Go Go.Ann Go.RowKit Go.WideShapes Go.Shelf
section
variable {W0 w : World} {F : Nat → Prop} {L : List Res} {I : List Inv} {b mb g : Nat} {vb vl v : Value} {s : Sto} {l : List Pge} {P : List (List UInt8)}
theorem begun4_ok {n room : Nat} (h : St W0 w F L I) (h1 : 1 ≤ room) (h2 : room + 3 ≤ n) (h3 : n ≤ 1000) :
    Ret Try.prog 22 [.int .i64 n, .int .i64 room] w fun u w' => ∃ b mb g vb vl, u = .tuple #[.pointer (some ⟨g, 0, none⟩), .pointer (some ⟨b, 0, none⟩)] ∧ St W0 w' F (StoL b mb g vb vl (sto4 n room) ++ L) I := by
  refine ent22 _ _ _ _ ?_
  simp (disch := first | omega | exact okFill_t rfl | exact okSize_t rfl | exact fun h => h | (simp only [World.size_alloc, World.size_drew, World.size_setCell, size_fill, bytesW]; omega)) only [go_sem, c22, c22S0, c22S1, c22S2, c22S3, c22S4]
  refine Ret.mono (new_ok h (n := n) (by omega) (by omega)) ?_
  rintro _ w2 ⟨g, vb, vl, rfl, s2⟩
  simp (disch := first | omega | exact okFill_t rfl | exact okSize_t rfl | exact fun h => h | (simp only [World.size_alloc, World.size_drew, World.size_setCell, size_fill, bytesW]; omega)) only [go_sem, c22, c22S0, c22S1, c22S2, c22S3, c22S4]
  refine Ret.mono (format_ok (room := room) s2 h1 h2 (by omega)) ?_
  rintro _ w3 ⟨rfl, vl', s3⟩
  simp (disch := first | omega | exact okFill_t rfl | exact okSize_t rfl | exact fun h => h | (simp only [World.size_alloc, World.size_drew, World.size_setCell, size_fill, bytesW]; omega)) only [go_sem, c22, c22S0, c22S1, c22S2, c22S3, c22S4]
  refine Ret.mono (open0_ok (headN n room) s3 (fmtDk_ok (by omega) (by omega)) rfl (by simp [fmtDk]; omega) (newest_fmt h1 h2 (by omega)) rfl) ?_
  rintro _ w4 ⟨b, mb, rfl, s4⟩
  simp (disch := first | omega | exact okFill_t rfl | exact okSize_t rfl | exact fun h => h | (simp only [World.size_alloc, World.size_drew, World.size_setCell, size_fill, bytesW]; omega)) only [go_sem, c22, c22S0, c22S1, c22S2, c22S3, c22S4]
  exact ⟨b, mb, g, vb, vl', rfl, s4⟩
theorem awake4_ok (w : World) : Ret Try.prog 28 [] w fun u w' => u = .bool true ∧ Below w.heap.size w w' := by
  refine ent28 _ _ ?_
  simp (disch := first | omega | exact okFill_t rfl | exact okSize_t rfl | exact fun h => h | (simp only [World.size_alloc, World.size_drew, World.size_setCell, size_fill, bytesW]; omega)) only [go_sem, c28, c28S0, c28S1, c28S2, c28S3, c28S4, c28S5, c28S6, c28S7]
  refine Ret.mono (begun4_ok (n := 10) (room := 3) (St.start (W0 := w)) (by decide) (by decide) (by decide)) ?_
  rintro _ w2 ⟨b, mb, g, vb, vl, rfl, s2⟩
  have g2 := sto4_good (n := 10) (room := 3) (by decide) (by decide) (by decide)
  have d2 : (sto4 10 3).dirty = [] := rfl
  have p2 : pgs (sto4 10 3) = List.replicate 5 zeroB := g2.pgs0 rfl
  have h2 : (sto4 10 3).hd.pages = 5 ∧ (sto4 10 3).hd.room = 3 ∧ (sto4 10 3).hd.seq = 2 ∧ (sto4 10 3).disk.left = -1 ∧ (sto4 10 3).disk.late = [] := ⟨rfl, rfl, rfl, rfl, rfl⟩
  generalize sto4 10 3 = t2 at s2 g2 d2 p2 h2
  simp (disch := first | omega | exact okFill_t rfl | exact okSize_t rfl | exact fun h => h | (simp only [World.size_alloc, World.size_drew, World.size_setCell, size_fill, bytesW]; omega)) only [go_sem, c28, c28S0, c28S1, c28S2, c28S3, c28S4, c28S5, c28S6, c28S7]
  refine Ret.mono (slen_ok s2) ?_
  rintro _ w3 ⟨rfl, e3⟩
  subst w3
  rw [h2.1]
  simp (disch := first | omega | exact okFill_t rfl | exact okSize_t rfl | exact fun h => h | (simp only [World.size_alloc, World.size_drew, World.size_setCell, size_fill, bytesW]; omega)) only [go_sem, c28, c28S0, c28S1, c28S2, c28S3, c28S4, c28S5, c28S6, c28S7]
  obtain ⟨x1, g3, e3, f3, p3, d3⟩ := g2.wr (i := 0) (d := [97]) (by decide) (by rw [h2.1]; decide) (by decide)
  refine Ret.mono (swrite_ok 0 [97] s2) ?_
  rintro _ w3 ⟨rfl, s3⟩
  rw [x1]
  generalize (stWrite t2 0 [97]).1 = t3 at s3 g3 e3 f3 p3 d3
  simp (disch := first | omega | exact okFill_t rfl | exact okSize_t rfl | exact fun h => h | (simp only [World.size_alloc, World.size_drew, World.size_setCell, size_fill, bytesW]; omega)) only [go_sem, c28, c28S0, c28S1, c28S2, c28S3, c28S4, c28S5, c28S6, c28S7]
  obtain ⟨x1, g4, e4, f4, p4, d4⟩ := g3.wr (i := 4) (d := [98]) (by decide) (by rw [e3, h2.1]; decide) (by decide)
  refine Ret.mono (swrite_ok 4 [98] s3) ?_
  rintro _ w4 ⟨rfl, s4⟩
  rw [x1]
  generalize (stWrite t3 4 [98]).1 = t4 at s4 g4 e4 f4 p4 d4
  have l4 : t4.dirty.length = 2 := by rw [d4, d3, d2]; rfl
  have h4 : t4.hd.pages = 5 ∧ t4.hd.room = 3 ∧ t4.hd.seq = 2 ∧ t4.disk.left = -1 ∧ t4.disk.late = [] := by rw [e4, f4, e3, f3]; exact h2
  simp (disch := first | omega | exact okFill_t rfl | exact okSize_t rfl | exact fun h => h | (simp only [World.size_alloc, World.size_drew, World.size_setCell, size_fill, bytesW]; omega)) only [go_sem, c28, c28S0, c28S1, c28S2, c28S3, c28S4, c28S5, c28S6, c28S7]
  refine Ret.mono (scommit_ok s4 g4.ok (by rw [h4.2.2.1]; decide) (by rw [h4.2.2.2.2]; decide)) ?_
  rintro _ w5 ⟨e, t5, vl5, rfl, hc, s5⟩
  rcases g4.commit h4.2.2.2.1 (by rw [h4.2.2.1]; decide) hc with ⟨rfl, _, g5, d5, left5, q1, q2, q3, _⟩ | ⟨_, _, hbad, _⟩
  case inr => rw [l4, h4.2.1] at hbad; exact absurd hbad (by decide)
  rw [h4.1] at q1
  rw [h4.2.1] at q2
  rw [h4.2.2.1] at q3
  have p5 : pgs t5 = pgs t4 := g5.pgs0 d5
  simp (disch := first | omega | exact okFill_t rfl | exact okSize_t rfl | exact fun h => h | (simp only [World.size_alloc, World.size_drew, World.size_setCell, size_fill, bytesW]; omega)) only [go_sem, c28, c28S0, c28S1, c28S2, c28S3, c28S4, c28S5, c28S6, c28S7]
  refine Ret.mono (sread_ok 4 s5 g5.ok) ?_
  rintro _ w6 ⟨rfl, s6⟩
  have er := g5.read (i := 4) (by omega)
  have er4 : stRead t5 4 = (t5, filledL [98], 0) := by
    refine er.trans ?_
    rw [p5, p4, p3, p2]; rfl
  rw [er4] at s6 ⊢
  simp (disch := first | omega | exact okFill_t rfl | exact okSize_t rfl | exact fun h => h | (simp only [World.size_alloc, World.size_drew, World.size_setCell, size_fill, bytesW]; omega)) only [go_sem, c28, c28S0, c28S1, c28S2, c28S3, c28S4, c28S5, c28S6, c28S7]
  refine Ret.mono (filled_ok [98] w6 (by decide)) ?_
  rintro _ w7 ⟨rfl, b7⟩
  have s7 := s6.call b7
  simp (disch := first | omega | exact okFill_t rfl | exact okSize_t rfl | exact fun h => h | (simp only [World.size_alloc, World.size_drew, World.size_setCell, size_fill, bytesW]; omega)) only [go_sem, c28, c28S0, c28S1, c28S2, c28S3, c28S4, c28S5, c28S6, c28S7]
  obtain ⟨x1, g8, e8, f8, p8, d8⟩ := g5.wr (i := 0) (d := [120]) (by decide) (by omega) (by decide)
  refine Ret.mono (swrite_ok 0 [120] s7) ?_
  rintro _ w8 ⟨rfl, s8⟩
  rw [x1]
  generalize (stWrite t5 0 [120]).1 = t8 at s8 g8 e8 f8 p8 d8
  simp (disch := first | omega | exact okFill_t rfl | exact okSize_t rfl | exact fun h => h | (simp only [World.size_alloc, World.size_drew, World.size_setCell, size_fill, bytesW]; omega)) only [go_sem, c28, c28S0, c28S1, c28S2, c28S3, c28S4, c28S5, c28S6, c28S7]
  obtain ⟨x1, g9, e9, f9, p9, d9⟩ := g8.wr (i := 1) (d := [121]) (by decide) (by rw [e8]; omega) (by decide)
  refine Ret.mono (swrite_ok 1 [121] s8) ?_
  rintro _ w9 ⟨rfl, s9⟩
  rw [x1]
  generalize (stWrite t8 1 [121]).1 = t9 at s9 g9 e9 f9 p9 d9
  simp (disch := first | omega | exact okFill_t rfl | exact okSize_t rfl | exact fun h => h | (simp only [World.size_alloc, World.size_drew, World.size_setCell, size_fill, bytesW]; omega)) only [go_sem, c28, c28S0, c28S1, c28S2, c28S3, c28S4, c28S5, c28S6, c28S7]
  obtain ⟨x1, g10, e10, f10, p10, d10⟩ := g9.wr (i := 2) (d := [122]) (by decide) (by rw [e9, e8]; omega) (by decide)
  refine Ret.mono (swrite_ok 2 [122] s9) ?_
  rintro _ w10 ⟨rfl, s10⟩
  rw [x1]
  generalize (stWrite t9 2 [122]).1 = t10 at s10 g10 e10 f10 p10 d10
  have l10 : t10.dirty.length = 3 := by rw [d10, d9, d8, d5]; rfl
  have lt10 : t10.disk.late = [] := g10.late
  have lf10 : t10.disk.left = -1 := by rw [f10, f9, f8]; exact left5
  have sq10 : t10.hd.seq ≤ 4 := by rw [e10, e9, e8]; omega
  have rm10 : t10.hd.room = 3 := by rw [e10, e9, e8]; omega
  simp (disch := first | omega | exact okFill_t rfl | exact okSize_t rfl | exact fun h => h | (simp only [World.size_alloc, World.size_drew, World.size_setCell, size_fill, bytesW]; omega)) only [go_sem, c28, c28S0, c28S1, c28S2, c28S3, c28S4, c28S5, c28S6, c28S7]
  refine Ret.mono (scommit_ok s10 g10.ok (by omega) (by rw [lt10]; decide)) ?_
  rintro _ w11 ⟨e, t11, vl11, rfl, hc, s11⟩
  rcases g10.commit lf10 (by omega) hc with ⟨_, hbad | hbad, _⟩ | ⟨rfl, _, _, rfl⟩
  · rw [hbad] at l10; simp at l10
  · rw [l10, rm10] at hbad; exact absurd hbad (by decide)
  simp (disch := first | omega | exact okFill_t rfl | exact okSize_t rfl | exact fun h => h | (simp only [World.size_alloc, World.size_drew, World.size_setCell, size_fill, bytesW]; omega)) only [go_sem, c28, c28S0, c28S1, c28S2, c28S3, c28S4, c28S5, c28S6, c28S7]
  have g11 := g10.drop
  have h11 : ({ t10 with dirty := [] } : Sto).hd.pages = 5 := by show t10.hd.pages = 5; rw [e10, e9, e8]; exact q1
  have p11 := g11.pgs0 rfl
  refine Ret.mono (sread_ok 0 s11 g11.ok) ?_
  rintro _ w12 ⟨rfl, s12⟩
  have er0 : stRead { t10 with dirty := [] } 0 = ({ t10 with dirty := [] }, filledL [97], 0) := by
    refine (g11.read (i := 0) (by omega)).trans ?_
    rw [p11, p4, p3, p2]; rfl
  rw [er0] at s12 ⊢
  simp (disch := first | omega | exact okFill_t rfl | exact okSize_t rfl | exact fun h => h | (simp only [World.size_alloc, World.size_drew, World.size_setCell, size_fill, bytesW]; omega)) only [go_sem, c28, c28S0, c28S1, c28S2, c28S3, c28S4, c28S5, c28S6, c28S7]
  refine Ret.mono (filled_ok [97] w12 (by decide)) ?_
  rintro _ w13 ⟨rfl, b13⟩
  simp (disch := first | omega | exact okFill_t rfl | exact okSize_t rfl | exact fun h => h | (simp only [World.size_alloc, World.size_drew, World.size_setCell, size_fill, bytesW]; omega)) only [go_sem, c28, c28S0, c28S1, c28S2, c28S3, c28S4, c28S5, c28S6, c28S7]
  exact (s12.call b13).bel
end
end Go.Proofs.Ytmchjbgobiagiaa

namespace Go.Proofs.Ytmchjbgobiagiaa
set_option linter.unusedSimpArgs false
set_option linter.unusedVariables false
set_option maxRecDepth 100000
open Go Go.Ann Go.RowKit Go.WideShapes Go.Shelf
theorem intE_map (l : List Int) : l.flatMap intE = l.map encZ := by
  induction l with
  | nil => rfl
  | cons a l ih => rw [List.flatMap_cons, ih]; rfl
section
variable {W0 w : World} {F : Nat → Prop} {L : List Res} {I : List Inv} {b mb g : Nat} {vb vl : Value} {s : Sto}
theorem sortI_ok {v : Value} {ks : List Int} (h : St W0 w F (.row v 3 1 ks.length (ks.flatMap intE) :: L) I) (hl : ks.length ≤ 100000) :
    Ret Try.prog 84 [v] w fun u w' => u = .tuple #[] ∧ ∃ ts : List Int, ts.length = ks.length ∧ St W0 w' F (.row v 3 1 ks.length (ts.flatMap intE) :: L) I := by
  have hr := h.row 0 rfl
  obtain ⟨hlen, ⟨rfl, h0⟩ | ⟨g', cap, cur, rfl, hB, hb, hc, hm, hs, hx⟩⟩ := id hr
  · have hn : ks.length = 0 := h0
    refine (Any.slices_Sort_int_none laySortI none 0 w).mono ?_
    rintro e w' ⟨rfl, rfl⟩
    exact ⟨_, rfl, rfl, ks, rfl, h⟩
  · have hx' : cur.toList.take ks.length = ks.map encZ := by rw [← intE_map, ← hx, Nat.mul_one]
    have hb' : w.heap[g']? = some (.cells cur 3 (0, 0)) := hb
    refine (Any.slices_Sort_int laySortI g' 0 cap ks w (holds_of_block_i hb' hx') (Array.getElem?_eq_some_iff.1 hb).1 (by omega)).mono ?_
    rintro e w' ⟨rfl, n, os, rfl⟩
    have hml : (ks.mergeSort fun x y => decide (x ≤ y)).length = ks.length := List.length_mergeSort _
    refine ⟨_, rfl, rfl, ks.mergeSort fun x y => decide (x ≤ y), hml, ?_⟩
    have ho := ownsRow_sorted_i (n := n) (os := os) hml hB hb' hc hm hs
    rw [← intE_map] at ho
    exact h.grow 0 rfl (grownBy_sorted_i _) ho fun k hk => .inl hk
end
end Go.Proofs.Ytmchjbgobiagiaa

namespace Go.Proofs.Ytmchjbgobiagiaa
set_option linter.unusedSimpArgs false
set_option linter.unusedVariables false
set_option maxRecDepth 100000
open Go Go.Ann Go.RowKit Go.WideShapes Go.Shelf
section
variable {P : Program} {w : World} {K : Value → World → Prop}
theorem rgG_nil {m t e : TypeId} (hm : P.underlying m = some (.map t e)) (hK : K (.pointer (some ⟨w.heap.size, 0, none⟩)) (w.alloc (.mapIter none 0 #[] 0))) : rgW P m (.map none) w K := by
  refine ⟨_, _, ?_, hK⟩
  unfold Instr.range
  simp only [Sem.run_bind, run_underlying hm, Result.andThen_ok, Sem.run_pure, run_newObj_alloc]
theorem nxG_nil {ty q a c : Nat} {seen : Array Nat} (hq : w.heap[q]? = some (.mapIter none a seen c)) (hK : K (.tuple #[.bool false]) w) : nxW P (.pointer (some ⟨q, 0, none⟩)) false ty w K := by
  refine ⟨_, _, ?_, hK⟩
  simp [Instr.next, getObj, Sem.run, hq]
end
section
variable {W0 w : World} {F : Nat → Prop} {L : List Res} {I : List Inv} {bx : Nat}
theorem keysN_ok (fv : Value) (J : List Res → List Int → World → Prop) (w : World) (hJ : ∀ R pre w', J R pre w' → w'.cell? ⟨bx, 0, none⟩ = some (.map none) ∧ ∃ X, St W0 w' F (X ++ R) I)
    (hJ2 : ∀ R R' pre w' w'', J R pre w' → (∀ X, St W0 w' F (X ++ R) I → St W0 w'' F (X ++ R') I) → J R' pre w'') (h0 : J [] [] w) :
    Ret Try.prog 85 [fv, .pointer (some ⟨bx, 0, none⟩)] w fun _ w' => J [] [] w' := by
  refine ent85 _ _ _ _ ?_
  obtain ⟨k1, _⟩ := hJ _ _ _ h0
  simp (disch := first | omega | exact okFill_t rfl | exact okSize_t rfl | exact fun h => h | (simp only [World.size_alloc, World.size_drew, World.size_setCell, size_fill, bytesW]; omega)) only [go_sem, c85, c85S0, c85S1, k1]
  refine rgG_nil Try.underlying74 ?_
  have j1 : J [.obj w.heap.size (.mapIter none 0 #[] 0)] [] (w.alloc (.mapIter none 0 #[] 0)) := hJ2 _ _ _ _ _ h0 fun X hX => by
    have := hX.lay (.mapIter none 0 #[] 0)
    rw [List.append_nil] at this
    exact this.perm (List.perm_append_singleton _ _)
  generalize w.heap.size = q at j1 ⊢
  generalize w.alloc (.mapIter none 0 #[] 0) = w1 at j1 ⊢
  simp (disch := first | omega | exact okFill_t rfl | exact okSize_t rfl | exact fun h => h | (simp only [World.size_alloc, World.size_drew, World.size_setCell, size_fill, bytesW]; omega)) only [go_sem, c85, c85S0, c85S1]
  refine W_loopU (fun D : Nat => []) (fun D w' => J [.obj q (.mapIter none 0 #[] 0)] [] w') (fun D => D) 0 rfl j1 ?_
  rintro D w2 j2
  obtain ⟨_, X, sX⟩ := hJ _ _ _ j2
  simp (disch := first | omega | exact okFill_t rfl | exact okSize_t rfl | exact fun h => h | (simp only [World.size_alloc, World.size_drew, World.size_setCell, size_fill, bytesW]; omega)) only [go_sem, c85, c85S0, c85S1, c85L0, c85L0]
  refine nxG_nil (sX.obj X.length (last_get X _)) ?_
  simp (disch := first | omega | exact okFill_t rfl | exact okSize_t rfl | exact fun h => h | (simp only [World.size_alloc, World.size_drew, World.size_setCell, size_fill, bytesW]; omega)) only [go_sem, c85, c85S0, c85S1, c85L0]
  refine hJ2 _ _ _ _ _ j2 fun Y hY => ?_
  rw [List.append_nil]
  exact hY.sub (List.sublist_append_left _ _)
theorem keys_none (w : World) : Ret Try.prog 63 [.map none] w fun v w' => v = .func (.func 85) #[] #[.pointer (some ⟨w.heap.size, 0, none⟩)] ∧ w' = w.alloc (.cells #[.map none] 74) := by
  refine ent63 _ _ _ ?_
  simp (disch := first | omega | exact okFill_t rfl | exact okSize_t rfl | exact fun h => h | (simp only [World.size_alloc, World.size_drew, World.size_setCell, size_fill, bytesW]; omega)) only [go_sem, c63]
theorem appendN_ok (h : St W0 w F (.blk bx #[.map none] 74 :: L) I) :
    Ret Try.prog 108 [.slice none 0 0, .func (.func 85) #[] #[.pointer (some ⟨bx, 0, none⟩)]] w fun u w' => u = .slice none 0 0 ∧ St W0 w' F (.blk bx #[.map none] 74 :: L) I := by
  refine ent108 _ _ _ _ ?_
  simp (disch := first | omega | exact okFill_t rfl | exact okSize_t rfl | exact fun h => h | (simp only [World.size_alloc, World.size_drew, World.size_setCell, size_fill, bytesW]; omega)) only [go_sem, c108, c108S0]
  have s1 := h.box #[.slice none 0 0] 38
  generalize w.heap.size = bs at s1 ⊢
  generalize w.alloc (.cells #[.slice none 0 0] 38) = w1 at s1 ⊢
  refine RangeW_any (β := Unit) (fun x : Int => [.int .i64 x]) (fun _ _ => False) (fun xs => xs = []) (fun _ _ => .blk bs #[.slice none 0 0] 38 :: .blk bx #[.map none] 74 :: L) () rfl (by kernel_rfl) s1 rfl (fun _ => rfl) ?_ ?_ ?_
  · intro fv J w2 hJ1 hJ2 hf h0
    refine Ret.mono (keysN_ok (bx := bx) fv J w2 (fun R pre w' j => ?_) hJ2 h0) fun _ w3 j => ⟨[], rfl, j⟩
    obtain ⟨l, D, o, u, hX⟩ := hJ1 R pre w' j
    exact ⟨(hX.blk 3 rfl).cell 0, .obj l o :: .obj D (.deferred (some [])) :: (.blk bs #[.slice none 0 0] 38 :: .blk bx #[.map none] 74 :: L), hX⟩
  · intro R u pre x w' l D o o2 hx h1
    exact hx.elim
  · intro xs u D w' hG h1
    have r1 := h1.rules 1 rfl
    have hD := h1.obj 0 rfl
    simp (disch := first | omega | exact okFill_t rfl | exact okSize_t rfl | exact fun h => h | (simp only [World.size_alloc, World.size_drew, World.size_setCell, size_fill, bytesW]; omega)) only [go_sem, c108, c108A0, c108B0, c108S0, r1, hD]
    exact ((h1.putObj 0 rfl (.deferred none)).sub (L' := .blk bx #[.map none] 74 :: L) (by simp))
theorem sortedN_ok (h : St W0 w F (.blk bx #[.map none] 74 :: L) I) :
    Ret Try.prog 62 [.func (.func 85) #[] #[.pointer (some ⟨bx, 0, none⟩)]] w fun u w' => u = .slice none 0 0 ∧ St W0 w' F (.blk bx #[.map none] 74 :: L) I := by
  have hcol : Ret Try.prog 83 [.func (.func 85) #[] #[.pointer (some ⟨bx, 0, none⟩)]] w fun u w' => u = .slice none 0 0 ∧ St W0 w' F (.blk bx #[.map none] 74 :: L) I := by
    refine ent83 _ _ _ ?_
    simp (disch := first | omega | exact okFill_t rfl | exact okSize_t rfl | exact fun h => h | (simp only [World.size_alloc, World.size_drew, World.size_setCell, size_fill, bytesW]; omega)) only [go_sem, c83, c83S0]
    refine Ret.mono (appendN_ok h) ?_
    rintro _ w2 ⟨rfl, s2⟩
    simp (disch := first | omega | exact okFill_t rfl | exact okSize_t rfl | exact fun h => h | (simp only [World.size_alloc, World.size_drew, World.size_setCell, size_fill, bytesW]; omega)) only [go_sem, c83, c83S0]
    exact s2
  refine ent62 _ _ _ ?_
  simp (disch := first | omega | exact okFill_t rfl | exact okSize_t rfl | exact fun h => h | (simp only [World.size_alloc, World.size_drew, World.size_setCell, size_fill, bytesW]; omega)) only [go_sem, c62, c62S0, c62S1]
  refine Ret.mono hcol ?_
  rintro _ w2 ⟨rfl, s2⟩
  simp (disch := first | omega | exact okFill_t rfl | exact okSize_t rfl | exact fun h => h | (simp only [World.size_alloc, World.size_drew, World.size_setCell, size_fill, bytesW]; omega)) only [go_sem, c62, c62S0, c62S1]
  refine Ret.mono (sortI_ok (ks := []) (s2.nilRow 3 1) (by decide)) ?_
  rintro _ w3 ⟨rfl, ts, _, s3⟩
  simp (disch := first | omega | exact okFill_t rfl | exact okSize_t rfl | exact fun h => h | (simp only [World.size_alloc, World.size_drew, World.size_setCell, size_fill, bytesW]; omega)) only [go_sem, c62, c62S0, c62S1]
  exact s3.sub (List.sublist_cons_self ..)
end
def stoZ : Array Value := #[.pointer none, .int .u64 0, .int .i64 0, .int .i64 0, .int .i64 0, .map none, .bool false]
def Emp4 (w : World) (pv : Value) : Prop := pv = .pointer none ∨ ∃ b, pv = .pointer (some ⟨b, 0, none⟩) ∧ Blk w b stoZ 76
theorem emp4_ready (pv : Value) (i : Int) (w : World) (h : Emp4 w pv) : Ret Try.prog 52 [pv, .int .i64 i] w fun v w' => v = .int .i64 3 ∧ w' = w := by
  refine ent52 _ _ _ _ ?_
  rcases h with rfl | ⟨b, rfl, hb⟩
  · simp (disch := first | omega | exact okFill_t rfl | exact okSize_t rfl | exact fun h => h | (simp only [World.size_alloc, World.size_drew, World.size_setCell, size_fill, bytesW]; omega)) only [go_sem, c52, c52S0]
  · have hr := hb.rules
    simp only [stoZ] at hr
    simp (disch := first | omega | exact okFill_t rfl | exact okSize_t rfl | exact fun h => h | (simp only [World.size_alloc, World.size_drew, World.size_setCell, size_fill, bytesW]; omega)) only [go_sem, c52, c52S0, hr]
theorem emp4_read (pv : Value) (i : Int) (w : World) (h : Emp4 w pv) : Ret Try.prog 34 [pv, .int .i64 i] w fun v w' => v = .tuple #[.string (ofL []), .int .i64 3] ∧ w' = w := by
  refine ent34 _ _ _ _ ?_
  simp (disch := first | omega | exact okFill_t rfl | exact okSize_t rfl | exact fun h => h | (simp only [World.size_alloc, World.size_drew, World.size_setCell, size_fill, bytesW]; omega)) only [go_sem, c34, c34S0, c34S1, c34S2, c34S3, c34S4]
  refine Ret.mono (emp4_ready pv i w h) ?_
  rintro _ w' ⟨rfl, rfl⟩
  simp (disch := first | omega | exact okFill_t rfl | exact okSize_t rfl | exact fun h => h | (simp only [World.size_alloc, World.size_drew, World.size_setCell, size_fill, bytesW]; omega)) only [go_sem, c34, c34S0, c34S1, c34S2, c34S3, c34S4]
theorem emp4_write (pv : Value) (i : Int) (d : List UInt8) (w : World) (h : Emp4 w pv) : Ret Try.prog 35 [pv, .int .i64 i, .string (ofL d)] w fun v w' => v = .int .i64 3 ∧ w' = w := by
  refine ent35 _ _ _ _ _ ?_
  simp (disch := first | omega | exact okFill_t rfl | exact okSize_t rfl | exact fun h => h | (simp only [World.size_alloc, World.size_drew, World.size_setCell, size_fill, bytesW]; omega)) only [go_sem, c35, c35S0, c35S1, c35S2, c35S3]
  refine Ret.mono (emp4_ready pv i w h) ?_
  rintro _ w' ⟨rfl, rfl⟩
  simp (disch := first | omega | exact okFill_t rfl | exact okSize_t rfl | exact fun h => h | (simp only [World.size_alloc, World.size_drew, World.size_setCell, size_fill, bytesW]; omega)) only [go_sem, c35, c35S0, c35S1, c35S2, c35S3]
theorem emp4_commit (pv : Value) (w : World) (h : Emp4 w pv) : Ret Try.prog 24 [pv] w fun v w' => v = .int .i64 3 ∧ w' = w := by
  refine ent24 _ _ _ ?_
  simp (disch := first | omega | exact okFill_t rfl | exact okSize_t rfl | exact fun h => h | (simp only [World.size_alloc, World.size_drew, World.size_setCell, size_fill, bytesW]; omega)) only [go_sem, c24, c24S0, c24S1, c24L0, c24S2, c24S3, c24S4, c24S5, c24S6, c24S7, c24S8]
  refine Ret.mono (emp4_ready pv 0 w h) ?_
  rintro _ w' ⟨rfl, rfl⟩
  simp (disch := first | omega | exact okFill_t rfl | exact okSize_t rfl | exact fun h => h | (simp only [World.size_alloc, World.size_drew, World.size_setCell, size_fill, bytesW]; omega)) only [go_sem, c24, c24S0, c24S1, c24L0, c24S2, c24S3, c24S4, c24S5, c24S6, c24S7, c24S8]
theorem emp4_back (pv : Value) (w : World) (h : Emp4 w pv) : Ret Try.prog 27 [pv] w fun v w' => v = .tuple #[] ∧ w' = w := by
  refine ent27 _ _ _ ?_
  rcases h with rfl | ⟨b, rfl, hb⟩
  · simp (disch := first | omega | exact okFill_t rfl | exact okSize_t rfl | exact fun h => h | (simp only [World.size_alloc, World.size_drew, World.size_setCell, size_fill, bytesW]; omega)) only [go_sem, c27]
  · have hr := hb.rules
    simp only [stoZ] at hr
    simp (disch := first | omega | exact okFill_t rfl | exact okSize_t rfl | exact fun h => h | (simp only [World.size_alloc, World.size_drew, World.size_setCell, size_fill, bytesW]; omega)) only [go_sem, c27, hr]
    refine clearG_nil Try.underlying74 ?_
    simp (disch := first | omega | exact okFill_t rfl | exact okSize_t rfl | exact fun h => h | (simp only [World.size_alloc, World.size_drew, World.size_setCell, size_fill, bytesW]; omega)) only [go_sem, c27]
theorem emp4_len (pv : Value) (w : World) (h : Emp4 w pv) : Ret Try.prog 36 [pv] w fun v w' => v = .int .i64 0 ∧ w' = w := by
  refine ent36 _ _ _ ?_
  rcases h with rfl | ⟨b, rfl, hb⟩
  · simp (disch := first | omega | exact okFill_t rfl | exact okSize_t rfl | exact fun h => h | (simp only [World.size_alloc, World.size_drew, World.size_setCell, size_fill, bytesW]; omega)) only [go_sem, c36, c36S0]
  · have hr := hb.rules
    simp only [stoZ] at hr
    simp (disch := first | omega | exact okFill_t rfl | exact okSize_t rfl | exact fun h => h | (simp only [World.size_alloc, World.size_drew, World.size_setCell, size_fill, bytesW]; omega)) only [go_sem, c36, c36S0, hr]
theorem none_dirty (w : World) : Ret Try.prog 32 [.pointer none] w fun v w' => v = .slice none 0 0 ∧ w' = w := by
  refine ent32 _ _ _ ?_
  simp (disch := first | omega | exact okFill_t rfl | exact okSize_t rfl | exact fun h => h | (simp only [World.size_alloc, World.size_drew, World.size_setCell, size_fill, bytesW]; omega)) only [go_sem, c32, c32S0, c32S1]
section
variable {W0 w : World} {F : Nat → Prop} {L : List Res} {I : List Inv}
theorem emp4_dirty {i b : Nat} (h : St W0 w F L I) (hi : L[i]? = some (.blk b stoZ 76)) : Ret Try.prog 32 [.pointer (some ⟨b, 0, none⟩)] w fun v w' => v = .slice none 0 0 ∧ St W0 w' F L I := by
  have hr := (h.blk i hi).rules
  simp only [stoZ] at hr
  refine ent32 _ _ _ ?_
  simp (disch := first | omega | exact okFill_t rfl | exact okSize_t rfl | exact fun h => h | (simp only [World.size_alloc, World.size_drew, World.size_setCell, size_fill, bytesW]; omega)) only [go_sem, c32, c32S0, c32S1, hr]
  refine Ret.mono (keys_none w) ?_
  rintro _ w2 ⟨rfl, rfl⟩
  have s1 := h.box #[.map none] 74
  generalize w.heap.size = bx at s1 ⊢
  generalize w.alloc (.cells #[.map none] 74) = w1 at s1 ⊢
  simp (disch := first | omega | exact okFill_t rfl | exact okSize_t rfl | exact fun h => h | (simp only [World.size_alloc, World.size_drew, World.size_setCell, size_fill, bytesW]; omega)) only [go_sem, c32, c32S0, c32S1]
  refine Ret.mono (sortedN_ok s1) ?_
  rintro _ w3 ⟨rfl, s3⟩
  simp (disch := first | omega | exact okFill_t rfl | exact okSize_t rfl | exact fun h => h | (simp only [World.size_alloc, World.size_drew, World.size_setCell, size_fill, bytesW]; omega)) only [go_sem, c32, c32S0, c32S1]
  exact s3.sub (List.sublist_cons_self ..)
end
end Go.Proofs.Ytmchjbgobiagiaa

namespace Go.Proofs.Ytmchjbgobiagiaa
set_option linter.unusedSimpArgs false
set_option linter.unusedVariables false
set_option maxRecDepth 100000
open Go Go.Ann Go.RowKit Go.WideShapes Go.Shelf
theorem dnone_ready (i : Int) (w : World) : Ret Try.prog 81 [.pointer none, .int .i64 i] w fun v w' => v = .int .i64 3 ∧ w' = w := by
  refine ent81 _ _ _ _ ?_
  simp (disch := first | omega | exact okFill_t rfl | exact okSize_t rfl | exact fun h => h | (simp only [World.size_alloc, World.size_drew, World.size_setCell, size_fill, bytesW]; omega)) only [go_sem, c81, c81S0]
theorem dnone_read (i : Int) (w : World) : Ret Try.prog 59 [.pointer none, .int .i64 i] w fun v w' => v = .tuple #[.string (ofL []), .int .i64 3] ∧ w' = w := by
  refine ent59 _ _ _ _ ?_
  simp (disch := first | omega | exact okFill_t rfl | exact okSize_t rfl | exact fun h => h | (simp only [World.size_alloc, World.size_drew, World.size_setCell, size_fill, bytesW]; omega)) only [go_sem, c59, c59S0, c59S1, c59S2, c59L0, c59S3, c59S4]
  refine Ret.mono (dnone_ready i w) ?_
  rintro _ w' ⟨rfl, rfl⟩
  simp (disch := first | omega | exact okFill_t rfl | exact okSize_t rfl | exact fun h => h | (simp only [World.size_alloc, World.size_drew, World.size_setCell, size_fill, bytesW]; omega)) only [go_sem, c59, c59S0, c59S1, c59S2, c59L0, c59S3, c59S4]
theorem dnone_len (w : World) : Ret Try.prog 65 [.pointer none] w fun v w' => v = .int .i64 0 ∧ w' = w := by
  refine ent65 _ _ _ ?_
  simp (disch := first | omega | exact okFill_t rfl | exact okSize_t rfl | exact fun h => h | (simp only [World.size_alloc, World.size_drew, World.size_setCell, size_fill, bytesW]; omega)) only [go_sem, c65, c65S0]
theorem dnone_format (n : Int) (w : World) : Ret Try.prog 38 [.pointer none, .int .i64 n] w fun v w' => v = .int .i64 3 ∧ w' = w := by
  refine ent38 _ _ _ _ ?_
  simp (disch := first | omega | exact okFill_t rfl | exact okSize_t rfl | exact fun h => h | (simp only [World.size_alloc, World.size_drew, World.size_setCell, size_fill, bytesW]; omega)) only [go_sem, c38, c38S0, c38S1, c38S2, c38S3, c38S4, c38S5, c38S6]
  refine Ret.mono (dnone_len w) ?_
  rintro _ _ ⟨rfl, rfl⟩
  simp (disch := first | omega | exact okFill_t rfl | exact okSize_t rfl | exact fun h => h | (simp only [World.size_alloc, World.size_drew, World.size_setCell, size_fill, bytesW]; omega)) only [go_sem, c38, c38S0, c38S1, c38S2, c38S3, c38S4, c38S5, c38S6]
  refine Ret.mono (dnone_read 0 _) ?_
  rintro _ _ ⟨rfl, rfl⟩
  simp (disch := first | omega | exact okFill_t rfl | exact okSize_t rfl | exact fun h => h | (simp only [World.size_alloc, World.size_drew, World.size_setCell, size_fill, bytesW]; omega)) only [go_sem, c38, c38S0, c38S1, c38S2, c38S3, c38S4, c38S5, c38S6]
theorem dnone_newest (w : World) : Ret Try.prog 58 [.pointer none] w fun v w' => v = .tuple #[.agg hd0.enc.toArray, .int .i64 3] ∧ Below w.heap.size w w' := by
  refine ent58 _ _ _ ?_
  simp (disch := first | omega | exact okFill_t rfl | exact okSize_t rfl | exact fun h => h | (simp only [World.size_alloc, World.size_drew, World.size_setCell, size_fill, bytesW]; omega)) only [go_sem, c58, c58S0, c58S1, c58S2, c58S3, c58S4, c58S5, c58S6, c58S7, c58S8]
  have s0 := ((St.start (W0 := w)).box #[.int .u64 0, .int .i64 0, .int .i64 0, .int .i64 0] 73).box #[.int .u64 0, .int .i64 0, .int .i64 0, .int .i64 0] 73
  rw [World.size_alloc] at s0
  generalize (w.alloc (.cells #[.int .u64 0, .int .i64 0, .int .i64 0, .int .i64 0] 73)).alloc (.cells #[.int .u64 0, .int .i64 0, .int .i64 0, .int .i64 0] 73) = w1 at s0 ⊢
  refine W_loopU (fun k : Nat => []) (fun k w' => w' = w1) (fun k => k) 0 rfl rfl ?_
  rintro k _ rfl
  simp (disch := first | omega | exact okFill_t rfl | exact okSize_t rfl | exact fun h => h | (simp only [World.size_alloc, World.size_drew, World.size_setCell, size_fill, bytesW]; omega)) only [go_sem, c58, c58S0, c58S1, c58S2, c58S3, c58S4, c58S5, c58S6, c58L0, c58S7, c58S8, c58L0]
  refine Ret.mono (dnone_read 0 _) ?_
  rintro _ _ ⟨rfl, rfl⟩
  have r0 := s0.rules 0 rfl
  have r1 := s0.rules 1 rfl
  simp (disch := first | omega | exact okFill_t rfl | exact okSize_t rfl | exact fun h => h | (simp only [World.size_alloc, World.size_drew, World.size_setCell, size_fill, bytesW]; omega)) only [go_sem, c58, c58S0, c58S1, c58S2, c58S3, c58S4, c58S5, c58S6, c58L0, c58S7, c58S8, r0, r1, hd0, Hd.enc]
  exact (s0.fill 1 rfl (cs := #[.int .u64 0, .int .i64 0, .int .i64 0, .int .i64 0]) rfl).bel
theorem dnone_open (w : World) : Ret Try.prog 31 [.pointer none] w fun v w' => v = .tuple #[.pointer none, .int .i64 3] ∧ Below w.heap.size w w' := by
  refine ent31 _ _ _ ?_
  simp (disch := first | omega | exact okFill_t rfl | exact okSize_t rfl | exact fun h => h | (simp only [World.size_alloc, World.size_drew, World.size_setCell, size_fill, bytesW]; omega)) only [go_sem, c31, c31S0, c31S1, c31S2, c31S3, c31L0, c31S4, c31S5, c31S6, c31S7, c31S8, c31S9, c31S10]
  refine Ret.mono (dnone_newest w) ?_
  rintro _ w2 ⟨rfl, b2⟩
  simp (disch := first | omega | exact okFill_t rfl | exact okSize_t rfl | exact fun h => h | (simp only [World.size_alloc, World.size_drew, World.size_setCell, size_fill, bytesW]; omega)) only [go_sem, c31, c31S0, c31S1, c31S2, c31S3, c31L0, c31S4, c31S5, c31S6, c31S7, c31S8, c31S9, c31S10, hd0, Hd.enc]
  exact b2.alloc b2.size _
section
variable {W0 w : World} {F : Nat → Prop} {L : List Res} {I : List Inv} {g : Nat} {vb vl : Value} {m : Dk}
theorem openN_ok (h : St W0 w F (DkL g vb vl m ++ L) I) (ok : m.ok) (hg : m.gone = false) (h2 : 2 ≤ m.safe.length) (hn : newestH m = none) :
    Ret Try.prog 31 [.pointer (some ⟨g, 0, none⟩)] w fun u w' => u = .tuple #[.pointer none, .int .i64 14] ∧ St W0 w' F (DkL g vb vl m ++ L) I := by
  refine ent31 _ _ _ ?_
  simp (disch := first | omega | exact okFill_t rfl | exact okSize_t rfl | exact fun h => h | (simp only [World.size_alloc, World.size_drew, World.size_setCell, size_fill, bytesW]; omega)) only [go_sem, c31, c31S0, c31S1, c31S2, c31S3, c31L0, c31S4, c31S5, c31S6, c31S7, c31S8, c31S9, c31S10]
  refine Ret.mono (newest_ok h ok hg h2) ?_
  rintro u w2 ⟨hu2, b2⟩
  rw [hn] at hu2
  obtain rfl : u = _ := hu2
  have s2 := h.call b2
  simp (disch := first | omega | exact okFill_t rfl | exact okSize_t rfl | exact fun h => h | (simp only [World.size_alloc, World.size_drew, World.size_setCell, size_fill, bytesW]; omega)) only [go_sem, c31, c31S0, c31S1, c31S2, c31S3, c31L0, c31S4, c31S5, c31S6, c31S7, c31S8, c31S9, c31S10, hd0, Hd.enc]
  exact s2.alloc' _
end
theorem newest_new (n : Nat) (h : 2 ≤ n) : newestH (newDk n) = none := by
  have hc : ∀ i seq, i < n → candH (newDk n) i seq = none := fun i seq hi => by
    unfold candH
    have : blkN (newDk n) i = filledL [] := by
      unfold blkN newDk
      simp only [lastL, List.foldl_nil]
      rw [List.getD_eq_getElem?_getD, List.getElem?_replicate, if_pos hi]; rfl
    rw [this, readHd_zero]
  unfold newestH
  rw [bestN, hc 1 _ (by omega), bestN, hc 0 _ (by omega)]; rfl
structure ActD where
  Kind : Int
  At : Int
  Data : List UInt8
  Mask : Int
  Torn : Int
  Cut : Int
deriving DecidableEq
def ActD.enc (a : ActD) : List Value := [.int .i64 a.Kind, .int .i64 a.At, .string (ofL a.Data), .int .u64 a.Mask, .int .i64 a.Torn, .int .i64 a.Cut]
def ActD.wf (a : ActD) : Prop := kOk .i64 a.Kind ∧ kOk .i64 a.At ∧ (a.Data.length : Int) ≤ 9223372036854775807 ∧ kOk .u64 a.Mask ∧ kOk .i64 a.Torn ∧ kOk .i64 a.Cut
theorem ActD.len (a : ActD) : a.enc.length = 6 := rfl
theorem ActD.one (a : ActD) : ∀ u ∈ a.enc, u.oneCell' = true := by intro u hu; simp only [ActD.enc, List.mem_cons, List.not_mem_nil, or_false] at hu; rcases hu with rfl | rfl | rfl | rfl | rfl | rfl <;> rfl
theorem ActD.at (a : ActD) : a.enc[0]? = some (.int .i64 a.Kind) ∧ a.enc[1]? = some (.int .i64 a.At) ∧ a.enc[2]? = some (.string (ofL a.Data)) ∧ a.enc[3]? = some (.int .u64 a.Mask) ∧ a.enc[4]? = some (.int .i64 a.Torn) ∧ a.enc[5]? = some (.int .i64 a.Cut) := ⟨rfl, rfl, rfl, rfl, rfl, rfl⟩
set_option maxRecDepth 100000 in
theorem opens_ActD : Opens Try.prog 71 (fun _ (a : ActD) cs => cs = a.enc ∧ a.wf) := by
  intro H enc w base sp hd fuel cs x hx
  obtain ⟨hl, hf⟩ := opens_fields Try.underlying71 hx
  rw [show Try.prog.cellsOf 71 = 6 by kernel_rfl] at hl
  have c_0 : Try.prog.cellsOf 3 = 1 := by kernel_rfl
  have c_1 : Try.prog.cellsOf 9 = 1 := by kernel_rfl
  have c_2 : Try.prog.cellsOf 59 = 1 := by kernel_rfl
  match cs, hl with
  | [v0, v1, v2, v3, v4, v5], _ =>
    obtain ⟨n0, y0, g0⟩ := hf 0 _ rfl
    have h0 : DataW.trod enc Try.prog w base sp hd n0 3 (List.take (Try.prog.cellsOf 3) [v0, v1, v2, v3, v4, v5]) = some y0 := g0
    rw [c_0] at h0
    obtain ⟨a0, e0⟩ := opens_int Try.underlying3 enc w base sp hd n0 [v0] y0 h0
    have r0 : v0 = _ := (List.cons.inj e0.1).1
    obtain ⟨n1, y1, g1⟩ := hf 1 _ rfl
    have h1 : DataW.trod enc Try.prog w base sp hd n1 3 (List.take (Try.prog.cellsOf 3) [v1, v2, v3, v4, v5]) = some y1 := g1
    rw [c_0] at h1
    obtain ⟨a1, e1⟩ := opens_int Try.underlying3 enc w base sp hd n1 [v1] y1 h1
    have r1 : v1 = _ := (List.cons.inj e1.1).1
    obtain ⟨n2, y2, g2⟩ := hf 2 _ rfl
    have h2 : DataW.trod enc Try.prog w base sp hd n2 9 (List.take (Try.prog.cellsOf 9) [v2, v3, v4, v5]) = some y2 := g2
    rw [c_1] at h2
    obtain ⟨a2, e2⟩ := opens_str Try.underlying9 enc w base sp hd n2 [v2] y2 h2
    have r2 : v2 = _ := (List.cons.inj e2.1).1
    obtain ⟨n3, y3, g3⟩ := hf 3 _ rfl
    have h3 : DataW.trod enc Try.prog w base sp hd n3 59 (List.take (Try.prog.cellsOf 59) [v3, v4, v5]) = some y3 := g3
    rw [c_2] at h3
    obtain ⟨a3, e3⟩ := opens_int Try.underlying59 enc w base sp hd n3 [v3] y3 h3
    have r3 : v3 = _ := (List.cons.inj e3.1).1
    obtain ⟨n4, y4, g4⟩ := hf 4 _ rfl
    have h4 : DataW.trod enc Try.prog w base sp hd n4 3 (List.take (Try.prog.cellsOf 3) [v4, v5]) = some y4 := g4
    rw [c_0] at h4
    obtain ⟨a4, e4⟩ := opens_int Try.underlying3 enc w base sp hd n4 [v4] y4 h4
    have r4 : v4 = _ := (List.cons.inj e4.1).1
    obtain ⟨n5, y5, g5⟩ := hf 5 _ rfl
    have h5 : DataW.trod enc Try.prog w base sp hd n5 3 (List.take (Try.prog.cellsOf 3) [v5]) = some y5 := g5
    rw [c_0] at h5
    obtain ⟨a5, e5⟩ := opens_int Try.underlying3 enc w base sp hd n5 [v5] y5 h5
    have r5 : v5 = _ := (List.cons.inj e5.1).1
    exact ⟨⟨a0, a1, a2, a3, a4, a5⟩, by rw [r0, r1, r2, r3, r4, r5]; rfl, e0.2, e1.2, e2.2, e3.2, e4.2, e5.2⟩
set_option maxRecDepth 100000 in
theorem nobody4_ok (a : ActD) (w : World) (q : a.wf) : Ret Try.prog 10 [.agg a.enc.toArray] w fun u w' => u = .bool true ∧ Below w.heap.size w w' := by
  refine ent10 _ _ _ ?_
  simp (disch := first | omega | exact okFill_t rfl | exact okSize_t rfl | exact fun h => h | (simp only [World.size_alloc, World.size_drew, World.size_setCell, size_fill, bytesW]; omega)) only [go_sem, c10, c10S0, c10S1, c10S2, c10S3, c10S4, c10S5, c10S6, c10L0, c10S7, c10S8, c10S9, c10S10, c10S11]
  refine bdW_built (cells := stoZ) (by kernel_rfl) ?_
  simp (disch := first | omega | exact okFill_t rfl | exact okSize_t rfl | exact fun h => h | (simp only [World.size_alloc, World.size_drew, World.size_setCell, size_fill, bytesW]; omega)) only [go_sem, c10, c10S0, c10S1, c10S2, c10S3, c10S4, c10S5, c10S6, c10L0, c10S7, c10S8, c10S9, c10S10, c10S11]
  refine bsW_ones ty77mkI rfl rfl (by decide) (by decide) (by intro v hv; simp only [List.mem_cons, List.not_mem_nil, or_false] at hv; rcases hv with rfl | rfl <;> rfl) ?_
  simp (disch := first | omega | exact okFill_t rfl | exact okSize_t rfl | exact fun h => h | (simp only [World.size_alloc, World.size_drew, World.size_setCell, size_fill, bytesW]; omega)) only [go_sem, c10, c10S0, c10S1, c10S2, c10S3, c10S4, c10S5, c10S6, c10S7, c10S8, c10S9, c10S10, c10S11]
  have s0 := (((St.start (W0 := w)).box a.enc.toArray 71).box stoZ 76).box #[.pointer none, .pointer (some ⟨w.heap.size + 1, 0, none⟩)] 24
  simp only [World.size_alloc] at s0
  generalize ((w.alloc (.cells a.enc.toArray 71)).alloc (.cells stoZ 76)).alloc (.cells #[.pointer none, .pointer (some ⟨w.heap.size + 1, 0, none⟩)] 24) = w1 at s0 ⊢
  generalize w.heap.size + 1 = z at s0 ⊢
  have hbel := s0.bel
  refine W_loopU (fun k : Nat => [(19, .int .i64 k)]) (fun k w' => k ≤ 2 ∧ St w w' (fun _ => False) [.blk (z + 1) #[.pointer none, .pointer (some ⟨z, 0, none⟩)] 24, .blk z stoZ 76, .blk w.heap.size a.enc.toArray 71] []) (fun k => 2 - k) 0 rfl ⟨Nat.zero_le _, s0⟩ ?_
  clear s0
  rintro k w2 ⟨hk, s2⟩
  have he : ∀ w', St w w' (fun _ => False) [.blk (z + 1) #[.pointer none, .pointer (some ⟨z, 0, none⟩)] 24, .blk z stoZ 76, .blk w.heap.size a.enc.toArray 71] [] → Emp4 w' (.pointer (some ⟨z, 0, none⟩)) := fun w' h => .inr ⟨z, rfl, h.blk 1 rfl⟩
  by_cases hlt : k < 2
  · have r0 := s2.rules 0 rfl
    have r1 := s2.rules 2 rfl
    simp only [ActD.enc] at r1
    have hz := s2.size
    obtain rfl | rfl : k = 0 ∨ k = 1 := by omega
    · simp (disch := first | omega | exact okFill_t rfl | exact okSize_t rfl | exact fun h => h | (simp only [World.size_alloc, World.size_drew, World.size_setCell, size_fill, bytesW]; omega)) only [go_sem, c10, c10S0, c10S1, c10S2, c10S3, c10S4, c10S5, c10S6, c10L0, c10S7, c10S8, c10S9, c10S10, c10S11, c10L0, r0, r1]
      refine Ret.mono (emp4_read _ a.At w2 (.inl rfl)) ?_
      rintro _ _ ⟨rfl, rfl⟩
      simp (disch := first | omega | exact okFill_t rfl | exact okSize_t rfl | exact fun h => h | (simp only [World.size_alloc, World.size_drew, World.size_setCell, size_fill, bytesW]; omega)) only [go_sem, c10, c10S0, c10S1, c10S2, c10S3, c10S4, c10S5, c10S6, c10L0, c10S7, c10S8, c10S9, c10S10, c10S11, r1]
      refine Ret.mono (emp4_write _ a.At a.Data _ (.inl rfl)) ?_
      rintro _ _ ⟨rfl, rfl⟩
      simp (disch := first | omega | exact okFill_t rfl | exact okSize_t rfl | exact fun h => h | (simp only [World.size_alloc, World.size_drew, World.size_setCell, size_fill, bytesW]; omega)) only [go_sem, c10, c10S0, c10S1, c10S2, c10S3, c10S4, c10S5, c10S6, c10L0, c10S7, c10S8, c10S9, c10S10, c10S11, r1]
      refine Ret.mono (emp4_commit _ _ (.inl rfl)) ?_
      rintro _ _ ⟨rfl, rfl⟩
      simp (disch := first | omega | exact okFill_t rfl | exact okSize_t rfl | exact fun h => h | (simp only [World.size_alloc, World.size_drew, World.size_setCell, size_fill, bytesW]; omega)) only [go_sem, c10, c10S0, c10S1, c10S2, c10S3, c10S4, c10S5, c10S6, c10L0, c10S7, c10S8, c10S9, c10S10, c10S11]
      refine Ret.mono (emp4_back _ _ (.inl rfl)) ?_
      rintro _ _ ⟨rfl, rfl⟩
      simp (disch := first | omega | exact okFill_t rfl | exact okSize_t rfl | exact fun h => h | (simp only [World.size_alloc, World.size_drew, World.size_setCell, size_fill, bytesW]; omega)) only [go_sem, c10, c10S0, c10S1, c10S2, c10S3, c10S4, c10S5, c10S6, c10L0, c10S7, c10S8, c10S9, c10S10, c10S11]
      refine Ret.mono (emp4_len _ _ (.inl rfl)) ?_
      rintro _ _ ⟨rfl, rfl⟩
      simp (disch := first | omega | exact okFill_t rfl | exact okSize_t rfl | exact fun h => h | (simp only [World.size_alloc, World.size_drew, World.size_setCell, size_fill, bytesW]; omega)) only [go_sem, c10, c10S0, c10S1, c10S2, c10S3, c10S4, c10S5, c10S6, c10L0, c10S7, c10S8, c10S9, c10S10, c10S11]
      refine Ret.mono (none_dirty _) ?_
      rintro _ _ ⟨rfl, rfl⟩
      simp (disch := first | omega | exact okFill_t rfl | exact okSize_t rfl | exact fun h => h | (simp only [World.size_alloc, World.size_drew, World.size_setCell, size_fill, bytesW]; omega)) only [go_sem, c10, c10S0, c10S1, c10S2, c10S3, c10S4, c10S5, c10S6, c10L0, c10S7, c10S8, c10S9, c10S10, c10S11]
      exact ⟨by constructor <;> omega, 1, rfl, ⟨by omega, s2⟩, by omega⟩
    · simp (disch := first | omega | exact okFill_t rfl | exact okSize_t rfl | exact fun h => h | (simp only [World.size_alloc, World.size_drew, World.size_setCell, size_fill, bytesW]; omega)) only [go_sem, c10, c10S0, c10S1, c10S2, c10S3, c10S4, c10S5, c10S6, c10L0, c10S7, c10S8, c10S9, c10S10, c10S11, c10L0, r0, r1]
      refine Ret.mono (emp4_read _ a.At w2 (he _ s2)) ?_
      rintro _ _ ⟨rfl, rfl⟩
      simp (disch := first | omega | exact okFill_t rfl | exact okSize_t rfl | exact fun h => h | (simp only [World.size_alloc, World.size_drew, World.size_setCell, size_fill, bytesW]; omega)) only [go_sem, c10, c10S0, c10S1, c10S2, c10S3, c10S4, c10S5, c10S6, c10L0, c10S7, c10S8, c10S9, c10S10, c10S11, r1]
      refine Ret.mono (emp4_write _ a.At a.Data _ (he _ s2)) ?_
      rintro _ _ ⟨rfl, rfl⟩
      simp (disch := first | omega | exact okFill_t rfl | exact okSize_t rfl | exact fun h => h | (simp only [World.size_alloc, World.size_drew, World.size_setCell, size_fill, bytesW]; omega)) only [go_sem, c10, c10S0, c10S1, c10S2, c10S3, c10S4, c10S5, c10S6, c10L0, c10S7, c10S8, c10S9, c10S10, c10S11, r1]
      refine Ret.mono (emp4_commit _ _ (he _ s2)) ?_
      rintro _ _ ⟨rfl, rfl⟩
      simp (disch := first | omega | exact okFill_t rfl | exact okSize_t rfl | exact fun h => h | (simp only [World.size_alloc, World.size_drew, World.size_setCell, size_fill, bytesW]; omega)) only [go_sem, c10, c10S0, c10S1, c10S2, c10S3, c10S4, c10S5, c10S6, c10L0, c10S7, c10S8, c10S9, c10S10, c10S11]
      refine Ret.mono (emp4_back _ _ (he _ s2)) ?_
      rintro _ _ ⟨rfl, rfl⟩
      simp (disch := first | omega | exact okFill_t rfl | exact okSize_t rfl | exact fun h => h | (simp only [World.size_alloc, World.size_drew, World.size_setCell, size_fill, bytesW]; omega)) only [go_sem, c10, c10S0, c10S1, c10S2, c10S3, c10S4, c10S5, c10S6, c10L0, c10S7, c10S8, c10S9, c10S10, c10S11]
      refine Ret.mono (emp4_len _ _ (he _ s2)) ?_
      rintro _ _ ⟨rfl, rfl⟩
      simp (disch := first | omega | exact okFill_t rfl | exact okSize_t rfl | exact fun h => h | (simp only [World.size_alloc, World.size_drew, World.size_setCell, size_fill, bytesW]; omega)) only [go_sem, c10, c10S0, c10S1, c10S2, c10S3, c10S4, c10S5, c10S6, c10L0, c10S7, c10S8, c10S9, c10S10, c10S11]
      refine Ret.mono (emp4_dirty s2 (i := 1) rfl) ?_
      rintro _ w3 ⟨rfl, s3⟩
      simp (disch := first | omega | exact okFill_t rfl | exact okSize_t rfl | exact fun h => h | (simp only [World.size_alloc, World.size_drew, World.size_setCell, size_fill, bytesW]; omega)) only [go_sem, c10, c10S0, c10S1, c10S2, c10S3, c10S4, c10S5, c10S6, c10L0, c10S7, c10S8, c10S9, c10S10, c10S11]
      exact ⟨by constructor <;> omega, 2, rfl, ⟨by omega, s3⟩, by omega⟩
  · have hkk : ¬ (k : Int) < 2 := by omega
    simp (disch := first | omega | exact okFill_t rfl | exact okSize_t rfl | exact fun h => h | (simp only [World.size_alloc, World.size_drew, World.size_setCell, size_fill, bytesW]; omega)) only [go_sem, c10, c10S0, c10S1, c10S2, c10S3, c10S4, c10S5, c10S6, c10L0, c10S7, c10S8, c10S9, c10S10, c10S11, c10L0, hkk]
    refine Ret.mono (new_ok (n := 9) s2 (by decide) (by decide)) ?_
    rintro _ w3 ⟨g, vb, vl, rfl, s3⟩
    simp (disch := first | omega | exact okFill_t rfl | exact okSize_t rfl | exact fun h => h | (simp only [World.size_alloc, World.size_drew, World.size_setCell, size_fill, bytesW]; omega)) only [go_sem, c10, c10S0, c10S1, c10S2, c10S3, c10S4, c10S5, c10S6, c10L0, c10S7, c10S8, c10S9, c10S10, c10S11]
    refine Ret.mono (openN_ok s3 (newDk_ok (by decide) (by decide)) rfl (by decide) (newest_new 9 (by decide))) ?_
    rintro _ w4 ⟨rfl, s4⟩
    simp (disch := first | omega | exact okFill_t rfl | exact okSize_t rfl | exact fun h => h | (simp only [World.size_alloc, World.size_drew, World.size_setCell, size_fill, bytesW]; omega)) only [go_sem, c10, c10S0, c10S1, c10S2, c10S3, c10S4, c10S5, c10S6, c10L0, c10S7, c10S8, c10S9, c10S10, c10S11]
    refine Ret.mono (dnone_open w4) ?_
    rintro _ w5 ⟨rfl, b5⟩
    have s5 := s4.call b5
    simp (disch := first | omega | exact okFill_t rfl | exact okSize_t rfl | exact fun h => h | (simp only [World.size_alloc, World.size_drew, World.size_setCell, size_fill, bytesW]; omega)) only [go_sem, c10, c10S0, c10S1, c10S2, c10S3, c10S4, c10S5, c10S6, c10L0, c10S7, c10S8, c10S9, c10S10, c10S11]
    refine Ret.mono (dnone_format 1 w5) ?_
    rintro _ _ ⟨rfl, rfl⟩
    simp (disch := first | omega | exact okFill_t rfl | exact okSize_t rfl | exact fun h => h | (simp only [World.size_alloc, World.size_drew, World.size_setCell, size_fill, bytesW]; omega)) only [go_sem, c10, c10S0, c10S1, c10S2, c10S3, c10S4, c10S5, c10S6, c10L0, c10S7, c10S8, c10S9, c10S10, c10S11]
    refine Ret.mono (awake4_ok _) ?_
    rintro _ w6 ⟨rfl, b6⟩
    simp (disch := first | omega | exact okFill_t rfl | exact okSize_t rfl | exact fun h => h | (simp only [World.size_alloc, World.size_drew, World.size_setCell, size_fill, bytesW]; omega)) only [go_sem, c10, c10S0, c10S1, c10S2, c10S3, c10S4, c10S5, c10S6, c10L0, c10S7, c10S8, c10S9, c10S10, c10S11]
    exact Below.next s5.bel b6
theorem nobody4_law {H : Type} {enc : TypeId × Value → H} {w : World} {r : Reach} {b base : Nat} {sp : Nat → Bool} {hd : Bool} {v : Value} {d : DataW H} {p : List MemPlace}
    (h : Value.okWide Try.prog w r b 71 v) (k : DataW.Trod enc Try.prog w base sp hd 71 v d p) :
    Ret Try.prog 10 [v] w fun u w' => u = .bool true ∧ Below w.heap.size w w' := by
  obtain ⟨a, cs, rfl, rfl, q⟩ := Opens.struct_arg opens_ActD Try.underlying71 h k
  exact nobody4_ok a w q
end Go.Proofs.Ytmchjbgobiagiaa
