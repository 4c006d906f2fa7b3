/- Contracts over the disk's functions: a crash, and what makes a disk. -/
import Derived.Test.YtlaflmkgfafhpaaB2
namespace Go.Proofs.Ytlaflmkgfafhpaa
set_option linter.unusedSimpArgs false
set_option linter.unusedVariables false
open Go Go.Ann Go.RowKit

/-- Is a late write done? -/
def bitAt (mask : Int) (i : Nat) : Bool := decide (mask / 2 ^ (i % 64) % 2 = 1)
/-- How many bytes of a torn write are there. -/
def cutAt (cut : Int) : Nat := (max 0 (min cut 256)).toNat
def tornL (torn cut : Int) (i : Nat) (data was : List UInt8) : List UInt8 := if (i : Int) = torn then data.take (cutAt cut) ++ was.drop (cutAt cut) else data
/-- The safe blocks behind a crash. -/
def crashL (mask torn cut : Int) : List (List UInt8) → Nat → List (Int × List UInt8) → List (List UInt8)
  | safe, _, [] => safe
  | safe, i, x :: l => crashL mask torn cut (if bitAt mask i then safe.set x.1.toNat (tornL torn cut i x.2 (safe.getD x.1.toNat [])) else safe) (i + 1) l
theorem crashL_length (mask torn cut : Int) : ∀ l safe i, (crashL mask torn cut safe i l).length = safe.length
  | [], _, _ => rfl
  | x :: l, safe, i => by rw [crashL, crashL_length mask torn cut l]; split <;> simp
theorem crashL_append (mask torn cut : Int) : ∀ (l r : List (Int × List UInt8)) safe i, crashL mask torn cut safe i (l ++ r) = crashL mask torn cut (crashL mask torn cut safe i l) (i + l.length) r
  | [], _, _, _ => rfl
  | x :: l, r, safe, i => by rw [List.cons_append, crashL, crashL, crashL_append mask torn cut l r, List.length_cons]; congr 1; omega
theorem DiskAt.foot_lt {w : World} {g : Nat} {vb vl : Value} {m : Dk} (h : DiskAt w g vb vl m) {k : Nat} (hk : foot g vb vl k) : k < w.heap.size := by
  rcases hk with rfl | hk | hk
  · exact h.lt
  · exact (h.rb.lt k hk).2
  · exact (h.rl.lt k hk).2
theorem bit_test (mask : Int) (k : Nat) (h0 : 0 ≤ mask) (h1 : mask ≤ 18446744073709551615) (hk : (k : Int) ≤ 9223372036854775807) :
    (bits BinOp.and IntKind.u64 (mask / 2 ^ min (IntKind.u64.wrap (bits BinOp.and IntKind.i64 (k : Int) 63)).toNat 64) 1 = 0) = (bitAt mask k = false) := by
  have hm := Nat.mod_lt k (show 64 > 0 by decide)
  rw [and_63_i64 k hk, wrap_u64_id _ (by omega) (by omega), Int.toNat_natCast, Nat.min_eq_left (by omega)]
  have hd : 0 ≤ mask / 2 ^ (k % 64) := Int.ediv_nonneg h0 (Int.pow_nonneg (by decide))
  have hd2 : mask / 2 ^ (k % 64) ≤ mask := Int.ediv_le_self _ h0
  rw [and_one_u64 _ hd (by omega)]
  unfold bitAt
  rw [decide_eq_false_iff_not]
  apply propext
  generalize mask / 2 ^ (k % 64) = z at *
  omega
def crashN (m : Dk) (mask torn cut : Int) : Dk := { safe := crashL mask torn cut m.safe 0 m.late, late := [], left := -1, gone := false }
theorem crash_ok (g : Nat) (vb vl : Value) (m : Dk) (mask torn cut : Int) (w : World) (h : DiskAt w g vb vl m) (h0 : 0 ≤ mask) (h1 : mask ≤ 18446744073709551615) (ht : I64 torn) (hc : I64 cut) :
    Ret Try.prog 19 [.pointer (some ⟨g, 0, none⟩), .int .u64 mask, .int .i64 torn, .int .i64 cut] w fun _ w' => ∃ vl', DiskAt w' g vb vl' (crashN m mask torn cut) ∧ Grew w w' g vb vl vb vl' := by
  refine ent19 _ _ _ _ _ _ ?_
  simp only [go_sem, ↓reduceIte, reduceCtorEq, Nat.reduceBEq, Nat.reduceEqDiff, Nat.reduceAdd, Nat.reduceMul, Int.reduceNe, Int.reduceEq, Int.reduceLT, Int.reduceLE, Int.reduceNeg, Int.reduceAdd, Int.reduceSub, Int.reduceMul, Int.reduceToNat, beq_self_eq_true, c19, c19S0, c19S1, c19S2, c19S3, c19S4, c19L0, c19S5, c19S6, loadK_int, loadK_bool, loadK_str, loadK_slice, loadK_ptr, loadK_map, loadK_agg, loadK_other, heldW]
  obtain ⟨hl1, al, capl, hvl, hcl, hlr⟩ := Rd.of_own h.rl
  obtain ⟨gb, cb, hvb, _, _⟩ := h.rb.form h.ok.some
  subst hvb
  refine ⟨al, _, capl, by rw [h.cl, hvl], ?_⟩
  refine W_loop (fun k : Nat => [(0, .pointer (some ⟨g, 0, none⟩)), (1, .int .u64 mask), (2, .int .i64 torn), (3, .int .i64 cut), (16, .slice al m.late.length capl), (17, .int .i64 m.late.length), (18, .int .i64 (k : Int))])
    (fun k w' => k ≤ m.late.length ∧ DiskAt w' g (.slice (some ⟨gb, 0, none⟩) m.safe.length cb) vl { m with safe := crashL mask torn cut m.safe 0 (m.late.take k) } ∧ Chg (fun k => k = gb) w w') (fun k => m.late.length - k) 0 (by rfl) ⟨Nat.zero_le _, h, Chg.refl _ _⟩ ?_
  rintro k w4 ⟨hk, h4, hc4⟩
  have hlen := crashL_length mask torn cut (m.late.take k) m.safe 0
  by_cases hlt : k < m.late.length
  · obtain ⟨ad, rfl, hcell⟩ := hlr (by omega)
    simp only [go_sem, ↓reduceIte, reduceCtorEq, Nat.reduceBEq, Nat.reduceEqDiff, Nat.reduceAdd, Nat.reduceMul, Int.reduceNe, Int.reduceEq, Int.reduceLT, Int.reduceLE, Int.reduceNeg, Int.reduceAdd, Int.reduceSub, Int.reduceMul, Int.reduceToNat, beq_self_eq_true, c19, c19S0, c19S1, c19S2, c19S3, c19S4, c19L0, c19S5, c19S6, c19L0, loadK_int, loadK_bool, loadK_str, loadK_slice, loadK_ptr, loadK_map, loadK_agg, loadK_other, heldW]
    have hx := h.ok.late m.late[k] (List.getElem_mem hlt)
    have hcell4 : cellsAt w4 (ad.add (k * 2)) (pendV m.late[k]) := by
      have h5 := cellsAt_flat (els := m.late) (enc := pendV) (sz := 2) (fun _ => rfl) hcell (List.getElem?_eq_getElem hlt)
      intro i v hv
      refine hc4.cell (h5 i v hv) ?_
      intro e
      have e2 : ((ad.add (k * 2)).add i).block = ad.block := by
        rw [add_add]; unfold Addr.add; split <;> rfl
      rw [e2] at e
      exact h.nbl gb rfl (by rw [hvl]; simp only [Value.ownBlock]; rw [e])
    refine ⟨fun _ => ⟨⟨by omega, by omega⟩, pendV m.late[k], hcell4, rfl, ?_⟩, fun h => by omega⟩
    refine storeW_new rfl ty88sizeT rfl (by simp [Value.cells, Value.oneCell', pendV]) ?_
    simp only [go_sem, ↓reduceIte, reduceCtorEq, Nat.reduceBEq, Nat.reduceEqDiff, Nat.reduceAdd, Nat.reduceMul, Int.reduceNe, Int.reduceEq, Int.reduceLT, Int.reduceLE, Int.reduceNeg, Int.reduceAdd, Int.reduceSub, Int.reduceMul, Int.reduceToNat, beq_self_eq_true, c19, c19S0, c19S1, c19S2, c19S3, c19S4, c19L0, c19S5, c19S6, loadK_int, loadK_bool, loadK_str, loadK_slice, loadK_ptr, loadK_map, loadK_agg, loadK_other, heldW]
    have c0 : (pendV m.late[k]).toArray = #[.int .i64 m.late[k].1, .string (ofL m.late[k].2)] := rfl
    rw [c0]
    rw [bit_test mask k h0 h1 (by have := h.ok.less; omega)]
    have hless := h.ok.less
    have hin : m.late[k].1.toNat < m.safe.length := by have := hx.1; have := hx.2.1; omega
    have hstep : crashL mask torn cut m.safe 0 (m.late.take (k + 1)) = if bitAt mask k then (crashL mask torn cut m.safe 0 (m.late.take k)).set m.late[k].1.toNat (tornL torn cut k m.late[k].2 ((crashL mask torn cut m.safe 0 (m.late.take k)).getD m.late[k].1.toNat [])) else crashL mask torn cut m.safe 0 (m.late.take k) := by
      rw [List.take_succ_eq_append_getElem hlt, crashL_append]
      simp only [List.length_take, Nat.min_eq_left (Nat.le_of_lt hlt), Nat.zero_add, crashL]
    have hc5 : Chg (fun _ => False) w4 (w4.alloc (.cells #[.int .i64 m.late[k].1, .string (ofL m.late[k].2)] 88)) := (Chg.refl _ w4).alloc _
    have h5 := h4.keep hc5 (fun _ _ h => h)
    refine ⟨fun hb => ⟨⟨by omega, by omega⟩, k + 1, rfl, ⟨by omega, ?_, hc4.trans (hc5.mono fun _ _ h => h.elim)⟩, by omega⟩, fun hb => ?_⟩
    · rw [hstep, hb]; exact h5
    have hb : bitAt mask k = true := by simpa using hb
    rw [hb] at hstep
    simp only [if_true] at hstep
    refine ⟨fun htorn => ?_, fun htorn => ?_⟩
    · have hvarfar : ∀ j, foot g (.slice (some ⟨gb, 0, none⟩) m.safe.length cb) vl j → j ≠ w4.heap.size := fun j hj => Nat.ne_of_lt (h4.foot_lt hj)
      have hsafe : ∀ s ∈ crashL mask torn cut m.safe 0 (m.late.take k), s.length = 256 := h4.ok.safe
      have hinL : m.late[k].1.toNat < (crashL mask torn cut m.safe 0 (m.late.take k)).length := by rw [hlen]; exact hin
      have hold : (crashL mask torn cut m.safe 0 (m.late.take k)).getD m.late[k].1.toNat [] = (crashL mask torn cut m.safe 0 (m.late.take k))[m.late[k].1.toNat] := by
        rw [List.getD_eq_getElem?_getD, List.getElem?_eq_getElem hinL]; rfl
      have hold256 := hsafe _ (List.getElem_mem hinL)
      rw [← hold] at hold256
      have hd : tornL torn cut k m.late[k].2 ((crashL mask torn cut m.safe 0 (m.late.take k)).getD m.late[k].1.toNat []) = m.late[k].2.take (cutAt cut) ++ ((crashL mask torn cut m.safe 0 (m.late.take k)).getD m.late[k].1.toNat []).drop (cutAt cut) := by unfold tornL; rw [if_pos htorn]
      rw [hd] at hstep
      generalize hwas : (crashL mask torn cut m.safe 0 (m.late.take k)).getD m.late[k].1.toNat [] = was at hold hold256 hstep hd
      have hcut : cutAt cut ≤ 256 := by unfold cutAt; omega
      have hdlen : (m.late[k].2.take (cutAt cut) ++ was.drop (cutAt cut)).length = 256 := by
        rw [List.length_append, List.length_take, List.length_drop, hold256, hx.2.2]; omega
      have hrow := h5.rb
      simp only [hlen] at hrow
      have hbc := (hrow.cellAt m.late[k].1.toNat (by omega)).trans (show (strsV (crashL mask torn cut m.safe 0 (m.late.take k)))[m.late[k].1.toNat]? = some (.string (ofL was)) by
        unfold strsV; rw [List.getElem?_map, List.getElem?_eq_getElem hinL, ← hold]; rfl)
      have hSS : (w4.alloc (.cells #[.int .i64 m.late[k].1, .string (ofL m.late[k].2)] 88)).drew.cell? ⟨g, 0, none⟩ = some (.slice (some ⟨gb, 0, none⟩) m.safe.length cb) ∧ (w4.alloc (.cells #[.int .i64 m.late[k].1, .string (ofL m.late[k].2)] 88)).drew.cell? ⟨w4.heap.size, 0, none⟩ = some (.int .i64 m.late[k].1) ∧ (w4.alloc (.cells #[.int .i64 m.late[k].1, .string (ofL m.late[k].2)] 88)).drew.cell? ⟨w4.heap.size, 1, none⟩ = some (.string (ofL m.late[k].2)) :=
        ⟨h5.cb, by rw [World.cell?_drew, World.cell?_alloc_at (hn := rfl)]; rfl, by rw [World.cell?_drew, World.cell?_alloc_at (hn := rfl)]; rfl⟩
      refine c19draw0 (fun w' => w'.cell? ⟨g, 0, none⟩ = some (.slice (some ⟨gb, 0, none⟩) m.safe.length cb) ∧ w'.cell? ⟨w4.heap.size, 0, none⟩ = some (.int .i64 m.late[k].1) ∧ w'.cell? ⟨w4.heap.size, 1, none⟩ = some (.string (ofL m.late[k].2))) hSS ?_
      simp only [go_sem, ↓reduceIte, reduceCtorEq, Nat.reduceBEq, Nat.reduceEqDiff, Nat.reduceAdd, Nat.reduceMul, Int.reduceNe, Int.reduceEq, Int.reduceLT, Int.reduceLE, Int.reduceNeg, Int.reduceAdd, Int.reduceSub, Int.reduceMul, Int.reduceToNat, beq_self_eq_true, c19, c19S0, c19S1, c19S2, c19S3, c19S4, c19L0, c19S5, c19S6, c19D0, loadK_int, loadK_bool, loadK_str, loadK_slice, loadK_ptr, loadK_map, loadK_agg, loadK_other, heldW]
      refine ⟨_, fun w' hw => ⟨_, hw.2.2, rfl⟩, ?_⟩
      simp only [go_sem, ↓reduceIte, reduceCtorEq, Nat.reduceBEq, Nat.reduceEqDiff, Nat.reduceAdd, Nat.reduceMul, Int.reduceNe, Int.reduceEq, Int.reduceLT, Int.reduceLE, Int.reduceNeg, Int.reduceAdd, Int.reduceSub, Int.reduceMul, Int.reduceToNat, beq_self_eq_true, c19, c19S0, c19S1, c19S2, c19S3, c19S4, c19L0, c19S5, c19S6, c19D0, loadK_int, loadK_bool, loadK_str, loadK_slice, loadK_ptr, loadK_map, loadK_agg, loadK_other, heldW]
      have hc256 : (max 0 (min cut 256)).toNat = cutAt cut := rfl
      rw [hc256]
      refine ⟨⟨by omega, by rw [hx.2.2]; omega⟩, _, fun w' hw => ⟨_, _, _, hw.1, rfl⟩, _, hSS.2.1, hSS, ?_⟩
      simp only [go_sem, ↓reduceIte, reduceCtorEq, Nat.reduceBEq, Nat.reduceEqDiff, Nat.reduceAdd, Nat.reduceMul, Int.reduceNe, Int.reduceEq, Int.reduceLT, Int.reduceLE, Int.reduceNeg, Int.reduceAdd, Int.reduceSub, Int.reduceMul, Int.reduceToNat, beq_self_eq_true, c19, c19S0, c19S1, c19S2, c19S3, c19S4, c19L0, c19S5, c19S6, c19D0, loadK_int, loadK_bool, loadK_str, loadK_slice, loadK_ptr, loadK_map, loadK_agg, loadK_other, heldW]
      rw [Nat.mul_one]
      refine ⟨⟨hx.1, hx.2.1⟩, was, hbc, hSS, ⟨by omega, by rw [hold256]; omega⟩, by rw [List.length_take, List.length_drop, hc256]; omega, ?_⟩
      rw [hc256]
      refine ⟨⟨_, hSS.2.2⟩, by rw [World.frozen?_drew, World.frozen?_alloc_at (hn := rfl)], ?_⟩
      generalize hnew : m.late[k].2.take (cutAt cut) ++ was.drop (cutAt cut) = new at hstep hd hdlen ⊢
      rw [show (#[Value.int .i64 m.late[k].1, .string (ofL m.late[k].2)] : Array Value).setIfInBounds 1 (.string (ofL new)) = #[.int .i64 m.late[k].1, .string (ofL new)] from rfl]
      have hc6 : Chg (fun _ => False) w4 (w4.alloc (.cells #[.int .i64 m.late[k].1, .string (ofL new)] 88)).drew := ((Chg.refl _ w4).alloc _).drew
      have h6 := h4.keep hc6 (fun _ _ h => h)
      have hSS6 : (w4.alloc (.cells #[.int .i64 m.late[k].1, .string (ofL new)] 88)).drew.drew.cell? ⟨g, 0, none⟩ = some (.slice (some ⟨gb, 0, none⟩) m.safe.length cb) ∧ (w4.alloc (.cells #[.int .i64 m.late[k].1, .string (ofL new)] 88)).drew.drew.cell? ⟨w4.heap.size, 0, none⟩ = some (.int .i64 m.late[k].1) ∧ (w4.alloc (.cells #[.int .i64 m.late[k].1, .string (ofL new)] 88)).drew.drew.cell? ⟨w4.heap.size, 1, none⟩ = some (.string (ofL new)) :=
        ⟨h6.cb, by rw [World.cell?_drew, World.cell?_drew, World.cell?_alloc_at (hn := rfl)]; rfl, by rw [World.cell?_drew, World.cell?_drew, World.cell?_alloc_at (hn := rfl)]; rfl⟩
      refine c19draw1 (fun w' => w'.cell? ⟨g, 0, none⟩ = some (.slice (some ⟨gb, 0, none⟩) m.safe.length cb) ∧ w'.cell? ⟨w4.heap.size, 0, none⟩ = some (.int .i64 m.late[k].1) ∧ w'.cell? ⟨w4.heap.size, 1, none⟩ = some (.string (ofL new))) hSS6 ?_
      simp only [go_sem, ↓reduceIte, reduceCtorEq, Nat.reduceBEq, Nat.reduceEqDiff, Nat.reduceAdd, Nat.reduceMul, Int.reduceNe, Int.reduceEq, Int.reduceLT, Int.reduceLE, Int.reduceNeg, Int.reduceAdd, Int.reduceSub, Int.reduceMul, Int.reduceToNat, beq_self_eq_true, c19, c19S0, c19S1, c19S2, c19S3, c19S4, c19L0, c19S5, c19S6, c19D1, loadK_int, loadK_bool, loadK_str, loadK_slice, loadK_ptr, loadK_map, loadK_agg, loadK_other, heldW]
      refine ⟨_, fun w' hw => ⟨_, _, _, hw.1, rfl⟩, _, fun w' hw => ⟨_, hw.2.1, rfl⟩, _, hSS6.2.2, hSS6, ?_⟩
      simp only [go_sem, ↓reduceIte, reduceCtorEq, Nat.reduceBEq, Nat.reduceEqDiff, Nat.reduceAdd, Nat.reduceMul, Int.reduceNe, Int.reduceEq, Int.reduceLT, Int.reduceLE, Int.reduceNeg, Int.reduceAdd, Int.reduceSub, Int.reduceMul, Int.reduceToNat, beq_self_eq_true, c19, c19S0, c19S1, c19S2, c19S3, c19S4, c19L0, c19S5, c19S6, c19D1, loadK_int, loadK_bool, loadK_str, loadK_slice, loadK_ptr, loadK_map, loadK_agg, loadK_other, heldW]
      rw [Nat.mul_one]
      have hst := h6.setSafe (by simp only; rw [hlen]) m.late[k].1.toNat (by simp only; rw [hlen]; exact hin) new hdlen
      have hrow6 := h6.rb
      simp only [hlen] at hrow6
      refine ⟨⟨hx.1, hx.2.1⟩, ⟨_, (hrow6.cellAt _ (by omega)).trans (List.getElem?_eq_getElem (by unfold strsV; rw [List.length_map, hlen]; exact hin))⟩, hrow6.frozenAt _, ⟨by omega, by omega⟩, k + 1, rfl, ⟨by omega, ?_, ?_⟩, by omega⟩
      · rw [hstep]; exact hst.keep ((Chg.refl (fun _ => False) _).drew) (fun _ _ h => h)
      · exact (((hc4.trans (hc6.mono fun _ _ h => h.elim)).setCell ⟨gb, m.late[k].1.toNat, none⟩ (.string (ofL new)) fun _ => rfl)).drew
    · have hd : tornL torn cut k m.late[k].2 ((crashL mask torn cut m.safe 0 (m.late.take k)).getD m.late[k].1.toNat []) = m.late[k].2 := by unfold tornL; rw [if_neg htorn]
      rw [hd] at hstep
      have hSS : (w4.alloc (.cells #[.int .i64 m.late[k].1, .string (ofL m.late[k].2)] 88)).drew.cell? ⟨g, 0, none⟩ = some (.slice (some ⟨gb, 0, none⟩) m.safe.length cb) ∧ (w4.alloc (.cells #[.int .i64 m.late[k].1, .string (ofL m.late[k].2)] 88)).drew.cell? ⟨w4.heap.size, 0, none⟩ = some (.int .i64 m.late[k].1) ∧ (w4.alloc (.cells #[.int .i64 m.late[k].1, .string (ofL m.late[k].2)] 88)).drew.cell? ⟨w4.heap.size, 1, none⟩ = some (.string (ofL m.late[k].2)) :=
        ⟨h5.cb, by rw [World.cell?_drew, World.cell?_alloc_at (hn := rfl)]; rfl, by rw [World.cell?_drew, World.cell?_alloc_at (hn := rfl)]; rfl⟩
      refine c19draw1 (fun w' => w'.cell? ⟨g, 0, none⟩ = some (.slice (some ⟨gb, 0, none⟩) m.safe.length cb) ∧ w'.cell? ⟨w4.heap.size, 0, none⟩ = some (.int .i64 m.late[k].1) ∧ w'.cell? ⟨w4.heap.size, 1, none⟩ = some (.string (ofL m.late[k].2))) hSS ?_
      simp only [go_sem, ↓reduceIte, reduceCtorEq, Nat.reduceBEq, Nat.reduceEqDiff, Nat.reduceAdd, Nat.reduceMul, Int.reduceNe, Int.reduceEq, Int.reduceLT, Int.reduceLE, Int.reduceNeg, Int.reduceAdd, Int.reduceSub, Int.reduceMul, Int.reduceToNat, beq_self_eq_true, c19, c19S0, c19S1, c19S2, c19S3, c19S4, c19L0, c19S5, c19S6, c19D1, loadK_int, loadK_bool, loadK_str, loadK_slice, loadK_ptr, loadK_map, loadK_agg, loadK_other, heldW]
      refine ⟨_, fun w' hw => ⟨_, _, _, hw.1, rfl⟩, _, fun w' hw => ⟨_, hw.2.1, rfl⟩, _, hSS.2.2, hSS, ?_⟩
      simp only [go_sem, ↓reduceIte, reduceCtorEq, Nat.reduceBEq, Nat.reduceEqDiff, Nat.reduceAdd, Nat.reduceMul, Int.reduceNe, Int.reduceEq, Int.reduceLT, Int.reduceLE, Int.reduceNeg, Int.reduceAdd, Int.reduceSub, Int.reduceMul, Int.reduceToNat, beq_self_eq_true, c19, c19S0, c19S1, c19S2, c19S3, c19S4, c19L0, c19S5, c19S6, c19D1, loadK_int, loadK_bool, loadK_str, loadK_slice, loadK_ptr, loadK_map, loadK_agg, loadK_other, heldW]
      rw [Nat.mul_one]
      have hst := h5.setSafe (by simp only; rw [hlen]) m.late[k].1.toNat (by simp only; rw [hlen]; exact hin) m.late[k].2 hx.2.2
      have hrow := h5.rb
      simp only [hlen] at hrow
      refine ⟨⟨hx.1, hx.2.1⟩, ⟨_, (hrow.cellAt _ (by omega)).trans (List.getElem?_eq_getElem (by unfold strsV; rw [List.length_map, hlen]; exact hin))⟩, hrow.frozenAt _, ⟨by omega, by omega⟩, k + 1, rfl, ⟨by omega, ?_, ?_⟩, by omega⟩
      · rw [hstep]; exact hst.keep ((Chg.refl (fun _ => False) _).drew) (fun _ _ h => h)
      · exact (((hc4.trans (hc5.mono fun _ _ h => h.elim)).setCell ⟨gb, m.late[k].1.toNat, none⟩ (.string (ofL m.late[k].2)) fun _ => rfl)).drew
  · simp only [go_sem, ↓reduceIte, reduceCtorEq, Nat.reduceBEq, Nat.reduceEqDiff, Nat.reduceAdd, Nat.reduceMul, Int.reduceNe, Int.reduceEq, Int.reduceLT, Int.reduceLE, Int.reduceNeg, Int.reduceAdd, Int.reduceSub, Int.reduceMul, Int.reduceToNat, beq_self_eq_true, c19, c19S0, c19S1, c19S2, c19S3, c19S4, c19L0, c19S5, c19S6, c19L0, loadK_int, loadK_bool, loadK_str, loadK_slice, loadK_ptr, loadK_map, loadK_agg, loadK_other, heldW]
    refine ⟨fun h => by omega, fun _ => ?_⟩
    have hk' : k = m.late.length := by omega
    subst hk'
    rw [List.take_length] at h4
    have gr := h4.grow (v' := .slice none 0 0) (late' := []) (Chg.refl _ _) (World.ownsRow_nil _ _ _ _) (fun k hk => by simp [Value.ownBlock] at hk) (fun x hx => by cases hx) (by simp)
    have g1 := gr.1.setLeft (-1) ⟨by omega, by omega⟩
    have g2 := g1.setGone false
    refine ⟨⟨_, h4.cl⟩, h4.fz 1 (by decide), ⟨_, gr.1.cleft⟩, gr.1.fz 2 (by decide), ⟨_, g1.cgone⟩, g1.fz 3 (by decide), .slice none 0 0, g2, ?_⟩
    refine Grew.trans ⟨hc4.mono fun i _ hi => .inr (.inl (by rw [hi]; rfl)), fun _ _ h => h⟩ (gr.2.trans ?_)
    exact Grew.of_chg (((Chg.refl (fun k => k = g) _).setCell ⟨g, 2, none⟩ _ fun _ => rfl).setCell ⟨g, 3, none⟩ _ fun _ => rfl)
end Go.Proofs.Ytlaflmkgfafhpaa
